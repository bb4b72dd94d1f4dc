/-
  Own work, printed by a program of the same hand. Each function of the code answers what its plain twin reckons.
-/
import Derived.Test.YtfadfecpoimkiaaGreatDoorWalk2
namespace Sx
open Go Go.Proofs Go.IntKind
set_option maxRecDepth 10000
set_option maxHeartbeats 1000000
attribute [local irreducible] wpList
theorem vy(V:Nat)(H a1 N r)(h:pS H a1 N=some r):Fn PP 271 [.one W56 H,ts a1,ptr V 0] [Res.var V 354 W54 N] (λ_=> .one W56 r.1) (λ_=>[Res.var V 354 W54 r.2]):=by
 unfold pS at h
 refine enter Tryz.func271 o 113 o o λF=>?_
 refine zu<|bD o o λu=>aD (t:=W56) o oG o λM=>za<|zs<|cB h λJ a3 h=>gF (S:=bJ [aX u 353 W56 H]) (by kernel_rfl) ?_
 refine Aw (γ:=Nat×Nat) (λ(f:Nat×Nat)=>[(2,ptr V 0),(3,ptr u 0),(6,ptr M 0),(7,ptr f.2 0),(8,ptr f.1 0)]) (λ(f:Nat×Nat)=>[Res.var f.1 353 W56 H,Res.var f.2 354 W54 J,Res.var M 353 W56 (List.replicate 8 (0:Int)),Res.var u 353 W56 H,Res.var V 354 W54 N]) (λf=>?_) (λm=>?_)
 ·refine zt<|bv h (λa6=>[(3,ptr u 0),(6,ptr M 0),(8,ptr f.1 0)]) (λa6=>[Res.var f.1 353 W56 a6,Res.var f.2 354 W54 J,Res.var M 353 W56 (List.replicate 8 (0:Int)),Res.var u 353 W56 H,Res.var V 354 W54 N]) (λb7 h=>?_) λa6 h=>?_
  ·refine zu<|q 1 [(2,ptr V 0),(3,ptr u 0),(6,ptr M 0),(7,ptr f.2 0),(8,ptr f.1 0),(18,ti 0)] [] o<|za<|zb<|aa [2,3,6,7,8,18] o<|aY (γ:=Unit) (λ(c:Int×List (Int)) _=>[(2,ptr V 0),(3,ptr u 0),(6,ptr M 0),(7,ptr f.2 0),(8,ptr f.1 0),(18,ti c.1)]) (λ(c:Int×List (Int)) _=>[Res.var f.1 353 W56 c.2,Res.var f.2 354 W54 J,Res.var M 353 W56 (List.replicate 8 (0:Int)),Res.var u 353 W56 H,Res.var V 354 W54 N]) (lf N J b7) (0,H) () h o o ?_
   clear h
   intro b0 c gg h
   cases b0 with
   |zero=>cases h
   |succ b0=>
   simp only[lf]at h
   refine zu<|q 1 [(18,ti c.1),(19,tb (decide (c.1<64)))] [2,3,6,7,8] o<|za<|zs<|rI h o (λhc h=>?_) λhc h=>?_
   ·refine zk<|zt<|zs<|zb<|zu<|q 2 [(9,ti c.1)] [2,3,6,7,8,18] o<|za<|zs<|eE (by kernel_rfl) (by kernel_rfl) ?_
    refine iE h λhc h=>q_y (bY o o hc.1 hc.2 iS cA) o ?_
    refine q_y (aM 0 (.elem 4 .here) o o (by first|rfl|(simp only[Pth.off,T.size];omega)) (ax (by first|omega|(simp only[List.length_set]at hc⊢;omega)) ab) cA) o ?_
    refine iE h λhc h=>q_y (bY o o hc.1 hc.2 iS cA) o ?_
    refine q_y (aM 0 (.elem 0 .here) o o (by first|rfl|(simp only[Pth.off,T.size];omega)) (ax (by first|omega|(simp only[List.length_set]at hc⊢;omega)) ab) cA) o ?_
    refine aA ai 1 [2,3,6,7,8,9,10,18,24] (E':=[(2,ptr V 0),(3,ptr u 0),(6,ptr M 0),(7,ptr f.2 0),(8,ptr f.1 0),(9,ti c.1),(10,.one (.int .u32) (List.getD c.2 4 0)),(18,ti c.1),(24,.one (.int .u32) (List.getD c.2 0 0))]) o ?_
    obtain⟨R,e,h⟩:=ak h;rw[e]
    refine aA ai 1 [2,3,6,7,8,9,10,11,18] (E':=[(2,ptr V 0),(3,ptr u 0),(6,ptr M 0),(7,ptr f.2 0),(8,ptr f.1 0),(9,ti c.1),(10,.one (.int .u32) R),(11,.one (.int .u32) (List.getD c.2 0 0)),(18,ti c.1)]) o ?_
    obtain⟨W,e,h⟩:=ak h;rw[e]
    refine eX ?_
    refine zt<|zs<|eE (by kernel_rfl) (by kernel_rfl) ?_
    refine iE h λhc h=>q_y (bY o o hc.1 hc.2 iS cA) o ?_
    refine q_y (aM 0 (.elem 7 .here) o o (by first|rfl|(simp only[Pth.off,T.size];omega)) (ax (by first|omega|(simp only[List.length_set]at hc⊢;omega)) ab) cA) o ?_
    refine aA ai 1 [2,3,6,7,8,9,10,11,18,26,27] (E':=[(2,ptr V 0),(3,ptr u 0),(6,ptr M 0),(7,ptr f.2 0),(8,ptr f.1 0),(9,ti c.1),(10,.one (.int .u32) R),(11,.one (.int .u32) W),(18,ti c.1),(26,.one (.int .u32) (List.getD c.2 7 0)),(27,.one (.int .u32) R)]) o ?_
    refine cB h λO b8 h=>jy (cm R (-6) _ b8) (by kernel_rfl) o o o ?_
    refine aA ai 1 [2,3,6,7,8,9,10,11,18,26,28,29] (E':=[(2,ptr V 0),(3,ptr u 0),(6,ptr M 0),(7,ptr f.2 0),(8,ptr f.1 0),(9,ti c.1),(10,.one (.int .u32) R),(11,.one (.int .u32) W),(18,ti c.1),(26,.one (.int .u32) (List.getD c.2 7 0)),(28,.one (.int .u32) O),(29,.one (.int .u32) R)]) o ?_
    refine cB h λa4 b9 h=>jy (cm R (-11) _ b9) (by kernel_rfl) o o o ?_
    refine aA ai 2 [2,3,6,7,8,9,10,11,18,26,31,32] (E':=[(2,ptr V 0),(3,ptr u 0),(6,ptr M 0),(7,ptr f.2 0),(8,ptr f.1 0),(9,ti c.1),(10,.one (.int .u32) R),(11,.one (.int .u32) W),(18,ti c.1),(26,.one (.int .u32) (List.getD c.2 7 0)),(31,.one (.int .u32) (dq .u32 O a4)),(32,.one (.int .u32) R)]) o ?_
    refine cB h λa7 c0 h=>jy (cm R (-25) _ c0) (by kernel_rfl) o o o ?_
    refine aA ai 3 [2,3,6,7,8,9,10,11,18,35,36] (E':=[(2,ptr V 0),(3,ptr u 0),(6,ptr M 0),(7,ptr f.2 0),(8,ptr f.1 0),(9,ti c.1),(10,.one (.int .u32) R),(11,.one (.int .u32) W),(18,ti c.1),(35,.one (.int .u32) (wrap .u32 ((List.getD c.2 7 0)+(dq .u32 (dq .u32 O a4) a7)))),(36,.one (.int .u32) R)]) o ?_
    refine iE h λhc h=>q_y (bY o o hc.1 hc.2 iS cA) o ?_
    refine q_y (aM 0 (.elem 5 .here) o o (by first|rfl|(simp only[Pth.off,T.size];omega)) (ax (by first|omega|(simp only[List.length_set]at hc⊢;omega)) ab) cA) o ?_
    refine aA ai 3 [2,3,6,7,8,9,10,11,18,35,39,41] (E':=[(2,ptr V 0),(3,ptr u 0),(6,ptr M 0),(7,ptr f.2 0),(8,ptr f.1 0),(9,ti c.1),(10,.one (.int .u32) R),(11,.one (.int .u32) W),(18,ti c.1),(35,.one (.int .u32) (wrap .u32 ((List.getD c.2 7 0)+(dq .u32 (dq .u32 O a4) a7)))),(39,.one (.int .u32) (fD .u32 R (List.getD c.2 5 0))),(41,.one (.int .u32) (tQ .u32 R))]) o ?_
    refine iE h λhc h=>q_y (bY o o hc.1 hc.2 iS cA) o ?_
    refine q_y (aM 0 (.elem 6 .here) o o (by first|rfl|(simp only[Pth.off,T.size];omega)) (ax (by first|omega|(simp only[List.length_set]at hc⊢;omega)) ab) cA) o ?_
    refine aA ai 2 [2,3,6,7,8,9,10,11,18,35,45] (E':=[(2,ptr V 0),(3,ptr u 0),(6,ptr M 0),(7,ptr f.2 0),(8,ptr f.1 0),(9,ti c.1),(10,.one (.int .u32) R),(11,.one (.int .u32) W),(18,ti c.1),(35,.one (.int .u32) (wrap .u32 ((List.getD c.2 7 0)+(dq .u32 (dq .u32 O a4) a7)))),(45,.one (.int .u32) (dq .u32 (fD .u32 R (List.getD c.2 5 0)) (fD .u32 (tQ .u32 R) (List.getD c.2 6 0))))]) o ?_
    obtain⟨c1,e,h⟩:=ak h;rw[e]
    refine aA ai 1 [2,3,6,7,8,9,10,11,18,46] (E':=[(2,ptr V 0),(3,ptr u 0),(6,ptr M 0),(7,ptr f.2 0),(8,ptr f.1 0),(9,ti c.1),(10,.one (.int .u32) R),(11,.one (.int .u32) W),(18,ti c.1),(46,.one (.int .u32) (wrap .u32 ((wrap .u32 ((List.getD c.2 7 0)+(dq .u32 (dq .u32 O a4) a7)))+c1)))]) o ?_
    obtain⟨a8,e,h⟩:=ak h;rw[e]
    refine aA ai 3 [2,3,6,7,8,9,10,11,18,46,48,49] (E':=[(2,ptr V 0),(3,ptr u 0),(6,ptr M 0),(7,ptr f.2 0),(8,ptr f.1 0),(9,ti c.1),(10,.one (.int .u32) R),(11,.one (.int .u32) W),(18,ti c.1),(46,.one (.int .u32) a8),(48,ti c.1),(49,ptr V 0)]) o ?_
    refine iE h λhc h=>q_y (bY o o hc.1 hc.2 oI cA) o ?_
    refine q_y (aM 4 (.elem (Int.toNat c.1) .here) o o (by first|rfl|(simp only[Pth.off,T.size];omega)) (ax (by first|omega|(simp only[List.length_set]at hc⊢;omega)) ab) cA) o ?_
    refine aA ai 2 [2,3,6,7,8,10,11,18,52,53] (E':=[(2,ptr V 0),(3,ptr u 0),(6,ptr M 0),(7,ptr f.2 0),(8,ptr f.1 0),(10,.one (.int .u32) R),(11,.one (.int .u32) W),(18,ti c.1),(52,.one (.int .u32) (wrap .u32 (a8+(List.getD N (Int.toNat c.1) 0)))),(53,ti c.1)]) o ?_
    refine iE h λhc h=>q_y (bY o o hc.1 hc.2 oI cA) o ?_
    refine q_y (aM 1 (.elem (Int.toNat c.1) .here) o o (by first|rfl|(simp only[Pth.off,T.size];omega)) (ax (by first|omega|(simp only[List.length_set]at hc⊢;omega)) ab) cA) o ?_
    refine aA ai 1 [2,3,6,7,8,10,11,18,56] (E':=[(2,ptr V 0),(3,ptr u 0),(6,ptr M 0),(7,ptr f.2 0),(8,ptr f.1 0),(10,.one (.int .u32) R),(11,.one (.int .u32) W),(18,ti c.1),(56,.one (.int .u32) (wrap .u32 ((wrap .u32 (a8+(List.getD N (Int.toNat c.1) 0)))+(List.getD J (Int.toNat c.1) 0))))]) o ?_
    obtain⟨G,e,h⟩:=ak h;rw[e]
    refine aA ai 1 [2,3,6,7,8,10,11,12,18] (E':=[(2,ptr V 0),(3,ptr u 0),(6,ptr M 0),(7,ptr f.2 0),(8,ptr f.1 0),(10,.one (.int .u32) R),(11,.one (.int .u32) W),(12,.one (.int .u32) G),(18,ti c.1)]) o ?_
    refine eX ?_
    refine zt<|zs<|eE (by kernel_rfl) (by kernel_rfl) ?_
    refine aA ai 1 [2,3,6,7,8,10,11,12,18,57] (E':=[(2,ptr V 0),(3,ptr u 0),(6,ptr M 0),(7,ptr f.2 0),(8,ptr f.1 0),(10,.one (.int .u32) R),(11,.one (.int .u32) W),(12,.one (.int .u32) G),(18,ti c.1),(57,.one (.int .u32) W)]) o ?_
    refine cB h λd c2 h=>jy (cm W (-2) _ c2) (by kernel_rfl) o o o ?_
    refine aA ai 1 [2,3,6,7,8,10,11,12,18,58,59] (E':=[(2,ptr V 0),(3,ptr u 0),(6,ptr M 0),(7,ptr f.2 0),(8,ptr f.1 0),(10,.one (.int .u32) R),(11,.one (.int .u32) W),(12,.one (.int .u32) G),(18,ti c.1),(58,.one (.int .u32) d),(59,.one (.int .u32) W)]) o ?_
    refine cB h λZ c3 h=>jy (cm W (-13) _ c3) (by kernel_rfl) o o o ?_
    refine aA ai 2 [2,3,6,7,8,10,11,12,18,61,62] (E':=[(2,ptr V 0),(3,ptr u 0),(6,ptr M 0),(7,ptr f.2 0),(8,ptr f.1 0),(10,.one (.int .u32) R),(11,.one (.int .u32) W),(12,.one (.int .u32) G),(18,ti c.1),(61,.one (.int .u32) (dq .u32 d Z)),(62,.one (.int .u32) W)]) o ?_
    refine cB h λa5 c4 h=>jy (cm W (-22) _ c4) (by kernel_rfl) o o o ?_
    refine aA ai 2 [2,3,6,7,8,10,11,12,18,64,65] (E':=[(2,ptr V 0),(3,ptr u 0),(6,ptr M 0),(7,ptr f.2 0),(8,ptr f.1 0),(10,.one (.int .u32) R),(11,.one (.int .u32) W),(12,.one (.int .u32) G),(18,ti c.1),(64,.one (.int .u32) (dq .u32 (dq .u32 d Z) a5)),(65,.one (.int .u32) W)]) o ?_
    refine iE h λhc h=>q_y (bY o o hc.1 hc.2 iS cA) o ?_
    refine q_y (aM 0 (.elem 1 .here) o o (by first|rfl|(simp only[Pth.off,T.size];omega)) (ax (by first|omega|(simp only[List.length_set]at hc⊢;omega)) ab) cA) o ?_
    refine aA ai 2 [2,3,6,7,8,10,11,12,18,64,68,69] (E':=[(2,ptr V 0),(3,ptr u 0),(6,ptr M 0),(7,ptr f.2 0),(8,ptr f.1 0),(10,.one (.int .u32) R),(11,.one (.int .u32) W),(12,.one (.int .u32) G),(18,ti c.1),(64,.one (.int .u32) (dq .u32 (dq .u32 d Z) a5)),(68,.one (.int .u32) (fD .u32 W (List.getD c.2 1 0))),(69,.one (.int .u32) W)]) o ?_
    refine iE h λhc h=>q_y (bY o o hc.1 hc.2 iS cA) o ?_
    refine q_y (aM 0 (.elem 2 .here) o o (by first|rfl|(simp only[Pth.off,T.size];omega)) (ax (by first|omega|(simp only[List.length_set]at hc⊢;omega)) ab) cA) o ?_
    refine aA ai 2 [2,3,6,7,8,10,11,12,18,64,73] (E':=[(2,ptr V 0),(3,ptr u 0),(6,ptr M 0),(7,ptr f.2 0),(8,ptr f.1 0),(10,.one (.int .u32) R),(11,.one (.int .u32) W),(12,.one (.int .u32) G),(18,ti c.1),(64,.one (.int .u32) (dq .u32 (dq .u32 d Z) a5)),(73,.one (.int .u32) (dq .u32 (fD .u32 W (List.getD c.2 1 0)) (fD .u32 W (List.getD c.2 2 0))))]) o ?_
    refine iE h λhc h=>q_y (bY o o hc.1 hc.2 iS cA) o ?_
    refine q_y (aM 0 (.elem 1 .here) o o (by first|rfl|(simp only[Pth.off,T.size];omega)) (ax (by first|omega|(simp only[List.length_set]at hc⊢;omega)) ab) cA) o ?_
    refine iE h λhc h=>q_y (bY o o hc.1 hc.2 iS cA) o ?_
    refine q_y (aM 0 (.elem 2 .here) o o (by first|rfl|(simp only[Pth.off,T.size];omega)) (ax (by first|omega|(simp only[List.length_set]at hc⊢;omega)) ab) cA) o ?_
    refine aA ai 2 [2,3,6,7,8,10,11,12,18,64,79] (E':=[(2,ptr V 0),(3,ptr u 0),(6,ptr M 0),(7,ptr f.2 0),(8,ptr f.1 0),(10,.one (.int .u32) R),(11,.one (.int .u32) W),(12,.one (.int .u32) G),(18,ti c.1),(64,.one (.int .u32) (dq .u32 (dq .u32 d Z) a5)),(79,.one (.int .u32) (dq .u32 (dq .u32 (fD .u32 W (List.getD c.2 1 0)) (fD .u32 W (List.getD c.2 2 0))) (fD .u32 (List.getD c.2 1 0) (List.getD c.2 2 0))))]) o ?_
    obtain⟨c5,e,h⟩:=ak h;rw[e]
    refine aA ai 2 [2,3,6,7,8,10,11,12,13,18] (E':=[(2,ptr V 0),(3,ptr u 0),(6,ptr M 0),(7,ptr f.2 0),(8,ptr f.1 0),(10,.one (.int .u32) R),(11,.one (.int .u32) W),(12,.one (.int .u32) G),(13,.one (.int .u32) (wrap .u32 ((dq .u32 (dq .u32 d Z) a5)+c5))),(18,ti c.1)]) o ?_
    obtain⟨c6,e,h⟩:=ak h;rw[e]
    refine eX ?_
    refine zt<|zr<|p 4 [2,3,6,7,8,10,12,18,83,84] o<|iE h λhc h=>y (bY o o hc.1 hc.2 iS cA) o ?_
    refine y (aM 0 (.elem 1 .here) o o (by first|rfl|(simp only[Pth.off,T.size];omega)) (ax (by first|omega|(simp only[List.length_set]at hc⊢;omega)) ab) cA) o ?_
    refine iE h λhc h=>y (bY o o hc.1 hc.2 iS cA) o ?_
    refine y (aM 0 (.elem 2 .here) o o (by first|rfl|(simp only[Pth.off,T.size];omega)) (ax (by first|omega|(simp only[List.length_set]at hc⊢;omega)) ab) cA) o ?_
    refine iE h λhc h=>y (bY o o hc.1 hc.2 iS cA) o ?_
    refine y (aM 0 (.elem 3 .here) o o (by first|rfl|(simp only[Pth.off,T.size];omega)) (ax (by first|omega|(simp only[List.length_set]at hc⊢;omega)) ab) cA) o ?_
    refine q 3 [(86,.one (.int .u32) (List.getD c.2 1 0)),(88,.one (.int .u32) (List.getD c.2 2 0)),(92,.one (.int .u32) (wrap .u32 ((List.getD c.2 3 0)+G))),(93,.one (.int .u32) R)] [2,3,6,7,8,18,83,84] o<|iE h λhc h=>y (bY o o hc.1 hc.2 iS cA) o ?_
    refine y (aM 0 (.elem 5 .here) o o (by first|rfl|(simp only[Pth.off,T.size];omega)) (ax (by first|omega|(simp only[List.length_set]at hc⊢;omega)) ab) cA) o ?_
    refine iE h λhc h=>y (bY o o hc.1 hc.2 iS cA) o ?_
    refine y (aM 0 (.elem 6 .here) o o (by first|rfl|(simp only[Pth.off,T.size];omega)) (ax (by first|omega|(simp only[List.length_set]at hc⊢;omega)) ab) cA) o ?_
    refine y (bc o oG o o (.cons (.elem 0 .here) o o (ax (by first|omega|(simp only[List.length_set]at hc⊢;omega)) ab) (.cons (.elem 1 .here) o o (ax (by first|omega|(simp only[List.length_set]at hc⊢;omega)) ab) (.cons (.elem 2 .here) o o (ax (by first|omega|(simp only[List.length_set]at hc⊢;omega)) ab) (.cons (.elem 3 .here) o o (ax (by first|omega|(simp only[List.length_set]at hc⊢;omega)) ab) (.cons (.elem 4 .here) o o (ax (by first|omega|(simp only[List.length_set]at hc⊢;omega)) ab) (.cons (.elem 5 .here) o o (ax (by first|omega|(simp only[List.length_set]at hc⊢;omega)) ab) (.cons (.elem 6 .here) o o (ax (by first|omega|(simp only[List.length_set]at hc⊢;omega)) ab) (.cons (.elem 7 .here) o o (ax (by first|omega|(simp only[List.length_set]at hc⊢;omega)) ab) .nil))))))))) o ?_
    exact st 0 .here kG o o o o tr<|zn<|zi<|zt<|zr<|q 2 [(18,ti (wrap .i64 (c.1+1)))] [2,3,6,7,8] o<|za<|aa [2,3,6,7,8,18] o<|aR ((wrap .i64 (c.1+1)),[(wrap .u32 (G+c6)),W,(List.getD c.2 1 0),(List.getD c.2 2 0),(wrap .u32 ((List.getD c.2 3 0)+G)),R,(List.getD c.2 5 0),(List.getD c.2 6 0)]) () (Nat.lt_succ_self _) h o o
   exact zx<|ze<|ze<|zq<|zt<|aa [3,6,8] o<|ah c.2 () h o o
  refine bv h (λa9=>[(6,ptr M 0),(8,ptr f.1 0)]) (λa9=>[Res.var f.1 353 W56 a9,Res.var f.2 354 W54 J,Res.var M 353 W56 (List.replicate 8 (0:Int)),Res.var u 353 W56 H,Res.var V 354 W54 N]) (λc7 h=>?_) λa9 h=>?_
  ·refine zu<|q 1 [(3,ptr u 0),(6,ptr M 0),(8,ptr f.1 0),(100,ti 0)] [] o<|za<|zb<|aa [3,6,8,100] o<|aY (γ:=Unit) (λ(C:Int×List (Int)) _=>[(3,ptr u 0),(6,ptr M 0),(8,ptr f.1 0),(100,ti C.1)]) (λ(C:Int×List (Int)) _=>[Res.var f.1 353 W56 C.2,Res.var f.2 354 W54 J,Res.var M 353 W56 (List.replicate 8 (0:Int)),Res.var u 353 W56 H,Res.var V 354 W54 N]) (ld H c7) (0,a6) () h o o ?_
   clear h
   intro b1 C gg h
   cases b1 with
   |zero=>cases h
   |succ b1=>
   simp only[ld]at h
   refine zu<|q 1 [(100,ti C.1),(101,tb (decide (C.1<8)))] [3,6,8] o<|za<|zs<|rI h o (λhc h=>?_) λhc h=>?_
   ·refine zk<|zt<|zs<|zb<|zu<|q 2 [(14,ti C.1)] [3,6,8,100] o<|za<|dF (by kernel_rfl)<|ae 0 (ti C.1) o (by kernel_rfl) o<|iE h λhc h=>fH 1 (ptr f.1 (0+(Int.toNat C.1)*1)) o (by kernel_rfl) (bY o o hc.1 hc.2 iS cA)<|ae 3 (ti C.1) o (by kernel_rfl) o<|iE h λhc h=>fH 4 (ptr u (0+(Int.toNat C.1)*1)) o (by kernel_rfl) (bY o o hc.1 hc.2 iS cA) ?_
    refine nY (fuel:=1) [2,5,6,7] #[true,true,true,true,true,true,true,true,false] (by kernel_rfl) ?_
    refine q_y (aM 0 (.elem (Int.toNat C.1) .here) o o (by first|rfl|(simp only[Pth.off,T.size];omega)) (ax (by first|omega|(simp only[List.length_set]at hc⊢;omega)) ab) cA) o ?_
    refine q_y (aM 3 (.elem (Int.toNat C.1) .here) o o (by first|rfl|(simp only[Pth.off,T.size];omega)) (ax (by first|omega|(simp only[List.length_set]at hc⊢;omega)) ab) cA) o ?_
    refine aA ai 1 [3,6,8,100,103,109] (E':=[(3,ptr u 0),(6,ptr M 0),(8,ptr f.1 0),(100,ti C.1),(103,ti C.1),(109,.one (.int .u32) (wrap .u32 ((List.getD C.2 (Int.toNat C.1) 0)+(List.getD H (Int.toNat C.1) 0))))]) o ?_
    obtain⟨c8,e,h⟩:=ak h;rw[e]
    refine iE h λhc h=>q_y (bY o o hc.1 hc.2 iS cA) o ?_
    refine eX ?_
    exact aa [3,6,8,100,109,110] o<|af 8 (by kernel_rfl) o<|kd 0 (.elem (Int.toNat C.1) .here) o o o (by first|rfl|(simp only[Pth.off,T.size];omega)) (ax (by first|omega|(simp only[List.length_set]at hc⊢;omega)) ab) cA<|za<|aa [3,6,8,100] o<|aN (by kernel_rfl)<|zi<|zt<|zr<|q 2 [(100,ti (wrap .i64 (C.1+1)))] [3,6,8] o<|za<|aa [3,6,8,100] o<|aR ((wrap .i64 (C.1+1)),(List.set C.2 (Int.toNat C.1) c8)) () (Nat.lt_succ_self _) h o o
   exact zx<|ze<|ze<|zq<|zt<|aa [6,8] o<|ah C.2 () h o o
  refine zu<|yl 0 .here kG o o o tr o<|st 2 .here kG o o o o tr<|zf ?_
  cases h
  exact aU o (.cell 2 .here o o o ab kG) (λ_ _ g=>g) (λ_ _ _=>(.cons _ (.cons _ (.cons _ (.cons _ (.cons_cons _ .slnil))))))
 refine au 0 (ts a1) (aj (ar 1 o) al) o (by kernel_rfl) o λs=>bz 2 (.one W56 H) s o (by kernel_rfl) (cD (S:=λw=>bJ [aX u 353 W56 H] w) (bA 0 o) 1 .here o o o o ab kG) λs=>?_
 refine CS (i:=1) (j:=3) (l:=4) (by kernel_rfl) o o o ?_ ?_ ?_
 ·refine av (iQ _ _ a3) (ca o) o o<|za<|bj (aj (ar 1 o) al) ?_
  refine aa [2,3,6,16,17] o ?_
  refine uM (i:=3) (j:=4) (by kernel_rfl) o o ?_ ?_
  ·refine aD (t:=W54) o nR o λc9=>za<|bj (aj (ar 2 o) al) ?_
   refine aa [2,3,6,7,16,17] o<|aI 4 (by kernel_rfl) o<|aD (t:=W56) o oG o λd0=>za<|bj (aj (ar 3 o) al) ?_
   refine aa [2,3,6,7,8,16,17] o<|aI 5 (by kernel_rfl) o<|st 1 .here l4 o o o o tr<|za<|bj (aj (ar 3 o) al) ?_
   refine aa [2,3,6,7,8,17] o<|aI 6 (by kernel_rfl) o<|st 0 .here kG o o o o tr<|nL o<|za<|bj (aj (ar 3 o) al) ?_
   exact aa [2,3,6,7,8] o<|eY (by kernel_rfl)<|aa [2,3,6,7,8] o<|m (d0,c9)
  refine aD (t:=W56) o oG o λd1=>za<|bj (aj (ar 2 o) al) ?_
  refine aa [2,3,6,8,16,17] o<|aI 3 (by kernel_rfl) o<|aD (t:=W54) o nR o λd2=>za<|bj (aj (ar 3 o) al) ?_
  refine aa [2,3,6,7,8,16,17] o<|aI 5 (by kernel_rfl) o<|st 0 .here l4 o o o o tr<|za<|bj (aj (ar 3 o) al) ?_
  refine aa [2,3,6,7,8,17] o<|aI 6 (by kernel_rfl) o<|st 1 .here kG o o o o tr<|nL o<|za<|bj (aj (ar 3 o) al) ?_
  exact aa [2,3,6,7,8] o<|eY (by kernel_rfl)<|aa [2,3,6,7,8] o<|pk [1,0,0,0,0] o<|m (d1,d2)
 ·refine aD (t:=W54) o nR o λb3=>za<|bj (aj (ar 2 o) al) ?_
  refine aa [2,3,6,7,15,17] o ?_
  refine uM (i:=1) (j:=4) (by kernel_rfl) o o ?_ ?_
  ·refine av (iQ _ _ a3) (ca o) o o<|za<|bj (aj (ar 2 o) al) ?_
   refine aa [2,3,6,7,16,17] o<|aI 4 (by kernel_rfl) o<|aD (t:=W56) o oG o λd3=>za<|bj (aj (ar 3 o) al) ?_
   refine aa [2,3,6,7,8,16,17] o<|aI 5 (by kernel_rfl) o<|st 1 .here l4 o o o o tr<|za<|bj (aj (ar 3 o) al) ?_
   refine aa [2,3,6,7,8,17] o<|aI 6 (by kernel_rfl) o<|st 0 .here kG o o o o tr<|nL o<|za<|bj (aj (ar 3 o) al) ?_
   exact aa [2,3,6,7,8] o<|eY (by kernel_rfl)<|aa [2,3,6,7,8] o<|m (d3,b3)
  refine aD (t:=W56) o oG o λd4=>za<|bj (aj (ar 3 o) al) ?_
  refine aa [2,3,6,7,8,15,17] o<|aI 1 (by kernel_rfl) o<|av (iQ _ _ a3) (ca o) o o<|za<|bj (aj (ar 3 o) al) ?_
  refine aa [2,3,6,7,8,16,17] o<|aI 5 (by kernel_rfl) o<|st 1 .here l4 o o o o tr<|za<|bj (aj (ar 3 o) al) ?_
  refine aa [2,3,6,7,8,17] o<|aI 6 (by kernel_rfl) o<|st 0 .here kG o o o o tr<|nL o<|za<|bj (aj (ar 3 o) al) ?_
  exact aa [2,3,6,7,8] o<|eY (by kernel_rfl)<|aa [2,3,6,7,8] o<|m (d4,b3)
 refine aD (t:=W56) o oG o λb6=>za<|bj (aj (ar 2 o) al) ?_
 refine aa [2,3,6,8,15,17] o ?_
 refine uM (i:=1) (j:=3) (by kernel_rfl) o o ?_ ?_
 ·refine av (iQ _ _ a3) (ca o) o o<|za<|bj (aj (ar 2 o) al) ?_
  refine aa [2,3,6,8,16,17] o<|aI 3 (by kernel_rfl) o<|aD (t:=W54) o nR o λd5=>za<|bj (aj (ar 3 o) al) ?_
  refine aa [2,3,6,7,8,16,17] o<|aI 5 (by kernel_rfl) o<|st 0 .here l4 o o o o tr<|za<|bj (aj (ar 3 o) al) ?_
  refine aa [2,3,6,7,8,17] o<|aI 6 (by kernel_rfl) o<|st 1 .here kG o o o o tr<|nL o<|za<|bj (aj (ar 3 o) al) ?_
  exact aa [2,3,6,7,8] o<|eY (by kernel_rfl)<|aa [2,3,6,7,8] o<|pk [1,0,0,0,0] o<|m (b6,d5)
 refine aD (t:=W54) o nR o λd6=>za<|bj (aj (ar 3 o) al) ?_
 refine aa [2,3,6,7,8,15,17] o<|aI 1 (by kernel_rfl) o<|av (iQ _ _ a3) (ca o) o o<|za<|bj (aj (ar 3 o) al) ?_
 refine aa [2,3,6,7,8,16,17] o<|aI 5 (by kernel_rfl) o<|st 0 .here l4 o o o o tr<|za<|bj (aj (ar 3 o) al) ?_
 refine aa [2,3,6,7,8,17] o<|aI 6 (by kernel_rfl) o<|st 1 .here kG o o o o tr<|nL o<|za<|bj (aj (ar 3 o) al) ?_
 exact aa [2,3,6,7,8] o<|eY (by kernel_rfl)<|aa [2,3,6,7,8] o<|pk [1,0,0,0,0] o<|m (b6,d6)
theorem tO(O r)(h:ro O=some r):bn PP 267 [.one W67 O] (.one W55 r):=by
 unfold ro at h
 refine enter Tryz.func267 o 71 o o λF=>?_
 refine zu<|aD (t:=W55) o ns o λc=>zz<|q 1 [(2,ptr c 0),(11,.one W67 O)] [] o<|cB h λW a5 h=>av (uZ _ _ _ a5) (ca o) o o<|p 1 [2,3] o<|zz<|q 3 [(4,ti (List.length W:Int))] [2,3] o ?_
 obtain⟨n4,e,h⟩:=ak h;rw[e]
 refine zz<|bE (B:=1) ai o el5 o o o (.cons o .nil) o λv5=>?_
 refine p 1 [2,3,4,5] o<|za<|jK h (γ:=Value) (λm g8=>[(2,ptr c 0),(3,ts W),(4,ti n4),(5,.one W51 g8)]) (λm g8=>[Res.own g8 5 (.int .u8) m,Res.var c 26 W55 z32]) (λk6 h=>?_) λm g8 h=>?_
 ·refine zb<|aa [2,3,4,5] o<|aY (γ:=Value) (λ(G:List (Int)) J=>[(2,ptr c 0),(3,ts W),(4,ti n4),(5,.one W51 J)]) (λ(G:List (Int)) J=>[Res.own J 5 (.int .u8) G,Res.var c 26 W55 z32]) (nO n4 k6) [128] v5 h o o ?_
  clear h
  intro Z G J h
  cases Z with
  |zero=>cases h
  |succ Z=>
  simp only[nO]at h
  refine zs<|zu<|p 2 [2,3,4,5,16,17] o<|y (cn ai 0 o o o) o ?_
  refine q 3 [(21,tb ((Int.tmod (wrap .i64 (n4+(List.length G:Int))) 64) !=56))] [2,3,4,5] o<|za<|rI h o (λhc h=>?_) λhc h=>?_
  ·refine zk<|zt<|zb<|zr<|p 1 [2,3,4,22] o<|bE (B:=1) ai o el5 o o o (.cons o .nil) o λb8=>?_
   refine iE h λhc h=>bq (B:=1) ai 1 o o (bZ 0 o o) o el5 o o hc o λa6=>?_
   exact pk [1,1] o<|p 1 [2,3,4,5] o<|zn<|zi<|zt<|aa [2,3,4,5] o<|aR (G++[0]) a6 (Nat.lt_succ_self _) h o o
  exact zx<|ze<|ze<|zq<|zt<|aa [2,3,4,5] o<|ah G J h o o
 refine jK h (γ:=Value) (λC g11=>[(2,ptr c 0),(3,ts W),(5,.one W51 g11)]) (λC g11=>[Res.own g11 5 (.int .u8) C,Res.var c 26 W55 z32]) (λk9 h=>?_) λC g11 h=>?_
 ·refine zu<|q 1 [(2,ptr c 0),(3,ts W),(4,ti n4),(5,.one W51 g8),(25,ti 0)] [] o<|za<|zb<|aa [2,3,4,5,25] o<|aY (γ:=Value) (λ(M:Int×List (Int)) H=>[(2,ptr c 0),(3,ts W),(4,ti n4),(5,.one W51 H),(25,ti M.1)]) (λ(M:Int×List (Int)) H=>[Res.own H 5 (.int .u8) M.2,Res.var c 26 W55 z32]) (nN n4 k9) (0,m) g8 h o o ?_
  clear h
  intro a1 M H h
  cases a1 with
  |zero=>cases h
  |succ a1=>
  simp only[nN]at h
  refine zu<|q 1 [(5,.one W51 H),(25,ti M.1),(26,tb (decide (M.1<8)))] [2,3,4] o<|za<|zs<|rI h o (λhc h=>?_) λhc h=>?_
  ·refine zk<|zt<|zs<|zb<|zu<|q 2 [(6,ti M.1)] [2,3,4,5,25] o<|za<|zr<|q 7 [(28,.one W51 H),(31,.one (.int .u64) (wrap .u64 (wrap .i64 (8*n4)))),(34,ti (wrap .i64 (56 - (wrap .i64 (8*M.1)))))] [2,3,4,25] o<|iE h λhc h=>y (ny o o hc) o ?_
   refine q 1 [(36,.one (.int .u8) (wrap .u8 (bQ .u64 (wrap .u64 (wrap .i64 (8*n4))) (wrap .i64 (56 - (wrap .i64 (8*M.1)))))))] [2,3,4,25,28] o ?_
   obtain⟨a7,e,h⟩:=ak h;rw[e]
   refine bE (B:=1) ai o el5 o o o (.cons o .nil) o λb9=>?_
   refine iE h λhc h=>bq (B:=1) ai 1 o o (bZ 0 o o) o el5 o o hc o λa8=>?_
   exact pk [1,1] o<|p 1 [2,3,4,5,25] o<|zn<|zi<|zt<|zr<|q 2 [(25,ti (wrap .i64 (M.1+1)))] [2,3,4,5] o<|za<|aa [2,3,4,5,25] o<|aR ((wrap .i64 (M.1+1)),(M.2++[a7])) a8 (Nat.lt_succ_self _) h o o
  exact zx<|ze<|ze<|zq<|zt<|aa [2,3,5] o<|ah M.2 H h o o
 refine zu<|q 2 [(2,ptr c 0),(40,ts W),(41,.one W51 g11)] [] o<|y (uv ai 0 o o o o o) o ?_
 refine iE h λhc h=>y (iX o o hc) o ?_
 refine p 1 [2,3] o ?_
 obtain⟨a9,e,h⟩:=ak h;rw[e]
 refine zz<|y (bc o oG o o (.cons (.elem 0 .here) o o (ax (by first|omega|(simp only[List.length_set]at hc⊢;omega)) ab) (.cons (.elem 1 .here) o o (ax (by first|omega|(simp only[List.length_set]at hc⊢;omega)) ab) (.cons (.elem 2 .here) o o (ax (by first|omega|(simp only[List.length_set]at hc⊢;omega)) ab) (.cons (.elem 3 .here) o o (ax (by first|omega|(simp only[List.length_set]at hc⊢;omega)) ab) (.cons (.elem 4 .here) o o (ax (by first|omega|(simp only[List.length_set]at hc⊢;omega)) ab) (.cons (.elem 5 .here) o o (ax (by first|omega|(simp only[List.length_set]at hc⊢;omega)) ab) (.cons (.elem 6 .here) o o (ax (by first|omega|(simp only[List.length_set]at hc⊢;omega)) ab) (.cons (.elem 7 .here) o o (ax (by first|omega|(simp only[List.length_set]at hc⊢;omega)) ab) .nil))))))))) o ?_
 refine aD (t:=W56) o oG o λR=>st 0 .here kG o o o o tr<|zz<|cB h λb0 b1 h=>av (tE _ b1) (ca o) o o<|aD (t:=W54) o nR o λN=>st 0 .here l4 o o o o tr<|nL o<|za<|bv h (λV=>[(2,ptr c 0),(7,ptr R 0)]) (λV=>[Res.var N 354 W54 V.1,Res.var R 353 W56 V.2,Res.own g11 5 (.int .u8) C,Res.var c 26 W55 z32]) (λb3 h=>?_) λV h=>?_
 ·refine zb<|aa [2,3,7,8] o<|aY (γ:=Unit) (λ(u:List Int×List (Int)×List (Int)) _=>[(2,ptr c 0),(3,ts u.1),(7,ptr R 0),(8,ptr N 0)]) (λ(u:List Int×List (Int)×List (Int)) _=>[Res.var N 354 W54 u.2.1,Res.var R 353 W56 u.2.2,Res.own g11 5 (.int .u8) C,Res.var c 26 W55 z32]) (nM b3) (a9,b0,[1779033703,3144134277,1013904242,2773480762,1359893119,2600822924,528734635,1541459225]) () h o o ?_
  clear h
  intro a2 u gg h
  cases a2 with
  |zero=>cases h
  |succ a2=>
  simp only[nM]at h
  refine zs<|zu<|q 2 [(3,ts u.1),(7,ptr R 0),(8,ptr N 0),(47,tb (u.1 !=[]))] [2] o<|za<|rI h o (λhc h=>?_) λhc h=>?_
  ·refine zk<|zt<|zs<|zb<|dF (by kernel_rfl)<|ae 1 (ts u.1) o (by kernel_rfl) o<|iE h λhc h=>fH 2 (ts (List.drop 0 (List.take 64 u.1))) o (by kernel_rfl) (iR (i:=(0:Int)) (j:=64) ai o o o hc.1 hc.2.1 hc.2.2 o)<|af 0 (by kernel_rfl) o<|yl 1 .here kG o o o tr o<|za<|aa [2,3,7,8,50,52] o<|af 3 (by kernel_rfl) o<|cB h λa3 b4 h=>?_
   refine rc [0] (vy _ _ _ _ _ b4) (ca o) o o o λ_=>za<|aa [2,3,7,8,53] o<|af 4 (by kernel_rfl) o<|st 1 .here kG o o o o tr<|za<|aa [2,3,7,8] o<|aN (by kernel_rfl)<|zi<|zt<|zr<|q 1 [(48,ts u.1)] [2,7,8] o<|iE h λhc h=>y (iR (i:=64) (j:=(List.length u.1:Int)) ai o o o hc.1 hc.2.1 hc.2.2 o) o ?_
   refine q 1 [(3,ts (List.drop 64 (List.take (Int.toNat (List.length u.1:Int)) u.1)))] [2,7,8] o ?_
   obtain⟨b5,e,h⟩:=ak h;rw[e]
   exact za<|aa [2,3,7,8] o<|aR (b5,a3.2,a3.1) () (Nat.lt_succ_self _) h o o
  exact zx<|ze<|ze<|zq<|zt<|aa [2,7] o<|ah (u.2.1,u.2.2) () h o o
 refine zu<|aD (t:=W55) o ns o λd=>za<|bv h (λw=>[(2,ptr c 0),(9,ptr d 0)]) (λw=>[Res.var d 26 W55 w,Res.var N 354 W54 V.1,Res.var R 353 W56 V.2,Res.own g11 5 (.int .u8) C,Res.var c 26 W55 z32]) (λb6 h=>?_) λw h=>?_
 ·refine zu<|q 1 [(2,ptr c 0),(7,ptr R 0),(9,ptr d 0),(54,ti 0)] [] o<|za<|zb<|aa [2,7,9,54] o<|aY (γ:=Unit) (λ(f:Int×List (Int)) _=>[(2,ptr c 0),(7,ptr R 0),(9,ptr d 0),(54,ti f.1)]) (λ(f:Int×List (Int)) _=>[Res.var d 26 W55 f.2,Res.var N 354 W54 V.1,Res.var R 353 W56 V.2,Res.own g11 5 (.int .u8) C,Res.var c 26 W55 z32]) (nK V b6) (0,z32) () h o o ?_
  clear h
  intro a4 f gg h
  cases a4 with
  |zero=>cases h
  |succ a4=>
  simp only[nK]at h
  refine zu<|q 1 [(54,ti f.1),(55,tb (decide (f.1<32)))] [2,7,9] o<|za<|zs<|rI h o (λhc h=>?_) λhc h=>?_
  ·refine zk<|zt<|zs<|zb<|zu<|q 2 [(10,ti f.1)] [2,7,9,54] o<|za<|zr<|q 3 [(57,ti f.1),(59,ti (wrap .i64 (Int.tdiv f.1 4)))] [2,7,9,10,54] o<|iE h λhc h=>y (bY o o hc.1 hc.2 iS cA) o ?_
   refine y (aM 2 (.elem (Int.toNat (wrap .i64 (Int.tdiv f.1 4))) .here) o o (by first|rfl|(simp only[Pth.off,T.size];omega)) (ax (by first|omega|(simp only[List.length_set]at hc⊢;omega)) ab) cA) o ?_
   refine q 4 [(61,.one (.int .u32) (List.getD V.2 (Int.toNat (wrap .i64 (Int.tdiv f.1 4))) 0)),(65,ti (wrap .i64 (24 - (wrap .i64 (8*(Int.tmod f.1 4))))))] [2,7,9,54,57] o<|iE h λhc h=>y (ny o o hc) o ?_
   refine q 1 [(67,.one (.int .u8) (wrap .u8 (bQ .u32 (List.getD V.2 (Int.toNat (wrap .i64 (Int.tdiv f.1 4))) 0) (wrap .i64 (24 - (wrap .i64 (8*(Int.tmod f.1 4))))))))] [2,7,9,54,57] o ?_
   obtain⟨b7,e,h⟩:=ak h;rw[e]
   refine iE h λhc h=>y (bY o o hc.1 hc.2 uh ty5) o ?_
   exact kd 0 (.elem (Int.toNat f.1) .here) o o o (by first|rfl|(simp only[Pth.off,T.size];omega)) (ax (by first|omega|(simp only[List.length_set]at hc⊢;omega)) ab) ty5<|zn<|zi<|zt<|zr<|q 2 [(54,ti (wrap .i64 (f.1+1)))] [2,7,9] o<|za<|aa [2,7,9,54] o<|aR ((wrap .i64 (f.1+1)),(List.set f.2 (Int.toNat f.1) b7)) () (Nat.lt_succ_self _) h o o
  exact zx<|ze<|ze<|zq<|zt<|aa [2,9] o<|ah f.2 () h o o
 refine zu<|yl 0 .here bK o o o tr o<|st 4 .here bK o o o o tr<|zf ?_
 cases h
 exact aU o (.cell 4 .here o o o ab bK) (λ_ _ g=>g) (λ_ _ _=>List.nil_sublist _)
theorem qG(M W f r)(h:nP M W f=some r):bn PP 262 [.one W65 M,.one W65 W,.one Y52 f] (ti r):=by
 unfold nP at h
 refine enter Tryz.func262 o 59 o o λF=>?_
 refine zu<|bD o o λu=>q 1 [(0,.one W65 M),(1,.one W65 W),(5,ptr u 0)] [] o<|za<|zs<|zu<|q 3 [(13,tb (decide ((List.length M:Int)≥2048)))] [0,1,5] o<|za<|rI h o (λhc h=>zu<|q 1 [(6,ti 6)] [] o<|zf<|zT<|by cases h;exact aB o (.tmp o)) λhc h=>zk<|zt<|zs<|zu<|yl 0 .here bI o o o tr o ?_
 refine cB h λZ H h=>av (hJ _ _ H) (ca o) o o<|p 1 [0,1,5,16] o<|za<|rI h o (λhc h=>zu<|q 1 [(6,ti 120)] [] o<|zf<|zT<|by cases h;exact aB o (.tmp o)) λhc h=>zk<|zt<|zs<|zu<|p 1 [0,1,5,17] o<|yl 0 f0 ty3 o o o tr o<|q 1 [(19,tb (f.1==1))] [0,1,5] o<|za<|rI h o (λhc h=>?_) λhc h=>?_
 ·refine zs<|zs<|eE (by kernel_rfl) (by kernel_rfl) ?_
  refine aA ai 1 [0,20] (E':=[(0,.one W65 M),(20,ptr u 1)]) o ?_
  refine q_y (aM 0 f1 o o o (ag (ay ab)) ty2) o ?_
  refine aA ai 1 [21,22] (E':=[(21,ti f.2.1),(22,.one W65 M)]) o ?_
  refine cB h λG N h=>jy (vw M _ N) (by kernel_rfl) o o o ?_
  refine aA ai 1 [24] (E':=[(24,tb (f.2.1 !=G))]) o ?_
  refine eX ?_
  refine zt<|rI h o (λhc h=>zu<|q 1 [(6,ti 120)] [] o<|zf<|zT<|zT<|by cases h;exact aB o (.tmp o)) λhc h=>zy<|q 1 [(6,ti 0)] [] o<|zf<|zT ?_
  cases h
  exact aB o (.tmp o)
 refine zy<|p 2 [0,5,26,27] o<|yl 0 f1 ty2 o o o tr o<|cB h λc J h=>av (vx _ _ _ J) (ca o) o o<|q 3 [(30,.one Y52 c.1),(31,tb c.2)] [0,5] o<|aD (t:=Y52) o jJ o λR=>st 0 .here bI o o o o tr<|q 1 [(7,ptr R 0),(8,tb c.2)] [0,5] o<|zz<|p 2 [5,7,8,33,34] o<|yl 1 f1 ty2 o o o tr o<|cB h λV m h=>av (tD _ _ _ m) (ca o) o o ?_
 refine q 3 [(37,.one Y52 V.1),(38,tb V.2)] [5,7,8] o<|aD (t:=Y52) o jJ o λa3=>st 0 .here bI o o o o tr<|nL o<|q 1 [(10,tb V.2)] [5,7,8] o<|za<|zs<|zs<|gF (S:=bJ [aX u 52 Y52 f,aX R 52 Y52 c.1]) (by kernel_rfl) ?_
 refine au 0 (tb c.2) (aj (ar 2 o) (aj (ar 1 o) al)) o (by kernel_rfl) o λs=>au 1 (tb (!c.2)) s o (by kernel_rfl) o λs=>au 2 (tb (!c.2)) s o (by kernel_rfl) o λs=>?_
 refine qp (d:=41) (b:=(!c.2)) o (λhb=>?_) (λhb=>?_)
 ·rw[if_pos hb]at h
  refine bl 3 41 (aj (ar 2 o) (aj (ar 1 o) al)) o (by kernel_rfl) (.inl o) λs=>aI 4 (by kernel_rfl) o<|p 1 [5,7,43] o<|za<|bj (aj (ar 2 o) (aj (ar 1 o) al)) ?_
  refine aa [5,7,43] o<|au 5 (tb true) (aj (ar 2 o) (aj (ar 1 o) al)) o (by kernel_rfl) o λs=>bl 6 44 s o (by kernel_rfl) (.inl o) λs=>bl 7 44 s o (by kernel_rfl) (.inl o) λs=>bl 8 44 s o (by kernel_rfl) (.inl o) λs=>bl 9 44 s o (by kernel_rfl) (.inl o) λs=>bl 10 48 s o (by kernel_rfl) (.inr o) λs=>bl 11 48 s o (by kernel_rfl) (.inr o) λs=>bl 12 48 s o (by kernel_rfl) (.inr o) λs=>bl 13 48 s o (by kernel_rfl) (.inr o) λs=>bl 14 48 s o (by kernel_rfl) (.inr o) λs=>bl 15 48 s o (by kernel_rfl) (.inr o) λs=>bl 16 48 s o (by kernel_rfl) (.inr o) λs=>bl 17 48 s o (by kernel_rfl) (.inr o) λs=>?_
  refine bl 18 44 s o (by kernel_rfl) (.inl o) λs=>aI 19 (by kernel_rfl) o<|q 1 [(58,tb true)] [] o<|za<|bj (aj (ar 2 o) (aj (ar 1 o) al)) ?_
  refine aa [58] o<|eY (by kernel_rfl)<|zt ?_
  refine gO (b:=true) o (λhc=>?_) (λhc=>?_)
  ·refine zu<|q 1 [(6,ti 120)] [] o<|zf<|zT ?_
   cases h
   exact aB o (.tmp o)
  cases hc
 rw[if_neg (ne_true_of_eq_false hb)]at h
 refine eM 3 41 (tb V.2) (aj (ar 2 o) (aj (ar 1 o) al)) o (by kernel_rfl) o (jx ai o) λs=>aI 4 (by kernel_rfl) o<|q 1 [(43,tb V.2)] [5,7] o<|za<|bj (aj (ar 2 o) (aj (ar 1 o) al)) ?_
 refine aa [5,7,43] o<|au 5 (tb V.2) (aj (ar 2 o) (aj (ar 1 o) al)) o (by kernel_rfl) o λs=>?_
 refine qp (d:=44) (b:=V.2) o (λhb=>?_) (λhb=>?_)
 ·rw[if_pos hb]at h
  refine bl 6 44 (aj (ar 2 o) (aj (ar 1 o) al)) o (by kernel_rfl) (.inl o) λs=>bl 7 44 s o (by kernel_rfl) (.inl o) λs=>bl 8 44 s o (by kernel_rfl) (.inl o) λs=>bl 9 44 s o (by kernel_rfl) (.inl o) λs=>bl 10 48 s o (by kernel_rfl) (.inr o) λs=>bl 11 48 s o (by kernel_rfl) (.inr o) λs=>bl 12 48 s o (by kernel_rfl) (.inr o) λs=>bl 13 48 s o (by kernel_rfl) (.inr o) λs=>bl 14 48 s o (by kernel_rfl) (.inr o) λs=>bl 15 48 s o (by kernel_rfl) (.inr o) λs=>bl 16 48 s o (by kernel_rfl) (.inr o) λs=>bl 17 48 s o (by kernel_rfl) (.inr o) λs=>bl 18 44 s o (by kernel_rfl) (.inl o) λs=>aI 19 (by kernel_rfl) o ?_
  refine q 1 [(58,tb true)] [] o<|za<|bj (aj (ar 2 o) (aj (ar 1 o) al)) ?_
  refine aa [58] o<|eY (by kernel_rfl)<|zt ?_
  refine gO (b:=true) o (λhc=>?_) (λhc=>?_)
  ·refine zu<|q 1 [(6,ti 120)] [] o<|zf<|zT ?_
   cases h
   exact aB o (.tmp o)
  cases hc
 rw[if_neg (ne_true_of_eq_false hb)]at h
 refine eM 6 44 (ptr u 0) (aj (ar 2 o) (aj (ar 1 o) al)) o (by kernel_rfl) o (jx ai o) λs=>eM 7 44 (ti f.1) s o (by kernel_rfl) o (cD (S:=λw=>bJ [aX u 52 Y52 f,aX R 52 Y52 c.1] w) (bA 0 o) 2 f0 o o o o (ay ab) ty3) λs=>eM 8 44 (tb (f.1==2)) s o (by kernel_rfl) o (jx ai o) λs=>eM 9 44 (tb (f.1==2)) s o (by kernel_rfl) o (jx ai o) λs=>?_
 refine qp (d:=48) (b:=(f.1==2)) o (λhb=>?_) (λhb=>?_)
 ·rw[if_pos hb]at h
  refine eM 10 48 (ptr u 3) (aj (ar 2 o) (aj (ar 1 o) al)) o (by kernel_rfl) o (jx ai o) λs=>eM 11 48 (.one W51 (.slice (some ⟨u,3,none⟩) 32 32)) s o (by kernel_rfl) o (ta o uh o ty5) λs=>eM 12 48 (ts f.2.2.2.1) s o (by kernel_rfl) o (zj (S:=λw=>bJ [aX u 52 Y52 f,aX R 52 Y52 c.1] w) (bA 0 o) ai 2 f3 o o o (ag (ag (ag (ay ab)))) o o o o) λs=>eM 15 48 (ptr R 3) s o (by kernel_rfl) o (jx ai o) λs=>eM 16 48 (.one W55 c.1.2.2.2.1) s o (by kernel_rfl) o (cD (S:=λw=>bJ [aX u 52 Y52 f,aX R 52 Y52 c.1] w) (bA 1 o) 1 f3 o o o o (ag (ag (ag (ay ab)))) bK) λs=>aI 13 (by kernel_rfl) o<|ap (by rfl) o ?_
  refine bE (B:=16) ai o el9 o o o (.cons o .nil) o λa4=>?_
  refine za<|bj (aj (ar 3 o) (aj (ar 2 o) al)) ?_
  refine aa [44,48,52,55] o<|aI 14 (by kernel_rfl) o<|ap (by rfl) o ?_
  refine kK (i:=0) (k:=52) o o ?_
  refine cB h λC O h=>av (tO _ _ O) (ca o) o o<|za<|bj (aj (ar 2 o) (aj (ar 1 o) al)) ?_
  refine aa [44,48,53,55] o<|eM 17 48 (tb (!eqD W55 C c.1.2.2.2.1)) (aj (ar 2 o) (aj (ar 1 o) al)) o (by kernel_rfl) o (nA 20 o o o o bK o ui uj) λs=>aI 18 (by kernel_rfl) o<|ap (by rfl) o ?_
  refine q 1 [(44,tb false),(57,tb (!eqD W55 C c.1.2.2.2.1))] [] o<|za<|bj (aj (ar 2 o) (aj (ar 1 o) al)) ?_
  refine aa [44,57] o<|aI 19 (by kernel_rfl) o<|q 1 [(58,tb (!eqD W55 C c.1.2.2.2.1))] [] o<|za<|bj (aj (ar 2 o) (aj (ar 1 o) al)) ?_
  refine aa [58] o<|eY (by kernel_rfl)<|zt<|rI h o (λhc h=>zu<|q 1 [(6,ti 120)] [] o<|zf<|zT<|by cases h;exact aB o (.tmp o)) λhc h=>zy<|q 1 [(6,ti 0)] [] o<|zf ?_
  cases h
  exact aB o (.tmp o)
 rw[if_neg (ne_true_of_eq_false hb)]at h
 refine bl 10 48 (aj (ar 2 o) (aj (ar 1 o) al)) o (by kernel_rfl) (.inl o) λs=>bl 11 48 s o (by kernel_rfl) (.inl o) λs=>bl 12 48 s o (by kernel_rfl) (.inl o) λs=>bl 13 48 s o (by kernel_rfl) (.inl o) λs=>bl 14 48 s o (by kernel_rfl) (.inl o) λs=>bl 15 48 s o (by kernel_rfl) (.inl o) λs=>bl 16 48 s o (by kernel_rfl) (.inl o) λs=>bl 17 48 s o (by kernel_rfl) (.inl o) λs=>aI 18 (by kernel_rfl) o<|ap (by rfl) o ?_
 refine q 1 [(44,tb false),(57,tb false)] [] o<|za<|bj (aj (ar 2 o) (aj (ar 1 o) al)) ?_
 refine aa [44,57] o<|aI 19 (by kernel_rfl) o<|q 1 [(58,tb false)] [] o<|za<|bj (aj (ar 2 o) (aj (ar 1 o) al)) ?_
 refine aa [58] o<|eY (by kernel_rfl)<|zt ?_
 refine gO (b:=false) o (λhc=>?_) (λhc=>?_)
 ·cases hc
 refine zy<|q 1 [(6,ti 0)] [] o<|zf ?_
 cases h
 exact aB o (.tmp o)
theorem rF(C:Value)(M c r)(h:lB M c=some r):Fn PP 258 [.one W61 M,tp C] [Res.cls cP C c] (λ_=>tb r.1) (λ_=>[Res.clsor cP C r.2 r.1]):=by
 unfold lB at h
 refine enter Tryz.func258 o 28 o o λF=>?_
 refine ll λf m O w hp=>?_
 subst hp
 refine gl (x:=c) ?_
 refine zu<|bD o o λV=>q 1 [(1,ptr f 0),(2,ptr V 0)] [] o<|za<|zs<|zs<|pk [1,0] o<|jj λG H N=>?_
 refine eE (by kernel_rfl) (by kernel_rfl) ?_
 refine aA ai 3 [1,2,7] (E':=[(1,ptr f 0),(2,ptr V 0),(7,ptr f 4)]) o ?_
 refine q_y (aM 0 f4 o o o (ag (ag (ag (ag (ay ab))))) tx2) o ?_
 refine aA ai 3 [1,2,8,11] (E':=[(1,ptr f 0),(2,ptr V 0),(8,.one W51 G),(11,ptr f 5)]) o ?_
 refine q_y (aM 0 f5 o o o (ag (ag (ag (ag (ag (ay ab)))))) tx2) o ?_
 refine aA ai 1 [1,2,8,12,13] (E':=[(1,ptr f 0),(2,ptr V 0),(8,.one W51 G),(12,.one W51 H),(13,ptr V 0)]) o ?_
 refine q_y (aM 4 f0 o o o (ay ab) bI) o ?_
 refine cB h λJ d h=>yx (qG c.2.2.2.2.1 c.2.2.2.2.2.1 M.1 _ d) (by kernel_rfl) o (.own 1 o o (.own 2 o o (.val o .nil))) o ?_
 refine aA ai 1 [1,2,16] (E':=[(1,ptr f 0),(2,ptr V 0),(16,tb (J !=0))]) o ?_
 refine eX ?_
 refine zt<|rI h o (λhc h=>zu<|q 1 [(4,tb false)] [] o<|zf<|zT<|az (R':=Res.clsor cP (.pointer (some ⟨f,0,none⟩)) c false) 0 o l9<|by cases h;exact aU o (.tmp o) (λ_ _ g=>g) (λ_ _ _=>(.cons_cons _ (.cons _ (.cons _ (.cons _ (.cons _ .slnil))))))) λhc h=>zk<|zt<|jK h (γ:=Value) (λW g14=>[]) (λW g14=>[Res.var f 30 W0 (c.1,c.2.1,c.2.2.1,c.2.2.2.1,g14,H,c.2.2.2.2.2.2.1,c.2.2.2.2.2.2.2.1,c.2.2.2.2.2.2.2.2.1,c.2.2.2.2.2.2.2.2.2.1,c.2.2.2.2.2.2.2.2.2.2.1,c.2.2.2.2.2.2.2.2.2.2.2.1,c.2.2.2.2.2.2.2.2.2.2.2.2.1,c.2.2.2.2.2.2.2.2.2.2.2.2.2.1,c.2.2.2.2.2.2.2.2.2.2.2.2.2.2.1,N,c.2.2.2.2.2.2.2.2.2.2.2.2.2.2.2.2.1,c.2.2.2.2.2.2.2.2.2.2.2.2.2.2.2.2.2.1,c.2.2.2.2.2.2.2.2.2.2.2.2.2.2.2.2.2.2),Res.own g14 52 Y52 W,Res.own H 52 Y52 c.2.2.2.2.2.1,Res.own N 56 Y56 c.2.2.2.2.2.2.2.2.2.2.2.2.2.2.2.1,Res.var V 276 W61 M]) (λZ h=>?_) λW g14 h=>?_
 ·refine dF (by kernel_rfl)<|ae 0 (ptr f 0) o (by kernel_rfl) o<|ae 1 (ptr f 0) o (by kernel_rfl) o<|ae 5 (ptr V 0) o (by kernel_rfl) o ?_
  refine br (i:=2) (j:=6) (by kernel_rfl) o o ?_ ?_
  ·refine q 1 [(17,ptr f 0),(19,ptr f 0),(22,ptr V 0)] [] o<|za<|aa [17,19,22] o<|ae 3 (ptr f 4) o (by kernel_rfl) o ?_
   refine br (i:=4) (j:=6) (by kernel_rfl) o o ?_ ?_
   ·refine yl 0 f4 tx2 o o o tr o<|za<|aa [17,21,22] o<|af 6 (by kernel_rfl) o<|yl 4 f0 bI o o o tr o<|za<|aa [17,21,23] o<|af 7 (by kernel_rfl) o<|bE (B:=72) ai o jM o o o (.cons o .nil) o λR=>?_
    refine za<|aa [17,21,24] o<|af 8 (by kernel_rfl) o<|iE h λhc h=>bq (B:=72) ai 2 o o (bZ 0 o o) o jM o o hc o λu=>?_
    refine pk [1,1,1,1,1] o<|za<|aa [17,25] o<|af 9 (by kernel_rfl) o<|q 1 [(25,.one W51 u),(26,ptr f 0)] [] o<|za<|aa [25,26] o<|ae 10 (ptr f 4) o (by kernel_rfl) o<|af 11 (by kernel_rfl) o<|st 0 f4 tx2 o o o o tr<|nL o<|za<|aa [] o<|aN (by kernel_rfl) ?_
    exact zt<|aa [] o<|ah (c.2.2.2.2.1++[M.1]) u h o o
   refine yl 4 f0 bI o o o tr o<|za<|aa [17,20,23] o ?_
   refine br (i:=4) (j:=7) (by kernel_rfl) o o ?_ ?_
   ·refine yl 0 f4 tx2 o o o tr o<|za<|aa [17,21,23] o<|af 7 (by kernel_rfl) o<|bE (B:=72) ai o jM o o o (.cons o .nil) o λR=>?_
    refine za<|aa [17,21,24] o<|af 8 (by kernel_rfl) o<|iE h λhc h=>bq (B:=72) ai 2 o o (bZ 0 o o) o jM o o hc o λu=>?_
    refine pk [1,1,1,1,1] o<|za<|aa [17,25] o<|af 9 (by kernel_rfl) o<|q 1 [(25,.one W51 u),(26,ptr f 0)] [] o<|za<|aa [25,26] o<|ae 10 (ptr f 4) o (by kernel_rfl) o<|af 11 (by kernel_rfl) o<|st 0 f4 tx2 o o o o tr<|nL o<|za<|aa [] o<|aN (by kernel_rfl) ?_
    exact zt<|aa [] o<|ah (c.2.2.2.2.1++[M.1]) u h o o
   refine bE (B:=72) ai o jM o o o (.cons o .nil) o λR=>?_
   refine za<|aa [17,20,24] o<|af 4 (by kernel_rfl) o<|yl 1 f4 tx2 o o o tr o<|za<|aa [17,21,24] o<|af 8 (by kernel_rfl) o<|iE h λhc h=>bq (B:=72) ai 2 o o (bZ 0 o o) o jM o o hc o λu=>?_
   refine pk [1,1,1,1,1] o<|za<|aa [17,25] o<|af 9 (by kernel_rfl) o<|q 1 [(25,.one W51 u),(26,ptr f 0)] [] o<|za<|aa [25,26] o<|ae 10 (ptr f 4) o (by kernel_rfl) o<|af 11 (by kernel_rfl) o<|st 0 f4 tx2 o o o o tr<|nL o<|za<|aa [] o<|aN (by kernel_rfl) ?_
   exact zt<|aa [] o<|ah (c.2.2.2.2.1++[M.1]) u h o o
  refine yl 4 f0 bI o o o tr o<|za<|aa [17,18,23] o ?_
  refine br (i:=2) (j:=7) (by kernel_rfl) o o ?_ ?_
  ·refine q 1 [(17,ptr f 0),(19,ptr f 0),(23,.one Y52 M.1)] [] o<|za<|aa [17,19,23] o<|ae 3 (ptr f 4) o (by kernel_rfl) o ?_
   refine br (i:=4) (j:=7) (by kernel_rfl) o o ?_ ?_
   ·refine yl 0 f4 tx2 o o o tr o<|za<|aa [17,21,23] o<|af 7 (by kernel_rfl) o<|bE (B:=72) ai o jM o o o (.cons o .nil) o λR=>?_
    refine za<|aa [17,21,24] o<|af 8 (by kernel_rfl) o<|iE h λhc h=>bq (B:=72) ai 2 o o (bZ 0 o o) o jM o o hc o λu=>?_
    refine pk [1,1,1,1,1] o<|za<|aa [17,25] o<|af 9 (by kernel_rfl) o<|q 1 [(25,.one W51 u),(26,ptr f 0)] [] o<|za<|aa [25,26] o<|ae 10 (ptr f 4) o (by kernel_rfl) o<|af 11 (by kernel_rfl) o<|st 0 f4 tx2 o o o o tr<|nL o<|za<|aa [] o<|aN (by kernel_rfl) ?_
    exact zt<|aa [] o<|ah (c.2.2.2.2.1++[M.1]) u h o o
   refine bE (B:=72) ai o jM o o o (.cons o .nil) o λR=>?_
   refine za<|aa [17,20,24] o<|af 4 (by kernel_rfl) o<|yl 1 f4 tx2 o o o tr o<|za<|aa [17,21,24] o<|af 8 (by kernel_rfl) o<|iE h λhc h=>bq (B:=72) ai 2 o o (bZ 0 o o) o jM o o hc o λu=>?_
   refine pk [1,1,1,1,1] o<|za<|aa [17,25] o<|af 9 (by kernel_rfl) o<|q 1 [(25,.one W51 u),(26,ptr f 0)] [] o<|za<|aa [25,26] o<|ae 10 (ptr f 4) o (by kernel_rfl) o<|af 11 (by kernel_rfl) o<|st 0 f4 tx2 o o o o tr<|nL o<|za<|aa [] o<|aN (by kernel_rfl) ?_
   exact zt<|aa [] o<|ah (c.2.2.2.2.1++[M.1]) u h o o
  refine bE (B:=72) ai o jM o o o (.cons o .nil) o λR=>?_
  refine za<|aa [17,18,24] o<|af 2 (by kernel_rfl) o<|q 1 [(17,ptr f 0),(19,ptr f 0),(24,.one W51 R)] [] o<|za<|aa [17,19,24] o<|ae 3 (ptr f 4) o (by kernel_rfl) o<|af 4 (by kernel_rfl) o<|yl 1 f4 tx2 o o o tr o<|za<|aa [17,21,24] o<|af 8 (by kernel_rfl) o<|iE h λhc h=>bq (B:=72) ai 2 o o (bZ 0 o o) o jM o o hc o λu=>?_
  refine pk [1,1,1,1,1] o<|za<|aa [17,25] o<|af 9 (by kernel_rfl) o<|q 1 [(25,.one W51 u),(26,ptr f 0)] [] o<|za<|aa [25,26] o<|ae 10 (ptr f 4) o (by kernel_rfl) o<|af 11 (by kernel_rfl) o<|st 0 f4 tx2 o o o o tr<|nL o<|za<|aa [] o<|aN (by kernel_rfl) ?_
  exact zt<|aa [] o<|ah (c.2.2.2.2.1++[M.1]) u h o o
 refine zu<|q 1 [(4,tb true)] [] o<|zf<|gl (x:=(c.1,c.2.1,c.2.2.1,c.2.2.2.1,W,c.2.2.2.2.2.1,c.2.2.2.2.2.2.1,c.2.2.2.2.2.2.2.1,c.2.2.2.2.2.2.2.2.1,c.2.2.2.2.2.2.2.2.2.1,c.2.2.2.2.2.2.2.2.2.2.1,c.2.2.2.2.2.2.2.2.2.2.2.1,c.2.2.2.2.2.2.2.2.2.2.2.2.1,c.2.2.2.2.2.2.2.2.2.2.2.2.2.1,c.2.2.2.2.2.2.2.2.2.2.2.2.2.2.1,c.2.2.2.2.2.2.2.2.2.2.2.2.2.2.2.1,c.2.2.2.2.2.2.2.2.2.2.2.2.2.2.2.2.1,c.2.2.2.2.2.2.2.2.2.2.2.2.2.2.2.2.2.1,c.2.2.2.2.2.2.2.2.2.2.2.2.2.2.2.2.2.2)) ?_
 refine az (R':=Res.clsor cP (.pointer (some ⟨f,0,none⟩)) (c.1,c.2.1,c.2.2.1,c.2.2.2.1,W,c.2.2.2.2.2.1,c.2.2.2.2.2.2.1,c.2.2.2.2.2.2.2.1,c.2.2.2.2.2.2.2.2.1,c.2.2.2.2.2.2.2.2.2.1,c.2.2.2.2.2.2.2.2.2.2.1,c.2.2.2.2.2.2.2.2.2.2.2.1,c.2.2.2.2.2.2.2.2.2.2.2.2.1,c.2.2.2.2.2.2.2.2.2.2.2.2.2.1,c.2.2.2.2.2.2.2.2.2.2.2.2.2.2.1,c.2.2.2.2.2.2.2.2.2.2.2.2.2.2.2.1,c.2.2.2.2.2.2.2.2.2.2.2.2.2.2.2.2.1,c.2.2.2.2.2.2.2.2.2.2.2.2.2.2.2.2.2.1,c.2.2.2.2.2.2.2.2.2.2.2.2.2.2.2.2.2.2) true) 0 o ng ?_
 cases h
 exact bd o (.tmp o) (.cons_cons _ (.cons _ .slnil))
theorem p8(R:Value)(V c r)(h:kp V c=some r):Fn PP 274 [.one W47 V,tp R] [Res.cls cP R c] (λ_=>tb r.1) (λ_=>[Res.clsor cP R r.2 r.1]):=by
 unfold kp at h
 refine enter Tryz.func274 o 70 o o λF=>?_
 refine ll λf m O w hp=>?_
 subst hp
 refine gl (x:=c) ?_
 refine zu<|bD o o λM=>q 1 [(1,ptr f 0),(2,ptr M 0)] [] o<|za<|zs<|zs<|pk [1,0] o<|jj λG N J=>?_
 refine eE (by kernel_rfl) (by kernel_rfl) ?_
 refine aA ai 3 [1,2,7] (E':=[(1,ptr f 0),(2,ptr M 0),(7,ptr f 7)]) o ?_
 refine q_y (aM 0 f7 o o o (ag (ag (ag (ag (ag (ag (ag (ay ab)))))))) ty2) o ?_
 refine aA ai 3 [1,2,8,11] (E':=[(1,ptr f 0),(2,ptr M 0),(8,ti c.2.2.2.2.2.2.2.1),(11,ptr f 8)]) o ?_
 refine q_y (aM 0 f8 o o o (ag (ag (ag (ag (ag (ag (ag (ag (ay ab))))))))) ty2) o ?_
 refine aA ai 2 [1,2,14] (E':=[(1,ptr f 0),(2,ptr M 0),(14,tb (c.2.2.2.2.2.2.2.1 !=c.2.2.2.2.2.2.2.2.1))]) o ?_
 obtain⟨W,e,h⟩:=ak h;rw[e]
 refine kJ 9 [(1,ptr f 0),(2,ptr M 0),(23,tb (W||(V.1 !=(wrap .i64 (c.2.2.2.2.2.2.2.1+1)))))] ?_ ?_
 ·clear h
  cases W
  ·refine aA ai 1 [1,2,14,15] (E':=[(1,ptr f 0),(2,ptr M 0),(14,tb false),(15,ptr M 0)]) o ?_
   refine dx (by rfl) o ?_
   refine q_y (aM 4 f0 o o o (ay ab) ty2) o ?_
   refine aA ai 3 [1,2,14,16,19] (E':=[(1,ptr f 0),(2,ptr M 0),(14,tb false),(16,ti V.1),(19,ptr f 7)]) o ?_
   refine dx (by rfl) o ?_
   refine q_y (aM 0 f7 o o o (ag (ag (ag (ag (ag (ag (ag (ay ab)))))))) ty2) o ?_
   refine aA ai 3 [1,2,23] (E':=[(1,ptr f 0),(2,ptr M 0),(23,tb (V.1 !=(wrap .i64 (c.2.2.2.2.2.2.2.1+1))))]) o ?_
   refine fV ?_
   exact ib o
  refine aA ai 9 [1,2,23] (E':=[(1,ptr f 0),(2,ptr M 0),(23,tb true)]) o ?_
  refine fV ?_
  exact ib o
 refine aA ai 1 [1,2,24] (E':=[(1,ptr f 0),(2,ptr M 0),(24,tb (W||(V.1 !=(wrap .i64 (c.2.2.2.2.2.2.2.1+1)))))]) o ?_
 obtain⟨C,e,h⟩:=ak h;rw[e]
 refine kJ 10 [(1,ptr f 0),(2,ptr M 0),(34,tb (C||(V.2.1.2.1 !=c.2.2.2.2.2.2.2.2.2.1.2.1)))] ?_ ?_
 ·clear h
  cases C
  ·refine aA ai 2 [1,2,24,26] (E':=[(1,ptr f 0),(2,ptr M 0),(24,tb false),(26,ptr M 2)]) o ?_
   refine dx (by rfl) o ?_
   refine q_y (aM 4 ((.snd (.fst f1))) o o o (ag (ay (ag (ay ab)))) ty3) o ?_
   refine aA ai 4 [1,2,24,27,31] (E':=[(1,ptr f 0),(2,ptr M 0),(24,tb false),(27,ti V.2.1.2.1),(31,ptr f 10)]) o ?_
   refine dx (by rfl) o ?_
   refine q_y (aM 0 ((g9 (.fst f1))) o o o (ag (ag (ag (ag (ag (ag (ag (ag (ag (ay (ag (ay ab)))))))))))) ty3) o ?_
   refine aA ai 2 [1,2,34] (E':=[(1,ptr f 0),(2,ptr M 0),(34,tb (V.2.1.2.1 !=c.2.2.2.2.2.2.2.2.2.1.2.1))]) o ?_
   refine fV ?_
   exact ib o
  refine aA ai 10 [1,2,34] (E':=[(1,ptr f 0),(2,ptr M 0),(34,tb true)]) o ?_
  refine fV ?_
  exact ib o
 refine aA ai 1 [1,2,35] (E':=[(1,ptr f 0),(2,ptr M 0),(35,tb (C||(V.2.1.2.1 !=c.2.2.2.2.2.2.2.2.2.1.2.1)))]) o ?_
 obtain⟨H,e,h⟩:=ak h;rw[e]
 refine kJ 10 [(1,ptr f 0),(2,ptr M 0),(45,tb (H||(decide (V.2.1.1<c.2.2.2.2.2.2.2.2.2.2.1.1))))] ?_ ?_
 ·clear h
  cases H
  ·refine aA ai 2 [1,2,35,37] (E':=[(1,ptr f 0),(2,ptr M 0),(35,tb false),(37,ptr M 1)]) o ?_
   refine dx (by rfl) o ?_
   refine q_y (aM 4 ((.snd (.fst f0))) o o o (ag (ay (ay ab))) ty3) o ?_
   refine aA ai 4 [1,2,35,38,42] (E':=[(1,ptr f 0),(2,ptr M 0),(35,tb false),(38,ti V.2.1.1),(42,ptr f 11)]) o ?_
   refine dx (by rfl) o ?_
   refine q_y (aM 0 ((g10 (.fst f0))) o o o (ag (ag (ag (ag (ag (ag (ag (ag (ag (ag (ay (ay ab)))))))))))) ty3) o ?_
   refine aA ai 2 [1,2,45] (E':=[(1,ptr f 0),(2,ptr M 0),(45,tb (decide (V.2.1.1<c.2.2.2.2.2.2.2.2.2.2.1.1)))]) o ?_
   refine fV ?_
   exact ib o
  refine aA ai 10 [1,2,45] (E':=[(1,ptr f 0),(2,ptr M 0),(45,tb true)]) o ?_
  refine fV ?_
  exact ib o
 refine aA ai 1 [1,2,46] (E':=[(1,ptr f 0),(2,ptr M 0),(46,tb (H||(decide (V.2.1.1<c.2.2.2.2.2.2.2.2.2.2.1.1))))]) o ?_
 obtain⟨d,e,h⟩:=ak h;rw[e]
 refine kJ 10 [(1,ptr f 0),(2,ptr M 0),(56,tb (d||(decide (V.2.1.1>(List.length c.2.2.2.2.1:Int)))))] ?_ ?_
 ·clear h
  cases d
  ·refine aA ai 2 [1,2,46,48] (E':=[(1,ptr f 0),(2,ptr M 0),(46,tb false),(48,ptr M 1)]) o ?_
   refine dx (by rfl) o ?_
   refine q_y (aM 4 ((.snd (.fst f0))) o o o (ag (ay (ay ab))) ty3) o ?_
   refine aA ai 3 [1,2,46,49,52] (E':=[(1,ptr f 0),(2,ptr M 0),(46,tb false),(49,ti V.2.1.1),(52,ptr f 4)]) o ?_
   refine dx (by rfl) o ?_
   refine q_y (aM 0 f4 o o o (ag (ag (ag (ag (ay ab))))) tx2) o ?_
   refine dx (by rfl) o ?_
   refine q_y (cn ai 1 o o o) o ?_
   refine aA ai 2 [1,2,56] (E':=[(1,ptr f 0),(2,ptr M 0),(56,tb (decide (V.2.1.1>(List.length c.2.2.2.2.1:Int))))]) o ?_
   refine fV ?_
   exact ib o
  refine aA ai 10 [1,2,56] (E':=[(1,ptr f 0),(2,ptr M 0),(56,tb true)]) o ?_
  refine fV ?_
  exact ib o
 refine eX ?_
 refine zt<|rI h o (λhc h=>zu<|q 1 [(4,tb false)] [] o<|zf<|zT<|az (R':=Res.clsor cP (.pointer (some ⟨f,0,none⟩)) c false) 0 o l9<|by cases h;exact aU o (.tmp o) (λ_ _ g=>g) (λ_ _ _=>(.cons_cons _ (.cons _ (.cons _ (.cons _ (.cons _ .slnil))))))) λhc h=>zk<|zt<|bv h (λu=>[]) (λu=>[Res.var f 30 W0 (u.1,u.2.1,u.2.2.1,u.2.2.2.1,G,N,u.2.2.2.2.2.2.1,u.2.2.2.2.2.2.2.1,u.2.2.2.2.2.2.2.2.1,u.2.2.2.2.2.2.2.2.2.1,u.2.2.2.2.2.2.2.2.2.2.1,u.2.2.2.2.2.2.2.2.2.2.2.1,u.2.2.2.2.2.2.2.2.2.2.2.2.1,u.2.2.2.2.2.2.2.2.2.2.2.2.2.1,u.2.2.2.2.2.2.2.2.2.2.2.2.2.2.1,J,u.2.2.2.2.2.2.2.2.2.2.2.2.2.2.2.2.1,u.2.2.2.2.2.2.2.2.2.2.2.2.2.2.2.2.2.1,u.2.2.2.2.2.2.2.2.2.2.2.2.2.2.2.2.2.2),Res.own G 52 Y52 c.2.2.2.2.1,Res.own N 52 Y52 c.2.2.2.2.2.1,Res.own J 56 Y56 c.2.2.2.2.2.2.2.2.2.2.2.2.2.2.2.1,Res.var M 278 W47 V]) (λZ h=>?_) λu h=>?_
 ·refine dF (by kernel_rfl)<|ae 0 (ptr f 0) o (by kernel_rfl) o<|ae 1 (ptr f 0) o (by kernel_rfl) o<|ae 2 (ptr f 0) o (by kernel_rfl) o<|ae 3 (ptr M 0) o (by kernel_rfl) o<|ae 5 (ptr M 1) o (by kernel_rfl) o ?_
  refine br (i:=4) (j:=6) (by kernel_rfl) o o ?_ ?_
  ·refine yl 4 f0 ty2 o o o tr o<|za<|aa [57,58,59,61,62] o ?_
   refine br (i:=6) (j:=7) (by kernel_rfl) o o ?_ ?_
   ·refine yl 4 f1 fj o o o tr o<|za<|aa [57,58,59,61,63] o<|af 7 (by kernel_rfl) o<|q 1 [(58,ptr f 0),(59,ptr f 0),(61,ti V.1),(63,.one Y24 V.2.1),(64,ptr f 0)] [] o<|za<|aa [58,59,61,63,64] o<|ae 8 (ptr f 7) o (by kernel_rfl) o<|af 9 (by kernel_rfl) o<|st 0 f7 ty2 o o o o tr<|za<|aa [58,59,63] o<|af 10 (by kernel_rfl) o<|p 1 [59,63,66] o ?_
    refine za<|aa [59,63,66] o<|ae 11 (ptr f 11) o (by kernel_rfl) o<|af 12 (by kernel_rfl) o<|st 0 f10 fj o o o o tr<|nL o<|za<|aa [59] o<|af 13 (by kernel_rfl) o<|q 1 [(68,ptr f 0)] [] o<|za<|aa [68] o<|ae 14 (ptr f 15) o (by kernel_rfl) o<|af 15 (by kernel_rfl) o ?_
    exact st 0 f12 ty4 o o o o tr<|za<|aa [] o<|aN (by kernel_rfl)<|zt<|aa [] o<|ah (c.1,c.2.1,c.2.2.1,c.2.2.2.1,(),(),c.2.2.2.2.2.2.1,V.1,c.2.2.2.2.2.2.2.2.1,c.2.2.2.2.2.2.2.2.2.1,V.2.1,c.2.2.2.2.2.2.2.2.2.2.2.1,true,c.2.2.2.2.2.2.2.2.2.2.2.2.2.1,c.2.2.2.2.2.2.2.2.2.2.2.2.2.2.1,(),c.2.2.2.2.2.2.2.2.2.2.2.2.2.2.2.2.1,c.2.2.2.2.2.2.2.2.2.2.2.2.2.2.2.2.2.1,c.2.2.2.2.2.2.2.2.2.2.2.2.2.2.2.2.2.2) () h o o
   refine q 1 [(58,ptr f 0),(59,ptr f 0),(61,ti V.1),(62,ptr M 1),(64,ptr f 0)] [] o<|za<|aa [58,59,61,62,64] o<|ae 8 (ptr f 7) o (by kernel_rfl) o ?_
   refine br (i:=6) (j:=9) (by kernel_rfl) o o ?_ ?_
   ·refine yl 4 f1 fj o o o tr o<|za<|aa [58,59,61,63,65] o<|af 9 (by kernel_rfl) o<|st 0 f7 ty2 o o o o tr<|za<|aa [58,59,63] o<|af 10 (by kernel_rfl) o<|q 1 [(63,.one Y24 V.2.1),(66,ptr f 0)] [59] o<|za<|aa [59,63,66] o<|ae 11 (ptr f 11) o (by kernel_rfl) o<|af 12 (by kernel_rfl) o<|st 0 f10 fj o o o o tr ?_
    refine nL o<|za<|aa [59] o<|af 13 (by kernel_rfl) o<|q 1 [(68,ptr f 0)] [] o<|za<|aa [68] o<|ae 14 (ptr f 15) o (by kernel_rfl) o<|af 15 (by kernel_rfl) o<|st 0 f12 ty4 o o o o tr<|za<|aa [] o<|aN (by kernel_rfl)<|zt ?_
    exact aa [] o<|ah (c.1,c.2.1,c.2.2.1,c.2.2.2.1,(),(),c.2.2.2.2.2.2.1,V.1,c.2.2.2.2.2.2.2.2.1,c.2.2.2.2.2.2.2.2.2.1,V.2.1,c.2.2.2.2.2.2.2.2.2.2.2.1,true,c.2.2.2.2.2.2.2.2.2.2.2.2.2.1,c.2.2.2.2.2.2.2.2.2.2.2.2.2.2.1,(),c.2.2.2.2.2.2.2.2.2.2.2.2.2.2.2.2.1,c.2.2.2.2.2.2.2.2.2.2.2.2.2.2.2.2.2.1,c.2.2.2.2.2.2.2.2.2.2.2.2.2.2.2.2.2.2) () h o o
   refine st 0 f7 ty2 o o o o tr<|za<|aa [58,59,62] o<|af 6 (by kernel_rfl) o<|yl 4 f1 fj o o o tr o<|za<|aa [58,59,63] o<|af 10 (by kernel_rfl) o<|q 1 [(63,.one Y24 V.2.1),(66,ptr f 0)] [59] o<|za<|aa [59,63,66] o<|ae 11 (ptr f 11) o (by kernel_rfl) o<|af 12 (by kernel_rfl) o<|st 0 f10 fj o o o o tr ?_
   refine nL o<|za<|aa [59] o<|af 13 (by kernel_rfl) o<|q 1 [(68,ptr f 0)] [] o<|za<|aa [68] o<|ae 14 (ptr f 15) o (by kernel_rfl) o<|af 15 (by kernel_rfl) o<|st 0 f12 ty4 o o o o tr<|za<|aa [] o<|aN (by kernel_rfl)<|zt ?_
   exact aa [] o<|ah (c.1,c.2.1,c.2.2.1,c.2.2.2.1,(),(),c.2.2.2.2.2.2.1,V.1,c.2.2.2.2.2.2.2.2.1,c.2.2.2.2.2.2.2.2.2.1,V.2.1,c.2.2.2.2.2.2.2.2.2.2.2.1,true,c.2.2.2.2.2.2.2.2.2.2.2.2.2.1,c.2.2.2.2.2.2.2.2.2.2.2.2.2.2.1,(),c.2.2.2.2.2.2.2.2.2.2.2.2.2.2.2.2.1,c.2.2.2.2.2.2.2.2.2.2.2.2.2.2.2.2.2.1,c.2.2.2.2.2.2.2.2.2.2.2.2.2.2.2.2.2.2) () h o o
  refine yl 4 f1 fj o o o tr o<|za<|aa [57,58,59,60,63] o<|af 4 (by kernel_rfl) o<|yl 4 f0 ty2 o o o tr o<|za<|aa [57,58,59,61,63] o<|af 7 (by kernel_rfl) o<|q 1 [(58,ptr f 0),(59,ptr f 0),(61,ti V.1),(63,.one Y24 V.2.1),(64,ptr f 0)] [] o<|za<|aa [58,59,61,63,64] o<|ae 8 (ptr f 7) o (by kernel_rfl) o<|af 9 (by kernel_rfl) o<|st 0 f7 ty2 o o o o tr ?_
  refine za<|aa [58,59,63] o<|af 10 (by kernel_rfl) o<|p 1 [59,63,66] o<|za<|aa [59,63,66] o<|ae 11 (ptr f 11) o (by kernel_rfl) o<|af 12 (by kernel_rfl) o<|st 0 f10 fj o o o o tr<|nL o<|za<|aa [59] o<|af 13 (by kernel_rfl) o<|q 1 [(68,ptr f 0)] [] o ?_
  exact za<|aa [68] o<|ae 14 (ptr f 15) o (by kernel_rfl) o<|af 15 (by kernel_rfl) o<|st 0 f12 ty4 o o o o tr<|za<|aa [] o<|aN (by kernel_rfl)<|zt<|aa [] o<|ah (c.1,c.2.1,c.2.2.1,c.2.2.2.1,(),(),c.2.2.2.2.2.2.1,V.1,c.2.2.2.2.2.2.2.2.1,c.2.2.2.2.2.2.2.2.2.1,V.2.1,c.2.2.2.2.2.2.2.2.2.2.2.1,true,c.2.2.2.2.2.2.2.2.2.2.2.2.2.1,c.2.2.2.2.2.2.2.2.2.2.2.2.2.2.1,(),c.2.2.2.2.2.2.2.2.2.2.2.2.2.2.2.2.1,c.2.2.2.2.2.2.2.2.2.2.2.2.2.2.2.2.2.1,c.2.2.2.2.2.2.2.2.2.2.2.2.2.2.2.2.2.2) () h o o
 refine zu<|q 1 [(4,tb true)] [] o<|zf<|gl (x:=(u.1,u.2.1,u.2.2.1,u.2.2.2.1,c.2.2.2.2.1,c.2.2.2.2.2.1,u.2.2.2.2.2.2.1,u.2.2.2.2.2.2.2.1,u.2.2.2.2.2.2.2.2.1,u.2.2.2.2.2.2.2.2.2.1,u.2.2.2.2.2.2.2.2.2.2.1,u.2.2.2.2.2.2.2.2.2.2.2.1,u.2.2.2.2.2.2.2.2.2.2.2.2.1,u.2.2.2.2.2.2.2.2.2.2.2.2.2.1,u.2.2.2.2.2.2.2.2.2.2.2.2.2.2.1,c.2.2.2.2.2.2.2.2.2.2.2.2.2.2.2.1,u.2.2.2.2.2.2.2.2.2.2.2.2.2.2.2.2.1,u.2.2.2.2.2.2.2.2.2.2.2.2.2.2.2.2.2.1,u.2.2.2.2.2.2.2.2.2.2.2.2.2.2.2.2.2.2)) ?_
 refine az (R':=Res.clsor cP (.pointer (some ⟨f,0,none⟩)) (u.1,u.2.1,u.2.2.1,u.2.2.2.1,c.2.2.2.2.1,c.2.2.2.2.2.1,u.2.2.2.2.2.2.1,u.2.2.2.2.2.2.2.1,u.2.2.2.2.2.2.2.2.1,u.2.2.2.2.2.2.2.2.2.1,u.2.2.2.2.2.2.2.2.2.2.1,u.2.2.2.2.2.2.2.2.2.2.2.1,u.2.2.2.2.2.2.2.2.2.2.2.2.1,u.2.2.2.2.2.2.2.2.2.2.2.2.2.1,u.2.2.2.2.2.2.2.2.2.2.2.2.2.2.1,c.2.2.2.2.2.2.2.2.2.2.2.2.2.2.2.1,u.2.2.2.2.2.2.2.2.2.2.2.2.2.2.2.2.1,u.2.2.2.2.2.2.2.2.2.2.2.2.2.2.2.2.2.1,u.2.2.2.2.2.2.2.2.2.2.2.2.2.2.2.2.2.2) true) 0 o ng ?_
 cases h
 exact bd o (.tmp o) (.cons_cons _ (.cons _ .slnil))
theorem rG(N:Value)(V c r)(h:lC V c=some r):Fn PP 280 [.one Y280 V,tp N] [Res.cls cP N c] (λ_=>tb r.1) (λ_=>[Res.clsor cP N r.2 r.1]):=by
 unfold lC at h
 refine enter Tryz.func280 o 95 o o λF=>?_
 refine ll λu a5 a6 a7 hp=>?_
 subst hp
 refine gl (x:=c) ?_
 refine zu<|bD o o λM=>q 1 [(1,ptr u 0),(2,ptr M 0)] [] o<|za<|zs<|zs<|pk [1,0] o<|jj λC W H=>?_
 refine eE (by kernel_rfl) (by kernel_rfl) ?_
 refine aA ai 1 [1,2,8] (E':=[(1,ptr u 0),(2,ptr M 0),(8,ptr M 0)]) o ?_
 refine q_y (aM 4 f0 o o o (ay ab) ty2) o ?_
 refine aA ai 3 [1,2,9,12] (E':=[(1,ptr u 0),(2,ptr M 0),(9,ti V.1),(12,ptr u 6)]) o ?_
 refine q_y (aM 0 f6 o o o (ag (ag (ag (ag (ag (ag (ay ab))))))) ty2) o ?_
 refine aA ai 3 [1,2,16] (E':=[(1,ptr u 0),(2,ptr M 0),(16,tb (V.1 !=(wrap .i64 (c.2.2.2.2.2.2.1+1))))]) o ?_
 obtain⟨J,e,h⟩:=ak h;rw[e]
 refine kJ 7 [(1,ptr u 0),(2,ptr M 0),(23,tb (J||(decide (c.2.2.2.2.2.2.2.2.2.1.2.1<0))))] ?_ ?_
 ·clear h
  cases J
  ·refine aA ai 4 [1,2,16,20] (E':=[(1,ptr u 0),(2,ptr M 0),(16,tb false),(20,ptr u 10)]) o ?_
   refine dx (by rfl) o ?_
   refine q_y (aM 0 ((g9 (.fst f1))) o o o (ag (ag (ag (ag (ag (ag (ag (ag (ag (ay (ag (ay ab)))))))))))) ty3) o ?_
   refine aA ai 2 [1,2,23] (E':=[(1,ptr u 0),(2,ptr M 0),(23,tb (decide (c.2.2.2.2.2.2.2.2.2.1.2.1<0)))]) o ?_
   refine fV ?_
   exact ib o
  refine aA ai 7 [1,2,23] (E':=[(1,ptr u 0),(2,ptr M 0),(23,tb true)]) o ?_
  refine fV ?_
  exact ib o
 refine aA ai 1 [1,2,24] (E':=[(1,ptr u 0),(2,ptr M 0),(24,tb (J||(decide (c.2.2.2.2.2.2.2.2.2.1.2.1<0))))]) o ?_
 obtain⟨d,e,h⟩:=ak h;rw[e]
 refine kJ 12 [(1,ptr u 0),(2,ptr M 0),(36,tb (d||(decide (c.2.2.2.2.2.2.2.2.2.1.2.1>(List.length c.2.2.2.2.2.1:Int)))))] ?_ ?_
 ·clear h
  cases d
  ·refine aA ai 4 [1,2,24,28] (E':=[(1,ptr u 0),(2,ptr M 0),(24,tb false),(28,ptr u 10)]) o ?_
   refine dx (by rfl) o ?_
   refine q_y (aM 0 ((g9 (.fst f1))) o o o (ag (ag (ag (ag (ag (ag (ag (ag (ag (ay (ag (ay ab)))))))))))) ty3) o ?_
   refine aA ai 3 [1,2,24,29,32] (E':=[(1,ptr u 0),(2,ptr M 0),(24,tb false),(29,ti c.2.2.2.2.2.2.2.2.2.1.2.1),(32,ptr u 5)]) o ?_
   refine dx (by rfl) o ?_
   refine q_y (aM 0 f5 o o o (ag (ag (ag (ag (ag (ay ab)))))) tx2) o ?_
   refine dx (by rfl) o ?_
   refine q_y (cn ai 2 o o o) o ?_
   refine aA ai 2 [1,2,36] (E':=[(1,ptr u 0),(2,ptr M 0),(36,tb (decide (c.2.2.2.2.2.2.2.2.2.1.2.1>(List.length c.2.2.2.2.2.1:Int))))]) o ?_
   refine fV ?_
   exact ib o
  refine aA ai 12 [1,2,36] (E':=[(1,ptr u 0),(2,ptr M 0),(36,tb true)]) o ?_
  refine fV ?_
  exact ib o
 refine eX ?_
 refine zt<|rI h o (λhc h=>zu<|q 1 [(4,tb false)] [] o<|zf<|zT<|az (R':=Res.clsor cP (.pointer (some ⟨u,0,none⟩)) c false) 0 o l9<|by cases h;exact aU o (.tmp o) (λ_ _ g=>g) (λ_ _ _=>(.cons_cons _ (.cons _ (.cons _ (.cons _ (.cons _ .slnil))))))) λhc h=>zk<|zt<|zs<|eE (by kernel_rfl) (by kernel_rfl) ?_
 refine aA ai 3 [1,2,39] (E':=[(1,ptr u 0),(2,ptr M 0),(39,ptr u 5)]) o ?_
 refine q_y (aM 0 f5 o o o (ag (ag (ag (ag (ag (ay ab)))))) tx2) o ?_
 refine aA ai 4 [1,2,40,44] (E':=[(1,ptr u 0),(2,ptr M 0),(40,.one W51 W),(44,ptr u 10)]) o ?_
 refine q_y (aM 0 ((g9 (.fst f1))) o o o (ag (ag (ag (ag (ag (ag (ag (ag (ag (ay (ag (ay ab)))))))))))) ty3) o ?_
 obtain⟨G,h⟩:=cr h
 refine q_y (jA ai (i:=(0:Int)) (j:=c.2.2.2.2.2.2.2.2.2.1.2.1) o (eF 2 o) o o G.1 G.2.1 G.2.2 o bI) o ?_
 refine aA ai 1 [1,2,5] (E':=[(1,ptr u 0),(2,ptr M 0),(5,.one W51 (fP (T.size Y52) W (Int.toNat (0:Int)) (Int.toNat c.2.2.2.2.2.2.2.2.2.1.2.1)))]) o ?_
 refine eX ?_
 refine zt<|jK h (γ:=Value) (λf g16=>[(1,ptr u 0),(2,ptr M 0),(5,.one W51 g16)]) (λf g16=>[Res.var u 30 W0 (f.1.1,f.1.2.1,f.1.2.2.1,f.1.2.2.2.1,C,W,f.1.2.2.2.2.2.2.1,f.1.2.2.2.2.2.2.2.1,f.1.2.2.2.2.2.2.2.2.1,f.1.2.2.2.2.2.2.2.2.2.1,f.1.2.2.2.2.2.2.2.2.2.2.1,f.1.2.2.2.2.2.2.2.2.2.2.2.1,f.1.2.2.2.2.2.2.2.2.2.2.2.2.1,f.1.2.2.2.2.2.2.2.2.2.2.2.2.2.1,f.1.2.2.2.2.2.2.2.2.2.2.2.2.2.2.1,H,f.1.2.2.2.2.2.2.2.2.2.2.2.2.2.2.2.2.1,f.1.2.2.2.2.2.2.2.2.2.2.2.2.2.2.2.2.2.1,f.1.2.2.2.2.2.2.2.2.2.2.2.2.2.2.2.2.2.2),Res.own C 52 Y52 c.2.2.2.2.1,Res.own g16 52 Y52 f.2,Res.own H 56 Y56 c.2.2.2.2.2.2.2.2.2.2.2.2.2.2.2.1,Res.var M 280 Y280 V]) (λZ h=>?_) λf g16 h=>?_
 ·refine zu<|q 1 [(5,.one W51 (fP (T.size Y52) W (Int.toNat (0:Int)) (Int.toNat c.2.2.2.2.2.2.2.2.2.1.2.1))),(47,ptr M 1)] [1,2] o<|yl 4 f1 jI o o o tr o<|q 2 [(48,.one W65 V.2.1),(49,ti (List.length V.2.1:Int)),(50,ti 0)] [1,2,5] o<|za<|zb<|qX (j:=(Int.toNat c.2.2.2.2.2.2.2.2.2.1.2.1)) 2 o (by have:=G.2.2;omega) ?_
  refine aa [1,2,5,48,49,50] o<|aY (γ:=Value) (λ(R:Int×(List Z51)) g21=>[(1,ptr u 0),(2,ptr M 0),(5,.one W51 g21),(48,.one W65 V.2.1),(49,ti (List.length V.2.1:Int)),(50,ti R.1)]) (λ(R:Int×(List Z51)) g21=>[Res.var u 30 W0 (c.1,c.2.1,c.2.2.1,c.2.2.2.1,C,W,c.2.2.2.2.2.2.1,c.2.2.2.2.2.2.2.1,c.2.2.2.2.2.2.2.2.1,c.2.2.2.2.2.2.2.2.2.1,c.2.2.2.2.2.2.2.2.2.2.1,c.2.2.2.2.2.2.2.2.2.2.2.1,c.2.2.2.2.2.2.2.2.2.2.2.2.1,c.2.2.2.2.2.2.2.2.2.2.2.2.2.1,c.2.2.2.2.2.2.2.2.2.2.2.2.2.2.1,H,c.2.2.2.2.2.2.2.2.2.2.2.2.2.2.2.2.1,c.2.2.2.2.2.2.2.2.2.2.2.2.2.2.2.2.2.1,c.2.2.2.2.2.2.2.2.2.2.2.2.2.2.2.2.2.2),Res.own C 52 Y52 c.2.2.2.2.1,Res.own g21 52 Y52 R.2,Res.own H 56 Y56 c.2.2.2.2.2.2.2.2.2.2.2.2.2.2.2.1,Res.var M 280 Y280 V]) (ir V c Z) (0,(List.take (Int.toNat c.2.2.2.2.2.2.2.2.2.1.2.1) c.2.2.2.2.2.1)) (fP (T.size Y52) W 0 (Int.toNat c.2.2.2.2.2.2.2.2.2.1.2.1)) h o o ?_
  clear h
  intro m R g21 h
  cases m with
  |zero=>cases h
  |succ m=>
  simp only[ir]at h
  refine zu<|q 1 [(5,.one W51 g21),(50,ti R.1),(51,tb (decide (R.1<(List.length V.2.1:Int))))] [1,2,48,49] o<|za<|zs<|rI h o (λhc h=>?_) λhc h=>?_
  ·refine zk<|zt<|zs<|zb<|zu<|iE h λhc h=>y (ff ai o o hc.1 hc.2 o bI) o ?_
   refine y (ga o bI) o ?_
   refine aD (t:=Y52) o jJ o λO=>st 0 .here bI o o o o tr<|za<|zs<|zs<|eE (by kernel_rfl) (by kernel_rfl) ?_
   refine aA ai 4 [1,2,5,7,48,49,50,54,57] (E':=[(1,ptr u 0),(2,ptr M 0),(5,.one W51 g21),(7,ptr O 0),(48,.one W65 V.2.1),(49,ti (List.length V.2.1:Int)),(50,ti R.1),(54,.one W51 g21),(57,ptr u 4)]) o ?_
   refine q_y (aM 1 f4 o o o (ag (ag (ag (ag (ay ab))))) tx2) o ?_
   refine q_y (aM 0 .here o o o ab bI) o ?_
   refine cB h λa2 a3 h=>yx (qG R.2 c.2.2.2.2.1 (List.getD V.2.1 (Int.toNat R.1) (0,0,0,z32,[],())) _ a3) (by kernel_rfl) o (.own 3 o o (.own 2 o o (.val o .nil))) o ?_
   refine aA ai 1 [1,2,5,7,48,49,50,61] (E':=[(1,ptr u 0),(2,ptr M 0),(5,.one W51 g21),(7,ptr O 0),(48,.one W65 V.2.1),(49,ti (List.length V.2.1:Int)),(50,ti R.1),(61,tb (a2 !=0))]) o ?_
   refine eX ?_
   refine zt<|rI h o (λhc h=>zu<|q 1 [(4,tb false)] [] o<|zf<|zT<|zB<|zT<|zT<|zB<|zT<|az (R':=Res.clsor cP (.pointer (some ⟨u,0,none⟩)) c false) 1 o l9<|by cases h;exact aU o (.tmp o) (λ_ _ g=>g) (λ_ _ _=>(.cons _ (.cons_cons _ (.cons _ (.cons _ (.cons _ (.cons _ .slnil)))))))) λhc h=>zk<|zt<|zr<|p 1 [1,2,7,48,49,50,62] o<|yl 0 .here bI o o o tr o<|bE (B:=72) ai o jM o o o (.cons o .nil) o λa8=>?_
   refine iE h λhc h=>bq (B:=72) ai 4 o o (bZ 0 o o) o jM o o hc o λa4=>?_
   exact pk [1,1,1,1,1,1] o<|p 1 [1,2,5,48,49,50] o<|zn<|zi<|zt<|zr<|q 2 [(50,ti (wrap .i64 (R.1+1)))] [1,2,5,48,49] o<|za<|pk [1,1,1,1,1] o<|aa [1,2,5,48,49,50] o<|aR ((wrap .i64 (R.1+1)),(R.2++([(List.getD V.2.1 (Int.toNat R.1) (0,0,0,z32,[],()))]))) a4 (Nat.lt_succ_self _) h o o
  exact zx<|ze<|ze<|zq<|zt<|aa [1,2,5] o<|ah ((c.1,c.2.1,c.2.2.1,c.2.2.2.1,(),(),c.2.2.2.2.2.2.1,c.2.2.2.2.2.2.2.1,c.2.2.2.2.2.2.2.2.1,c.2.2.2.2.2.2.2.2.2.1,c.2.2.2.2.2.2.2.2.2.2.1,c.2.2.2.2.2.2.2.2.2.2.2.1,c.2.2.2.2.2.2.2.2.2.2.2.2.1,c.2.2.2.2.2.2.2.2.2.2.2.2.2.1,c.2.2.2.2.2.2.2.2.2.2.2.2.2.2.1,(),c.2.2.2.2.2.2.2.2.2.2.2.2.2.2.2.2.1,c.2.2.2.2.2.2.2.2.2.2.2.2.2.2.2.2.2.1,c.2.2.2.2.2.2.2.2.2.2.2.2.2.2.2.2.2.2),R.2) g21 h o o
 refine zs<|gF (S:=bJ [aX M 280 Y280 V]) (by kernel_rfl) ?_
 refine au 0 (ptr u 0) (aj (ar 4 o) al) o (by kernel_rfl) o λs=>au 1 (ptr u 0) s o (by kernel_rfl) o λs=>au 2 (ptr u 0) s o (by kernel_rfl) o λs=>au 3 (ptr u 0) s o (by kernel_rfl) o λs=>au 4 (.one W51 g16) s o (by kernel_rfl) o λs=>au 5 (ptr M 0) s o (by kernel_rfl) o λs=>bz 6 (ti V.1) s o (by kernel_rfl) (cD (S:=λw=>bJ [aX M 280 Y280 V] w) (bA 0 o) 4 f0 o o o o (ay ab) ty2) λs=>au 7 (ptr M 2) s o (by kernel_rfl) o λs=>bz 8 (.one W55 V.2.2.1) s o (by kernel_rfl) (cD (S:=λw=>bJ [aX M 280 Y280 V] w) (bA 0 o) 4 f2 o o o o (ag (ag (ay ab))) bK) λs=>au 9 (ptr u 0) s o (by kernel_rfl) o λs=>au 10 (ptr u 5) s o (by kernel_rfl) o λs=>aI 11 (by kernel_rfl) o<|kU (t:=W0) (v:=W51) 0 f5 o o o o o o tx2 ?_
 refine za<|bj (aj (ar 4 o) al) ?_
 refine aa [1,5,68,69,70,73,75] o<|au 12 (ptr u 0) (aj (ar 4 o) al) o (by kernel_rfl) o λs=>au 13 (ptr u 6) s o (by kernel_rfl) o λs=>aI 14 (by kernel_rfl) o<|st 0 f6 ty2 o o o o tr<|nL o<|za<|bj (aj (ar 4 o) al) ?_
 refine aa [1,5,69,70,75] o<|au 15 (ptr u 0) (aj (ar 4 o) al) o (by kernel_rfl) o λs=>au 16 (ptr u 80) s o (by kernel_rfl) o λs=>aI 17 (by kernel_rfl) o<|st 0 f14 bK o o o o tr<|za<|bj (aj (ar 4 o) al) ?_
 refine aa [1,5,70] o<|au 18 (ptr u 0) (aj (ar 4 o) al) o (by kernel_rfl) o λs=>au 19 (ptr u 15) s o (by kernel_rfl) o λs=>aI 20 (by kernel_rfl) o<|st 0 f12 ty4 o o o o tr<|nL o<|za<|bj (aj (ar 4 o) al) ?_
 refine aa [1,5] o<|eY (by kernel_rfl)<|zt<|zu<|q 5 [(5,.one W51 g16),(84,ptr u 0),(88,ptr u 13)] [] o<|yl 0 ((g11 (.fst f0))) ty3 o o o tr o<|q 1 [(89,ti f.1.2.2.2.2.2.2.2.2.2.2.2.1.1),(90,.one W51 g16)] [84] o<|y (cn ai 2 o o o) o ?_
 refine y (bc o E4 o o (.cons f0 o o ab (.cons f1 o o ab .nil))) o ?_
 refine q 2 [(92,.one Y24 (f.1.2.2.2.2.2.2.2.2.2.2.2.1.1,(List.length f.2:Int),())),(94,ptr u 9)] [] o<|st 0 f9 fj o o o o tr<|zz<|q 1 [(4,tb true)] [] o<|zf<|gl (x:=(f.1.1,f.1.2.1,f.1.2.2.1,f.1.2.2.2.1,c.2.2.2.2.1,f.2,V.1,f.1.2.2.2.2.2.2.2.1,f.1.2.2.2.2.2.2.2.2.1,(f.1.2.2.2.2.2.2.2.2.2.2.2.1.1,(List.length f.2:Int),()),f.1.2.2.2.2.2.2.2.2.2.2.1,f.1.2.2.2.2.2.2.2.2.2.2.2.1,false,f.1.2.2.2.2.2.2.2.2.2.2.2.2.2.1,V.2.2.1,c.2.2.2.2.2.2.2.2.2.2.2.2.2.2.2.1,f.1.2.2.2.2.2.2.2.2.2.2.2.2.2.2.2.2.1,f.1.2.2.2.2.2.2.2.2.2.2.2.2.2.2.2.2.2.1,f.1.2.2.2.2.2.2.2.2.2.2.2.2.2.2.2.2.2.2)) ?_
 refine az (R':=Res.clsor cP (.pointer (some ⟨u,0,none⟩)) (f.1.1,f.1.2.1,f.1.2.2.1,f.1.2.2.2.1,c.2.2.2.2.1,f.2,V.1,f.1.2.2.2.2.2.2.2.1,f.1.2.2.2.2.2.2.2.2.1,(f.1.2.2.2.2.2.2.2.2.2.2.2.1.1,(List.length f.2:Int),()),f.1.2.2.2.2.2.2.2.2.2.2.1,f.1.2.2.2.2.2.2.2.2.2.2.2.1,false,f.1.2.2.2.2.2.2.2.2.2.2.2.2.2.1,V.2.2.1,c.2.2.2.2.2.2.2.2.2.2.2.2.2.2.2.1,f.1.2.2.2.2.2.2.2.2.2.2.2.2.2.2.2.2.1,f.1.2.2.2.2.2.2.2.2.2.2.2.2.2.2.2.2.2.1,f.1.2.2.2.2.2.2.2.2.2.2.2.2.2.2.2.2.2.2) true) 0 o ng<|nL o ?_
 cases h
 exact bd o (.tmp o) (.cons_cons _ (.cons _ .slnil))
theorem rR(c r)(h:oB c=some r):bn PP 292 [ti c] (tb r):=by
 unfold oB at h
 refine enter Tryz.func292 o 9 o o λF=>?_
 refine zu<|q 1 [(0,ti c)] [] o<|zz<|p 3 [0,5] o ?_
 obtain⟨f,e,h⟩:=ak h;rw[e]
 refine aJ 3 [(8,tb (f&&(decide (c≤281474976710655))))] [] (?_) ?_
 ·clear h
  cases f
  ·exact q 3 [(8,tb false)] [] o<|aa [8] o<|za<|ao () o o
  exact q 3 [(8,tb (decide (c≤281474976710655)))] [] o<|aa [8] o<|za<|ao () o o
 refine q 1 [(2,tb (f&&(decide (c≤281474976710655))))] [] o<|zf ?_
 cases h
 exact aB o (.tmp o)
theorem l6(c r)(h:lg c=some r):bn PP 293 [ti c] (ti r):=by
 unfold lg at h
 refine enter Tryz.func293 o 5 o o λF=>?_
 refine zu<|q 1 [(0,ti c)] [] o<|zz<|q 3 [(2,ti (wrap .i64 (281474976710655 - c)))] [] o<|zf ?_
 cases h
 exact aB o (.tmp o)
theorem nu(c r)(h:iu c=some r):FnT PP bF 240 [.one (.int .u64) c] [] (λ_=>ti r) (λ_=>[]):=by
 unfold iu at h
 refine gP Tryz.func240 o 14 o o λF hT=>?_
 refine zu<|q 1 [(0,.one (.int .u64) c)] [] o<|za<|zs<|zu<|p 2 [0,4] o<|za<|rI h o (λhc h=>zu<|q 1 [(2,ti 64)] [] o<|zf<|zT<|by cases h;exact aB o (.tmp o)) λhc h=>zy<|q 6 [(10,.one (.int .u64) (bQ .u64 (wrap .u64 ((fD .u64 c (wrap .u64 (0 - c)))*285870213051353865)) 58))] [] o ?_
 obtain⟨f,e,h⟩:=ak h;rw[e]
 refine iE h λhc h=>y (bY o o hc.1 hc.2 EB ty5) o ?_
 refine y (CU hT (by rfl) (t:=Cf) (off:=(0+(Int.toNat f)*1)) (i:=(Int.toNat f)) (.tail _ (.head _)) (by kernel_rfl) o (by show _<64;omega) (by omega) (by kernel_rfl) ty5) o ?_
 refine q 2 [(2,ti (wrap .i64 (List.getD ua (Int.toNat f) 0)))] [] o<|zf ?_
 cases h
 exact aB o (.tmp o)
theorem rS(c r)(h:oC c=some r):FnT PP bF 290 [ti c] [] (λ_=> .tup [⟨(.int .i64),r.1⟩,⟨(.int .i64),r.2⟩]) (λ_=>[]):=by
 unfold oC at h
 refine gP Tryz.func290 o 12 o o λF hT=>?_
 refine zu<|q 2 [(0,ti c)] [] o<|za<|zs<|zu<|p 1 [0,4] o<|cB h λW f h=>av (rR _ _ f) (ca o) o o<|p 1 [0,6] o<|za<|rI h o (λhc h=>zu<|q 2 [(2,ti 0),(3,ti 90)] [] o<|zf<|zT<|by cases h;exact aF (rs:=[.tmp 2,.tmp 3]) o (.cons (.tmp o) (.cons (.tmp o) (.nil))) o (λ_ vs g=>aH vs g) (λ_ _ _=>List.nil_sublist _)) λhc h=>?_
 refine zy<|q 1 [(7,ti c)] [] o<|cB h λu M h=>av (l6 _ _ M) (ca o) o o<|q 1 [(9,.one (.int .u64) (wrap .u64 u))] [] o<|cB h λV R h=>rcT hT [] (nu _ _ R) (ca o) o o o λ_=>y (uw o o) o ?_
 refine q 2 [(2,ti (min 48 V)),(3,ti 0)] [] o<|zf ?_
 cases h
 exact aF (rs:=[.tmp 2,.tmp 3]) o (.cons (.tmp o) (.cons (.tmp o) (.nil))) o (λ_ vs g=>aH vs g) (λ_ _ _=>List.nil_sublist _)
theorem wl(c r)(h:rp c=some r):bn PP 295 [.one W55 c] (.one W55 r):=by
 unfold rp at h
 refine enter Tryz.func295 o 7 o o λF=>?_
 refine zu<|bD o o λu=>aD (t:=W55) o ns o λM=>zz<|y (ta o uh o ty5) o ?_
 refine y (vW ai 1 .here o o o ab o o o o) o ?_
 refine bE (B:=16) ai o el9 o o o (.cons o .nil) o λV=>?_
 refine kK (i:=0) (k:=5) o o ?_
 refine cB h λR f h=>av (tO _ _ f) (ca o) o o<|st 0 .here bK o o o o tr<|zf ?_
 cases h
 exact aU o (.cell 0 .here o o o ab bK) (λ_ _ g=>g) (λ_ _ _=>List.nil_sublist _)
theorem xx(C R f r)(h:sJ C R f=some r):bn PP 294 [.one W55 C,ti R,ti f] (.one W55 r):=by
 unfold sJ at h
 refine enter Tryz.func294 o 35 o o λF=>?_
 refine zu<|bD o o λM=>aD (t:=W55) o ns o λV=>za<|bv h (λH=>[(3,ptr M 0),(6,ptr V 0)]) (λH=>[Res.var V 26 W55 z32,Res.var M 26 W55 H]) (λN h=>?_) λH h=>?_
 ·refine zu<|q 2 [(1,ti R),(2,ti f),(3,ptr M 0),(6,ptr V 0),(9,ti f),(10,ti 0)] [] o<|za<|zb<|aa [1,2,3,6,9,10] o<|aY (γ:=Unit) (λ(c:Int×List (Int)) _=>[(1,ti R),(2,ti f),(3,ptr M 0),(6,ptr V 0),(9,ti f),(10,ti c.1)]) (λ(c:Int×List (Int)) _=>[Res.var V 26 W55 z32,Res.var M 26 W55 c.2]) (mM R f N) (0,C) () h o o ?_
  clear h
  intro G c gg h
  cases G with
  |zero=>cases h
  |succ G=>
  simp only[mM]at h
  refine zu<|q 1 [(10,ti c.1),(11,tb (decide (c.1<f)))] [1,2,3,6,9] o<|za<|zs<|rI h o (λhc h=>?_) λhc h=>?_
  ·refine zk<|zt<|bv h (λW=>[(1,ti R),(2,ti f),(3,ptr M 0),(6,ptr V 0),(9,ti f),(10,ti c.1)]) (λW=>[Res.var V 26 W55 z32,Res.var M 26 W55 W]) (λm h=>?_) λW h=>?_
   ·refine zb<|zu<|q 2 [(7,ti c.1)] [1,2,3,6,9,10] o<|zz<|q 5 [(8,ti (wrap .i64 ((wrap .i64 (f - 1)) - c.1)))] [1,2,3,6,9,10] o ?_
    obtain⟨u,e,h⟩:=ak h;rw[e]
    refine zz<|p 2 [1,2,3,6,8,9,10,17,18] o<|iE h λhc h=>y (ny o o hc) o ?_
    refine p 2 [1,2,3,6,8,9,10,21] o<|za<|rI h o (λhc h=>?_) λhc h=>?_
    ·refine zs<|dF (by kernel_rfl)<|ae 0 (ti u) o (by kernel_rfl) o<|ae 1 (ti (wrap .i64 (Int.tdiv u 8))) o (by kernel_rfl) o<|iE h λhc h=>fH 2 (ptr M (0+(Int.toNat (wrap .i64 (Int.tdiv u 8)))*1)) o (by kernel_rfl) (bY o o hc.1 hc.2 uh ty5)<|ae 4 (ti u) o (by kernel_rfl) o<|ae 5 (ti (Int.tmod u 8)) o (by kernel_rfl) o<|iE h λhc h=>fH 6 (.one (.int .u8) (fC .u8 1 (Int.tmod u 8))) o (by kernel_rfl) (DQ o o hc)<|af 3 (by kernel_rfl) o<|y (aM 1 (.elem (Int.toNat (wrap .i64 (Int.tdiv u 8))) .here) o o (by first|rfl|(simp only[Pth.off,T.size];omega)) (ax (by omega) ab) ty5) o ?_
     refine za<|aa [1,2,3,6,9,10,23,25,28] o<|ae 7 (.one (.int .u8) (dq .u8 (List.getD c.2 (Int.toNat (wrap .i64 (Int.tdiv u 8))) 0) (fC .u8 1 (Int.tmod u 8)))) o (by kernel_rfl) o<|iE h λhc h=>fH 8 (ptr M (0+(Int.toNat (wrap .i64 (Int.tdiv u 8)))*1)) o (by kernel_rfl) (bY o o hc.1 hc.2 uh ty5)<|af 9 (by kernel_rfl) o<|kd 1 (.elem (Int.toNat (wrap .i64 (Int.tdiv u 8))) .here) o o o (by first|rfl|(simp only[Pth.off,T.size];omega)) (ax (by omega) ab) ty5<|za<|aa [1,2,3,6,9,10] o<|aN (by kernel_rfl)<|zt<|zr<|yl 1 .here bK o o o tr o<|cB h λJ d h=>?_
     exact av (wl _ _ d) (ca o) o o<|st 1 .here bK o o o o tr<|nL o<|zn<|zi<|zt<|aa [1,2,3,6,9,10] o<|ah J () h o o
    exact zk<|zi<|zt<|aa [1,2,3,6,9,10] o<|ah c.2 () h o o
   exact zr<|q 2 [(1,ti R),(2,ti f),(3,ptr M 0),(6,ptr V 0),(9,ti f),(10,ti (wrap .i64 (c.1+1)))] [] o<|za<|aa [1,2,3,6,9,10] o<|aR ((wrap .i64 (c.1+1)),W) () (Nat.lt_succ_self _) h o o
  exact zx<|ze<|ze<|zq<|zt<|aa [3,6] o<|ah c.2 () h o o
 refine zu<|yl 1 .here bK o o o tr o<|st 0 .here bK o o o o tr<|zf ?_
 cases h
 exact aU o (.cell 0 .here o o o ab bK) (λ_ _ g=>g) (λ_ _ _=>List.nil_sublist _)
theorem qH(R V f r)(h:pT R V f=some r):FnT PP bF 291 [.one W55 R,ti V,ti f] [] (λ_=> .tup [⟨W55,r.1⟩,⟨(.int .i64),r.2⟩]) (λ_=>[]):=by
 unfold pT at h
 refine gP Tryz.func291 o 40 o o λF hT=>?_
 refine zu<|bD o o λu=>aD (t:=W55) o ns o λM=>q 1 [(1,ti V),(2,ti f),(3,ptr u 0),(6,ptr M 0)] [] o<|zz<|p 1 [1,2,3,6,11] o<|cB h λc G h=>rcT hT [] (rS _ _ G) (ca o) o o o λ_=>q 5 [(8,ti c.1),(9,ti c.2)] [1,2,3,6] o<|za<|zs<|zb<|zu<|q 3 [(18,tb (c.2 !=0))] [1,2,3,6,8] o ?_
 obtain⟨N,e,h⟩:=ak h;rw[e]
 refine bL h 4 (λC=>[(1,ti V),(2,ti f),(3,ptr u 0),(6,ptr M 0),(8,ti c.1),(22,tb C)]) (λ_=>[Res.var M 26 W55 z32,Res.var u 26 W55 R]) (λk8 h=>?_) λC h=>?_
 ·cases N
  ·replace h:=ifF h
   refine p 1 [1,2,3,6,8,18,19] o<|ap (by rfl) o ?_
   exact cB h λJ d h=>av (rR _ _ d) (ca o) o o<|p 2 [1,2,3,6,8,22] o<|zn<|aa [1,2,3,6,8,22] o<|zt<|ah (!J) () h o o
  replace h:=ifT h
  exact p 4 [1,2,3,6,8,22] o<|zn<|aa [1,2,3,6,8,22] o<|zt<|ah true () h o o
 refine q 1 [(1,ti V),(2,ti f),(3,ptr u 0),(6,ptr M 0),(8,ti c.1),(15,tb C)] [] o<|za<|rI h o (λhc h=>?_) λhc h=>?_
 ·refine zu<|y (bc o ns o o .nil) o ?_
  refine st 0 .here bK o o o o tr<|p 1 [6,7] o<|zf<|zB<|zT ?_
  cases h
  exact aF (rs:=[.cell 6 26,.tmp 7]) o (.cons (.cell 0 .here o o o ab bK) (.cons (.tmp o) (.nil))) o (λ_ vs g=>aH vs g) (λ_ _ _=>List.nil_sublist _)
 refine zs<|eE (by kernel_rfl) (by kernel_rfl) ?_
 refine aA ai 1 [2,3,6,8,25] (E':=[(2,ti f),(3,ptr u 0),(6,ptr M 0),(8,ti c.1),(25,ti V)]) o ?_
 refine cB h λW m h=>jy (l6 V _ m) (by kernel_rfl) o o o ?_
 refine aA ai 1 [2,3,6,8,26,27] (E':=[(2,ti f),(3,ptr u 0),(6,ptr M 0),(8,ti c.1),(26,ti W),(27,ti c.1)]) o ?_
 refine iE h λhc h=>q_y (ny o o hc) o ?_
 refine aA ai 1 [2,3,6,8,28,29] (E':=[(2,ti f),(3,ptr u 0),(6,ptr M 0),(8,ti c.1),(28,ti (bQ .i64 W c.1)),(29,ti f)]) o ?_
 refine cB h λH O h=>jy (l6 f _ O) (by kernel_rfl) o o o ?_
 refine aA ai 1 [2,3,6,8,28,30,31] (E':=[(2,ti f),(3,ptr u 0),(6,ptr M 0),(8,ti c.1),(28,ti (bQ .i64 W c.1)),(30,ti H),(31,ti c.1)]) o ?_
 refine iE h λhc h=>q_y (ny o o hc) o ?_
 refine aA ai 2 [2,3,6,8,24] (E':=[(2,ti f),(3,ptr u 0),(6,ptr M 0),(8,ti c.1),(24,tb ((bQ .i64 W c.1) !=(bQ .i64 H c.1)))]) o ?_
 refine eX ?_
 refine zt<|rI h o (λhc h=>?_) λhc h=>?_
 ·refine zu<|y (bc o ns o o .nil) o ?_
  refine st 0 .here bK o o o o tr<|p 1 [6,7] o<|zf<|zB<|zT ?_
  cases h
  exact aF (rs:=[.cell 6 26,.tmp 7]) o (.cons (.cell 0 .here o o o ab bK) (.cons (.tmp o) (.nil))) o (λ_ vs g=>aH vs g) (λ_ _ _=>List.nil_sublist _)
 refine zk<|zi<|zt<|zs<|dF (by kernel_rfl)<|ae 1 (ti f) o (by kernel_rfl) o<|ae 3 (ti c.1) o (by kernel_rfl) o<|nY (fuel:=2) [0,2,4] #[true,true,true,true,true,false,false] (by kernel_rfl) ?_
 refine q_y (aM 1 .here o o o ab bK) o ?_
 refine cB h λw Z h=>jy (l6 f _ Z) (by kernel_rfl) o o o ?_
 refine cB h λa4 a3 h=>jy (xx R w c.1 _ a3) (by kernel_rfl) o o o ?_
 refine eX ?_
 refine aa [6,39] o<|af 5 (by kernel_rfl) o<|st 0 .here bK o o o o tr<|za<|aa [6] o<|ae 6 (ti 0) o (by kernel_rfl) o<|aN (by kernel_rfl)<|zt<|zR ?_
 cases h
 exact aF (rs:=[.cell 6 26,.tmp 7]) o (.cons (.cell 0 .here o o o ab bK) (.cons (.tmp o) (.nil))) o (λ_ vs g=>aH vs g) (λ_ _ _=>List.nil_sublist _)
theorem xy(f V C r)(h:sK f V C=some r):FnT PP bF 289 [.one W66 f,ti V,.one W55 C] [] (λv=> .tup [⟨.raw (.slice none 0 0),aC v 0⟩,⟨(.int .i64),r.2⟩]) (λv=>[Res.own (aC v 0) 56 Y56 r.1]):=by
 unfold sK at h
 refine gP Tryz.func289 o 76 o o λF hT=>?_
 refine zu<|bD o o λu=>q 2 [(0,.one W66 f),(1,ti V),(5,ptr u 0)] [] o<|za<|zs<|zu<|q 3 [(16,tb (decide ((List.length f:Int)>49)))] [0,1,5] o<|za<|rI h o (λhc h=>?_) λhc h=>?_
 ·refine zu<|q 2 [(6,.one W51 (.slice none 0 0)),(7,ti 1)] [] o<|zf<|zT<|cj (.slice none 0 0) o 56 Y56 ?_
  cases h
  exact aF (rs:=[.tmp 6,.tmp 7]) o (.cons (.tmp o) (.cons (.tmp o) (.nil))) o (λ_ vs g=>by cases g with|cons W g=>cases g with|cons H g=>cases g;exact⟨_,o,.cons (bf W) (.cons H (.nil))⟩) (λ_ vs g=>by cases g with|cons W g=>cases g with|cons H g=>cases g;rw[bT W];exact(.cons_cons _ (.cons _ .slnil)))
 refine zy<|p 1 [0,1,5,18] o<|cB h λM a9 h=>rcT hT [] (rS _ _ a9) (ca o) o o o λ_=>q 5 [(8,ti M.1),(9,ti M.2)] [0,1,5] o<|za<|zs<|zu<|q 2 [(23,tb (M.2 !=0))] [0,1,5,8] o<|za<|rI h o (λhc h=>?_) λhc h=>?_
 ·refine zu<|q 2 [(6,.one W51 (.slice none 0 0)),(7,ti 90)] [] o<|zf<|zT<|cj (.slice none 0 0) o 56 Y56 ?_
  cases h
  exact aF (rs:=[.tmp 6,.tmp 7]) o (.cons (.tmp o) (.cons (.tmp o) (.nil))) o (λ_ vs g=>by cases g with|cons W g=>cases g with|cons H g=>cases g;exact⟨_,o,.cons (bf W) (.cons H (.nil))⟩) (λ_ vs g=>by cases g with|cons W g=>cases g with|cons H g=>cases g;rw[bT W];exact(.cons_cons _ (.cons _ .slnil)))
 refine zy<|iE h λhc h=>z1 (B:=48) ai o xp o xo o o o hc.1 hc.2 o λv6=>?_
 refine p 1 [0,1,5,8,10] o<|za<|jK h (γ:=Value) (λZ g9=>[(1,ti V),(5,ptr u 0),(8,ti M.1),(10,.one W51 g9)]) (λZ g9=>[Res.own g9 56 Y56 Z,Res.var u 26 W55 C]) (λk7 h=>?_) λZ g9 h=>?_
 ·refine zu<|q 3 [(26,ti (List.length f:Int)),(27,ti 0)] [0,1,5,8,10] o<|za<|zb<|aa [0,1,5,8,10,26,27] o<|aY (γ:=Value) (λ(c:Int×(List Z55)) g17=>[(0,.one W66 f),(1,ti V),(5,ptr u 0),(8,ti M.1),(10,.one W51 g17),(26,ti (List.length f:Int)),(27,ti c.1)]) (λ(c:Int×(List Z55)) g17=>[Res.own g17 56 Y56 c.2,Res.var u 26 W55 C]) (mN f V C M k7) (0,(List.replicate (Int.toNat 49) ((0,z32,false,()):Z55))) v6 h o o ?_
  clear h
  intro a4 c g17 h
  cases a4 with
  |zero=>cases h
  |succ a4=>
  simp only[mN]at h
  refine zu<|q 1 [(10,.one W51 g17),(27,ti c.1),(28,tb (decide (c.1<(List.length f:Int))))] [0,1,5,8,26] o<|za<|zs<|rI h o (λhc h=>?_) λhc h=>?_
  ·refine zk<|zt<|jK h (γ:=Value) (λa3 g21=>[(0,.one W66 f),(1,ti V),(5,ptr u 0),(8,ti M.1),(10,.one W51 g21),(26,ti (List.length f:Int)),(27,ti c.1)]) (λa3 g21=>[Res.own g21 56 Y56 a3,Res.var u 26 W55 C]) (λc0 h=>?_) λa3 g21 h=>?_
   ·refine zb<|zu<|q 2 [(11,ti c.1)] [0,1,5,8,10,26,27] o<|za<|zs<|zu<|q 2 [(30,.one W66 f),(31,ti c.1)] [0,1,5,8,10,11,26,27] o<|iE h λhc h=>y (ff ai o o hc.1 hc.2 o ji) o ?_
    refine y (wF ai f2 o o o o (ag (ag (ay ab)))) o ?_
    refine y (ga o ty4) o ?_
    refine q 1 [(35,tb (!((List.getD f (Int.toNat c.1) (0,z32,false,())).2.2.1)))] [0,1,5,8,10,11,26,27] o<|za<|rI h o (λhc h=>zx<|ze<|zq<|zt<|aa [0,1,5,8,10,26,27] o<|ah c.2 g17 h o o) λhc h=>zy<|q 4 [(36,.one W51 g17),(37,ti c.1),(38,.one W66 f),(39,ti c.1)] [0,1,5,8,10,11,26,27] o<|iE h λhc h=>y (ff ai o o hc.1 hc.2 o ji) o ?_
    refine y (ga o ji) o ?_
    refine iE h λhc h=>cJ 0 o (by first|omega|(simp only[List.length_set]at hc⊢;omega)) λG N J hv=>?_
    rw[hv]
    try clear hv
    refine y (cU ai o o hc.1 (by first|exact hc.2|simpa using hc.2) o ji) o ?_
    refine oS 0 (Int.toNat c.1) .here o o o (by first|omega|(simp only[List.length_set]at hc⊢;omega)) (by first|rfl|(simp only[Pth.off,T.size];omega)) ab ji ?_
    refine za<|zs<|zu<|q 3 [(10,.one W51 (.slice (some ⟨G,N,none⟩) (List.length c.2) J)),(45,tb (decide (c.1≥M.1)))] [0,1,5,8,11,26,27] o<|za<|rI h o (λhc h=>zx<|ze<|zq<|zt<|aa [0,1,5,8,10,26,27] o<|ah (List.set c.2 (Int.toNat c.1) (List.getD f (Int.toNat c.1) (0,z32,false,()))) (.slice (some ⟨G,N,none⟩) (List.length c.2) J) h o o) λhc h=>zk<|zt<|zs ?_
    obtain⟨a5,h⟩:=cr h
    refine D2 (k:=0) o (by omega) λd m b0=>?_
    refine cB h λR a6 h=>gF (S:=bJ [aX u 26 W55 C,q7 d m Y56 f]) (by kernel_rfl) ?_
    refine Aw (γ:=Nat) (λ(O:Nat)=>[(0,.one W66 f),(1,ti V),(5,ptr u 0),(8,ti M.1),(10,.one W51 (.slice (some ⟨G,N,none⟩) (List.length c.2) J)),(11,ti c.1),(12,ptr O 0),(13,ti R.2),(26,ti (List.length f:Int)),(27,ti c.1)]) (λ(O:Nat)=>[Res.var O 26 W55 R.1,Res.own (.slice (some ⟨G,N,none⟩) (List.length c.2) J) 56 Y56 (List.set c.2 (Int.toNat c.1) (List.getD f (Int.toNat c.1) (0,z32,false,()))),Res.var u 26 W55 C]) (λO=>?_) (λa7=>?_)
    ·refine zt<|zs<|eE (by kernel_rfl) (by kernel_rfl) ?_
     refine aA ai 3 [0,1,5,8,10,11,12,26,27,59] (E':=[(0,.one W66 f),(1,ti V),(5,ptr u 0),(8,ti M.1),(10,.one W51 (.slice (some ⟨G,N,none⟩) (List.length c.2) J)),(11,ti c.1),(12,ptr O 0),(26,ti (List.length f:Int)),(27,ti c.1),(59,tb (R.2 !=0))]) o ?_
     obtain⟨b1,e,h⟩:=ak h;rw[e]
     refine bX h λb2 b3 h=>?_
     refine vC 8 (λ(a8:Bool)=>[(0,.one W66 f),(1,ti V),(5,ptr u 0),(8,ti M.1),(10,.one W51 (.slice (some ⟨G,N,none⟩) (List.length c.2) J)),(26,ti (List.length f:Int)),(27,ti c.1),(67,tb a8)]) b2 r ?_ ?_
     ·cases b1
      ·replace h:=ifF h
       refine dx (by rfl) o ?_
       refine q_y (aM 0 .here o o o ab bK) o ?_
       refine aA ai 2 [0,1,5,8,10,26,27,59,60,61,62] (E':=[(0,.one W66 f),(1,ti V),(5,ptr u 0),(8,ti M.1),(10,.one W51 (.slice (some ⟨G,N,none⟩) (List.length c.2) J)),(26,ti (List.length f:Int)),(27,ti c.1),(59,tb false),(60,.one W55 R.1),(61,.one W66 f),(62,ti c.1)]) o ?_
       refine dx (by rfl) o ?_
       refine iE h λhc h=>q_y (ff ai o o hc.1 hc.2 o ji) o ?_
       refine dx (by rfl) o ?_
       refine q_y (wF ai f1 o o o o (ag (ay ab))) o ?_
       refine dx (by rfl) o ?_
       refine q_y (ga o bK) o ?_
       refine dx (by rfl) o ?_
       refine q_y (nA 20 o o o o bK o ui uj) o ?_
       refine aA ai 1 [0,1,5,8,10,26,27,67] (E':=[(0,.one W66 f),(1,ti V),(5,ptr u 0),(8,ti M.1),(10,.one W51 (.slice (some ⟨G,N,none⟩) (List.length c.2) J)),(26,ti (List.length f:Int)),(27,ti c.1),(67,tb (!eqD W55 R.1 ((List.getD f (Int.toNat c.1) (0,z32,false,())).2.1)))]) o ?_
       refine fV ?_
       exact sY (!eqD W55 R.1 ((List.getD f (Int.toNat c.1) (0,z32,false,())).2.1)) [0,1,5,8,10,26,27,67] h o
      replace h:=ifT h
      refine aA ai 8 [0,1,5,8,10,26,27,67] (E':=[(0,.one W66 f),(1,ti V),(5,ptr u 0),(8,ti M.1),(10,.one W51 (.slice (some ⟨G,N,none⟩) (List.length c.2) J)),(26,ti (List.length f:Int)),(27,ti c.1),(67,tb true)]) o ?_
      refine fV ?_
      exact sY true [0,1,5,8,10,26,27,67] h o
     intro a8 h
     rw[←b3]at h
     try dsimp only at h
     refine eX ?_
     refine zt<|rI h o (λhc h=>?_) λhc h=>?_
     ·refine zu<|q 2 [(6,.one W51 (.slice none 0 0)),(7,ti 100)] [] o<|zf<|zB<|zT<|zT<|zB<|zT<|cj (.slice none 0 0) o 56 Y56 ?_
      cases h
      exact aF (rs:=[.tmp 6,.tmp 7]) o (.cons (.tmp o) (.cons (.tmp o) (.nil))) o (λ_ vs g=>by cases g with|cons W g=>cases g with|cons H g=>cases g;exact⟨_,o,.cons (bf W) (.cons H (.nil))⟩) (λ_ vs g=>by cases g with|cons W g=>cases g with|cons H g=>cases g;rw[bT W];exact(.cons_cons _ (.cons _ (.cons _ (.cons _ .slnil)))))
     exact zk<|zi<|zt<|pk [1,1] o<|aa [0,1,5,8,10,26,27] o<|ah (List.set c.2 (Int.toNat c.1) (List.getD f (Int.toNat c.1) (0,z32,false,()))) (.slice (some ⟨G,N,none⟩) (List.length c.2) J) h o o
    refine bz 0 (.one W55 C) (aj (ar 2 o) (aj (kb 0 o) al)) o (by kernel_rfl) (cD (S:=λw=>bJ [aX u 26 W55 C,q7 d m Y56 f] w) (bA 0 o) 2 .here o o o o ab bK) λs=>au 1 (ti V) s o (by kernel_rfl) o λs=>au 2 (.one W51 (.slice (some ⟨d,m,none⟩) (List.length f) b0)) s o (by kernel_rfl) o λs=>au 3 (ti c.1) s o (by kernel_rfl) o λs=>bz 4 (ptr d (m+(Int.toNat c.1)*34)) s o (by kernel_rfl) (cU ai o o a5.1 a5.2 o ji) λs=>au 5 (ptr d ((m+(Int.toNat c.1)*34)+0)) s o (by kernel_rfl) o λs=>bz 6 (ti ((List.getD f (Int.toNat c.1) (0,z32,false,())).1)) s o (by kernel_rfl) (AG (S:=λw=>bJ [aX u 26 W55 C,q7 d m Y56 f] w) (bA 1 o) 0 (Int.toNat c.1) f0 o o o (by omega) (by first|rfl|(simp only[Pth.off,T.size];omega)) (ay ab) ty2) λs=>?_
    refine uM (i:=7) (j:=11) (by kernel_rfl) o o ?_ ?_
    ·refine rcT hT [] (qH _ _ _ _ a6) (ca o) o o o λ_=>za<|bj (aj (ar 2 o) (aj (kb 0 o) al)) ?_
     refine aa [0,1,5,8,10,11,26,27,54] o<|au 8 (.tup [⟨W55,R.1⟩,⟨(.int .i64),R.2⟩]) (aj (ar 2 o) (aj (kb 0 o) al)) o (by kernel_rfl) o λs=>au 9 (.one W55 R.1) s o (by kernel_rfl) o λs=>au 10 (ti R.2) s o (by kernel_rfl) o λs=>aI 11 (by kernel_rfl) o<|aD (t:=W55) o ns o λb5=>za<|bj (aj (ar 3 o) (aj (kb 1 o) al)) ?_
     refine aa [0,1,5,8,10,11,12,26,27,55,56] o<|aI 12 (by kernel_rfl) o<|st 0 .here bK o o o o tr<|za<|bj (aj (ar 3 o) (aj (kb 1 o) al)) ?_
     refine aa [0,1,5,8,10,11,12,26,27,56] o<|au 13 (ti R.2) (aj (ar 3 o) (aj (kb 1 o) al)) o (by kernel_rfl) o λs=>eY (by kernel_rfl)<|yG 56 0 1 o o ?_
     exact pk [0,1,1] o<|aa [0,1,5,8,10,11,12,13,26,27] o<|a7 b5
    refine aD (t:=W55) o ns o λb6=>za<|bj (aj (ar 3 o) (aj (kb 1 o) al)) ?_
    refine aa [0,1,5,8,10,11,12,26,27,47,48,53] o<|aI 7 (by kernel_rfl) o<|rcT hT [] (qH _ _ _ _ a6) (ca o) o o o λ_=>za<|bj (aj (ar 3 o) (aj (kb 1 o) al)) ?_
    refine aa [0,1,5,8,10,11,12,26,27,54] o<|au 8 (.tup [⟨W55,R.1⟩,⟨(.int .i64),R.2⟩]) (aj (ar 3 o) (aj (kb 1 o) al)) o (by kernel_rfl) o λs=>au 9 (.one W55 R.1) s o (by kernel_rfl) o λs=>au 10 (ti R.2) s o (by kernel_rfl) o λs=>aI 12 (by kernel_rfl) o<|st 0 .here bK o o o o tr<|za<|bj (aj (ar 3 o) (aj (kb 1 o) al)) ?_
    refine aa [0,1,5,8,10,11,12,26,27,56] o<|au 13 (ti R.2) (aj (ar 3 o) (aj (kb 1 o) al)) o (by kernel_rfl) o λs=>eY (by kernel_rfl)<|yG 56 0 1 o o ?_
    exact pk [0,1,1] o<|aa [0,1,5,8,10,11,12,13,26,27] o<|a7 b6
   exact zr<|q 2 [(0,.one W66 f),(1,ti V),(5,ptr u 0),(8,ti M.1),(10,.one W51 g21),(26,ti (List.length f:Int)),(27,ti (wrap .i64 (c.1+1)))] [] o<|za<|aa [0,1,5,8,10,26,27] o<|aR ((wrap .i64 (c.1+1)),a3) g21 (Nat.lt_succ_self _) h o o
  exact zx<|ze<|ze<|zq<|zt<|aa [1,5,8,10] o<|ah c.2 g17 h o o
 refine zu<|q 3 [(5,ptr u 0),(10,.one W51 g9),(69,.one W51 g9),(70,ti M.1),(71,ti V)] [] o<|yl 1 .here bK o o o tr o<|y (bc o xo o o (.cons f0 o o ab (.cons f1 o o ab (.cons f2 o o ab .nil)))) o ?_
 refine iE h λhc h=>cJ 0 o (by first|omega|(simp only[List.length_set]at hc⊢;omega)) λb7 b8 b9 hv=>?_
 rw[hv]
 try clear hv
 refine y (cU ai o o hc.1 (by first|exact hc.2|simpa using hc.2) o ji) o ?_
 refine oS 0 (Int.toNat M.1) .here o o o (by first|omega|(simp only[List.length_set]at hc⊢;omega)) (by first|rfl|(simp only[Pth.off,T.size];omega)) ab ji ?_
 refine zz<|q 3 [(6,.one W51 (.slice (some ⟨b7,b8,none⟩) (List.length Z) b9)),(7,ti 0)] [] o<|zf ?_
 cases h
 exact aF (rs:=[.tmp 6,.tmp 7]) o (.cons (.tmp o) (.cons (.tmp o) (.nil))) o (λ_ vs g=>by cases g with|cons W g=>cases g with|cons H g=>cases g;exact⟨_,o,.cons (bf W) (.cons H (.nil))⟩) (λ_ vs g=>by cases g with|cons W g=>cases g with|cons H g=>cases g;rw[bT W];exact(.cons_cons _ (.cons _ .slnil)))
theorem pl(N:Value)(V c r)(h:j6 V c=some r):FnT PP bF 285 [.one Y282 V,tp N] [Res.cls cP N c] (λ_=>tb r.1) (λ_=>[Res.clsor cP N r.2 r.1]):=by
 unfold j6 at h
 refine gP Tryz.func285 o 70 o o λF hT=>?_
 refine ll λf m O Z hp=>?_
 subst hp
 refine gl (x:=c) ?_
 refine zu<|bD o o λM=>q 1 [(1,ptr f 0),(2,ptr M 0)] [] o<|za<|zs<|zs<|pk [1,0] o<|jj λC H G=>?_
 refine eE (by kernel_rfl) (by kernel_rfl) ?_
 refine aA ai 3 [1,2,9] (E':=[(1,ptr f 0),(2,ptr M 0),(9,ptr f 7)]) o ?_
 refine q_y (aM 0 f7 o o o (ag (ag (ag (ag (ag (ag (ag (ay ab)))))))) ty2) o ?_
 refine aA ai 3 [1,2,10,13] (E':=[(1,ptr f 0),(2,ptr M 0),(10,ti c.2.2.2.2.2.2.2.1),(13,ptr f 8)]) o ?_
 refine q_y (aM 0 f8 o o o (ag (ag (ag (ag (ag (ag (ag (ag (ay ab))))))))) ty2) o ?_
 refine aA ai 3 [1,2,17] (E':=[(1,ptr f 0),(2,ptr M 0),(17,tb (c.2.2.2.2.2.2.2.1 !=(wrap .i64 (c.2.2.2.2.2.2.2.2.1+1))))]) o ?_
 obtain⟨J,e,h⟩:=ak h;rw[e]
 refine kJ 8 [(1,ptr f 0),(2,ptr M 0),(25,tb (J||(V.1 !=c.2.2.2.2.2.2.2.2.1)))] ?_ ?_
 ·clear h
  cases J
  ·refine aA ai 1 [1,2,17,18] (E':=[(1,ptr f 0),(2,ptr M 0),(17,tb false),(18,ptr M 0)]) o ?_
   refine dx (by rfl) o ?_
   refine q_y (aM 4 f0 o o o (ay ab) ty2) o ?_
   refine aA ai 3 [1,2,17,19,22] (E':=[(1,ptr f 0),(2,ptr M 0),(17,tb false),(19,ti V.1),(22,ptr f 8)]) o ?_
   refine dx (by rfl) o ?_
   refine q_y (aM 0 f8 o o o (ag (ag (ag (ag (ag (ag (ag (ag (ay ab))))))))) ty2) o ?_
   refine aA ai 2 [1,2,25] (E':=[(1,ptr f 0),(2,ptr M 0),(25,tb (V.1 !=c.2.2.2.2.2.2.2.2.1))]) o ?_
   refine fV ?_
   exact ib o
  refine aA ai 8 [1,2,25] (E':=[(1,ptr f 0),(2,ptr M 0),(25,tb true)]) o ?_
  refine fV ?_
  exact ib o
 refine eX ?_
 refine zt<|rI h o (λhc h=>zu<|q 1 [(4,tb false)] [] o<|zf<|zT<|az (R':=Res.clsor cP (.pointer (some ⟨f,0,none⟩)) c false) 0 o l9<|by cases h;exact aU o (.tmp o) (λ_ _ g=>g) (λ_ _ _=>(.cons_cons _ (.cons _ (.cons _ (.cons _ (.cons _ .slnil))))))) λhc h=>zk<|zt<|zs<|gF (S:=bJ [aX f 30 W0 (c.1,c.2.1,c.2.2.1,c.2.2.2.1,C,H,c.2.2.2.2.2.2.1,c.2.2.2.2.2.2.2.1,c.2.2.2.2.2.2.2.2.1,c.2.2.2.2.2.2.2.2.2.1,c.2.2.2.2.2.2.2.2.2.2.1,c.2.2.2.2.2.2.2.2.2.2.2.1,c.2.2.2.2.2.2.2.2.2.2.2.2.1,c.2.2.2.2.2.2.2.2.2.2.2.2.2.1,c.2.2.2.2.2.2.2.2.2.2.2.2.2.2.1,G,c.2.2.2.2.2.2.2.2.2.2.2.2.2.2.2.2.1,c.2.2.2.2.2.2.2.2.2.2.2.2.2.2.2.2.2.1,c.2.2.2.2.2.2.2.2.2.2.2.2.2.2.2.2.2.2),aX M 282 Y282 V]) (by kernel_rfl) ?_
 refine au 0 (ptr f 0) (aj (ar 0 o) (aj (ar 4 o) al)) o (by kernel_rfl) o λs=>au 1 (ptr f 0) s o (by kernel_rfl) o λs=>au 2 (ptr f 112) s o (by kernel_rfl) o λs=>bz 3 (.one W51 G) s o (by kernel_rfl) (cD (S:=λw=>bJ [aX f 30 W0 (c.1,c.2.1,c.2.2.1,c.2.2.2.1,C,H,c.2.2.2.2.2.2.1,c.2.2.2.2.2.2.2.1,c.2.2.2.2.2.2.2.2.1,c.2.2.2.2.2.2.2.2.2.1,c.2.2.2.2.2.2.2.2.2.2.1,c.2.2.2.2.2.2.2.2.2.2.2.1,c.2.2.2.2.2.2.2.2.2.2.2.2.1,c.2.2.2.2.2.2.2.2.2.2.2.2.2.1,c.2.2.2.2.2.2.2.2.2.2.2.2.2.2.1,G,c.2.2.2.2.2.2.2.2.2.2.2.2.2.2.2.2.1,c.2.2.2.2.2.2.2.2.2.2.2.2.2.2.2.2.2.1,c.2.2.2.2.2.2.2.2.2.2.2.2.2.2.2.2.2.2),aX M 282 Y282 V] w) (bA 0 o) 0 f15 o o o o (ag (ag (ag (ag (ag (ag (ag (ag (ag (ag (ag (ag (ag (ag (ag (ay ab)))))))))))))))) tx3) λs=>au 4 (ptr M 0) s o (by kernel_rfl) o λs=>bz 5 (ti V.1) s o (by kernel_rfl) (cD (S:=λw=>bJ [aX f 30 W0 (c.1,c.2.1,c.2.2.1,c.2.2.2.1,C,H,c.2.2.2.2.2.2.1,c.2.2.2.2.2.2.2.1,c.2.2.2.2.2.2.2.2.1,c.2.2.2.2.2.2.2.2.2.1,c.2.2.2.2.2.2.2.2.2.2.1,c.2.2.2.2.2.2.2.2.2.2.2.1,c.2.2.2.2.2.2.2.2.2.2.2.2.1,c.2.2.2.2.2.2.2.2.2.2.2.2.2.1,c.2.2.2.2.2.2.2.2.2.2.2.2.2.2.1,G,c.2.2.2.2.2.2.2.2.2.2.2.2.2.2.2.2.1,c.2.2.2.2.2.2.2.2.2.2.2.2.2.2.2.2.2.1,c.2.2.2.2.2.2.2.2.2.2.2.2.2.2.2.2.2.2),aX M 282 Y282 V] w) (bA 1 o) 4 f0 o o o o (ay ab) ty2) λs=>au 6 (ptr M 1) s o (by kernel_rfl) o λs=>bz 7 (.one W55 V.2.1) s o (by kernel_rfl) (cD (S:=λw=>bJ [aX f 30 W0 (c.1,c.2.1,c.2.2.1,c.2.2.2.1,C,H,c.2.2.2.2.2.2.1,c.2.2.2.2.2.2.2.1,c.2.2.2.2.2.2.2.2.1,c.2.2.2.2.2.2.2.2.2.1,c.2.2.2.2.2.2.2.2.2.2.1,c.2.2.2.2.2.2.2.2.2.2.2.1,c.2.2.2.2.2.2.2.2.2.2.2.2.1,c.2.2.2.2.2.2.2.2.2.2.2.2.2.1,c.2.2.2.2.2.2.2.2.2.2.2.2.2.2.1,G,c.2.2.2.2.2.2.2.2.2.2.2.2.2.2.2.2.1,c.2.2.2.2.2.2.2.2.2.2.2.2.2.2.2.2.2.1,c.2.2.2.2.2.2.2.2.2.2.2.2.2.2.2.2.2.2),aX M 282 Y282 V] w) (bA 1 o) 4 f1 o o o o (ag (ay ab)) bK) λs=>aI 8 (by kernel_rfl) o<|cB h λW d h=>AB hT (xy c.2.2.2.2.2.2.2.2.2.2.2.2.2.2.2.1 V.1 V.2.1 _ d) (by kernel_rfl) (λ_=>o) (λ_ r hr=>by rcases List.mem_singleton.1 hr with rfl;exact Res.free_own o) (.sub o (eF 3 o) (.val o (.val o .nil))) o λR=>?_
 refine za<|bj (aj (ar 1 o) (aj (ar 5 o) al)) ?_
 refine aa [1,2,35] o<|au 9 (.tup [⟨.raw (.slice none 0 0),(aC R 0)⟩,⟨(.int .i64),W.2⟩]) (aj (ar 1 o) (aj (ar 5 o) al)) o (by kernel_rfl) o λs=>au 10 (.one W51 (aC R 0)) s o (by kernel_rfl) o λs=>au 11 (ti W.2) s o (by kernel_rfl) o λs=>au 12 (.one W51 (aC R 0)) s o (by kernel_rfl) o λs=>au 13 (ti W.2) s o (by kernel_rfl) o λs=>eY (by kernel_rfl)<|zt<|zs<|zu<|q 2 [(5,.one W51 (aC R 0)),(39,tb (W.2 !=0))] [1,2] o<|za<|rI h o (λhc h=>zu<|q 1 [(4,tb false)] [] o<|zf<|zT<|az (R':=Res.clsor cP (.pointer (some ⟨f,0,none⟩)) c false) 1 o l9<|by cases h;exact aU o (.tmp o) (λ_ _ g=>g) (λ_ _ _=>(.cons _ (.cons_cons _ (.cons _ (.cons _ (.cons _ (.cons _ .slnil)))))))) λhc h=>?_
 refine zk<|zt<|jK h (γ:=Value) (λu g16=>[(1,ptr f 0),(2,ptr M 0)]) (λu g16=>[Res.own g16 56 Y56 u.1,Res.var f 30 W0 (u.2.1,u.2.2.1,u.2.2.2.1,u.2.2.2.2.1,C,H,u.2.2.2.2.2.2.2.1,u.2.2.2.2.2.2.2.2.1,u.2.2.2.2.2.2.2.2.2.1,u.2.2.2.2.2.2.2.2.2.2.1,u.2.2.2.2.2.2.2.2.2.2.2.1,u.2.2.2.2.2.2.2.2.2.2.2.2.1,u.2.2.2.2.2.2.2.2.2.2.2.2.2.1,u.2.2.2.2.2.2.2.2.2.2.2.2.2.2.1,u.2.2.2.2.2.2.2.2.2.2.2.2.2.2.2.1,g16,u.2.2.2.2.2.2.2.2.2.2.2.2.2.2.2.2.2.1,u.2.2.2.2.2.2.2.2.2.2.2.2.2.2.2.2.2.2.1,u.2.2.2.2.2.2.2.2.2.2.2.2.2.2.2.2.2.2.2),Res.own C 52 Y52 c.2.2.2.2.1,Res.own H 52 Y52 c.2.2.2.2.2.1,Res.var M 282 Y282 V]) (λa2 h=>?_) λu g16 h=>?_
 ·refine dF (by kernel_rfl)<|ae 0 (ptr f 0) o (by kernel_rfl) o<|ae 1 (ptr f 0) o (by kernel_rfl) o<|ae 2 (ptr f 0) o (by kernel_rfl) o<|ae 3 (.one W51 (aC R 0)) o (by kernel_rfl) o<|ae 4 (ptr f 0) o (by kernel_rfl) o<|ae 9 (ptr f 0) o (by kernel_rfl) o ?_
  refine br (i:=5) (j:=10) (by kernel_rfl) o o ?_ ?_
  ·refine p 1 [1,2,40,41,42,43,45,49] o<|za<|aa [1,2,40,41,42,43,45,49] o<|ae 6 (ptr f 8) o (by kernel_rfl) o ?_
   refine br (i:=7) (j:=10) (by kernel_rfl) o o ?_ ?_
   ·refine yl 1 f8 ty2 o o o tr o<|za<|aa [1,2,40,41,42,43,47,49] o<|ae 8 (ti (wrap .i64 (c.2.2.2.2.2.2.2.2.1+1))) o (by kernel_rfl) o<|af 10 (by kernel_rfl) o<|q 1 [(48,ti (wrap .i64 (c.2.2.2.2.2.2.2.2.1+1))),(50,ptr f 0)] [1,2,40,41,42,43] o<|za<|aa [1,2,40,41,42,43,48,50] o<|ae 11 (ptr f 11) o (by kernel_rfl) o<|af 12 (by kernel_rfl) o<|yl 1 f10 fj o o o tr o<|za<|aa [1,2,40,41,42,43,48,52] o<|af 13 (by kernel_rfl) o ?_
    refine q 1 [(52,.one Y24 c.2.2.2.2.2.2.2.2.2.2.1),(53,ptr f 0)] [1,2,41,42,43,48] o<|za<|aa [1,2,41,42,43,48,52,53] o<|ae 14 (ptr f 112) o (by kernel_rfl) o<|af 15 (by kernel_rfl) o<|st 1 f15 tx3 o o o o tr<|pk [0,0,0,0,1] o<|za<|aa [1,2,41,42,48,52] o<|af 16 (by kernel_rfl) o<|p 1 [1,2,42,48,52,55] o<|za<|aa [1,2,42,48,52,55] o<|ae 17 (ptr f 8) o (by kernel_rfl) o ?_
    refine af 18 (by kernel_rfl) o<|st 1 f8 ty2 o o o o tr<|nL o<|za<|aa [1,2,42,52] o<|af 19 (by kernel_rfl) o<|p 1 [1,2,52,57] o<|za<|aa [1,2,52,57] o<|ae 20 (ptr f 13) o (by kernel_rfl) o<|af 21 (by kernel_rfl) o<|st 1 f11 fj o o o o tr<|za<|aa [1,2] o ?_
    exact aN (by kernel_rfl)<|zt<|aa [1,2] o<|ah (W.1,(c.1,c.2.1,c.2.2.1,c.2.2.2.1,(),(),c.2.2.2.2.2.2.1,c.2.2.2.2.2.2.2.1,(wrap .i64 (c.2.2.2.2.2.2.2.2.1+1)),c.2.2.2.2.2.2.2.2.2.1,c.2.2.2.2.2.2.2.2.2.2.1,c.2.2.2.2.2.2.2.2.2.2.1,c.2.2.2.2.2.2.2.2.2.2.2.2.1,c.2.2.2.2.2.2.2.2.2.2.2.2.2.1,c.2.2.2.2.2.2.2.2.2.2.2.2.2.2.1,(),c.2.2.2.2.2.2.2.2.2.2.2.2.2.2.2.2.1,c.2.2.2.2.2.2.2.2.2.2.2.2.2.2.2.2.2.1,c.2.2.2.2.2.2.2.2.2.2.2.2.2.2.2.2.2.2)) (aC R 0) h o o
   refine p 1 [1,2,40,41,42,43,46,50] o<|za<|aa [1,2,40,41,42,43,46,50] o<|ae 11 (ptr f 11) o (by kernel_rfl) o ?_
   refine br (i:=7) (j:=12) (by kernel_rfl) o o ?_ ?_
   ·refine yl 1 f8 ty2 o o o tr o<|za<|aa [1,2,40,41,42,43,47,51] o<|ae 8 (ti (wrap .i64 (c.2.2.2.2.2.2.2.2.1+1))) o (by kernel_rfl) o<|af 12 (by kernel_rfl) o<|yl 1 f10 fj o o o tr o<|za<|aa [1,2,40,41,42,43,48,52] o<|af 13 (by kernel_rfl) o<|q 1 [(48,ti (wrap .i64 (c.2.2.2.2.2.2.2.2.1+1))),(52,.one Y24 c.2.2.2.2.2.2.2.2.2.2.1),(53,ptr f 0)] [1,2,41,42,43] o<|za<|aa [1,2,41,42,43,48,52,53] o<|ae 14 (ptr f 112) o (by kernel_rfl) o<|af 15 (by kernel_rfl) o ?_
    refine st 1 f15 tx3 o o o o tr<|pk [0,0,0,0,1] o<|za<|aa [1,2,41,42,48,52] o<|af 16 (by kernel_rfl) o<|p 1 [1,2,42,48,52,55] o<|za<|aa [1,2,42,48,52,55] o<|ae 17 (ptr f 8) o (by kernel_rfl) o<|af 18 (by kernel_rfl) o<|st 1 f8 ty2 o o o o tr<|nL o<|za<|aa [1,2,42,52] o ?_
    exact af 19 (by kernel_rfl) o<|p 1 [1,2,52,57] o<|za<|aa [1,2,52,57] o<|ae 20 (ptr f 13) o (by kernel_rfl) o<|af 21 (by kernel_rfl) o<|st 1 f11 fj o o o o tr<|za<|aa [1,2] o<|aN (by kernel_rfl)<|zt<|aa [1,2] o<|ah (W.1,(c.1,c.2.1,c.2.2.1,c.2.2.2.1,(),(),c.2.2.2.2.2.2.1,c.2.2.2.2.2.2.2.1,(wrap .i64 (c.2.2.2.2.2.2.2.2.1+1)),c.2.2.2.2.2.2.2.2.2.1,c.2.2.2.2.2.2.2.2.2.2.1,c.2.2.2.2.2.2.2.2.2.2.1,c.2.2.2.2.2.2.2.2.2.2.2.2.1,c.2.2.2.2.2.2.2.2.2.2.2.2.2.1,c.2.2.2.2.2.2.2.2.2.2.2.2.2.2.1,(),c.2.2.2.2.2.2.2.2.2.2.2.2.2.2.2.2.1,c.2.2.2.2.2.2.2.2.2.2.2.2.2.2.2.2.2.1,c.2.2.2.2.2.2.2.2.2.2.2.2.2.2.2.2.2.2)) (aC R 0) h o o
   refine yl 1 f10 fj o o o tr o<|za<|aa [1,2,40,41,42,43,46,52] o<|af 7 (by kernel_rfl) o<|yl 1 f8 ty2 o o o tr o<|za<|aa [1,2,40,41,42,43,47,52] o<|ae 8 (ti (wrap .i64 (c.2.2.2.2.2.2.2.2.1+1))) o (by kernel_rfl) o<|af 13 (by kernel_rfl) o<|q 1 [(48,ti (wrap .i64 (c.2.2.2.2.2.2.2.2.1+1))),(52,.one Y24 c.2.2.2.2.2.2.2.2.2.2.1),(53,ptr f 0)] [1,2,41,42,43] o<|za<|aa [1,2,41,42,43,48,52,53] o<|ae 14 (ptr f 112) o (by kernel_rfl) o<|af 15 (by kernel_rfl) o ?_
   refine st 1 f15 tx3 o o o o tr<|pk [0,0,0,0,1] o<|za<|aa [1,2,41,42,48,52] o<|af 16 (by kernel_rfl) o<|p 1 [1,2,42,48,52,55] o<|za<|aa [1,2,42,48,52,55] o<|ae 17 (ptr f 8) o (by kernel_rfl) o<|af 18 (by kernel_rfl) o<|st 1 f8 ty2 o o o o tr<|nL o<|za<|aa [1,2,42,52] o ?_
   exact af 19 (by kernel_rfl) o<|p 1 [1,2,52,57] o<|za<|aa [1,2,52,57] o<|ae 20 (ptr f 13) o (by kernel_rfl) o<|af 21 (by kernel_rfl) o<|st 1 f11 fj o o o o tr<|za<|aa [1,2] o<|aN (by kernel_rfl)<|zt<|aa [1,2] o<|ah (W.1,(c.1,c.2.1,c.2.2.1,c.2.2.2.1,(),(),c.2.2.2.2.2.2.1,c.2.2.2.2.2.2.2.1,(wrap .i64 (c.2.2.2.2.2.2.2.2.1+1)),c.2.2.2.2.2.2.2.2.2.1,c.2.2.2.2.2.2.2.2.2.2.1,c.2.2.2.2.2.2.2.2.2.2.1,c.2.2.2.2.2.2.2.2.2.2.2.2.1,c.2.2.2.2.2.2.2.2.2.2.2.2.2.1,c.2.2.2.2.2.2.2.2.2.2.2.2.2.2.1,(),c.2.2.2.2.2.2.2.2.2.2.2.2.2.2.2.2.1,c.2.2.2.2.2.2.2.2.2.2.2.2.2.2.2.2.2.1,c.2.2.2.2.2.2.2.2.2.2.2.2.2.2.2.2.2.2)) (aC R 0) h o o
  refine p 1 [1,2,40,41,42,43,44,50] o<|za<|aa [1,2,40,41,42,43,44,50] o<|ae 11 (ptr f 11) o (by kernel_rfl) o ?_
  refine br (i:=5) (j:=12) (by kernel_rfl) o o ?_ ?_
  ·refine p 1 [1,2,40,41,42,43,45,51] o<|za<|aa [1,2,40,41,42,43,45,51] o<|ae 6 (ptr f 8) o (by kernel_rfl) o ?_
   refine br (i:=7) (j:=12) (by kernel_rfl) o o ?_ ?_
   ·refine yl 1 f8 ty2 o o o tr o<|za<|aa [1,2,40,41,42,43,47,51] o<|ae 8 (ti (wrap .i64 (c.2.2.2.2.2.2.2.2.1+1))) o (by kernel_rfl) o<|af 12 (by kernel_rfl) o<|yl 1 f10 fj o o o tr o<|za<|aa [1,2,40,41,42,43,48,52] o<|af 13 (by kernel_rfl) o<|q 1 [(48,ti (wrap .i64 (c.2.2.2.2.2.2.2.2.1+1))),(52,.one Y24 c.2.2.2.2.2.2.2.2.2.2.1),(53,ptr f 0)] [1,2,41,42,43] o<|za<|aa [1,2,41,42,43,48,52,53] o<|ae 14 (ptr f 112) o (by kernel_rfl) o<|af 15 (by kernel_rfl) o ?_
    refine st 1 f15 tx3 o o o o tr<|pk [0,0,0,0,1] o<|za<|aa [1,2,41,42,48,52] o<|af 16 (by kernel_rfl) o<|p 1 [1,2,42,48,52,55] o<|za<|aa [1,2,42,48,52,55] o<|ae 17 (ptr f 8) o (by kernel_rfl) o<|af 18 (by kernel_rfl) o<|st 1 f8 ty2 o o o o tr<|nL o<|za<|aa [1,2,42,52] o ?_
    exact af 19 (by kernel_rfl) o<|p 1 [1,2,52,57] o<|za<|aa [1,2,52,57] o<|ae 20 (ptr f 13) o (by kernel_rfl) o<|af 21 (by kernel_rfl) o<|st 1 f11 fj o o o o tr<|za<|aa [1,2] o<|aN (by kernel_rfl)<|zt<|aa [1,2] o<|ah (W.1,(c.1,c.2.1,c.2.2.1,c.2.2.2.1,(),(),c.2.2.2.2.2.2.1,c.2.2.2.2.2.2.2.1,(wrap .i64 (c.2.2.2.2.2.2.2.2.1+1)),c.2.2.2.2.2.2.2.2.2.1,c.2.2.2.2.2.2.2.2.2.2.1,c.2.2.2.2.2.2.2.2.2.2.1,c.2.2.2.2.2.2.2.2.2.2.2.2.1,c.2.2.2.2.2.2.2.2.2.2.2.2.2.1,c.2.2.2.2.2.2.2.2.2.2.2.2.2.2.1,(),c.2.2.2.2.2.2.2.2.2.2.2.2.2.2.2.2.1,c.2.2.2.2.2.2.2.2.2.2.2.2.2.2.2.2.2.1,c.2.2.2.2.2.2.2.2.2.2.2.2.2.2.2.2.2.2)) (aC R 0) h o o
   refine yl 1 f10 fj o o o tr o<|za<|aa [1,2,40,41,42,43,46,52] o<|af 7 (by kernel_rfl) o<|yl 1 f8 ty2 o o o tr o<|za<|aa [1,2,40,41,42,43,47,52] o<|ae 8 (ti (wrap .i64 (c.2.2.2.2.2.2.2.2.1+1))) o (by kernel_rfl) o<|af 13 (by kernel_rfl) o<|q 1 [(48,ti (wrap .i64 (c.2.2.2.2.2.2.2.2.1+1))),(52,.one Y24 c.2.2.2.2.2.2.2.2.2.2.1),(53,ptr f 0)] [1,2,41,42,43] o<|za<|aa [1,2,41,42,43,48,52,53] o<|ae 14 (ptr f 112) o (by kernel_rfl) o<|af 15 (by kernel_rfl) o ?_
   refine st 1 f15 tx3 o o o o tr<|pk [0,0,0,0,1] o<|za<|aa [1,2,41,42,48,52] o<|af 16 (by kernel_rfl) o<|p 1 [1,2,42,48,52,55] o<|za<|aa [1,2,42,48,52,55] o<|ae 17 (ptr f 8) o (by kernel_rfl) o<|af 18 (by kernel_rfl) o<|st 1 f8 ty2 o o o o tr<|nL o<|za<|aa [1,2,42,52] o ?_
   exact af 19 (by kernel_rfl) o<|p 1 [1,2,52,57] o<|za<|aa [1,2,52,57] o<|ae 20 (ptr f 13) o (by kernel_rfl) o<|af 21 (by kernel_rfl) o<|st 1 f11 fj o o o o tr<|za<|aa [1,2] o<|aN (by kernel_rfl)<|zt<|aa [1,2] o<|ah (W.1,(c.1,c.2.1,c.2.2.1,c.2.2.2.1,(),(),c.2.2.2.2.2.2.1,c.2.2.2.2.2.2.2.1,(wrap .i64 (c.2.2.2.2.2.2.2.2.1+1)),c.2.2.2.2.2.2.2.2.2.1,c.2.2.2.2.2.2.2.2.2.2.1,c.2.2.2.2.2.2.2.2.2.2.1,c.2.2.2.2.2.2.2.2.2.2.2.2.1,c.2.2.2.2.2.2.2.2.2.2.2.2.2.1,c.2.2.2.2.2.2.2.2.2.2.2.2.2.2.1,(),c.2.2.2.2.2.2.2.2.2.2.2.2.2.2.2.2.1,c.2.2.2.2.2.2.2.2.2.2.2.2.2.2.2.2.2.1,c.2.2.2.2.2.2.2.2.2.2.2.2.2.2.2.2.2.2)) (aC R 0) h o o
  refine yl 1 f10 fj o o o tr o<|za<|aa [1,2,40,41,42,43,44,52] o<|af 5 (by kernel_rfl) o<|q 1 [(45,ptr f 0),(52,.one Y24 c.2.2.2.2.2.2.2.2.2.2.1)] [1,2,40,41,42,43] o<|za<|aa [1,2,40,41,42,43,45,52] o<|ae 6 (ptr f 8) o (by kernel_rfl) o<|af 7 (by kernel_rfl) o<|yl 1 f8 ty2 o o o tr o<|za<|aa [1,2,40,41,42,43,47,52] o<|ae 8 (ti (wrap .i64 (c.2.2.2.2.2.2.2.2.1+1))) o (by kernel_rfl) o<|af 13 (by kernel_rfl) o ?_
  refine q 1 [(48,ti (wrap .i64 (c.2.2.2.2.2.2.2.2.1+1))),(53,ptr f 0)] [1,2,41,42,43,52] o<|za<|aa [1,2,41,42,43,48,52,53] o<|ae 14 (ptr f 112) o (by kernel_rfl) o<|af 15 (by kernel_rfl) o<|st 1 f15 tx3 o o o o tr<|pk [0,0,0,0,1] o<|za<|aa [1,2,41,42,48,52] o<|af 16 (by kernel_rfl) o<|p 1 [1,2,42,48,52,55] o<|za<|aa [1,2,42,48,52,55] o<|ae 17 (ptr f 8) o (by kernel_rfl) o ?_
  refine af 18 (by kernel_rfl) o<|st 1 f8 ty2 o o o o tr<|nL o<|za<|aa [1,2,42,52] o<|af 19 (by kernel_rfl) o<|p 1 [1,2,52,57] o<|za<|aa [1,2,52,57] o<|ae 20 (ptr f 13) o (by kernel_rfl) o<|af 21 (by kernel_rfl) o<|st 1 f11 fj o o o o tr<|za<|aa [1,2] o ?_
  exact aN (by kernel_rfl)<|zt<|aa [1,2] o<|ah (W.1,(c.1,c.2.1,c.2.2.1,c.2.2.2.1,(),(),c.2.2.2.2.2.2.1,c.2.2.2.2.2.2.2.1,(wrap .i64 (c.2.2.2.2.2.2.2.2.1+1)),c.2.2.2.2.2.2.2.2.2.1,c.2.2.2.2.2.2.2.2.2.2.1,c.2.2.2.2.2.2.2.2.2.2.1,c.2.2.2.2.2.2.2.2.2.2.2.2.1,c.2.2.2.2.2.2.2.2.2.2.2.2.2.1,c.2.2.2.2.2.2.2.2.2.2.2.2.2.2.1,(),c.2.2.2.2.2.2.2.2.2.2.2.2.2.2.2.2.1,c.2.2.2.2.2.2.2.2.2.2.2.2.2.2.2.2.2.1,c.2.2.2.2.2.2.2.2.2.2.2.2.2.2.2.2.2.2)) (aC R 0) h o o
 refine zs<|dF (by kernel_rfl)<|ae 0 (ptr f 0) o (by kernel_rfl) o<|ae 1 (ptr f 0) o (by kernel_rfl) o<|ae 6 (ptr M 33) o (by kernel_rfl) o<|nY (fuel:=2) [2,3,4,5,7,8,9] #[true,true,true,true,true,true,true,true,true,true,false,false] (by kernel_rfl) ?_
 refine aA ai 2 [59,62,65] (E':=[(59,ptr f 0),(62,ptr f 16),(65,ptr M 33)]) o ?_
 refine iE h λhc h=>q_y (bY o o hc.1 hc.2 xq bK) o ?_
 refine q_y (aM 1 ((g13 (.fst (.elem 1 .here)))) o o (by first|rfl|(simp only[Pth.off,T.size];omega)) (ag (ag (ag (ag (ag (ag (ag (ag (ag (ag (ag (ag (ag (ay (ax (by omega) ab))))))))))))))) bK) o ?_
 refine q_y (aM 4 f2 o o o (ag (ag (ay ab))) bK) o ?_
 refine q_y (bc o E5 o o (.cons (.elem 0 .here) o o (ax (by omega) ab) (.cons (.elem 1 .here) o o (ax (by omega) ab) .nil))) o ?_
 refine aA ai 1 [67,68] (E':=[(67,.one W49 [(List.getD u.2.2.2.2.2.2.2.2.2.2.2.2.2.2.1 1 z32),V.2.2.1]),(68,ptr f 0)]) o ?_
 refine eX ?_
 refine aa [67,68] o<|ae 10 (ptr f 16) o (by kernel_rfl) o<|af 11 (by kernel_rfl) o<|st 1 f13 xn o o o o tr<|za<|aa [] o<|aN (by kernel_rfl)<|zt<|zu<|q 1 [(4,tb true)] [] o<|zf<|pk [1,1,1,0,0] o<|gl (x:=(u.2.1,u.2.2.1,u.2.2.2.1,u.2.2.2.2.1,c.2.2.2.2.1,c.2.2.2.2.2.1,u.2.2.2.2.2.2.2.1,u.2.2.2.2.2.2.2.2.1,u.2.2.2.2.2.2.2.2.2.1,u.2.2.2.2.2.2.2.2.2.2.1,u.2.2.2.2.2.2.2.2.2.2.2.1,u.2.2.2.2.2.2.2.2.2.2.2.2.1,u.2.2.2.2.2.2.2.2.2.2.2.2.2.1,[(List.getD u.2.2.2.2.2.2.2.2.2.2.2.2.2.2.1 1 z32),V.2.2.1],u.2.2.2.2.2.2.2.2.2.2.2.2.2.2.2.1,u.1,u.2.2.2.2.2.2.2.2.2.2.2.2.2.2.2.2.2.1,u.2.2.2.2.2.2.2.2.2.2.2.2.2.2.2.2.2.2.1,u.2.2.2.2.2.2.2.2.2.2.2.2.2.2.2.2.2.2.2)) ?_
 refine az (R':=Res.clsor cP (.pointer (some ⟨f,0,none⟩)) (u.2.1,u.2.2.1,u.2.2.2.1,u.2.2.2.2.1,c.2.2.2.2.1,c.2.2.2.2.2.1,u.2.2.2.2.2.2.2.1,u.2.2.2.2.2.2.2.2.1,u.2.2.2.2.2.2.2.2.2.1,u.2.2.2.2.2.2.2.2.2.2.1,u.2.2.2.2.2.2.2.2.2.2.2.1,u.2.2.2.2.2.2.2.2.2.2.2.2.1,u.2.2.2.2.2.2.2.2.2.2.2.2.2.1,[(List.getD u.2.2.2.2.2.2.2.2.2.2.2.2.2.2.1 1 z32),V.2.2.1],u.2.2.2.2.2.2.2.2.2.2.2.2.2.2.2.1,u.1,u.2.2.2.2.2.2.2.2.2.2.2.2.2.2.2.2.2.1,u.2.2.2.2.2.2.2.2.2.2.2.2.2.2.2.2.2.2.1,u.2.2.2.2.2.2.2.2.2.2.2.2.2.2.2.2.2.2.2) true) 0 o ng<|nL o ?_
 cases h
 exact bd o (.tmp o) (.cons_cons _ (.cons _ .slnil))
theorem p9(V:Value)(f c r)(h:kq f c=some r):Fn PP 296 [.one W50 f,tp V] [Res.cls cP V c] (λ_=>tb r.1) (λ_=>[Res.clsor cP V r.2 r.1]):=by
 unfold kq at h
 refine enter Tryz.func296 o 15 o o λF=>?_
 refine ll λu W C H hp=>?_
 subst hp
 refine gl (x:=c) ?_
 refine zu<|bD o o λR=>q 1 [(1,ptr u 0),(2,ptr R 0)] [] o<|za<|bv h (λM=>[]) (λM=>[Res.cls cP (.pointer (some ⟨u,0,none⟩)) M,Res.var R 284 W50 f]) (λG h=>?_) λM h=>?_
 ·refine zs<|pk [1,0] o<|jj λN J d=>?_
  refine zr<|p 3 [1,2,7] o<|yl 0 f16 ty3 o o o tr o<|q 1 [(9,tb (c.2.2.2.2.2.2.2.2.2.2.2.2.2.2.2.2.1==0))] [1,2] o<|za<|rI h o (λhc h=>?_) λhc h=>?_
  ·refine zr<|q 2 [(10,ptr u 0),(11,ptr R 0)] [] o<|yl 4 f0 ty3 o o o tr o<|q 2 [(12,ti f.1),(14,ptr u 113)] [] o<|st 0 f16 ty3 o o o o tr<|za<|gl (x:=(c.1,c.2.1,c.2.2.1,c.2.2.2.1,c.2.2.2.2.1,c.2.2.2.2.2.1,c.2.2.2.2.2.2.1,c.2.2.2.2.2.2.2.1,c.2.2.2.2.2.2.2.2.1,c.2.2.2.2.2.2.2.2.2.1,c.2.2.2.2.2.2.2.2.2.2.1,c.2.2.2.2.2.2.2.2.2.2.2.1,c.2.2.2.2.2.2.2.2.2.2.2.2.1,c.2.2.2.2.2.2.2.2.2.2.2.2.2.1,c.2.2.2.2.2.2.2.2.2.2.2.2.2.2.1,c.2.2.2.2.2.2.2.2.2.2.2.2.2.2.2.1,f.1,c.2.2.2.2.2.2.2.2.2.2.2.2.2.2.2.2.2.1,c.2.2.2.2.2.2.2.2.2.2.2.2.2.2.2.2.2.2)) ?_
   exact aa [] o<|ah (c.1,c.2.1,c.2.2.1,c.2.2.2.1,c.2.2.2.2.1,c.2.2.2.2.2.1,c.2.2.2.2.2.2.1,c.2.2.2.2.2.2.2.1,c.2.2.2.2.2.2.2.2.1,c.2.2.2.2.2.2.2.2.2.1,c.2.2.2.2.2.2.2.2.2.2.1,c.2.2.2.2.2.2.2.2.2.2.2.1,c.2.2.2.2.2.2.2.2.2.2.2.2.1,c.2.2.2.2.2.2.2.2.2.2.2.2.2.1,c.2.2.2.2.2.2.2.2.2.2.2.2.2.2.1,c.2.2.2.2.2.2.2.2.2.2.2.2.2.2.2.1,f.1,c.2.2.2.2.2.2.2.2.2.2.2.2.2.2.2.2.2.1,c.2.2.2.2.2.2.2.2.2.2.2.2.2.2.2.2.2.2) () h o o
  refine zk<|zt<|gl (x:=c) ?_
  exact aa [] o<|ah c () h o o
 refine zu<|q 1 [(4,tb true)] [] o<|zf<|az (R':=Res.clsor cP (.pointer (some ⟨u,0,none⟩)) M true) 0 o ng ?_
 cases h
 exact bd o (.tmp o) (.cons_cons _ (.cons _ .slnil))
theorem qa(V:Value)(u c r)(h:kr u c=some r):Fn PP 300 [.one W50 u,tp V] [Res.cls cP V c] (λ_=>tb r.1) (λ_=>[Res.clsor cP V r.2 r.1]):=by
 unfold kr at h
 refine enter Tryz.func300 o 17 o o λF=>?_
 refine ll λf R W C hp=>?_
 subst hp
 refine gl (x:=c) ?_
 refine zu<|bD o o λM=>q 1 [(1,ptr f 0),(2,ptr M 0)] [] o<|za<|zs<|zs<|pk [1,0] o<|jj λH G N=>?_
 refine eE (by kernel_rfl) (by kernel_rfl) ?_
 refine aA ai 1 [1,2,5] (E':=[(1,ptr f 0),(2,ptr M 0),(5,ptr M 0)]) o ?_
 refine q_y (aM 4 f0 o o o (ay ab) ty2) o ?_
 refine aA ai 3 [1,2,6,9] (E':=[(1,ptr f 0),(2,ptr M 0),(6,ti u.1),(9,ptr f 6)]) o ?_
 refine q_y (aM 0 f6 o o o (ag (ag (ag (ag (ag (ag (ay ab))))))) ty2) o ?_
 refine aA ai 1 [1,2,11] (E':=[(1,ptr f 0),(2,ptr M 0),(11,tb (u.1 !=c.2.2.2.2.2.2.1))]) o ?_
 refine eX ?_
 refine zt<|rI h o (λhc h=>zu<|q 1 [(4,tb false)] [] o<|zf<|zT<|az (R':=Res.clsor cP (.pointer (some ⟨f,0,none⟩)) c false) 0 o l9<|by cases h;exact aU o (.tmp o) (λ_ _ g=>g) (λ_ _ _=>(.cons_cons _ (.cons _ (.cons _ (.cons _ (.cons _ .slnil))))))) λhc h=>zy<|q 2 [(12,ptr f 0),(13,ptr M 0)] [] o<|yl 4 f0 ty2 o o o tr o<|q 2 [(14,ti u.1),(16,ptr f 114)] [] o<|st 0 f17 ty2 o o o o tr<|zz<|q 1 [(4,tb true)] [] o<|zf<|gl (x:=(c.1,c.2.1,c.2.2.1,c.2.2.2.1,c.2.2.2.2.1,c.2.2.2.2.2.1,c.2.2.2.2.2.2.1,c.2.2.2.2.2.2.2.1,c.2.2.2.2.2.2.2.2.1,c.2.2.2.2.2.2.2.2.2.1,c.2.2.2.2.2.2.2.2.2.2.1,c.2.2.2.2.2.2.2.2.2.2.2.1,c.2.2.2.2.2.2.2.2.2.2.2.2.1,c.2.2.2.2.2.2.2.2.2.2.2.2.2.1,c.2.2.2.2.2.2.2.2.2.2.2.2.2.2.1,c.2.2.2.2.2.2.2.2.2.2.2.2.2.2.2.1,c.2.2.2.2.2.2.2.2.2.2.2.2.2.2.2.2.1,u.1,c.2.2.2.2.2.2.2.2.2.2.2.2.2.2.2.2.2.2)) ?_
 refine az (R':=Res.clsor cP (.pointer (some ⟨f,0,none⟩)) (c.1,c.2.1,c.2.2.1,c.2.2.2.1,c.2.2.2.2.1,c.2.2.2.2.2.1,c.2.2.2.2.2.2.1,c.2.2.2.2.2.2.2.1,c.2.2.2.2.2.2.2.2.1,c.2.2.2.2.2.2.2.2.2.1,c.2.2.2.2.2.2.2.2.2.2.1,c.2.2.2.2.2.2.2.2.2.2.2.1,c.2.2.2.2.2.2.2.2.2.2.2.2.1,c.2.2.2.2.2.2.2.2.2.2.2.2.2.1,c.2.2.2.2.2.2.2.2.2.2.2.2.2.2.1,c.2.2.2.2.2.2.2.2.2.2.2.2.2.2.2.1,c.2.2.2.2.2.2.2.2.2.2.2.2.2.2.2.2.1,u.1,c.2.2.2.2.2.2.2.2.2.2.2.2.2.2.2.2.2.2) true) 0 o ng<|nL o ?_
 cases h
 exact bd o (.tmp o) (.cons_cons _ (.cons _ .slnil))
theorem qb(c:Value)(u f r)(h:m3 u f=some r):vn PP bF "escrow/record.apply" [.one Y212 u,.one W52 c] [Res.cls cP c f] (fun _=> .one .bool r.1) (fun _=>[Res.clsor cP c r.2 r.1]):=match u,h with
 | .inl z,h=>(Inv.tab (dk (k:=258) (by kernel_rfl) (rF c z f r h)))
 | .inr (.inl z),h=>(fg o (Inv.tab (dk (k:=274) (by kernel_rfl) (p8 c z f r h))))
 | .inr (.inr (.inl z)),h=>(fg o (fg o (Inv.tab (dk (k:=280) (by kernel_rfl) (rG c z f r h)))))
 | .inr (.inr (.inr (.inl z))),h=>(fg o (fg o (fg o (AF (k:=285) (by kernel_rfl) (pl c z f r h)))))
 | .inr (.inr (.inr (.inr (.inl z)))),h=>(fg o (fg o (fg o (fg o (Inv.tab (dk (k:=296) (by kernel_rfl) (p9 c z f r h)))))))
 | .inr (.inr (.inr (.inr (.inr (.inl z))))),h=>(fg o (fg o (fg o (fg o (fg o (Inv.tab (dk (k:=300) (by kernel_rfl) (qa c z f r h))))))))
 | .inr (.inr (.inr (.inr (.inr (.inr (_)))))),h=>by cases h
theorem pF(c H r)(h:mO c H=some r):FnT PP bF 71 [.one Y30 c,.one Y54 H] [] (λ_=> .tup [⟨Y30,r.1⟩,⟨(.int .i64),r.2⟩]) (λ_=>[]):=by
 unfold mO at h
 refine gP Tryz.func71 o 29 o o λF hT=>?_
 refine zu<|bD o o λu=>bD o o λO=>aD (t:=Y30) o gk o λZ=>q 1 [(2,ptr u 0),(3,ptr O 0),(4,ptr Z 0)] [] o<|zz<|yl 1 .here fm o o o tr o<|cB h λG a2 h=>av (lG _ _ a2) (ca o) o o<|p 1 [2,4,6] o<|za<|zs<|zu<|p 1 [2,4,6,9] o ?_
 refine y (s9 (.next (.next (.next (.next (.next (.next .here)))))) o o wx (iz G)) o ?_
 refine za<|rI h o (λhc h=>?_) λhc h=>?_
 ·refine zu<|y (bc o gk o o .nil) o ?_
  refine st 0 .here bW o o o o tr<|p 1 [4,5] o<|zf<|zT ?_
  cases h
  exact aF (rs:=[.cell 4 30,.tmp 5]) o (.cons (.cell 0 .here o o o ab bW) (.cons (.tmp o) (.nil))) o (λ_ vs g=>aH vs g) (λ_ _ _=>List.nil_sublist _)
 refine zk<|zt<|zs<|pk [2,0,0] o<|qr (z:=(.slice none 0 0)) f4 o λM=>?_
 refine pk [1,0,0,0] o<|qr (z:=(.slice none 0 0)) f5 o λV=>?_
 refine pk [1,0,0,0,0] o<|qr (z:=(.slice none 0 0)) f15 o λR=>?_
 refine Cg (bJ [aX u 30 W0 (c.1,c.2.1,c.2.2.1,c.2.2.2.1,M,V,c.2.2.2.2.2.2.1,c.2.2.2.2.2.2.2.1,c.2.2.2.2.2.2.2.2.1,c.2.2.2.2.2.2.2.2.2.1,c.2.2.2.2.2.2.2.2.2.2.1,c.2.2.2.2.2.2.2.2.2.2.2.1,c.2.2.2.2.2.2.2.2.2.2.2.2.1,c.2.2.2.2.2.2.2.2.2.2.2.2.2.1,c.2.2.2.2.2.2.2.2.2.2.2.2.2.2.1,R,c.2.2.2.2.2.2.2.2.2.2.2.2.2.2.2.2)]) 2 #[false,false,false,false,false,false,false,false,false,true,true,true,true,true,true] #[true,true,true,true,true,true,true,true,true,false,false,false,false,false,false] 9 6 (by kernel_rfl) (by kernel_rfl) (by kernel_rfl) o ?_
 refine au 0 (ptr u 4) (aj (ar 1 o) al) o (by kernel_rfl) o λs=>bz 1 (.one W51 M) s o (by kernel_rfl) (cD (S:=λw=>bJ [aX u 30 W0 (c.1,c.2.1,c.2.2.1,c.2.2.2.1,M,V,c.2.2.2.2.2.2.1,c.2.2.2.2.2.2.2.1,c.2.2.2.2.2.2.2.2.1,c.2.2.2.2.2.2.2.2.2.1,c.2.2.2.2.2.2.2.2.2.2.1,c.2.2.2.2.2.2.2.2.2.2.2.1,c.2.2.2.2.2.2.2.2.2.2.2.2.1,c.2.2.2.2.2.2.2.2.2.2.2.2.2.1,c.2.2.2.2.2.2.2.2.2.2.2.2.2.2.1,R,c.2.2.2.2.2.2.2.2.2.2.2.2.2.2.2.2)] w) (bA 0 o) 1 f4 o o o o (ag (ag (ag (ag (ay ab))))) tx2) λs=>au 3 (ptr u 5) s o (by kernel_rfl) o λs=>bz 4 (.one W51 V) s o (by kernel_rfl) (cD (S:=λw=>bJ [aX u 30 W0 (c.1,c.2.1,c.2.2.1,c.2.2.2.1,M,V,c.2.2.2.2.2.2.1,c.2.2.2.2.2.2.2.1,c.2.2.2.2.2.2.2.2.1,c.2.2.2.2.2.2.2.2.2.1,c.2.2.2.2.2.2.2.2.2.2.1,c.2.2.2.2.2.2.2.2.2.2.2.1,c.2.2.2.2.2.2.2.2.2.2.2.2.1,c.2.2.2.2.2.2.2.2.2.2.2.2.2.1,c.2.2.2.2.2.2.2.2.2.2.2.2.2.2.1,R,c.2.2.2.2.2.2.2.2.2.2.2.2.2.2.2.2)] w) (bA 0 o) 1 f5 o o o o (ag (ag (ag (ag (ag (ay ab)))))) tx2) λs=>au 6 (ptr u 112) s o (by kernel_rfl) o λs=>bz 7 (.one W51 R) s o (by kernel_rfl) (cD (S:=λw=>bJ [aX u 30 W0 (c.1,c.2.1,c.2.2.1,c.2.2.2.1,M,V,c.2.2.2.2.2.2.1,c.2.2.2.2.2.2.2.1,c.2.2.2.2.2.2.2.2.1,c.2.2.2.2.2.2.2.2.2.1,c.2.2.2.2.2.2.2.2.2.2.1,c.2.2.2.2.2.2.2.2.2.2.2.1,c.2.2.2.2.2.2.2.2.2.2.2.2.1,c.2.2.2.2.2.2.2.2.2.2.2.2.2.1,c.2.2.2.2.2.2.2.2.2.2.2.2.2.2.1,R,c.2.2.2.2.2.2.2.2.2.2.2.2.2.2.2.2)] w) (bA 0 o) 1 f15 o o o o (ag (ag (ag (ag (ag (ag (ag (ag (ag (ag (ag (ag (ag (ag (ag (ay ab)))))))))))))))) tx3) λs=>aI 2 (by kernel_rfl) o<|qs 13 3 o o ?_
 refine cB h λN a3 h=>rc [] (dp _ _ a3) (ca o) o o o λa8=>za<|bj (aj (ar 2 o) al) ?_
 refine aa [2,4,6,14,16,19] o<|aI 5 (by kernel_rfl) o<|qs 16 3 o o ?_
 refine cB h λJ a4 h=>rc [] (dp _ _ a4) (ca o) o o o λa9=>za<|bj (aj (ar 3 o) al) ?_
 refine aa [2,4,6,14,17,19] o<|aI 8 (by kernel_rfl) o<|qs 19 2 o o ?_
 refine cB h λd a5 h=>rc [] (ip _ _ a5) (ca o) o o o λb0=>za<|bj (aj (ar 4 o) al) ?_
 refine aa [2,4,6,14,17,20] o<|eY (by kernel_rfl)<|AD ?_
 refine ae 9 (ptr u 4) o (by kernel_rfl) o<|af 10 (by kernel_rfl) o<|st 4 f4 tx2 o o o o tr<|pk [0,0,0,0,0,0,1,1] o<|za<|aa [2,4,6,17,20] o<|ae 11 (ptr u 5) o (by kernel_rfl) o<|af 12 (by kernel_rfl) o<|st 4 f5 tx2 o o o o tr<|nL o<|pk [0,0,0,0,0,1,1] o<|za<|aa [2,4,6,20] o<|ae 13 (ptr u 112) o (by kernel_rfl) o ?_
 refine af 14 (by kernel_rfl) o<|st 4 f15 tx3 o o o o tr<|pk [0,0,0,1,1,1] o<|za<|aa [2,4,6] o<|aN (by kernel_rfl)<|zt<|zs<|zu<|p 1 [2,4,24] o<|pk [3,2,1,0,0,0] o<|gl (x:=(c.1,c.2.1,c.2.2.1,c.2.2.2.1,N,J,c.2.2.2.2.2.2.1,c.2.2.2.2.2.2.2.1,c.2.2.2.2.2.2.2.2.1,c.2.2.2.2.2.2.2.2.2.1,c.2.2.2.2.2.2.2.2.2.2.1,c.2.2.2.2.2.2.2.2.2.2.2.1,c.2.2.2.2.2.2.2.2.2.2.2.2.1,c.2.2.2.2.2.2.2.2.2.2.2.2.2.1,c.2.2.2.2.2.2.2.2.2.2.2.2.2.2.1,d,c.2.2.2.2.2.2.2.2.2.2.2.2.2.2.2.2.1,c.2.2.2.2.2.2.2.2.2.2.2.2.2.2.2.2.2.1,c.2.2.2.2.2.2.2.2.2.2.2.2.2.2.2.2.2.2)) ?_
 refine cB h λf a6 h=>riT hT (by rfl) [0] (qb (.pointer (some ⟨u,0,none⟩)) G (c.1,c.2.1,c.2.2.1,c.2.2.2.1,N,J,c.2.2.2.2.2.2.1,c.2.2.2.2.2.2.2.1,c.2.2.2.2.2.2.2.2.1,c.2.2.2.2.2.2.2.2.2.1,c.2.2.2.2.2.2.2.2.2.2.1,c.2.2.2.2.2.2.2.2.2.2.2.1,c.2.2.2.2.2.2.2.2.2.2.2.2.1,c.2.2.2.2.2.2.2.2.2.2.2.2.2.1,c.2.2.2.2.2.2.2.2.2.2.2.2.2.2.1,d,c.2.2.2.2.2.2.2.2.2.2.2.2.2.2.2.2.1,c.2.2.2.2.2.2.2.2.2.2.2.2.2.2.2.2.2.1,c.2.2.2.2.2.2.2.2.2.2.2.2.2.2.2.2.2.2) _ a6) o o o λ_=>?_
 refine q 1 [(26,tb (!f.1))] [2,4] o<|za<|rI h o (λhc h=>?_) λhc h=>?_
 ·refine zu<|y (bc o gk o o .nil) o ?_
  refine st 1 .here bW o o o o tr<|p 1 [4,5] o<|zf<|zT ?_
  cases h
  exact aF (rs:=[.cell 4 30,.tmp 5]) o (.cons (.cell 1 .here o o o ab bW) (.cons (.tmp o) (.nil))) o (λ_ vs g=>aH vs g) (λ_ _ _=>List.nil_sublist _)
 refine zk<|zt<|zs ?_
 obtain⟨a7,h⟩:=cr h
 refine az (R':=Res.cls cP (.pointer (some ⟨u,0,none⟩)) f.2) 0 o (AC a7)<|jj λm C W=>?_
 refine pk [1,0,0,0,0,0] o<|fL (v:=m) (T0:=W0) (x0:=(f.2.1,f.2.2.1,f.2.2.2.1,f.2.2.2.2.1,m,C,f.2.2.2.2.2.2.2.1,f.2.2.2.2.2.2.2.2.1,f.2.2.2.2.2.2.2.2.2.1,f.2.2.2.2.2.2.2.2.2.2.1,f.2.2.2.2.2.2.2.2.2.2.2.1,f.2.2.2.2.2.2.2.2.2.2.2.2.1,f.2.2.2.2.2.2.2.2.2.2.2.2.2.1,f.2.2.2.2.2.2.2.2.2.2.2.2.2.2.1,f.2.2.2.2.2.2.2.2.2.2.2.2.2.2.2.1,W,f.2.2.2.2.2.2.2.2.2.2.2.2.2.2.2.2.2.1,f.2.2.2.2.2.2.2.2.2.2.2.2.2.2.2.2.2.2.1,f.2.2.2.2.2.2.2.2.2.2.2.2.2.2.2.2.2.2.2)) (t:=Y52) f4 o o ?_
 refine pk [1,0,0,0,0] o<|fL (v:=C) (T0:=(.pair (.int .i64) (.pair (.int .i64) (.pair (.int .i64) (.pair (.int .i64) (.pair W65 W15)))))) (x0:=(f.2.1,f.2.2.1,f.2.2.2.1,f.2.2.2.2.1,f.2.2.2.2.2.1,C,f.2.2.2.2.2.2.2.1,f.2.2.2.2.2.2.2.2.1,f.2.2.2.2.2.2.2.2.2.1,f.2.2.2.2.2.2.2.2.2.2.1,f.2.2.2.2.2.2.2.2.2.2.2.1,f.2.2.2.2.2.2.2.2.2.2.2.2.1,f.2.2.2.2.2.2.2.2.2.2.2.2.2.1,f.2.2.2.2.2.2.2.2.2.2.2.2.2.2.1,f.2.2.2.2.2.2.2.2.2.2.2.2.2.2.2.1,W,f.2.2.2.2.2.2.2.2.2.2.2.2.2.2.2.2.2.1,f.2.2.2.2.2.2.2.2.2.2.2.2.2.2.2.2.2.2.1,f.2.2.2.2.2.2.2.2.2.2.2.2.2.2.2.2.2.2.2)) (t:=Y52) f5 o o ?_
 refine pk [1,0,0,0] o<|fL (v:=W) (T0:=W3) (x0:=(f.2.1,f.2.2.1,f.2.2.2.1,f.2.2.2.2.1,f.2.2.2.2.2.1,f.2.2.2.2.2.2.1,f.2.2.2.2.2.2.2.1,f.2.2.2.2.2.2.2.2.1,f.2.2.2.2.2.2.2.2.2.1,f.2.2.2.2.2.2.2.2.2.2.1,f.2.2.2.2.2.2.2.2.2.2.2.1,f.2.2.2.2.2.2.2.2.2.2.2.2.1,f.2.2.2.2.2.2.2.2.2.2.2.2.2.1,f.2.2.2.2.2.2.2.2.2.2.2.2.2.2.1,f.2.2.2.2.2.2.2.2.2.2.2.2.2.2.2.1,W,f.2.2.2.2.2.2.2.2.2.2.2.2.2.2.2.2.2.1,f.2.2.2.2.2.2.2.2.2.2.2.2.2.2.2.2.2.2.1,f.2.2.2.2.2.2.2.2.2.2.2.2.2.2.2.2.2.2.2)) (t:=Y56) f15 o o ?_
 refine zr<|yl 0 .here bW o o o tr o<|st 1 .here bW o o o o tr<|nL o<|p 1 [4,5] o<|zf ?_
 cases h
 exact aF (rs:=[.cell 4 30,.tmp 5]) o (.cons (.cell 1 .here o o o ab bW) (.cons (.tmp o) (.nil))) o (λ_ vs g=>aH vs g) (λ_ _ _=>List.nil_sublist _)
theorem vz(W M r)(h:pU W M=some r):FnT PP bF 66 [.one Y30 W,ts M] [] (λ_=> .tup [⟨Y30,r.1⟩,⟨(.int .i64),r.2⟩]) (λ_=>[]):=by
 unfold pU at h
 refine gP Tryz.func66 o 36 o o λF hT=>?_
 refine zu<|bD o o λV=>aD (t:=Y30) o gk o λu=>q 1 [(1,ts M),(2,ptr V 0),(4,ptr u 0)] [] o<|za<|zs<|zu<|q 2 [(10,tb (M==[]))] [1,2,4] o<|za<|rI h o (λhc h=>?_) λhc h=>?_
 ·refine zu<|y (bc o gk o o .nil) o ?_
  refine st 0 .here bW o o o o tr<|p 1 [4,5] o<|zf<|zT ?_
  cases h
  exact aF (rs:=[.cell 4 30,.tmp 5]) o (.cons (.cell 0 .here o o o ab bW) (.cons (.tmp o) (.nil))) o (λ_ vs g=>aH vs g) (λ_ _ _=>List.nil_sublist _)
 refine zk<|zt<|bv h (λC=>[(2,ptr V 0),(4,ptr u 0)]) (λC=>[Res.var u 30 Y30 (0,0,0,0,[],[],0,0,0,(0,0,()),(0,0,()),(0,0,()),false,(List.replicate 2 (z32:List (Int))),z32,[],0,0,()),Res.var V 30 Y30 C]) (λG h=>?_) λC h=>?_
 ·refine zb<|aa [1,2,4] o<|aY (γ:=Unit) (λ(c:List Int×Z29) _=>[(1,ts c.1),(2,ptr V 0),(4,ptr u 0)]) (λ(c:List Int×Z29) _=>[Res.var u 30 Y30 (0,0,0,0,[],[],0,0,0,(0,0,()),(0,0,()),(0,0,()),false,(List.replicate 2 (z32:List (Int))),z32,[],0,0,()),Res.var V 30 Y30 c.2]) (lh G) (M,W) () h o o ?_
  clear h
  intro H c gg h
  cases H with
  |zero=>cases h
  |succ H=>
  simp only[lh]at h
  refine zs<|zu<|q 2 [(1,ts c.1),(13,tb (c.1 !=[]))] [2,4] o<|za<|rI h o (λhc h=>?_) λhc h=>?_
  ·refine zk<|zt<|zb<|zu<|q 1 [(15,ts c.1)] [1,2,4] o<|cB h λf N h=>av (vv _ _ N) (ca o) o o<|q 4 [(17,.one Y54 f.1),(18,ti f.2.1),(19,ti f.2.2)] [1,2,4] o<|aD (t:=Y54) o jL o λJ=>st 0 .here fm o o o o tr<|q 2 [(6,ptr J 0),(7,ti f.2.1),(8,ti f.2.2)] [1,2,4] o<|za<|zs<|zu ?_
   refine q 2 [(21,tb (f.2.2 !=0))] [1,2,4,6,7] o<|za<|rI h o (λhc h=>?_) λhc h=>?_
   ·refine zu<|y (bc o gk o o .nil) o ?_
    refine st 1 .here bW o o o o tr<|p 1 [4,5] o<|zf<|zT<|zB<|zT<|zB<|zT ?_
    cases h
    exact aF (rs:=[.cell 4 30,.tmp 5]) o (.cons (.cell 1 .here o o o ab bW) (.cons (.tmp o) (.nil))) o (λ_ vs g=>aH vs g) (λ_ _ _=>List.nil_sublist _)
   refine zk<|zt<|zs<|zu<|yl 2 .here bW o o o tr o<|yl 0 .here fm o o o tr o<|cB h λR d h=>rcT hT [] (pF _ _ _ d) (ca o) o o o λ_=>q 3 [(27,.one Y30 R.1),(28,ti R.2)] [1,2,4,7] o<|st 2 .here bW o o o o tr<|q 1 [(8,ti R.2)] [1,2,4,7] o<|zz<|q 2 [(30,tb (R.2 !=0))] [1,2,4,7] o<|za ?_
   refine rI h o (λhc h=>?_) λhc h=>?_
   ·refine zu<|y (bc o gk o o .nil) o ?_
    refine st 1 .here bW o o o o tr<|p 1 [4,5] o<|zf<|zT<|zB<|zT<|zB<|zT ?_
    cases h
    exact aF (rs:=[.cell 4 30,.tmp 5]) o (.cons (.cell 1 .here o o o ab bW) (.cons (.tmp o) (.nil))) o (λ_ vs g=>aH vs g) (λ_ _ _=>List.nil_sublist _)
   refine zk<|zt<|zr<|q 2 [(32,ts c.1),(33,ti f.2.1)] [2,4] o<|iE h λhc h=>y (iR (i:=f.2.1) (j:=(List.length c.1:Int)) ai o o o hc.1 hc.2.1 hc.2.2 o) o ?_
   refine q 1 [(1,ts (List.drop (Int.toNat f.2.1) (List.take (Int.toNat (List.length c.1:Int)) c.1)))] [2,4] o ?_
   obtain⟨m,e,h⟩:=ak h;rw[e]
   exact zn<|zi<|zt<|pk [1,1] o<|aa [1,2,4] o<|aR (m,R.1) () (Nat.lt_succ_self _) h o o
  exact zx<|ze<|ze<|zq<|zt<|aa [2,4] o<|ah c.2 () h o o
 refine zu<|yl 1 .here bW o o o tr o<|st 0 .here bW o o o o tr<|q 1 [(4,ptr u 0),(5,ti 0)] [] o<|zf ?_
 cases h
 exact aF (rs:=[.cell 4 30,.tmp 5]) o (.cons (.cell 0 .here o o o ab bW) (.cons (.tmp o) (.nil))) o (λ_ vs g=>aH vs g) (λ_ _ _=>List.nil_sublist _)
theorem aL(M:Value)(c f r)(h:fR c f=some r):Fn PP 134 [tp M,ts f] [Res.disk PP dI M c] (λ_=>ti r.1) (λ_=>[Res.disk PP dI M r.2]):=by
 unfold fR at h
 refine enter Tryz.func134 o 21 o o λF=>?_
 refine gE λV u hp=>?_
 subst hp
 refine zu<|q 1 [(0,ptr V 0),(1,ts f)] [] o<|za<|zs<|zu<|p 2 [0,1,8,9] o<|cB h λR W h=>gx (Lo:=[]) (fZ V u c f _ W) (by kernel_rfl) (List.Perm.refl _) o o λC=>?_
 refine p 5 [0,1,6] o<|zz<|p 2 [0,1,6,14] o<|za<|rI h o (λhc h=>zu<|q 2 [(4,ti R)] [] o<|zf<|zT<|az (R':=Res.dfiles PP dI u c.2.1) 1 o fp<|cv (P:=PP) (I:=dI) (D:=c)<|by cases h;exact aU o (.tmp o) (λ_ _ g=>g) (λ_ _ _=>(.cons_cons _ .slnil))) λhc h=>zy<|p 3 [1,18] o<|yl 0 f1 l0 o o o tr o<|q 1 [(19,.one W59 u),(20,ts f)] [] o<|az (R':=Res.dfiles PP dI u c.2.1) 1 o fp<|pk [1,0] o<|Ad dK o o Tryz.underlying121 o ?_
 refine zz<|q 1 [(4,ti 0)] [] o<|zf<|pk [1,0] o<|cv (P:=PP) (I:=dI) (D:=(c.1,(cH .str f c.2.1),c.2.2.1,c.2.2.2.1,c.2.2.2.2.1,c.2.2.2.2.2.1,c.2.2.2.2.2.2)) ?_
 cases h
 exact bd o (.tmp o) (.cons_cons _ .slnil)
theorem sS(c r)(h:pz c=some r):bn PP 168 [ti c] (ts r):=by
 unfold pz at h
 refine enter Tryz.func168 o 27 o o λF=>?_
 refine zu<|q 1 [(0,ti c)] [] o<|zz<|cB h λd V h=>rc [] (l5 _ V) (ca o) o o o λu=>p 1 [0,3] o<|zz<|p 2 [3,7,8] o<|cB h λm R h=>rc [0] (cF _ _ _ _ R) (ca o) o o o λ_=>zz<|p 1 [3,11] o<|cB h λM W h=>rc [0] (gm _ _ _ W) (ca o) o o o λ_=>?_
 refine q 5 [(4,ts M.1)] [3] o<|zz<|q 2 [(15,tp u),(16,ts M.1)] [3] o<|cB h λO C h=>av (rz _ _ C) (ca o) o o<|cB h λw H h=>rc [0] (mT _ _ _ _ H) (ca o) o o o λ_=>zz<|q 1 [(20,tp u)] [] o<|cB h λf G h=>rc [0] (gm _ _ _ G) (ca o) o o o λ_=>q 4 [(4,ts f.1)] [] o<|zz<|q 1 [(24,ts f.1)] [] o ?_
 refine cB h λN J h=>av (lF _ _ _ J) (ca o) o o<|iE h λhc h=>y (iX o o hc) o ?_
 refine q 1 [(2,ts (f.1++N))] [] o<|zf ?_
 cases h
 exact aB o (.tmp o)
theorem qI(c r)(h:nQ c=some r):bn PP 176 [ts c] (tb r):=by
 unfold nQ at h
 refine enter Tryz.func176 o 27 o o λF=>?_
 refine zu<|q 1 [(0,ts c)] [] o<|za<|bv h (λM=>[(0,ts c)]) (λM=>[]) (λW h=>?_) λM h=>?_
 ·refine zu<|q 3 [(5,ti (List.length c:Int)),(6,ti 0)] [0] o<|za<|zb<|aa [0,5,6] o<|aY (γ:=Unit) (λ(f:Int) _=>[(0,ts c),(5,ti (List.length c:Int)),(6,ti f)]) (λ(f:Int) _=>[]) (li c W) 0 () h o o ?_
  clear h
  intro V f gg h
  cases V with
  |zero=>cases h
  |succ V=>
  simp only[li]at h
  refine zu<|q 1 [(6,ti f),(7,tb (decide (f<(List.length c:Int))))] [0,5] o<|za<|zs<|rI h o (λhc h=>?_) λhc h=>?_
  ·refine zk<|zt<|zs<|zb<|zu<|p 2 [0,3,5,6] o<|zz<|p 2 [0,3,5,6,9,10] o<|iE h λhc h=>y (ge ai o o hc.1 hc.2 o) o ?_
   refine q 2 [(13,tb (decide ((List.getD c (Int.toNat f) 0)<33)))] [0,3,5,6] o ?_
   obtain⟨C,e,h⟩:=ak h;rw[e]
   refine bL h 5 (λR=>[(0,ts c),(5,ti (List.length c:Int)),(6,ti f),(18,tb R)]) (λ_=>[]) (λH h=>?_) λR h=>?_
   ·cases C
    ·replace h:=ifF h
     refine p 2 [0,5,6,13,14,15] o<|ap (by rfl) o ?_
     refine iE h λhc h=>y (ge ai o o hc.1 hc.2 o) o ?_
     exact q 2 [(18,tb (decide ((List.getD c (Int.toNat f) 0)>126)))] [0,5,6] o<|zn<|aa [0,5,6,18] o<|zt<|ah (decide ((List.getD c (Int.toNat f) 0)>126)) () h o o
    replace h:=ifT h
    exact p 5 [0,5,6,18] o<|zn<|aa [0,5,6,18] o<|zt<|ah true () h o o
   exact za<|rI h o (λhc h=>zu<|q 1 [(2,tb false)] [] o<|zf<|zB<|zT<|zT<|zB<|zT<|by cases h;exact aB o (.tmp o)) λhc h=>zk<|zi<|zt<|zr<|q 2 [(0,ts c),(5,ti (List.length c:Int)),(6,ti (wrap .i64 (f+1)))] [] o<|za<|aa [0,5,6] o<|aR (wrap .i64 (f+1)) () (Nat.lt_succ_self _) h o o
  exact zx<|ze<|ze<|zq<|zt<|aa [0] o<|ah () () h o o
 refine zu<|q 3 [(0,ts c),(22,tb (c !=[]))] [] o ?_
 obtain⟨u,e,h⟩:=ak h;rw[e]
 refine aJ 4 [(26,tb (u&&(decide ((List.length c:Int)≤32))))] [] (?_) ?_
 ·clear h
  cases u
  ·exact q 4 [(26,tb false)] [] o<|aa [26] o<|za<|ao () o o
  exact q 4 [(26,tb (decide ((List.length c:Int)≤32)))] [] o<|aa [26] o<|za<|ao () o o
 refine q 1 [(2,tb (u&&(decide ((List.length c:Int)≤32))))] [] o<|zf ?_
 cases h
 exact aB o (.tmp o)
theorem lH(M:Nat)(f:Value)(V:List Int)(R:Value)(c r)(h:nn c=some r):Fn PP 177 [ptr M 0] [Res.var M 123 DT (c.1,f,c.2.2.1,c.2.2.2.1,c.2.2.2.2.1,c.2.2.2.2.2.1,c.2.2.2.2.2.2,()),Res.dat PP dI f c.2.1 V R] (λ_=>ti r) (λ_=>[Res.var M 123 DT (c.1,f,c.2.2.1,c.2.2.2.1,c.2.2.2.2.1,c.2.2.2.2.2.1,c.2.2.2.2.2.2,()),Res.dat PP dI f c.2.1 V R]):=by
 unfold nn at h
 refine enter Tryz.func177 o 23 o o λF=>?_
 refine zu<|q 1 [(0,ptr M 0)] [] o<|zz<|p 1 [0,3] o<|za<|bv h (λW=>[(3,ti W)]) (λW=>[Res.dat PP dI f c.2.1 V R,Res.var M 123 DT (c.1,f,c.2.2.1,c.2.2.2.1,c.2.2.2.2.1,c.2.2.2.2.2.1,c.2.2.2.2.2.2,())]) (λO h=>?_) λW h=>?_
 ·refine zu<|p 3 [3,8] o<|yl 0 f1 l0 o o o tr o<|pk [1,0] o<|Am dK o Tryz.underlying121 o λC d=>?_
  refine za<|zb<|cB h λrr hall h=>aa [3,10] o<|pH (step:=ii c) (λ_ _=>True) (qh c) d tr hall (γ:=Unit) (λ(u:Int) _=>[(3,ti u),(10,tp C)]) (λH (u:Int) _=>[Res.diter PP dI f C c.2.1 H none (some (V,R)),Res.var M 123 DT (c.1,f,c.2.2.1,c.2.2.2.1,c.2.2.2.2.1,c.2.2.2.2.2.1,c.2.2.2.2.2.2,())]) () o o λH u gg hend hone=>?_
  refine zu ?_
  refine vk dK o o (λht=>?_) (λA9 m B11 w G hk=>?_)
  ·obtain rfl:=hend ht
   refine xO ?_
   refine q 1 [(3,ti u),(12,tb false)] [] o<|za<|zs ?_
   refine gO (b:=false) o (λhc=>?_) (λhc=>?_)
   ·cases hc
   exact zx<|ze<|ze<|zq<|zt<|aa [3] o<|ah u () h o o
  obtain⟨Z,N⟩:=hone A9 m B11 G
  clear h
  have h:=N
  unfold ii at h
  refine q 1 [(3,ti u),(10,tp C),(12,tb true)] [] o<|za<|zs ?_
  refine gO (b:=true) o (λhc=>?_) (λhc=>?_)
  ·refine zk<|zt<|zb<|zu<|y (tZ o 0 o) o ?_
   refine p 2 [3,5,10] o<|za<|cB h λf14 J h=>vP J λa1 a2 a3 a4 hq=>?_
   rw[hq]
   clear hq
   refine zr<|p 4 [10,15,18] o<|yl 0 f0 tx1 o o o tr o<|y (cn ai 1 o o o) o ?_
   refine q 2 [(3,ti (wrap .i64 (u+(List.length f14.1:Int))))] [10] o ?_
   obtain⟨n19,e,h⟩:=ak h;rw[e]
   refine zn<|zi<|zt<|t6 (P:=PP) (I:=dI) J ?_
   refine az (R':=Res.diter PP dI f C c.2.1 (A9++B11) none (some (V,R))) 0 o qZ<|aa [3,10] o ?_
   obtain rfl:=Option.some.inj h
   exact s8 () G N o o
  cases hc
 refine zu<|q 2 [(2,ti W)] [] o<|zf ?_
 cases h
 exact pk [1,0] o<|bd o (.tmp o) (.cons_cons _ (.cons_cons _ .slnil))
theorem kQ(p0:Value)(M W f u r)(h:je M W f u=some r):Fn PP 130 [tp p0,ts W,ti f,ts u] [Res.disk PP dI p0 M] (λ_=>ti r.1) (λ_=>[Res.disk PP dI p0 r.2]):=by
 unfold je at h
 refine enter Tryz.func130 o 144 o o λF=>?_
 refine gE λC V hp=>?_
 subst hp
 refine zu<|q 1 [(0,ptr C 0),(1,ts W),(2,ti f),(3,ts u)] [] o<|za<|zs<|zu<|p 3 [0,1,2,3,17] o<|yl 0 f5 ty4 o o o tr o<|za<|rI h o (λhc h=>zu<|q 1 [(8,ti 9)] [] o<|zf<|zT<|cv (P:=PP) (I:=dI) (D:=M)<|by cases h;exact aU o (.tmp o) (λ_ _ g=>g) (λ_ _ _=>(.cons_cons _ .slnil))) λhc h=>zy<|p 3 [0,1,2,3,22] o<|yl 0 f1 l0 o o o tr o<|p 1 [0,1,2,3,23,24] o<|pk [1,0] o ?_
 refine yr dK o o Tryz.underlying121 zNV o λq3=>?_
 refine q 5 [(9,tp q3),(10,tb (Option.isSome (aQ .str W M.2.1)))] [0,1,2,3] o ?_
 obtain⟨a6,e,h⟩:=ak h;rw[e]
 refine zz<|p 1 [0,1,2,3,9,10,11] o<|za<|jK h (γ:=Value) (λG g7=>[(0,ptr C 0),(1,ts W),(2,ti f),(3,ts u),(9,tp g7),(10,tb a6),(11,ti G)]) (λG g7=>[Res.dat PP dI V M.2.1 W g7,Res.var C 123 DT (M.1,V,M.2.2.1,M.2.2.2.1,M.2.2.2.2.1,M.2.2.2.2.2.1,M.2.2.2.2.2.2,())]) (λk5 h=>?_) λG g7 h=>?_
 ·refine zu<|p 1 [0,1,2,3,9,10,11,28] o<|za<|rI h o (λhc h=>?_) λhc h=>?_
  ·refine cB h λd4 c5 h=>hY dK c5 λd5 d9 e0 e1 hq=>?_
   rw[hq]
   clear hq
   refine zr<|p 3 [0,1,2,3,9,10,31] o<|yl 0 f0 tx1 o o o tr o<|y (cn ai 1 o o o) o ?_
   refine q 1 [(11,ti (List.length d4.1:Int))] [0,1,2,3,9,10] o ?_
   obtain⟨d6,e,h⟩:=ak h;rw[e]
   refine za<|iZ (P:=PP) (I:=dI) dK c5 ?_
   exact aa [0,1,2,3,9,10,11] o<|ah d6 (.pointer (some ⟨d5,0,none⟩)) h o o
  exact zk<|zt<|aa [0,1,2,3,9,10,11] o<|ah 0 q3 h o o
 refine zs<|zb<|zu<|q 1 [(0,ptr C 0),(1,ts W),(2,ti f),(3,ts u),(9,tp g7),(10,tb a6),(11,ti G),(35,ts W)] [] o<|cB h λr8 d7 h=>av (qI _ _ d7) (ca o) o o<|p 2 [0,1,2,3,9,10,11,38] o ?_
 obtain⟨b9,e,h⟩:=ak h;rw[e]
 refine aJ 3 [(0,ptr C 0),(1,ts W),(2,ti f),(3,ts u),(9,tp g7),(10,tb a6),(11,ti G),(41,tb (b9||(decide (f<0))))] [Res.dat PP dI V M.2.1 W g7,Res.var C 123 DT (M.1,V,M.2.2.1,M.2.2.2.1,M.2.2.2.2.1,M.2.2.2.2.2.1,M.2.2.2.2.2.2,())] (?_) ?_
 ·clear h
  cases b9
  ·exact p 3 [0,1,2,3,9,10,11,41] o<|za<|ao () o o
  exact p 3 [0,1,2,3,9,10,11,41] o<|za<|ao () o o
 refine q 1 [(0,ptr C 0),(1,ts W),(2,ti f),(3,ts u),(9,tp g7),(10,tb a6),(11,ti G),(42,tb (b9||(decide (f<0))))] [] o ?_
 obtain⟨c3,e,h⟩:=ak h;rw[e]
 refine aJ 4 [(0,ptr C 0),(1,ts W),(2,ti f),(3,ts u),(9,tp g7),(10,tb a6),(11,ti G),(46,tb (c3||(decide (f>G))))] [Res.dat PP dI V M.2.1 W g7,Res.var C 123 DT (M.1,V,M.2.2.1,M.2.2.2.1,M.2.2.2.2.1,M.2.2.2.2.2.1,M.2.2.2.2.2.2,())] (?_) ?_
 ·clear h
  cases c3
  ·exact p 4 [0,1,2,3,9,10,11,46] o<|za<|ao () o o
  exact p 4 [0,1,2,3,9,10,11,46] o<|za<|ao () o o
 refine q 1 [(0,ptr C 0),(1,ts W),(2,ti f),(3,ts u),(9,tp g7),(10,tb a6),(11,ti G),(34,tb (c3||(decide (f>G))))] [] o<|za<|rI h o (λhc h=>zu<|q 1 [(8,ti 1)] [] o<|zf<|zB<|zT<|az (R':=Res.dfiles PP dI V M.2.1) 0 o cp<|pk [1,0] o<|cv (P:=PP) (I:=dI) (D:=M)<|by cases h;exact aU o (.tmp o) (λ_ _ g=>g) (λ_ _ _=>(.cons_cons _ .slnil))) λhc h=>zu<|q 6 [(47,tb (decide ((wrap .i64 (f+(List.length u:Int)))>1048576)))] [0,1,2,3,9,10,11] o<|za<|rI h o (λhc h=>zu<|q 1 [(8,ti 3)] [] o<|zf<|zB<|zT<|az (R':=Res.dfiles PP dI V M.2.1) 0 o cp<|pk [1,0] o<|cv (P:=PP) (I:=dI) (D:=M)<|by cases h;exact aU o (.tmp o) (λ_ _ g=>g) (λ_ _ _=>(.cons_cons _ .slnil))) λhc h=>zu<|p 3 [0,1,2,3,9,10,11,56] o ?_
 obtain⟨d8,e,h⟩:=ak h;rw[e]
 refine bL h 7 (λc4=>[(0,ptr C 0),(1,ts W),(2,ti f),(3,ts u),(9,tp g7),(10,tb a6),(11,ti G),(63,tb c4)]) (λ_=>[Res.dat PP dI V M.2.1 W g7,Res.var C 123 DT (M.1,V,M.2.2.1,M.2.2.2.1,M.2.2.2.2.1,M.2.2.2.2.2.1,M.2.2.2.2.2.2,())]) (λe2 h=>?_) λc4 h=>?_
 ·cases d8
  ·replace h:=ifF h
   exact p 7 [0,1,2,3,9,10,11,63] o<|zn<|aa [0,1,2,3,9,10,11,63] o<|zt<|ah false () h o o
  replace h:=ifT h
  refine p 3 [0,1,2,3,9,10,11,56,59] o<|ap (by rfl) o ?_
  refine yl 1 f1 l0 o o o tr o<|ap (by rfl) o ?_
  refine iE h λhc h=>y (Dm dK 0 o o Tryz.underlying121 hc) o ?_
  exact q 2 [(63,tb (decide ((List.length M.2.1:Int)≥16)))] [0,1,2,3,9,10,11] o<|zn<|aa [0,1,2,3,9,10,11,63] o<|zt<|ah (decide ((List.length M.2.1:Int)≥16)) () h o o
 refine q 1 [(0,ptr C 0),(1,ts W),(2,ti f),(3,ts u),(9,tp g7),(10,tb a6),(11,ti G),(53,tb c4)] [] o<|za<|rI h o (λhc h=>zu<|q 1 [(8,ti 6)] [] o<|zf<|zB<|zT<|az (R':=Res.dfiles PP dI V M.2.1) 0 o cp<|pk [1,0] o<|cv (P:=PP) (I:=dI) (D:=M)<|by cases h;exact aU o (.tmp o) (λ_ _ g=>g) (λ_ _ _=>(.cons_cons _ .slnil))) λhc h=>zs<|dF (by kernel_rfl)<|ae 0 (ptr C 0) o (by kernel_rfl) o<|ae 2 (ti f) o (by kernel_rfl) o<|ae 3 (ts u) o (by kernel_rfl) o<|ae 4 (ti (List.length u:Int)) o (by kernel_rfl) o<|ae 5 (ti (wrap .i64 (f+(List.length u:Int)))) o (by kernel_rfl) o<|ae 6 (ti G) o (by kernel_rfl) o<|ae 7 (ti (wrap .i64 ((wrap .i64 (f+(List.length u:Int))) - G))) o (by kernel_rfl) o<|fH 8 (ti (max 0 (wrap .i64 ((wrap .i64 (f+(List.length u:Int))) - G)))) o (by kernel_rfl) (yX o o)<|ae 10 (ptr C 0) o (by kernel_rfl) o ?_
 refine br (i:=1) (j:=11) (by kernel_rfl) o o ?_ ?_
 ·refine pk [1,0] o<|cB h λa4 b0 h=>gx (Lo:=[]) (lH C V W g7 M _ b0) (by kernel_rfl) (List.Perm.refl _) o o λ_=>?_
  refine za<|aa [0,1,2,3,9,10,11,66,73,75] o<|ae 9 (ti (wrap .i64 (a4+(max 0 (wrap .i64 ((wrap .i64 (f+(List.length u:Int))) - G)))))) o (by kernel_rfl) o<|af 11 (by kernel_rfl) o<|q 1 [(74,ti (wrap .i64 (a4+(max 0 (wrap .i64 ((wrap .i64 (f+(List.length u:Int))) - G)))))),(76,ptr C 0)] [0,1,2,3,9,10,11] o<|za<|aa [0,1,2,3,9,10,11,74,76] o<|ae 12 (ptr C 0) o (by kernel_rfl) o<|af 13 (by kernel_rfl) o<|yl 0 f0 ty3 o o o tr o<|za<|aa [0,1,2,3,9,10,11,74,78] o<|ae 14 (tb (decide ((wrap .i64 (a4+(max 0 (wrap .i64 ((wrap .i64 (f+(List.length u:Int))) - G)))))>M.1))) o (by kernel_rfl) o<|ae 15 (tb (decide ((wrap .i64 (a4+(max 0 (wrap .i64 ((wrap .i64 (f+(List.length u:Int))) - G)))))>M.1))) o (by kernel_rfl) o ?_
  refine aN (by kernel_rfl)<|zt<|rI h o (λhc h=>zu<|q 1 [(8,ti 41)] [] o<|zf<|zB<|zT<|az (R':=Res.dfiles PP dI V M.2.1) 1 o cp<|cv (P:=PP) (I:=dI) (D:=M)<|by cases h;exact aU o (.tmp o) (λ_ _ g=>g) (λ_ _ _=>(.cons_cons _ .slnil))) λhc h=>zk<|zi<|zt<|zs<|zu<|p 1 [0,1,2,3,9,10,11,80] o<|cB h λc b1 h=>gx (Lo:=[Res.dat PP dI V M.2.1 W g7]) (iy C V M 1 _ b1) (by kernel_rfl) (List.Perm.refl _) o o λ_=>?_
  refine q 1 [(12,ti c.1)] [0,1,2,3,9,10,11] o<|zz<|q 2 [(83,tb (c.1 !=0))] [0,1,2,3,9,10,11,12] o<|za<|rI h o (λhc h=>zu<|q 2 [(8,ti c.1)] [] o<|zf<|zT<|az (R':=Res.dfiles PP dI V M.2.1) 1 o cp<|cv (P:=PP) (I:=dI) (D:=(c.2.1,M.2.1,c.2.2.2.1,c.2.2.2.2.1,c.2.2.2.2.2.1,c.2.2.2.2.2.2.1,c.2.2.2.2.2.2.2))<|by cases h;exact aU o (.tmp o) (λ_ _ g=>g) (λ_ _ _=>(.cons_cons _ .slnil))) λhc h=>zk<|zt<|jK h (γ:=Value) (λO g18=>[(2,ti f),(3,ts u),(9,tp g18),(11,ti G)]) (λO g18=>[Res.dat PP dI V O W g18,Res.var C 123 DT (c.2.1,V,c.2.2.2.1,c.2.2.2.2.1,c.2.2.2.2.2.1,c.2.2.2.2.2.2.1,c.2.2.2.2.2.2.2,())]) (λc6 h=>?_) λO g18 h=>?_
  ·refine zu<|p 2 [0,1,2,3,9,11,86] o<|za<|rI h o (λhc h=>?_) λhc h=>?_
   ·refine zu<|nX 3 (.int .i64) (.int .i64) o λc7=>?_
    refine iD (P:=PP) (I:=dI) (keys:=[]) 0 o o ?_
    refine y (bc o zF o o (.cons f2 o o (ag (ag (ay ab))) .nil)) o ?_
    refine bD o o λb3=>cj (.slice none 0 0) o 5 (.int .u8) ?_
    refine cj (.slice none 0 0) o 5 (.int .u8) ?_
    refine p 1 [0,1,2,3,9,11] o<|za<|zr<|p 3 [1,2,3,9,11,92] o<|yl 4 f1 l0 o o o tr o<|p 2 [2,3,9,11,93,94,95] o<|az (R':=Res.dfiles PP dI V M.2.1) 5 o cp<|iE h λhc h=>pk [2,0,0,0,1,0] o<|pw (P:=PP) (I:=dI) dK o o o Tryz.underlying121 hc ?_
    exact za<|aa [2,3,9,11] o<|ah (fa .str W ([],[],[]) M.2.1) (.pointer (some ⟨b3,0,none⟩)) h o o
   exact zk<|zt<|aa [2,3,9,11] o<|pk [1,0] o<|ah M.2.1 g7 h o o
  refine jK h (γ:=Value) (λN g21=>[(2,ti f),(3,ts u),(9,tp g21)]) (λN g21=>[Res.dat PP dI V N W g21,Res.var C 123 DT (c.2.1,V,c.2.2.2.1,c.2.2.2.2.1,c.2.2.2.2.2.1,c.2.2.2.2.2.2.1,c.2.2.2.2.2.2.2,())]) (λc8 h=>?_) λN g21 h=>?_
  ·refine zu<|q 5 [(2,ti f),(3,ts u),(9,tp g18),(11,ti G),(13,ti (wrap .i64 (f+(List.length u:Int))))] [] o ?_
   obtain⟨b4,e,h⟩:=ak h;rw[e]
   refine zz<|p 3 [2,3,9,11,13,102] o<|za<|rI h o (λhc h=>?_) λhc h=>?_
   ·refine cB h λa5 b5 h=>hY dK b5 λb6 c9 d0 d1 hq=>?_
    rw[hq]
    clear hq
    refine zr<|p 4 [2,3,9,11,13,103,106] o<|yl 0 f0 tx1 o o o tr o<|p 3 [2,3,9,103,107,110] o<|iE h λhc h=>sq ai zf5 1 o o o hc.1 o el5 Tryz.underlying3 hc.2 o λd2=>?_
    refine p 2 [2,3,9,111,113] o<|st 0 f0 tx1 o o o o tr<|za<|gN (P:=PP) (I:=dI) dK ?_
    exact aa [2,3,9] o<|ah (di .str W ((a5.1++List.replicate (Int.toNat (wrap .i64 (b4 - G))) 0),a5.2.1,a5.2.2) O) (.pointer (some ⟨b6,0,none⟩)) h o o
   exact zk<|zt<|aa [2,3,9] o<|ah O g18 h o o
  refine zs<|cB h λf22 b7 h=>hY dK b7 λH J m d hq=>?_
  rw[hq]
  clear hq
  refine zr<|q 3 [(2,ti f),(3,ts u),(9,ptr H 0),(116,ptr H 0)] [] o<|yl 0 f0 tx1 o o o tr o<|p 1 [2,3,9,117,118] o ?_
  obtain⟨Z,h⟩:=cr h
  refine y (jA ai (i:=f) (j:=(List.length f22.1:Int)) o (eF 1 o) o o Z.1 Z.2.1 Z.2.2 o ty5) o ?_
  refine q 1 [(119,.one W51 (fP (T.size (.int .u8)) J (Int.toNat f) (Int.toNat (List.length f22.1:Int)))),(120,ts u)] [2,3,9] o<|vi ai 1 (i:=(Int.toNat f)) o o o (by have:=Z.2.1;omega) o ty5 o λd3=>?_
  refine za<|bv h (λw=>[]) (λw=>[Res.var H 237 FT (J,m,d,()),Res.own J 5 (.int .u8) (bR f22.1 (Int.toNat f) u),Res.own m 5 (.int .u8) f22.2.1,Res.dirty PP dI d w,Res.dhole PP dI V N W (.pointer (some ⟨H,0,none⟩)),Res.var C 123 DT (c.2.1,V,c.2.2.2.1,c.2.2.2.2.1,c.2.2.2.2.2.1,c.2.2.2.2.2.2.1,c.2.2.2.2.2.2.2,())]) (λb8 h=>?_) λw h=>?_
  ·refine zu<|p 3 [2,3,9,14] o ?_
   obtain⟨c0,e,h⟩:=ak h;rw[e]
   refine za<|zb<|aa [2,3,9,14] o<|aY (γ:=Unit) (λ(R:Int×List Int) _=>[(2,ti f),(3,ts u),(9,ptr H 0),(14,ti R.1)]) (λ(R:Int×List Int) _=>[Res.var H 237 FT (J,m,d,()),Res.own J 5 (.int .u8) (bR f22.1 (Int.toNat f) u),Res.own m 5 (.int .u8) f22.2.1,Res.dirty PP dI d R.2,Res.dhole PP dI V N W (.pointer (some ⟨H,0,none⟩)),Res.var C 123 DT (c.2.1,V,c.2.2.2.1,c.2.2.2.2.1,c.2.2.2.2.2.1,c.2.2.2.2.2.2.1,c.2.2.2.2.2.2.2,())]) (dY f u b8) (c0,f22.2.2) () h o o ?_
   clear h
   intro a7 R gg h
   cases a7 with
   |zero=>cases h
   |succ a7=>
   simp only[dY]at h
   refine zs<|zu<|q 7 [(14,ti R.1),(130,tb (decide ((wrap .i64 (R.1*64))<(wrap .i64 (f+(List.length u:Int))))))] [2,3,9] o ?_
   obtain⟨a8,e,h⟩:=ak h;rw[e]
   refine p 1 [2,3,9,14,131] o<|aJ 3 [(2,ti f),(3,ts u),(9,ptr H 0),(14,ti R.1),(134,tb (a8&&(u !=[])))] [Res.var H 237 FT (J,m,d,()),Res.own J 5 (.int .u8) (bR f22.1 (Int.toNat f) u),Res.own m 5 (.int .u8) f22.2.1,Res.dirty PP dI d R.2,Res.dhole PP dI V N W (.pointer (some ⟨H,0,none⟩)),Res.var C 123 DT (c.2.1,V,c.2.2.2.1,c.2.2.2.2.1,c.2.2.2.2.2.1,c.2.2.2.2.2.2.1,c.2.2.2.2.2.2.2,())] (?_) ?_
   ·clear h
    cases a8
    ·exact p 3 [2,3,9,14,134] o<|za<|ao () o o
    exact q 3 [(134,tb (u !=[]))] [2,3,9,14] o<|aa [2,3,9,14,134] o<|za<|ao () o o
   refine za<|rI h o (λhc h=>?_) λhc h=>?_
   ·refine zk<|zt<|zs<|zb<|zr<|q 3 [(2,ti f),(3,ts u),(9,ptr H 0),(14,ti R.1),(139,ptr H 2)] [] o<|yl 0 f2 pA o o o tr o<|q 1 [(140,.one W59 d),(141,ti R.1)] [2,3,9,14] o<|mm 3 o λc1 a9=>?_
    refine y (wQ 3 o o o sP Tryz.underlying235 zf3 o) o ?_
    refine q 1 [(143,ti (wrap .i64 (((aQ (.int .i64) R.1 c1).getD 0)+1)))] [2,3,9,14,140,141] o<|iE h λhc h=>lK 3 o o o o sP Tryz.underlying235 (by rw[←a9,List.length_map]at hc;exact hc) ?_
    refine iD (P:=PP) (I:=dI) (keys:=qW R.1 R.2) 3 o (by rw[sr,a9]) ?_
    refine zn<|zi<|zt<|zr<|q 3 [(14,ti (wrap .i64 (R.1+1)))] [2,3,9] o ?_
    obtain⟨c2,e,h⟩:=ak h;rw[e]
    exact za<|aa [2,3,9,14] o<|aR (c2,(qW R.1 R.2)) () (Nat.lt_succ_self _) h o o
   exact zx<|ze<|ze<|zq<|zt<|aa [] o<|ah R.2 () h o o
  refine zu<|q 1 [(8,ti 0)] [] o<|zf<|gN (P:=PP) (I:=dI) dK ?_
  refine az (R':=Res.dfiles PP dI V (di .str W ((bR f22.1 (Int.toNat f) u),f22.2.1,w) N)) 0 o cp<|pk [1,0] o<|cv (P:=PP) (I:=dI) (D:=(c.2.1,(di .str W ((bR f22.1 (Int.toNat f) u),f22.2.1,w) N),c.2.2.2.1,c.2.2.2.2.1,c.2.2.2.2.2.1,c.2.2.2.2.2.2.1,c.2.2.2.2.2.2.2)) ?_
  cases h
  exact bd o (.tmp o) (.cons_cons _ .slnil)
 refine q 1 [(65,ptr C 0),(73,ti (max 0 (wrap .i64 ((wrap .i64 (f+(List.length u:Int))) - G)))),(76,ptr C 0)] [0,1,2,3,9,10,11] o<|za<|aa [0,1,2,3,9,10,11,65,73,76] o<|ae 12 (ptr C 0) o (by kernel_rfl) o ?_
 refine br (i:=1) (j:=13) (by kernel_rfl) o o ?_ ?_
 ·refine pk [1,0] o<|cB h λa4 b0 h=>gx (Lo:=[]) (lH C V W g7 M _ b0) (by kernel_rfl) (List.Perm.refl _) o o λ_=>?_
  refine za<|aa [0,1,2,3,9,10,11,66,73,77] o<|ae 9 (ti (wrap .i64 (a4+(max 0 (wrap .i64 ((wrap .i64 (f+(List.length u:Int))) - G)))))) o (by kernel_rfl) o<|af 13 (by kernel_rfl) o<|yl 0 f0 ty3 o o o tr o<|za<|aa [0,1,2,3,9,10,11,74,78] o<|ae 14 (tb (decide ((wrap .i64 (a4+(max 0 (wrap .i64 ((wrap .i64 (f+(List.length u:Int))) - G)))))>M.1))) o (by kernel_rfl) o<|ae 15 (tb (decide ((wrap .i64 (a4+(max 0 (wrap .i64 ((wrap .i64 (f+(List.length u:Int))) - G)))))>M.1))) o (by kernel_rfl) o<|aN (by kernel_rfl)<|zt<|rI h o (λhc h=>zu<|q 1 [(8,ti 41)] [] o<|zf<|zB<|zT<|az (R':=Res.dfiles PP dI V M.2.1) 1 o cp<|cv (P:=PP) (I:=dI) (D:=M)<|by cases h;exact aU o (.tmp o) (λ_ _ g=>g) (λ_ _ _=>(.cons_cons _ .slnil))) λhc h=>?_
  refine zk<|zi<|zt<|zs<|zu<|p 1 [0,1,2,3,9,10,11,80] o<|cB h λc b1 h=>gx (Lo:=[Res.dat PP dI V M.2.1 W g7]) (iy C V M 1 _ b1) (by kernel_rfl) (List.Perm.refl _) o o λ_=>?_
  refine q 1 [(12,ti c.1)] [0,1,2,3,9,10,11] o<|zz<|q 2 [(83,tb (c.1 !=0))] [0,1,2,3,9,10,11,12] o<|za<|rI h o (λhc h=>zu<|q 2 [(8,ti c.1)] [] o<|zf<|zT<|az (R':=Res.dfiles PP dI V M.2.1) 1 o cp<|cv (P:=PP) (I:=dI) (D:=(c.2.1,M.2.1,c.2.2.2.1,c.2.2.2.2.1,c.2.2.2.2.2.1,c.2.2.2.2.2.2.1,c.2.2.2.2.2.2.2))<|by cases h;exact aU o (.tmp o) (λ_ _ g=>g) (λ_ _ _=>(.cons_cons _ .slnil))) λhc h=>zk<|zt<|jK h (γ:=Value) (λO g18=>[(2,ti f),(3,ts u),(9,tp g18),(11,ti G)]) (λO g18=>[Res.dat PP dI V O W g18,Res.var C 123 DT (c.2.1,V,c.2.2.2.1,c.2.2.2.2.1,c.2.2.2.2.2.1,c.2.2.2.2.2.2.1,c.2.2.2.2.2.2.2,())]) (λc6 h=>?_) λO g18 h=>?_
  ·refine zu<|p 2 [0,1,2,3,9,11,86] o<|za<|rI h o (λhc h=>?_) λhc h=>?_
   ·refine zu<|nX 3 (.int .i64) (.int .i64) o λc7=>?_
    refine iD (P:=PP) (I:=dI) (keys:=[]) 0 o o ?_
    refine y (bc o zF o o (.cons f2 o o (ag (ag (ay ab))) .nil)) o ?_
    refine bD o o λb3=>cj (.slice none 0 0) o 5 (.int .u8) ?_
    refine cj (.slice none 0 0) o 5 (.int .u8) ?_
    refine p 1 [0,1,2,3,9,11] o<|za<|zr<|p 3 [1,2,3,9,11,92] o<|yl 4 f1 l0 o o o tr o<|p 2 [2,3,9,11,93,94,95] o<|az (R':=Res.dfiles PP dI V M.2.1) 5 o cp<|iE h λhc h=>pk [2,0,0,0,1,0] o<|pw (P:=PP) (I:=dI) dK o o o Tryz.underlying121 hc ?_
    exact za<|aa [2,3,9,11] o<|ah (fa .str W ([],[],[]) M.2.1) (.pointer (some ⟨b3,0,none⟩)) h o o
   exact zk<|zt<|aa [2,3,9,11] o<|pk [1,0] o<|ah M.2.1 g7 h o o
  refine jK h (γ:=Value) (λN g21=>[(2,ti f),(3,ts u),(9,tp g21)]) (λN g21=>[Res.dat PP dI V N W g21,Res.var C 123 DT (c.2.1,V,c.2.2.2.1,c.2.2.2.2.1,c.2.2.2.2.2.1,c.2.2.2.2.2.2.1,c.2.2.2.2.2.2.2,())]) (λc8 h=>?_) λN g21 h=>?_
  ·refine zu<|q 5 [(2,ti f),(3,ts u),(9,tp g18),(11,ti G),(13,ti (wrap .i64 (f+(List.length u:Int))))] [] o ?_
   obtain⟨b4,e,h⟩:=ak h;rw[e]
   refine zz<|p 3 [2,3,9,11,13,102] o<|za<|rI h o (λhc h=>?_) λhc h=>?_
   ·refine cB h λa5 b5 h=>hY dK b5 λb6 c9 d0 d1 hq=>?_
    rw[hq]
    clear hq
    refine zr<|p 4 [2,3,9,11,13,103,106] o<|yl 0 f0 tx1 o o o tr o<|p 3 [2,3,9,103,107,110] o<|iE h λhc h=>sq ai zf5 1 o o o hc.1 o el5 Tryz.underlying3 hc.2 o λd2=>?_
    refine p 2 [2,3,9,111,113] o<|st 0 f0 tx1 o o o o tr<|za<|gN (P:=PP) (I:=dI) dK ?_
    exact aa [2,3,9] o<|ah (di .str W ((a5.1++List.replicate (Int.toNat (wrap .i64 (b4 - G))) 0),a5.2.1,a5.2.2) O) (.pointer (some ⟨b6,0,none⟩)) h o o
   exact zk<|zt<|aa [2,3,9] o<|ah O g18 h o o
  refine zs<|cB h λf22 b7 h=>hY dK b7 λH J m d hq=>?_
  rw[hq]
  clear hq
  refine zr<|q 3 [(2,ti f),(3,ts u),(9,ptr H 0),(116,ptr H 0)] [] o<|yl 0 f0 tx1 o o o tr o<|p 1 [2,3,9,117,118] o ?_
  obtain⟨Z,h⟩:=cr h
  refine y (jA ai (i:=f) (j:=(List.length f22.1:Int)) o (eF 1 o) o o Z.1 Z.2.1 Z.2.2 o ty5) o ?_
  refine q 1 [(119,.one W51 (fP (T.size (.int .u8)) J (Int.toNat f) (Int.toNat (List.length f22.1:Int)))),(120,ts u)] [2,3,9] o<|vi ai 1 (i:=(Int.toNat f)) o o o (by have:=Z.2.1;omega) o ty5 o λd3=>?_
  refine za<|bv h (λw=>[]) (λw=>[Res.var H 237 FT (J,m,d,()),Res.own J 5 (.int .u8) (bR f22.1 (Int.toNat f) u),Res.own m 5 (.int .u8) f22.2.1,Res.dirty PP dI d w,Res.dhole PP dI V N W (.pointer (some ⟨H,0,none⟩)),Res.var C 123 DT (c.2.1,V,c.2.2.2.1,c.2.2.2.2.1,c.2.2.2.2.2.1,c.2.2.2.2.2.2.1,c.2.2.2.2.2.2.2,())]) (λb8 h=>?_) λw h=>?_
  ·refine zu<|p 3 [2,3,9,14] o ?_
   obtain⟨c0,e,h⟩:=ak h;rw[e]
   refine za<|zb<|aa [2,3,9,14] o<|aY (γ:=Unit) (λ(R:Int×List Int) _=>[(2,ti f),(3,ts u),(9,ptr H 0),(14,ti R.1)]) (λ(R:Int×List Int) _=>[Res.var H 237 FT (J,m,d,()),Res.own J 5 (.int .u8) (bR f22.1 (Int.toNat f) u),Res.own m 5 (.int .u8) f22.2.1,Res.dirty PP dI d R.2,Res.dhole PP dI V N W (.pointer (some ⟨H,0,none⟩)),Res.var C 123 DT (c.2.1,V,c.2.2.2.1,c.2.2.2.2.1,c.2.2.2.2.2.1,c.2.2.2.2.2.2.1,c.2.2.2.2.2.2.2,())]) (dY f u b8) (c0,f22.2.2) () h o o ?_
   clear h
   intro a7 R gg h
   cases a7 with
   |zero=>cases h
   |succ a7=>
   simp only[dY]at h
   refine zs<|zu<|q 7 [(14,ti R.1),(130,tb (decide ((wrap .i64 (R.1*64))<(wrap .i64 (f+(List.length u:Int))))))] [2,3,9] o ?_
   obtain⟨a8,e,h⟩:=ak h;rw[e]
   refine p 1 [2,3,9,14,131] o<|aJ 3 [(2,ti f),(3,ts u),(9,ptr H 0),(14,ti R.1),(134,tb (a8&&(u !=[])))] [Res.var H 237 FT (J,m,d,()),Res.own J 5 (.int .u8) (bR f22.1 (Int.toNat f) u),Res.own m 5 (.int .u8) f22.2.1,Res.dirty PP dI d R.2,Res.dhole PP dI V N W (.pointer (some ⟨H,0,none⟩)),Res.var C 123 DT (c.2.1,V,c.2.2.2.1,c.2.2.2.2.1,c.2.2.2.2.2.1,c.2.2.2.2.2.2.1,c.2.2.2.2.2.2.2,())] (?_) ?_
   ·clear h
    cases a8
    ·exact p 3 [2,3,9,14,134] o<|za<|ao () o o
    exact q 3 [(134,tb (u !=[]))] [2,3,9,14] o<|aa [2,3,9,14,134] o<|za<|ao () o o
   refine za<|rI h o (λhc h=>?_) λhc h=>?_
   ·refine zk<|zt<|zs<|zb<|zr<|q 3 [(2,ti f),(3,ts u),(9,ptr H 0),(14,ti R.1),(139,ptr H 2)] [] o<|yl 0 f2 pA o o o tr o<|q 1 [(140,.one W59 d),(141,ti R.1)] [2,3,9,14] o<|mm 3 o λc1 a9=>?_
    refine y (wQ 3 o o o sP Tryz.underlying235 zf3 o) o ?_
    refine q 1 [(143,ti (wrap .i64 (((aQ (.int .i64) R.1 c1).getD 0)+1)))] [2,3,9,14,140,141] o<|iE h λhc h=>lK 3 o o o o sP Tryz.underlying235 (by rw[←a9,List.length_map]at hc;exact hc) ?_
    refine iD (P:=PP) (I:=dI) (keys:=qW R.1 R.2) 3 o (by rw[sr,a9]) ?_
    refine zn<|zi<|zt<|zr<|q 3 [(14,ti (wrap .i64 (R.1+1)))] [2,3,9] o ?_
    obtain⟨c2,e,h⟩:=ak h;rw[e]
    exact za<|aa [2,3,9,14] o<|aR (c2,(qW R.1 R.2)) () (Nat.lt_succ_self _) h o o
   exact zx<|ze<|ze<|zq<|zt<|aa [] o<|ah R.2 () h o o
  refine zu<|q 1 [(8,ti 0)] [] o<|zf<|gN (P:=PP) (I:=dI) dK ?_
  refine az (R':=Res.dfiles PP dI V (di .str W ((bR f22.1 (Int.toNat f) u),f22.2.1,w) N)) 0 o cp<|pk [1,0] o<|cv (P:=PP) (I:=dI) (D:=(c.2.1,(di .str W ((bR f22.1 (Int.toNat f) u),f22.2.1,w) N),c.2.2.2.1,c.2.2.2.2.1,c.2.2.2.2.2.1,c.2.2.2.2.2.2.1,c.2.2.2.2.2.2.2)) ?_
  cases h
  exact bd o (.tmp o) (.cons_cons _ .slnil)
 refine yl 1 f0 ty3 o o o tr o<|za<|aa [0,1,2,3,9,10,11,65,73,78] o<|af 1 (by kernel_rfl) o<|pk [1,0] o<|cB h λa4 b0 h=>gx (Lo:=[]) (lH C V W g7 M _ b0) (by kernel_rfl) (List.Perm.refl _) o o λ_=>?_
 refine za<|aa [0,1,2,3,9,10,11,66,73,78] o<|ae 9 (ti (wrap .i64 (a4+(max 0 (wrap .i64 ((wrap .i64 (f+(List.length u:Int))) - G)))))) o (by kernel_rfl) o<|ae 14 (tb (decide ((wrap .i64 (a4+(max 0 (wrap .i64 ((wrap .i64 (f+(List.length u:Int))) - G)))))>M.1))) o (by kernel_rfl) o<|ae 15 (tb (decide ((wrap .i64 (a4+(max 0 (wrap .i64 ((wrap .i64 (f+(List.length u:Int))) - G)))))>M.1))) o (by kernel_rfl) o<|aN (by kernel_rfl)<|zt<|rI h o (λhc h=>zu<|q 1 [(8,ti 41)] [] o<|zf<|zB<|zT<|az (R':=Res.dfiles PP dI V M.2.1) 1 o cp<|cv (P:=PP) (I:=dI) (D:=M)<|by cases h;exact aU o (.tmp o) (λ_ _ g=>g) (λ_ _ _=>(.cons_cons _ .slnil))) λhc h=>zk<|zi<|zt<|zs<|zu<|p 1 [0,1,2,3,9,10,11,80] o ?_
 refine cB h λc b1 h=>gx (Lo:=[Res.dat PP dI V M.2.1 W g7]) (iy C V M 1 _ b1) (by kernel_rfl) (List.Perm.refl _) o o λ_=>?_
 refine q 1 [(12,ti c.1)] [0,1,2,3,9,10,11] o<|zz<|q 2 [(83,tb (c.1 !=0))] [0,1,2,3,9,10,11,12] o<|za<|rI h o (λhc h=>zu<|q 2 [(8,ti c.1)] [] o<|zf<|zT<|az (R':=Res.dfiles PP dI V M.2.1) 1 o cp<|cv (P:=PP) (I:=dI) (D:=(c.2.1,M.2.1,c.2.2.2.1,c.2.2.2.2.1,c.2.2.2.2.2.1,c.2.2.2.2.2.2.1,c.2.2.2.2.2.2.2))<|by cases h;exact aU o (.tmp o) (λ_ _ g=>g) (λ_ _ _=>(.cons_cons _ .slnil))) λhc h=>zk<|zt<|jK h (γ:=Value) (λO g18=>[(2,ti f),(3,ts u),(9,tp g18),(11,ti G)]) (λO g18=>[Res.dat PP dI V O W g18,Res.var C 123 DT (c.2.1,V,c.2.2.2.1,c.2.2.2.2.1,c.2.2.2.2.2.1,c.2.2.2.2.2.2.1,c.2.2.2.2.2.2.2,())]) (λc6 h=>?_) λO g18 h=>?_
 ·refine zu<|p 2 [0,1,2,3,9,11,86] o<|za<|rI h o (λhc h=>?_) λhc h=>?_
  ·refine zu<|nX 3 (.int .i64) (.int .i64) o λc7=>?_
   refine iD (P:=PP) (I:=dI) (keys:=[]) 0 o o ?_
   refine y (bc o zF o o (.cons f2 o o (ag (ag (ay ab))) .nil)) o ?_
   refine bD o o λb3=>cj (.slice none 0 0) o 5 (.int .u8) ?_
   refine cj (.slice none 0 0) o 5 (.int .u8) ?_
   refine p 1 [0,1,2,3,9,11] o<|za<|zr<|p 3 [1,2,3,9,11,92] o<|yl 4 f1 l0 o o o tr o<|p 2 [2,3,9,11,93,94,95] o<|az (R':=Res.dfiles PP dI V M.2.1) 5 o cp<|iE h λhc h=>pk [2,0,0,0,1,0] o<|pw (P:=PP) (I:=dI) dK o o o Tryz.underlying121 hc ?_
   exact za<|aa [2,3,9,11] o<|ah (fa .str W ([],[],[]) M.2.1) (.pointer (some ⟨b3,0,none⟩)) h o o
  exact zk<|zt<|aa [2,3,9,11] o<|pk [1,0] o<|ah M.2.1 g7 h o o
 refine jK h (γ:=Value) (λN g21=>[(2,ti f),(3,ts u),(9,tp g21)]) (λN g21=>[Res.dat PP dI V N W g21,Res.var C 123 DT (c.2.1,V,c.2.2.2.1,c.2.2.2.2.1,c.2.2.2.2.2.1,c.2.2.2.2.2.2.1,c.2.2.2.2.2.2.2,())]) (λc8 h=>?_) λN g21 h=>?_
 ·refine zu<|q 5 [(2,ti f),(3,ts u),(9,tp g18),(11,ti G),(13,ti (wrap .i64 (f+(List.length u:Int))))] [] o ?_
  obtain⟨b4,e,h⟩:=ak h;rw[e]
  refine zz<|p 3 [2,3,9,11,13,102] o<|za<|rI h o (λhc h=>?_) λhc h=>?_
  ·refine cB h λa5 b5 h=>hY dK b5 λb6 c9 d0 d1 hq=>?_
   rw[hq]
   clear hq
   refine zr<|p 4 [2,3,9,11,13,103,106] o<|yl 0 f0 tx1 o o o tr o<|p 3 [2,3,9,103,107,110] o<|iE h λhc h=>sq ai zf5 1 o o o hc.1 o el5 Tryz.underlying3 hc.2 o λd2=>?_
   refine p 2 [2,3,9,111,113] o<|st 0 f0 tx1 o o o o tr<|za<|gN (P:=PP) (I:=dI) dK ?_
   exact aa [2,3,9] o<|ah (di .str W ((a5.1++List.replicate (Int.toNat (wrap .i64 (b4 - G))) 0),a5.2.1,a5.2.2) O) (.pointer (some ⟨b6,0,none⟩)) h o o
  exact zk<|zt<|aa [2,3,9] o<|ah O g18 h o o
 refine zs<|cB h λf22 b7 h=>hY dK b7 λH J m d hq=>?_
 rw[hq]
 clear hq
 refine zr<|q 3 [(2,ti f),(3,ts u),(9,ptr H 0),(116,ptr H 0)] [] o<|yl 0 f0 tx1 o o o tr o<|p 1 [2,3,9,117,118] o ?_
 obtain⟨Z,h⟩:=cr h
 refine y (jA ai (i:=f) (j:=(List.length f22.1:Int)) o (eF 1 o) o o Z.1 Z.2.1 Z.2.2 o ty5) o ?_
 refine q 1 [(119,.one W51 (fP (T.size (.int .u8)) J (Int.toNat f) (Int.toNat (List.length f22.1:Int)))),(120,ts u)] [2,3,9] o<|vi ai 1 (i:=(Int.toNat f)) o o o (by have:=Z.2.1;omega) o ty5 o λd3=>?_
 refine za<|bv h (λw=>[]) (λw=>[Res.var H 237 FT (J,m,d,()),Res.own J 5 (.int .u8) (bR f22.1 (Int.toNat f) u),Res.own m 5 (.int .u8) f22.2.1,Res.dirty PP dI d w,Res.dhole PP dI V N W (.pointer (some ⟨H,0,none⟩)),Res.var C 123 DT (c.2.1,V,c.2.2.2.1,c.2.2.2.2.1,c.2.2.2.2.2.1,c.2.2.2.2.2.2.1,c.2.2.2.2.2.2.2,())]) (λb8 h=>?_) λw h=>?_
 ·refine zu<|p 3 [2,3,9,14] o ?_
  obtain⟨c0,e,h⟩:=ak h;rw[e]
  refine za<|zb<|aa [2,3,9,14] o<|aY (γ:=Unit) (λ(R:Int×List Int) _=>[(2,ti f),(3,ts u),(9,ptr H 0),(14,ti R.1)]) (λ(R:Int×List Int) _=>[Res.var H 237 FT (J,m,d,()),Res.own J 5 (.int .u8) (bR f22.1 (Int.toNat f) u),Res.own m 5 (.int .u8) f22.2.1,Res.dirty PP dI d R.2,Res.dhole PP dI V N W (.pointer (some ⟨H,0,none⟩)),Res.var C 123 DT (c.2.1,V,c.2.2.2.1,c.2.2.2.2.1,c.2.2.2.2.2.1,c.2.2.2.2.2.2.1,c.2.2.2.2.2.2.2,())]) (dY f u b8) (c0,f22.2.2) () h o o ?_
  clear h
  intro a7 R gg h
  cases a7 with
  |zero=>cases h
  |succ a7=>
  simp only[dY]at h
  refine zs<|zu<|q 7 [(14,ti R.1),(130,tb (decide ((wrap .i64 (R.1*64))<(wrap .i64 (f+(List.length u:Int))))))] [2,3,9] o ?_
  obtain⟨a8,e,h⟩:=ak h;rw[e]
  refine p 1 [2,3,9,14,131] o<|aJ 3 [(2,ti f),(3,ts u),(9,ptr H 0),(14,ti R.1),(134,tb (a8&&(u !=[])))] [Res.var H 237 FT (J,m,d,()),Res.own J 5 (.int .u8) (bR f22.1 (Int.toNat f) u),Res.own m 5 (.int .u8) f22.2.1,Res.dirty PP dI d R.2,Res.dhole PP dI V N W (.pointer (some ⟨H,0,none⟩)),Res.var C 123 DT (c.2.1,V,c.2.2.2.1,c.2.2.2.2.1,c.2.2.2.2.2.1,c.2.2.2.2.2.2.1,c.2.2.2.2.2.2.2,())] (?_) ?_
  ·clear h
   cases a8
   ·exact p 3 [2,3,9,14,134] o<|za<|ao () o o
   exact q 3 [(134,tb (u !=[]))] [2,3,9,14] o<|aa [2,3,9,14,134] o<|za<|ao () o o
  refine za<|rI h o (λhc h=>?_) λhc h=>?_
  ·refine zk<|zt<|zs<|zb<|zr<|q 3 [(2,ti f),(3,ts u),(9,ptr H 0),(14,ti R.1),(139,ptr H 2)] [] o<|yl 0 f2 pA o o o tr o<|q 1 [(140,.one W59 d),(141,ti R.1)] [2,3,9,14] o<|mm 3 o λc1 a9=>?_
   refine y (wQ 3 o o o sP Tryz.underlying235 zf3 o) o ?_
   refine q 1 [(143,ti (wrap .i64 (((aQ (.int .i64) R.1 c1).getD 0)+1)))] [2,3,9,14,140,141] o<|iE h λhc h=>lK 3 o o o o sP Tryz.underlying235 (by rw[←a9,List.length_map]at hc;exact hc) ?_
   refine iD (P:=PP) (I:=dI) (keys:=qW R.1 R.2) 3 o (by rw[sr,a9]) ?_
   refine zn<|zi<|zt<|zr<|q 3 [(14,ti (wrap .i64 (R.1+1)))] [2,3,9] o ?_
   obtain⟨c2,e,h⟩:=ak h;rw[e]
   exact za<|aa [2,3,9,14] o<|aR (c2,(qW R.1 R.2)) () (Nat.lt_succ_self _) h o o
  exact zx<|ze<|ze<|zq<|zt<|aa [] o<|ah R.2 () h o o
 refine zu<|q 1 [(8,ti 0)] [] o<|zf<|gN (P:=PP) (I:=dI) dK ?_
 refine az (R':=Res.dfiles PP dI V (di .str W ((bR f22.1 (Int.toNat f) u),f22.2.1,w) N)) 0 o cp<|pk [1,0] o<|cv (P:=PP) (I:=dI) (D:=(c.2.1,(di .str W ((bR f22.1 (Int.toNat f) u),f22.2.1,w) N),c.2.2.2.1,c.2.2.2.2.1,c.2.2.2.2.2.1,c.2.2.2.2.2.2.1,c.2.2.2.2.2.2.2)) ?_
 cases h
 exact bd o (.tmp o) (.cons_cons _ .slnil)
theorem m5(V:Value)(c f u r)(h:j7 c f u=some r):Fn PP 136 [tp V,ts f,ts u] [Res.disk PP dI V c] (λ_=>ti r.1) (λ_=>[Res.disk PP dI V r.2]):=by
 unfold j7 at h
 refine enter Tryz.func136 o 32 o o λF=>?_
 refine gE λR M hp=>?_
 subst hp
 refine zu<|q 1 [(0,ptr R 0),(1,ts f),(2,ts u)] [] o<|zz<|p 2 [0,1,2,10,11] o<|cB h λW C h=>gx (Lo:=[]) (fZ R M c f _ C) (by kernel_rfl) (List.Perm.refl _) o o λH=>?_
 refine p 5 [0,1,2,7,8] o<|za<|zs<|zu<|p 2 [0,1,2,7,8,16] o<|za<|rI h o (λhc h=>zu<|q 2 [(6,ti W)] [] o<|zf<|zT<|az (R':=Res.dfiles PP dI M c.2.1) 1 o fp<|cv (P:=PP) (I:=dI) (D:=c)<|by cases h;exact aU o (.tmp o) (λ_ _ g=>g) (λ_ _ _=>(.cons_cons _ .slnil))) λhc h=>zk<|zt<|zs<|zu<|p 1 [0,1,2,7,18] o<|cB h λd G h=>av (qI _ _ G) (ca o) o o ?_
 refine p 1 [0,1,2,7,20] o<|za<|rI h o (λhc h=>zu<|q 1 [(6,ti 1)] [] o<|zf<|zT<|az (R':=Res.dfiles PP dI M c.2.1) 1 o fp<|cv (P:=PP) (I:=dI) (D:=c)<|by cases h;exact aU o (.tmp o) (λ_ _ g=>g) (λ_ _ _=>(.cons_cons _ .slnil))) λhc h=>zy<|p 3 [0,1,2,7,23] o<|yl 0 f1 l0 o o o tr o<|p 1 [0,2,7,24,25] o<|iE h λhc h=>az (R':=Res.dat PP dI M c.2.1 f (aC H 0)) 1 o (mA hc)<|cB h λf6 N h=>pk [1,0] o<|hY dK N λJ m O w hq=>?_
 rw[hq]
 clear hq
 refine pk [4,0,0,0,0,0] o<|vh dK o o Tryz.underlying121 o ?_
 refine zz<|p 3 [2,7,28] o<|yl 5 f1 l0 o o o tr o<|q 2 [(29,.one W59 M),(30,ts u),(31,ptr J 0)] [] o<|iE h λhc h=>pk [1,1,1,1,0,0] o<|pw (P:=PP) (I:=dI) dK o o o Tryz.underlying121 hc ?_
 refine zz<|q 1 [(6,ti 0)] [] o<|zf<|az (R':=Res.dfiles PP dI M (fa .str u (f6.1,f6.2.1,f6.2.2) (cH .str f c.2.1))) 0 o cp<|nL o<|pk [1,0] o<|cv (P:=PP) (I:=dI) (D:=(c.1,(fa .str u (f6.1,f6.2.1,f6.2.2) (cH .str f c.2.1)),c.2.2.1,c.2.2.2.1,c.2.2.2.2.1,c.2.2.2.2.2.1,c.2.2.2.2.2.2)) ?_
 cases h
 exact bd o (.tmp o) (.cons_cons _ .slnil)
theorem xz(f:Value)(H M r)(h:sL H M=some r):Fn PP 121 [tp f,ts M] [Res.disk PP dI f H] (λv=> .tup [⟨.raw (.pointer none),aC v 0⟩,⟨(.int .i64),r.2.1⟩]) (λv=>[Res.disk PP dI f r.2.2,Res.clsif (eD f) (aC v 0) r.1.2 r.1.1]):=by
 unfold sL at h
 refine enter Tryz.func121 o 49 o o λF=>?_
 refine zu<|q 2 [(0,tp f),(1,ts M)] [] o<|za<|zs<|zu<|p 2 [0,1,10,11] o<|iE h λhc h=>y (iX o o hc) o ?_
 refine cB h λV J h=>rc [0] (aL _ _ _ _ J) (ca o) o o o λ_=>q 1 [(6,ti V.1)] [0,1] o<|zz<|q 3 [(16,tb (V.1 !=0))] [0,1,6] o ?_
 obtain⟨G,e,h⟩:=ak h;rw[e]
 refine aJ 3 [(0,tp f),(1,ts M),(6,ti V.1),(19,tb (G&&(V.1 !=5)))] [Res.disk PP dI f V.2] (?_) ?_
 ·clear h
  cases G
  ·exact p 3 [0,1,6,19] o<|za<|ao () o o
  exact q 3 [(19,tb (V.1 !=5))] [0,1,6] o<|aa [0,1,6,19] o<|za<|ao () o o
 refine za<|rI h o (λhc h=>?_) λhc h=>?_
 ·refine zu<|q 3 [(4,tp (.pointer none)),(5,ti V.1)] [] o<|zf<|zT<|eG (K:=(eD f)) (x:=((),[],0,0,())) (e:=1) (by decide) ?_
  cases h
  exact pk [1,0] o<|aF (rs:=[.tmp 4,.tmp 5]) o (.cons (.tmp o) (.cons (.tmp o) (.nil))) o (λ_ vs g=>by cases g with|cons c g=>cases g with|cons u g=>cases g;exact⟨_,o,.cons (bf c) (.cons u (.nil))⟩) (λ_ vs g=>by cases g with|cons c g=>cases g with|cons u g=>cases g;rw[bT c];exact List.Sublist.refl _)
 refine zk<|zt<|zs<|zu<|q 2 [(0,tp f),(1,ts M),(21,tp f),(22,ts M)] [] o<|iE h λhc h=>y (iX o o hc) o ?_
 refine cB h λr3 d h=>av (sS _ _ d) (ca o) o o<|cB h λr4 m h=>av (lF _ _ _ m) (ca o) o o<|cB h λR O h=>rc [0] (kQ _ _ _ _ _ _ O) (ca o) o o o λ_=>q 1 [(7,ti R.1)] [0,1] o<|zz<|q 2 [(28,tb (R.1 !=0))] [0,1,7] o<|za<|rI h o (λhc h=>?_) λhc h=>?_
 ·refine zu<|q 3 [(4,tp (.pointer none)),(5,ti R.1)] [] o<|zf<|zT<|eG (K:=(eD f)) (x:=((),[],0,0,())) (e:=1) (by decide) ?_
  cases h
  exact pk [1,0] o<|aF (rs:=[.tmp 4,.tmp 5]) o (.cons (.tmp o) (.cons (.tmp o) (.nil))) o (λ_ vs g=>by cases g with|cons c g=>cases g with|cons u g=>cases g;exact⟨_,o,.cons (bf c) (.cons u (.nil))⟩) (λ_ vs g=>by cases g with|cons c g=>cases g with|cons u g=>cases g;rw[bT c];exact List.Sublist.refl _)
 refine zk<|zt<|zs<|zu<|p 2 [0,1,30,31] o<|iE h λhc h=>y (iX o o hc) o ?_
 refine cB h λW w h=>rc [0] (dt _ _ _ _ w) (ca o) o o o λ_=>q 1 [(8,ti W.1)] [0,1] o<|zz<|q 2 [(35,tb (W.1 !=0))] [0,1,8] o<|za<|rI h o (λhc h=>?_) λhc h=>?_
 ·refine zu<|q 3 [(4,tp (.pointer none)),(5,ti W.1)] [] o<|zf<|zT<|eG (K:=(eD f)) (x:=((),[],0,0,())) (e:=1) (by decide) ?_
  cases h
  exact pk [1,0] o<|aF (rs:=[.tmp 4,.tmp 5]) o (.cons (.tmp o) (.cons (.tmp o) (.nil))) o (λ_ vs g=>by cases g with|cons c g=>cases g with|cons u g=>cases g;exact⟨_,o,.cons (bf c) (.cons u (.nil))⟩) (λ_ vs g=>by cases g with|cons c g=>cases g with|cons u g=>cases g;rw[bT c];exact List.Sublist.refl _)
 refine zk<|zt<|zs<|zu<|p 2 [0,1,37,38] o<|iE h λhc h=>y (iX o o hc) o ?_
 refine q 1 [(39,ts (M++[46,116,109,112])),(40,ts M)] [0,1,37] o<|cB h λC Z h=>rc [0] (m5 _ _ _ _ _ Z) (ca o) o o o λ_=>q 1 [(9,ti C.1)] [0,1] o<|zz<|q 2 [(43,tb (C.1 !=0))] [0,1,9] o<|za<|rI h o (λhc h=>?_) λhc h=>?_
 ·refine zu<|q 3 [(4,tp (.pointer none)),(5,ti C.1)] [] o<|zf<|zT<|eG (K:=(eD f)) (x:=((),[],0,0,())) (e:=1) (by decide) ?_
  cases h
  exact pk [1,0] o<|aF (rs:=[.tmp 4,.tmp 5]) o (.cons (.tmp o) (.cons (.tmp o) (.nil))) o (λ_ vs g=>by cases g with|cons c g=>cases g with|cons u g=>cases g;exact⟨_,o,.cons (bf c) (.cons u (.nil))⟩) (λ_ vs g=>by cases g with|cons c g=>cases g with|cons u g=>cases g;rw[bT c];exact List.Sublist.refl _)
 refine zy<|q 2 [(45,tp f),(46,ts M)] [] o<|y (bc o Cy o o (.cons f0 o o (ay ab) (.cons f1 o o (ag (ay ab)) (.cons f2 o o (ag (ag (ay ab))) (.cons f3 o o (ag (ag (ag (ay ab)))) .nil))))) o ?_
 refine bD o o λN=>q 2 [(4,ptr N 0),(5,ti 0)] [] o<|zf<|tx (x:=((),M,(-1),1,())) (q:=f) ?_
 refine az (R':=Res.clsif (eD f) (.pointer (some ⟨N,0,none⟩)) ((),M,(-1),1,()) 0) 0 o (cY o) ?_
 cases h
 exact pk [1,0] o<|aF (rs:=[.tmp 4,.tmp 5]) o (.cons (.tmp o) (.cons (.tmp o) (.nil))) o (λ_ vs g=>by cases g with|cons c g=>cases g with|cons u g=>cases g;exact⟨_,o,.cons (bf c) (.cons u (.nil))⟩) (λ_ vs g=>by cases g with|cons c g=>cases g with|cons u g=>cases g;rw[bT c];exact List.Sublist.refl _)
theorem wm(c r)(h:rq c=some r):bn PP 169 [ti c] (tb r):=by
 unfold rq at h
 refine enter Tryz.func169 o 9 o o λF=>?_
 refine zu<|q 1 [(0,ti c)] [] o<|zz<|p 3 [0,5] o ?_
 obtain⟨f,e,h⟩:=ak h;rw[e]
 refine aJ 3 [(8,tb (f&&(decide (c≤281474976710655))))] [] (?_) ?_
 ·clear h
  cases f
  ·exact q 3 [(8,tb false)] [] o<|aa [8] o<|za<|ao () o o
  exact q 3 [(8,tb (decide (c≤281474976710655)))] [] o<|aa [8] o<|za<|ao () o o
 refine q 1 [(2,tb (f&&(decide (c≤281474976710655))))] [] o<|zf ?_
 cases h
 exact aB o (.tmp o)
theorem xA(c u r)(h:sM c u=some r):bn PP 123 [ts c,ti u] (.one W45 r):=by
 unfold sM at h
 refine enter Tryz.func123 o 25 o o λF=>?_
 refine zu<|aD (t:=W45) o Cx o λM=>zz<|q 3 [(4,ptr M 0),(6,ts c),(8,ti (wrap .i64 (64*u)))] [] o<|iE h λhc h=>y (iR (i:=(wrap .i64 (64*u))) (j:=(List.length c:Int)) ai o o o hc.1 hc.2.1 hc.2.2 o) o ?_
 refine iE h λhc h=>y (iR (i:=(0:Int)) (j:=12) ai o o o hc.1 hc.2.1 hc.2.2 o) o ?_
 refine q 1 [(0,ts (List.drop 0 (List.take 12 (List.drop (Int.toNat (wrap .i64 (64*u))) (List.take (Int.toNat (List.length c:Int)) c)))))] [4] o ?_
 obtain⟨V,e,h⟩:=ak h;rw[e]
 refine zz<|p 1 [0,4,11] o<|cB h λm C h=>rc [] (gL _ _ C) (ca o) o o o λO=>eL λH hp=>?_
 subst hp
 refine cB h λf G h=>rc [0] (bN _ _ _ G) (ca o) o o o λ_=>q 1 [(5,ti f.1)] [0,4] o<|zz<|q 2 [(14,ti f.1),(15,ti f.1)] [0,4,5] o<|cB h λN J h=>av (wm _ _ J) (ca o) o o<|p 1 [0,4,5,14,17] o<|bL h 6 (λR=>[(4,ptr M 0),(14,ti f.1),(23,tb R)]) (λ_=>[Res.var H 171 W46 f.2,Res.var M 204 W45 (0,false,())]) (λw h=>?_) λR h=>?_
 ·cases N
  ·replace h:=ifF h
   exact p 6 [4,14,23] o<|zn<|aa [4,14,23] o<|zt<|ah false () h o o
  replace h:=ifT h
  refine q 1 [(17,tb true),(18,ti f.1)] [0,4,14] o<|ap (by rfl) o ?_
  refine cB h λW d h=>av (sS _ _ d) (ca o) o o<|ap (by rfl) o ?_
  refine iE h λhc h=>y (iR (i:=(0:Int)) (j:=12) ai o o o hc.1 hc.2.1 hc.2.2 o) o ?_
  exact q 3 [(23,tb ((List.drop 0 (List.take 12 W))==V))] [4,14] o<|zn<|aa [4,14,23] o<|zt<|ah ((List.drop 0 (List.take 12 W))==V) () h o o
 refine y (bc o Cx o o (.cons f0 o o ab (.cons f1 o o ab .nil))) o ?_
 refine st 1 .here l3 o o o o tr<|zf ?_
 cases h
 exact aU o (.cell 1 .here o o o ab l3) (λ_ _ g=>g) (λ_ _ _=>List.nil_sublist _)
theorem xB(c:Value)(H u r)(h:sN H u=some r):Fn PP 67 [tp c,ts u] [Res.disk PP dI c H] (λv=> .tup [⟨.raw (.pointer none),aC v 0⟩,⟨(.int .i64),r.2.1⟩]) (λv=>[Res.disk PP dI c r.2.2,Res.clsif (eD c) (aC v 0) r.1.2 r.1.1]):=by
 unfold sN at h
 refine enter Tryz.func67 o 108 o o λF=>?_
 refine zu<|q 2 [(0,tp c),(1,ts u)] [] o<|zz<|p 2 [0,1,14,15] o<|cB h λJ a2 h=>rc [0] (jt _ _ _ _ a2) (ca o) o o o λ_=>q 5 [(6,ti J.1),(7,ti J.2)] [0,1] o<|za<|zs<|zb<|zu<|q 3 [(19,tb (J.2==5))] [0,1,6,7] o<|za<|rI h o (λhc h=>zu<|q 2 [(22,tp c),(23,ts u)] [] o<|cB h λr2 a3 h=>rc [0] (xz _ _ _ _ a3) (ca o) o o o λv3=>q 4 [(4,tp (aC v3 0)),(5,ti r2.2.1)] [] o<|zf<|zB<|zT<|by cases h;exact pk [0,0] o<|aF (rs:=[.tmp 4,.tmp 5]) o (.cons (.tmp o) (.cons (.tmp o) (.nil))) o (λ_ vs g=>by cases g with|cons f g=>cases g with|cons V g=>cases g;exact⟨_,o,.cons (bf f) (.cons V (.nil))⟩) (λ_ vs g=>by cases g with|cons f g=>cases g with|cons V g=>cases g;rw[bT f];exact List.Sublist.refl _)) λhc h=>?_
 refine zu<|q 3 [(27,tb (J.2 !=0))] [0,1,6,7] o<|za<|rI h o (λhc h=>?_) λhc h=>?_
 ·refine zu<|q 3 [(4,tp (.pointer none)),(5,ti J.2)] [] o<|zf<|zB<|zT<|eG (K:=(eD c)) (x:=((),[],0,0,())) (e:=1) (by decide) ?_
  cases h
  exact pk [1,0] o<|aF (rs:=[.tmp 4,.tmp 5]) o (.cons (.tmp o) (.cons (.tmp o) (.nil))) o (λ_ vs g=>by cases g with|cons f g=>cases g with|cons V g=>cases g;exact⟨_,o,.cons (bf f) (.cons V (.nil))⟩) (λ_ vs g=>by cases g with|cons f g=>cases g with|cons V g=>cases g;rw[bT f];exact List.Sublist.refl _)
 refine zu<|q 3 [(31,tb (J.1 !=128))] [0,1] o<|za<|rI h o (λhc h=>?_) λhc h=>?_
 ·refine zu<|q 2 [(4,tp (.pointer none)),(5,ti 190)] [] o<|zf<|zB<|zT<|eG (K:=(eD c)) (x:=((),[],0,0,())) (e:=1) (by decide) ?_
  cases h
  exact pk [1,0] o<|aF (rs:=[.tmp 4,.tmp 5]) o (.cons (.tmp o) (.cons (.tmp o) (.nil))) o (λ_ vs g=>by cases g with|cons f g=>cases g with|cons V g=>cases g;exact⟨_,o,.cons (bf f) (.cons V (.nil))⟩) (λ_ vs g=>by cases g with|cons f g=>cases g with|cons V g=>cases g;rw[bT f];exact List.Sublist.refl _)
 refine zk<|zi<|zt<|zu<|p 2 [0,1,35,36] o<|cB h λG a4 h=>rc [0] (io _ _ _ _ _ _ a4) (ca o) o o o λ_=>q 5 [(7,ti G.2),(8,ts G.1)] [0,1] o<|za<|zs<|zu<|q 2 [(41,tb (G.2 !=0))] [0,1,7,8] o<|za<|rI h o (λhc h=>?_) λhc h=>?_
 ·refine zu<|q 3 [(4,tp (.pointer none)),(5,ti G.2)] [] o<|zf<|zT<|eG (K:=(eD c)) (x:=((),[],0,0,())) (e:=1) (by decide) ?_
  cases h
  exact pk [1,0] o<|aF (rs:=[.tmp 4,.tmp 5]) o (.cons (.tmp o) (.cons (.tmp o) (.nil))) o (λ_ vs g=>by cases g with|cons f g=>cases g with|cons V g=>cases g;exact⟨_,o,.cons (bf f) (.cons V (.nil))⟩) (λ_ vs g=>by cases g with|cons f g=>cases g with|cons V g=>cases g;rw[bT f];exact List.Sublist.refl _)
 refine zy<|aD (t:=Y205) o Et o λR=>za<|bv h (λM=>[(0,tp c),(1,ts u),(9,ptr R 0)]) (λM=>[Res.var R 205 Y205 M,Res.disk PP dI c H]) (λk6 h=>?_) λM h=>?_
 ·refine zu<|p 1 [0,1,8,9,43] o<|za<|zb<|aa [0,1,8,9,43] o<|aY (γ:=Unit) (λ(C:Int×(List cq)) _=>[(0,tp c),(1,ts u),(8,ts G.1),(9,ptr R 0),(43,ti C.1)]) (λ(C:Int×(List cq)) _=>[Res.var R 205 Y205 C.2,Res.disk PP dI c H]) (mP G k6) (0,(List.replicate 2 ((0,false,()):cq))) () h o o ?_
  clear h
  intro Z C gg h
  cases Z with
  |zero=>cases h
  |succ Z=>
  simp only[mP]at h
  refine zu<|q 1 [(43,ti C.1),(44,tb (decide (C.1<2)))] [0,1,8,9] o<|za<|zs<|rI h o (λhc h=>?_) λhc h=>?_
  ·refine zk<|zt<|zs<|zb<|zu<|q 2 [(10,ti C.1)] [0,1,8,9,43] o<|za<|zr<|q 3 [(46,ti C.1),(47,ts G.1),(48,ti C.1)] [0,1,8,9,43] o<|cB h λa5 a6 h=>av (xA _ _ _ a6) (ca o) o o<|iE h λhc h=>y (bY o o hc.1 hc.2 oH l3) o ?_
   exact kd 0 (.elem (Int.toNat C.1) .here) o o o (by first|rfl|(simp only[Pth.off,T.size];omega)) (ax (by first|omega|(simp only[List.length_set]at hc⊢;omega)) ab) l3<|zn<|zi<|zt<|zr<|q 2 [(0,tp c),(1,ts u),(8,ts G.1),(9,ptr R 0),(43,ti (wrap .i64 (C.1+1)))] [] o<|za<|aa [0,1,8,9,43] o<|aR ((wrap .i64 (C.1+1)),(List.set C.2 (Int.toNat C.1) a5)) () (Nat.lt_succ_self _) h o o
  exact zx<|ze<|ze<|zq<|zt<|aa [0,1,9] o<|ah C.2 () h o o
 refine zu<|q 2 [(0,tp c),(1,ts u),(9,ptr R 0),(52,tp c),(53,ts u)] [] o<|y (bc o Cy o o (.cons f0 o o (ay ab) (.cons f1 o o (ag (ay ab)) (.cons f3 o o (ag (ag (ag (ay ab)))) .nil)))) o ?_
 refine bD o o λW=>p 1 [0,1,9,11] o<|za<|bv h (λN=>[(0,tp c),(1,ts u),(11,ptr W 0)]) (λN=>[Res.var W 208 W31 (c,N.2.1,N.2.2.1,N.2.2.2.1,N.2.2.2.2),Res.var R 205 Y205 M,Res.disk PP dI c H]) (λk9 h=>?_) λN h=>?_
 ·refine zb<|zu<|iE h λhc h=>y (bY o o hc.1 hc.2 oH l3) o ?_
  refine p 1 [0,1,9,11,64] o<|y (aM 1 (.elem 0 f1) o o (by first|rfl|(simp only[Pth.off,T.size];omega)) (ax (by first|omega|(simp only[List.length_set]at hc⊢;omega)) (ag (ay ab))) ty4) o ?_
  refine q 2 [(67,tb (!((List.getD M 0 (0,false,())).2.1)))] [0,1,9,11] o ?_
  obtain⟨a7,e,h⟩:=ak h;rw[e]
  refine bL h 5 (λm=>[(0,tp c),(1,ts u),(9,ptr R 0),(11,ptr W 0),(72,tb m)]) (λ_=>[Res.var W 208 W31 (c,u,0,1,()),Res.var R 205 Y205 M,Res.disk PP dI c H]) (λb1 h=>?_) λm h=>?_
  ·cases a7
   ·replace h:=ifF h
    exact p 5 [0,1,9,11,72] o<|zn<|aa [0,1,9,11,72] o<|zt<|ah false () h o o
   replace h:=ifT h
   refine ap (by rfl) o ?_
   refine iE h λhc h=>y (bY o o hc.1 hc.2 oH l3) o ?_
   refine p 1 [0,1,9,11,67,69] o<|ap (by rfl) o ?_
   refine y (aM 1 (.elem 1 f1) o o (by first|rfl|(simp only[Pth.off,T.size];omega)) (ax (by first|omega|(simp only[List.length_set]at hc⊢;omega)) (ag (ay ab))) ty4) o ?_
   exact q 2 [(72,tb (!((List.getD M 1 (0,false,())).2.1)))] [0,1,9,11] o<|zn<|aa [0,1,9,11,72] o<|zt<|ah (!((List.getD M 1 (0,false,())).2.1)) () h o o
  refine q 1 [(0,tp c),(1,ts u),(9,ptr R 0),(11,ptr W 0),(62,tb m)] [] o<|za<|rI h o (λhc h=>?_) λhc h=>?_
  ·refine zu<|q 2 [(4,tp (.pointer none)),(5,ti 190)] [] o<|zf<|zB<|zT<|eG (K:=(eD c)) (x:=((),[],0,0,())) (e:=1) (by decide) ?_
   cases h
   exact pk [0,2] o<|pk [1,0] o<|aF (rs:=[.tmp 4,.tmp 5]) o (.cons (.tmp o) (.cons (.tmp o) (.nil))) o (λ_ vs g=>by cases g with|cons f g=>cases g with|cons V g=>cases g;exact⟨_,o,.cons (bf f) (.cons V (.nil))⟩) (λ_ vs g=>by cases g with|cons f g=>cases g with|cons V g=>cases g;rw[bT f];exact List.Sublist.refl _)
  refine zu<|iE h λhc h=>y (bY o o hc.1 hc.2 oH l3) o ?_
  refine p 1 [0,1,9,11,75] o<|y (aM 1 (.elem 1 f1) o o (by first|rfl|(simp only[Pth.off,T.size];omega)) (ax (by first|omega|(simp only[List.length_set]at hc⊢;omega)) (ag (ay ab))) ty4) o ?_
  refine q 1 [(77,tb ((List.getD M 1 (0,false,())).2.1))] [0,1,9,11] o ?_
  obtain⟨a8,e,h⟩:=ak h;rw[e]
  refine bL h 14 (λO=>[(0,tp c),(1,ts u),(9,ptr R 0),(11,ptr W 0),(91,tb O)]) (λ_=>[Res.var W 208 W31 (c,u,0,1,()),Res.var R 205 Y205 M,Res.disk PP dI c H]) (λb2 h=>?_) λO h=>?_
  ·rcases Bool.eq_false_or_eq_true a8 with hh|hh
   ·rw[hh]at h⊢
    rw[if_pos o]at h
    refine ap (by rfl) o ?_
    refine iE h λhc h=>y (bY o o hc.1 hc.2 oH l3) o ?_
    refine p 1 [0,1,9,11,77,79] o<|ap (by rfl) o ?_
    refine y (aM 1 (.elem 0 f1) o o (by first|rfl|(simp only[Pth.off,T.size];omega)) (ax (by first|omega|(simp only[List.length_set]at hc⊢;omega)) (ag (ay ab))) ty4) o ?_
    refine q 2 [(82,tb (!((List.getD M 0 (0,false,())).2.1)))] [0,1,9,11,77] o ?_
    obtain⟨a9,e,h⟩:=ak h;rw[e]
    refine bL h 8 (λd=>[(0,tp c),(1,ts u),(9,ptr R 0),(11,ptr W 0),(77,tb true),(90,tb d)]) (λ_=>[Res.var W 208 W31 (c,u,0,1,()),Res.var R 205 Y205 M,Res.disk PP dI c H]) (λb3 h=>?_) λd h=>?_
    ·cases a9
     ·replace h:=ifF h
      refine ap (by rfl) o ?_
      refine iE h λhc h=>y (bY o o hc.1 hc.2 oH l3) o ?_
      refine p 1 [0,1,9,11,77,82,84] o<|ap (by rfl) o ?_
      refine y (aM 1 (.elem 0 f0) o o (by first|rfl|(simp only[Pth.off,T.size];omega)) (ax (by first|omega|(simp only[List.length_set]at hc⊢;omega)) (ay ab)) ty2) o ?_
      refine ap (by rfl) o ?_
      refine iE h λhc h=>y (bY o o hc.1 hc.2 oH l3) o ?_
      refine q 1 [(85,ti ((List.getD M 0 (0,false,())).1)),(87,ptr R ((0+1*2)+0))] [0,1,9,11,77,82] o<|ap (by rfl) o ?_
      refine y (aM 1 (.elem 1 f0) o o (by first|rfl|(simp only[Pth.off,T.size];omega)) (ax (by first|omega|(simp only[List.length_set]at hc⊢;omega)) (ay ab)) ty2) o ?_
      exact q 2 [(90,tb (decide (((List.getD M 0 (0,false,())).1)<((List.getD M 1 (0,false,())).1))))] [0,1,9,11,77] o<|zn<|aa [0,1,9,11,77,90] o<|zt<|ah (decide (((List.getD M 0 (0,false,())).1)<((List.getD M 1 (0,false,())).1))) () h o o
     replace h:=ifT h
     exact p 8 [0,1,9,11,77,90] o<|zn<|aa [0,1,9,11,77,90] o<|zt<|ah true () h o o
    exact q 1 [(0,tp c),(1,ts u),(9,ptr R 0),(11,ptr W 0),(91,tb d)] [] o<|zn<|aa [0,1,9,11,91] o<|zt<|ah d () h o o
   rw[hh]at h⊢
   rw[if_neg (by decide)]at h
   exact p 14 [0,1,9,11,91] o<|zn<|aa [0,1,9,11,91] o<|zt<|ah false () h o o
  refine q 1 [(0,tp c),(1,ts u),(9,ptr R 0),(11,ptr W 0),(73,tb O)] [] o<|za<|rI h o (λhc h=>?_) λhc h=>?_
  ·refine zr<|p 2 [0,1,9,11,92,93] o<|iE h λhc h=>y (bY o o hc.1 hc.2 oH l3) o ?_
   refine p 1 [0,1,11,92,93,95] o<|y (aM 1 (.elem 1 f0) o o (by first|rfl|(simp only[Pth.off,T.size];omega)) (ax (by first|omega|(simp only[List.length_set]at hc⊢;omega)) (ay ab)) ty2) o ?_
   exact q 2 [(96,ti ((List.getD M 1 (0,false,())).1)),(98,ptr W 2)] [0,1,11,93] o<|st 0 f2 ty2 o o o o tr<|p 2 [0,1,11,100] o<|st 0 f3 ty3 o o o o tr<|nL o<|zn<|zi<|zt<|aa [0,1,11] o<|ah ((),u,(List.getD M 1 (0,false,())).1,0,()) () h o o
  refine zr<|p 1 [0,1,9,11,56] o<|iE h λhc h=>y (bY o o hc.1 hc.2 oH l3) o ?_
  refine p 1 [0,1,11,56,58] o<|y (aM 1 (.elem 0 f0) o o (by first|rfl|(simp only[Pth.off,T.size];omega)) (ax (by first|omega|(simp only[List.length_set]at hc⊢;omega)) (ay ab)) ty2) o ?_
  exact q 2 [(59,ti ((List.getD M 0 (0,false,())).1)),(61,ptr W 2)] [0,1,11] o<|st 0 f2 ty2 o o o o tr<|zn<|zi<|zt<|aa [0,1,11] o<|ah ((),u,(List.getD M 0 (0,false,())).1,1,()) () h o o
 refine zs<|zu<|q 2 [(11,ptr W 0),(101,tp c),(102,ts u)] [] o<|cB h λw b0 h=>rc [2] (dt _ _ _ _ b0) (ca o) o o o λ_=>q 1 [(12,ti w.1)] [11] o<|zz<|q 2 [(105,tb (w.1 !=0))] [11,12] o<|za<|rI h o (λhc h=>?_) λhc h=>?_
 ·refine zu<|q 3 [(4,tp (.pointer none)),(5,ti w.1)] [] o<|zf<|zT<|eG (K:=(eD c)) (x:=((),[],0,0,())) (e:=1) (by decide) ?_
  cases h
  exact pk [0,0] o<|pk [1,0] o<|aF (rs:=[.tmp 4,.tmp 5]) o (.cons (.tmp o) (.cons (.tmp o) (.nil))) o (λ_ vs g=>by cases g with|cons f g=>cases g with|cons V g=>cases g;exact⟨_,o,.cons (bf f) (.cons V (.nil))⟩) (λ_ vs g=>by cases g with|cons f g=>cases g with|cons V g=>cases g;rw[bT f];exact List.Sublist.refl _)
 refine zy<|q 3 [(4,ptr W 0),(5,ti 0)] [] o<|zf<|pk [1,0,0] o<|tx (x:=N) (q:=c) ?_
 refine az (R':=Res.clsif (eD c) (.pointer (some ⟨W,0,none⟩)) N 0) 0 o (cY o) ?_
 cases h
 exact pk [0,0] o<|pk [1,0] o<|aF (rs:=[.tmp 4,.tmp 5]) o (.cons (.tmp o) (.cons (.tmp o) (.nil))) o (λ_ vs g=>by cases g with|cons f g=>cases g with|cons V g=>cases g;exact⟨_,o,.cons (bf f) (.cons V (.nil))⟩) (λ_ vs g=>by cases g with|cons f g=>cases g with|cons V g=>cases g;rw[bT f];exact List.Sublist.refl _)
theorem rT(f:Value)(w N r)(h:oD w N=some r):FnT PP bF 14 [tp f,.one Y40 N] [Res.disk PP dI f w] (λv=> .tup [⟨.raw (.pointer none),aC v 0⟩,⟨(.int .i64),r.2.1⟩]) (λv=>[Res.disk PP dI f r.2.2,Res.clsif (bP f) (aC v 0) r.1.2 r.1.1]):=by
 unfold oD at h
 refine gP Tryz.func14 o 75 o o λF hT=>?_
 refine zu<|bD o o λm=>q 2 [(0,tp f),(3,ptr m 0)] [] o<|zz<|yl 0 .here BZ o o o tr o<|cB h λC a6 h=>av (vr _ _ a6) (ca o) o o<|q 3 [(18,.one Y30 C.1),(19,ti C.2)] [0,3] o<|aD (t:=Y30) o gk o λO=>st 0 .here bW o o o o tr<|q 1 [(6,ptr O 0),(7,ti C.2)] [0,3] o<|za<|zs<|zu ?_
 refine q 2 [(21,tb (C.2 !=0))] [0,3,6,7] o<|za<|rI h o (λhc h=>?_) λhc h=>?_
 ·refine zu<|q 3 [(4,tp (.pointer none)),(5,ti C.2)] [] o<|zf<|zT<|eG (K:=(bP f)) (x:=((),(1,((),[],0,[],0,false,())),(1,((),[],0,0,())),(0,0,0,0,[],[],0,0,0,(0,0,()),(0,0,()),(0,0,()),false,(List.replicate 2 (z32:List (Int))),z32,[],0,0,()),())) (e:=1) (by decide) ?_
  cases h
  exact pk [0,2] o<|pk [1,0] o<|aF (rs:=[.tmp 4,.tmp 5]) o (.cons (.tmp o) (.cons (.tmp o) (.nil))) o (λ_ vs g=>by cases g with|cons c g=>cases g with|cons M g=>cases g;exact⟨_,o,.cons (bf c) (.cons M (.nil))⟩) (λ_ vs g=>by cases g with|cons c g=>cases g with|cons M g=>cases g;rw[bT c];exact List.Sublist.refl _)
 refine zy<|p 1 [0,3,6,24] o<|yl 0 .here bW o o o tr o<|cB h λW a7 h=>rc [2] (vu _ _ _ _ a7) (ca o) o o o λ_=>q 4 [(27,ti W.1),(28,.one Y30 W.2.1),(29,ti W.2.2)] [0,3] o<|aD (t:=Y30) o gk o λH=>q 1 [(8,ti W.1),(9,ptr H 0)] [0,3,28,29] o<|st 0 .here bW o o o o tr<|q 1 [(7,ti W.2.2)] [0,3,8,9] o<|za<|zs<|zu<|q 2 [(31,tb (W.2.2 !=0))] [0,3,7,8,9] o ?_
 refine za<|rI h o (λhc h=>?_) λhc h=>?_
 ·refine zu<|q 3 [(4,tp (.pointer none)),(5,ti W.2.2)] [] o<|zf<|zT<|eG (K:=(bP f)) (x:=((),(1,((),[],0,[],0,false,())),(1,((),[],0,0,())),(0,0,0,0,[],[],0,0,0,(0,0,()),(0,0,()),(0,0,()),false,(List.replicate 2 (z32:List (Int))),z32,[],0,0,()),())) (e:=1) (by decide) ?_
  cases h
  exact pk [0,1] o<|pk [1,0] o<|aF (rs:=[.tmp 4,.tmp 5]) o (.cons (.tmp o) (.cons (.tmp o) (.nil))) o (λ_ vs g=>by cases g with|cons c g=>cases g with|cons M g=>cases g;exact⟨_,o,.cons (bf c) (.cons M (.nil))⟩) (λ_ vs g=>by cases g with|cons c g=>cases g with|cons M g=>cases g;rw[bT c];exact List.Sublist.refl _)
 refine zy<|p 2 [0,8,9,34,35] o<|yl 3 f7 ty3 o o o tr o<|q 1 [(36,ti N.2.2.2.2.2.2.2.1),(37,ti W.1)] [0,9,34] o<|cB h λu a8 h=>rcT hT [1] (xU _ _ _ _ _ _ a8) (ca o) o o o λR=>q 7 [(7,ti u.2.2.1),(10,tp (aC R 0)),(11,.one W51 (aC R 1))] [0,9] o<|za<|zs<|zu<|q 2 [(43,tb (u.2.2.1 !=0))] [0,7,9,10,11] o<|za<|rI h o (λhc h=>?_) λhc h=>?_
 ·refine zu<|q 3 [(4,tp (.pointer none)),(5,ti u.2.2.1)] [] o<|zf<|zT<|eG (K:=(bP f)) (x:=((),(1,((),[],0,[],0,false,())),(1,((),[],0,0,())),(0,0,0,0,[],[],0,0,0,(0,0,()),(0,0,()),(0,0,()),false,(List.replicate 2 (z32:List (Int))),z32,[],0,0,()),())) (e:=1) (by decide) ?_
  cases h
  exact pk [0,0] o<|pk [1,0] o<|aF (rs:=[.tmp 4,.tmp 5]) o (.cons (.tmp o) (.cons (.tmp o) (.nil))) o (λ_ vs g=>by cases g with|cons c g=>cases g with|cons M g=>cases g;exact⟨_,o,.cons (bf c) (.cons M (.nil))⟩) (λ_ vs g=>by cases g with|cons c g=>cases g with|cons M g=>cases g;rw[bT c];exact List.Sublist.refl _)
 refine zk<|zt<|jK h (γ:=Value) (λJ g12=>[(0,tp f),(9,ptr H 0),(10,tp (aC R 0))]) (λJ g12=>[Res.disk PP dI f u.2.2.2,Res.clsif (cg f) (aC R 0) u.1.2 u.1.1,Res.own g12 9 .str u.2.1,Res.var H 30 Y30 J,Res.var O 30 Y30 C.1,Res.var m 40 Y40 N]) (λa9 h=>?_) λJ g12 h=>?_
 ·refine zu<|q 1 [(0,tp f),(9,ptr H 0),(10,tp (aC R 0)),(45,.one W51 (aC R 1))] [] o<|y (cn ai 2 o o o) o ?_
  refine q 1 [(46,ti (List.length u.2.1:Int)),(47,ti 0)] [0,9,10,45] o<|za<|zb<|aa [0,9,10,45,46,47] o<|aY (γ:=Value) (λ(V:Int×Z29) g21=>[(0,tp f),(9,ptr H 0),(10,tp (aC R 0)),(45,.one W51 g21),(46,ti (List.length u.2.1:Int)),(47,ti V.1)]) (λ(V:Int×Z29) g21=>[Res.disk PP dI f u.2.2.2,Res.clsif (cg f) (aC R 0) u.1.2 u.1.1,Res.own g21 9 .str u.2.1,Res.var H 30 Y30 V.2,Res.var O 30 Y30 C.1,Res.var m 40 Y40 N]) (lZ u a9) (0,W.2.1) (aC R 1) h o o ?_
  clear h
  intro Z V g21 h
  cases Z with
  |zero=>cases h
  |succ Z=>
  simp only[lZ]at h
  refine zu<|q 1 [(45,.one W51 g21),(47,ti V.1),(48,tb (decide (V.1<(List.length u.2.1:Int))))] [0,9,10,46] o<|za<|zs<|rI h o (λhc h=>?_) λhc h=>?_
  ·refine zk<|zt<|zs<|zb<|zu<|iE h λhc h=>cJ 2 o (by omega) λa2 a3 a4 hv=>?_
   rw[hv]
   try clear hv
   refine y (cU ai o o hc.1 (by first|exact hc.2|simpa using hc.2) o ty9) o ?_
   refine y (dN 2 (Int.toNat V.1) .here o o (by omega) (by first|rfl|(simp only[Pth.off,T.size];omega)) ab ty9) o ?_
   refine q 1 [(13,ts (List.getD u.2.1 (Int.toNat V.1) [])),(45,.one W51 (.slice (some ⟨a2,a3,none⟩) (List.length u.2.1) a4))] [0,9,10,46,47] o ?_
   obtain⟨b0,e,h⟩:=ak h;rw[e]
   refine zz<|yl 3 .here bW o o o tr o<|q 1 [(52,.one Y30 V.2),(53,ts b0)] [0,9,10,45,46,47] o<|cB h λG b1 h=>rcT hT [] (vz _ _ _ b1) (ca o) o o o λ_=>q 3 [(55,.one Y30 G.1),(56,ti G.2)] [0,9,10,45,46,47] o<|st 3 .here bW o o o o tr<|q 1 [(7,ti G.2)] [0,9,10,45,46,47] o<|zz<|q 2 [(58,tb (G.2 !=0))] [0,7,9,10,45,46,47] o<|za<|rI h o (λhc h=>?_) λhc h=>?_
   ·refine zu<|q 3 [(4,tp (.pointer none)),(5,ti G.2)] [] o<|zf<|zB<|zT<|zT<|zB<|zT<|eG (K:=(bP f)) (x:=((),(1,((),[],0,[],0,false,())),(1,((),[],0,0,())),(0,0,0,0,[],[],0,0,0,(0,0,()),(0,0,()),(0,0,()),false,(List.replicate 2 (z32:List (Int))),z32,[],0,0,()),())) (e:=1) (by decide) ?_
    cases h
    exact pk [0,0] o<|pk [1,0] o<|aF (rs:=[.tmp 4,.tmp 5]) o (.cons (.tmp o) (.cons (.tmp o) (.nil))) o (λ_ vs g=>by cases g with|cons c g=>cases g with|cons M g=>cases g;exact⟨_,o,.cons (bf c) (.cons M (.nil))⟩) (λ_ vs g=>by cases g with|cons c g=>cases g with|cons M g=>cases g;rw[bT c];exact List.Sublist.refl _)
   exact zk<|zi<|zt<|zr<|q 2 [(47,ti (wrap .i64 (V.1+1)))] [0,9,10,45,46] o<|za<|aa [0,9,10,45,46,47] o<|aR ((wrap .i64 (V.1+1)),G.1) (.slice (some ⟨a2,a3,none⟩) (List.length u.2.1) a4) (Nat.lt_succ_self _) h o o
  exact zx<|ze<|ze<|zq<|zt<|aa [0,9,10] o<|ah V.2 g21 h o o
 refine zu<|q 1 [(0,tp f),(9,ptr H 0),(10,tp (aC R 0)),(62,tp f)] [] o<|cB h λd b2 h=>rc [0] (xB _ _ _ _ b2) (ca o) o o o λb4=>q 5 [(7,ti d.2.1),(14,tp (aC b4 0))] [0,9,10] o<|za<|zs<|zu<|q 2 [(67,tb (d.2.1 !=0))] [0,7,9,10,14] o<|za<|rI h o (λhc h=>?_) λhc h=>?_
 ·refine zu<|q 3 [(4,tp (.pointer none)),(5,ti d.2.1)] [] o<|zf<|zT<|eG (K:=(bP f)) (x:=((),(1,((),[],0,[],0,false,())),(1,((),[],0,0,())),(0,0,0,0,[],[],0,0,0,(0,0,()),(0,0,()),(0,0,()),false,(List.replicate 2 (z32:List (Int))),z32,[],0,0,()),())) (e:=1) (by decide) ?_
  cases h
  exact pk [0,0] o<|pk [1,0] o<|aF (rs:=[.tmp 4,.tmp 5]) o (.cons (.tmp o) (.cons (.tmp o) (.nil))) o (λ_ vs g=>by cases g with|cons c g=>cases g with|cons M g=>cases g;exact⟨_,o,.cons (bf c) (.cons M (.nil))⟩) (λ_ vs g=>by cases g with|cons c g=>cases g with|cons M g=>cases g;rw[bT c];exact List.Sublist.refl _)
 refine zy<|p 3 [9,69,70,71] o<|yl 4 .here bW o o o tr o<|y (bc o En o o (.cons f0 o o (ay ab) (.cons f1 o o (ag (ay ab)) (.cons f2 o o (ag (ag (ay ab))) (.cons f3 o o (ag (ag (ag (ay ab)))) .nil))))) o ?_
 refine bD o o λa5=>q 2 [(4,ptr a5 0),(5,ti 0)] [] o<|zf<|pk [0,2,1,0,0,0,0,0] o<|fS (x:=((),u.1,d.1,J,())) (q:=f) ?_
 refine az (R':=Res.clsif (bP f) (.pointer (some ⟨a5,0,none⟩)) ((),u.1,d.1,J,()) 0) 0 o (cY o) ?_
 cases h
 exact pk [0,0] o<|pk [1,0] o<|aF (rs:=[.tmp 4,.tmp 5]) o (.cons (.tmp o) (.cons (.tmp o) (.nil))) o (λ_ vs g=>by cases g with|cons c g=>cases g with|cons M g=>cases g;exact⟨_,o,.cons (bf c) (.cons M (.nil))⟩) (λ_ vs g=>by cases g with|cons c g=>cases g with|cons M g=>cases g;rw[bT c];exact List.Sublist.refl _)
theorem sU(u:Value)(c:Value)(f M r)(h:mQ f M=some r):Fn PP 75 [tp u] [Res.cls (eD c) u f,Res.disk PP dI c M] (λ_=>ti r) (λ_=>[Res.cls (eD c) u f,Res.disk PP dI c M]):=by
 unfold mQ at h
 refine enter Tryz.func75 o 7 o o λF=>?_
 refine A0 λV hp=>?_
 subst hp
 refine tx (x:=f) (q:=c) ?_
 refine zu<|q 1 [(0,ptr V 0)] [] o<|za<|zs<|zM ?_
 refine zr<|q 3 [(5,ptr V 2)] [] o<|yl 0 f2 ty2 o o o tr o<|q 1 [(2,ti f.2.2.1)] [] o<|zf<|tx (x:=f) (q:=c) ?_
 cases h
 exact bd o (.tmp o) (.cons_cons _ (.cons_cons _ .slnil))
theorem rX(u:Value)(c:Value)(f M r)(h:mb f M=some r):Fn PP 18 [tp u] [Res.cls (bP c) u f,Res.disk PP dI c M] (λ_=>ti r) (λ_=>[Res.cls (bP c) u f,Res.disk PP dI c M]):=by
 unfold mb at h
 refine enter Tryz.func18 o 8 o o λF=>?_
 refine oJ λV G N hp=>?_
 subst hp
 refine fS (x:=f) (q:=c) ?_
 refine zu<|q 1 [(0,ptr V 0)] [] o<|za<|zs<|nS λJ R=>?_
 refine zr<|q 3 [(5,ptr V 2)] [] o<|yl 0 f2 Ej o o o tr o ?_
 obtain⟨W,h⟩:=cr h
 refine az (R':=Res.cls (eD c) R f.2.2.1.2) 2 o (dW W)<|cB h λC H h=>rc [2,2] (sU _ _ _ _ _ H) (ca o) o o o λ_=>q 1 [(2,ti C)] [] o<|zf<|az (R':=Res.clsif (eD c) R f.2.2.1.2 f.2.2.1.1) 0 o (cY W)<|nL o<|pk [2,2,0,0] o<|fS (x:=f) (q:=c) ?_
 cases h
 exact bd o (.tmp o) (.cons_cons _ (.cons_cons _ .slnil))
end Sx
