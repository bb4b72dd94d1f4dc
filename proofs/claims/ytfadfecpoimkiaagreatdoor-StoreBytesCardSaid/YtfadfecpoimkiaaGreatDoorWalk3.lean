/-
  Own work, printed by a program of the same hand. Each function of the code answers what its plain twin reckons.
-/
import Derived.Test.YtfadfecpoimkiaaGreatDoorWalk2
namespace Sx
open Go Go.Proofs Go.IntKind
set_option maxRecDepth 10000
set_option maxHeartbeats 1000000
attribute [local irreducible] wpList
theorem xx(V:Nat)(H a1 N r)(h:rB H a1 N=some r):Fn PP 271 [.one W75 H,ts a1,ptr V 0] [Res.var V 354 W72 N] (λ_=> .one W75 r.1) (λ_=>[Res.var V 354 W72 r.2]):=by
 unfold rB at h
 refine enter Tryz.func271 o 113 o o λF=>?_
 refine zu<|bI o o λu=>aB (t:=W75) o qb o λM=>za<|zs<|cB h λJ a3 h=>gc (S:=bG [aZ u 353 W75 H]) kr ?_
 refine zw (γ:=Nat×Nat) (λ(f:Nat×Nat)=>[(2,ptr V 0),(3,ptr u 0),(6,ptr M 0),(7,ptr f.2 0),(8,ptr f.1 0)]) (λ(f:Nat×Nat)=>[Res.var f.1 353 W75 H,Res.var f.2 354 W72 J,Res.var M 353 W75 (List.replicate 8 (0:Int)),Res.var u 353 W75 H,Res.var V 354 W72 N]) (λf=>?_) (λm=>?_)
 ·refine zt<|bD h (λa6=>[(3,ptr u 0),(6,ptr M 0),(8,ptr f.1 0)]) (λa6=>[Res.var f.1 353 W75 a6,Res.var f.2 354 W72 J,Res.var M 353 W75 (List.replicate 8 (0:Int)),Res.var u 353 W75 H,Res.var V 354 W72 N]) (λb7 h=>?_) λa6 h=>?_
  ·refine zW o<|zb<|ai [2,3,6,7,8,18] o<|bl (γ:=Unit) (λ(c:Int×List (Int)) _=>[(2,ptr V 0),(3,ptr u 0),(6,ptr M 0),(7,ptr f.2 0),(8,ptr f.1 0),(18,ti c.1)]) (λ(c:Int×List (Int)) _=>[Res.var f.1 353 W75 c.2,Res.var f.2 354 W72 J,Res.var M 353 W75 (List.replicate 8 (0:Int)),Res.var u 353 W75 H,Res.var V 354 W72 N]) (mu N J b7) (0,H) () h o o ?_
   clear h
   intro b0 c gg h
   cases b0 with
   |zero=>cases h
   |succ b0=>
   simp only[mu]at h
   refine zW o<|zs<|rI h o (λhc h=>?_) λhc h=>?_
   ·refine zk<|zt<|zs<|zb<|zu<|q 2 [(2,ptr V 0),(3,ptr u 0),(6,ptr M 0),(7,ptr f.2 0),(8,ptr f.1 0),(9,ti c.1),(18,ti c.1)] [] o<|za<|zs<|ef kr kr ?_
    refine iE h λhc h=>q_y (bO o o hc.1 hc.2 jZ cJ) o ?_
    refine q_y (aN 0 (.elem 4 .here) o o pof (aw pix aa) cJ) o ?_
    refine iE h λhc h=>q_y (bO o o hc.1 hc.2 jZ cJ) o ?_
    refine q_y (aN 0 (.elem 0 .here) o o pof (aw pix aa) cJ) o ?_
    refine ay af 1 [2,3,6,7,8,9,10,18,24] (E':=[(2,ptr V 0),(3,ptr u 0),(6,ptr M 0),(7,ptr f.2 0),(8,ptr f.1 0),(9,ti c.1),(10,.one (.int .u32) (List.getD c.2 4 0)),(18,ti c.1),(24,.one (.int .u32) (List.getD c.2 0 0))]) o ?_
    obtain⟨W,e,h⟩:=aj h;rw[e]
    refine ay af 1 [2,3,6,7,8,9,10,11,18] (E':=[(2,ptr V 0),(3,ptr u 0),(6,ptr M 0),(7,ptr f.2 0),(8,ptr f.1 0),(9,ti c.1),(10,.one (.int .u32) W),(11,.one (.int .u32) (List.getD c.2 0 0)),(18,ti c.1)]) o ?_
    obtain⟨R,e,h⟩:=aj h;rw[e]
    refine eK ?_
    refine zt<|zs<|ef kr kr ?_
    refine iE h λhc h=>q_y (bO o o hc.1 hc.2 jZ cJ) o ?_
    refine q_y (aN 0 (.elem 7 .here) o o pof (aw pix aa) cJ) o ?_
    refine ay af 1 [2,3,6,7,8,9,10,11,18,26,27] (E':=[(2,ptr V 0),(3,ptr u 0),(6,ptr M 0),(7,ptr f.2 0),(8,ptr f.1 0),(9,ti c.1),(10,.one (.int .u32) W),(11,.one (.int .u32) R),(18,ti c.1),(26,.one (.int .u32) (List.getD c.2 7 0)),(27,.one (.int .u32) W)]) o ?_
    refine cB h λO b8 h=>iu (cr W (-6) _ b8) kr o o o ?_
    refine ay af 1 [2,3,6,7,8,9,10,11,18,26,28,29] (E':=[(2,ptr V 0),(3,ptr u 0),(6,ptr M 0),(7,ptr f.2 0),(8,ptr f.1 0),(9,ti c.1),(10,.one (.int .u32) W),(11,.one (.int .u32) R),(18,ti c.1),(26,.one (.int .u32) (List.getD c.2 7 0)),(28,.one (.int .u32) O),(29,.one (.int .u32) W)]) o ?_
    refine cB h λa4 b9 h=>iu (cr W (-11) _ b9) kr o o o ?_
    refine ay af 2 [2,3,6,7,8,9,10,11,18,26,31,32] (E':=[(2,ptr V 0),(3,ptr u 0),(6,ptr M 0),(7,ptr f.2 0),(8,ptr f.1 0),(9,ti c.1),(10,.one (.int .u32) W),(11,.one (.int .u32) R),(18,ti c.1),(26,.one (.int .u32) (List.getD c.2 7 0)),(31,.one (.int .u32) (dC .u32 O a4)),(32,.one (.int .u32) W)]) o ?_
    refine cB h λa7 c0 h=>iu (cr W (-25) _ c0) kr o o o ?_
    refine ay af 3 [2,3,6,7,8,9,10,11,18,35,36] (E':=[(2,ptr V 0),(3,ptr u 0),(6,ptr M 0),(7,ptr f.2 0),(8,ptr f.1 0),(9,ti c.1),(10,.one (.int .u32) W),(11,.one (.int .u32) R),(18,ti c.1),(35,.one (.int .u32) (wrap .u32 ((List.getD c.2 7 0)+(dC .u32 (dC .u32 O a4) a7)))),(36,.one (.int .u32) W)]) o ?_
    refine iE h λhc h=>q_y (bO o o hc.1 hc.2 jZ cJ) o ?_
    refine q_y (aN 0 (.elem 5 .here) o o pof (aw pix aa) cJ) o ?_
    refine ay af 3 [2,3,6,7,8,9,10,11,18,35,39,41] (E':=[(2,ptr V 0),(3,ptr u 0),(6,ptr M 0),(7,ptr f.2 0),(8,ptr f.1 0),(9,ti c.1),(10,.one (.int .u32) W),(11,.one (.int .u32) R),(18,ti c.1),(35,.one (.int .u32) (wrap .u32 ((List.getD c.2 7 0)+(dC .u32 (dC .u32 O a4) a7)))),(39,.one (.int .u32) (go .u32 W (List.getD c.2 5 0))),(41,.one (.int .u32) (vP .u32 W))]) o ?_
    refine iE h λhc h=>q_y (bO o o hc.1 hc.2 jZ cJ) o ?_
    refine q_y (aN 0 (.elem 6 .here) o o pof (aw pix aa) cJ) o ?_
    refine ay af 2 [2,3,6,7,8,9,10,11,18,35,45] (E':=[(2,ptr V 0),(3,ptr u 0),(6,ptr M 0),(7,ptr f.2 0),(8,ptr f.1 0),(9,ti c.1),(10,.one (.int .u32) W),(11,.one (.int .u32) R),(18,ti c.1),(35,.one (.int .u32) (wrap .u32 ((List.getD c.2 7 0)+(dC .u32 (dC .u32 O a4) a7)))),(45,.one (.int .u32) (dC .u32 (go .u32 W (List.getD c.2 5 0)) (go .u32 (vP .u32 W) (List.getD c.2 6 0))))]) o ?_
    obtain⟨c1,e,h⟩:=aj h;rw[e]
    refine ay af 1 [2,3,6,7,8,9,10,11,18,46] (E':=[(2,ptr V 0),(3,ptr u 0),(6,ptr M 0),(7,ptr f.2 0),(8,ptr f.1 0),(9,ti c.1),(10,.one (.int .u32) W),(11,.one (.int .u32) R),(18,ti c.1),(46,.one (.int .u32) (wrap .u32 ((wrap .u32 ((List.getD c.2 7 0)+(dC .u32 (dC .u32 O a4) a7)))+c1)))]) o ?_
    obtain⟨a8,e,h⟩:=aj h;rw[e]
    refine ay af 3 [2,3,6,7,8,9,10,11,18,46,48,49] (E':=[(2,ptr V 0),(3,ptr u 0),(6,ptr M 0),(7,ptr f.2 0),(8,ptr f.1 0),(9,ti c.1),(10,.one (.int .u32) W),(11,.one (.int .u32) R),(18,ti c.1),(46,.one (.int .u32) a8),(48,ti c.1),(49,ptr V 0)]) o ?_
    refine iE h λhc h=>q_y (bO o o hc.1 hc.2 qd cJ) o ?_
    refine q_y (aN 4 (.elem (Int.toNat c.1) .here) o o pof (aw pix aa) cJ) o ?_
    refine ay af 2 [2,3,6,7,8,10,11,18,52,53] (E':=[(2,ptr V 0),(3,ptr u 0),(6,ptr M 0),(7,ptr f.2 0),(8,ptr f.1 0),(10,.one (.int .u32) W),(11,.one (.int .u32) R),(18,ti c.1),(52,.one (.int .u32) (wrap .u32 (a8+(List.getD N (Int.toNat c.1) 0)))),(53,ti c.1)]) o ?_
    refine iE h λhc h=>q_y (bO o o hc.1 hc.2 qd cJ) o ?_
    refine q_y (aN 1 (.elem (Int.toNat c.1) .here) o o pof (aw pix aa) cJ) o ?_
    refine ay af 1 [2,3,6,7,8,10,11,18,56] (E':=[(2,ptr V 0),(3,ptr u 0),(6,ptr M 0),(7,ptr f.2 0),(8,ptr f.1 0),(10,.one (.int .u32) W),(11,.one (.int .u32) R),(18,ti c.1),(56,.one (.int .u32) (wrap .u32 ((wrap .u32 (a8+(List.getD N (Int.toNat c.1) 0)))+(List.getD J (Int.toNat c.1) 0))))]) o ?_
    obtain⟨G,e,h⟩:=aj h;rw[e]
    refine ay af 1 [2,3,6,7,8,10,11,12,18] (E':=[(2,ptr V 0),(3,ptr u 0),(6,ptr M 0),(7,ptr f.2 0),(8,ptr f.1 0),(10,.one (.int .u32) W),(11,.one (.int .u32) R),(12,.one (.int .u32) G),(18,ti c.1)]) o ?_
    refine eK ?_
    refine zt<|zs<|ef kr kr ?_
    refine ay af 1 [2,3,6,7,8,10,11,12,18,57] (E':=[(2,ptr V 0),(3,ptr u 0),(6,ptr M 0),(7,ptr f.2 0),(8,ptr f.1 0),(10,.one (.int .u32) W),(11,.one (.int .u32) R),(12,.one (.int .u32) G),(18,ti c.1),(57,.one (.int .u32) R)]) o ?_
    refine cB h λd c2 h=>iu (cr R (-2) _ c2) kr o o o ?_
    refine ay af 1 [2,3,6,7,8,10,11,12,18,58,59] (E':=[(2,ptr V 0),(3,ptr u 0),(6,ptr M 0),(7,ptr f.2 0),(8,ptr f.1 0),(10,.one (.int .u32) W),(11,.one (.int .u32) R),(12,.one (.int .u32) G),(18,ti c.1),(58,.one (.int .u32) d),(59,.one (.int .u32) R)]) o ?_
    refine cB h λZ c3 h=>iu (cr R (-13) _ c3) kr o o o ?_
    refine ay af 2 [2,3,6,7,8,10,11,12,18,61,62] (E':=[(2,ptr V 0),(3,ptr u 0),(6,ptr M 0),(7,ptr f.2 0),(8,ptr f.1 0),(10,.one (.int .u32) W),(11,.one (.int .u32) R),(12,.one (.int .u32) G),(18,ti c.1),(61,.one (.int .u32) (dC .u32 d Z)),(62,.one (.int .u32) R)]) o ?_
    refine cB h λa5 c4 h=>iu (cr R (-22) _ c4) kr o o o ?_
    refine ay af 2 [2,3,6,7,8,10,11,12,18,64,65] (E':=[(2,ptr V 0),(3,ptr u 0),(6,ptr M 0),(7,ptr f.2 0),(8,ptr f.1 0),(10,.one (.int .u32) W),(11,.one (.int .u32) R),(12,.one (.int .u32) G),(18,ti c.1),(64,.one (.int .u32) (dC .u32 (dC .u32 d Z) a5)),(65,.one (.int .u32) R)]) o ?_
    refine iE h λhc h=>q_y (bO o o hc.1 hc.2 jZ cJ) o ?_
    refine q_y (aN 0 (.elem 1 .here) o o pof (aw pix aa) cJ) o ?_
    refine ay af 2 [2,3,6,7,8,10,11,12,18,64,68,69] (E':=[(2,ptr V 0),(3,ptr u 0),(6,ptr M 0),(7,ptr f.2 0),(8,ptr f.1 0),(10,.one (.int .u32) W),(11,.one (.int .u32) R),(12,.one (.int .u32) G),(18,ti c.1),(64,.one (.int .u32) (dC .u32 (dC .u32 d Z) a5)),(68,.one (.int .u32) (go .u32 R (List.getD c.2 1 0))),(69,.one (.int .u32) R)]) o ?_
    refine iE h λhc h=>q_y (bO o o hc.1 hc.2 jZ cJ) o ?_
    refine q_y (aN 0 (.elem 2 .here) o o pof (aw pix aa) cJ) o ?_
    refine ay af 2 [2,3,6,7,8,10,11,12,18,64,73] (E':=[(2,ptr V 0),(3,ptr u 0),(6,ptr M 0),(7,ptr f.2 0),(8,ptr f.1 0),(10,.one (.int .u32) W),(11,.one (.int .u32) R),(12,.one (.int .u32) G),(18,ti c.1),(64,.one (.int .u32) (dC .u32 (dC .u32 d Z) a5)),(73,.one (.int .u32) (dC .u32 (go .u32 R (List.getD c.2 1 0)) (go .u32 R (List.getD c.2 2 0))))]) o ?_
    refine iE h λhc h=>q_y (bO o o hc.1 hc.2 jZ cJ) o ?_
    refine q_y (aN 0 (.elem 1 .here) o o pof (aw pix aa) cJ) o ?_
    refine iE h λhc h=>q_y (bO o o hc.1 hc.2 jZ cJ) o ?_
    refine q_y (aN 0 (.elem 2 .here) o o pof (aw pix aa) cJ) o ?_
    refine ay af 2 [2,3,6,7,8,10,11,12,18,64,79] (E':=[(2,ptr V 0),(3,ptr u 0),(6,ptr M 0),(7,ptr f.2 0),(8,ptr f.1 0),(10,.one (.int .u32) W),(11,.one (.int .u32) R),(12,.one (.int .u32) G),(18,ti c.1),(64,.one (.int .u32) (dC .u32 (dC .u32 d Z) a5)),(79,.one (.int .u32) (dC .u32 (dC .u32 (go .u32 R (List.getD c.2 1 0)) (go .u32 R (List.getD c.2 2 0))) (go .u32 (List.getD c.2 1 0) (List.getD c.2 2 0))))]) o ?_
    obtain⟨c5,e,h⟩:=aj h;rw[e]
    refine ay af 2 [2,3,6,7,8,10,11,12,13,18] (E':=[(2,ptr V 0),(3,ptr u 0),(6,ptr M 0),(7,ptr f.2 0),(8,ptr f.1 0),(10,.one (.int .u32) W),(11,.one (.int .u32) R),(12,.one (.int .u32) G),(13,.one (.int .u32) (wrap .u32 ((dC .u32 (dC .u32 d Z) a5)+c5))),(18,ti c.1)]) o ?_
    obtain⟨c6,e,h⟩:=aj h;rw[e]
    refine eK ?_
    refine zt<|zr<|zm 4 o<|iE h λhc h=>y (bO o o hc.1 hc.2 jZ cJ) o ?_
    refine y (aN 0 (.elem 1 .here) o o pof (aw pix aa) cJ) o ?_
    refine iE h λhc h=>y (bO o o hc.1 hc.2 jZ cJ) o ?_
    refine y (aN 0 (.elem 2 .here) o o pof (aw pix aa) cJ) o ?_
    refine iE h λhc h=>y (bO o o hc.1 hc.2 jZ cJ) o ?_
    refine y (aN 0 (.elem 3 .here) o o pof (aw pix aa) cJ) o ?_
    refine zm 3 o<|iE h λhc h=>y (bO o o hc.1 hc.2 jZ cJ) o ?_
    refine y (aN 0 (.elem 5 .here) o o pof (aw pix aa) cJ) o ?_
    refine iE h λhc h=>y (bO o o hc.1 hc.2 jZ cJ) o ?_
    refine y (aN 0 (.elem 6 .here) o o pof (aw pix aa) cJ) o ?_
    refine y (bc o qb o o (.cons (.elem 0 .here) o o (aw pix aa) (.cons (.elem 1 .here) o o (aw pix aa) (.cons (.elem 2 .here) o o (aw pix aa) (.cons (.elem 3 .here) o o (aw pix aa) (.cons (.elem 4 .here) o o (aw pix aa) (.cons (.elem 5 .here) o o (aw pix aa) (.cons (.elem 6 .here) o o (aw pix aa) (.cons (.elem 7 .here) o o (aw pix aa) .nil))))))))) o ?_
    exact st 0 .here lY o o o o tr<|zn<|zi<|zt<|zr<|zA o<|aY ((wrap .i64 (c.1+1)),[(wrap .u32 (G+c6)),R,(List.getD c.2 1 0),(List.getD c.2 2 0),(wrap .u32 ((List.getD c.2 3 0)+G)),W,(List.getD c.2 5 0),(List.getD c.2 6 0)]) () (Nat.lt_succ_self _) h o o
   exact zx<|ze<|ze<|zq<|zt<|ah c.2 () h o o
  refine bD h (λa9=>[(6,ptr M 0),(8,ptr f.1 0)]) (λa9=>[Res.var f.1 353 W75 a9,Res.var f.2 354 W72 J,Res.var M 353 W75 (List.replicate 8 (0:Int)),Res.var u 353 W75 H,Res.var V 354 W72 N]) (λc7 h=>?_) λa9 h=>?_
  ·refine zW o<|zb<|ai [3,6,8,100] o<|bl (γ:=Unit) (λ(C:Int×List (Int)) _=>[(3,ptr u 0),(6,ptr M 0),(8,ptr f.1 0),(100,ti C.1)]) (λ(C:Int×List (Int)) _=>[Res.var f.1 353 W75 C.2,Res.var f.2 354 W72 J,Res.var M 353 W75 (List.replicate 8 (0:Int)),Res.var u 353 W75 H,Res.var V 354 W72 N]) (mr H c7) (0,a6) () h o o ?_
   clear h
   intro b1 C gg h
   cases b1 with
   |zero=>cases h
   |succ b1=>
   simp only[mr]at h
   refine zW o<|zs<|rI h o (λhc h=>?_) λhc h=>?_
   ·refine zk<|zt<|zs<|zb<|zu<|q 2 [(3,ptr u 0),(6,ptr M 0),(8,ptr f.1 0),(14,ti C.1),(100,ti C.1)] [] o<|za<|dA kr<|zF 1 [0] kr o o<|iE h λhc h=>ej 1 (ptr f.1 (0+(Int.toNat C.1)*1)) o kr (bO o o hc.1 hc.2 jZ cJ)<|zF 1 [3] kr o o<|iE h λhc h=>ej 4 (ptr u (0+(Int.toNat C.1)*1)) o kr (bO o o hc.1 hc.2 jZ cJ) ?_
    refine pB (fuel:=1) [2,5,6,7] #[true,true,true,true,true,true,true,true,false] kr ?_
    refine q_y (aN 0 (.elem (Int.toNat C.1) .here) o o pof (aw pix aa) cJ) o ?_
    refine q_y (aN 3 (.elem (Int.toNat C.1) .here) o o pof (aw pix aa) cJ) o ?_
    refine ay af 1 [3,6,8,100,103,109] (E':=[(3,ptr u 0),(6,ptr M 0),(8,ptr f.1 0),(100,ti C.1),(103,ti C.1),(109,.one (.int .u32) (wrap .u32 ((List.getD C.2 (Int.toNat C.1) 0)+(List.getD H (Int.toNat C.1) 0))))]) o ?_
    obtain⟨c8,e,h⟩:=aj h;rw[e]
    refine iE h λhc h=>q_y (bO o o hc.1 hc.2 jZ cJ) o ?_
    refine eK ?_
    exact ai [3,6,8,100,109,110] o<|ae 8 kr o<|iV 0 (.elem (Int.toNat C.1) .here) o o o pof (aw pix aa) cJ<|zL [3,6,8,100] o<|aJ kr<|zi<|zt<|zr<|zA o<|aY ((wrap .i64 (C.1+1)),(List.set C.2 (Int.toNat C.1) c8)) () (Nat.lt_succ_self _) h o o
   exact zx<|ze<|ze<|zq<|zt<|ah C.2 () h o o
  refine zu<|yl 0 .here lY o o o tr o<|st 2 .here lY o o o o tr<|zf ?_
  cases h
  exact aT o (.cell 2 .here o o o aa lY) (λ_ _ g=>g) (λ_ _ _=>(.cons _ (.cons _ (.cons _ (.cons _ (.cons_cons _ .slnil))))))
 refine zH 1 [0] (ag (aq 1 o) ak) kr o o λs=>bq 2 (.one W75 H) s o kr (cp (S:=λw=>bG [aZ u 353 W75 H] w) (bz 0 o) 1 .here o o o o aa lY) λs=>?_
 refine Fs (i:=1) (j:=3) (l:=4) kr o o o ?_ ?_ ?_
 ·refine au (jY _ _ a3) kr o o<|za<|bi (ag (aq 1 o) ak) ?_
  refine ai [2,3,6,16,17] o ?_
  refine tj (i:=3) (j:=4) kr o o ?_ ?_
  ·refine aB (t:=W72) o pp o λc9=>za<|bi (ag (aq 2 o) ak) ?_
   refine ai [2,3,6,7,16,17] o<|aF 4 kr o<|aB (t:=W75) o qb o λd0=>za<|bi (ag (aq 3 o) ak) ?_
   refine ai [2,3,6,7,8,16,17] o<|aF 5 kr o<|st 1 .here nb o o o o tr<|za<|bi (ag (aq 3 o) ak) ?_
   refine ai [2,3,6,7,8,17] o<|aF 6 kr o<|st 0 .here lY o o o o tr<|nL o<|za<|bi (ag (aq 3 o) ak) ?_
   exact ai [2,3,6,7,8] o<|dU kr<|ai [2,3,6,7,8] o<|m (d0,c9)
  refine aB (t:=W75) o qb o λd1=>za<|bi (ag (aq 2 o) ak) ?_
  refine ai [2,3,6,8,16,17] o<|aF 3 kr o<|aB (t:=W72) o pp o λd2=>za<|bi (ag (aq 3 o) ak) ?_
  refine ai [2,3,6,7,8,16,17] o<|aF 5 kr o<|st 0 .here nb o o o o tr<|za<|bi (ag (aq 3 o) ak) ?_
  refine ai [2,3,6,7,8,17] o<|aF 6 kr o<|st 1 .here lY o o o o tr<|nL o<|za<|bi (ag (aq 3 o) ak) ?_
  exact ai [2,3,6,7,8] o<|dU kr<|ai [2,3,6,7,8] o<|pk [1,0,0,0,0] o<|m (d1,d2)
 ·refine aB (t:=W72) o pp o λb3=>za<|bi (ag (aq 2 o) ak) ?_
  refine ai [2,3,6,7,15,17] o ?_
  refine tj (i:=1) (j:=4) kr o o ?_ ?_
  ·refine au (jY _ _ a3) kr o o<|za<|bi (ag (aq 2 o) ak) ?_
   refine ai [2,3,6,7,16,17] o<|aF 4 kr o<|aB (t:=W75) o qb o λd3=>za<|bi (ag (aq 3 o) ak) ?_
   refine ai [2,3,6,7,8,16,17] o<|aF 5 kr o<|st 1 .here nb o o o o tr<|za<|bi (ag (aq 3 o) ak) ?_
   refine ai [2,3,6,7,8,17] o<|aF 6 kr o<|st 0 .here lY o o o o tr<|nL o<|za<|bi (ag (aq 3 o) ak) ?_
   exact ai [2,3,6,7,8] o<|dU kr<|ai [2,3,6,7,8] o<|m (d3,b3)
  refine aB (t:=W75) o qb o λd4=>za<|bi (ag (aq 3 o) ak) ?_
  refine ai [2,3,6,7,8,15,17] o<|aF 1 kr o<|au (jY _ _ a3) kr o o<|za<|bi (ag (aq 3 o) ak) ?_
  refine ai [2,3,6,7,8,16,17] o<|aF 5 kr o<|st 1 .here nb o o o o tr<|za<|bi (ag (aq 3 o) ak) ?_
  refine ai [2,3,6,7,8,17] o<|aF 6 kr o<|st 0 .here lY o o o o tr<|nL o<|za<|bi (ag (aq 3 o) ak) ?_
  exact ai [2,3,6,7,8] o<|dU kr<|ai [2,3,6,7,8] o<|m (d4,b3)
 refine aB (t:=W75) o qb o λb6=>za<|bi (ag (aq 2 o) ak) ?_
 refine ai [2,3,6,8,15,17] o ?_
 refine tj (i:=1) (j:=3) kr o o ?_ ?_
 ·refine au (jY _ _ a3) kr o o<|za<|bi (ag (aq 2 o) ak) ?_
  refine ai [2,3,6,8,16,17] o<|aF 3 kr o<|aB (t:=W72) o pp o λd5=>za<|bi (ag (aq 3 o) ak) ?_
  refine ai [2,3,6,7,8,16,17] o<|aF 5 kr o<|st 0 .here nb o o o o tr<|za<|bi (ag (aq 3 o) ak) ?_
  refine ai [2,3,6,7,8,17] o<|aF 6 kr o<|st 1 .here lY o o o o tr<|nL o<|za<|bi (ag (aq 3 o) ak) ?_
  exact ai [2,3,6,7,8] o<|dU kr<|ai [2,3,6,7,8] o<|pk [1,0,0,0,0] o<|m (b6,d5)
 refine aB (t:=W72) o pp o λd6=>za<|bi (ag (aq 3 o) ak) ?_
 refine ai [2,3,6,7,8,15,17] o<|aF 1 kr o<|au (jY _ _ a3) kr o o<|za<|bi (ag (aq 3 o) ak) ?_
 refine ai [2,3,6,7,8,16,17] o<|aF 5 kr o<|st 0 .here nb o o o o tr<|za<|bi (ag (aq 3 o) ak) ?_
 refine ai [2,3,6,7,8,17] o<|aF 6 kr o<|st 1 .here lY o o o o tr<|nL o<|za<|bi (ag (aq 3 o) ak) ?_
 exact ai [2,3,6,7,8] o<|dU kr<|ai [2,3,6,7,8] o<|pk [1,0,0,0,0] o<|m (b6,d6)
theorem vN(w r)(h:tF w=some r):bw PP 267 [.one W86 w] (.one W73 r):=by
 unfold tF at h
 refine enter Tryz.func267 o 71 o o λF=>?_
 refine zu<|aB (t:=W73) o lu o λc=>zZ 1 o<|cB h λW a5 h=>au (wT _ _ _ a5) kr o o<|zm 1 o<|zz<|q 3 [(2,ptr c 0),(3,ts W),(4,ti (List.length W:Int))] [] o ?_
 obtain⟨n4,e,h⟩:=aj h;rw[e]
 refine zz<|bC (B:=1) af o el5 o o o (.cons o .nil) o λv5=>?_
 refine p 1 [2,3,4,5] o<|za<|jK h (γ:=Value) (λm g8=>[(2,ptr c 0),(3,ts W),(4,ti n4),(5,.one W69 g8)]) (λm g8=>[Res.own g8 5 (.int .u8) m,Res.var c 26 W73 z32]) (λk6 h=>?_) λm g8 h=>?_
 ·refine zb<|ai [2,3,4,5] o<|bl (γ:=Value) (λ(N:List (Int)) J=>[(2,ptr c 0),(3,ts W),(4,ti n4),(5,.one W69 J)]) (λ(N:List (Int)) J=>[Res.own J 5 (.int .u8) N,Res.var c 26 W73 z32]) (pm n4 k6) [128] v5 h o o ?_
  clear h
  intro Z N J h
  cases Z with
  |zero=>cases h
  |succ Z=>
  simp only[pm]at h
  refine zs<|zU 2 o<|y (ct af 0 o o o) o ?_
  refine zA o<|rI h o (λhc h=>?_) λhc h=>?_
  ·refine zk<|zt<|zb<|zr<|zm 1 o<|bC (B:=1) af o el5 o o o (.cons o .nil) o λb8=>?_
   refine iE h λhc h=>aW (B:=1) af 1 o o (bM 0 o o) o el5 o o hc o λa6=>?_
   exact pk [1,1] o<|zN o<|zi<|zt<|aY (N++[0]) a6 (Nat.lt_succ_self _) h o o
  exact zx<|ze<|ze<|zq<|zt<|ah N J h o o
 refine jK h (γ:=Value) (λC g11=>[(2,ptr c 0),(3,ts W),(5,.one W69 g11)]) (λC g11=>[Res.own g11 5 (.int .u8) C,Res.var c 26 W73 z32]) (λk9 h=>?_) λC g11 h=>?_
 ·refine zW o<|zb<|ai [2,3,4,5,25] o<|bl (γ:=Value) (λ(V:Int×List (Int)) H=>[(2,ptr c 0),(3,ts W),(4,ti n4),(5,.one W69 H),(25,ti V.1)]) (λ(V:Int×List (Int)) H=>[Res.own H 5 (.int .u8) V.2,Res.var c 26 W73 z32]) (pl n4 k9) (0,m) g8 h o o ?_
  clear h
  intro a1 V H h
  cases a1 with
  |zero=>cases h
  |succ a1=>
  simp only[pl]at h
  refine zW o<|zs<|rI h o (λhc h=>?_) λhc h=>?_
  ·refine zk<|zt<|zs<|zb<|zW o<|zr<|zm 7 o<|iE h λhc h=>y (nO o o hc) o ?_
   refine q 1 [(2,ptr c 0),(3,ts W),(4,ti n4),(25,ti V.1),(28,.one W69 H),(36,.one (.int .u8) (wrap .u8 (ca .u64 (wrap .u64 (wrap .i64 (8*n4))) (wrap .i64 (56 - (wrap .i64 (8*V.1)))))))] [] o ?_
   obtain⟨a7,e,h⟩:=aj h;rw[e]
   refine bC (B:=1) af o el5 o o o (.cons o .nil) o λb9=>?_
   refine iE h λhc h=>aW (B:=1) af 1 o o (bM 0 o o) o el5 o o hc o λa8=>?_
   exact pk [1,1] o<|zN o<|zi<|zt<|zr<|zA o<|aY ((wrap .i64 (V.1+1)),(V.2++[a7])) a8 (Nat.lt_succ_self _) h o o
  exact zx<|ze<|ze<|zq<|zt<|ah V.2 H h o o
 refine zU 2 o<|y (nN af 0 o o o o o) o ?_
 refine iE h λhc h=>y (ij o o hc) o ?_
 refine q 1 [(2,ptr c 0),(3,ts (W++C))] [] o ?_
 obtain⟨a9,e,h⟩:=aj h;rw[e]
 refine zz<|y (bc o qb o o (.cons (.elem 0 .here) o o (aw pix aa) (.cons (.elem 1 .here) o o (aw pix aa) (.cons (.elem 2 .here) o o (aw pix aa) (.cons (.elem 3 .here) o o (aw pix aa) (.cons (.elem 4 .here) o o (aw pix aa) (.cons (.elem 5 .here) o o (aw pix aa) (.cons (.elem 6 .here) o o (aw pix aa) (.cons (.elem 7 .here) o o (aw pix aa) .nil))))))))) o ?_
 refine aB (t:=W75) o qb o λR=>st 0 .here lY o o o o tr<|zz<|cB h λb0 b1 h=>au (vD _ b1) kr o o<|aB (t:=W72) o pp o λG=>st 0 .here nb o o o o tr<|nL o<|za<|bD h (λM=>[(2,ptr c 0),(7,ptr R 0)]) (λM=>[Res.var G 354 W72 M.1,Res.var R 353 W75 M.2,Res.own g11 5 (.int .u8) C,Res.var c 26 W73 z32]) (λb3 h=>?_) λM h=>?_
 ·refine zb<|ai [2,3,7,8] o<|bl (γ:=Unit) (λ(u:List Int×List (Int)×List (Int)) _=>[(2,ptr c 0),(3,ts u.1),(7,ptr R 0),(8,ptr G 0)]) (λ(u:List Int×List (Int)×List (Int)) _=>[Res.var G 354 W72 u.2.1,Res.var R 353 W75 u.2.2,Res.own g11 5 (.int .u8) C,Res.var c 26 W73 z32]) (pj b3) (a9,b0,[1779033703,3144134277,1013904242,2773480762,1359893119,2600822924,528734635,1541459225]) () h o o ?_
  clear h
  intro a2 u gg h
  cases a2 with
  |zero=>cases h
  |succ a2=>
  simp only[pj]at h
  refine zs<|zW o<|rI h o (λhc h=>?_) λhc h=>?_
  ·refine zk<|zt<|zs<|zb<|dA kr<|zF 1 [1] kr o o<|iE h λhc h=>ej 2 (ts (List.drop 0 (List.take 64 u.1))) o kr (gD (i:=(0:Int)) (j:=64) af o o o hc.1 hc.2.1 hc.2.2 o)<|ae 0 kr o<|yl 1 .here lY o o o tr o<|zL [2,3,7,8,50,52] o<|ae 3 kr o<|cB h λa3 b4 h=>rc [0] (xx _ _ _ _ _ b4) kr o o o λ_=>?_
   refine zL [2,3,7,8,53] o<|ae 4 kr o<|st 1 .here lY o o o o tr<|zL [2,3,7,8] o<|aJ kr<|zi<|zt<|zr<|zm 1 o<|iE h λhc h=>y (gD (i:=64) (j:=(List.length u.1:Int)) af o o o hc.1 hc.2.1 hc.2.2 o) o ?_
   refine q 1 [(3,ts (List.drop 64 (List.take (Int.toNat (List.length u.1:Int)) u.1))),(7,ptr R 0),(8,ptr G 0)] [2] o ?_
   obtain⟨b5,e,h⟩:=aj h;rw[e]
   exact za<|aY (b5,a3.2,a3.1) () (Nat.lt_succ_self _) h o o
  exact zx<|ze<|ze<|zq<|zt<|ah (u.2.1,u.2.2) () h o o
 refine zu<|aB (t:=W73) o lu o λd=>za<|bD h (λO=>[(2,ptr c 0),(9,ptr d 0)]) (λO=>[Res.var d 26 W73 O,Res.var G 354 W72 M.1,Res.var R 353 W75 M.2,Res.own g11 5 (.int .u8) C,Res.var c 26 W73 z32]) (λb6 h=>?_) λO h=>?_
 ·refine zW o<|zb<|ai [2,7,9,54] o<|bl (γ:=Unit) (λ(f:Int×List (Int)) _=>[(2,ptr c 0),(7,ptr R 0),(9,ptr d 0),(54,ti f.1)]) (λ(f:Int×List (Int)) _=>[Res.var d 26 W73 f.2,Res.var G 354 W72 M.1,Res.var R 353 W75 M.2,Res.own g11 5 (.int .u8) C,Res.var c 26 W73 z32]) (pi M b6) (0,z32) () h o o ?_
  clear h
  intro a4 f gg h
  cases a4 with
  |zero=>cases h
  |succ a4=>
  simp only[pi]at h
  refine zW o<|zs<|rI h o (λhc h=>?_) λhc h=>?_
  ·refine zk<|zt<|zs<|zb<|zW o<|zr<|zm 3 o<|iE h λhc h=>y (bO o o hc.1 hc.2 jZ cJ) o ?_
   refine y (aN 2 (.elem (Int.toNat (wrap .i64 (Int.tdiv f.1 4))) .here) o o pof (aw pix aa) cJ) o ?_
   refine zm 4 o<|iE h λhc h=>y (nO o o hc) o ?_
   refine q 1 [(2,ptr c 0),(7,ptr R 0),(9,ptr d 0),(54,ti f.1),(57,ti f.1),(67,.one (.int .u8) (wrap .u8 (ca .u32 (List.getD M.2 (Int.toNat (wrap .i64 (Int.tdiv f.1 4))) 0) (wrap .i64 (24 - (wrap .i64 (8*(Int.tmod f.1 4))))))))] [] o ?_
   obtain⟨b7,e,h⟩:=aj h;rw[e]
   refine iE h λhc h=>y (bO o o hc.1 hc.2 nl ty5) o ?_
   exact iV 0 (.elem (Int.toNat f.1) .here) o o o pof (aw pix aa) ty5<|zn<|zi<|zt<|zr<|zA o<|aY ((wrap .i64 (f.1+1)),(List.set f.2 (Int.toNat f.1) b7)) () (Nat.lt_succ_self _) h o o
  exact zx<|ze<|ze<|zq<|zt<|ah f.2 () h o o
 refine zu<|yl 0 .here bB o o o tr o<|st 4 .here bB o o o o tr<|zf ?_
 cases h
 exact aT o (.cell 4 .here o o o aa bB) (λ_ _ g=>g) (λ_ _ _=>List.nil_sublist _)
theorem sR(M R c r)(h:pn M R c=some r):bw PP 262 [.one W84 M,.one W84 R,.one Y52 c] (ti r):=by
 unfold pn at h
 refine enter Tryz.func262 o 59 o o λF=>?_
 refine zu<|bI o o λf=>zA o<|zs<|zW o<|rI h o (λhc h=>zU 1 o<|zf<|zT<|by cases h;exact ax o (.tmp o)) λhc h=>zk<|zt<|zs<|zu<|yl 0 .here br o o o tr o<|cB h λZ C h=>au (iY _ _ C) kr o o<|zA o ?_
 refine rI h o (λhc h=>zU 1 o<|zf<|zT<|by cases h;exact ax o (.tmp o)) λhc h=>zk<|zt<|zs<|zU 1 o<|yl 0 f0 ty3 o o o tr o<|zA o<|rI h o (λhc h=>?_) λhc h=>?_
 ·refine zs<|zs<|ef kr kr ?_
  refine ay af 1 [0,20] (E':=[(0,.one W84 M),(20,ptr f 1)]) o ?_
  refine q_y (aN 0 f1 o o o (ab (av aa)) ty2) o ?_
  refine ay af 1 [21,22] (E':=[(21,ti c.2.1),(22,.one W84 M)]) o ?_
  refine cB h λH G h=>iu (xu M _ G) kr o o o ?_
  refine ay af 1 [24] (E':=[(24,tb (c.2.1 !=H))]) o ?_
  refine eK ?_
  refine zt<|rI h o (λhc h=>zU 1 o<|zf<|zT<|zT<|by cases h;exact ax o (.tmp o)) λhc h=>zy<|zE o<|zT ?_
  cases h
  exact ax o (.tmp o)
 refine zy<|zm 2 o<|yl 0 f1 ty2 o o o tr o<|cB h λu N h=>au (xw _ _ _ N) kr o o<|zm 3 o<|aB (t:=Y52) o ii o λV=>st 0 .here br o o o o tr<|zm 1 o<|zZ 2 o<|yl 1 f1 ty2 o o o tr o<|cB h λW J h=>au (vC _ _ _ J) kr o o<|zm 3 o ?_
 refine aB (t:=Y52) o ii o λa3=>st 0 .here br o o o o tr<|nL o<|zA o<|zs<|zs<|gc (S:=bG [aZ f 52 Y52 c,aZ V 52 Y52 u.1]) kr ?_
 refine zH 3 [0,1,2] (ag (aq 2 o) (ag (aq 1 o) ak)) kr o o λs=>?_
 refine so (d:=41) (b:=(!u.2)) o (λhb=>?_) (λhb=>?_)
 ·rw[if_pos hb]at h
  refine zH 1 [3] (ag (aq 2 o) (ag (aq 1 o) ak)) kr o o λs=>aF 4 kr o<|zA o<|bi (ag (aq 2 o) (ag (aq 1 o) ak)) ?_
  refine ai [5,7,43] o<|zH 14 [5,6,7,8,9,10,11,12,13,14,15,16,17,18] (ag (aq 2 o) (ag (aq 1 o) ak)) kr o o λs=>aF 19 kr o<|zA o<|bi (ag (aq 2 o) (ag (aq 1 o) ak)) ?_
  refine ai [58] o<|dU kr<|zt ?_
  refine iK (b:=true) o (λhc=>?_) (λhc=>?_)
  ·refine zU 1 o<|zf<|zT ?_
   cases h
   exact ax o (.tmp o)
  cases hc
 rw[if_neg (ne_true_of_eq_false hb)]at h
 refine fx 3 41 (tb W.2) (ag (aq 2 o) (ag (aq 1 o) ak)) o kr o (im af o) λs=>aF 4 kr o<|zA o<|bi (ag (aq 2 o) (ag (aq 1 o) ak)) ?_
 refine ai [5,7,43] o<|zH 1 [5] (ag (aq 2 o) (ag (aq 1 o) ak)) kr o o λs=>?_
 refine so (d:=44) (b:=W.2) o (λhb=>?_) (λhb=>?_)
 ·rw[if_pos hb]at h
  refine zH 13 [6,7,8,9,10,11,12,13,14,15,16,17,18] (ag (aq 2 o) (ag (aq 1 o) ak)) kr o o λs=>aF 19 kr o<|zA o<|bi (ag (aq 2 o) (ag (aq 1 o) ak)) ?_
  refine ai [58] o<|dU kr<|zt ?_
  refine iK (b:=true) o (λhc=>?_) (λhc=>?_)
  ·refine zU 1 o<|zf<|zT ?_
   cases h
   exact ax o (.tmp o)
  cases hc
 rw[if_neg (ne_true_of_eq_false hb)]at h
 refine fx 6 44 (ptr f 0) (ag (aq 2 o) (ag (aq 1 o) ak)) o kr o (im af o) λs=>fx 7 44 (ti c.1) s o kr o (cp (S:=λw=>bG [aZ f 52 Y52 c,aZ V 52 Y52 u.1] w) (bz 0 o) 2 f0 o o o o (av aa) ty3) λs=>fx 8 44 (tb (c.1==2)) s o kr o (im af o) λs=>fx 9 44 (tb (c.1==2)) s o kr o (im af o) λs=>?_
 refine so (d:=48) (b:=(c.1==2)) o (λhb=>?_) (λhb=>?_)
 ·rw[if_pos hb]at h
  refine fx 10 48 (ptr f 3) (ag (aq 2 o) (ag (aq 1 o) ak)) o kr o (im af o) λs=>fx 11 48 (.one W69 (.slice (some ⟨f,3,none⟩) 32 32)) s o kr o (mi o nl o ty5) λs=>fx 12 48 (ts c.2.2.2.1) s o kr o (BP (S:=λw=>bG [aZ f 52 Y52 c,aZ V 52 Y52 u.1] w) (bz 0 o) af 2 f3 o o o (ab (ab (ab (av aa)))) o o o o) λs=>fx 15 48 (ptr V 3) s o kr o (im af o) λs=>fx 16 48 (.one W73 u.1.2.2.2.1) s o kr o (cp (S:=λw=>bG [aZ f 52 Y52 c,aZ V 52 Y52 u.1] w) (bz 1 o) 1 f3 o o o o (ab (ab (ab (av aa)))) bB) λs=>aF 13 kr o<|al dl o ?_
  refine bC (B:=16) af o el9 o o o (.cons o .nil) o λa4=>?_
  refine za<|bi (ag (aq 3 o) (ag (aq 2 o) ak)) ?_
  refine ai [44,48,52,55] o<|aF 14 kr o<|al dl o ?_
  refine l5 (i:=0) (k:=52) o o ?_
  refine cB h λm O h=>au (vN _ _ O) kr o o<|za<|bi (ag (aq 2 o) (ag (aq 1 o) ak)) ?_
  refine ai [44,48,53,55] o<|fx 17 48 (tb (!eqD W73 m u.1.2.2.2.1)) (ag (aq 2 o) (ag (aq 1 o) ak)) o kr o (o4 20 o o o o bB o uW uX) λs=>aF 18 kr o<|al dl o ?_
  refine zA o<|bi (ag (aq 2 o) (ag (aq 1 o) ak)) ?_
  refine ai [44,57] o<|aF 19 kr o<|zA o<|bi (ag (aq 2 o) (ag (aq 1 o) ak)) ?_
  refine ai [58] o<|dU kr<|zt<|rI h o (λhc h=>zU 1 o<|zf<|zT<|by cases h;exact ax o (.tmp o)) λhc h=>zy<|zE o ?_
  cases h
  exact ax o (.tmp o)
 rw[if_neg (ne_true_of_eq_false hb)]at h
 refine zH 8 [10,11,12,13,14,15,16,17] (ag (aq 2 o) (ag (aq 1 o) ak)) kr o o λs=>aF 18 kr o<|al dl o ?_
 refine zA o<|bi (ag (aq 2 o) (ag (aq 1 o) ak)) ?_
 refine ai [44,57] o<|aF 19 kr o<|zA o<|bi (ag (aq 2 o) (ag (aq 1 o) ak)) ?_
 refine ai [58] o<|dU kr<|zt ?_
 refine iK (b:=false) o (λhc=>?_) (λhc=>?_)
 ·cases hc
 refine zy<|zE o ?_
 cases h
 exact ax o (.tmp o)
theorem tU(C:Value)(u c r)(h:mI u c=some r):Fn PP 258 [.one W80 u,tp C] [Res.cls db C c] (λ_=>tb r.1) (λ_=>[Res.clsor db C r.2 r.1]):=by
 unfold mI at h
 refine enter Tryz.func258 o 28 o o λF=>?_
 refine mA λM m O w hp=>?_
 subst hp
 refine hP (x:=c) ?_
 refine zu<|bI o o λV=>zA o<|zs<|zs<|pk [1,0] o<|kj λG H N=>?_
 refine ef kr kr ?_
 refine ay af 3 [1,2,7] (E':=[(1,ptr M 0),(2,ptr V 0),(7,ptr M 4)]) o ?_
 refine q_y (aN 0 f4 o o o (ab (ab (ab (ab (av aa))))) tx0) o ?_
 refine ay af 3 [1,2,8,11] (E':=[(1,ptr M 0),(2,ptr V 0),(8,.one W69 G),(11,ptr M 5)]) o ?_
 refine q_y (aN 0 f5 o o o (ab (ab (ab (ab (ab (av aa)))))) tx0) o ?_
 refine ay af 1 [1,2,8,12,13] (E':=[(1,ptr M 0),(2,ptr V 0),(8,.one W69 G),(12,.one W69 H),(13,ptr V 0)]) o ?_
 refine q_y (aN 4 f0 o o o (av aa) br) o ?_
 refine cB h λJ d h=>A1 (sR c.2.2.2.2.1 c.2.2.2.2.2.1 u.1 _ d) kr o (.own 1 o o (.own 2 o o (.val o .nil))) o ?_
 refine ay af 1 [1,2,16] (E':=[(1,ptr M 0),(2,ptr V 0),(16,tb (J !=0))]) o ?_
 refine eK ?_
 refine zt<|rI h o (λhc h=>zU 1 o<|zf<|zT<|az (R':=Res.clsor db (.pointer (some ⟨M,0,none⟩)) c false) 0 o ni<|by cases h;exact aT o (.tmp o) (λ_ _ g=>g) (λ_ _ _=>(.cons_cons _ (.cons _ (.cons _ (.cons _ (.cons _ .slnil))))))) λhc h=>zk<|zt<|jK h (γ:=Value) (λR g14=>[]) (λR g14=>[Res.var M 30 W0 (gZ c g14 H N),Res.own g14 52 Y52 R,Res.own H 52 Y52 c.2.2.2.2.2.1,Res.own N 56 Y56 c.2.2.2.2.2.2.2.2.2.2.2.2.2.2.2.1,Res.var V 276 W80 u]) (λZ h=>?_) λR g14 h=>?_
 ·refine dA kr<|zF 3 [0,1,5] kr o o ?_
  refine bv (i:=2) (j:=6) kr o o ?_ ?_
  ·refine zA o<|ai [17,19,22] o<|zF 1 [3] kr o o ?_
   refine bv (i:=4) (j:=6) kr o o ?_ ?_
   ·refine yl 0 f4 tx0 o o o tr o<|zL [17,21,22] o<|ae 6 kr o<|yl 4 f0 br o o o tr o<|zL [17,21,23] o<|ae 7 kr o<|bC (B:=72) af o jB o o o (.cons o .nil) o λW=>?_
    refine zL [17,21,24] o<|ae 8 kr o<|iE h λhc h=>aW (B:=72) af 2 o o (bM 0 o o) o jB o o hc o λf=>?_
    exact pk [1,1,1,1,1] o<|zL [17,25] o<|ae 9 kr o<|zA o<|ai [25,26] o<|zF 1 [10] kr o o<|ae 11 kr o<|st 0 f4 tx0 o o o o tr<|nL o<|zL [] o<|aJ kr<|zt<|ah (c.2.2.2.2.1++[u.1]) f h o o
   refine yl 4 f0 br o o o tr o<|zL [17,20,23] o ?_
   refine bv (i:=4) (j:=7) kr o o ?_ ?_
   ·refine yl 0 f4 tx0 o o o tr o<|zL [17,21,23] o<|ae 7 kr o<|bC (B:=72) af o jB o o o (.cons o .nil) o λW=>?_
    refine zL [17,21,24] o<|ae 8 kr o<|iE h λhc h=>aW (B:=72) af 2 o o (bM 0 o o) o jB o o hc o λf=>?_
    exact pk [1,1,1,1,1] o<|zL [17,25] o<|ae 9 kr o<|zA o<|ai [25,26] o<|zF 1 [10] kr o o<|ae 11 kr o<|st 0 f4 tx0 o o o o tr<|nL o<|zL [] o<|aJ kr<|zt<|ah (c.2.2.2.2.1++[u.1]) f h o o
   refine bC (B:=72) af o jB o o o (.cons o .nil) o λW=>?_
   refine zL [17,20,24] o<|ae 4 kr o<|yl 1 f4 tx0 o o o tr o<|zL [17,21,24] o<|ae 8 kr o<|iE h λhc h=>aW (B:=72) af 2 o o (bM 0 o o) o jB o o hc o λf=>?_
   exact pk [1,1,1,1,1] o<|zL [17,25] o<|ae 9 kr o<|zA o<|ai [25,26] o<|zF 1 [10] kr o o<|ae 11 kr o<|st 0 f4 tx0 o o o o tr<|nL o<|zL [] o<|aJ kr<|zt<|ah (c.2.2.2.2.1++[u.1]) f h o o
  refine yl 4 f0 br o o o tr o<|zL [17,18,23] o ?_
  refine bv (i:=2) (j:=7) kr o o ?_ ?_
  ·refine zA o<|ai [17,19,23] o<|zF 1 [3] kr o o ?_
   refine bv (i:=4) (j:=7) kr o o ?_ ?_
   ·refine yl 0 f4 tx0 o o o tr o<|zL [17,21,23] o<|ae 7 kr o<|bC (B:=72) af o jB o o o (.cons o .nil) o λW=>?_
    refine zL [17,21,24] o<|ae 8 kr o<|iE h λhc h=>aW (B:=72) af 2 o o (bM 0 o o) o jB o o hc o λf=>?_
    exact pk [1,1,1,1,1] o<|zL [17,25] o<|ae 9 kr o<|zA o<|ai [25,26] o<|zF 1 [10] kr o o<|ae 11 kr o<|st 0 f4 tx0 o o o o tr<|nL o<|zL [] o<|aJ kr<|zt<|ah (c.2.2.2.2.1++[u.1]) f h o o
   refine bC (B:=72) af o jB o o o (.cons o .nil) o λW=>?_
   refine zL [17,20,24] o<|ae 4 kr o<|yl 1 f4 tx0 o o o tr o<|zL [17,21,24] o<|ae 8 kr o<|iE h λhc h=>aW (B:=72) af 2 o o (bM 0 o o) o jB o o hc o λf=>?_
   exact pk [1,1,1,1,1] o<|zL [17,25] o<|ae 9 kr o<|zA o<|ai [25,26] o<|zF 1 [10] kr o o<|ae 11 kr o<|st 0 f4 tx0 o o o o tr<|nL o<|zL [] o<|aJ kr<|zt<|ah (c.2.2.2.2.1++[u.1]) f h o o
  refine bC (B:=72) af o jB o o o (.cons o .nil) o λW=>?_
  refine zL [17,18,24] o<|ae 2 kr o<|zA o<|ai [17,19,24] o<|zF 1 [3] kr o o<|ae 4 kr o<|yl 1 f4 tx0 o o o tr o<|zL [17,21,24] o<|ae 8 kr o<|iE h λhc h=>aW (B:=72) af 2 o o (bM 0 o o) o jB o o hc o λf=>?_
  exact pk [1,1,1,1,1] o<|zL [17,25] o<|ae 9 kr o<|zA o<|ai [25,26] o<|zF 1 [10] kr o o<|ae 11 kr o<|st 0 f4 tx0 o o o o tr<|nL o<|zL [] o<|aJ kr<|zt<|ah (c.2.2.2.2.1++[u.1]) f h o o
 refine zU 1 o<|zf<|hP (x:=(Dl c R)) ?_
 refine az (R':=Res.clsor db (.pointer (some ⟨M,0,none⟩)) (Dl c R) true) 0 o oN ?_
 cases h
 exact bm o (.tmp o) (.cons_cons _ (.cons _ .slnil))
theorem rO(R:Value)(M u r)(h:lI M u=some r):Fn PP 274 [.one W64 M,tp R] [Res.cls db R u] (λ_=>tb r.1) (λ_=>[Res.clsor db R r.2 r.1]):=by
 unfold lI at h
 refine enter Tryz.func274 o 70 o o λF=>?_
 refine mA λc m O w hp=>?_
 subst hp
 refine hP (x:=u) ?_
 refine zu<|bI o o λf=>q 1 [(1,ptr c 0),(2,ptr f 0)] [] o<|za<|zs<|zs<|pk [1,0] o<|kj λG N J=>?_
 refine ef kr kr ?_
 refine ay af 3 [1,2,7] (E':=[(1,ptr c 0),(2,ptr f 0),(7,ptr c 7)]) o ?_
 refine q_y (aN 0 f7 o o o (ab (ab (ab (ab (ab (ab (ab (av aa)))))))) ty2) o ?_
 refine ay af 3 [1,2,8,11] (E':=[(1,ptr c 0),(2,ptr f 0),(8,ti u.2.2.2.2.2.2.2.1),(11,ptr c 8)]) o ?_
 refine q_y (aN 0 f8 o o o (ab (ab (ab (ab (ab (ab (ab (ab (av aa))))))))) ty2) o ?_
 refine ay af 2 [1,2,14] (E':=[(1,ptr c 0),(2,ptr f 0),(14,tb (u.2.2.2.2.2.2.2.1 !=u.2.2.2.2.2.2.2.2.1))]) o ?_
 obtain⟨W,e,h⟩:=aj h;rw[e]
 refine l4 9 [(1,ptr c 0),(2,ptr f 0),(23,tb (W||(M.1 !=(wrap .i64 (u.2.2.2.2.2.2.2.1+1)))))] ?_ ?_
 ·clear h
  cases W
  ·refine ay af 1 [1,2,14,15] (E':=[(1,ptr c 0),(2,ptr f 0),(14,tb false),(15,ptr f 0)]) o ?_
   refine dR dl o ?_
   refine q_y (aN 4 f0 o o o (av aa) ty2) o ?_
   refine ay af 3 [1,2,14,16,19] (E':=[(1,ptr c 0),(2,ptr f 0),(14,tb false),(16,ti M.1),(19,ptr c 7)]) o ?_
   refine dR dl o ?_
   refine q_y (aN 0 f7 o o o (ab (ab (ab (ab (ab (ab (ab (av aa)))))))) ty2) o ?_
   refine ay af 3 [1,2,23] (E':=[(1,ptr c 0),(2,ptr f 0),(23,tb (M.1 !=(wrap .i64 (u.2.2.2.2.2.2.2.1+1))))]) o ?_
   refine gO ?_
   exact jj o
  refine ay af 9 [1,2,23] (E':=[(1,ptr c 0),(2,ptr f 0),(23,tb true)]) o ?_
  refine gO ?_
  exact jj o
 refine ay af 1 [1,2,24] (E':=[(1,ptr c 0),(2,ptr f 0),(24,tb (W||(M.1 !=(wrap .i64 (u.2.2.2.2.2.2.2.1+1)))))]) o ?_
 obtain⟨C,e,h⟩:=aj h;rw[e]
 refine l4 10 [(1,ptr c 0),(2,ptr f 0),(34,tb (C||(M.2.1.2.1 !=u.2.2.2.2.2.2.2.2.2.1.2.1)))] ?_ ?_
 ·clear h
  cases C
  ·refine ay af 2 [1,2,24,26] (E':=[(1,ptr c 0),(2,ptr f 0),(24,tb false),(26,ptr f 2)]) o ?_
   refine dR dl o ?_
   refine q_y (aN 4 ((.snd (.fst f1))) o o o (ab (av (ab (av aa)))) ty3) o ?_
   refine ay af 4 [1,2,24,27,31] (E':=[(1,ptr c 0),(2,ptr f 0),(24,tb false),(27,ti M.2.1.2.1),(31,ptr c 10)]) o ?_
   refine dR dl o ?_
   refine q_y (aN 0 ((g9 (.fst f1))) o o o (ab (ab (ab (ab (ab (ab (ab (ab (ab (av (ab (av aa)))))))))))) ty3) o ?_
   refine ay af 2 [1,2,34] (E':=[(1,ptr c 0),(2,ptr f 0),(34,tb (M.2.1.2.1 !=u.2.2.2.2.2.2.2.2.2.1.2.1))]) o ?_
   refine gO ?_
   exact jj o
  refine ay af 10 [1,2,34] (E':=[(1,ptr c 0),(2,ptr f 0),(34,tb true)]) o ?_
  refine gO ?_
  exact jj o
 refine ay af 1 [1,2,35] (E':=[(1,ptr c 0),(2,ptr f 0),(35,tb (C||(M.2.1.2.1 !=u.2.2.2.2.2.2.2.2.2.1.2.1)))]) o ?_
 obtain⟨H,e,h⟩:=aj h;rw[e]
 refine l4 10 [(1,ptr c 0),(2,ptr f 0),(45,tb (H||(decide (M.2.1.1<u.2.2.2.2.2.2.2.2.2.2.1.1))))] ?_ ?_
 ·clear h
  cases H
  ·refine ay af 2 [1,2,35,37] (E':=[(1,ptr c 0),(2,ptr f 0),(35,tb false),(37,ptr f 1)]) o ?_
   refine dR dl o ?_
   refine q_y (aN 4 ((.snd (.fst f0))) o o o (ab (av (av aa))) ty3) o ?_
   refine ay af 4 [1,2,35,38,42] (E':=[(1,ptr c 0),(2,ptr f 0),(35,tb false),(38,ti M.2.1.1),(42,ptr c 11)]) o ?_
   refine dR dl o ?_
   refine q_y (aN 0 ((g10 (.fst f0))) o o o (ab (ab (ab (ab (ab (ab (ab (ab (ab (ab (av (av aa)))))))))))) ty3) o ?_
   refine ay af 2 [1,2,45] (E':=[(1,ptr c 0),(2,ptr f 0),(45,tb (decide (M.2.1.1<u.2.2.2.2.2.2.2.2.2.2.1.1)))]) o ?_
   refine gO ?_
   exact jj o
  refine ay af 10 [1,2,45] (E':=[(1,ptr c 0),(2,ptr f 0),(45,tb true)]) o ?_
  refine gO ?_
  exact jj o
 refine ay af 1 [1,2,46] (E':=[(1,ptr c 0),(2,ptr f 0),(46,tb (H||(decide (M.2.1.1<u.2.2.2.2.2.2.2.2.2.2.1.1))))]) o ?_
 obtain⟨d,e,h⟩:=aj h;rw[e]
 refine l4 10 [(1,ptr c 0),(2,ptr f 0),(56,tb (d||(decide (M.2.1.1>(List.length u.2.2.2.2.1:Int)))))] ?_ ?_
 ·clear h
  cases d
  ·refine ay af 2 [1,2,46,48] (E':=[(1,ptr c 0),(2,ptr f 0),(46,tb false),(48,ptr f 1)]) o ?_
   refine dR dl o ?_
   refine q_y (aN 4 ((.snd (.fst f0))) o o o (ab (av (av aa))) ty3) o ?_
   refine ay af 3 [1,2,46,49,52] (E':=[(1,ptr c 0),(2,ptr f 0),(46,tb false),(49,ti M.2.1.1),(52,ptr c 4)]) o ?_
   refine dR dl o ?_
   refine q_y (aN 0 f4 o o o (ab (ab (ab (ab (av aa))))) tx0) o ?_
   refine dR dl o ?_
   refine q_y (ct af 1 o o o) o ?_
   refine ay af 2 [1,2,56] (E':=[(1,ptr c 0),(2,ptr f 0),(56,tb (decide (M.2.1.1>(List.length u.2.2.2.2.1:Int))))]) o ?_
   refine gO ?_
   exact jj o
  refine ay af 10 [1,2,56] (E':=[(1,ptr c 0),(2,ptr f 0),(56,tb true)]) o ?_
  refine gO ?_
  exact jj o
 refine eK ?_
 refine zt<|rI h o (λhc h=>zU 1 o<|zf<|zT<|az (R':=Res.clsor db (.pointer (some ⟨c,0,none⟩)) u false) 0 o ni<|by cases h;exact aT o (.tmp o) (λ_ _ g=>g) (λ_ _ _=>(.cons_cons _ (.cons _ (.cons _ (.cons _ (.cons _ .slnil))))))) λhc h=>zk<|zt<|bD h (λV=>[]) (λV=>[Res.var c 30 W0 (gZ V G N J),Res.own G 52 Y52 u.2.2.2.2.1,Res.own N 52 Y52 u.2.2.2.2.2.1,Res.own J 56 Y56 u.2.2.2.2.2.2.2.2.2.2.2.2.2.2.2.1,Res.var f 278 W64 M]) (λZ h=>?_) λV h=>?_
 ·refine dA kr<|zF 5 [0,1,2,3,5] kr o o ?_
  refine bv (i:=4) (j:=6) kr o o ?_ ?_
  ·refine yl 4 f0 ty2 o o o tr o<|zL [57,58,59,61,62] o ?_
   refine bv (i:=6) (j:=7) kr o o ?_ ?_
   ·refine yl 4 f1 eM o o o tr o<|zL [57,58,59,61,63] o<|ae 7 kr o<|zA o<|ai [58,59,61,63,64] o<|zF 1 [8] kr o o<|ae 9 kr o<|st 0 f7 ty2 o o o o tr<|zL [58,59,63] o<|ae 10 kr o<|zA o<|ai [59,63,66] o<|zF 1 [11] kr o o<|ae 12 kr o ?_
    exact st 0 f10 eM o o o o tr<|nL o<|zL [59] o<|ae 13 kr o<|zA o<|ai [68] o<|zF 1 [14] kr o o<|ae 15 kr o<|st 0 f12 ty4 o o o o tr<|zL [] o<|aJ kr<|zt<|ah (vv u () () M.1 M.2.1 true ()) () h o o
   refine zA o<|ai [58,59,61,62,64] o<|zF 1 [8] kr o o ?_
   refine bv (i:=6) (j:=9) kr o o ?_ ?_
   ·refine yl 4 f1 eM o o o tr o<|zL [58,59,61,63,65] o<|ae 9 kr o<|st 0 f7 ty2 o o o o tr<|zL [58,59,63] o<|ae 10 kr o<|zA o<|ai [59,63,66] o<|zF 1 [11] kr o o<|ae 12 kr o<|st 0 f10 eM o o o o tr<|nL o<|zL [59] o<|ae 13 kr o ?_
    exact zA o<|ai [68] o<|zF 1 [14] kr o o<|ae 15 kr o<|st 0 f12 ty4 o o o o tr<|zL [] o<|aJ kr<|zt<|ah (vv u () () M.1 M.2.1 true ()) () h o o
   refine st 0 f7 ty2 o o o o tr<|zL [58,59,62] o<|ae 6 kr o<|yl 4 f1 eM o o o tr o<|zL [58,59,63] o<|ae 10 kr o<|zA o<|ai [59,63,66] o<|zF 1 [11] kr o o<|ae 12 kr o<|st 0 f10 eM o o o o tr<|nL o<|zL [59] o<|ae 13 kr o ?_
   exact zA o<|ai [68] o<|zF 1 [14] kr o o<|ae 15 kr o<|st 0 f12 ty4 o o o o tr<|zL [] o<|aJ kr<|zt<|ah (vv u () () M.1 M.2.1 true ()) () h o o
  refine yl 4 f1 eM o o o tr o<|zL [57,58,59,60,63] o<|ae 4 kr o<|yl 4 f0 ty2 o o o tr o<|zL [57,58,59,61,63] o<|ae 7 kr o<|zA o<|ai [58,59,61,63,64] o<|zF 1 [8] kr o o<|ae 9 kr o<|st 0 f7 ty2 o o o o tr<|zL [58,59,63] o<|ae 10 kr o<|zA o ?_
  refine ai [59,63,66] o<|zF 1 [11] kr o o<|ae 12 kr o<|st 0 f10 eM o o o o tr<|nL o<|zL [59] o<|ae 13 kr o<|zA o<|ai [68] o<|zF 1 [14] kr o o<|ae 15 kr o<|st 0 f12 ty4 o o o o tr<|zL [] o<|aJ kr ?_
  exact zt<|ah (vv u () () M.1 M.2.1 true ()) () h o o
 refine zU 1 o<|zf<|hP (x:=(gZ V u.2.2.2.2.1 u.2.2.2.2.2.1 u.2.2.2.2.2.2.2.2.2.2.2.2.2.2.2.1)) ?_
 refine az (R':=Res.clsor db (.pointer (some ⟨c,0,none⟩)) (gZ V u.2.2.2.2.1 u.2.2.2.2.2.1 u.2.2.2.2.2.2.2.2.2.2.2.2.2.2.2.1) true) 0 o oN ?_
 cases h
 exact bm o (.tmp o) (.cons_cons _ (.cons _ .slnil))
theorem tV(N:Value)(M f r)(h:mJ M f=some r):Fn PP 280 [.one Y280 M,tp N] [Res.cls db N f] (λ_=>tb r.1) (λ_=>[Res.clsor db N r.2 r.1]):=by
 unfold mJ at h
 refine enter Tryz.func280 o 95 o o λF=>?_
 refine mA λc a5 a6 a7 hp=>?_
 subst hp
 refine hP (x:=f) ?_
 refine zu<|bI o o λu=>q 1 [(1,ptr c 0),(2,ptr u 0)] [] o<|za<|zs<|zs<|pk [1,0] o<|kj λC W H=>?_
 refine ef kr kr ?_
 refine ay af 1 [1,2,8] (E':=[(1,ptr c 0),(2,ptr u 0),(8,ptr u 0)]) o ?_
 refine q_y (aN 4 f0 o o o (av aa) ty2) o ?_
 refine ay af 3 [1,2,9,12] (E':=[(1,ptr c 0),(2,ptr u 0),(9,ti M.1),(12,ptr c 6)]) o ?_
 refine q_y (aN 0 f6 o o o (ab (ab (ab (ab (ab (ab (av aa))))))) ty2) o ?_
 refine ay af 3 [1,2,16] (E':=[(1,ptr c 0),(2,ptr u 0),(16,tb (M.1 !=(wrap .i64 (f.2.2.2.2.2.2.1+1))))]) o ?_
 obtain⟨J,e,h⟩:=aj h;rw[e]
 refine l4 7 [(1,ptr c 0),(2,ptr u 0),(23,tb (J||(decide (f.2.2.2.2.2.2.2.2.2.1.2.1<0))))] ?_ ?_
 ·clear h
  cases J
  ·refine ay af 4 [1,2,16,20] (E':=[(1,ptr c 0),(2,ptr u 0),(16,tb false),(20,ptr c 10)]) o ?_
   refine dR dl o ?_
   refine q_y (aN 0 ((g9 (.fst f1))) o o o (ab (ab (ab (ab (ab (ab (ab (ab (ab (av (ab (av aa)))))))))))) ty3) o ?_
   refine ay af 2 [1,2,23] (E':=[(1,ptr c 0),(2,ptr u 0),(23,tb (decide (f.2.2.2.2.2.2.2.2.2.1.2.1<0)))]) o ?_
   refine gO ?_
   exact jj o
  refine ay af 7 [1,2,23] (E':=[(1,ptr c 0),(2,ptr u 0),(23,tb true)]) o ?_
  refine gO ?_
  exact jj o
 refine ay af 1 [1,2,24] (E':=[(1,ptr c 0),(2,ptr u 0),(24,tb (J||(decide (f.2.2.2.2.2.2.2.2.2.1.2.1<0))))]) o ?_
 obtain⟨d,e,h⟩:=aj h;rw[e]
 refine l4 12 [(1,ptr c 0),(2,ptr u 0),(36,tb (d||(decide (f.2.2.2.2.2.2.2.2.2.1.2.1>(List.length f.2.2.2.2.2.1:Int)))))] ?_ ?_
 ·clear h
  cases d
  ·refine ay af 4 [1,2,24,28] (E':=[(1,ptr c 0),(2,ptr u 0),(24,tb false),(28,ptr c 10)]) o ?_
   refine dR dl o ?_
   refine q_y (aN 0 ((g9 (.fst f1))) o o o (ab (ab (ab (ab (ab (ab (ab (ab (ab (av (ab (av aa)))))))))))) ty3) o ?_
   refine ay af 3 [1,2,24,29,32] (E':=[(1,ptr c 0),(2,ptr u 0),(24,tb false),(29,ti f.2.2.2.2.2.2.2.2.2.1.2.1),(32,ptr c 5)]) o ?_
   refine dR dl o ?_
   refine q_y (aN 0 f5 o o o (ab (ab (ab (ab (ab (av aa)))))) tx0) o ?_
   refine dR dl o ?_
   refine q_y (ct af 2 o o o) o ?_
   refine ay af 2 [1,2,36] (E':=[(1,ptr c 0),(2,ptr u 0),(36,tb (decide (f.2.2.2.2.2.2.2.2.2.1.2.1>(List.length f.2.2.2.2.2.1:Int))))]) o ?_
   refine gO ?_
   exact jj o
  refine ay af 12 [1,2,36] (E':=[(1,ptr c 0),(2,ptr u 0),(36,tb true)]) o ?_
  refine gO ?_
  exact jj o
 refine eK ?_
 refine zt<|rI h o (λhc h=>zU 1 o<|zf<|zT<|az (R':=Res.clsor db (.pointer (some ⟨c,0,none⟩)) f false) 0 o ni<|by cases h;exact aT o (.tmp o) (λ_ _ g=>g) (λ_ _ _=>(.cons_cons _ (.cons _ (.cons _ (.cons _ (.cons _ .slnil))))))) λhc h=>zk<|zt<|zs<|ef kr kr ?_
 refine ay af 3 [1,2,39] (E':=[(1,ptr c 0),(2,ptr u 0),(39,ptr c 5)]) o ?_
 refine q_y (aN 0 f5 o o o (ab (ab (ab (ab (ab (av aa)))))) tx0) o ?_
 refine ay af 4 [1,2,40,44] (E':=[(1,ptr c 0),(2,ptr u 0),(40,.one W69 W),(44,ptr c 10)]) o ?_
 refine q_y (aN 0 ((g9 (.fst f1))) o o o (ab (ab (ab (ab (ab (ab (ab (ab (ab (av (ab (av aa)))))))))))) ty3) o ?_
 obtain⟨G,h⟩:=cu h
 refine q_y (kF af (i:=(0:Int)) (j:=f.2.2.2.2.2.2.2.2.2.1.2.1) o (fk 2 o) o o G.1 G.2.1 G.2.2 o br) o ?_
 refine ay af 1 [1,2,5] (E':=[(1,ptr c 0),(2,ptr u 0),(5,.one W69 (iL (T.size Y52) W (Int.toNat (0:Int)) (Int.toNat f.2.2.2.2.2.2.2.2.2.1.2.1)))]) o ?_
 refine eK ?_
 refine zt<|jK h (γ:=Value) (λV g16=>[(1,ptr c 0),(2,ptr u 0),(5,.one W69 g16)]) (λV g16=>[Res.var c 30 W0 (gZ V.1 C W H),Res.own C 52 Y52 f.2.2.2.2.1,Res.own g16 52 Y52 V.2,Res.own H 56 Y56 f.2.2.2.2.2.2.2.2.2.2.2.2.2.2.2.1,Res.var u 280 Y280 M]) (λZ h=>?_) λV g16 h=>?_
 ·refine zU 1 o<|yl 4 f1 jA o o o tr o<|zA o<|zb<|te (j:=(Int.toNat f.2.2.2.2.2.2.2.2.2.1.2.1)) 2 o (by have:=G.2.2;omega) ?_
  refine ai [1,2,5,48,49,50] o<|bl (γ:=Value) (λ(R:Int×(List Z51)) g21=>[(1,ptr c 0),(2,ptr u 0),(5,.one W69 g21),(48,.one W84 M.2.1),(49,ti (List.length M.2.1:Int)),(50,ti R.1)]) (λ(R:Int×(List Z51)) g21=>[Res.var c 30 W0 (gZ f C W H),Res.own C 52 Y52 f.2.2.2.2.1,Res.own g21 52 Y52 R.2,Res.own H 56 Y56 f.2.2.2.2.2.2.2.2.2.2.2.2.2.2.2.1,Res.var u 280 Y280 M]) (jx M f Z) (0,(List.take (Int.toNat f.2.2.2.2.2.2.2.2.2.1.2.1) f.2.2.2.2.2.1)) (iL (T.size Y52) W 0 (Int.toNat f.2.2.2.2.2.2.2.2.2.1.2.1)) h o o ?_
  clear h
  intro m R g21 h
  cases m with
  |zero=>cases h
  |succ m=>
  simp only[jx]at h
  refine zW o<|zs<|rI h o (λhc h=>?_) λhc h=>?_
  ·refine zk<|zt<|zs<|zb<|zu<|iE h λhc h=>y (eo af o o hc.1 hc.2 o br) o ?_
   refine y (de o br) o ?_
   refine aB (t:=Y52) o ii o λO=>st 0 .here br o o o o tr<|za<|zs<|zs<|ef kr kr ?_
   refine ay af 4 [1,2,5,7,48,49,50,54,57] (E':=[(1,ptr c 0),(2,ptr u 0),(5,.one W69 g21),(7,ptr O 0),(48,.one W84 M.2.1),(49,ti (List.length M.2.1:Int)),(50,ti R.1),(54,.one W69 g21),(57,ptr c 4)]) o ?_
   refine q_y (aN 1 f4 o o o (ab (ab (ab (ab (av aa))))) tx0) o ?_
   refine q_y (aN 0 .here o o o aa br) o ?_
   refine cB h λa2 a3 h=>A1 (sR R.2 f.2.2.2.2.1 (List.getD M.2.1 (Int.toNat R.1) (0,0,0,z32,[],())) _ a3) kr o (.own 3 o o (.own 2 o o (.val o .nil))) o ?_
   refine ay af 1 [1,2,5,7,48,49,50,61] (E':=[(1,ptr c 0),(2,ptr u 0),(5,.one W69 g21),(7,ptr O 0),(48,.one W84 M.2.1),(49,ti (List.length M.2.1:Int)),(50,ti R.1),(61,tb (a2 !=0))]) o ?_
   refine eK ?_
   refine zt<|rI h o (λhc h=>zU 1 o<|zf<|zT<|zB<|zT<|zT<|zB<|zT<|az (R':=Res.clsor db (.pointer (some ⟨c,0,none⟩)) f false) 1 o ni<|by cases h;exact aT o (.tmp o) (λ_ _ g=>g) (λ_ _ _=>(.cons _ (.cons_cons _ (.cons _ (.cons _ (.cons _ (.cons _ .slnil)))))))) λhc h=>zk<|zt<|zr<|zm 1 o<|yl 0 .here br o o o tr o<|bC (B:=72) af o jB o o o (.cons o .nil) o λa8=>?_
   refine iE h λhc h=>aW (B:=72) af 4 o o (bM 0 o o) o jB o o hc o λa4=>?_
   exact pk [1,1,1,1,1,1] o<|zN o<|zi<|zt<|zr<|zA o<|pk [1,1,1,1,1] o<|aY ((wrap .i64 (R.1+1)),(R.2++([(List.getD M.2.1 (Int.toNat R.1) (0,0,0,z32,[],()))]))) a4 (Nat.lt_succ_self _) h o o
  exact zx<|ze<|ze<|zq<|zt<|ah ((gZ f () () ()),R.2) g21 h o o
 refine zs<|gc (S:=bG [aZ u 280 Y280 M]) kr ?_
 refine zH 6 [0,1,2,3,4,5] (ag (aq 4 o) ak) kr o o λs=>bq 6 (ti M.1) s o kr (cp (S:=λw=>bG [aZ u 280 Y280 M] w) (bz 0 o) 4 f0 o o o o (av aa) ty2) λs=>zH 1 [7] s kr o o λs=>bq 8 (.one W73 M.2.2.1) s o kr (cp (S:=λw=>bG [aZ u 280 Y280 M] w) (bz 0 o) 4 f2 o o o o (ab (ab (av aa))) bB) λs=>zH 2 [9,10] s kr o o λs=>aF 11 kr o<|gE (t:=W0) (v:=W69) 0 f5 o o o o o o tx0 ?_
 refine za<|bi (ag (aq 4 o) ak) ?_
 refine ai [1,5,68,69,70,73,75] o<|zH 2 [12,13] (ag (aq 4 o) ak) kr o o λs=>aF 14 kr o<|st 0 f6 ty2 o o o o tr<|nL o<|za<|bi (ag (aq 4 o) ak) ?_
 refine ai [1,5,69,70,75] o<|zH 2 [15,16] (ag (aq 4 o) ak) kr o o λs=>aF 17 kr o<|st 0 f14 bB o o o o tr<|za<|bi (ag (aq 4 o) ak) ?_
 refine ai [1,5,70] o<|zH 2 [18,19] (ag (aq 4 o) ak) kr o o λs=>aF 20 kr o<|st 0 f12 ty4 o o o o tr<|nL o<|za<|bi (ag (aq 4 o) ak) ?_
 refine ai [1,5] o<|dU kr<|zt<|zU 5 o<|yl 0 ((g11 (.fst f0))) ty3 o o o tr o<|zm 1 o<|y (ct af 2 o o o) o ?_
 refine y (bc o Er o o (.cons f0 o o aa (.cons f1 o o aa .nil))) o ?_
 refine zm 2 o<|st 0 f9 eM o o o o tr<|zz<|zE o<|hP (x:=(Bn V.1 f.2.2.2.2.1 V.2 M.1 (V.1.2.2.2.2.2.2.2.2.2.2.2.1.1,(List.length V.2:Int),()) false M.2.2.1 f.2.2.2.2.2.2.2.2.2.2.2.2.2.2.2.1)) ?_
 refine az (R':=Res.clsor db (.pointer (some ⟨c,0,none⟩)) (Bn V.1 f.2.2.2.2.1 V.2 M.1 (V.1.2.2.2.2.2.2.2.2.2.2.2.1.1,(List.length V.2:Int),()) false M.2.2.1 f.2.2.2.2.2.2.2.2.2.2.2.2.2.2.2.1) true) 0 o oN<|nL o ?_
 cases h
 exact bm o (.tmp o) (.cons_cons _ (.cons _ .slnil))
theorem ue(c r)(h:p6 c=some r):bw PP 292 [ti c] (tb r):=by
 unfold p6 at h
 refine enter Tryz.func292 o 9 o o λF=>?_
 refine zU 1 o<|zz<|q 3 [(0,ti c),(5,tb (decide (c≥0)))] [] o ?_
 obtain⟨f,e,h⟩:=aj h;rw[e]
 refine aH 3 [(8,tb (f&&(decide (c≤281474976710655))))] [] (?_) ?_
 ·clear h
  cases f
  ·exact zA o<|ap () o o
  exact zA o<|ap () o o
 refine zE o ?_
 cases h
 exact ax o (.tmp o)
theorem nf(c r)(h:mw c=some r):bw PP 293 [ti c] (ti r):=by
 unfold mw at h
 refine enter Tryz.func293 o 5 o o λF=>?_
 refine zU 1 o<|zz<|zE o ?_
 cases h
 exact ax o (.tmp o)
theorem oX(c r)(h:jy c=some r):FnT PP bN 240 [.one (.int .u64) c] [] (λ_=>ti r) (λ_=>[]):=by
 unfold jy at h
 refine iM Tryz.func240 o 14 o o λF hT=>?_
 refine zW o<|zs<|zW o<|rI h o (λhc h=>zU 1 o<|zf<|zT<|by cases h;exact ax o (.tmp o)) λhc h=>zy<|q 6 [(10,.one (.int .u64) (ca .u64 (wrap .u64 ((go .u64 c (wrap .u64 (0 - c)))*285870213051353865)) 58))] [] o ?_
 obtain⟨f,e,h⟩:=aj h;rw[e]
 refine iE h λhc h=>y (bO o o hc.1 hc.2 Hx ty5) o ?_
 refine y (Fu hT dl (t:=EE) (off:=(0+(Int.toNat f)*1)) (i:=(Int.toNat f)) (.tail _ (.head _)) kr o (by show _<64;omega) (by omega) kr ty5) o ?_
 refine zE o ?_
 cases h
 exact ax o (.tmp o)
theorem uf(c r)(h:p7 c=some r):FnT PP bN 290 [ti c] [] (λ_=> .tup [⟨(.int .i64),r.1⟩,⟨(.int .i64),r.2⟩]) (λ_=>[]):=by
 unfold p7 at h
 refine iM Tryz.func290 o 12 o o λF hT=>?_
 refine zW o<|zs<|zU 1 o<|cB h λV f h=>au (ue _ _ f) kr o o<|zA o<|rI h o (λhc h=>zU 2 o<|zf<|zT<|by cases h;exact aC (rs:=[.tmp 2,.tmp 3]) o (.cons (.tmp o) (.cons (.tmp o) (.nil))) o (λ_ vs g=>aG vs g) (λ_ _ _=>List.nil_sublist _)) λhc h=>zy<|zm 1 o<|cB h λR u h=>au (nf _ _ u) kr o o<|zm 1 o<|cB h λW M h=>rcT hT [] (oX _ _ M) kr o o o λ_=>?_
 refine y (wo o o) o ?_
 refine zE o ?_
 cases h
 exact aC (rs:=[.tmp 2,.tmp 3]) o (.cons (.tmp o) (.cons (.tmp o) (.nil))) o (λ_ vs g=>aG vs g) (λ_ _ _=>List.nil_sublist _)
theorem yj(c r)(h:tG c=some r):bw PP 295 [.one W73 c] (.one W73 r):=by
 unfold tG at h
 refine enter Tryz.func295 o 7 o o λF=>?_
 refine zu<|bI o o λu=>aB (t:=W73) o lu o λM=>zz<|y (mi o nl o ty5) o ?_
 refine y (qX af 1 .here o o o aa o o o o) o ?_
 refine bC (B:=16) af o el9 o o o (.cons o .nil) o λV=>?_
 refine l5 (i:=0) (k:=5) o o ?_
 refine cB h λR f h=>au (vN _ _ f) kr o o<|st 0 .here bB o o o o tr<|zf ?_
 cases h
 exact aT o (.cell 0 .here o o o aa bB) (λ_ _ g=>g) (λ_ _ _=>List.nil_sublist _)
theorem Af(C V c r)(h:uP C V c=some r):bw PP 294 [.one W73 C,ti V,ti c] (.one W73 r):=by
 unfold uP at h
 refine enter Tryz.func294 o 35 o o λF=>?_
 refine zu<|bI o o λu=>aB (t:=W73) o lu o λM=>za<|bD h (λH=>[(3,ptr u 0),(6,ptr M 0)]) (λH=>[Res.var M 26 W73 z32,Res.var u 26 W73 H]) (λN h=>?_) λH h=>?_
 ·refine zW o<|zb<|ai [1,2,3,6,9,10] o<|bl (γ:=Unit) (λ(f:Int×List (Int)) _=>[(1,ti V),(2,ti c),(3,ptr u 0),(6,ptr M 0),(9,ti c),(10,ti f.1)]) (λ(f:Int×List (Int)) _=>[Res.var M 26 W73 z32,Res.var u 26 W73 f.2]) (n3 V c N) (0,C) () h o o ?_
  clear h
  intro G f gg h
  cases G with
  |zero=>cases h
  |succ G=>
  simp only[n3]at h
  refine zW o<|zs<|rI h o (λhc h=>?_) λhc h=>?_
  ·refine zk<|zt<|bD h (λW=>[(1,ti V),(2,ti c),(3,ptr u 0),(6,ptr M 0),(9,ti c),(10,ti f.1)]) (λW=>[Res.var M 26 W73 z32,Res.var u 26 W73 W]) (λm h=>?_) λW h=>?_
   ·refine zb<|zU 2 o<|zz<|q 5 [(1,ti V),(2,ti c),(3,ptr u 0),(6,ptr M 0),(8,ti (wrap .i64 ((wrap .i64 (c - 1)) - f.1))),(9,ti c),(10,ti f.1)] [] o ?_
    obtain⟨R,e,h⟩:=aj h;rw[e]
    refine zZ 2 o<|iE h λhc h=>y (nO o o hc) o ?_
    refine zA o<|rI h o (λhc h=>?_) λhc h=>?_
    ·refine zs<|dA kr<|zF 2 [0,1] kr o o<|iE h λhc h=>ej 2 (ptr u (0+(Int.toNat (wrap .i64 (Int.tdiv R 8)))*1)) o kr (bO o o hc.1 hc.2 nl ty5)<|zF 2 [4,5] kr o o<|iE h λhc h=>ej 6 (.one (.int .u8) (ja .u8 1 (Int.tmod R 8))) o kr (GK o o hc)<|ae 3 kr o<|y (aN 1 (.elem (Int.toNat (wrap .i64 (Int.tdiv R 8))) .here) o o pof (aw (by omega) aa) ty5) o ?_
     refine zL [1,2,3,6,9,10,23,25,28] o<|zF 1 [7] kr o o<|iE h λhc h=>ej 8 (ptr u (0+(Int.toNat (wrap .i64 (Int.tdiv R 8)))*1)) o kr (bO o o hc.1 hc.2 nl ty5)<|ae 9 kr o<|iV 1 (.elem (Int.toNat (wrap .i64 (Int.tdiv R 8))) .here) o o o pof (aw (by omega) aa) ty5<|zL [1,2,3,6,9,10] o<|aJ kr<|zt<|zr<|yl 1 .here bB o o o tr o<|cB h λJ d h=>au (yj _ _ d) kr o o<|st 1 .here bB o o o o tr ?_
     exact nL o<|zn<|zi<|zt<|ah J () h o o
    exact zk<|zi<|zt<|ah f.2 () h o o
   exact zr<|zA o<|aY ((wrap .i64 (f.1+1)),W) () (Nat.lt_succ_self _) h o o
  exact zx<|ze<|ze<|zq<|zt<|ah f.2 () h o o
 refine zu<|yl 1 .here bB o o o tr o<|st 0 .here bB o o o o tr<|zf ?_
 cases h
 exact aT o (.cell 0 .here o o o aa bB) (λ_ _ g=>g) (λ_ _ _=>List.nil_sublist _)
theorem sS(R V f r)(h:rC R V f=some r):FnT PP bN 291 [.one W73 R,ti V,ti f] [] (λ_=> .tup [⟨W73,r.1⟩,⟨(.int .i64),r.2⟩]) (λ_=>[]):=by
 unfold rC at h
 refine iM Tryz.func291 o 40 o o λF hT=>?_
 refine zu<|bI o o λu=>aB (t:=W73) o lu o λM=>zm 1 o<|zZ 1 o<|cB h λc G h=>rcT hT [] (uf _ _ G) kr o o o λ_=>zA o<|zs<|zb<|zu<|q 3 [(1,ti V),(2,ti f),(3,ptr u 0),(6,ptr M 0),(8,ti c.1),(18,tb (c.2 !=0))] [] o ?_
 obtain⟨N,e,h⟩:=aj h;rw[e]
 refine bL h 4 (λC=>[(1,ti V),(2,ti f),(3,ptr u 0),(6,ptr M 0),(8,ti c.1),(22,tb C)]) (λ_=>[Res.var M 26 W73 z32,Res.var u 26 W73 R]) (λk8 h=>?_) λC h=>?_
 ·cases N
  ·replace h:=ifF h
   refine zm 1 o<|al dl o ?_
   exact cB h λJ d h=>au (ue _ _ d) kr o o<|zN o<|zt<|ah (!J) () h o o
  replace h:=ifT h
  exact zN o<|zt<|ah true () h o o
 refine zA o<|rI h o (λhc h=>?_) λhc h=>?_
 ·refine zu<|y (bc o lu o o .nil) o ?_
  refine st 0 .here bB o o o o tr<|zE o<|zB<|zT ?_
  cases h
  exact aC (rs:=[.cell 6 26,.tmp 7]) o (.cons (.cell 0 .here o o o aa bB) (.cons (.tmp o) (.nil))) o (λ_ vs g=>aG vs g) (λ_ _ _=>List.nil_sublist _)
 refine zs<|ef kr kr ?_
 refine ay af 1 [2,3,6,8,25] (E':=[(2,ti f),(3,ptr u 0),(6,ptr M 0),(8,ti c.1),(25,ti V)]) o ?_
 refine cB h λW m h=>iu (nf V _ m) kr o o o ?_
 refine ay af 1 [2,3,6,8,26,27] (E':=[(2,ti f),(3,ptr u 0),(6,ptr M 0),(8,ti c.1),(26,ti W),(27,ti c.1)]) o ?_
 refine iE h λhc h=>q_y (nO o o hc) o ?_
 refine ay af 1 [2,3,6,8,28,29] (E':=[(2,ti f),(3,ptr u 0),(6,ptr M 0),(8,ti c.1),(28,ti (ca .i64 W c.1)),(29,ti f)]) o ?_
 refine cB h λH O h=>iu (nf f _ O) kr o o o ?_
 refine ay af 1 [2,3,6,8,28,30,31] (E':=[(2,ti f),(3,ptr u 0),(6,ptr M 0),(8,ti c.1),(28,ti (ca .i64 W c.1)),(30,ti H),(31,ti c.1)]) o ?_
 refine iE h λhc h=>q_y (nO o o hc) o ?_
 refine ay af 2 [2,3,6,8,24] (E':=[(2,ti f),(3,ptr u 0),(6,ptr M 0),(8,ti c.1),(24,tb ((ca .i64 W c.1) !=(ca .i64 H c.1)))]) o ?_
 refine eK ?_
 refine zt<|rI h o (λhc h=>?_) λhc h=>?_
 ·refine zu<|y (bc o lu o o .nil) o ?_
  refine st 0 .here bB o o o o tr<|zE o<|zB<|zT ?_
  cases h
  exact aC (rs:=[.cell 6 26,.tmp 7]) o (.cons (.cell 0 .here o o o aa bB) (.cons (.tmp o) (.nil))) o (λ_ vs g=>aG vs g) (λ_ _ _=>List.nil_sublist _)
 refine zk<|zi<|zt<|zs<|dA kr<|zF 2 [1,3] kr o o<|pB (fuel:=2) [0,2,4] #[true,true,true,true,true,false,false] kr ?_
 refine q_y (aN 1 .here o o o aa bB) o ?_
 refine cB h λw Z h=>iu (nf f _ Z) kr o o o ?_
 refine cB h λa4 a3 h=>iu (Af R w c.1 _ a3) kr o o o ?_
 refine eK ?_
 refine ai [6,39] o<|ae 5 kr o<|st 0 .here bB o o o o tr<|zL [6] o<|zF 1 [6] kr o o<|aJ kr<|zt<|zR ?_
 cases h
 exact aC (rs:=[.cell 6 26,.tmp 7]) o (.cons (.cell 0 .here o o o aa bB) (.cons (.tmp o) (.nil))) o (λ_ vs g=>aG vs g) (λ_ _ _=>List.nil_sublist _)
theorem Ag(f V W r)(h:uQ f V W=some r):FnT PP bN 289 [.one W85 f,ti V,.one W73 W] [] (λv=> .tup [⟨.raw (.slice none 0 0),aK v 0⟩,⟨(.int .i64),r.2⟩]) (λv=>[Res.own (aK v 0) 56 Y56 r.1]):=by
 unfold uQ at h
 refine iM Tryz.func289 o 76 o o λF hT=>?_
 refine zu<|bI o o λu=>zA o<|zs<|zW o<|rI h o (λhc h=>?_) λhc h=>?_
 ·refine zU 2 o<|zf<|zT<|bH (.slice none 0 0) o 56 Y56 ?_
  cases h
  exact aC (rs:=[.tmp 6,.tmp 7]) o (.cons (.tmp o) (.cons (.tmp o) (.nil))) o (λ_ vs g=>by cases g with|cons M g=>cases g with|cons C g=>cases g;exact⟨_,o,.cons (bg M) (.cons C (.nil))⟩) (λ_ vs g=>by cases g with|cons M g=>cases g with|cons C g=>cases g;rw[bP M];exact(.cons_cons _ (.cons _ .slnil)))
 refine zy<|zm 1 o<|cB h λR a8 h=>rcT hT [] (uf _ _ a8) kr o o o λ_=>zA o<|zs<|zW o<|rI h o (λhc h=>?_) λhc h=>?_
 ·refine zU 2 o<|zf<|zT<|bH (.slice none 0 0) o 56 Y56 ?_
  cases h
  exact aC (rs:=[.tmp 6,.tmp 7]) o (.cons (.tmp o) (.cons (.tmp o) (.nil))) o (λ_ vs g=>by cases g with|cons M g=>cases g with|cons C g=>cases g;exact⟨_,o,.cons (bg M) (.cons C (.nil))⟩) (λ_ vs g=>by cases g with|cons M g=>cases g with|cons C g=>cases g;rw[bP M];exact(.cons_cons _ (.cons _ .slnil)))
 refine zy<|iE h λhc h=>yO (B:=48) af o uV o xo o o o hc.1 hc.2 o λv6=>?_
 refine q 1 [(0,.one W85 f),(1,ti V),(5,ptr u 0),(8,ti R.1),(10,.one W69 v6)] [] o<|za<|jK h (γ:=Value) (λo8 g9=>[(1,ti V),(5,ptr u 0),(8,ti R.1),(10,.one W69 g9)]) (λo8 g9=>[Res.own g9 56 Y56 o8,Res.var u 26 W73 W]) (λk7 h=>?_) λo8 g9 h=>?_
 ·refine zW o<|zb<|ai [0,1,5,8,10,26,27] o<|bl (γ:=Value) (λ(c:Int×(List Z55)) g17=>[(0,.one W85 f),(1,ti V),(5,ptr u 0),(8,ti R.1),(10,.one W69 g17),(26,ti (List.length f:Int)),(27,ti c.1)]) (λ(c:Int×(List Z55)) g17=>[Res.own g17 56 Y56 c.2,Res.var u 26 W73 W]) (n6 f V W R k7) (0,(List.replicate (Int.toNat 49) ((0,z32,false,()):Z55))) v6 h o o ?_
  clear h
  intro a3 c g17 h
  cases a3 with
  |zero=>cases h
  |succ a3=>
  simp only[n6]at h
  refine zW o<|zs<|rI h o (λhc h=>?_) λhc h=>?_
  ·refine zk<|zt<|jK h (γ:=Value) (λm g21=>[(0,.one W85 f),(1,ti V),(5,ptr u 0),(8,ti R.1),(10,.one W69 g21),(26,ti (List.length f:Int)),(27,ti c.1)]) (λm g21=>[Res.own g21 56 Y56 m,Res.var u 26 W73 W]) (λb5 h=>?_) λm g21 h=>?_
   ·refine zb<|zW o<|zs<|zU 2 o<|iE h λhc h=>y (eo af o o hc.1 hc.2 o jg) o ?_
    refine y (lw af f2 o o o o (ab (ab (av aa)))) o ?_
    refine y (de o ty4) o ?_
    refine zA o<|rI h o (λhc h=>zx<|ze<|zq<|zt<|ah c.2 g17 h o o) λhc h=>zy<|zm 4 o<|iE h λhc h=>y (eo af o o hc.1 hc.2 o jg) o ?_
    refine y (de o jg) o ?_
    refine iE h λhc h=>cT 0 o pix λH G N hv=>?_
    rw[hv]
    try clear hv
    refine y (dn af o o hc.1 (by first|exact hc.2|simpa using hc.2) o jg) o ?_
    refine qo 0 (Int.toNat c.1) .here o o o pix pof aa jg ?_
    refine za<|zs<|zW o<|rI h o (λhc h=>zx<|ze<|zq<|zt<|ah (List.set c.2 (Int.toNat c.1) (List.getD f (Int.toNat c.1) (0,z32,false,()))) (.slice (some ⟨H,G,none⟩) (List.length c.2) N) h o o) λhc h=>zk<|zt<|zs ?_
    obtain⟨a4,h⟩:=cu h
    refine GU (k:=0) o (by omega) λO Z b6=>?_
    refine cB h λJ a5 h=>gc (S:=bG [aZ u 26 W73 W,tm O Z Y56 f]) kr ?_
    refine zw (γ:=Nat) (λ(d:Nat)=>[(0,.one W85 f),(1,ti V),(5,ptr u 0),(8,ti R.1),(10,.one W69 (.slice (some ⟨H,G,none⟩) (List.length c.2) N)),(11,ti c.1),(12,ptr d 0),(13,ti J.2),(26,ti (List.length f:Int)),(27,ti c.1)]) (λ(d:Nat)=>[Res.var d 26 W73 J.1,Res.own (.slice (some ⟨H,G,none⟩) (List.length c.2) N) 56 Y56 (List.set c.2 (Int.toNat c.1) (List.getD f (Int.toNat c.1) (0,z32,false,()))),Res.var u 26 W73 W]) (λd=>?_) (λa6=>?_)
    ·refine zt<|zs<|ef kr kr ?_
     refine ay af 3 [0,1,5,8,10,11,12,26,27,59] (E':=[(0,.one W85 f),(1,ti V),(5,ptr u 0),(8,ti R.1),(10,.one W69 (.slice (some ⟨H,G,none⟩) (List.length c.2) N)),(11,ti c.1),(12,ptr d 0),(26,ti (List.length f:Int)),(27,ti c.1),(59,tb (J.2 !=0))]) o ?_
     obtain⟨a9,e,h⟩:=aj h;rw[e]
     refine bX h λb0 b1 h=>?_
     refine xB 8 (λ(a7:Bool)=>[(0,.one W85 f),(1,ti V),(5,ptr u 0),(8,ti R.1),(10,.one W69 (.slice (some ⟨H,G,none⟩) (List.length c.2) N)),(26,ti (List.length f:Int)),(27,ti c.1),(67,tb a7)]) b0 r ?_ ?_
     ·cases a9
      ·replace h:=ifF h
       refine dR dl o ?_
       refine q_y (aN 0 .here o o o aa bB) o ?_
       refine ay af 2 [0,1,5,8,10,26,27,59,60,61,62] (E':=[(0,.one W85 f),(1,ti V),(5,ptr u 0),(8,ti R.1),(10,.one W69 (.slice (some ⟨H,G,none⟩) (List.length c.2) N)),(26,ti (List.length f:Int)),(27,ti c.1),(59,tb false),(60,.one W73 J.1),(61,.one W85 f),(62,ti c.1)]) o ?_
       refine dR dl o ?_
       refine iE h λhc h=>q_y (eo af o o hc.1 hc.2 o jg) o ?_
       refine dR dl o ?_
       refine q_y (lw af f1 o o o o (ab (av aa))) o ?_
       refine dR dl o ?_
       refine q_y (de o bB) o ?_
       refine dR dl o ?_
       refine q_y (o4 20 o o o o bB o uW uX) o ?_
       refine ay af 1 [0,1,5,8,10,26,27,67] (E':=[(0,.one W85 f),(1,ti V),(5,ptr u 0),(8,ti R.1),(10,.one W69 (.slice (some ⟨H,G,none⟩) (List.length c.2) N)),(26,ti (List.length f:Int)),(27,ti c.1),(67,tb (!eqD W73 J.1 ((List.getD f (Int.toNat c.1) (0,z32,false,())).2.1)))]) o ?_
       refine gO ?_
       exact ve (!eqD W73 J.1 ((List.getD f (Int.toNat c.1) (0,z32,false,())).2.1)) [0,1,5,8,10,26,27,67] h o
      replace h:=ifT h
      refine ay af 8 [0,1,5,8,10,26,27,67] (E':=[(0,.one W85 f),(1,ti V),(5,ptr u 0),(8,ti R.1),(10,.one W69 (.slice (some ⟨H,G,none⟩) (List.length c.2) N)),(26,ti (List.length f:Int)),(27,ti c.1),(67,tb true)]) o ?_
      refine gO ?_
      exact ve true [0,1,5,8,10,26,27,67] h o
     intro a7 h
     rw[←b1]at h
     try dsimp only at h
     refine eK ?_
     refine zt<|rI h o (λhc h=>?_) λhc h=>?_
     ·refine zU 2 o<|zf<|zB<|zT<|zT<|zB<|zT<|bH (.slice none 0 0) o 56 Y56 ?_
      cases h
      exact aC (rs:=[.tmp 6,.tmp 7]) o (.cons (.tmp o) (.cons (.tmp o) (.nil))) o (λ_ vs g=>by cases g with|cons M g=>cases g with|cons C g=>cases g;exact⟨_,o,.cons (bg M) (.cons C (.nil))⟩) (λ_ vs g=>by cases g with|cons M g=>cases g with|cons C g=>cases g;rw[bP M];exact(.cons_cons _ (.cons _ (.cons _ (.cons _ .slnil)))))
     exact zk<|zi<|zt<|pk [1,1] o<|ah (List.set c.2 (Int.toNat c.1) (List.getD f (Int.toNat c.1) (0,z32,false,()))) (.slice (some ⟨H,G,none⟩) (List.length c.2) N) h o o
    refine bq 0 (.one W73 W) (ag (aq 2 o) (ag (lz 0 o) ak)) o kr (cp (S:=λw=>bG [aZ u 26 W73 W,tm O Z Y56 f] w) (bz 0 o) 2 .here o o o o aa bB) λs=>zH 3 [1,2,3] s kr o o λs=>bq 4 (ptr O (Z+(Int.toNat c.1)*34)) s o kr (dn af o o a4.1 a4.2 o jg) λs=>zH 1 [5] s kr o o λs=>bq 6 (ti ((List.getD f (Int.toNat c.1) (0,z32,false,())).1)) s o kr (C7 (S:=λw=>bG [aZ u 26 W73 W,tm O Z Y56 f] w) (bz 1 o) 0 (Int.toNat c.1) f0 o o o (by omega) pof (av aa) ty2) λs=>?_
    refine tj (i:=7) (j:=11) kr o o ?_ ?_
    ·refine rcT hT [] (sS _ _ _ _ a5) kr o o o λ_=>za<|bi (ag (aq 2 o) (ag (lz 0 o) ak)) ?_
     refine ai [0,1,5,8,10,11,26,27,54] o<|zH 3 [8,9,10] (ag (aq 2 o) (ag (lz 0 o) ak)) kr o o λs=>aF 11 kr o<|aB (t:=W73) o lu o λb2=>za<|bi (ag (aq 3 o) (ag (lz 1 o) ak)) ?_
     refine ai [0,1,5,8,10,11,12,26,27,55,56] o<|aF 12 kr o<|st 0 .here bB o o o o tr<|za<|bi (ag (aq 3 o) (ag (lz 1 o) ak)) ?_
     refine ai [0,1,5,8,10,11,12,26,27,56] o<|zH 1 [13] (ag (aq 3 o) (ag (lz 1 o) ak)) kr o o λs=>dU kr<|Bf 56 0 1 o o ?_
     exact pk [0,1,1] o<|ai [0,1,5,8,10,11,12,13,26,27] o<|a6 b2
    refine aB (t:=W73) o lu o λb3=>za<|bi (ag (aq 3 o) (ag (lz 1 o) ak)) ?_
    refine ai [0,1,5,8,10,11,12,26,27,47,48,53] o<|aF 7 kr o<|rcT hT [] (sS _ _ _ _ a5) kr o o o λ_=>za<|bi (ag (aq 3 o) (ag (lz 1 o) ak)) ?_
    refine ai [0,1,5,8,10,11,12,26,27,54] o<|zH 3 [8,9,10] (ag (aq 3 o) (ag (lz 1 o) ak)) kr o o λs=>aF 12 kr o<|st 0 .here bB o o o o tr<|za<|bi (ag (aq 3 o) (ag (lz 1 o) ak)) ?_
    refine ai [0,1,5,8,10,11,12,26,27,56] o<|zH 1 [13] (ag (aq 3 o) (ag (lz 1 o) ak)) kr o o λs=>dU kr<|Bf 56 0 1 o o ?_
    exact pk [0,1,1] o<|ai [0,1,5,8,10,11,12,13,26,27] o<|a6 b3
   exact zr<|zA o<|aY ((wrap .i64 (c.1+1)),m) g21 (Nat.lt_succ_self _) h o o
  exact zx<|ze<|ze<|zq<|zt<|ah c.2 g17 h o o
 refine zU 3 o<|yl 1 .here bB o o o tr o<|y (bc o xo o o (.cons f0 o o aa (.cons f1 o o aa (.cons f2 o o aa .nil)))) o ?_
 refine iE h λhc h=>cT 0 o pix λb7 b8 b9 hv=>?_
 rw[hv]
 try clear hv
 refine y (dn af o o hc.1 (by first|exact hc.2|simpa using hc.2) o jg) o ?_
 refine qo 0 (Int.toNat R.1) .here o o o pix pof aa jg ?_
 refine zz<|zE o ?_
 cases h
 exact aC (rs:=[.tmp 6,.tmp 7]) o (.cons (.tmp o) (.cons (.tmp o) (.nil))) o (λ_ vs g=>by cases g with|cons M g=>cases g with|cons C g=>cases g;exact⟨_,o,.cons (bg M) (.cons C (.nil))⟩) (λ_ vs g=>by cases g with|cons M g=>cases g with|cons C g=>cases g;rw[bP M];exact(.cons_cons _ (.cons _ .slnil)))
theorem qO(N:Value)(u c r)(h:lj u c=some r):FnT PP bN 285 [.one Y282 u,tp N] [Res.cls db N c] (λ_=>tb r.1) (λ_=>[Res.clsor db N r.2 r.1]):=by
 unfold lj at h
 refine iM Tryz.func285 o 70 o o λF hT=>?_
 refine mA λf m O Z hp=>?_
 subst hp
 refine hP (x:=c) ?_
 refine zu<|bI o o λM=>q 1 [(1,ptr f 0),(2,ptr M 0)] [] o<|za<|zs<|zs<|pk [1,0] o<|kj λR W G=>?_
 refine ef kr kr ?_
 refine ay af 3 [1,2,9] (E':=[(1,ptr f 0),(2,ptr M 0),(9,ptr f 7)]) o ?_
 refine q_y (aN 0 f7 o o o (ab (ab (ab (ab (ab (ab (ab (av aa)))))))) ty2) o ?_
 refine ay af 3 [1,2,10,13] (E':=[(1,ptr f 0),(2,ptr M 0),(10,ti c.2.2.2.2.2.2.2.1),(13,ptr f 8)]) o ?_
 refine q_y (aN 0 f8 o o o (ab (ab (ab (ab (ab (ab (ab (ab (av aa))))))))) ty2) o ?_
 refine ay af 3 [1,2,17] (E':=[(1,ptr f 0),(2,ptr M 0),(17,tb (c.2.2.2.2.2.2.2.1 !=(wrap .i64 (c.2.2.2.2.2.2.2.2.1+1))))]) o ?_
 obtain⟨J,e,h⟩:=aj h;rw[e]
 refine l4 8 [(1,ptr f 0),(2,ptr M 0),(25,tb (J||(u.1 !=c.2.2.2.2.2.2.2.2.1)))] ?_ ?_
 ·clear h
  cases J
  ·refine ay af 1 [1,2,17,18] (E':=[(1,ptr f 0),(2,ptr M 0),(17,tb false),(18,ptr M 0)]) o ?_
   refine dR dl o ?_
   refine q_y (aN 4 f0 o o o (av aa) ty2) o ?_
   refine ay af 3 [1,2,17,19,22] (E':=[(1,ptr f 0),(2,ptr M 0),(17,tb false),(19,ti u.1),(22,ptr f 8)]) o ?_
   refine dR dl o ?_
   refine q_y (aN 0 f8 o o o (ab (ab (ab (ab (ab (ab (ab (ab (av aa))))))))) ty2) o ?_
   refine ay af 2 [1,2,25] (E':=[(1,ptr f 0),(2,ptr M 0),(25,tb (u.1 !=c.2.2.2.2.2.2.2.2.1))]) o ?_
   refine gO ?_
   exact jj o
  refine ay af 8 [1,2,25] (E':=[(1,ptr f 0),(2,ptr M 0),(25,tb true)]) o ?_
  refine gO ?_
  exact jj o
 refine eK ?_
 refine zt<|rI h o (λhc h=>zU 1 o<|zf<|zT<|az (R':=Res.clsor db (.pointer (some ⟨f,0,none⟩)) c false) 0 o ni<|by cases h;exact aT o (.tmp o) (λ_ _ g=>g) (λ_ _ _=>(.cons_cons _ (.cons _ (.cons _ (.cons _ (.cons _ .slnil))))))) λhc h=>zk<|zt<|zs<|gc (S:=bG [aZ f 30 W0 (gZ c R W G),aZ M 282 Y282 u]) kr ?_
 refine zH 3 [0,1,2] (ag (aq 0 o) (ag (aq 4 o) ak)) kr o o λs=>bq 3 (.one W69 G) s o kr (cp (S:=λw=>bG [aZ f 30 W0 (gZ c R W G),aZ M 282 Y282 u] w) (bz 0 o) 0 f15 o o o o (ab (ab (ab (ab (ab (ab (ab (ab (ab (ab (ab (ab (ab (ab (ab (av aa)))))))))))))))) tx1) λs=>zH 1 [4] s kr o o λs=>bq 5 (ti u.1) s o kr (cp (S:=λw=>bG [aZ f 30 W0 (gZ c R W G),aZ M 282 Y282 u] w) (bz 1 o) 4 f0 o o o o (av aa) ty2) λs=>zH 1 [6] s kr o o λs=>bq 7 (.one W73 u.2.1) s o kr (cp (S:=λw=>bG [aZ f 30 W0 (gZ c R W G),aZ M 282 Y282 u] w) (bz 1 o) 4 f1 o o o o (ab (av aa)) bB) λs=>aF 8 kr o<|cB h λC d h=>CX hT (Ag c.2.2.2.2.2.2.2.2.2.2.2.2.2.2.2.1 u.1 u.2.1 _ d) kr (λ_=>o) (λ_ r hr=>by rcases List.mem_singleton.1 hr with rfl;exact Res.free_own o) (.sub o (fk 3 o) (.val o (.val o .nil))) o λH=>?_
 refine za<|bi (ag (aq 1 o) (ag (aq 5 o) ak)) ?_
 refine ai [1,2,35] o<|zH 5 [9,10,11,12,13] (ag (aq 1 o) (ag (aq 5 o) ak)) kr o o λs=>dU kr<|zt<|zs<|zW o<|rI h o (λhc h=>zU 1 o<|zf<|zT<|az (R':=Res.clsor db (.pointer (some ⟨f,0,none⟩)) c false) 1 o ni<|by cases h;exact aT o (.tmp o) (λ_ _ g=>g) (λ_ _ _=>(.cons _ (.cons_cons _ (.cons _ (.cons _ (.cons _ (.cons _ .slnil)))))))) λhc h=>zk<|zt<|jK h (γ:=Value) (λV g16=>[(1,ptr f 0),(2,ptr M 0)]) (λV g16=>[Res.own g16 56 Y56 V.1,Res.var f 30 W0 (gZ V.2 R W g16),Res.own R 52 Y52 c.2.2.2.2.1,Res.own W 52 Y52 c.2.2.2.2.2.1,Res.var M 282 Y282 u]) (λa2 h=>?_) λV g16 h=>?_
 ·refine dA kr<|zF 6 [0,1,2,3,4,9] kr o o ?_
  refine bv (i:=5) (j:=10) kr o o ?_ ?_
  ·refine zA o<|ai [1,2,40,41,42,43,45,49] o<|zF 1 [6] kr o o ?_
   refine bv (i:=7) (j:=10) kr o o ?_ ?_
   ·refine yl 1 f8 ty2 o o o tr o<|zL [1,2,40,41,42,43,47,49] o<|zF 1 [8] kr o o<|ae 10 kr o<|zA o<|ai [1,2,40,41,42,43,48,50] o<|zF 1 [11] kr o o<|ae 12 kr o<|yl 1 f10 eM o o o tr o<|zL [1,2,40,41,42,43,48,52] o<|ae 13 kr o<|zA o<|ai [1,2,41,42,43,48,52,53] o<|zF 1 [14] kr o o ?_
    refine ae 15 kr o<|st 1 f15 tx1 o o o o tr<|pk [0,0,0,0,1] o<|zL [1,2,41,42,48,52] o<|ae 16 kr o<|zA o<|ai [1,2,42,48,52,55] o<|zF 1 [17] kr o o<|ae 18 kr o<|st 1 f8 ty2 o o o o tr<|nL o<|zL [1,2,42,52] o<|ae 19 kr o<|zA o ?_
    exact ai [1,2,52,57] o<|zF 1 [20] kr o o<|ae 21 kr o<|st 1 f11 eM o o o o tr<|zL [1,2] o<|aJ kr<|zt<|ah (C.1,(qk c () () (wrap .i64 (c.2.2.2.2.2.2.2.2.1+1)) c.2.2.2.2.2.2.2.2.2.2.1 ())) (aK H 0) h o o
   refine zA o<|ai [1,2,40,41,42,43,46,50] o<|zF 1 [11] kr o o ?_
   refine bv (i:=7) (j:=12) kr o o ?_ ?_
   ·refine yl 1 f8 ty2 o o o tr o<|zL [1,2,40,41,42,43,47,51] o<|zF 1 [8] kr o o<|ae 12 kr o<|yl 1 f10 eM o o o tr o<|zL [1,2,40,41,42,43,48,52] o<|ae 13 kr o<|zA o<|ai [1,2,41,42,43,48,52,53] o<|zF 1 [14] kr o o<|ae 15 kr o<|st 1 f15 tx1 o o o o tr<|pk [0,0,0,0,1] o<|zL [1,2,41,42,48,52] o ?_
    refine ae 16 kr o<|zA o<|ai [1,2,42,48,52,55] o<|zF 1 [17] kr o o<|ae 18 kr o<|st 1 f8 ty2 o o o o tr<|nL o<|zL [1,2,42,52] o<|ae 19 kr o<|zA o<|ai [1,2,52,57] o<|zF 1 [20] kr o o<|ae 21 kr o<|st 1 f11 eM o o o o tr ?_
    exact zL [1,2] o<|aJ kr<|zt<|ah (C.1,(qk c () () (wrap .i64 (c.2.2.2.2.2.2.2.2.1+1)) c.2.2.2.2.2.2.2.2.2.2.1 ())) (aK H 0) h o o
   refine yl 1 f10 eM o o o tr o<|zL [1,2,40,41,42,43,46,52] o<|ae 7 kr o<|yl 1 f8 ty2 o o o tr o<|zL [1,2,40,41,42,43,47,52] o<|zF 1 [8] kr o o<|ae 13 kr o<|zA o<|ai [1,2,41,42,43,48,52,53] o<|zF 1 [14] kr o o<|ae 15 kr o<|st 1 f15 tx1 o o o o tr<|pk [0,0,0,0,1] o<|zL [1,2,41,42,48,52] o ?_
   refine ae 16 kr o<|zA o<|ai [1,2,42,48,52,55] o<|zF 1 [17] kr o o<|ae 18 kr o<|st 1 f8 ty2 o o o o tr<|nL o<|zL [1,2,42,52] o<|ae 19 kr o<|zA o<|ai [1,2,52,57] o<|zF 1 [20] kr o o<|ae 21 kr o<|st 1 f11 eM o o o o tr ?_
   exact zL [1,2] o<|aJ kr<|zt<|ah (C.1,(qk c () () (wrap .i64 (c.2.2.2.2.2.2.2.2.1+1)) c.2.2.2.2.2.2.2.2.2.2.1 ())) (aK H 0) h o o
  refine zA o<|ai [1,2,40,41,42,43,44,50] o<|zF 1 [11] kr o o ?_
  refine bv (i:=5) (j:=12) kr o o ?_ ?_
  ·refine zA o<|ai [1,2,40,41,42,43,45,51] o<|zF 1 [6] kr o o ?_
   refine bv (i:=7) (j:=12) kr o o ?_ ?_
   ·refine yl 1 f8 ty2 o o o tr o<|zL [1,2,40,41,42,43,47,51] o<|zF 1 [8] kr o o<|ae 12 kr o<|yl 1 f10 eM o o o tr o<|zL [1,2,40,41,42,43,48,52] o<|ae 13 kr o<|zA o<|ai [1,2,41,42,43,48,52,53] o<|zF 1 [14] kr o o<|ae 15 kr o<|st 1 f15 tx1 o o o o tr<|pk [0,0,0,0,1] o<|zL [1,2,41,42,48,52] o ?_
    refine ae 16 kr o<|zA o<|ai [1,2,42,48,52,55] o<|zF 1 [17] kr o o<|ae 18 kr o<|st 1 f8 ty2 o o o o tr<|nL o<|zL [1,2,42,52] o<|ae 19 kr o<|zA o<|ai [1,2,52,57] o<|zF 1 [20] kr o o<|ae 21 kr o<|st 1 f11 eM o o o o tr ?_
    exact zL [1,2] o<|aJ kr<|zt<|ah (C.1,(qk c () () (wrap .i64 (c.2.2.2.2.2.2.2.2.1+1)) c.2.2.2.2.2.2.2.2.2.2.1 ())) (aK H 0) h o o
   refine yl 1 f10 eM o o o tr o<|zL [1,2,40,41,42,43,46,52] o<|ae 7 kr o<|yl 1 f8 ty2 o o o tr o<|zL [1,2,40,41,42,43,47,52] o<|zF 1 [8] kr o o<|ae 13 kr o<|zA o<|ai [1,2,41,42,43,48,52,53] o<|zF 1 [14] kr o o<|ae 15 kr o<|st 1 f15 tx1 o o o o tr<|pk [0,0,0,0,1] o<|zL [1,2,41,42,48,52] o ?_
   refine ae 16 kr o<|zA o<|ai [1,2,42,48,52,55] o<|zF 1 [17] kr o o<|ae 18 kr o<|st 1 f8 ty2 o o o o tr<|nL o<|zL [1,2,42,52] o<|ae 19 kr o<|zA o<|ai [1,2,52,57] o<|zF 1 [20] kr o o<|ae 21 kr o<|st 1 f11 eM o o o o tr ?_
   exact zL [1,2] o<|aJ kr<|zt<|ah (C.1,(qk c () () (wrap .i64 (c.2.2.2.2.2.2.2.2.1+1)) c.2.2.2.2.2.2.2.2.2.2.1 ())) (aK H 0) h o o
  refine yl 1 f10 eM o o o tr o<|zL [1,2,40,41,42,43,44,52] o<|ae 5 kr o<|zA o<|ai [1,2,40,41,42,43,45,52] o<|zF 1 [6] kr o o<|ae 7 kr o<|yl 1 f8 ty2 o o o tr o<|zL [1,2,40,41,42,43,47,52] o<|zF 1 [8] kr o o<|ae 13 kr o<|zA o<|ai [1,2,41,42,43,48,52,53] o<|zF 1 [14] kr o o ?_
  refine ae 15 kr o<|st 1 f15 tx1 o o o o tr<|pk [0,0,0,0,1] o<|zL [1,2,41,42,48,52] o<|ae 16 kr o<|zA o<|ai [1,2,42,48,52,55] o<|zF 1 [17] kr o o<|ae 18 kr o<|st 1 f8 ty2 o o o o tr<|nL o<|zL [1,2,42,52] o<|ae 19 kr o<|zA o ?_
  exact ai [1,2,52,57] o<|zF 1 [20] kr o o<|ae 21 kr o<|st 1 f11 eM o o o o tr<|zL [1,2] o<|aJ kr<|zt<|ah (C.1,(qk c () () (wrap .i64 (c.2.2.2.2.2.2.2.2.1+1)) c.2.2.2.2.2.2.2.2.2.2.1 ())) (aK H 0) h o o
 refine zs<|dA kr<|zF 3 [0,1,6] kr o o<|pB (fuel:=2) [2,3,4,5,7,8,9] #[true,true,true,true,true,true,true,true,true,true,false,false] kr ?_
 refine ay af 2 [59,62,65] (E':=[(59,ptr f 0),(62,ptr f 16),(65,ptr M 33)]) o ?_
 refine iE h λhc h=>q_y (bO o o hc.1 hc.2 tJ bB) o ?_
 refine q_y (aN 1 ((g13 (.fst (.elem 1 .here)))) o o pof (ab (ab (ab (ab (ab (ab (ab (ab (ab (ab (ab (ab (ab (av (aw (by omega) aa))))))))))))))) bB) o ?_
 refine q_y (aN 4 f2 o o o (ab (ab (av aa))) bB) o ?_
 refine q_y (bc o HZ o o (.cons (.elem 0 .here) o o (aw (by omega) aa) (.cons (.elem 1 .here) o o (aw (by omega) aa) .nil))) o ?_
 refine ay af 1 [67,68] (E':=[(67,.one W67 [(List.getD V.2.2.2.2.2.2.2.2.2.2.2.2.2.2.1 1 z32),u.2.2.1]),(68,ptr f 0)]) o ?_
 refine eK ?_
 refine ai [67,68] o<|zF 1 [10] kr o o<|ae 11 kr o<|st 1 f13 Ab o o o o tr<|zL [] o<|aJ kr<|zt<|zU 1 o<|zf<|pk [1,1,1,0,0] o<|hP (x:=(Bo V.2 c.2.2.2.2.1 c.2.2.2.2.2.1 ([(List.getD V.2.2.2.2.2.2.2.2.2.2.2.2.2.2.1 1 z32),u.2.2.1]) V.1)) ?_
 refine az (R':=Res.clsor db (.pointer (some ⟨f,0,none⟩)) (Bo V.2 c.2.2.2.2.1 c.2.2.2.2.2.1 ([(List.getD V.2.2.2.2.2.2.2.2.2.2.2.2.2.2.1 1 z32),u.2.2.1]) V.1) true) 0 o oN<|nL o ?_
 cases h
 exact bm o (.tmp o) (.cons_cons _ (.cons _ .slnil))
theorem rP(M:Value)(f c r)(h:lJ f c=some r):Fn PP 296 [.one W68 f,tp M] [Res.cls db M c] (λ_=>tb r.1) (λ_=>[Res.clsor db M r.2 r.1]):=by
 unfold lJ at h
 refine enter Tryz.func296 o 15 o o λF=>?_
 refine mA λV W C H hp=>?_
 subst hp
 refine hP (x:=c) ?_
 refine zu<|bI o o λR=>q 1 [(1,ptr V 0),(2,ptr R 0)] [] o<|za<|bD h (λu=>[]) (λu=>[Res.cls db (.pointer (some ⟨V,0,none⟩)) u,Res.var R 284 W68 f]) (λG h=>?_) λu h=>?_
 ·refine zs<|pk [1,0] o<|kj λN J d=>?_
  refine zr<|zm 3 o<|yl 0 f16 ty3 o o o tr o<|zA o<|rI h o (λhc h=>?_) λhc h=>?_
  ·refine zr<|zm 2 o<|yl 4 f0 ty3 o o o tr o<|zm 2 o<|st 0 f16 ty3 o o o o tr<|za<|hP (x:=(Bp c f.1)) ?_
   exact ah (Bp c f.1) () h o o
  refine zk<|zt<|hP (x:=c) ?_
  exact ah c () h o o
 refine zU 1 o<|zf<|az (R':=Res.clsor db (.pointer (some ⟨V,0,none⟩)) u true) 0 o oN ?_
 cases h
 exact bm o (.tmp o) (.cons_cons _ (.cons _ .slnil))
theorem rQ(V:Value)(f c r)(h:lK f c=some r):Fn PP 300 [.one W68 f,tp V] [Res.cls db V c] (λ_=>tb r.1) (λ_=>[Res.clsor db V r.2 r.1]):=by
 unfold lK at h
 refine enter Tryz.func300 o 17 o o λF=>?_
 refine mA λu R W C hp=>?_
 subst hp
 refine hP (x:=c) ?_
 refine zu<|bI o o λM=>zA o<|zs<|zs<|pk [1,0] o<|kj λH G N=>?_
 refine ef kr kr ?_
 refine ay af 1 [1,2,5] (E':=[(1,ptr u 0),(2,ptr M 0),(5,ptr M 0)]) o ?_
 refine q_y (aN 4 f0 o o o (av aa) ty2) o ?_
 refine ay af 3 [1,2,6,9] (E':=[(1,ptr u 0),(2,ptr M 0),(6,ti f.1),(9,ptr u 6)]) o ?_
 refine q_y (aN 0 f6 o o o (ab (ab (ab (ab (ab (ab (av aa))))))) ty2) o ?_
 refine ay af 1 [1,2,11] (E':=[(1,ptr u 0),(2,ptr M 0),(11,tb (f.1 !=c.2.2.2.2.2.2.1))]) o ?_
 refine eK ?_
 refine zt<|rI h o (λhc h=>zU 1 o<|zf<|zT<|az (R':=Res.clsor db (.pointer (some ⟨u,0,none⟩)) c false) 0 o ni<|by cases h;exact aT o (.tmp o) (λ_ _ g=>g) (λ_ _ _=>(.cons_cons _ (.cons _ (.cons _ (.cons _ (.cons _ .slnil))))))) λhc h=>zy<|zm 2 o<|yl 4 f0 ty2 o o o tr o<|zm 2 o<|st 0 f17 ty2 o o o o tr<|zz<|zE o<|hP (x:=(Bq c f.1)) ?_
 refine az (R':=Res.clsor db (.pointer (some ⟨u,0,none⟩)) (Bq c f.1) true) 0 o oN<|nL o ?_
 cases h
 exact bm o (.tmp o) (.cons_cons _ (.cons _ .slnil))
theorem rR(c:Value)(u f r)(h:oB u f=some r):xg PP bN "escrow/record.apply" [.one Y212 u,.one W70 c] [Res.cls db c f] (fun _=> .one .bool r.1) (fun _=>[Res.clsor db c r.2 r.1]):=match u,h with
 | .inl z,h=>(Inv.tab (dF (k:=258) kr (tU c z f r h)))
 | .inr (.inl z),h=>(fQ o (Inv.tab (dF (k:=274) kr (rO c z f r h))))
 | .inr (.inr (.inl z)),h=>(fQ o (fQ o (Inv.tab (dF (k:=280) kr (tV c z f r h)))))
 | .inr (.inr (.inr (.inl z))),h=>(fQ o (fQ o (fQ o (C1 (k:=285) kr (qO c z f r h)))))
 | .inr (.inr (.inr (.inr (.inl z)))),h=>(fQ o (fQ o (fQ o (fQ o (Inv.tab (dF (k:=296) kr (rP c z f r h)))))))
 | .inr (.inr (.inr (.inr (.inr (.inl z))))),h=>(fQ o (fQ o (fQ o (fQ o (fQ o (Inv.tab (dF (k:=300) kr (rQ c z f r h))))))))
 | .inr (.inr (.inr (.inr (.inr (.inr (_)))))),h=>by cases h
theorem rj(f H r)(h:n8 f H=some r):FnT PP bN 71 [.one Y30 f,.one Y54 H] [] (λ_=> .tup [⟨Y30,r.1⟩,⟨(.int .i64),r.2⟩]) (λ_=>[]):=by
 unfold n8 at h
 refine iM Tryz.func71 o 29 o o λF hT=>?_
 refine zu<|bI o o λu=>bI o o λb4=>aB (t:=Y30) o gU o λb5=>zm 1 o<|zz<|yl 1 .here fX o o o tr o<|cB h λG O h=>au (mN _ _ O) kr o o<|zA o<|zs<|zU 1 o<|y (vk (.next (.next (.next (.next (.next (.next .here)))))) o o yD (jF G)) o ?_
 refine za<|rI h o (λhc h=>?_) λhc h=>?_
 ·refine zu<|y (bc o gU o o .nil) o ?_
  refine st 0 .here bR o o o o tr<|zE o<|zT ?_
  cases h
  exact aC (rs:=[.cell 4 30,.tmp 5]) o (.cons (.cell 0 .here o o o aa bR) (.cons (.tmp o) (.nil))) o (λ_ vs g=>aG vs g) (λ_ _ _=>List.nil_sublist _)
 refine zk<|zt<|zs<|pk [2,0,0] o<|sr (z:=(.slice none 0 0)) f4 o λM=>?_
 refine pk [1,0,0,0] o<|sr (z:=(.slice none 0 0)) f5 o λV=>?_
 refine pk [1,0,0,0,0] o<|sr (z:=(.slice none 0 0)) f15 o λR=>?_
 refine EF (bG [aZ u 30 W0 (kK f M V R)]) 2 #[false,false,false,false,false,false,false,false,false,true,true,true,true,true,true] #[true,true,true,true,true,true,true,true,true,false,false,false,false,false,false] 9 6 kr kr kr o ?_
 refine zH 1 [0] (ag (aq 1 o) ak) kr o o λs=>bq 1 (.one W69 M) s o kr (cp (S:=λw=>bG [aZ u 30 W0 (kK f M V R)] w) (bz 0 o) 1 f4 o o o o (ab (ab (ab (ab (av aa))))) tx0) λs=>zH 1 [3] s kr o o λs=>bq 4 (.one W69 V) s o kr (cp (S:=λw=>bG [aZ u 30 W0 (kK f M V R)] w) (bz 0 o) 1 f5 o o o o (ab (ab (ab (ab (ab (av aa)))))) tx0) λs=>zH 1 [6] s kr o o λs=>bq 7 (.one W69 R) s o kr (cp (S:=λw=>bG [aZ u 30 W0 (kK f M V R)] w) (bz 0 o) 1 f15 o o o o (ab (ab (ab (ab (ab (ab (ab (ab (ab (ab (ab (ab (ab (ab (ab (av aa)))))))))))))))) tx1) λs=>aF 2 kr o<|sy 13 3 o o ?_
 refine cB h λN Z h=>rc [] (dM _ _ Z) kr o o o λa6=>za<|bi (ag (aq 2 o) ak) ?_
 refine ai [2,4,6,14,16,19] o<|aF 5 kr o<|sy 16 3 o o ?_
 refine cB h λJ a2 h=>rc [] (dM _ _ a2) kr o o o λa7=>za<|bi (ag (aq 3 o) ak) ?_
 refine ai [2,4,6,14,17,19] o<|aF 8 kr o<|sy 19 2 o o ?_
 refine cB h λd a3 h=>rc [] (ju _ _ a3) kr o o o λa8=>za<|bi (ag (aq 4 o) ak) ?_
 refine ai [2,4,6,14,17,20] o<|dU kr<|CZ ?_
 refine zF 1 [9] kr o o<|ae 10 kr o<|st 4 f4 tx0 o o o o tr<|pk [0,0,0,0,0,0,1,1] o<|zL [2,4,6,17,20] o<|zF 1 [11] kr o o<|ae 12 kr o<|st 4 f5 tx0 o o o o tr<|nL o<|pk [0,0,0,0,0,1,1] o<|zL [2,4,6,20] o<|zF 1 [13] kr o o<|ae 14 kr o<|st 4 f15 tx1 o o o o tr ?_
 refine pk [0,0,0,1,1,1] o<|zL [2,4,6] o<|aJ kr<|zt<|zs<|zU 1 o<|pk [3,2,1,0,0,0] o<|hP (x:=(gZ f N J d)) ?_
 refine cB h λc a4 h=>riT hT dl [0] (rR (.pointer (some ⟨u,0,none⟩)) G (gZ f N J d) _ a4) o o o λ_=>?_
 refine zA o<|rI h o (λhc h=>?_) λhc h=>?_
 ·refine zu<|y (bc o gU o o .nil) o ?_
  refine st 1 .here bR o o o o tr<|zE o<|zT ?_
  cases h
  exact aC (rs:=[.cell 4 30,.tmp 5]) o (.cons (.cell 1 .here o o o aa bR) (.cons (.tmp o) (.nil))) o (λ_ vs g=>aG vs g) (λ_ _ _=>List.nil_sublist _)
 refine zk<|zt<|zs ?_
 obtain⟨a5,h⟩:=cu h
 refine az (R':=Res.cls db (.pointer (some ⟨u,0,none⟩)) c.2) 0 o (CY a5)<|kj λm C W=>?_
 refine pk [1,0,0,0,0,0] o<|dw (v:=m) (T0:=W0) (x0:=(gZ c.2 m C W)) (t:=Y52) f4 o o ?_
 refine pk [1,0,0,0,0] o<|dw (v:=C) (T0:=W2) (x0:=(c.2.1,c.2.2.1,c.2.2.2.1,c.2.2.2.2.1,c.2.2.2.2.2.1,C,c.2.2.2.2.2.2.2.1,c.2.2.2.2.2.2.2.2.1,c.2.2.2.2.2.2.2.2.2.1,c.2.2.2.2.2.2.2.2.2.2.1,c.2.2.2.2.2.2.2.2.2.2.2.1,c.2.2.2.2.2.2.2.2.2.2.2.2.1,c.2.2.2.2.2.2.2.2.2.2.2.2.2.1,c.2.2.2.2.2.2.2.2.2.2.2.2.2.2.1,c.2.2.2.2.2.2.2.2.2.2.2.2.2.2.2.1,W,c.2.2.2.2.2.2.2.2.2.2.2.2.2.2.2.2.2.1,c.2.2.2.2.2.2.2.2.2.2.2.2.2.2.2.2.2.2.1,c.2.2.2.2.2.2.2.2.2.2.2.2.2.2.2.2.2.2.2)) (t:=Y52) f5 o o ?_
 refine pk [1,0,0,0] o<|dw (v:=W) (T0:=W4) (x0:=(c.2.1,c.2.2.1,c.2.2.2.1,c.2.2.2.2.1,c.2.2.2.2.2.1,c.2.2.2.2.2.2.1,c.2.2.2.2.2.2.2.1,c.2.2.2.2.2.2.2.2.1,c.2.2.2.2.2.2.2.2.2.1,c.2.2.2.2.2.2.2.2.2.2.1,c.2.2.2.2.2.2.2.2.2.2.2.1,c.2.2.2.2.2.2.2.2.2.2.2.2.1,c.2.2.2.2.2.2.2.2.2.2.2.2.2.1,c.2.2.2.2.2.2.2.2.2.2.2.2.2.2.1,c.2.2.2.2.2.2.2.2.2.2.2.2.2.2.2.1,W,c.2.2.2.2.2.2.2.2.2.2.2.2.2.2.2.2.2.1,c.2.2.2.2.2.2.2.2.2.2.2.2.2.2.2.2.2.2.1,c.2.2.2.2.2.2.2.2.2.2.2.2.2.2.2.2.2.2.2)) (t:=Y56) f15 o o ?_
 refine zr<|yl 0 .here bR o o o tr o<|st 1 .here bR o o o o tr<|nL o<|zE o ?_
 cases h
 exact aC (rs:=[.cell 4 30,.tmp 5]) o (.cons (.cell 1 .here o o o aa bR) (.cons (.tmp o) (.nil))) o (λ_ vs g=>aG vs g) (λ_ _ _=>List.nil_sublist _)
theorem xy(M V r)(h:rD M V=some r):FnT PP bN 66 [.one Y30 M,ts V] [] (λ_=> .tup [⟨Y30,r.1⟩,⟨(.int .i64),r.2⟩]) (λ_=>[]):=by
 unfold rD at h
 refine iM Tryz.func66 o 36 o o λF hT=>?_
 refine zu<|bI o o λf=>aB (t:=Y30) o gU o λu=>zA o<|zs<|zW o<|rI h o (λhc h=>?_) λhc h=>?_
 ·refine zu<|y (bc o gU o o .nil) o ?_
  refine st 0 .here bR o o o o tr<|zE o<|zT ?_
  cases h
  exact aC (rs:=[.cell 4 30,.tmp 5]) o (.cons (.cell 0 .here o o o aa bR) (.cons (.tmp o) (.nil))) o (λ_ vs g=>aG vs g) (λ_ _ _=>List.nil_sublist _)
 refine zk<|zt<|bD h (λR=>[(2,ptr f 0),(4,ptr u 0)]) (λR=>[Res.var u 30 Y30 (0,0,0,0,[],[],0,0,0,(0,0,()),(0,0,()),(0,0,()),false,(List.replicate 2 (z32:List (Int))),z32,[],0,0,()),Res.var f 30 Y30 R]) (λH h=>?_) λR h=>?_
 ·refine zb<|ai [1,2,4] o<|bl (γ:=Unit) (λ(c:List Int×Z29) _=>[(1,ts c.1),(2,ptr f 0),(4,ptr u 0)]) (λ(c:List Int×Z29) _=>[Res.var u 30 Y30 (0,0,0,0,[],[],0,0,0,(0,0,()),(0,0,()),(0,0,()),false,(List.replicate 2 (z32:List (Int))),z32,[],0,0,()),Res.var f 30 Y30 c.2]) (mx H) (V,M) () h o o ?_
  clear h
  intro W c gg h
  cases W with
  |zero=>cases h
  |succ W=>
  simp only[mx]at h
  refine zs<|zW o<|rI h o (λhc h=>?_) λhc h=>?_
  ·refine zk<|zt<|zb<|zU 1 o<|cB h λC G h=>au (xr _ _ G) kr o o<|zm 4 o<|aB (t:=Y54) o kR o λm=>st 0 .here fX o o o o tr<|zA o<|zs<|zW o<|rI h o (λhc h=>?_) λhc h=>?_
   ·refine zu<|y (bc o gU o o .nil) o ?_
    refine st 1 .here bR o o o o tr<|zE o<|zT<|zB<|zT<|zB<|zT ?_
    cases h
    exact aC (rs:=[.cell 4 30,.tmp 5]) o (.cons (.cell 1 .here o o o aa bR) (.cons (.tmp o) (.nil))) o (λ_ vs g=>aG vs g) (λ_ _ _=>List.nil_sublist _)
   refine zk<|zt<|zs<|zu<|yl 2 .here bR o o o tr o<|yl 0 .here fX o o o tr o<|cB h λN J h=>rcT hT [] (rj _ _ _ J) kr o o o λ_=>zm 3 o<|st 2 .here bR o o o o tr<|zm 1 o<|zz<|zA o<|rI h o (λhc h=>?_) λhc h=>?_
   ·refine zu<|y (bc o gU o o .nil) o ?_
    refine st 1 .here bR o o o o tr<|zE o<|zT<|zB<|zT<|zB<|zT ?_
    cases h
    exact aC (rs:=[.cell 4 30,.tmp 5]) o (.cons (.cell 1 .here o o o aa bR) (.cons (.tmp o) (.nil))) o (λ_ vs g=>aG vs g) (λ_ _ _=>List.nil_sublist _)
   refine zk<|zt<|zr<|zm 2 o<|iE h λhc h=>y (gD (i:=C.2.1) (j:=(List.length c.1:Int)) af o o o hc.1 hc.2.1 hc.2.2 o) o ?_
   refine q 1 [(1,ts (List.drop (Int.toNat C.2.1) (List.take (Int.toNat (List.length c.1:Int)) c.1))),(2,ptr f 0),(4,ptr u 0)] [] o ?_
   obtain⟨d,e,h⟩:=aj h;rw[e]
   exact zn<|zi<|zt<|pk [1,1] o<|aY (d,N.1) () (Nat.lt_succ_self _) h o o
  exact zx<|ze<|ze<|zq<|zt<|ah c.2 () h o o
 refine zu<|yl 1 .here bR o o o tr o<|st 0 .here bR o o o o tr<|zE o ?_
 cases h
 exact aC (rs:=[.cell 4 30,.tmp 5]) o (.cons (.cell 0 .here o o o aa bR) (.cons (.tmp o) (.nil))) o (λ_ vs g=>aG vs g) (λ_ _ _=>List.nil_sublist _)
theorem aP(u:Value)(c f r)(h:gK c f=some r):Fn PP 134 [tp u,ts f] [Res.disk PP dI u c] (λ_=>ti r.1) (λ_=>[Res.disk PP dI u r.2]):=by
 unfold gK at h
 refine enter Tryz.func134 o 21 o o λF=>?_
 refine iy λV M hp=>?_
 subst hp
 refine zW o<|zs<|zU 2 o<|cB h λW R h=>il (Lo:=[]) (gS V M c f _ R) kr (List.Perm.refl _) o o λC=>?_
 refine zm 5 o<|zz<|zA o<|rI h o (λhc h=>zU 2 o<|zf<|zT<|az (R':=Res.dfiles PP dI M c.2.1) 1 o fZ<|cC (P:=PP) (I:=dI) (D:=c)<|by cases h;exact aT o (.tmp o) (λ_ _ g=>g) (λ_ _ _=>(.cons_cons _ .slnil))) λhc h=>zy<|zm 3 o<|yl 0 f1 m9 o o o tr o<|zm 1 o<|az (R':=Res.dfiles PP dI M c.2.1) 1 o fZ<|pk [1,0] o<|Cz ep o o Tryz.underlying121 o ?_
 refine zz<|zE o<|pk [1,0] o<|cC (P:=PP) (I:=dI) (D:=(kJ c (cQ .str f c.2.1))) ?_
 cases h
 exact bm o (.tmp o) (.cons_cons _ .slnil)
theorem u2(c r)(h:q7 c=some r):bw PP 168 [ti c] (ts r):=by
 unfold q7 at h
 refine enter Tryz.func168 o 27 o o λF=>?_
 refine zU 1 o<|zz<|cB h λH f h=>rc [] (nc _ f) kr o o o λG=>zm 1 o<|zZ 2 o<|cB h λN u h=>rc [0] (cN _ _ _ _ u) kr o o o λ_=>zZ 1 o<|cB h λJ M h=>rc [0] (hY _ _ _ M) kr o o o λ_=>zm 5 o<|zZ 2 o<|cB h λd V h=>?_
 refine au (tP _ _ V) kr o o<|cB h λm R h=>rc [0] (ol _ _ _ _ R) kr o o o λ_=>zZ 1 o<|cB h λO W h=>rc [0] (hY _ _ _ W) kr o o o λ_=>zm 4 o<|zZ 1 o<|cB h λw C h=>au (mM _ _ _ C) kr o o<|iE h λhc h=>y (ij o o hc) o ?_
 refine zE o ?_
 cases h
 exact ax o (.tmp o)
theorem sU(c r)(h:po c=some r):bw PP 176 [ts c] (tb r):=by
 unfold po at h
 refine enter Tryz.func176 o 27 o o λF=>?_
 refine zu<|q 1 [(0,ts c)] [] o<|za<|bD h (λu=>[(0,ts c)]) (λu=>[]) (λW h=>?_) λu h=>?_
 ·refine zW o<|zb<|ai [0,5,6] o<|bl (γ:=Unit) (λ(f:Int) _=>[(0,ts c),(5,ti (List.length c:Int)),(6,ti f)]) (λ(f:Int) _=>[]) (my c W) 0 () h o o ?_
  clear h
  intro M f gg h
  cases M with
  |zero=>cases h
  |succ M=>
  simp only[my]at h
  refine zW o<|zs<|rI h o (λhc h=>?_) λhc h=>?_
  ·refine zk<|zt<|zs<|zb<|zU 2 o<|zZ 2 o<|iE h λhc h=>y (eA af o o hc.1 hc.2 o) o ?_
   refine q 2 [(3,ti f),(5,ti (List.length c:Int)),(6,ti f),(13,tb (decide ((List.getD c (Int.toNat f) 0)<33)))] [0] o ?_
   obtain⟨C,e,h⟩:=aj h;rw[e]
   refine bL h 5 (λV=>[(0,ts c),(5,ti (List.length c:Int)),(6,ti f),(18,tb V)]) (λ_=>[]) (λH h=>?_) λV h=>?_
   ·cases C
    ·replace h:=ifF h
     refine zm 2 o<|al dl o ?_
     refine iE h λhc h=>y (eA af o o hc.1 hc.2 o) o ?_
     exact zN o<|zt<|ah (decide ((List.getD c (Int.toNat f) 0)>126)) () h o o
    replace h:=ifT h
    exact zN o<|zt<|ah true () h o o
   exact za<|rI h o (λhc h=>zU 1 o<|zf<|zB<|zT<|zT<|zB<|zT<|by cases h;exact ax o (.tmp o)) λhc h=>zk<|zi<|zt<|zr<|zA o<|aY (wrap .i64 (f+1)) () (Nat.lt_succ_self _) h o o
  exact zx<|ze<|ze<|zq<|zt<|ah () () h o o
 refine zu<|q 3 [(0,ts c),(22,tb (c !=[]))] [] o ?_
 obtain⟨R,e,h⟩:=aj h;rw[e]
 refine aH 4 [(26,tb (R&&(decide ((List.length c:Int)≤32))))] [] (?_) ?_
 ·clear h
  cases R
  ·exact zA o<|ap () o o
  exact zA o<|ap () o o
 refine zE o ?_
 cases h
 exact ax o (.tmp o)
theorem mO(u:Nat)(f:Value)(M:List Int)(V:Value)(c r)(h:oT c=some r):Fn PP 177 [ptr u 0] [Res.var u 123 DT (cL c f c.2.2.2.2.2.2 ()),Res.dat PP dI f c.2.1 M V] (λ_=>ti r) (λ_=>[Res.var u 123 DT (cL c f c.2.2.2.2.2.2 ()),Res.dat PP dI f c.2.1 M V]):=by
 unfold oT at h
 refine enter Tryz.func177 o 23 o o λF=>?_
 refine zU 1 o<|zz<|q 1 [(0,ptr u 0),(3,ti 0)] [] o<|za<|bD h (λC=>[(3,ti C)]) (λC=>[Res.dat PP dI f c.2.1 M V,Res.var u 123 DT (cL c f c.2.2.2.2.2.2 ())]) (λO h=>?_) λC h=>?_
 ·refine zU 3 o<|yl 0 f1 m9 o o o tr o<|pk [1,0] o<|CI ep o Tryz.underlying121 o λW d=>?_
  refine za<|zb<|cB h λrr hall h=>ai [3,10] o<|rm (step:=jn c) (λ_ _=>True) (rX c) d tr hall (γ:=Unit) (λ(R:Int) _=>[(3,ti R),(10,tp W)]) (λH (R:Int) _=>[Res.diter PP dI f W c.2.1 H none (some (M,V)),Res.var u 123 DT (cL c f c.2.2.2.2.2.2 ())]) () o o λH R gg hend hone=>?_
  refine zu ?_
  refine xb ep o o (λht=>?_) (λA9 m B11 w G hk=>?_)
  ·obtain rfl:=hend ht
   refine Av ?_
   refine zA o<|zs ?_
   refine iK (b:=false) o (λhc=>?_) (λhc=>?_)
   ·cases hc
   exact zx<|ze<|ze<|zq<|zt<|ah R () h o o
  obtain⟨Z,N⟩:=hone A9 m B11 G
  clear h
  have h:=N
  unfold jn at h
  refine zA o<|zs ?_
  refine iK (b:=true) o (λhc=>?_) (λhc=>?_)
  ·refine zk<|zt<|zb<|zu<|y (vZ o 0 o) o ?_
   refine zA o<|cB h λf14 J h=>xO J λa1 a2 a3 a4 hq=>?_
   rw[hq]
   clear hq
   refine zr<|zm 4 o<|yl 0 f0 tx3 o o o tr o<|y (ct af 1 o o o) o ?_
   refine q 2 [(3,ti (wrap .i64 (R+(List.length f14.1:Int)))),(10,tp W)] [] o ?_
   obtain⟨n19,e,h⟩:=aj h;rw[e]
   refine zn<|zi<|zt<|v7 (P:=PP) (I:=dI) J ?_
   refine az (R':=Res.diter PP dI f W c.2.1 (A9++B11) none (some (M,V))) 0 o tg<|ai [3,10] o ?_
   obtain rfl:=Option.some.inj h
   exact vj () G N o o
  cases hc
 refine zU 2 o<|zf ?_
 cases h
 exact pk [1,0] o<|bm o (.tmp o) (.cons_cons _ (.cons_cons _ .slnil))
theorem me(p0:Value)(M V c f r)(h:ke M V c f=some r):Fn PP 130 [tp p0,ts V,ti c,ts f] [Res.disk PP dI p0 M] (λ_=>ti r.1) (λ_=>[Res.disk PP dI p0 r.2]):=by
 unfold ke at h
 refine enter Tryz.func130 o 144 o o λF=>?_
 refine iy λC u hp=>?_
 subst hp
 refine zW o<|zs<|zU 3 o<|yl 0 f5 ty4 o o o tr o<|za<|rI h o (λhc h=>zU 1 o<|zf<|zT<|cC (P:=PP) (I:=dI) (D:=M)<|by cases h;exact aT o (.tmp o) (λ_ _ g=>g) (λ_ _ _=>(.cons_cons _ .slnil))) λhc h=>zy<|zm 3 o<|yl 0 f1 m9 o o o tr o<|zm 1 o<|pk [1,0] o<|AY ep o o Tryz.underlying121 zNV o λq3=>?_
 refine q 5 [(0,ptr C 0),(1,ts V),(2,ti c),(3,ts f),(9,tp q3),(10,tb (Option.isSome (bh .str V M.2.1)))] [] o ?_
 obtain⟨a5,e,h⟩:=aj h;rw[e]
 refine zz<|p 1 [0,1,2,3,9,10,11] o<|za<|jK h (γ:=Value) (λJ g7=>[(0,ptr C 0),(1,ts V),(2,ti c),(3,ts f),(9,tp g7),(10,tb a5),(11,ti J)]) (λJ g7=>[Res.dat PP dI u M.2.1 V g7,Res.var C 123 DT (cL M u M.2.2.2.2.2.2 ())]) (λk5 h=>?_) λJ g7 h=>?_
 ·refine zW o<|rI h o (λhc h=>?_) λhc h=>?_
  ·refine cB h λd5 c1 h=>jd ep c1 λc2 d9 e0 e1 hq=>?_
   rw[hq]
   clear hq
   refine zr<|zm 3 o<|yl 0 f0 tx3 o o o tr o<|y (ct af 1 o o o) o ?_
   refine q 1 [(9,ptr c2 0),(11,ti (List.length d5.1:Int))] [0,1,2,3,10] o ?_
   obtain⟨d6,e,h⟩:=aj h;rw[e]
   refine za<|j8 (P:=PP) (I:=dI) ep c1 ?_
   exact ah d6 (.pointer (some ⟨c2,0,none⟩)) h o o
  exact zk<|zt<|ah 0 q3 h o o
 refine zs<|zb<|zU 1 o<|cB h λr8 d7 h=>au (sU _ _ d7) kr o o<|q 2 [(0,ptr C 0),(1,ts V),(2,ti c),(3,ts f),(9,tp g7),(10,tb a5),(11,ti J),(38,tb (!r8))] [] o ?_
 obtain⟨b9,e,h⟩:=aj h;rw[e]
 refine aH 3 [(0,ptr C 0),(1,ts V),(2,ti c),(3,ts f),(9,tp g7),(10,tb a5),(11,ti J),(41,tb (b9||(decide (c<0))))] [Res.dat PP dI u M.2.1 V g7,Res.var C 123 DT (cL M u M.2.2.2.2.2.2 ())] (?_) ?_
 ·clear h
  cases b9
  ·exact zA o<|ap () o o
  exact zA o<|ap () o o
 refine q 1 [(0,ptr C 0),(1,ts V),(2,ti c),(3,ts f),(9,tp g7),(10,tb a5),(11,ti J),(42,tb (b9||(decide (c<0))))] [] o ?_
 obtain⟨c3,e,h⟩:=aj h;rw[e]
 refine aH 4 [(0,ptr C 0),(1,ts V),(2,ti c),(3,ts f),(9,tp g7),(10,tb a5),(11,ti J),(46,tb (c3||(decide (c>J))))] [Res.dat PP dI u M.2.1 V g7,Res.var C 123 DT (cL M u M.2.2.2.2.2.2 ())] (?_) ?_
 ·clear h
  cases c3
  ·exact zA o<|ap () o o
  exact zA o<|ap () o o
 refine zA o<|rI h o (λhc h=>zU 1 o<|zf<|zB<|zT<|az (R':=Res.dfiles PP dI u M.2.1) 0 o cw<|pk [1,0] o<|cC (P:=PP) (I:=dI) (D:=M)<|by cases h;exact aT o (.tmp o) (λ_ _ g=>g) (λ_ _ _=>(.cons_cons _ .slnil))) λhc h=>zW o<|rI h o (λhc h=>zU 1 o<|zf<|zB<|zT<|az (R':=Res.dfiles PP dI u M.2.1) 0 o cw<|pk [1,0] o<|cC (P:=PP) (I:=dI) (D:=M)<|by cases h;exact aT o (.tmp o) (λ_ _ g=>g) (λ_ _ _=>(.cons_cons _ .slnil))) λhc h=>zu<|q 3 [(0,ptr C 0),(1,ts V),(2,ti c),(3,ts f),(9,tp g7),(10,tb a5),(11,ti J),(56,tb (!a5))] [] o ?_
 obtain⟨d8,e,h⟩:=aj h;rw[e]
 refine bL h 7 (λc4=>[(0,ptr C 0),(1,ts V),(2,ti c),(3,ts f),(9,tp g7),(10,tb a5),(11,ti J),(63,tb c4)]) (λ_=>[Res.dat PP dI u M.2.1 V g7,Res.var C 123 DT (cL M u M.2.2.2.2.2.2 ())]) (λe2 h=>?_) λc4 h=>?_
 ·cases d8
  ·replace h:=ifF h
   exact zN o<|zt<|ah false () h o o
  replace h:=ifT h
  refine zm 3 o<|al dl o ?_
  refine yl 1 f1 m9 o o o tr o<|al dl o ?_
  refine iE h λhc h=>y (F8 ep 0 o o Tryz.underlying121 hc) o ?_
  exact zN o<|zt<|ah (decide ((List.length M.2.1:Int)≥16)) () h o o
 refine zA o<|rI h o (λhc h=>zU 1 o<|zf<|zB<|zT<|az (R':=Res.dfiles PP dI u M.2.1) 0 o cw<|pk [1,0] o<|cC (P:=PP) (I:=dI) (D:=M)<|by cases h;exact aT o (.tmp o) (λ_ _ g=>g) (λ_ _ _=>(.cons_cons _ .slnil))) λhc h=>zs<|dA kr<|zF 7 [0,2,3,4,5,6,7] kr o o<|ej 8 (ti (max 0 (wrap .i64 ((wrap .i64 (c+(List.length f:Int))) - J)))) o kr (BB o o)<|zF 1 [10] kr o o ?_
 refine bv (i:=1) (j:=11) kr o o ?_ ?_
 ·refine pk [1,0] o<|cB h λc5 a9 h=>il (Lo:=[]) (mO C u V g7 M _ a9) kr (List.Perm.refl _) o o λ_=>?_
  refine zL [0,1,2,3,9,10,11,66,73,75] o<|zF 1 [9] kr o o<|ae 11 kr o<|zA o<|ai [0,1,2,3,9,10,11,74,76] o<|zF 1 [12] kr o o<|ae 13 kr o<|yl 0 f0 ty3 o o o tr o<|zL [0,1,2,3,9,10,11,74,78] o<|zF 2 [14,15] kr o o<|aJ kr<|zt<|rI h o (λhc h=>zU 1 o<|zf<|zB<|zT<|az (R':=Res.dfiles PP dI u M.2.1) 1 o cw<|cC (P:=PP) (I:=dI) (D:=M)<|by cases h;exact aT o (.tmp o) (λ_ _ g=>g) (λ_ _ _=>(.cons_cons _ .slnil))) λhc h=>?_
  refine zk<|zi<|zt<|zs<|zU 1 o<|cB h λW b0 h=>il (Lo:=[Res.dat PP dI u M.2.1 V g7]) (jE C u M 1 _ b0) kr (List.Perm.refl _) o o λ_=>?_
  refine zm 1 o<|zz<|zA o<|rI h o (λhc h=>zU 2 o<|zf<|zT<|az (R':=Res.dfiles PP dI u M.2.1) 1 o cw<|cC (P:=PP) (I:=dI) (D:=(kJ W.2 M.2.1))<|by cases h;exact aT o (.tmp o) (λ_ _ g=>g) (λ_ _ _=>(.cons_cons _ .slnil))) λhc h=>zk<|zt<|jK h (γ:=Value) (λO g18=>[(2,ti c),(3,ts f),(9,tp g18),(11,ti J)]) (λO g18=>[Res.dat PP dI u O V g18,Res.var C 123 DT (cL W.2 u W.2.2.2.2.2.2.2 ())]) (λc6 h=>?_) λO g18 h=>?_
  ·refine zW o<|rI h o (λhc h=>?_) λhc h=>?_
   ·refine zu<|pA 3 (.int .i64) (.int .i64) o λc7=>?_
    refine jJ (P:=PP) (I:=dI) (keys:=[]) 0 o o ?_
    refine y (bc o Cb o o (.cons f2 o o (ab (ab (av aa))) .nil)) o ?_
    refine bI o o λb1=>bH (.slice none 0 0) o 5 (.int .u8) ?_
    refine bH (.slice none 0 0) o 5 (.int .u8) ?_
    refine zA o<|zr<|zm 3 o<|yl 4 f1 m9 o o o tr o<|zm 2 o<|az (R':=Res.dfiles PP dI u M.2.1) 5 o cw<|iE h λhc h=>pk [2,0,0,0,1,0] o<|qW (P:=PP) (I:=dI) ep o o o Tryz.underlying121 hc ?_
    exact za<|ah (fN .str V ([],[],[]) M.2.1) (.pointer (some ⟨b1,0,none⟩)) h o o
   exact zk<|zt<|pk [1,0] o<|ah M.2.1 g7 h o o
  refine jK h (γ:=Value) (λG g21=>[(2,ti c),(3,ts f),(9,tp g21)]) (λG g21=>[Res.dat PP dI u G V g21,Res.var C 123 DT (cL W.2 u W.2.2.2.2.2.2.2 ())]) (λc8 h=>?_) λG g21 h=>?_
  ·refine zu<|q 5 [(2,ti c),(3,ts f),(9,tp g18),(11,ti J),(13,ti (wrap .i64 (c+(List.length f:Int))))] [] o ?_
   obtain⟨b3,e,h⟩:=aj h;rw[e]
   refine zz<|zA o<|rI h o (λhc h=>?_) λhc h=>?_
   ·refine cB h λa4 b4 h=>jd ep b4 λb5 c9 d0 d1 hq=>?_
    rw[hq]
    clear hq
    refine zr<|zm 4 o<|yl 0 f0 tx3 o o o tr o<|zm 3 o<|iE h λhc h=>uz af zf5 1 o o o hc.1 o el5 Tryz.underlying3 hc.2 o λd2=>?_
    refine zm 2 o<|st 0 f0 tx3 o o o o tr<|za<|iJ (P:=PP) (I:=dI) ep ?_
    exact ah (dE .str V ((a4.1++List.replicate (Int.toNat (wrap .i64 (b3 - J))) 0),a4.2.1,a4.2.2) O) (.pointer (some ⟨b5,0,none⟩)) h o o
   exact zk<|zt<|ah O g18 h o o
  refine zs<|cB h λf22 b6 h=>jd ep b6 λH N d m hq=>?_
  rw[hq]
  clear hq
  refine zr<|zm 3 o<|yl 0 f0 tx3 o o o tr o<|zm 1 o ?_
  obtain⟨Z,h⟩:=cu h
  refine y (kF af (i:=c) (j:=(List.length f22.1:Int)) o (fk 1 o) o o Z.1 Z.2.1 Z.2.2 o ty5) o ?_
  refine q 1 [(2,ti c),(3,ts f),(9,ptr H 0),(119,.one W69 (iL (T.size (.int .u8)) N (Int.toNat c) (Int.toNat (List.length f22.1:Int)))),(120,ts f)] [] o<|w9 af 1 (i:=(Int.toNat c)) o o o (by have:=Z.2.1;omega) o ty5 o λd3=>?_
  refine za<|bD h (λw=>[]) (λw=>[Res.var H 237 FT (N,d,m,()),Res.own N 5 (.int .u8) (cb f22.1 (Int.toNat c) f),Res.own d 5 (.int .u8) f22.2.1,Res.dirty PP dI m w,Res.dhole PP dI u G V (.pointer (some ⟨H,0,none⟩)),Res.var C 123 DT (cL W.2 u W.2.2.2.2.2.2.2 ())]) (λb7 h=>?_) λw h=>?_
  ·refine zu<|p 3 [2,3,9,14] o ?_
   obtain⟨b8,e,h⟩:=aj h;rw[e]
   refine za<|zb<|ai [2,3,9,14] o<|bl (γ:=Unit) (λ(R:Int×List Int) _=>[(2,ti c),(3,ts f),(9,ptr H 0),(14,ti R.1)]) (λ(R:Int×List Int) _=>[Res.var H 237 FT (N,d,m,()),Res.own N 5 (.int .u8) (cb f22.1 (Int.toNat c) f),Res.own d 5 (.int .u8) f22.2.1,Res.dirty PP dI m R.2,Res.dhole PP dI u G V (.pointer (some ⟨H,0,none⟩)),Res.var C 123 DT (cL W.2 u W.2.2.2.2.2.2.2 ())]) (eQ c f b7) (b8,f22.2.2) () h o o ?_
   clear h
   intro a6 R gg h
   cases a6 with
   |zero=>cases h
   |succ a6=>
   simp only[eQ]at h
   refine zs<|zu<|q 7 [(14,ti R.1),(130,tb (decide ((wrap .i64 (R.1*64))<(wrap .i64 (c+(List.length f:Int))))))] [2,3,9] o ?_
   obtain⟨a7,e,h⟩:=aj h;rw[e]
   refine p 1 [2,3,9,14,131] o<|aH 3 [(2,ti c),(3,ts f),(9,ptr H 0),(14,ti R.1),(134,tb (a7&&(f !=[])))] [Res.var H 237 FT (N,d,m,()),Res.own N 5 (.int .u8) (cb f22.1 (Int.toNat c) f),Res.own d 5 (.int .u8) f22.2.1,Res.dirty PP dI m R.2,Res.dhole PP dI u G V (.pointer (some ⟨H,0,none⟩)),Res.var C 123 DT (cL W.2 u W.2.2.2.2.2.2.2 ())] (?_) ?_
   ·clear h
    cases a7
    ·exact zA o<|ap () o o
    exact zA o<|ap () o o
   refine za<|rI h o (λhc h=>?_) λhc h=>?_
   ·refine zk<|zt<|zs<|zb<|zr<|zm 3 o<|yl 0 f2 q9 o o o tr o<|zm 1 o<|ny 3 o λd4 a8=>?_
    refine y (yX 3 o o o uY Tryz.underlying235 zf3 o) o ?_
    refine zm 1 o<|iE h λhc h=>mR 3 o o o o uY Tryz.underlying235 (by rw[←a8,List.length_map]at hc;exact hc) ?_
    refine jJ (P:=PP) (I:=dI) (keys:=td R.1 R.2) 3 o (by rw[uA,a8]) ?_
    refine zn<|zi<|zt<|zr<|q 3 [(2,ti c),(3,ts f),(9,ptr H 0),(14,ti (wrap .i64 (R.1+1)))] [] o ?_
    obtain⟨c0,e,h⟩:=aj h;rw[e]
    exact za<|aY (c0,(td R.1 R.2)) () (Nat.lt_succ_self _) h o o
   exact zx<|ze<|ze<|zq<|zt<|ah R.2 () h o o
  refine zU 1 o<|zf<|iJ (P:=PP) (I:=dI) ep ?_
  refine az (R':=Res.dfiles PP dI u (dE .str V ((cb f22.1 (Int.toNat c) f),f22.2.1,w) G)) 0 o cw<|pk [1,0] o<|cC (P:=PP) (I:=dI) (D:=(kJ W.2 (dE .str V ((cb f22.1 (Int.toNat c) f),f22.2.1,w) G))) ?_
  cases h
  exact bm o (.tmp o) (.cons_cons _ .slnil)
 refine zA o<|ai [0,1,2,3,9,10,11,65,73,76] o<|zF 1 [12] kr o o ?_
 refine bv (i:=1) (j:=13) kr o o ?_ ?_
 ·refine pk [1,0] o<|cB h λc5 a9 h=>il (Lo:=[]) (mO C u V g7 M _ a9) kr (List.Perm.refl _) o o λ_=>?_
  refine zL [0,1,2,3,9,10,11,66,73,77] o<|zF 1 [9] kr o o<|ae 13 kr o<|yl 0 f0 ty3 o o o tr o<|zL [0,1,2,3,9,10,11,74,78] o<|zF 2 [14,15] kr o o<|aJ kr<|zt<|rI h o (λhc h=>zU 1 o<|zf<|zB<|zT<|az (R':=Res.dfiles PP dI u M.2.1) 1 o cw<|cC (P:=PP) (I:=dI) (D:=M)<|by cases h;exact aT o (.tmp o) (λ_ _ g=>g) (λ_ _ _=>(.cons_cons _ .slnil))) λhc h=>zk<|zi<|zt<|zs<|zU 1 o ?_
  refine cB h λW b0 h=>il (Lo:=[Res.dat PP dI u M.2.1 V g7]) (jE C u M 1 _ b0) kr (List.Perm.refl _) o o λ_=>?_
  refine zm 1 o<|zz<|zA o<|rI h o (λhc h=>zU 2 o<|zf<|zT<|az (R':=Res.dfiles PP dI u M.2.1) 1 o cw<|cC (P:=PP) (I:=dI) (D:=(kJ W.2 M.2.1))<|by cases h;exact aT o (.tmp o) (λ_ _ g=>g) (λ_ _ _=>(.cons_cons _ .slnil))) λhc h=>zk<|zt<|jK h (γ:=Value) (λO g18=>[(2,ti c),(3,ts f),(9,tp g18),(11,ti J)]) (λO g18=>[Res.dat PP dI u O V g18,Res.var C 123 DT (cL W.2 u W.2.2.2.2.2.2.2 ())]) (λc6 h=>?_) λO g18 h=>?_
  ·refine zW o<|rI h o (λhc h=>?_) λhc h=>?_
   ·refine zu<|pA 3 (.int .i64) (.int .i64) o λc7=>?_
    refine jJ (P:=PP) (I:=dI) (keys:=[]) 0 o o ?_
    refine y (bc o Cb o o (.cons f2 o o (ab (ab (av aa))) .nil)) o ?_
    refine bI o o λb1=>bH (.slice none 0 0) o 5 (.int .u8) ?_
    refine bH (.slice none 0 0) o 5 (.int .u8) ?_
    refine zA o<|zr<|zm 3 o<|yl 4 f1 m9 o o o tr o<|zm 2 o<|az (R':=Res.dfiles PP dI u M.2.1) 5 o cw<|iE h λhc h=>pk [2,0,0,0,1,0] o<|qW (P:=PP) (I:=dI) ep o o o Tryz.underlying121 hc ?_
    exact za<|ah (fN .str V ([],[],[]) M.2.1) (.pointer (some ⟨b1,0,none⟩)) h o o
   exact zk<|zt<|pk [1,0] o<|ah M.2.1 g7 h o o
  refine jK h (γ:=Value) (λG g21=>[(2,ti c),(3,ts f),(9,tp g21)]) (λG g21=>[Res.dat PP dI u G V g21,Res.var C 123 DT (cL W.2 u W.2.2.2.2.2.2.2 ())]) (λc8 h=>?_) λG g21 h=>?_
  ·refine zu<|q 5 [(2,ti c),(3,ts f),(9,tp g18),(11,ti J),(13,ti (wrap .i64 (c+(List.length f:Int))))] [] o ?_
   obtain⟨b3,e,h⟩:=aj h;rw[e]
   refine zz<|zA o<|rI h o (λhc h=>?_) λhc h=>?_
   ·refine cB h λa4 b4 h=>jd ep b4 λb5 c9 d0 d1 hq=>?_
    rw[hq]
    clear hq
    refine zr<|zm 4 o<|yl 0 f0 tx3 o o o tr o<|zm 3 o<|iE h λhc h=>uz af zf5 1 o o o hc.1 o el5 Tryz.underlying3 hc.2 o λd2=>?_
    refine zm 2 o<|st 0 f0 tx3 o o o o tr<|za<|iJ (P:=PP) (I:=dI) ep ?_
    exact ah (dE .str V ((a4.1++List.replicate (Int.toNat (wrap .i64 (b3 - J))) 0),a4.2.1,a4.2.2) O) (.pointer (some ⟨b5,0,none⟩)) h o o
   exact zk<|zt<|ah O g18 h o o
  refine zs<|cB h λf22 b6 h=>jd ep b6 λH N d m hq=>?_
  rw[hq]
  clear hq
  refine zr<|zm 3 o<|yl 0 f0 tx3 o o o tr o<|zm 1 o ?_
  obtain⟨Z,h⟩:=cu h
  refine y (kF af (i:=c) (j:=(List.length f22.1:Int)) o (fk 1 o) o o Z.1 Z.2.1 Z.2.2 o ty5) o ?_
  refine q 1 [(2,ti c),(3,ts f),(9,ptr H 0),(119,.one W69 (iL (T.size (.int .u8)) N (Int.toNat c) (Int.toNat (List.length f22.1:Int)))),(120,ts f)] [] o<|w9 af 1 (i:=(Int.toNat c)) o o o (by have:=Z.2.1;omega) o ty5 o λd3=>?_
  refine za<|bD h (λw=>[]) (λw=>[Res.var H 237 FT (N,d,m,()),Res.own N 5 (.int .u8) (cb f22.1 (Int.toNat c) f),Res.own d 5 (.int .u8) f22.2.1,Res.dirty PP dI m w,Res.dhole PP dI u G V (.pointer (some ⟨H,0,none⟩)),Res.var C 123 DT (cL W.2 u W.2.2.2.2.2.2.2 ())]) (λb7 h=>?_) λw h=>?_
  ·refine zu<|p 3 [2,3,9,14] o ?_
   obtain⟨b8,e,h⟩:=aj h;rw[e]
   refine za<|zb<|ai [2,3,9,14] o<|bl (γ:=Unit) (λ(R:Int×List Int) _=>[(2,ti c),(3,ts f),(9,ptr H 0),(14,ti R.1)]) (λ(R:Int×List Int) _=>[Res.var H 237 FT (N,d,m,()),Res.own N 5 (.int .u8) (cb f22.1 (Int.toNat c) f),Res.own d 5 (.int .u8) f22.2.1,Res.dirty PP dI m R.2,Res.dhole PP dI u G V (.pointer (some ⟨H,0,none⟩)),Res.var C 123 DT (cL W.2 u W.2.2.2.2.2.2.2 ())]) (eQ c f b7) (b8,f22.2.2) () h o o ?_
   clear h
   intro a6 R gg h
   cases a6 with
   |zero=>cases h
   |succ a6=>
   simp only[eQ]at h
   refine zs<|zu<|q 7 [(14,ti R.1),(130,tb (decide ((wrap .i64 (R.1*64))<(wrap .i64 (c+(List.length f:Int))))))] [2,3,9] o ?_
   obtain⟨a7,e,h⟩:=aj h;rw[e]
   refine p 1 [2,3,9,14,131] o<|aH 3 [(2,ti c),(3,ts f),(9,ptr H 0),(14,ti R.1),(134,tb (a7&&(f !=[])))] [Res.var H 237 FT (N,d,m,()),Res.own N 5 (.int .u8) (cb f22.1 (Int.toNat c) f),Res.own d 5 (.int .u8) f22.2.1,Res.dirty PP dI m R.2,Res.dhole PP dI u G V (.pointer (some ⟨H,0,none⟩)),Res.var C 123 DT (cL W.2 u W.2.2.2.2.2.2.2 ())] (?_) ?_
   ·clear h
    cases a7
    ·exact zA o<|ap () o o
    exact zA o<|ap () o o
   refine za<|rI h o (λhc h=>?_) λhc h=>?_
   ·refine zk<|zt<|zs<|zb<|zr<|zm 3 o<|yl 0 f2 q9 o o o tr o<|zm 1 o<|ny 3 o λd4 a8=>?_
    refine y (yX 3 o o o uY Tryz.underlying235 zf3 o) o ?_
    refine zm 1 o<|iE h λhc h=>mR 3 o o o o uY Tryz.underlying235 (by rw[←a8,List.length_map]at hc;exact hc) ?_
    refine jJ (P:=PP) (I:=dI) (keys:=td R.1 R.2) 3 o (by rw[uA,a8]) ?_
    refine zn<|zi<|zt<|zr<|q 3 [(2,ti c),(3,ts f),(9,ptr H 0),(14,ti (wrap .i64 (R.1+1)))] [] o ?_
    obtain⟨c0,e,h⟩:=aj h;rw[e]
    exact za<|aY (c0,(td R.1 R.2)) () (Nat.lt_succ_self _) h o o
   exact zx<|ze<|ze<|zq<|zt<|ah R.2 () h o o
  refine zU 1 o<|zf<|iJ (P:=PP) (I:=dI) ep ?_
  refine az (R':=Res.dfiles PP dI u (dE .str V ((cb f22.1 (Int.toNat c) f),f22.2.1,w) G)) 0 o cw<|pk [1,0] o<|cC (P:=PP) (I:=dI) (D:=(kJ W.2 (dE .str V ((cb f22.1 (Int.toNat c) f),f22.2.1,w) G))) ?_
  cases h
  exact bm o (.tmp o) (.cons_cons _ .slnil)
 refine yl 1 f0 ty3 o o o tr o<|zL [0,1,2,3,9,10,11,65,73,78] o<|ae 1 kr o<|pk [1,0] o<|cB h λc5 a9 h=>il (Lo:=[]) (mO C u V g7 M _ a9) kr (List.Perm.refl _) o o λ_=>?_
 refine zL [0,1,2,3,9,10,11,66,73,78] o<|zF 3 [9,14,15] kr o o<|aJ kr<|zt<|rI h o (λhc h=>zU 1 o<|zf<|zB<|zT<|az (R':=Res.dfiles PP dI u M.2.1) 1 o cw<|cC (P:=PP) (I:=dI) (D:=M)<|by cases h;exact aT o (.tmp o) (λ_ _ g=>g) (λ_ _ _=>(.cons_cons _ .slnil))) λhc h=>zk<|zi<|zt<|zs<|zU 1 o<|cB h λW b0 h=>il (Lo:=[Res.dat PP dI u M.2.1 V g7]) (jE C u M 1 _ b0) kr (List.Perm.refl _) o o λ_=>?_
 refine zm 1 o<|zz<|zA o<|rI h o (λhc h=>zU 2 o<|zf<|zT<|az (R':=Res.dfiles PP dI u M.2.1) 1 o cw<|cC (P:=PP) (I:=dI) (D:=(kJ W.2 M.2.1))<|by cases h;exact aT o (.tmp o) (λ_ _ g=>g) (λ_ _ _=>(.cons_cons _ .slnil))) λhc h=>zk<|zt<|jK h (γ:=Value) (λO g18=>[(2,ti c),(3,ts f),(9,tp g18),(11,ti J)]) (λO g18=>[Res.dat PP dI u O V g18,Res.var C 123 DT (cL W.2 u W.2.2.2.2.2.2.2 ())]) (λc6 h=>?_) λO g18 h=>?_
 ·refine zW o<|rI h o (λhc h=>?_) λhc h=>?_
  ·refine zu<|pA 3 (.int .i64) (.int .i64) o λc7=>?_
   refine jJ (P:=PP) (I:=dI) (keys:=[]) 0 o o ?_
   refine y (bc o Cb o o (.cons f2 o o (ab (ab (av aa))) .nil)) o ?_
   refine bI o o λb1=>bH (.slice none 0 0) o 5 (.int .u8) ?_
   refine bH (.slice none 0 0) o 5 (.int .u8) ?_
   refine zA o<|zr<|zm 3 o<|yl 4 f1 m9 o o o tr o<|zm 2 o<|az (R':=Res.dfiles PP dI u M.2.1) 5 o cw<|iE h λhc h=>pk [2,0,0,0,1,0] o<|qW (P:=PP) (I:=dI) ep o o o Tryz.underlying121 hc ?_
   exact za<|ah (fN .str V ([],[],[]) M.2.1) (.pointer (some ⟨b1,0,none⟩)) h o o
  exact zk<|zt<|pk [1,0] o<|ah M.2.1 g7 h o o
 refine jK h (γ:=Value) (λG g21=>[(2,ti c),(3,ts f),(9,tp g21)]) (λG g21=>[Res.dat PP dI u G V g21,Res.var C 123 DT (cL W.2 u W.2.2.2.2.2.2.2 ())]) (λc8 h=>?_) λG g21 h=>?_
 ·refine zu<|q 5 [(2,ti c),(3,ts f),(9,tp g18),(11,ti J),(13,ti (wrap .i64 (c+(List.length f:Int))))] [] o ?_
  obtain⟨b3,e,h⟩:=aj h;rw[e]
  refine zz<|zA o<|rI h o (λhc h=>?_) λhc h=>?_
  ·refine cB h λa4 b4 h=>jd ep b4 λb5 c9 d0 d1 hq=>?_
   rw[hq]
   clear hq
   refine zr<|zm 4 o<|yl 0 f0 tx3 o o o tr o<|zm 3 o<|iE h λhc h=>uz af zf5 1 o o o hc.1 o el5 Tryz.underlying3 hc.2 o λd2=>?_
   refine zm 2 o<|st 0 f0 tx3 o o o o tr<|za<|iJ (P:=PP) (I:=dI) ep ?_
   exact ah (dE .str V ((a4.1++List.replicate (Int.toNat (wrap .i64 (b3 - J))) 0),a4.2.1,a4.2.2) O) (.pointer (some ⟨b5,0,none⟩)) h o o
  exact zk<|zt<|ah O g18 h o o
 refine zs<|cB h λf22 b6 h=>jd ep b6 λH N d m hq=>?_
 rw[hq]
 clear hq
 refine zr<|zm 3 o<|yl 0 f0 tx3 o o o tr o<|zm 1 o ?_
 obtain⟨Z,h⟩:=cu h
 refine y (kF af (i:=c) (j:=(List.length f22.1:Int)) o (fk 1 o) o o Z.1 Z.2.1 Z.2.2 o ty5) o ?_
 refine q 1 [(2,ti c),(3,ts f),(9,ptr H 0),(119,.one W69 (iL (T.size (.int .u8)) N (Int.toNat c) (Int.toNat (List.length f22.1:Int)))),(120,ts f)] [] o<|w9 af 1 (i:=(Int.toNat c)) o o o (by have:=Z.2.1;omega) o ty5 o λd3=>?_
 refine za<|bD h (λw=>[]) (λw=>[Res.var H 237 FT (N,d,m,()),Res.own N 5 (.int .u8) (cb f22.1 (Int.toNat c) f),Res.own d 5 (.int .u8) f22.2.1,Res.dirty PP dI m w,Res.dhole PP dI u G V (.pointer (some ⟨H,0,none⟩)),Res.var C 123 DT (cL W.2 u W.2.2.2.2.2.2.2 ())]) (λb7 h=>?_) λw h=>?_
 ·refine zu<|p 3 [2,3,9,14] o ?_
  obtain⟨b8,e,h⟩:=aj h;rw[e]
  refine za<|zb<|ai [2,3,9,14] o<|bl (γ:=Unit) (λ(R:Int×List Int) _=>[(2,ti c),(3,ts f),(9,ptr H 0),(14,ti R.1)]) (λ(R:Int×List Int) _=>[Res.var H 237 FT (N,d,m,()),Res.own N 5 (.int .u8) (cb f22.1 (Int.toNat c) f),Res.own d 5 (.int .u8) f22.2.1,Res.dirty PP dI m R.2,Res.dhole PP dI u G V (.pointer (some ⟨H,0,none⟩)),Res.var C 123 DT (cL W.2 u W.2.2.2.2.2.2.2 ())]) (eQ c f b7) (b8,f22.2.2) () h o o ?_
  clear h
  intro a6 R gg h
  cases a6 with
  |zero=>cases h
  |succ a6=>
  simp only[eQ]at h
  refine zs<|zu<|q 7 [(14,ti R.1),(130,tb (decide ((wrap .i64 (R.1*64))<(wrap .i64 (c+(List.length f:Int))))))] [2,3,9] o ?_
  obtain⟨a7,e,h⟩:=aj h;rw[e]
  refine p 1 [2,3,9,14,131] o<|aH 3 [(2,ti c),(3,ts f),(9,ptr H 0),(14,ti R.1),(134,tb (a7&&(f !=[])))] [Res.var H 237 FT (N,d,m,()),Res.own N 5 (.int .u8) (cb f22.1 (Int.toNat c) f),Res.own d 5 (.int .u8) f22.2.1,Res.dirty PP dI m R.2,Res.dhole PP dI u G V (.pointer (some ⟨H,0,none⟩)),Res.var C 123 DT (cL W.2 u W.2.2.2.2.2.2.2 ())] (?_) ?_
  ·clear h
   cases a7
   ·exact zA o<|ap () o o
   exact zA o<|ap () o o
  refine za<|rI h o (λhc h=>?_) λhc h=>?_
  ·refine zk<|zt<|zs<|zb<|zr<|zm 3 o<|yl 0 f2 q9 o o o tr o<|zm 1 o<|ny 3 o λd4 a8=>?_
   refine y (yX 3 o o o uY Tryz.underlying235 zf3 o) o ?_
   refine zm 1 o<|iE h λhc h=>mR 3 o o o o uY Tryz.underlying235 (by rw[←a8,List.length_map]at hc;exact hc) ?_
   refine jJ (P:=PP) (I:=dI) (keys:=td R.1 R.2) 3 o (by rw[uA,a8]) ?_
   refine zn<|zi<|zt<|zr<|q 3 [(2,ti c),(3,ts f),(9,ptr H 0),(14,ti (wrap .i64 (R.1+1)))] [] o ?_
   obtain⟨c0,e,h⟩:=aj h;rw[e]
   exact za<|aY (c0,(td R.1 R.2)) () (Nat.lt_succ_self _) h o o
  exact zx<|ze<|ze<|zq<|zt<|ah R.2 () h o o
 refine zU 1 o<|zf<|iJ (P:=PP) (I:=dI) ep ?_
 refine az (R':=Res.dfiles PP dI u (dE .str V ((cb f22.1 (Int.toNat c) f),f22.2.1,w) G)) 0 o cw<|pk [1,0] o<|cC (P:=PP) (I:=dI) (D:=(kJ W.2 (dE .str V ((cb f22.1 (Int.toNat c) f),f22.2.1,w) G))) ?_
 cases h
 exact bm o (.tmp o) (.cons_cons _ .slnil)
theorem oF(V:Value)(c f M r)(h:ll c f M=some r):Fn PP 136 [tp V,ts f,ts M] [Res.disk PP dI V c] (λ_=>ti r.1) (λ_=>[Res.disk PP dI V r.2]):=by
 unfold ll at h
 refine enter Tryz.func136 o 32 o o λF=>?_
 refine iy λR u hp=>?_
 subst hp
 refine zU 1 o<|zZ 2 o<|cB h λN W h=>il (Lo:=[]) (gS R u c f _ W) kr (List.Perm.refl _) o o λC=>?_
 refine zA o<|zs<|zW o<|rI h o (λhc h=>zU 2 o<|zf<|zT<|az (R':=Res.dfiles PP dI u c.2.1) 1 o fZ<|cC (P:=PP) (I:=dI) (D:=c)<|by cases h;exact aT o (.tmp o) (λ_ _ g=>g) (λ_ _ _=>(.cons_cons _ .slnil))) λhc h=>zk<|zt<|zs<|zU 1 o<|cB h λJ H h=>au (sU _ _ H) kr o o<|zA o<|rI h o (λhc h=>zU 1 o<|zf<|zT<|az (R':=Res.dfiles PP dI u c.2.1) 1 o fZ<|cC (P:=PP) (I:=dI) (D:=c)<|by cases h;exact aT o (.tmp o) (λ_ _ g=>g) (λ_ _ _=>(.cons_cons _ .slnil))) λhc h=>?_
 refine zy<|zm 3 o<|yl 0 f1 m9 o o o tr o<|zm 1 o<|iE h λhc h=>az (R':=Res.dat PP dI u c.2.1 f (aK C 0)) 1 o (nR hc)<|cB h λf6 G h=>pk [1,0] o<|jd ep G λd m O w hq=>?_
 rw[hq]
 clear hq
 refine pk [4,0,0,0,0,0] o<|w8 ep o o Tryz.underlying121 o ?_
 refine zZ 3 o<|yl 5 f1 m9 o o o tr o<|zm 2 o<|iE h λhc h=>pk [1,1,1,1,0,0] o<|qW (P:=PP) (I:=dI) ep o o o Tryz.underlying121 hc ?_
 refine zz<|zE o<|az (R':=Res.dfiles PP dI u (fN .str M (f6.1,f6.2.1,f6.2.2) (cQ .str f c.2.1))) 0 o cw<|nL o<|pk [1,0] o<|cC (P:=PP) (I:=dI) (D:=(kJ c (fN .str M (f6.1,f6.2.1,f6.2.2) (cQ .str f c.2.1)))) ?_
 cases h
 exact bm o (.tmp o) (.cons_cons _ .slnil)
theorem Ah(u:Value)(R M r)(h:uR R M=some r):Fn PP 121 [tp u,ts M] [Res.disk PP dI u R] (λv=> .tup [⟨.raw (.pointer none),aK v 0⟩,⟨(.int .i64),r.2.1⟩]) (λv=>[Res.disk PP dI u r.2.2,Res.clsif (fj u) (aK v 0) r.1.2 r.1.1]):=by
 unfold uR at h
 refine enter Tryz.func121 o 49 o o λF=>?_
 refine zW o<|zs<|zU 2 o<|iE h λhc h=>y (ij o o hc) o ?_
 refine cB h λV C h=>rc [0] (aP _ _ _ _ C) kr o o o λ_=>zm 1 o<|zz<|q 3 [(0,tp u),(1,ts M),(6,ti V.1),(16,tb (V.1 !=0))] [] o ?_
 obtain⟨W,e,h⟩:=aj h;rw[e]
 refine aH 3 [(0,tp u),(1,ts M),(6,ti V.1),(19,tb (W&&(V.1 !=5)))] [Res.disk PP dI u V.2] (?_) ?_
 ·clear h
  cases W
  ·exact zA o<|ap () o o
  exact zA o<|ap () o o
 refine za<|rI h o (λhc h=>?_) λhc h=>?_
 ·refine zU 3 o<|zf<|zT<|fm (K:=(fj u)) (x:=((),[],0,0,())) (e:=1) (by decide) ?_
  cases h
  exact pk [1,0] o<|aC (rs:=[.tmp 4,.tmp 5]) o (.cons (.tmp o) (.cons (.tmp o) (.nil))) o (λ_ vs g=>by cases g with|cons c g=>cases g with|cons f g=>cases g;exact⟨_,o,.cons (bg c) (.cons f (.nil))⟩) (λ_ vs g=>by cases g with|cons c g=>cases g with|cons f g=>cases g;rw[bP c];exact List.Sublist.refl _)
 refine zk<|zt<|zs<|zU 2 o<|iE h λhc h=>y (ij o o hc) o ?_
 refine cB h λO H h=>au (u2 _ _ H) kr o o<|cB h λw G h=>au (mM _ _ _ G) kr o o<|cB h λZ N h=>rc [0] (me _ _ _ _ _ _ N) kr o o o λ_=>zm 1 o<|zz<|zA o<|rI h o (λhc h=>?_) λhc h=>?_
 ·refine zU 3 o<|zf<|zT<|fm (K:=(fj u)) (x:=((),[],0,0,())) (e:=1) (by decide) ?_
  cases h
  exact pk [1,0] o<|aC (rs:=[.tmp 4,.tmp 5]) o (.cons (.tmp o) (.cons (.tmp o) (.nil))) o (λ_ vs g=>by cases g with|cons c g=>cases g with|cons f g=>cases g;exact⟨_,o,.cons (bg c) (.cons f (.nil))⟩) (λ_ vs g=>by cases g with|cons c g=>cases g with|cons f g=>cases g;rw[bP c];exact List.Sublist.refl _)
 refine zk<|zt<|zs<|zU 2 o<|iE h λhc h=>y (ij o o hc) o ?_
 refine cB h λr6 J h=>rc [0] (dO _ _ _ _ J) kr o o o λ_=>zm 1 o<|zz<|zA o<|rI h o (λhc h=>?_) λhc h=>?_
 ·refine zU 3 o<|zf<|zT<|fm (K:=(fj u)) (x:=((),[],0,0,())) (e:=1) (by decide) ?_
  cases h
  exact pk [1,0] o<|aC (rs:=[.tmp 4,.tmp 5]) o (.cons (.tmp o) (.cons (.tmp o) (.nil))) o (λ_ vs g=>by cases g with|cons c g=>cases g with|cons f g=>cases g;exact⟨_,o,.cons (bg c) (.cons f (.nil))⟩) (λ_ vs g=>by cases g with|cons c g=>cases g with|cons f g=>cases g;rw[bP c];exact List.Sublist.refl _)
 refine zk<|zt<|zs<|zU 2 o<|iE h λhc h=>y (ij o o hc) o ?_
 refine zm 1 o<|cB h λr7 d h=>rc [0] (oF _ _ _ _ _ d) kr o o o λ_=>zm 1 o<|zz<|zA o<|rI h o (λhc h=>?_) λhc h=>?_
 ·refine zU 3 o<|zf<|zT<|fm (K:=(fj u)) (x:=((),[],0,0,())) (e:=1) (by decide) ?_
  cases h
  exact pk [1,0] o<|aC (rs:=[.tmp 4,.tmp 5]) o (.cons (.tmp o) (.cons (.tmp o) (.nil))) o (λ_ vs g=>by cases g with|cons c g=>cases g with|cons f g=>cases g;exact⟨_,o,.cons (bg c) (.cons f (.nil))⟩) (λ_ vs g=>by cases g with|cons c g=>cases g with|cons f g=>cases g;rw[bP c];exact List.Sublist.refl _)
 refine zy<|zm 2 o<|y (bc o E4 o o (.cons f0 o o (av aa) (.cons f1 o o (ab (av aa)) (.cons f2 o o (ab (ab (av aa))) (.cons f3 o o (ab (ab (ab (av aa)))) .nil))))) o ?_
 refine bI o o λm=>zE o<|vy (x:=((),M,(-1),1,())) (q:=u) ?_
 refine az (R':=Res.clsif (fj u) (.pointer (some ⟨m,0,none⟩)) ((),M,(-1),1,()) 0) 0 o (du o) ?_
 cases h
 exact pk [1,0] o<|aC (rs:=[.tmp 4,.tmp 5]) o (.cons (.tmp o) (.cons (.tmp o) (.nil))) o (λ_ vs g=>by cases g with|cons c g=>cases g with|cons f g=>cases g;exact⟨_,o,.cons (bg c) (.cons f (.nil))⟩) (λ_ vs g=>by cases g with|cons c g=>cases g with|cons f g=>cases g;rw[bP c];exact List.Sublist.refl _)
theorem yk(c r)(h:tH c=some r):bw PP 169 [ti c] (tb r):=by
 unfold tH at h
 refine enter Tryz.func169 o 9 o o λF=>?_
 refine zU 1 o<|zz<|q 3 [(0,ti c),(5,tb (decide (c≥(-1))))] [] o ?_
 obtain⟨f,e,h⟩:=aj h;rw[e]
 refine aH 3 [(8,tb (f&&(decide (c≤281474976710655))))] [] (?_) ?_
 ·clear h
  cases f
  ·exact zA o<|ap () o o
  exact zA o<|ap () o o
 refine zE o ?_
 cases h
 exact ax o (.tmp o)
theorem Ai(c f r)(h:uS c f=some r):bw PP 123 [ts c,ti f] (.one W62 r):=by
 unfold uS at h
 refine enter Tryz.func123 o 25 o o λF=>?_
 refine zu<|aB (t:=W62) o E3 o λM=>zZ 3 o<|iE h λhc h=>y (gD (i:=(wrap .i64 (64*f))) (j:=(List.length c:Int)) af o o o hc.1 hc.2.1 hc.2.2 o) o ?_
 refine iE h λhc h=>y (gD (i:=(0:Int)) (j:=12) af o o o hc.1 hc.2.1 hc.2.2 o) o ?_
 refine q 1 [(0,ts (List.drop 0 (List.take 12 (List.drop (Int.toNat (wrap .i64 (64*f))) (List.take (Int.toNat (List.length c:Int)) c))))),(4,ptr M 0)] [] o ?_
 obtain⟨V,e,h⟩:=aj h;rw[e]
 refine zZ 1 o<|cB h λm C h=>rc [] (iG _ _ C) kr o o o λO=>fw λH hp=>?_
 subst hp
 refine cB h λu G h=>rc [0] (bV _ _ _ G) kr o o o λ_=>zm 1 o<|zZ 2 o<|cB h λR N h=>au (yk _ _ N) kr o o<|q 1 [(0,ts V),(5,ti u.1),(14,ti u.1),(17,tb R)] [4] o<|bL h 6 (λW=>[(4,ptr M 0),(14,ti u.1),(23,tb W)]) (λ_=>[Res.var H 171 W63 u.2,Res.var M 204 W62 (0,false,())]) (λw h=>?_) λW h=>?_
 ·cases R
  ·replace h:=ifF h
   exact zN o<|zt<|ah false () h o o
  replace h:=ifT h
  refine zm 1 o<|al dl o ?_
  refine cB h λJ d h=>au (u2 _ _ d) kr o o<|al dl o ?_
  refine iE h λhc h=>y (gD (i:=(0:Int)) (j:=12) af o o o hc.1 hc.2.1 hc.2.2 o) o ?_
  exact zN o<|zt<|ah ((List.drop 0 (List.take 12 J))==V) () h o o
 refine y (bc o E3 o o (.cons f0 o o aa (.cons f1 o o aa .nil))) o ?_
 refine st 1 .here na o o o o tr<|zf ?_
 cases h
 exact aT o (.cell 1 .here o o o aa na) (λ_ _ g=>g) (λ_ _ _=>List.nil_sublist _)
theorem Aj(c:Value)(H M r)(h:uT H M=some r):Fn PP 67 [tp c,ts M] [Res.disk PP dI c H] (λv=> .tup [⟨.raw (.pointer none),aK v 0⟩,⟨(.int .i64),r.2.1⟩]) (λv=>[Res.disk PP dI c r.2.2,Res.clsif (fj c) (aK v 0) r.1.2 r.1.1]):=by
 unfold uT at h
 refine enter Tryz.func67 o 108 o o λF=>?_
 refine zU 2 o<|zZ 2 o<|cB h λr1 w h=>rc [0] (kA _ _ _ _ w) kr o o o λ_=>zA o<|zs<|zb<|zW o<|rI h o (λhc h=>zU 2 o<|cB h λr2 Z h=>rc [0] (Ah _ _ _ _ Z) kr o o o λv3=>zE o<|zB<|zT<|by cases h;exact pk [0,0] o<|aC (rs:=[.tmp 4,.tmp 5]) o (.cons (.tmp o) (.cons (.tmp o) (.nil))) o (λ_ vs g=>by cases g with|cons f g=>cases g with|cons u g=>cases g;exact⟨_,o,.cons (bg f) (.cons u (.nil))⟩) (λ_ vs g=>by cases g with|cons f g=>cases g with|cons u g=>cases g;rw[bP f];exact List.Sublist.refl _)) λhc h=>zW o<|rI h o (λhc h=>?_) λhc h=>?_
 ·refine zU 3 o<|zf<|zB<|zT<|fm (K:=(fj c)) (x:=((),[],0,0,())) (e:=1) (by decide) ?_
  cases h
  exact pk [1,0] o<|aC (rs:=[.tmp 4,.tmp 5]) o (.cons (.tmp o) (.cons (.tmp o) (.nil))) o (λ_ vs g=>by cases g with|cons f g=>cases g with|cons u g=>cases g;exact⟨_,o,.cons (bg f) (.cons u (.nil))⟩) (λ_ vs g=>by cases g with|cons f g=>cases g with|cons u g=>cases g;rw[bP f];exact List.Sublist.refl _)
 refine zW o<|rI h o (λhc h=>?_) λhc h=>?_
 ·refine zU 2 o<|zf<|zB<|zT<|fm (K:=(fj c)) (x:=((),[],0,0,())) (e:=1) (by decide) ?_
  cases h
  exact pk [1,0] o<|aC (rs:=[.tmp 4,.tmp 5]) o (.cons (.tmp o) (.cons (.tmp o) (.nil))) o (λ_ vs g=>by cases g with|cons f g=>cases g with|cons u g=>cases g;exact⟨_,o,.cons (bg f) (.cons u (.nil))⟩) (λ_ vs g=>by cases g with|cons f g=>cases g with|cons u g=>cases g;rw[bP f];exact List.Sublist.refl _)
 refine zk<|zi<|zt<|zU 2 o<|cB h λJ a2 h=>rc [0] (jt _ _ _ _ _ _ a2) kr o o o λ_=>zA o<|zs<|zW o<|rI h o (λhc h=>?_) λhc h=>?_
 ·refine zU 3 o<|zf<|zT<|fm (K:=(fj c)) (x:=((),[],0,0,())) (e:=1) (by decide) ?_
  cases h
  exact pk [1,0] o<|aC (rs:=[.tmp 4,.tmp 5]) o (.cons (.tmp o) (.cons (.tmp o) (.nil))) o (λ_ vs g=>by cases g with|cons f g=>cases g with|cons u g=>cases g;exact⟨_,o,.cons (bg f) (.cons u (.nil))⟩) (λ_ vs g=>by cases g with|cons f g=>cases g with|cons u g=>cases g;rw[bP f];exact List.Sublist.refl _)
 refine zy<|aB (t:=Y205) o Hp o λR=>za<|bD h (λV=>[(0,tp c),(1,ts M),(9,ptr R 0)]) (λV=>[Res.var R 205 Y205 V,Res.disk PP dI c H]) (λk6 h=>?_) λV h=>?_
 ·refine zW o<|zb<|ai [0,1,8,9,43] o<|bl (γ:=Unit) (λ(C:Int×(List cx)) _=>[(0,tp c),(1,ts M),(8,ts J.1),(9,ptr R 0),(43,ti C.1)]) (λ(C:Int×(List cx)) _=>[Res.var R 205 Y205 C.2,Res.disk PP dI c H]) (n9 J k6) (0,(List.replicate 2 ((0,false,()):cx))) () h o o ?_
  clear h
  intro d C gg h
  cases d with
  |zero=>cases h
  |succ d=>
  simp only[n9]at h
  refine zW o<|zs<|rI h o (λhc h=>?_) λhc h=>?_
  ·refine zk<|zt<|zs<|zb<|zW o<|zr<|zm 3 o<|cB h λa3 a4 h=>au (Ai _ _ _ a4) kr o o<|iE h λhc h=>y (bO o o hc.1 hc.2 qc na) o ?_
   exact iV 0 (.elem (Int.toNat C.1) .here) o o o pof (aw pix aa) na<|zn<|zi<|zt<|zr<|zA o<|aY ((wrap .i64 (C.1+1)),(List.set C.2 (Int.toNat C.1) a3)) () (Nat.lt_succ_self _) h o o
  exact zx<|ze<|ze<|zq<|zt<|ah C.2 () h o o
 refine zU 2 o<|y (bc o E4 o o (.cons f0 o o (av aa) (.cons f1 o o (ab (av aa)) (.cons f3 o o (ab (ab (ab (av aa)))) .nil)))) o ?_
 refine bI o o λW=>q 1 [(0,tp c),(1,ts M),(9,ptr R 0),(11,ptr W 0)] [] o<|za<|bD h (λG=>[(0,tp c),(1,ts M),(11,ptr W 0)]) (λG=>[Res.var W 208 W50 (gn G c),Res.var R 205 Y205 V,Res.disk PP dI c H]) (λk9 h=>?_) λG h=>?_
 ·refine zb<|zu<|iE h λhc h=>y (bO o o hc.1 hc.2 qc na) o ?_
  refine zm 1 o<|y (aN 1 (.elem 0 f1) o o pof (aw pix (ab (av aa))) ty4) o ?_
  refine q 2 [(67,tb (!((List.getD V 0 (0,false,())).2.1)))] [0,1,9,11] o ?_
  obtain⟨a5,e,h⟩:=aj h;rw[e]
  refine bL h 5 (λm=>[(0,tp c),(1,ts M),(9,ptr R 0),(11,ptr W 0),(72,tb m)]) (λ_=>[Res.var W 208 W50 (c,M,0,1,()),Res.var R 205 Y205 V,Res.disk PP dI c H]) (λa9 h=>?_) λm h=>?_
  ·cases a5
   ·replace h:=ifF h
    exact zN o<|zt<|ah false () h o o
   replace h:=ifT h
   refine al dl o ?_
   refine iE h λhc h=>y (bO o o hc.1 hc.2 qc na) o ?_
   refine zm 1 o<|al dl o ?_
   refine y (aN 1 (.elem 1 f1) o o pof (aw pix (ab (av aa))) ty4) o ?_
   exact zN o<|zt<|ah (!((List.getD V 1 (0,false,())).2.1)) () h o o
  refine zA o<|rI h o (λhc h=>?_) λhc h=>?_
  ·refine zU 2 o<|zf<|zB<|zT<|fm (K:=(fj c)) (x:=((),[],0,0,())) (e:=1) (by decide) ?_
   cases h
   exact pk [0,2] o<|pk [1,0] o<|aC (rs:=[.tmp 4,.tmp 5]) o (.cons (.tmp o) (.cons (.tmp o) (.nil))) o (λ_ vs g=>by cases g with|cons f g=>cases g with|cons u g=>cases g;exact⟨_,o,.cons (bg f) (.cons u (.nil))⟩) (λ_ vs g=>by cases g with|cons f g=>cases g with|cons u g=>cases g;rw[bP f];exact List.Sublist.refl _)
  refine zu<|iE h λhc h=>y (bO o o hc.1 hc.2 qc na) o ?_
  refine zm 1 o<|y (aN 1 (.elem 1 f1) o o pof (aw pix (ab (av aa))) ty4) o ?_
  refine q 1 [(0,tp c),(1,ts M),(9,ptr R 0),(11,ptr W 0),(77,tb ((List.getD V 1 (0,false,())).2.1))] [] o ?_
  obtain⟨a6,e,h⟩:=aj h;rw[e]
  refine bL h 14 (λO=>[(0,tp c),(1,ts M),(9,ptr R 0),(11,ptr W 0),(91,tb O)]) (λ_=>[Res.var W 208 W50 (c,M,0,1,()),Res.var R 205 Y205 V,Res.disk PP dI c H]) (λb0 h=>?_) λO h=>?_
  ·rcases Bool.eq_false_or_eq_true a6 with hh|hh
   ·rw[hh]at h⊢
    rw[if_pos o]at h
    refine al dl o ?_
    refine iE h λhc h=>y (bO o o hc.1 hc.2 qc na) o ?_
    refine zm 1 o<|al dl o ?_
    refine y (aN 1 (.elem 0 f1) o o pof (aw pix (ab (av aa))) ty4) o ?_
    refine q 2 [(77,tb true),(82,tb (!((List.getD V 0 (0,false,())).2.1)))] [0,1,9,11] o ?_
    obtain⟨a7,e,h⟩:=aj h;rw[e]
    refine bL h 8 (λN=>[(0,tp c),(1,ts M),(9,ptr R 0),(11,ptr W 0),(77,tb true),(90,tb N)]) (λ_=>[Res.var W 208 W50 (c,M,0,1,()),Res.var R 205 Y205 V,Res.disk PP dI c H]) (λb1 h=>?_) λN h=>?_
    ·cases a7
     ·replace h:=ifF h
      refine al dl o ?_
      refine iE h λhc h=>y (bO o o hc.1 hc.2 qc na) o ?_
      refine zm 1 o<|al dl o ?_
      refine y (aN 1 (.elem 0 f0) o o pof (aw pix (av aa)) ty2) o ?_
      refine al dl o ?_
      refine iE h λhc h=>y (bO o o hc.1 hc.2 qc na) o ?_
      refine zm 1 o<|al dl o ?_
      refine y (aN 1 (.elem 1 f0) o o pof (aw pix (av aa)) ty2) o ?_
      exact zN o<|zt<|ah (decide (((List.getD V 0 (0,false,())).1)<((List.getD V 1 (0,false,())).1))) () h o o
     replace h:=ifT h
     exact zN o<|zt<|ah true () h o o
    exact zN o<|zt<|ah N () h o o
   rw[hh]at h⊢
   rw[if_neg (by decide)]at h
   exact zN o<|zt<|ah false () h o o
  refine zA o<|rI h o (λhc h=>?_) λhc h=>?_
  ·refine zr<|zm 2 o<|iE h λhc h=>y (bO o o hc.1 hc.2 qc na) o ?_
   refine zm 1 o<|y (aN 1 (.elem 1 f0) o o pof (aw pix (av aa)) ty2) o ?_
   exact zm 2 o<|st 0 f2 ty2 o o o o tr<|zm 2 o<|st 0 f3 ty3 o o o o tr<|nL o<|zn<|zi<|zt<|ah ((),M,(List.getD V 1 (0,false,())).1,0,()) () h o o
  refine zr<|zm 1 o<|iE h λhc h=>y (bO o o hc.1 hc.2 qc na) o ?_
  refine zm 1 o<|y (aN 1 (.elem 0 f0) o o pof (aw pix (av aa)) ty2) o ?_
  exact zm 2 o<|st 0 f2 ty2 o o o o tr<|zn<|zi<|zt<|ah ((),M,(List.getD V 0 (0,false,())).1,1,()) () h o o
 refine zs<|zU 2 o<|cB h λb2 a8 h=>rc [2] (dO _ _ _ _ a8) kr o o o λ_=>zm 1 o<|zz<|zA o<|rI h o (λhc h=>?_) λhc h=>?_
 ·refine zU 3 o<|zf<|zT<|fm (K:=(fj c)) (x:=((),[],0,0,())) (e:=1) (by decide) ?_
  cases h
  exact pk [0,0] o<|pk [1,0] o<|aC (rs:=[.tmp 4,.tmp 5]) o (.cons (.tmp o) (.cons (.tmp o) (.nil))) o (λ_ vs g=>by cases g with|cons f g=>cases g with|cons u g=>cases g;exact⟨_,o,.cons (bg f) (.cons u (.nil))⟩) (λ_ vs g=>by cases g with|cons f g=>cases g with|cons u g=>cases g;rw[bP f];exact List.Sublist.refl _)
 refine zy<|zE o<|pk [1,0,0] o<|vy (x:=G) (q:=c) ?_
 refine az (R':=Res.clsif (fj c) (.pointer (some ⟨W,0,none⟩)) G 0) 0 o (du o) ?_
 cases h
 exact pk [0,0] o<|pk [1,0] o<|aC (rs:=[.tmp 4,.tmp 5]) o (.cons (.tmp o) (.cons (.tmp o) (.nil))) o (λ_ vs g=>by cases g with|cons f g=>cases g with|cons u g=>cases g;exact⟨_,o,.cons (bg f) (.cons u (.nil))⟩) (λ_ vs g=>by cases g with|cons f g=>cases g with|cons u g=>cases g;rw[bP f];exact List.Sublist.refl _)
theorem ug(f:Value)(G H r)(h:p8 G H=some r):FnT PP bN 14 [tp f,.one Y40 H] [Res.disk PP dI f G] (λv=> .tup [⟨.raw (.pointer none),aK v 0⟩,⟨(.int .i64),r.2.1⟩]) (λv=>[Res.disk PP dI f r.2.2,Res.clsif (bZ f) (aK v 0) r.1.2 r.1.1]):=by
 unfold p8 at h
 refine iM Tryz.func14 o 75 o o λF hT=>?_
 refine zu<|bI o o λN=>zm 2 o<|zz<|yl 0 .here Eq o o o tr o<|cB h λJ a3 h=>au (xp _ _ a3) kr o o<|zm 3 o<|aB (t:=Y30) o gU o λd=>st 0 .here bR o o o o tr<|zA o<|zs<|zW o<|rI h o (λhc h=>?_) λhc h=>?_
 ·refine zU 3 o<|zf<|zT<|fm (K:=(bZ f)) (x:=((),(1,((),[],0,[],0,false,())),(1,((),[],0,0,())),(0,0,0,0,[],[],0,0,0,(0,0,()),(0,0,()),(0,0,()),false,(List.replicate 2 (z32:List (Int))),z32,[],0,0,()),())) (e:=1) (by decide) ?_
  cases h
  exact pk [0,2] o<|pk [1,0] o<|aC (rs:=[.tmp 4,.tmp 5]) o (.cons (.tmp o) (.cons (.tmp o) (.nil))) o (λ_ vs g=>by cases g with|cons c g=>cases g with|cons u g=>cases g;exact⟨_,o,.cons (bg c) (.cons u (.nil))⟩) (λ_ vs g=>by cases g with|cons c g=>cases g with|cons u g=>cases g;rw[bP c];exact List.Sublist.refl _)
 refine zy<|zm 1 o<|yl 0 .here bR o o o tr o<|cB h λr6 a4 h=>rc [2] (xq _ _ _ _ a4) kr o o o λ_=>zm 4 o<|aB (t:=Y30) o gU o λW=>zm 1 o<|st 0 .here bR o o o o tr<|zA o<|zs<|zW o<|rI h o (λhc h=>?_) λhc h=>?_
 ·refine zU 3 o<|zf<|zT<|fm (K:=(bZ f)) (x:=((),(1,((),[],0,[],0,false,())),(1,((),[],0,0,())),(0,0,0,0,[],[],0,0,0,(0,0,()),(0,0,()),(0,0,()),false,(List.replicate 2 (z32:List (Int))),z32,[],0,0,()),())) (e:=1) (by decide) ?_
  cases h
  exact pk [0,1] o<|pk [1,0] o<|aC (rs:=[.tmp 4,.tmp 5]) o (.cons (.tmp o) (.cons (.tmp o) (.nil))) o (λ_ vs g=>by cases g with|cons c g=>cases g with|cons u g=>cases g;exact⟨_,o,.cons (bg c) (.cons u (.nil))⟩) (λ_ vs g=>by cases g with|cons c g=>cases g with|cons u g=>cases g;rw[bP c];exact List.Sublist.refl _)
 refine zy<|zm 2 o<|yl 3 f7 ty3 o o o tr o<|zm 1 o<|cB h λM a5 h=>rcT hT [1] (AB _ _ _ _ _ _ a5) kr o o o λR=>zA o<|zs<|zW o<|rI h o (λhc h=>?_) λhc h=>?_
 ·refine zU 3 o<|zf<|zT<|fm (K:=(bZ f)) (x:=((),(1,((),[],0,[],0,false,())),(1,((),[],0,0,())),(0,0,0,0,[],[],0,0,0,(0,0,()),(0,0,()),(0,0,()),false,(List.replicate 2 (z32:List (Int))),z32,[],0,0,()),())) (e:=1) (by decide) ?_
  cases h
  exact pk [0,0] o<|pk [1,0] o<|aC (rs:=[.tmp 4,.tmp 5]) o (.cons (.tmp o) (.cons (.tmp o) (.nil))) o (λ_ vs g=>by cases g with|cons c g=>cases g with|cons u g=>cases g;exact⟨_,o,.cons (bg c) (.cons u (.nil))⟩) (λ_ vs g=>by cases g with|cons c g=>cases g with|cons u g=>cases g;rw[bP c];exact List.Sublist.refl _)
 refine zk<|zt<|jK h (γ:=Value) (λC g12=>[(0,tp f),(9,ptr W 0),(10,tp (aK R 0))]) (λC g12=>[Res.disk PP dI f M.2.2.2,Res.clsif (co f) (aK R 0) M.1.2 M.1.1,Res.own g12 9 .str M.2.1,Res.var W 30 Y30 C,Res.var d 30 Y30 J.1,Res.var N 40 Y40 H]) (λa6 h=>?_) λC g12 h=>?_
 ·refine zU 1 o<|y (ct af 2 o o o) o ?_
  refine zA o<|zb<|ai [0,9,10,45,46,47] o<|bl (γ:=Value) (λ(V:Int×Z29) g21=>[(0,tp f),(9,ptr W 0),(10,tp (aK R 0)),(45,.one W69 g21),(46,ti (List.length M.2.1:Int)),(47,ti V.1)]) (λ(V:Int×Z29) g21=>[Res.disk PP dI f M.2.2.2,Res.clsif (co f) (aK R 0) M.1.2 M.1.1,Res.own g21 9 .str M.2.1,Res.var W 30 Y30 V.2,Res.var d 30 Y30 J.1,Res.var N 40 Y40 H]) (m8 M a6) (0,r6.2.1) (aK R 1) h o o ?_
  clear h
  intro m V g21 h
  cases m with
  |zero=>cases h
  |succ m=>
  simp only[m8]at h
  refine zW o<|zs<|rI h o (λhc h=>?_) λhc h=>?_
  ·refine zk<|zt<|zs<|zb<|zu<|iE h λhc h=>cT 2 o (by omega) λO w Z hv=>?_
   rw[hv]
   try clear hv
   refine y (dn af o o hc.1 (by first|exact hc.2|simpa using hc.2) o ty9) o ?_
   refine y (eC 2 (Int.toNat V.1) .here o o (by omega) pof aa ty9) o ?_
   refine q 1 [(0,tp f),(9,ptr W 0),(10,tp (aK R 0)),(13,ts (List.getD M.2.1 (Int.toNat V.1) [])),(45,.one W69 (.slice (some ⟨O,w,none⟩) (List.length M.2.1) Z)),(46,ti (List.length M.2.1:Int)),(47,ti V.1)] [] o ?_
   obtain⟨b1,e,h⟩:=aj h;rw[e]
   refine zz<|yl 3 .here bR o o o tr o<|zm 1 o<|cB h λa7 a8 h=>rcT hT [] (xy _ _ _ a8) kr o o o λ_=>zm 3 o<|st 3 .here bR o o o o tr<|zm 1 o<|zz<|zA o<|rI h o (λhc h=>?_) λhc h=>?_
   ·refine zU 3 o<|zf<|zB<|zT<|zT<|zB<|zT<|fm (K:=(bZ f)) (x:=((),(1,((),[],0,[],0,false,())),(1,((),[],0,0,())),(0,0,0,0,[],[],0,0,0,(0,0,()),(0,0,()),(0,0,()),false,(List.replicate 2 (z32:List (Int))),z32,[],0,0,()),())) (e:=1) (by decide) ?_
    cases h
    exact pk [0,0] o<|pk [1,0] o<|aC (rs:=[.tmp 4,.tmp 5]) o (.cons (.tmp o) (.cons (.tmp o) (.nil))) o (λ_ vs g=>by cases g with|cons c g=>cases g with|cons u g=>cases g;exact⟨_,o,.cons (bg c) (.cons u (.nil))⟩) (λ_ vs g=>by cases g with|cons c g=>cases g with|cons u g=>cases g;rw[bP c];exact List.Sublist.refl _)
   exact zk<|zi<|zt<|zr<|zA o<|aY ((wrap .i64 (V.1+1)),a7.1) (.slice (some ⟨O,w,none⟩) (List.length M.2.1) Z) (Nat.lt_succ_self _) h o o
  exact zx<|ze<|ze<|zq<|zt<|ah V.2 g21 h o o
 refine zU 1 o<|cB h λa2 a9 h=>rc [0] (Aj _ _ _ _ a9) kr o o o λb2=>zA o<|zs<|zW o<|rI h o (λhc h=>?_) λhc h=>?_
 ·refine zU 3 o<|zf<|zT<|fm (K:=(bZ f)) (x:=((),(1,((),[],0,[],0,false,())),(1,((),[],0,0,())),(0,0,0,0,[],[],0,0,0,(0,0,()),(0,0,()),(0,0,()),false,(List.replicate 2 (z32:List (Int))),z32,[],0,0,()),())) (e:=1) (by decide) ?_
  cases h
  exact pk [0,0] o<|pk [1,0] o<|aC (rs:=[.tmp 4,.tmp 5]) o (.cons (.tmp o) (.cons (.tmp o) (.nil))) o (λ_ vs g=>by cases g with|cons c g=>cases g with|cons u g=>cases g;exact⟨_,o,.cons (bg c) (.cons u (.nil))⟩) (λ_ vs g=>by cases g with|cons c g=>cases g with|cons u g=>cases g;rw[bP c];exact List.Sublist.refl _)
 refine zy<|zm 3 o<|yl 4 .here bR o o o tr o<|y (bc o Hj o o (.cons f0 o o (av aa) (.cons f1 o o (ab (av aa)) (.cons f2 o o (ab (ab (av aa))) (.cons f3 o o (ab (ab (ab (av aa)))) .nil))))) o ?_
 refine bI o o λb0=>zE o<|pk [0,2,1,0,0,0,0,0] o<|gL (x:=((),M.1,a2.1,C,())) (q:=f) ?_
 refine az (R':=Res.clsif (bZ f) (.pointer (some ⟨b0,0,none⟩)) ((),M.1,a2.1,C,()) 0) 0 o (du o) ?_
 cases h
 exact pk [0,0] o<|pk [1,0] o<|aC (rs:=[.tmp 4,.tmp 5]) o (.cons (.tmp o) (.cons (.tmp o) (.nil))) o (λ_ vs g=>by cases g with|cons c g=>cases g with|cons u g=>cases g;exact⟨_,o,.cons (bg c) (.cons u (.nil))⟩) (λ_ vs g=>by cases g with|cons c g=>cases g with|cons u g=>cases g;rw[bP c];exact List.Sublist.refl _)
theorem u6(u:Value)(c:Value)(f M r)(h:oc f M=some r):Fn PP 75 [tp u] [Res.cls (fj c) u f,Res.disk PP dI c M] (λ_=>ti r) (λ_=>[Res.cls (fj c) u f,Res.disk PP dI c M]):=by
 unfold oc at h
 refine enter Tryz.func75 o 7 o o λF=>?_
 refine Dm λV hp=>?_
 subst hp
 refine vy (x:=f) (q:=c) ?_
 refine zW o<|zs<|Ci ?_
 refine zr<|zm 3 o<|yl 0 f2 ty2 o o o tr o<|zE o<|vy (x:=f) (q:=c) ?_
 cases h
 exact bm o (.tmp o) (.cons_cons _ (.cons_cons _ .slnil))
theorem uo(u:Value)(c:Value)(f M r)(h:nk f M=some r):Fn PP 18 [tp u] [Res.cls (bZ c) u f,Res.disk PP dI c M] (λ_=>ti r) (λ_=>[Res.cls (bZ c) u f,Res.disk PP dI c M]):=by
 unfold nk at h
 refine enter Tryz.func18 o 8 o o λF=>?_
 refine qe λC H G hp=>?_
 subst hp
 refine gL (x:=f) (q:=c) ?_
 refine zW o<|zs<|pq λN V=>?_
 refine zr<|zm 3 o<|yl 0 f2 He o o o tr o ?_
 obtain⟨R,h⟩:=cu h
 refine az (R':=Res.cls (fj c) V f.2.2.1.2) 2 o (eO R)<|cB h λJ W h=>rc [2,2] (u6 _ _ _ _ _ W) kr o o o λ_=>zE o<|az (R':=Res.clsif (fj c) V f.2.2.1.2 f.2.2.1.1) 0 o (du R)<|nL o<|pk [2,2,0,0] o<|gL (x:=f) (q:=c) ?_
 cases h
 exact bm o (.tmp o) (.cons_cons _ (.cons_cons _ .slnil))
theorem Ak(c r)(h:uU c=some r):bw PP 68 [.one Y30 c] (.one Y30 r):=by
 unfold uU at h
 refine enter Tryz.func68 o 16 o o λF=>?_
 refine zu<|bI o o λV=>aB (t:=Y30) o gU o λm=>za<|zs<|pk [1,0] o<|sr (z:=(.slice none 0 0)) f4 o λf=>?_
 refine pk [1,0,0] o<|sr (z:=(.slice none 0 0)) f5 o λu=>?_
 refine pk [1,0,0,0] o<|sr (z:=(.slice none 0 0)) f15 o λM=>?_
 refine EF (bG [aZ V 30 W0 (kK c f u M)]) 2 #[false,false,false,false,false,false,false,false,false,false,true,true,true,true,true] #[true,true,true,true,true,true,true,true,true,true,false,false,false,false,false] 10 5 kr kr kr o ?_
 refine zH 1 [0] (ag (aq 1 o) ak) kr o o λs=>bq 1 (.one W69 f) s o kr (cp (S:=λw=>bG [aZ V 30 W0 (kK c f u M)] w) (bz 0 o) 1 f4 o o o o (ab (ab (ab (ab (av aa))))) tx0) λs=>zH 1 [3] s kr o o λs=>bq 4 (.one W69 u) s o kr (cp (S:=λw=>bG [aZ V 30 W0 (kK c f u M)] w) (bz 0 o) 1 f5 o o o o (ab (ab (ab (ab (ab (av aa)))))) tx0) λs=>zH 1 [6] s kr o o λs=>bq 7 (.one W69 M) s o kr (cp (S:=λw=>bG [aZ V 30 W0 (kK c f u M)] w) (bz 0 o) 1 f15 o o o o (ab (ab (ab (ab (ab (ab (ab (ab (ab (ab (ab (ab (ab (ab (ab (av aa)))))))))))))))) tx1) λs=>aF 2 kr o<|sy 4 3 o o ?_
 refine cB h λC G h=>rc [] (dM _ _ G) kr o o o λH=>za<|bi (ag (aq 2 o) ak) ?_
 refine ai [1,2,5,7,10] o<|zH 1 [9] (ag (aq 2 o) ak) kr o o λs=>aF 5 kr o<|sy 7 3 o o ?_
 refine cB h λN J h=>rc [] (dM _ _ J) kr o o o λW=>za<|bi (ag (aq 3 o) ak) ?_
 refine ai [1,2,5,8,10,12] o<|aF 8 kr o<|sy 10 2 o o ?_
 refine cB h λO d h=>rc [] (ju _ _ d) kr o o o λR=>za<|bi (ag (aq 4 o) ak) ?_
 refine ai [1,2,5,8,11,12] o<|dU kr<|CZ ?_
 refine ae 10 kr o<|st 4 f4 tx0 o o o o tr<|pk [0,0,0,0,0,0,1] o<|zL [1,2,8,11] o<|zF 1 [11] kr o o<|ae 12 kr o<|st 4 f5 tx0 o o o o tr<|nL o<|pk [0,0,0,0,0,1] o<|zL [1,2,11] o<|zF 1 [13] kr o o<|ae 14 kr o<|st 4 f15 tx1 o o o o tr<|pk [0,0,0,1,1] o ?_
 refine zL [1,2] o<|aJ kr<|zt<|zs<|pk [2,2,0,0,0] o<|dw (v:=H) (T0:=W0) (x0:=(kK c H W R)) (t:=Y52) f4 o o ?_
 refine pk [2,0,0,0] o<|dw (v:=W) (T0:=W2) (x0:=(kK c C W R)) (t:=Y52) f5 o o ?_
 refine pk [1,0,0] o<|dw (v:=R) (T0:=W4) (x0:=(kK c C N R)) (t:=Y56) f15 o o ?_
 refine zr<|yl 0 .here bR o o o tr o<|st 1 .here bR o o o o tr<|nL o<|zf ?_
 cases h
 exact aT o (.cell 1 .here o o o aa bR) (λ_ _ g=>g) (λ_ _ _=>List.nil_sublist _)
theorem jG(u:Value)(c:Value)(f M r)(h:ig f M=some r):Fn PP 15 [tp u] [Res.cls (bZ c) u f,Res.disk PP dI c M] (λ_=> .one Y30 r) (λ_=>[Res.cls (bZ c) u f,Res.disk PP dI c M]):=by
 unfold ig at h
 refine enter Tryz.func15 o 8 o o λF=>?_
 refine qe λR W C hp=>?_
 subst hp
 refine gL (x:=f) (q:=c) ?_
 refine zu<|aB (t:=Y30) o gU o λH=>za<|zs<|pk [1,0,0] o<|pq λG N=>?_
 refine zr<|zm 3 o<|yl 0 f3 bR o o o tr o<|cB h λJ V h=>au (Ak _ _ V) kr o o<|st 3 .here bR o o o o tr<|zf<|gL (x:=f) (q:=c) ?_
 cases h
 exact aT o (.cell 1 .here o o o aa bR) (λ_ _ g=>g) (λ_ _ _=>(.cons_cons _ (.cons _ (.cons_cons _ .slnil))))
theorem kg(c r)(h:iX c=some r):bw PP 60 [ti c] (.one Y54 r):=by
 unfold iX at h
 refine enter Tryz.func60 o 6 o o λF=>?_
 refine zu<|aB (t:=Y54) o kR o λf=>zZ 1 o<|y (bc o ii o o (.cons f0 o o aa (.cons f1 o o aa (.cons f2 o o aa .nil)))) o ?_
 refine y (bc o kR o o (.cons f0 o o aa (.cons f1 o o aa .nil))) o ?_
 refine st 0 .here fX o o o o tr<|zf ?_
 cases h
 exact aT o (.cell 0 .here o o o aa fX) (λ_ _ g=>g) (λ_ _ _=>List.nil_sublist _)
theorem uh(c:Value)(f u r)(h:p9 f u=some r):Fn PP 263 [tp c,.one Y52 u] [Res.cls bd c f] (λ_=> .tup []) (λ_=>[Res.cls bd c r]):=by
 unfold p9 at h
 refine enter Tryz.func263 o 14 o o λF=>?_
 refine cK λR W hp=>?_
 subst hp
 refine bS (x:=f) ?_
 refine zu<|bI o o λC=>zz<|yl 0 .here br o o o tr o<|cB h λH M h=>au (re _ _ M) kr o o<|zA o<|zr<|zm 2 o<|cB h λG V h=>rc [1] (jC _ _ _ _ V) kr o o o λ_=>zn ?_
 cases h
 exact eN o (λ_=>aG [] .nil) ((.cons_cons _ (.cons _ .slnil)))
theorem tW(c:Value)(u f r)(h:mK u f=some r):Fn PP 261 [.one W80 u,tp c] [Res.cls bd c f] (λ_=> .tup []) (λ_=>[Res.cls bd c r]):=by
 unfold mK at h
 refine enter Tryz.func261 o 8 o o λF=>?_
 refine cK λV R hp=>?_
 subst hp
 refine bS (x:=f) ?_
 refine zu<|bI o o λW=>za<|zr<|zm 2 o<|yl 0 f0 br o o o tr o<|cB h λC M h=>rc [1] (uh _ _ _ _ M) kr o o o λ_=>zn ?_
 cases h
 exact eN o (λ_=>aG [] .nil) ((.cons_cons _ (.cons _ .slnil)))
theorem rS(c:Value)(u f r)(h:lL u f=some r):Fn PP 277 [.one W64 u,tp c] [Res.cls bd c f] (λ_=> .tup []) (λ_=>[Res.cls bd c r]):=by
 unfold lL at h
 refine enter Tryz.func277 o 20 o o λF=>?_
 refine cK λW C hp=>?_
 subst hp
 refine bS (x:=f) ?_
 refine zu<|bI o o λH=>zZ 2 o<|yl 0 f0 ty2 o o o tr o<|cB h λG M h=>rc [1] (cN _ _ _ _ M) kr o o o λ_=>zZ 3 o<|yl 1 ((.snd (.fst f0))) ty3 o o o tr o<|zm 1 o<|cB h λN V h=>rc [0] (fc _ _ _ _ V) kr o o o λ_=>za<|zr<|zm 3 o ?_
 refine yl 1 ((.snd (.fst f1))) ty3 o o o tr o<|zm 1 o<|cB h λJ R h=>rc [0] (fc _ _ _ _ R) kr o o o λ_=>zn ?_
 cases h
 exact eN o (λ_=>aG [] .nil) ((.cons_cons _ (.cons _ .slnil)))
theorem tX(V:Value)(c R r)(h:mL c R=some r):Fn PP 283 [.one Y280 c,tp V] [Res.cls bd V R] (λ_=> .tup []) (λ_=>[Res.cls bd V r]):=by
 unfold mL at h
 refine enter Tryz.func283 o 31 o o λF=>?_
 refine cK λf w hp=>?_
 subst hp
 refine bS (x:=R) ?_
 refine zu<|bI o o λM=>zZ 2 o<|yl 0 f0 ty2 o o o tr o<|cB h λZ H h=>rc [1] (cN _ _ _ _ H) kr o o o λ_=>zZ 2 o<|yl 1 f1 jA o o o tr o<|q 2 [(1,ptr f 0),(2,ptr M 0),(10,ptr f 0),(14,.one (.int .u16) (wrap .u16 (List.length c.2.1:Int)))] [] o<|cB h λG N h=>rc [0] (fc _ _ _ _ N) kr o o o λ_=>za<|bD h (λW=>[(1,ptr f 0),(2,ptr M 0)]) (λW=>[Res.cls bd (.pointer (some ⟨f,0,none⟩)) W,Res.var M 280 Y280 c]) (λJ h=>?_) λW h=>?_
 ·refine zU 1 o<|yl 1 f1 jA o o o tr o<|zA o<|zb<|ai [1,2,17,18,19] o<|bl (γ:=Unit) (λ(u:Int×bF) _=>[(1,ptr f 0),(2,ptr M 0),(17,.one W84 c.2.1),(18,ti (List.length c.2.1:Int)),(19,ti u.1)]) (λ(u:Int×bF) _=>[Res.cls bd (.pointer (some ⟨f,0,none⟩)) u.2,Res.var M 280 Y280 c]) (jz c J) (0,G) () h o o ?_
  clear h
  intro C u gg h
  cases C with
  |zero=>cases h
  |succ C=>
  simp only[jz]at h
  refine zW o<|zs<|rI h o (λhc h=>?_) λhc h=>?_
  ·refine zk<|zt<|zs<|zb<|zu<|iE h λhc h=>y (eo af o o hc.1 hc.2 o br) o ?_
   refine y (de o br) o ?_
   refine aB (t:=Y52) o ii o λa2=>st 0 .here br o o o o tr<|za<|zr<|zm 1 o<|yl 0 .here br o o o tr o<|cB h λd m h=>rc [1] (uh _ _ _ _ m) kr o o o λ_=>zn<|zi<|zt<|zr<|zA o<|pk [0,1] o ?_
   exact aY ((wrap .i64 (u.1+1)),d) () (Nat.lt_succ_self _) h o o
  exact zx<|ze<|ze<|zq<|zt<|ah u.2 () h o o
 refine zr<|zm 2 o<|yl 1 f2 bB o o o tr o<|cB h λa3 O h=>rc [0] (eG _ _ _ _ O) kr o o o λ_=>zn ?_
 cases h
 exact eN o (λ_=>aG [] .nil) ((.cons_cons _ (.cons _ .slnil)))
theorem qP(c:Value)(u f r)(h:lm u f=some r):Fn PP 288 [.one Y282 u,tp c] [Res.cls bd c f] (λ_=> .tup []) (λ_=>[Res.cls bd c r]):=by
 unfold lm at h
 refine enter Tryz.func288 o 16 o o λF=>?_
 refine cK λW C hp=>?_
 subst hp
 refine bS (x:=f) ?_
 refine zu<|bI o o λH=>zZ 2 o<|yl 0 f0 ty2 o o o tr o<|cB h λG M h=>rc [1] (cN _ _ _ _ M) kr o o o λ_=>zZ 2 o<|yl 1 f1 bB o o o tr o<|cB h λN V h=>rc [0] (eG _ _ _ _ V) kr o o o λ_=>za<|zr<|zm 2 o<|yl 1 f2 bB o o o tr o ?_
 refine cB h λJ R h=>rc [0] (eG _ _ _ _ R) kr o o o λ_=>zn ?_
 cases h
 exact eN o (λ_=>aG [] .nil) ((.cons_cons _ (.cons _ .slnil)))
theorem rT(c:Value)(u f r)(h:lM u f=some r):Fn PP 299 [.one W68 u,tp c] [Res.cls bd c f] (λ_=> .tup []) (λ_=>[Res.cls bd c r]):=by
 unfold lM at h
 refine enter Tryz.func299 o 9 o o λF=>?_
 refine cK λV R hp=>?_
 subst hp
 refine bS (x:=f) ?_
 refine zu<|bI o o λW=>za<|zr<|zm 2 o<|yl 0 f0 ty3 o o o tr o<|zm 1 o<|cB h λC M h=>rc [1] (fc _ _ _ _ M) kr o o o λ_=>zn ?_
 cases h
 exact eN o (λ_=>aG [] .nil) ((.cons_cons _ (.cons _ .slnil)))
theorem rU(c:Value)(u f r)(h:lN u f=some r):Fn PP 303 [.one W68 u,tp c] [Res.cls bd c f] (λ_=> .tup []) (λ_=>[Res.cls bd c r]):=by
 unfold lN at h
 refine enter Tryz.func303 o 8 o o λF=>?_
 refine cK λV R hp=>?_
 subst hp
 refine bS (x:=f) ?_
 refine zu<|bI o o λW=>za<|zr<|zm 2 o<|yl 0 f0 ty2 o o o tr o<|cB h λC M h=>rc [1] (cN _ _ _ _ M) kr o o o λ_=>zn ?_
 cases h
 exact eN o (λ_=>aG [] .nil) ((.cons_cons _ (.cons _ .slnil)))
theorem rV(c:Value)(u f r)(h:oC u f=some r):Inv PP "escrow/record.write" [.one Y212 u,.one W70 c] [Res.cls bd c f] (fun _=> .tup []) (fun _=>[Res.cls bd c r]):=match u,h with
 | .inl z,h=>(dF (k:=261) kr (tW c z f r h))
 | .inr (.inl z),h=>(bK o (dF (k:=277) kr (rS c z f r h)))
 | .inr (.inr (.inl z)),h=>(bK o (bK o (dF (k:=283) kr (tX c z f r h))))
 | .inr (.inr (.inr (.inl z))),h=>(bK o (bK o (bK o (dF (k:=288) kr (qP c z f r h)))))
 | .inr (.inr (.inr (.inr (.inl z)))),h=>(bK o (bK o (bK o (bK o (dF (k:=299) kr (rT c z f r h))))))
 | .inr (.inr (.inr (.inr (.inr (.inl z))))),h=>(bK o (bK o (bK o (bK o (bK o (dF (k:=303) kr (rU c z f r h)))))))
 | .inr (.inr (.inr (.inr (.inr (.inr (_)))))),h=>by cases h
theorem wU(c r)(h:qB c=some r):bw PP 69 [.one Y54 c] (.tup [⟨.str,r.1⟩,⟨(.int .i64),r.2⟩]):=by
 unfold qB at h
 refine enter Tryz.func69 o 23 o o λF=>?_
 refine zu<|bI o o λG=>zm 2 o<|zz<|yl 0 .here fX o o o tr o<|cB h λf u h=>au (mN _ _ u) kr o o<|zA o<|zs<|zU 1 o<|y (vk (.next (.next (.next (.next (.next (.next .here)))))) o o yD (jF f)) o ?_
 refine za<|rI h o (λhc h=>zU 2 o<|zf<|zT<|by cases h;exact aC (rs:=[.tmp 2,.tmp 3]) o (.cons (.tmp o) (.cons (.tmp o) (.nil))) o (λ_ vs g=>aG vs g) (λ_ _ _=>List.nil_sublist _)) λhc h=>zy<|cB h λN M h=>rc [] (nc _ M) kr o o o λV=>zm 1 o<|zZ 2 o<|yl 1 f0 ty3 o o o tr o<|zm 1 o<|cB h λR W h=>rc [0] (gx _ _ _ _ W) kr o o o λ_=>zZ 2 o<|cB h λJ C h=>ri [0] (rV V f R _ C) o o o λ_=>?_
 refine zZ 1 o<|cB h λd H h=>rc [0] (hY _ _ _ H) kr o o o λ_=>zE o ?_
 cases h
 exact aC (rs:=[.tmp 2,.tmp 3]) o (.cons (.tmp o) (.cons (.tmp o) (.nil))) o (λ_ vs g=>aG vs g) (λ_ _ _=>List.nil_sublist _)
theorem ox(c:Value)(f u r)(h:iN f u=some r):Fn PP 70 [tp c,ts u] [Res.cls (l8 139 5) c f] (λ_=> .tup [⟨.int .i64,r.1⟩,⟨.raw .nilIface,r.2.1⟩]) (λ_=>[Res.cls (l8 139 5) c r.2.2]):=by
 unfold iN at h
 obtain⟨⟨hne,hc⟩,h⟩:=cu h;cases h
 refine enter Tryz.func70 o 19 o o λF=>Ft λb q sv hp hq ho=>?_
 subst hp
 repeat (first|refine zs ?_|refine zr ?_)
 refine p 2 [0,1] o<|za ?_
 repeat (first|refine zs ?_|refine zr ?_)
 refine p 1 [0,1,6] o<|rc [0] (GR Go.Proofs.Tryz.cc_used Go.Proofs.Tryz.cc_fresh hq) kr o o o λ_=>za ?_
 repeat (first|refine zs ?_|refine zr ?_)
 refine p 4 [0,1,8,11] o ?_
 refine y (aN 0 f1 o o o (ab (av aa)) tx3) o ?_
 refine p 1 [0,1,8,12,13] o ?_
 refine xF (B:=1) af 1 o o (wZ o) o el5 o o (by omega) o λV M=>?_
 refine p 2 [1,14,16] o ?_
 refine gE 0 f1 o o o o o o tx3 ?_
 refine za ?_
 repeat (first|refine zs ?_|refine zr ?_)
 refine p 4 [4,5] o<|zf<|GQ (.inr o) (M ho) (by intro hx;exact hne (List.append_eq_nil_iff.1 hx).2) ?_
 exact aC (rs:=[.tmp 4,.tmp 5]) o (.cons (.tmp o) (.cons (.tmp o) .nil)) o (λ_ vs g=>aG vs g) (λ_ _ _=>(.cons_cons _ .slnil))
theorem rW(c:Value)(f r)(h:oz f=some r):Fn PP 72 [tp c] [Res.cls (l8 139 5) c f] (λ_=>ti r) (λ_=>[Res.cls (l8 139 5) c f]):=by
 obtain rfl:=Option.some.inj h
 refine enter Tryz.func72 o 8 o o λF=>DX λb q sv hp hf=>?_
 subst hp
 repeat (first|refine zs ?_|refine zr ?_)
 refine p 1 [0] o<|za ?_
 repeat (first|refine zs ?_|refine zr ?_)
 refine p 3 [5] o ?_
 refine y (aN 0 f1 o o o (ab (av aa)) tx3) o ?_
 refine y (ct af 1 o o o) o ?_
 refine p 1 [2] o<|zf<|Gk hf ?_
 exact bm o (.tmp o) (.cons_cons _ .slnil)
theorem jH(c:Value)(f:List Int):Fn PP 74 [tp c] [Res.cls (pc 139 5) c f] (λ_=>ts f) (λ_=>[Res.cls (pc 139 5) c f]):=Gg Go.Proofs.Tryz.bstr Go.Proofs.Tryz.bstr0
theorem wi(G:Value)(f:Value)(c C N r)(h:pO c C N=some r):Fn PP 129 [tp G,ti C] [Res.cls (co f) G c,Res.disk PP dI f N] (λ_=> .tup [⟨Y195,r.1⟩,⟨.bool,r.2⟩]) (λ_=>[Res.cls (co f) G c,Res.disk PP dI f N]):=by
 unfold pO at h
 refine enter Tryz.func129 o 45 o o λF=>?_
 refine nn λR a3 hp=>?_
 subst hp
 refine cd (x:=c) (q:=f) ?_
 refine zu<|aB (t:=Y195) o qa o λW=>zA o<|zs<|zs<|pk [1,0,0] o<|fY λa4=>?_
 refine zr<|zm 3 o<|yl 0 f3 tx5 o o o tr o<|y (ct af 1 o o o) o ?_
 refine zA o<|rI h o (λhc h=>?_) λhc h=>?_
 ·refine zu<|y (bc o qa o o .nil) o ?_
  refine st 2 .here dB o o o o tr<|zE o<|zT<|cd (x:=c) (q:=f) ?_
  cases h
  exact aC (rs:=[.cell 4 195,.tmp 5]) o (.cons (.cell 1 .here o o o aa dB) (.cons (.tmp o) (.nil))) o (λ_ vs g=>aG vs g) (λ_ _ _=>(.cons_cons _ (.cons _ (.cons_cons _ .slnil))))
 refine zk<|zt<|zs ?_
 obtain⟨d,h⟩:=cu h
 refine cT 1 o (by omega) λu M H hv=>?_
 rw[hv]
 try clear hv
 refine gc (S:=bG [kp u M 195 Y195 c.2.2.2.1,aZ R 186 W43 (bT c f (.slice (some ⟨u,M,none⟩) (List.length c.2.2.2.1) H))]) kr ?_
 refine zH 3 [0,1,2] (ag (l7 1 o (by omega)) (ag (aq 0 o) ak)) kr o o λs=>bq 3 (.one W69 (.slice (some ⟨u,M,none⟩) (List.length c.2.2.2.1) H)) s o kr (cp (S:=λw=>bG [kp u M 195 Y195 c.2.2.2.1,aZ R 186 W43 (bT c f (.slice (some ⟨u,M,none⟩) (List.length c.2.2.2.1) H))] w) (bz 1 o) 0 f3 o o o o (ab (ab (ab (av aa)))) tx5) λs=>zH 3 [4,5,6] s kr o o λs=>bq 7 (.one W69 (.slice (some ⟨u,M,none⟩) (List.length c.2.2.2.1) H)) s o kr (cp (S:=λw=>bG [kp u M 195 Y195 c.2.2.2.1,aZ R 186 W43 (bT c f (.slice (some ⟨u,M,none⟩) (List.length c.2.2.2.1) H))] w) (bz 1 o) 0 f3 o o o o (ab (ab (ab (av aa)))) tx5) λs=>bq 8 (ti (List.length c.2.2.2.1:Int)) s o kr (ct (t:=Y195) af 1 o o o) λs=>zH 1 [9] s kr o o λs=>bq 10 (ptr u (M+(Int.toNat (wrap .i64 ((List.length c.2.2.2.1:Int) - 1)))*3)) s o kr (dn af o o d.1 d.2 o dB) λs=>bq 11 (.one Y195 (List.getD c.2.2.2.1 (Int.toNat (wrap .i64 ((List.length c.2.2.2.1:Int) - 1))) (0,0,0,()))) s o kr (uD (S:=λw=>bG [kp u M 195 Y195 c.2.2.2.1,aZ R 186 W43 (bT c f (.slice (some ⟨u,M,none⟩) (List.length c.2.2.2.1) H))] w) (bz 0 o) 1 (Int.toNat (wrap .i64 ((List.length c.2.2.2.1:Int) - 1))) .here o o o (by omega) pof aa dB) λs=>aF 12 kr o<|aB (t:=Y195) o qa o λV=>za<|bi (ag (l7 2 o (by omega)) (ag (aq 1 o) ak)) ?_
 refine ai [0,1,4,6,25] o<|aF 13 kr o<|st 0 .here dB o o o o tr<|za<|bi (ag (l7 2 o (by omega)) (ag (aq 1 o) ak)) ?_
 refine ai [0,1,4,6] o<|dU kr<|zt<|zs<|zs<|ef kr kr ?_
 refine ay af 1 [0,1,4,6,26] (E':=[(0,ptr R 0),(1,ti C),(4,ptr W 0),(6,ptr V 0),(26,ptr V 1)]) o ?_
 refine q_y (aN 0 f1 o o o (ab (av aa)) ty3) o ?_
 refine ay af 1 [0,1,4,6,28] (E':=[(0,ptr R 0),(1,ti C),(4,ptr W 0),(6,ptr V 0),(28,tb (decide (((List.getD c.2.2.2.1 (Int.toNat (wrap .i64 ((List.length c.2.2.2.1:Int) - 1))) (0,0,0,())).2.1)>0)))]) o ?_
 obtain⟨m,e,h⟩:=aj h;rw[e]
 refine ay af 1 [0,1,4,6,29] (E':=[(0,ptr R 0),(1,ti C),(4,ptr W 0),(6,ptr V 0),(29,tb m)]) o ?_
 refine bX h λZ a2 h=>?_
 refine xB 10 (λ(O:Bool)=>[(4,ptr W 0),(6,ptr V 0),(39,tb O)]) Z r ?_ ?_
 ·cases m
  ·replace h:=ifF h
   refine ay af 10 [4,6,39] (E':=[(4,ptr W 0),(6,ptr V 0),(39,tb false)]) o ?_
   refine gO ?_
   exact ve false [4,6,39] h o
  replace h:=ifT h
  refine ay af 1 [0,1,4,6,29,30] (E':=[(0,ptr R 0),(1,ti C),(4,ptr W 0),(6,ptr V 0),(29,tb true),(30,ptr V 1)]) o ?_
  refine dR dl o ?_
  refine q_y (aN 0 f1 o o o (ab (av aa)) ty3) o ?_
  refine ay af 2 [0,4,6,29,33] (E':=[(0,ptr R 0),(4,ptr W 0),(6,ptr V 0),(29,tb true),(33,ti (wrap .i64 (((List.getD c.2.2.2.1 (Int.toNat (wrap .i64 ((List.length c.2.2.2.1:Int) - 1))) (0,0,0,())).2.1)+C)))]) o ?_
  obtain⟨J,e,h⟩:=aj h;rw[e]
  refine ay af 3 [4,6,29,33,36] (E':=[(4,ptr W 0),(6,ptr V 0),(29,tb true),(33,ti J),(36,ptr R 2)]) o ?_
  refine dR dl o ?_
  refine q_y (aN 1 f2 o o o (ab (ab (av aa))) ty3) o ?_
  refine ay af 2 [4,6,39] (E':=[(4,ptr W 0),(6,ptr V 0),(39,tb (decide (J>c.2.2.1)))]) o ?_
  refine gO ?_
  exact ve (decide (J>c.2.2.1)) [4,6,39] h o
 intro O h
 rw[←a2]at h
 try dsimp only at h
 refine eK ?_
 refine zt<|rI h o (λhc h=>?_) λhc h=>?_
 ·refine zU 1 o<|yl 0 f0 ty3 o o o tr o<|q 1 [(4,ptr W 0),(42,ti (wrap .i64 (((List.getD c.2.2.2.1 (Int.toNat (wrap .i64 ((List.length c.2.2.2.1:Int) - 1))) (0,0,0,())).1)+1)))] [] o ?_
  obtain⟨a5,e,h⟩:=aj h;rw[e]
  refine y (bc o qa o o (.cons f0 o o aa .nil)) o ?_
  refine st 3 .here dB o o o o tr<|zE o<|zT<|pk [1,1,0,0,0] o<|cd (x:=c) (q:=f) ?_
  cases h
  exact aC (rs:=[.cell 4 195,.tmp 5]) o (.cons (.cell 2 .here o o o aa dB) (.cons (.tmp o) (.nil))) o (λ_ vs g=>aG vs g) (λ_ _ _=>(.cons_cons _ (.cons _ (.cons _ (.cons_cons _ .slnil)))))
 refine zy<|yl 0 .here dB o o o tr o<|st 3 .here dB o o o o tr<|zE o<|pk [1,1,0,0,0] o<|cd (x:=c) (q:=f) ?_
 cases h
 exact aC (rs:=[.cell 4 195,.tmp 5]) o (.cons (.cell 2 .here o o o aa dB) (.cons (.tmp o) (.nil))) o (λ_ vs g=>aG vs g) (λ_ _ _=>(.cons_cons _ (.cons _ (.cons _ (.cons_cons _ .slnil)))))
theorem wV(J:Value)(c:Value)(u R d m r)(h:qC u R d m=some r):FnT PP bN 131 [tp J,.one Y195 R,tb d] [Res.cls (co c) J u,Res.disk PP dI c m] (λ_=>ti r.1) (λ_=>[Res.cls (co c) J u,Res.disk PP dI c r.2]):=by
 unfold qC at h
 refine iM Tryz.func131 o 28 o o λF hT=>?_
 refine nn λW a3 hp=>?_
 subst hp
 refine cd (x:=u) (q:=c) ?_
 refine zu<|bI o o λC=>zA o<|zs<|zW o<|rI h o (λhc h=>?_) λhc h=>?_
 ·refine bD h (λG=>[(6,ti G.1)]) (λG=>[Res.cls (co c) (.pointer (some ⟨W,0,none⟩)) u,Res.disk PP dI c G.2,Res.var C 195 Y195 R]) (λk4 h=>?_) λG h=>?_
  ·refine pk [1,0,0] o<|fY λa4=>?_
   refine dA kr<|zF 3 [0,4,5] kr o o ?_
   refine bv (i:=1) (j:=6) kr o o ?_ ?_
   ·refine zA o<|ai [9,12,13] o<|zF 1 [2] kr o o ?_
    refine bv (i:=3) (j:=6) kr o o ?_ ?_
    ·refine yl 0 f0 ec o o o tr o<|zL [11,12,13] o<|ae 6 kr o<|yl 2 f0 ty3 o o o tr o<|zL [11,12,14] o<|ae 7 kr o<|cB h λH M h=>rcT hT [0] (aI _ _ _ _ _ _ M) kr o o o λ_=>zL [11,15] o<|ae 8 kr o<|cB h λf V h=>rc [3] (aP _ _ _ _ V) kr o o o λ_=>zL [16] o<|zF 1 [9] kr o o ?_
     refine aJ kr<|zt<|pk [1,1,0,0] o<|cd (x:=u) (q:=c) ?_
     exact ah (f.1,f.2) () h o o
    refine yl 2 f0 ty3 o o o tr o<|zL [10,12,14] o ?_
    refine bv (i:=3) (j:=7) kr o o ?_ ?_
    ·refine yl 0 f0 ec o o o tr o<|zL [11,12,14] o<|ae 7 kr o<|cB h λH M h=>rcT hT [0] (aI _ _ _ _ _ _ M) kr o o o λ_=>zL [11,15] o<|ae 8 kr o<|cB h λf V h=>rc [3] (aP _ _ _ _ V) kr o o o λ_=>zL [16] o<|zF 1 [9] kr o o<|aJ kr<|zt<|pk [1,1,0,0] o ?_
     refine cd (x:=u) (q:=c) ?_
     exact ah (f.1,f.2) () h o o
    refine cB h λH M h=>rcT hT [0] (aI _ _ _ _ _ _ M) kr o o o λ_=>zL [10,15] o<|ae 3 kr o<|yl 0 f0 ec o o o tr o<|zL [11,15] o<|ae 8 kr o<|cB h λf V h=>rc [3] (aP _ _ _ _ V) kr o o o λ_=>zL [16] o<|zF 1 [9] kr o o<|aJ kr<|zt<|pk [1,1,0,0] o ?_
    refine cd (x:=u) (q:=c) ?_
    exact ah (f.1,f.2) () h o o
   refine yl 2 f0 ty3 o o o tr o<|zL [8,12,14] o ?_
   refine bv (i:=1) (j:=7) kr o o ?_ ?_
   ·refine zA o<|ai [9,12,14] o<|zF 1 [2] kr o o ?_
    refine bv (i:=3) (j:=7) kr o o ?_ ?_
    ·refine yl 0 f0 ec o o o tr o<|zL [11,12,14] o<|ae 7 kr o<|cB h λH M h=>rcT hT [0] (aI _ _ _ _ _ _ M) kr o o o λ_=>zL [11,15] o<|ae 8 kr o<|cB h λf V h=>rc [3] (aP _ _ _ _ V) kr o o o λ_=>zL [16] o<|zF 1 [9] kr o o<|aJ kr<|zt<|pk [1,1,0,0] o ?_
     refine cd (x:=u) (q:=c) ?_
     exact ah (f.1,f.2) () h o o
    refine cB h λH M h=>rcT hT [0] (aI _ _ _ _ _ _ M) kr o o o λ_=>zL [10,15] o<|ae 3 kr o<|yl 0 f0 ec o o o tr o<|zL [11,15] o<|ae 8 kr o<|cB h λf V h=>rc [3] (aP _ _ _ _ V) kr o o o λ_=>zL [16] o<|zF 1 [9] kr o o<|aJ kr<|zt<|pk [1,1,0,0] o ?_
    refine cd (x:=u) (q:=c) ?_
    exact ah (f.1,f.2) () h o o
   refine cB h λH M h=>rcT hT [0] (aI _ _ _ _ _ _ M) kr o o o λ_=>zL [8,15] o<|ae 1 kr o<|zA o<|ai [9,15] o<|zF 1 [2] kr o o<|ae 3 kr o<|yl 0 f0 ec o o o tr o<|zL [11,15] o<|ae 8 kr o<|cB h λf V h=>rc [3] (aP _ _ _ _ V) kr o o o λ_=>zL [16] o ?_
   refine zF 1 [9] kr o o<|aJ kr<|zt<|pk [1,1,0,0] o<|cd (x:=u) (q:=c) ?_
   exact ah (f.1,f.2) () h o o
  refine zR<|zT ?_
  cases h
  exact bm o (.tmp o) (.cons_cons _ (.cons_cons _ (.cons _ .slnil)))
 refine zk<|zt<|zs<|pk [1,0,0] o<|fY λN=>?_
 refine gc (S:=bG [aZ W 186 W43 (bT u c N),aZ C 195 Y195 R]) kr ?_
 refine zH 3 [0,1,2] (ag (aq 0 o) (ag (aq 2 o) ak)) kr o o λs=>bq 3 (tp c) s o kr (cp (S:=λw=>bG [aZ W 186 W43 (bT u c N),aZ C 195 Y195 R] w) (bz 0 o) 0 f0 o o o o (av aa) ec) λs=>zH 2 [4,5] s kr o o λs=>bq 6 (ti R.1) s o kr (cp (S:=λw=>bG [aZ W 186 W43 (bT u c N),aZ C 195 Y195 R] w) (bz 1 o) 2 f0 o o o o (av aa) ty3) λs=>zH 1 [8] s kr o o λs=>bq 9 (ti R.2.1) s o kr (cp (S:=λw=>bG [aZ W 186 W43 (bT u c N),aZ C 195 Y195 R] w) (bz 1 o) 2 f1 o o o o (ab (av aa)) ty3) λs=>aF 7 kr o<|cB h λa5 O h=>rcT hT [0] (aI _ _ _ _ _ _ O) kr o o o λ_=>za<|bi (ag (aq 0 o) (ag (aq 2 o) ak)) ?_
 refine ai [20,24,26] o<|aF 10 kr o<|cB h λa6 Z h=>rc [3] (nH _ _ _ _ _ Z) kr o o o λ_=>za<|bi (ag (aq 1 o) (ag (aq 3 o) ak)) ?_
 refine ai [27] o<|zH 1 [11] (ag (aq 1 o) (ag (aq 3 o) ak)) kr o o λs=>dU kr<|zt<|zR<|pk [1,1,0,0] o<|cd (x:=u) (q:=c) ?_
 cases h
 exact bm o (.tmp o) (.cons_cons _ (.cons_cons _ (.cons _ .slnil)))
theorem mP(p0:Value)(u:Value)(c a1 a4 r)(h:oU c a1 a4=some r):FnT PP bN 73 [tp p0,ts a1] [Res.cls (co u) p0 c,Res.disk PP dI u a4] (λ_=>ti r.1) (λ_=>[Res.cls (co u) p0 r.2.1,Res.disk PP dI u r.2.2]):=by
 unfold oU at h
 refine iM Tryz.func73 o 133 o o λF hT=>?_
 refine nn λM b3 hp=>?_
 subst hp
 refine cd (x:=c) (q:=u) ?_
 refine zW o<|zs<|zs<|fY λb4=>?_
 refine zr<|zm 3 o<|yl 0 f5 ty4 o o o tr o<|za<|rI h o (λhc h=>?_) λhc h=>?_
 ·refine zU 1 o<|zf<|zT<|cd (x:=c) (q:=u) ?_
  cases h
  exact bm o (.tmp o) (.cons_cons _ (.cons_cons _ .slnil))
 refine zk<|zt<|zs<|zW o<|rI h o (λhc h=>?_) λhc h=>?_
 ·refine zU 1 o<|zf<|zT<|cd (x:=c) (q:=u) ?_
  cases h
  exact bm o (.tmp o) (.cons_cons _ (.cons_cons _ .slnil))
 refine zk<|zt<|zs<|zU 3 o<|yl 0 f4 ty2 o o o tr o<|zA o<|rI h o (λhc h=>?_) λhc h=>?_
 ·refine zU 1 o<|zf<|zT<|cd (x:=c) (q:=u) ?_
  cases h
  exact bm o (.tmp o) (.cons_cons _ (.cons_cons _ .slnil))
 refine zy<|zm 3 o<|yl 0 f4 ty2 o o o tr o<|zm 1 o<|cB h λJ a6 h=>au (sN _ _ _ a6) kr o o<|zA o<|zs<|zW o<|rI h o (λhc h=>?_) λhc h=>?_
 ·refine zU 2 o<|zf<|zT<|cd (x:=c) (q:=u) ?_
  cases h
  exact bm o (.tmp o) (.cons_cons _ (.cons_cons _ .slnil))
 refine zy<|zm 3 o<|cd (x:=c) (q:=u) ?_
 refine cB h λf a7 h=>rc [0,0] (wi _ _ _ _ _ _ a7) kr o o o λ_=>zm 3 o<|aB (t:=Y195) o qa o λV=>st 0 .here dB o o o o tr<|zA o<|zs<|zU 1 o<|yl 0 f0 ty3 o o o tr o<|zA o<|rI h o (λhc h=>zU 1 o<|zf<|zT<|by cases h;exact aT o (.tmp o) (λ_ _ g=>g) (λ_ _ _=>(.cons _ (.cons_cons _ (.cons_cons _ .slnil))))) λhc h=>?_
 refine zk<|zt<|zs<|zs<|pk [1,0,0] o<|fY λW=>?_
 refine gc (S:=bG [aZ M 186 W43 (bT c u W),aZ V 195 Y195 f.1]) kr ?_
 refine zH 3 [0,1,2] (ag (aq 0 o) (ag (aq 2 o) ak)) kr o o λs=>bq 3 (tp u) s o kr (cp (S:=λw=>bG [aZ M 186 W43 (bT c u W),aZ V 195 Y195 f.1] w) (bz 0 o) 0 f0 o o o o (av aa) ec) λs=>zH 2 [4,5] s kr o o λs=>bq 6 (ti f.1.1) s o kr (cp (S:=λw=>bG [aZ M 186 W43 (bT c u W),aZ V 195 Y195 f.1] w) (bz 1 o) 2 f0 o o o o (av aa) ty3) λs=>zH 1 [8] s kr o o λs=>bq 9 (ti f.1.2.1) s o kr (cp (S:=λw=>bG [aZ M 186 W43 (bT c u W),aZ V 195 Y195 f.1] w) (bz 1 o) 2 f1 o o o o (ab (av aa)) ty3) λs=>zH 1 [10] s kr o o λs=>aF 7 kr o<|cB h λr8 a8 h=>rcT hT [0] (aI _ _ _ _ _ _ a8) kr o o o λ_=>za<|bi (ag (aq 0 o) (ag (aq 2 o) ak)) ?_
 refine ai [0,5,7,8,48,52,54,55] o<|aF 11 kr o<|cB h λr9 a9 h=>rc [3] (me _ _ _ _ _ _ a9) kr o o o λ_=>za<|bi (ag (aq 1 o) (ag (aq 3 o) ak)) ?_
 refine ai [0,5,7,8,56] o<|zH 1 [12] (ag (aq 1 o) (ag (aq 3 o) ak)) kr o o λs=>dU kr<|zt<|zW o<|rI h o (λhc h=>?_) λhc h=>?_
 ·refine zU 5 o<|st 1 f5 ty4 o o o o tr<|zz<|zE o<|zT<|pk [1,1,0,0] o<|cd (x:=((),c.2.1,c.2.2.1,c.2.2.2.1,c.2.2.2.2.1,(r9.1==9),c.2.2.2.2.2.2)) (q:=u) ?_
  cases h
  exact bm o (.tmp o) (.cons_cons _ (.cons_cons _ (.cons _ .slnil)))
 refine zk<|zt<|zs<|bD h (λN=>[(0,ptr M 0),(5,ts J.1),(7,ptr V 0),(8,tb f.2),(10,ti N.1)]) (λN=>[Res.disk PP dI u N.2,Res.var M 186 W43 (bT c u W),Res.own W 195 Y195 c.2.2.2.1,Res.var V 195 Y195 f.1]) (λb5 h=>?_) λN h=>?_
 ·refine dA kr<|zF 3 [0,4,5] kr o o ?_
  refine bv (i:=1) (j:=6) kr o o ?_ ?_
  ·refine zA o<|ai [0,5,7,8,66,69,70] o<|zF 1 [2] kr o o ?_
   refine bv (i:=3) (j:=6) kr o o ?_ ?_
   ·refine yl 1 f0 ec o o o tr o<|zL [0,5,7,8,68,69,70] o<|ae 6 kr o<|yl 3 f0 ty3 o o o tr o<|zL [0,5,7,8,68,69,71] o<|ae 7 kr o<|cB h λm C h=>rcT hT [1] (aI _ _ _ _ _ _ C) kr o o o λ_=>zL [0,5,7,8,68,72] o<|ae 8 kr o<|cB h λR H h=>rc [1] (dO _ _ _ _ H) kr o o o λ_=>zL [0,5,7,8,73] o<|zF 1 [9] kr o o ?_
    exact aJ kr<|zt<|ah (R.1,R.2) () h o o
   refine yl 3 f0 ty3 o o o tr o<|zL [0,5,7,8,67,69,71] o ?_
   refine bv (i:=3) (j:=7) kr o o ?_ ?_
   ·exact yl 1 f0 ec o o o tr o<|zL [0,5,7,8,68,69,71] o<|ae 7 kr o<|cB h λm C h=>rcT hT [1] (aI _ _ _ _ _ _ C) kr o o o λ_=>zL [0,5,7,8,68,72] o<|ae 8 kr o<|cB h λR H h=>rc [1] (dO _ _ _ _ H) kr o o o λ_=>zL [0,5,7,8,73] o<|zF 1 [9] kr o o<|aJ kr<|zt<|ah (R.1,R.2) () h o o
   exact cB h λm C h=>rcT hT [1] (aI _ _ _ _ _ _ C) kr o o o λ_=>zL [0,5,7,8,67,72] o<|ae 3 kr o<|yl 0 f0 ec o o o tr o<|zL [0,5,7,8,68,72] o<|ae 8 kr o<|cB h λR H h=>rc [1] (dO _ _ _ _ H) kr o o o λ_=>zL [0,5,7,8,73] o<|zF 1 [9] kr o o<|aJ kr<|zt<|ah (R.1,R.2) () h o o
  refine yl 3 f0 ty3 o o o tr o<|zL [0,5,7,8,65,69,71] o ?_
  refine bv (i:=1) (j:=7) kr o o ?_ ?_
  ·refine zA o<|ai [0,5,7,8,66,69,71] o<|zF 1 [2] kr o o ?_
   refine bv (i:=3) (j:=7) kr o o ?_ ?_
   ·exact yl 1 f0 ec o o o tr o<|zL [0,5,7,8,68,69,71] o<|ae 7 kr o<|cB h λm C h=>rcT hT [1] (aI _ _ _ _ _ _ C) kr o o o λ_=>zL [0,5,7,8,68,72] o<|ae 8 kr o<|cB h λR H h=>rc [1] (dO _ _ _ _ H) kr o o o λ_=>zL [0,5,7,8,73] o<|zF 1 [9] kr o o<|aJ kr<|zt<|ah (R.1,R.2) () h o o
   exact cB h λm C h=>rcT hT [1] (aI _ _ _ _ _ _ C) kr o o o λ_=>zL [0,5,7,8,67,72] o<|ae 3 kr o<|yl 0 f0 ec o o o tr o<|zL [0,5,7,8,68,72] o<|ae 8 kr o<|cB h λR H h=>rc [1] (dO _ _ _ _ H) kr o o o λ_=>zL [0,5,7,8,73] o<|zF 1 [9] kr o o<|aJ kr<|zt<|ah (R.1,R.2) () h o o
  refine cB h λm C h=>rcT hT [1] (aI _ _ _ _ _ _ C) kr o o o λ_=>zL [0,5,7,8,65,72] o<|ae 1 kr o<|zA o<|ai [0,5,7,8,66,72] o<|zF 1 [2] kr o o<|ae 3 kr o<|yl 0 f0 ec o o o tr o<|zL [0,5,7,8,68,72] o<|ae 8 kr o<|cB h λR H h=>rc [1] (dO _ _ _ _ H) kr o o o λ_=>zL [0,5,7,8,73] o ?_
  exact zF 1 [9] kr o o<|aJ kr<|zt<|ah (R.1,R.2) () h o o
 refine zW o<|rI h o (λhc h=>?_) λhc h=>?_
 ·refine zu<|q 4 [(0,ptr M 0),(7,ptr V 0),(8,tb f.2),(10,ti N.1),(76,ptr M 0),(79,tb (N.1 !=40))] [] o<|pk [1,1,0,0] o<|cd (x:=c) (q:=u) ?_
  obtain⟨b0,e,h⟩:=aj h;rw[e]
  refine bL h 6 (λO=>[(10,ti N.1),(76,ptr M 0),(85,tb O.1)]) (λO=>[Res.cls (co u) (.pointer (some ⟨M,0,none⟩)) c,Res.disk PP dI u O.2,Res.var V 195 Y195 f.1]) (λb7 h=>?_) λO h=>?_
  ·cases b0
   ·replace h:=ifF h
    refine zm 1 o<|al dl o ?_
    refine yl 2 .here dB o o o tr o<|zm 1 o<|al dl o ?_
    exact cB h λa5 b1 h=>rcT hT [0,0] (wV _ _ _ _ _ _ _ b1) kr o o o λ_=>zN o<|zt<|ah ((a5.1 !=0),a5.2) () h o o
   replace h:=ifT h
   exact zN o<|zt<|ah (true,N.2) () h o o
  refine fY λb8=>?_
  refine zm 2 o<|st 0 f5 ty4 o o o o tr<|zz<|zE o<|zT<|cd (x:=((),c.2.1,c.2.2.1,c.2.2.2.1,c.2.2.2.2.1,O.1,c.2.2.2.2.2.2)) (q:=u) ?_
  cases h
  exact bm o (.tmp o) (.cons_cons _ (.cons_cons _ (.cons _ .slnil)))
 refine zy<|zm 3 o<|yl 1 f4 ty2 o o o tr o<|zm 3 o<|st 1 f4 ty2 o o o o tr<|zZ 1 o<|yl 3 f1 ty3 o o o tr o<|zm 4 o<|st 3 f1 ty3 o o o o tr<|nL o<|zZ 3 o<|yl 1 f4 ty2 o o o tr o<|q 1 [(0,ptr M 0),(7,ptr V 0),(8,tb f.2),(105,ti (wrap .i64 (c.2.2.2.2.1+1))),(106,ptr V 2)] [] o<|st 3 f2 ty2 o o o o tr ?_
 refine za<|jK h (γ:=Value) (λd g20=>[(0,ptr M 0),(7,ptr V 0)]) (λd g20=>[Res.disk PP dI u N.2,Res.var M 186 W43 (xn c u g20 (wrap .i64 (c.2.2.2.2.1+1))),Res.own g20 195 Y195 d,Res.var V 195 Y195 (f.1.1,(wrap .i64 (f.1.2.1+(List.length J.1:Int))),(wrap .i64 (c.2.2.2.2.1+1)),f.1.2.2.2)]) (λb9 h=>?_) λd g20 h=>?_
 ·refine zW o<|rI h o (λhc h=>?_) λhc h=>?_
  ·refine dA kr<|zF 3 [0,1,5] kr o o<|pB (fuel:=2) [2,3,4,6,7,8,9,10,11,12] #[true,true,true,true,true,true,true,true,true,true,true,true,true,false,false] kr ?_
   refine ay af 2 [0,7,109,112,114] (E':=[(0,ptr M 0),(7,ptr V 0),(109,ptr M 0),(112,ptr M 3),(114,ptr M 0)]) o ?_
   refine q_y (aN 1 f3 o o o (ab (ab (ab (av aa)))) tx5) o ?_
   refine ay af 2 [0,7,109,113,116] (E':=[(0,ptr M 0),(7,ptr V 0),(109,ptr M 0),(113,.one W69 W),(116,ptr M 3)]) o ?_
   refine q_y (aN 1 f3 o o o (ab (ab (ab (av aa)))) tx5) o ?_
   refine q_y (ct af 2 o o o) o ?_
   refine ay af 1 [0,7,109,113,119] (E':=[(0,ptr M 0),(7,ptr V 0),(109,ptr M 0),(113,.one W69 W),(119,ti (wrap .i64 ((List.length c.2.2.2.1:Int) - 1)))]) o ?_
   obtain⟨a2,h⟩:=cu h
   refine q_y (kF af (i:=(0:Int)) (j:=(wrap .i64 ((List.length c.2.2.2.1:Int) - 1))) o (fk 2 o) o o a2.1 a2.2.1 a2.2.2 o dB) o ?_
   refine ay af 1 [0,7,120,121] (E':=[(0,ptr M 0),(7,ptr V 0),(120,.one W69 (iL (T.size Y195) W (Int.toNat (0:Int)) (Int.toNat (wrap .i64 ((List.length c.2.2.2.1:Int) - 1))))),(121,ptr M 0)]) o ?_
   refine eK ?_
   refine ai [0,7,120,121] o<|zF 1 [13] kr o o<|ae 14 kr o<|te (j:=(Int.toNat (wrap .i64 ((List.length c.2.2.2.1:Int) - 1)))) 2 o (by have:=a2.2.2;omega) ?_
   exact st 1 f3 tx5 o o o o tr<|nL o<|zL [0,7] o<|aJ kr<|zt<|ah (List.take (Int.toNat (wrap .i64 ((List.length c.2.2.2.1:Int) - 1))) c.2.2.2.1) (iL (T.size Y195) W 0 (Int.toNat (wrap .i64 ((List.length c.2.2.2.1:Int) - 1)))) h o o
  exact zk<|zt<|ah c.2.2.2.1 W h o o
 refine jK h (γ:=Value) (λa3 g23=>[]) (λa3 g23=>[Res.disk PP dI u N.2,Res.var M 186 W43 (xn c u g23 (wrap .i64 (c.2.2.2.2.1+1))),Res.own g23 195 Y195 a3,Res.var V 195 Y195 (f.1.1,(wrap .i64 (f.1.2.1+(List.length J.1:Int))),(wrap .i64 (c.2.2.2.2.1+1)),f.1.2.2.2)]) (λc0 h=>?_) λa3 g23 h=>?_
 ·refine dA kr<|zF 2 [0,1] kr o o ?_
  refine bv (i:=2) (j:=5) kr o o ?_ ?_
  ·refine zA o<|ai [7,123,125] o<|zF 1 [3] kr o o ?_
   refine bv (i:=4) (j:=5) kr o o ?_ ?_
   ·refine yl 1 f3 tx5 o o o tr o<|zL [7,123,127] o<|ae 5 kr o<|yl 3 .here dB o o o tr o<|zL [123,127,128] o<|ae 6 kr o<|bC (B:=24) af o gT o o o (.cons o .nil) o λZ=>?_
    refine zL [123,127,129] o<|ae 7 kr o<|iE h λhc h=>aW (B:=24) af 3 o o (bM 0 o o) o gT o o hc o λG=>?_
    exact pk [1,1,1,1] o<|zL [123,130] o<|ae 8 kr o<|zA o<|ai [130,131] o<|zF 1 [9] kr o o<|ae 10 kr o<|st 1 f3 tx5 o o o o tr<|nL o<|zL [] o<|aJ kr<|zt<|ah (d++[(f.1.1,(wrap .i64 (f.1.2.1+(List.length J.1:Int))),(wrap .i64 (c.2.2.2.2.1+1)),f.1.2.2.2)]) G h o o
   refine yl 3 .here dB o o o tr o<|zL [123,126,128] o ?_
   refine bv (i:=4) (j:=6) kr o o ?_ ?_
   ·refine yl 1 f3 tx5 o o o tr o<|zL [123,127,128] o<|ae 6 kr o<|bC (B:=24) af o gT o o o (.cons o .nil) o λZ=>?_
    refine zL [123,127,129] o<|ae 7 kr o<|iE h λhc h=>aW (B:=24) af 3 o o (bM 0 o o) o gT o o hc o λG=>?_
    exact pk [1,1,1,1] o<|zL [123,130] o<|ae 8 kr o<|zA o<|ai [130,131] o<|zF 1 [9] kr o o<|ae 10 kr o<|st 1 f3 tx5 o o o o tr<|nL o<|zL [] o<|aJ kr<|zt<|ah (d++[(f.1.1,(wrap .i64 (f.1.2.1+(List.length J.1:Int))),(wrap .i64 (c.2.2.2.2.1+1)),f.1.2.2.2)]) G h o o
   refine bC (B:=24) af o gT o o o (.cons o .nil) o λZ=>?_
   refine zL [123,126,129] o<|ae 4 kr o<|yl 2 f3 tx5 o o o tr o<|zL [123,127,129] o<|ae 7 kr o<|iE h λhc h=>aW (B:=24) af 3 o o (bM 0 o o) o gT o o hc o λG=>?_
   exact pk [1,1,1,1] o<|zL [123,130] o<|ae 8 kr o<|zA o<|ai [130,131] o<|zF 1 [9] kr o o<|ae 10 kr o<|st 1 f3 tx5 o o o o tr<|nL o<|zL [] o<|aJ kr<|zt<|ah (d++[(f.1.1,(wrap .i64 (f.1.2.1+(List.length J.1:Int))),(wrap .i64 (c.2.2.2.2.1+1)),f.1.2.2.2)]) G h o o
  refine yl 3 .here dB o o o tr o<|zL [123,124,128] o ?_
  refine bv (i:=2) (j:=6) kr o o ?_ ?_
  ·refine zA o<|ai [123,125,128] o<|zF 1 [3] kr o o ?_
   refine bv (i:=4) (j:=6) kr o o ?_ ?_
   ·refine yl 1 f3 tx5 o o o tr o<|zL [123,127,128] o<|ae 6 kr o<|bC (B:=24) af o gT o o o (.cons o .nil) o λZ=>?_
    refine zL [123,127,129] o<|ae 7 kr o<|iE h λhc h=>aW (B:=24) af 3 o o (bM 0 o o) o gT o o hc o λG=>?_
    exact pk [1,1,1,1] o<|zL [123,130] o<|ae 8 kr o<|zA o<|ai [130,131] o<|zF 1 [9] kr o o<|ae 10 kr o<|st 1 f3 tx5 o o o o tr<|nL o<|zL [] o<|aJ kr<|zt<|ah (d++[(f.1.1,(wrap .i64 (f.1.2.1+(List.length J.1:Int))),(wrap .i64 (c.2.2.2.2.1+1)),f.1.2.2.2)]) G h o o
   refine bC (B:=24) af o gT o o o (.cons o .nil) o λZ=>?_
   refine zL [123,126,129] o<|ae 4 kr o<|yl 2 f3 tx5 o o o tr o<|zL [123,127,129] o<|ae 7 kr o<|iE h λhc h=>aW (B:=24) af 3 o o (bM 0 o o) o gT o o hc o λG=>?_
   exact pk [1,1,1,1] o<|zL [123,130] o<|ae 8 kr o<|zA o<|ai [130,131] o<|zF 1 [9] kr o o<|ae 10 kr o<|st 1 f3 tx5 o o o o tr<|nL o<|zL [] o<|aJ kr<|zt<|ah (d++[(f.1.1,(wrap .i64 (f.1.2.1+(List.length J.1:Int))),(wrap .i64 (c.2.2.2.2.1+1)),f.1.2.2.2)]) G h o o
  refine bC (B:=24) af o gT o o o (.cons o .nil) o λZ=>?_
  refine zL [123,124,129] o<|ae 2 kr o<|zA o<|ai [123,125,129] o<|zF 1 [3] kr o o<|ae 4 kr o<|yl 2 f3 tx5 o o o tr o<|zL [123,127,129] o<|ae 7 kr o<|iE h λhc h=>aW (B:=24) af 3 o o (bM 0 o o) o gT o o hc o λG=>?_
  exact pk [1,1,1,1] o<|zL [123,130] o<|ae 8 kr o<|zA o<|ai [130,131] o<|zF 1 [9] kr o o<|ae 10 kr o<|st 1 f3 tx5 o o o o tr<|nL o<|zL [] o<|aJ kr<|zt<|ah (d++[(f.1.1,(wrap .i64 (f.1.2.1+(List.length J.1:Int))),(wrap .i64 (c.2.2.2.2.1+1)),f.1.2.2.2)]) G h o o
 refine zU 1 o<|zf<|pk [1,1,0,0] o<|cd (x:=(xn c () a3 (wrap .i64 (c.2.2.2.2.1+1)))) (q:=u) ?_
 cases h
 exact bm o (.tmp o) (.cons_cons _ (.cons_cons _ (.cons _ .slnil)))
theorem kC(w:Value)(f:Value)(c N m r)(h:jO c N m=some r):FnT PP bN 17 [tp w,.one (.sl 54 Y54) N] [Res.cls (bZ f) w c,Res.disk PP dI f m] (λ_=>ti r.1) (λ_=>[Res.cls (bZ f) w r.2.1,Res.disk PP dI f r.2.2]):=by
 unfold jO at h
 refine iM Tryz.func17 o 58 o o λF hT=>?_
 refine qe λW a9 b0 hp=>?_
 subst hp
 refine gL (x:=c) (q:=f) ?_
 refine zW o<|zs<|zW o<|rI h o (λhc h=>zU 1 o<|zf<|zT<|by cases h;exact aT o (.tmp o) (λ_ _ g=>g) (λ_ _ _=>(.cons_cons _ (.cons_cons _ .slnil)))) λhc h=>zy<|aB (t:=BT) o Hk o λR=>DQ (e:=5) ?_
 refine za<|zs<|pk [1,0,0] o<|pq λM J=>?_
 refine zr<|q 3 [(0,ptr W 0),(1,.one (.sl 54 Y54) N),(5,tp (.pointer (some ⟨R,0,none⟩))),(17,ptr W 3)] [] o<|yl 0 f3 bR o o o tr o<|aB (t:=Y30) o gU o λd=>st 0 .here bR o o o o tr<|za<|bD h (λV=>[(0,ptr W 0),(5,tp (.pointer (some ⟨R,0,none⟩))),(6,ptr d 0)]) (λV=>[Res.var d 30 Y30 V.1,Res.var W 136 W45 (f,M,J,c.2.2.2.1,c.2.2.2.2),Res.clsif (co f) M c.2.1.2 c.2.1.1,Res.clsif (fj f) J c.2.2.1.2 c.2.2.1.1,Res.cls (l8 139 5) (.pointer (some ⟨R,0,none⟩)) V.2,Res.disk PP dI f m]) (λa2 h=>?_) λV h=>?_
 ·refine zW o<|zb<|ai [0,5,6,19,20,21] o<|bl (γ:=Unit) (λ(C:Int×List Int×Z29) _=>[(0,ptr W 0),(5,tp (.pointer (some ⟨R,0,none⟩))),(6,ptr d 0),(19,.one (.sl 54 Y54) N),(20,ti (List.length N:Int)),(21,ti C.1)]) (λ(C:Int×List Int×Z29) _=>[Res.var d 30 Y30 C.2.2,Res.var W 136 W45 (f,M,J,c.2.2.2.1,c.2.2.2.2),Res.clsif (co f) M c.2.1.2 c.2.1.1,Res.clsif (fj f) J c.2.2.1.2 c.2.2.1.1,Res.cls (l8 139 5) (.pointer (some ⟨R,0,none⟩)) C.2.1,Res.disk PP dI f m]) (ky c N m a2) (0,[],c.2.2.2.1) () h o o ?_
  clear h
  intro Z C gg h
  cases Z with
  |zero=>cases h
  |succ Z=>
  simp only[ky]at h
  refine zW o<|zs<|rI h o (λhc h=>?_) λhc h=>?_
  ·refine zk<|zt<|zs<|zb<|zu<|iE h λhc h=>y (eo af o o hc.1 hc.2 o fX) o ?_
   refine y (de o fX) o ?_
   refine aB (t:=Y54) o kR o λb1=>st 0 .here fX o o o o tr<|zz<|yl 0 .here fX o o o tr o<|cB h λb2 a3 h=>au (wU _ _ a3) kr o o<|zA o<|zs<|zW o<|rI h o (λhc h=>?_) λhc h=>?_
   ·refine zU 1 o<|zf<|zT<|zB<|zT<|zT<|zB<|zT<|pk [2,2,2,0,0,0,0] o<|gL (x:=c) (q:=f) ?_
    cases h
    exact bm o (.tmp o) (.cons_cons _ (.cons _ (.cons _ (.cons _ (.cons_cons _ .slnil)))))
   refine zy<|zm 1 o<|cB h λa4 a5 h=>rc [5] (ox _ _ _ _ a5) kr o o o λ_=>zz<|yl 2 .here bR o o o tr o<|yl 1 .here fX o o o tr o<|cB h λa6 a7 h=>rcT hT [] (rj _ _ _ a7) kr o o o λ_=>zm 3 o<|st 2 .here bR o o o o tr<|zm 1 o<|zz<|zA o ?_
   refine rI h o (λhc h=>?_) λhc h=>?_
   ·refine zU 1 o<|zf<|zB<|zT<|zT<|zB<|zT<|pk [3,3,3,0,0,0,0] o<|gL (x:=c) (q:=f) ?_
    cases h
    exact bm o (.tmp o) (.cons_cons _ (.cons _ (.cons _ (.cons _ (.cons_cons _ .slnil)))))
   exact zk<|zi<|zt<|zr<|zA o<|pk [0,1,1,1,1,1] o<|pk [1,1,1,1,0,0] o<|aY ((wrap .i64 (C.1+1)),a4.2.2,a6.1) () (Nat.lt_succ_self _) h o o
  exact zx<|ze<|ze<|zq<|zt<|ah (C.2.2,C.2.1) () h o o
 refine zs<|zu<|cB h λb3 a8 h=>rc [4] (rW _ _ _ a8) kr o o o λ_=>zA o<|rI h o (λhc h=>?_) λhc h=>?_
 ·refine zU 1 o<|zf<|zT<|pk [2,2,2,0,0,0] o<|gL (x:=c) (q:=f) ?_
  cases h
  exact bm o (.tmp o) (.cons_cons _ (.cons _ (.cons _ (.cons_cons _ .slnil))))
 refine zk<|zt<|zs<|bD h (λH=>[(0,ptr W 0),(6,ptr d 0),(11,ti H.1)]) (λH=>[Res.clsif (co f) M H.2.1.2 H.2.1.1,Res.disk PP dI f H.2.2,Res.cls (pc 139 5) (.pointer (some ⟨R,0,none⟩)) V.2,Res.var d 30 Y30 V.1,Res.var W 136 W45 (f,M,J,c.2.2.2.1,c.2.2.2.2),Res.clsif (fj f) J c.2.2.1.2 c.2.2.1.1]) (λb4 h=>?_) λH h=>?_
 ·refine dA kr<|zF 1 [0] kr o o ?_
  refine bv (i:=1) (j:=4) kr o o ?_ ?_
  ·refine zA o<|ai [0,5,6,46] o<|zF 1 [2] kr o o ?_
   refine bv (i:=3) (j:=4) kr o o ?_ ?_
   ·refine yl 2 f1 dm o o o tr o<|zL [0,5,6,48] o<|ae 4 kr o<|az (R':=Res.cls (pc 139 5) (.pointer (some ⟨R,0,none⟩)) V.2) 0 o wa<|rc [0] (jH _ _) kr o o o λ_=>zL [0,6,48,49] o<|ae 5 kr o ?_
    obtain⟨G,h⟩:=cu h
    exact az (R':=Res.cls (co f) M c.2.1.2) 3 o (eO G)<|nL o<|cB h λu O h=>rcT hT [3,4] (mP _ _ _ _ _ _ O) kr o o o λ_=>zL [0,6,50] o<|zF 1 [6] kr o o<|aJ kr<|zt<|az (R':=Res.clsif (co f) M u.2.1 c.2.1.1) 0 o (du G)<|ah (u.1,(c.2.1.1,u.2.1),u.2.2) () h o o
   refine az (R':=Res.cls (pc 139 5) (.pointer (some ⟨R,0,none⟩)) V.2) 0 o wa<|rc [0] (jH _ _) kr o o o λ_=>zL [0,6,47,49] o<|ae 3 kr o<|yl 2 f1 dm o o o tr o<|zL [0,6,48,49] o<|ae 5 kr o ?_
   obtain⟨G,h⟩:=cu h
   exact az (R':=Res.cls (co f) M c.2.1.2) 3 o (eO G)<|nL o<|cB h λu O h=>rcT hT [3,4] (mP _ _ _ _ _ _ O) kr o o o λ_=>zL [0,6,50] o<|zF 1 [6] kr o o<|aJ kr<|zt<|az (R':=Res.clsif (co f) M u.2.1 c.2.1.1) 0 o (du G)<|ah (u.1,(c.2.1.1,u.2.1),u.2.2) () h o o
  refine az (R':=Res.cls (pc 139 5) (.pointer (some ⟨R,0,none⟩)) V.2) 0 o wa<|rc [0] (jH _ _) kr o o o λ_=>zL [0,6,45,49] o<|ae 1 kr o<|zA o<|ai [0,6,46,49] o<|zF 1 [2] kr o o<|ae 3 kr o<|yl 2 f1 dm o o o tr o<|zL [0,6,48,49] o<|ae 5 kr o ?_
  obtain⟨G,h⟩:=cu h
  exact az (R':=Res.cls (co f) M c.2.1.2) 3 o (eO G)<|nL o<|cB h λu O h=>rcT hT [3,4] (mP _ _ _ _ _ _ O) kr o o o λ_=>zL [0,6,50] o<|zF 1 [6] kr o o<|aJ kr<|zt<|az (R':=Res.clsif (co f) M u.2.1 c.2.1.1) 0 o (du G)<|ah (u.1,(c.2.1.1,u.2.1),u.2.2) () h o o
 refine zW o<|rI h o (λhc h=>?_) λhc h=>?_
 ·refine zU 2 o<|zf<|zT<|pk [4,0,3,0,0,0] o<|gL (x:=((),H.2.1,c.2.2.1,c.2.2.2.1,c.2.2.2.2)) (q:=f) ?_
  cases h
  exact bm o (.tmp o) (.cons_cons _ (.cons_cons _ (.cons _ (.cons _ .slnil))))
 refine zy<|zm 1 o<|yl 3 .here bR o o o tr o<|zm 2 o<|st 4 f3 bR o o o o tr<|zz<|zE o<|pk [4,0,3,0,0,0] o<|gL (x:=((),H.2.1,c.2.2.1,V.1,c.2.2.2.2)) (q:=f) ?_
 cases h
 exact bm o (.tmp o) (.cons_cons _ (.cons_cons _ (.cons _ (.cons _ .slnil))))
theorem wW(u:Value)(c:Value)(f M r)(h:qD f M=some r):Fn PP 78 [tp u] [Res.cls (co c) u f,Res.disk PP dI c M] (λ_=>ti r) (λ_=>[Res.cls (co c) u f,Res.disk PP dI c M]):=by
 unfold qD at h
 refine enter Tryz.func78 o 7 o o λF=>?_
 refine nn λV R hp=>?_
 subst hp
 refine cd (x:=f) (q:=c) ?_
 refine zW o<|zs<|fY λW=>?_
 refine zr<|zm 3 o<|yl 0 f4 ty2 o o o tr o<|zE o<|cd (x:=f) (q:=c) ?_
 cases h
 exact bm o (.tmp o) (.cons_cons _ (.cons_cons _ .slnil))
theorem ym(c:Value)(V f M r)(h:tI V f M=some r):Fn PP 79 [tp c,ts f,ts M] [Res.disk PP dI c V] (λ_=>ti r.1) (λ_=>[Res.disk PP dI c r.2]):=by
 unfold tI at h
 refine enter Tryz.func79 o 50 o o λF=>?_
 refine zW o<|zs<|zU 1 o<|cB h λO C h=>au (rf _ _ C) kr o o<|zA o<|rI h o (λhc h=>zU 1 o<|zf<|zT<|by cases h;exact aT o (.tmp o) (λ_ _ g=>g) (λ_ _ _=>(.cons_cons _ .slnil))) λhc h=>zk<|zt<|zs<|zW o<|rI h o (λhc h=>zU 1 o<|zf<|zT<|by cases h;exact aT o (.tmp o) (λ_ _ g=>g) (λ_ _ _=>(.cons_cons _ .slnil))) λhc h=>?_
 refine zy<|zm 1 o<|iE h λhc h=>y (ij o o hc) o ?_
 refine q 1 [(0,tp c),(1,ts f),(2,ts M),(7,ts (f++[46,116,109,112]))] [] o ?_
 obtain⟨R,e,h⟩:=aj h;rw[e]
 refine za<|zs<|zU 2 o<|cB h λu H h=>rc [0] (aP _ _ _ _ H) kr o o o λ_=>zm 1 o<|zz<|q 3 [(7,ts R),(8,ti u.1),(24,tb (u.1 !=0))] [0,1,2] o ?_
 obtain⟨W,e,h⟩:=aj h;rw[e]
 refine aH 3 [(0,tp c),(1,ts f),(2,ts M),(7,ts R),(8,ti u.1),(27,tb (W&&(u.1 !=5)))] [Res.disk PP dI c u.2] (?_) ?_
 ·clear h
  cases W
  ·exact zA o<|ap () o o
  exact zA o<|ap () o o
 refine za<|rI h o (λhc h=>zU 2 o<|zf<|zT<|by cases h;exact aT o (.tmp o) (λ_ _ g=>g) (λ_ _ _=>(.cons_cons _ .slnil))) λhc h=>zk<|zt<|zs<|zU 3 o<|cB h λw G h=>au (sM _ _ G) kr o o<|cB h λZ N h=>rc [0] (me _ _ _ _ _ _ N) kr o o o λ_=>zm 1 o<|zz<|zA o<|rI h o (λhc h=>zU 2 o<|zf<|zT<|by cases h;exact aT o (.tmp o) (λ_ _ g=>g) (λ_ _ _=>(.cons_cons _ .slnil))) λhc h=>?_
 refine zk<|zt<|zs<|zU 2 o<|cB h λr7 J h=>rc [0] (dO _ _ _ _ J) kr o o o λ_=>zm 1 o<|zz<|zA o<|rI h o (λhc h=>zU 2 o<|cB h λr8 d h=>rc [0] (aP _ _ _ _ d) kr o o o λ_=>zz<|zE o<|zT<|by cases h;exact aT o (.tmp o) (λ_ _ g=>g) (λ_ _ _=>(.cons_cons _ .slnil))) λhc h=>?_
 refine zy<|zm 3 o<|cB h λr9 m h=>rc [0] (oF _ _ _ _ _ m) kr o o o λ_=>zE o ?_
 cases h
 exact bm o (.tmp o) (.cons_cons _ .slnil)
end Sx
