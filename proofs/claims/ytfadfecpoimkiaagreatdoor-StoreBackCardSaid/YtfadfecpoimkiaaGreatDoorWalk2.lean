/-
  Own work, printed by a program of the same hand. Each function of the code answers what its plain twin reckons.
-/
import Derived.Test.YtfadfecpoimkiaaGreatDoorWalk1
namespace Sx
open Go Go.Proofs Go.IntKind
set_option maxRecDepth 10000
set_option maxHeartbeats 1000000
attribute [local irreducible] wpList
theorem tC(R:Value)(c:aO)(r:List (List Int))(h:nc c=some r):Fn PP 155 [.one (.raw NV) R] [Res.disk PP dI R c] (λv=> .one W51 v) (λv=>[Res.disk PP dI R c,Res.own v 9 .str r]):=by
 unfold nc at h
 refine enter Tryz.func155 o 25 o o λF=>?_
 refine gE λf u hp=>?_
 subst hp
 refine gc ?_
 refine dM ?_
 refine fU ai 1 [0] (E':=[(0,ptr f 0)]) o ?_
 refine gM ?_
 refine eW ?_
 refine gc ?_
 refine gc ?_
 refine dM ?_
 refine fU ai 3 [0,7] (E':=[(0,ptr f 0),(7,ptr f 5)]) o ?_
 refine y (aM 0 f5 o o o (ag (ag (ag (ag (ag (ay ab)))))) ty4) o ?_
 refine gM ?_
 refine eW ?_
 refine gO (b:=c.2.2.2.2.2.1) o (λhc=>?_) (λhc=>?_)
 ·rw[if_pos hc]at h
  refine gc ?_
  refine dM ?_
  refine fU ai 1 [2] (E':=[(2,.one W51 (.slice none 0 0))]) o ?_
  refine gM ?_
  refine eW ?_
  refine qL ?_
  refine wD ?_
  refine cv (P:=PP) (I:=dI) (D:=c) ?_
  refine cj (.slice none 0 0) o 9 .str ?_
  refine kL ?_
  obtain rfl:=Option.some.inj h
  exact aU o (.tmp o) (λ_ _ g=>bf g) (λ_ _ g=>by obtain⟨rfl,_⟩:=holds_raw.1 g;exact List.Sublist.refl _)
 ·rw[if_neg (ne_true_of_eq_false hc)]at h
  obtain⟨bV,h⟩:=cr h
  obtain rfl:=Option.some.inj h
  refine ql ?_
  refine eW ?_
  refine gc ?_
  refine dM ?_
  refine fU ai 1 [0,3] (E':=[(0,ptr f 0),(3,.one W51 (.slice none 0 0))]) o ?_
  refine gM ?_
  refine eW ?_
  repeat refine gc ?_
  refine dM ?_
  refine fU ai 3 [0,3,11] (E':=[(0,ptr f 0),(3,.one W51 (.slice none 0 0)),(11,ptr f 1)]) o ?_
  refine y (aM 0 f1 o o o (ag (ay ab)) l0) o ?_
  refine kL ?_
  refine w5 dK o Tryz.underlying121 o λV G=>?_
  refine gM ?_
  refine eW ?_
  refine sV ?_
  refine cj (.slice none 0 0) o 9 .str ?_
  refine aa [0,3,13] o ?_
  refine nW (p:=(([]:List (List Int))++c.2.1.map (·.1)).Perm (c.2.1.map (·.1))) (List.Perm.refl _) ?_
  refine CI (σ:=List (List Int)×Value×List (List Int)) (λs=>[(0,ptr f 0),(3,.one W51 s.2.1),(13,.one W52 V)]) (λs=>[Res.fact ((s.2.2++s.1).Perm (c.2.1.map (·.1))),Res.own s.2.1 9 .str s.2.2,Res.diter PP dI u V c.2.1 s.1 none none,Res.var f 123 DT (c.1,u,c.2.2.1,c.2.2.2.1,c.2.2.2.2.1,c.2.2.2.2.2.1,c.2.2.2.2.2.2,())]) (λs=>s.1.length) (c.2.1.map (·.1),.slice none 0 0,[]) o o ?_
  rintro⟨todo,M,xs⟩
  refine cX λhperm=>?_
  refine kL ?_
  refine gc ?_
  refine dM ?_
  refine vk dK o o (λht=>?_) (λA k B q htk hk=>?_)
  ·have W:xs.Perm (c.2.1.map (·.1)):=by have hp:=hperm;simp only at ht hp;rw[ht,List.append_nil]at hp;exact hp
   refine uI ?_
   refine fU ai 1 [0,3,15] (E':=[(0,ptr f 0),(3,.one W51 M),(15,.one .bool false)]) o ?_
   refine gM ?_
   refine eW ?_
   refine gc ?_
   refine gO (b:=false) o (λhc=>?_) (λhc=>?_)
   ·cases hc
   ·refine wB ?_
    refine ur ?_
    refine ur ?_
    refine A5 ?_
    refine eW ?_
    refine Au dK λhko hso=>?_
    refine kL ?_
    refine gc ?_
    refine dM ?_
    refine fU ai 1 [3,22] (E':=[(3,.one W51 M),(22,.one W51 M)]) o ?_
    refine gx (Lo:=[Res.dfiles PP dI u c.2.1,Res.var f 123 DT (c.1,u,c.2.2.1,c.2.2.2.1,c.2.2.2.2.1,c.2.2.2.2.2.1,c.2.2.2.2.2.2,())]) (Bv ED W hso (λx hx=>by obtain⟨p,hp,rfl⟩:=List.mem_map.1 (W.mem_iff.1 hx);exact(hko p hp).1) (by rw[W.length_eq,List.length_map];omega) M) (by kernel_rfl) (List.Perm.refl _) o o λ_=>?_
    refine gM ?_
    refine eW ?_
    refine gc ?_
    refine dM ?_
    refine fU ai 2 [2] (E':=[(2,.one W51 M)]) o ?_
    refine gM ?_
    refine eW ?_
    refine qL ?_
    refine mx (L':=[Res.var f 123 DT (c.1,u,c.2.2.1,c.2.2.2.1,c.2.2.2.2.1,c.2.2.2.2.2.1,c.2.2.2.2.2.2,()),Res.dfiles PP dI u c.2.1,Res.own M 9 .str (c.2.1.map (·.1))]) ((List.Perm.swap _ _ _).trans ((List.Perm.cons _ (List.Perm.swap _ _ _)).trans (List.Perm.swap _ _ _))) ?_
    refine cv (P:=PP) (I:=dI) (D:=c) ?_
    exact aU o (.tmp o) (λ_ _ g=>bf g) (λ_ _ g=>by obtain⟨rfl,_⟩:=holds_raw.1 g;exact List.Sublist.refl _)
  ·refine fU ai 1 [0,3,13,15] (E':=[(0,ptr f 0),(3,.one W51 M),(13,.one W52 V),(15,.one .bool true)]) o ?_
   refine gM ?_
   refine eW ?_
   refine gc ?_
   refine gO (b:=true) o (λhc=>?_) (λhc=>?_)
   ·refine ql ?_
    refine eW ?_
    refine sV ?_
    refine gc ?_
    refine dM ?_
    refine y (tZ o 0 o) o ?_
    refine fU ai 2 [0,3,4,13] (E':=[(0,ptr f 0),(3,.one W51 M),(4,.one .str k),(13,.one W52 V)]) o ?_
    refine gM ?_
    refine eW ?_
    refine dM ?_
    refine fU ai 2 [0,13,18,19] (E':=[(0,ptr f 0),(13,.one W52 V),(18,.one W51 M),(19,.one .str k)]) o ?_
    refine bE (B:=16) ai o el9 o o o (.cons o .nil) o λN=>?_
    have hroom:(List.length xs+List.length [k])*16≤140737488355328:=by
     have C:=hperm.length_eq
     simp only at htk C
     rw[htk]at C
     simp only[List.length_append,List.length_cons,List.length_nil,List.length_map]at C⊢
     omega
    refine bq (B:=16) ai 2 o o (bZ 0 o o) o el9 o o hroom o λH=>?_
    refine fU ai 1 [0,3,13] (E':=[(0,ptr f 0),(3,.one W51 H),(13,.one W52 V)]) o ?_
    refine gM ?_
    refine vB ?_
    refine eW ?_
    refine wH (L':=[Res.diter PP dI u V c.2.1 (A++B) (some (k,q)) none,Res.own H 9 .str (xs++[k]),Res.var f 123 DT (c.1,u,c.2.2.1,c.2.2.2.1,c.2.2.2.2.1,c.2.2.2.2.2.1,c.2.2.2.2.2.2,())]) (.cons _ (List.Sublist.refl _)) ?_
    refine az (R':=Res.diter PP dI u V c.2.1 (A++B) none none) 0 o qZ ?_
    refine kL ?_
    refine nW (p:=((xs++[k])++(A++B)).Perm (c.2.1.map (·.1))) (by
     have hp:=hperm
     simp only at htk hp
     rw[htk]at hp
     refine List.Perm.trans ?_ hp
     rw[List.append_assoc]
     exact List.Perm.append_left _ (List.perm_middle (a:=k) (l₁:=A) (l₂:=B)).symm) ?_
    exact CJ (A++B,H,xs++[k]) (by simp only at htk⊢;rw[htk];simp) o o
   ·cases hc
theorem iF(f c r)(h:eZ f c=some r):bn PP 192 [ts f,ts c] (tb r):=by
 unfold eZ at h
 refine enter Tryz.func192 o 18 o o λF=>?_
 refine zu<|q 1 [(0,ts f),(1,ts c)] [] o<|zz<|q 6 [(10,tb (decide ((List.length f:Int)≥(List.length c:Int))))] [0,1] o ?_
 obtain⟨M,e,h⟩:=ak h;rw[e]
 refine bL h 7 (λu=>[(17,tb u)]) (λ_=>[]) (λV h=>?_) λu h=>?_
 ·cases M
  ·replace h:=ifF h
   exact q 7 [(17,tb false)] [] o<|zn<|aa [17] o<|zt<|ah false () h o o
  replace h:=ifT h
  refine q 3 [(10,tb true),(11,ts f),(13,ti (List.length c:Int))] [1] o<|ap (by rfl) o ?_
  refine iE h λhc h=>y (iR (i:=(0:Int)) (j:=(List.length c:Int)) ai o o o hc.1 hc.2.1 hc.2.2 o) o ?_
  exact q 3 [(17,tb ((List.drop 0 (List.take (Int.toNat (List.length c:Int)) f))==c))] [] o<|zn<|aa [17] o<|zt<|ah ((List.drop 0 (List.take (Int.toNat (List.length c:Int)) f))==c) () h o o
 refine q 1 [(4,tb u)] [] o<|zf ?_
 cases h
 exact aB o (.tmp o)
theorem lP(c f r)(h:gj c f=some r):bn PP 181 [ts c,ts f] (.tup [⟨.str,r.1⟩,⟨.bool,r.2⟩]):=by
 unfold gj at h
 refine enter Tryz.func181 o 15 o o λF=>?_
 refine zu<|q 2 [(0,ts c),(1,ts f)] [] o<|za<|zs<|zu<|p 2 [0,1,6,7] o<|cB h λV u h=>av (iF _ _ _ u) (ca o) o o<|p 1 [0,1,9] o<|za<|rI h o (λhc h=>zu<|q 3 [(4,ts c),(5,tb false)] [] o<|zf<|zT<|by cases h;exact aF (rs:=[.tmp 4,.tmp 5]) o (.cons (.tmp o) (.cons (.tmp o) (.nil))) o (λ_ vs g=>aH vs g) (λ_ _ _=>List.nil_sublist _)) λhc h=>?_
 refine zy<|q 3 [(11,ts c),(13,ti (List.length f:Int))] [] o<|iE h λhc h=>y (iR (i:=(List.length f:Int)) (j:=(List.length c:Int)) ai o o o hc.1 hc.2.1 hc.2.2 o) o ?_
 refine q 1 [(4,ts (List.drop (Int.toNat (List.length f:Int)) (List.take (Int.toNat (List.length c:Int)) c)))] [] o ?_
 obtain⟨M,e,h⟩:=ak h;rw[e]
 refine q 1 [(4,ts M),(5,tb true)] [] o<|zf ?_
 cases h
 exact aF (rs:=[.tmp 4,.tmp 5]) o (.cons (.tmp o) (.cons (.tmp o) (.nil))) o (λ_ vs g=>aH vs g) (λ_ _ _=>List.nil_sublist _)
theorem rB(c f r)(h:lx c f=some r):bn PP 156 [ts c,ts f] (.tup [⟨.str,r.1⟩,⟨.bool,r.2⟩]):=by
 unfold lx at h
 refine enter Tryz.func156 o 11 o o λF=>?_
 refine zu<|q 2 [(0,ts c),(1,ts f)] [] o<|zz<|q 2 [(6,ts c),(7,ts f)] [] o<|cB h λu M h=>av (lP _ _ _ M) (ca o) o o<|q 4 [(4,ts u.1),(5,tb u.2)] [] o<|zf ?_
 cases h
 exact aF (rs:=[.tmp 4,.tmp 5]) o (.cons (.tmp o) (.cons (.tmp o) (.nil))) o (λ_ vs g=>aH vs g) (λ_ _ _=>List.nil_sublist _)
theorem wi(f r)(h:rl f=some r):bn PP 157 [ts f] (ti r):=by
 unfold rl at h
 refine enter Tryz.func157 o 48 o o λF=>?_
 refine zu<|q 1 [(0,ts f)] [] o<|za<|zs<|zu<|q 3 [(7,tb (f==[]))] [0] o ?_
 obtain⟨C,e,h⟩:=ak h;rw[e]
 refine bL h 9 (λR=>[(0,ts f),(16,tb R)]) (λ_=>[]) (λd h=>?_) λR h=>?_
 ·rcases Bool.eq_false_or_eq_true C with hh|hh
  ·rw[hh]at h⊢
   rw[if_pos o]at h
   exact p 9 [0,16] o<|zn<|aa [0,16] o<|zt<|ah true () h o o
  rw[hh]at h⊢
  rw[if_neg (by decide)]at h
  refine q 4 [(7,tb false),(11,tb (decide ((List.length f:Int)>1)))] [0] o ?_
  obtain⟨H,e,h⟩:=ak h;rw[e]
  refine bL h 4 (λV=>[(0,ts f),(7,tb false),(15,tb V)]) (λ_=>[]) (λm h=>?_) λV h=>?_
  ·cases H
   ·replace h:=ifF h
    exact p 4 [0,7,15] o<|zn<|aa [0,7,15] o<|zt<|ah false () h o o
   replace h:=ifT h
   refine p 1 [0,7,11,12] o<|ap (by rfl) o ?_
   refine iE h λhc h=>y (ge ai o o hc.1 hc.2 o) o ?_
   exact q 2 [(15,tb ((List.getD f 0 0)==48))] [0,7] o<|zn<|aa [0,7,15] o<|zt<|ah ((List.getD f 0 0)==48) () h o o
  exact q 1 [(0,ts f),(16,tb V)] [] o<|zn<|aa [0,16] o<|zt<|ah V () h o o
 refine za<|rI h o (λhc h=>zu<|q 1 [(2,ti (-1))] [] o<|zf<|zT<|by cases h;exact aB o (.tmp o)) λhc h=>zy<|q 1 [(0,ts f),(3,ti 0)] [] o<|za<|bv h (λu=>[(3,ti u)]) (λu=>[]) (λG h=>?_) λu h=>?_
 ·refine zu<|q 3 [(18,ti (List.length f:Int)),(19,ti 0)] [0,3] o<|za<|zb<|aa [0,3,18,19] o<|aY (γ:=Unit) (λ(c:Int×Int) _=>[(0,ts f),(3,ti c.1),(18,ti (List.length f:Int)),(19,ti c.2)]) (λ(c:Int×Int) _=>[]) (lU f G) (0,0) () h o o ?_
  clear h
  intro W c gg h
  cases W with
  |zero=>cases h
  |succ W=>
  simp only[lU]at h
  refine zu<|q 1 [(3,ti c.1),(19,ti c.2),(20,tb (decide (c.2<(List.length f:Int))))] [0,18] o<|za<|zs<|rI h o (λhc h=>?_) λhc h=>?_
  ·refine zk<|zt<|zs<|zb<|zu<|q 2 [(4,ti c.2)] [0,3,18,19] o<|za<|zs<|zu<|q 2 [(22,ts f),(23,ti c.2)] [0,3,4,18,19] o<|iE h λhc h=>y (ge ai o o hc.1 hc.2 o) o ?_
   refine q 2 [(26,tb (decide ((List.getD f (Int.toNat c.2) 0)<48)))] [0,3,4,18,19] o ?_
   obtain⟨N,e,h⟩:=ak h;rw[e]
   refine bL h 5 (λM=>[(0,ts f),(3,ti c.1),(4,ti c.2),(18,ti (List.length f:Int)),(19,ti c.2),(31,tb M)]) (λ_=>[]) (λO h=>?_) λM h=>?_
   ·cases N
    ·replace h:=ifF h
     refine q 2 [(26,tb false),(27,ts f),(28,ti c.2)] [0,3,4,18,19] o<|ap (by rfl) o ?_
     refine iE h λhc h=>y (ge ai o o hc.1 hc.2 o) o ?_
     exact q 2 [(31,tb (decide ((List.getD f (Int.toNat c.2) 0)>57)))] [0,3,4,18,19] o<|zn<|aa [0,3,4,18,19,31] o<|zt<|ah (decide ((List.getD f (Int.toNat c.2) 0)>57)) () h o o
    replace h:=ifT h
    exact p 5 [0,3,4,18,19,31] o<|zn<|aa [0,3,4,18,19,31] o<|zt<|ah true () h o o
   refine q 1 [(0,ts f),(3,ti c.1),(4,ti c.2),(18,ti (List.length f:Int)),(19,ti c.2),(32,tb M)] [] o<|aJ 3 [(0,ts f),(3,ti c.1),(4,ti c.2),(18,ti (List.length f:Int)),(19,ti c.2),(35,tb (M||(decide (c.1>9999999))))] [] (?_) ?_
   ·clear h
    cases M
    ·exact q 3 [(35,tb (decide (c.1>9999999)))] [0,3,4,18,19] o<|aa [0,3,4,18,19,35] o<|za<|ao () o o
    exact p 3 [0,3,4,18,19,35] o<|za<|ao () o o
   refine za<|rI h o (λhc h=>zu<|q 1 [(2,ti (-1))] [] o<|zf<|zT<|zB<|zT<|zT<|zB<|zT<|by cases h;exact aB o (.tmp o)) λhc h=>zk<|zt<|zr<|q 4 [(0,ts f),(18,ti (List.length f:Int)),(19,ti c.2),(37,ti (wrap .i64 (10*c.1))),(38,ts f),(39,ti c.2)] [] o<|iE h λhc h=>y (ge ai o o hc.1 hc.2 o) o ?_
   refine q 3 [(43,ti (wrap .i64 ((wrap .i64 (10*c.1))+(wrap .i64 (wrap .u8 ((List.getD f (Int.toNat c.2) 0) - 48))))))] [0,18,19] o ?_
   obtain⟨J,e,h⟩:=ak h;rw[e]
   exact p 1 [0,3,18,19] o<|zn<|zi<|zt<|zr<|q 2 [(19,ti (wrap .i64 (c.2+1)))] [0,3,18] o<|za<|aa [0,3,18,19] o<|aR (J,(wrap .i64 (c.2+1))) () (Nat.lt_succ_self _) h o o
  exact zx<|ze<|ze<|zq<|zt<|aa [3] o<|ah c.1 () h o o
 refine zs<|zu<|q 2 [(3,ti u),(46,tb (decide (u>9999999)))] [] o<|za<|rI h o (λhc h=>zu<|q 1 [(2,ti (-1))] [] o<|zf<|zT<|by cases h;exact aB o (.tmp o)) λhc h=>zy<|q 2 [(2,ti u)] [] o<|zf ?_
 cases h
 exact aB o (.tmp o)
theorem EE:oW PP 158 (Value.int .i64) (λx y=>decide (x≤y)):=Bu Tryz.laysSortI
theorem mW(R:Nat)(O V:Value)(c C r)(h:jn c C=some r):IterOk PP (TabM PP bF) 154 [adr R] [Res.var R 127 W52 O,Res.cls (cg V) O c,Res.disk PP dI V C] r:=by
 unfold jn at h
 refine IterOk.of λF w l K B Lo hT hR hK hperm hst=>?_
 refine Ar (F:=F) (args:=[.one W63 (.func (.yield l) #[] #[]),ptr R 0]) Tryz.func154 o 56 o o ?_ hst (.cons (holds_raw.2 ⟨rfl,o⟩) (.cons (holds_raw.2 ⟨rfl,o⟩) .nil))
 refine BG (Lc:=[Res.var R 127 W52 O,Res.cls (cg V) O c,Res.disk PP dI V C]) λF1 hle back=>?_
 replace hT:=TabM.mono hle hT
 refine pk [1,0,0] o<|mc λW a8 hp=>?_
 subst hp
 refine bS (x:=c) (q:=V) ?_
 refine pk [1,0,0] o<|zu<|q 1 [(0,.one W63 (.func (.yield l) #[] #[])),(1,ptr R 0),(3,.one W51 (.slice none 0 0))] [] o<|cj (.slice none 0 0) o 3 (.int .i64) ?_
 refine za<|jK h (γ:=Value) (λf g5=>[(0,.one W63 (.func (.yield l) #[] #[])),(3,.one W51 g5)]) (λf g5=>[Res.cls (cg V) (.pointer (some ⟨W,0,none⟩)) c,Res.disk PP dI V C,Res.own g5 3 (.int .i64) f,Res.var R 127 W52 (.pointer (some ⟨W,0,none⟩))]) (λk3 h=>?_) λf g5 h=>?_
 ·refine zs<|pk [2,0,0,0] o<|fo λH=>?_
  refine zr<|yl 3 .here cT o o o tr o<|p 2 [0,1,3,13] o<|yl 0 f0 dE o o o tr o<|cB h λu a3 h=>rc [4] (tC _ _ _ a3) (ca o) o o o λv8=>y (cn ai 1 o o o) o ?_
  refine q 1 [(15,.one W51 v8),(16,ti (List.length u:Int)),(17,ti 0)] [0,1,3] o<|za<|zb<|aa [0,1,3,15,16,17] o<|aY (γ:=Value×Value) (λ(M:Int×List (Int)) g17=>[(0,.one W63 (.func (.yield l) #[] #[])),(1,ptr R 0),(3,.one W51 g17.2),(15,.one W51 g17.1),(16,ti (List.length u:Int)),(17,ti M.1)]) (λ(M:Int×List (Int)) g17=>[Res.disk PP dI V C,Res.own g17.1 9 .str u,Res.var W 186 W25 (V,c.2.1,c.2.2.1,H,c.2.2.2.2.1,c.2.2.2.2.2.1,c.2.2.2.2.2.2),Res.own H 195 Y195 c.2.2.2.1,Res.own g17.2 3 (.int .i64) M.2,Res.var R 127 W52 (.pointer (some ⟨W,0,none⟩))]) (iq c k3 u) (0,[]) (v8,(.slice none 0 0)) h o o ?_
  clear h
  intro a2 M g17 h
  cases a2 with
  |zero=>cases h
  |succ a2=>
  simp only[iq]at h
  refine zu<|q 1 [(3,.one W51 g17.2),(15,.one W51 g17.1),(17,ti M.1),(18,tb (decide (M.1<(List.length u:Int))))] [0,1,16] o<|za<|zs<|rI h o (λhc h=>?_) λhc h=>?_
  ·refine zk<|zt<|jK h (γ:=Value×Value) (λ(Z:List (Int)) g23=>[(0,.one W63 (.func (.yield l) #[] #[])),(1,ptr R 0),(3,.one W51 g23.2),(15,.one W51 g23.1),(16,ti (List.length u:Int)),(17,ti M.1)]) (λ(Z:List (Int)) g23=>[Res.disk PP dI V C,Res.own g23.1 9 .str u,Res.var W 186 W25 (V,c.2.1,c.2.2.1,H,c.2.2.2.2.1,c.2.2.2.2.2.1,c.2.2.2.2.2.2),Res.own H 195 Y195 c.2.2.2.1,Res.own g23.2 3 (.int .i64) Z,Res.var R 127 W52 (.pointer (some ⟨W,0,none⟩))]) (λa9 h=>?_) λZ g23 h=>?_
   ·refine zb<|zu<|iE h λhc h=>cJ 1 o (by omega) λG N J hv=>?_
    rw[hv]
    try clear hv
    refine y (cU ai o o hc.1 (by first|exact hc.2|simpa using hc.2) o ty9) o ?_
    refine y (dN 1 (Int.toNat M.1) .here o o (by omega) (by first|rfl|(simp only[Pth.off,T.size];omega)) ab ty9) o ?_
    refine q 1 [(5,ts (List.getD u (Int.toNat M.1) [])),(15,.one W51 (.slice (some ⟨G,N,none⟩) (List.length u) J))] [0,1,3,16,17] o ?_
    obtain⟨f27,e,h⟩:=ak h;rw[e]
    refine zz<|p 1 [0,1,3,15,16,17,22] o<|yl 5 .here cT o o o tr o<|p 2 [0,1,3,15,16,17,22,25] o<|yl 2 f1 ty9 o o o tr o<|iE h λhc h=>y (iX o o hc) o ?_
    refine cB h λd a4 h=>av (rB _ _ _ a4) (ca o) o o<|q 5 [(6,ts d.1),(7,tb d.2)] [0,1,3,15,16,17] o<|zz<|q 1 [(31,ts d.1)] [0,1,3,7,15,16,17] o<|cB h λa0 a5 h=>av (wi _ _ a5) (ca o) o o<|p 1 [0,1,3,7,8,15,16,17] o<|zz<|q 2 [(34,tb d.2)] [0,1,3,8,15,16,17] o<|aJ 3 [(0,.one W63 (.func (.yield l) #[] #[])),(1,ptr R 0),(3,.one W51 g17.2),(8,ti a0),(15,.one W51 (.slice (some ⟨G,N,none⟩) (List.length u) J)),(16,ti (List.length u:Int)),(17,ti M.1),(37,tb (d.2&&(decide (a0≥0))))] [Res.disk PP dI V C,Res.own (.slice (some ⟨G,N,none⟩) (List.length u) J) 9 .str u,Res.var W 186 W25 (V,c.2.1,c.2.2.1,H,c.2.2.2.2.1,c.2.2.2.2.2.1,c.2.2.2.2.2.2),Res.own H 195 Y195 c.2.2.2.1,Res.own g17.2 3 (.int .i64) M.2,Res.var R 127 W52 (.pointer (some ⟨W,0,none⟩))] (?_) ?_
    ·clear h
     rcases Bool.eq_false_or_eq_true d.2 with hh|hh
     ·rw[hh]
      exact p 3 [0,1,3,8,15,16,17,37] o<|za<|ao () o o
     rw[hh]
     exact p 3 [0,1,3,8,15,16,17,37] o<|za<|ao () o o
    refine za<|rI h o (λhc h=>?_) λhc h=>?_
    ·refine zr<|q 2 [(0,.one W63 (.func (.yield l) #[] #[])),(1,ptr R 0),(15,.one W51 (.slice (some ⟨G,N,none⟩) (List.length u) J)),(16,ti (List.length u:Int)),(17,ti M.1),(38,.one W51 g17.2),(39,ti a0)] [] o<|bE (B:=8) ai o el3 o o o (.cons o .nil) o λb0=>?_
     refine iE h λhc h=>bq (B:=8) ai 5 o o (bZ 0 o o) o el3 o o hc o λa6=>?_
     exact pk [1,1,1,1,1,1] o<|p 1 [0,1,3,15,16,17] o<|zn<|zi<|zt<|aa [0,1,3,15,16,17] o<|ah (M.2++[a0]) ((.slice (some ⟨G,N,none⟩) (List.length u) J),a6) h o o
    exact zk<|zi<|zt<|aa [0,1,3,15,16,17] o<|ah M.2 ((.slice (some ⟨G,N,none⟩) (List.length u) J),g17.2) h o o
   exact zr<|q 2 [(0,.one W63 (.func (.yield l) #[] #[])),(1,ptr R 0),(3,.one W51 g23.2),(15,.one W51 g23.1),(16,ti (List.length u:Int)),(17,ti (wrap .i64 (M.1+1)))] [] o<|za<|aa [0,1,3,15,16,17] o<|aR ((wrap .i64 (M.1+1)),Z) (g23.1,g23.2) (Nat.lt_succ_self _) h o o
  refine zx<|ze<|ze<|zq<|zt<|pk [2,2,0,0,0,0] o<|bS (x:=c) (q:=V) ?_
  exact pk [0,0,1,1] o<|aa [0,3] o<|ah M.2 g17.2 h o o
 refine zu<|q 1 [(0,.one W63 (.func (.yield l) #[] #[])),(3,.one W51 g5),(43,.one W51 g5)] [] o ?_
 obtain⟨hsrt,h⟩:=cr h
 refine rc [2] (Bx EE hsrt _) (by kernel_rfl) o o o λ_=>zz<|p 1 [0,45] o<|y (cn ai 0 o o o) o ?_
 refine q 1 [(46,ti (List.length (dJ f):Int)),(47,ti 0)] [0,45] o<|za<|kK (i:=0) (k:=45) o o ?_
 refine pk [2,0,0] o<|aa [0,45,46,47] o ?_
 cases h
 refine zo back ?_
 refine zb ?_
 have bV:List.length (dJ f)<4611686018427387904:=by rw[(pI _).length_eq];exact hsrt
 refine C2 (σ:=Nat×List Res) (λm s=>m=List.length (dJ f) - s.1∧s.1≤List.length (dJ f)∧K (List.drop s.1 (dJ f)) s.2) (λs=>[(0,.one W63 (.func (.yield l) #[] #[])),(45,.one W58 (dJ f)),(46,ti (List.length (dJ f):Int)),(47,ti (s.1:Int))]) (λs=>s.2) (List.length (dJ f)) (0,[Res.var R 127 W52 (.pointer (some ⟨W,0,none⟩)),Res.cls (cg V) (.pointer (some ⟨W,0,none⟩)) c,Res.disk PP dI V C]++Lo) ⟨rfl,Nat.zero_le _,hK⟩ o o ?_
 rintro m ⟨i,LK⟩ ⟨hm,hi,hKi⟩
 dsimp only at hm hi hKi
 refine zu<|q 1 [(45,.one W58 (dJ f)),(47,ti (i:Int)),(48,tb (decide ((i:Int)<(List.length (dJ f):Int))))] [0,46] o<|za<|zs ?_
 refine gO (b:=decide ((i:Int)<(List.length (dJ f):Int))) o (λhc=>?_) (λhc=>?_)
 ·have hlt:i<List.length (dJ f):=by have:=of_decide_eq_true hc;omega
  obtain⟨x,rest,hdr,hgx,a7⟩:=we hlt
  refine ql ?_
  refine eW ?_
  refine gc ?_
  refine sV ?_
  refine gc ?_
  refine dM ?_
  refine y (ff ai o o (by omega) (by omega) o ty3) o ?_
  refine y (ga o ty3) o ?_
  refine fU ai 1 [0,45,46,47,10] (E':=[(0,.one W63 (.func (.yield l) #[] #[])),(45,.one W58 (dJ f)),(46,ti (List.length (dJ f):Int)),(47,ti (i:Int)),(10,ti (List.getD (dJ f) (Int.toNat (i:Int)) 0))]) o ?_
  refine gM ?_
  refine eW ?_
  refine gc ?_
  rw[show List.getD (dJ f) (Int.toNat (i:Int)) 0=x from hgx]
  refine AK (A:=K rest) (B:=B) o o o o o o o o (λhr=>hR x rest LK hr (hdr▸hKi)) (λL' hA=>?_) (λL' hB=>?_)
  ·refine eW ?_
   refine gO (b:=false) o (λhc=>?_) (λhc=>?_)
   ·cases hc
   ·refine ql ?_
    refine vB ?_
    refine eW ?_
    refine dM ?_
    refine fU ai 2 [0,45,46,47] (E':=[(0,.one W63 (.func (.yield l) #[] #[])),(45,.one W58 (dJ f)),(46,ti (List.length (dJ f):Int)),(47,ti (wrap .i64 ((i:Int)+1)))]) o ?_
    refine gM ?_
    refine eW ?_
    rw[Ay hlt bV]
    exact C3 (List.length (dJ f) - (i+1)) (i+1,L') (by omega) ⟨rfl,hlt,by rw[a7];exact hA⟩ o o
  ·refine eW ?_
   refine gO (b:=true) o (λhc=>?_) (λhc=>?_)
   ·refine qL ?_
    refine xZ ?_
    refine wD ?_
    refine wD ?_
    refine xZ ?_
    exact C4 o (.inr hB)
   ·cases hc
 ·have hge:List.length (dJ f)≤i:=by have:=of_decide_eq_false hc;omega
  refine wB ?_
  refine ur ?_
  refine ur ?_
  refine A5 ?_
  exact AL o (.inl (by rw[List.drop_eq_nil_of_le hge]at hKi;exact hKi))
theorem uX(c r)(h:strconv_Itoa c=some r):FnT PP bF 164 [ti c] [] (λ_=>ts r) (λ_=>[]):=Ax (.head _) Go.Proofs.Tryz.strconv_Itoa c r h
theorem aE(u:Nat)(M V:Value)(c f r)(h:fi c f=some r):FnT PP bF 116 [ptr u 0,ti f] [Res.var u 186 W25 (M,c.2.1,c.2.2.1,V,c.2.2.2.2.1,c.2.2.2.2.2.1,c.2.2.2.2.2.2)] (λ_=>ts r) (λ_=>[Res.var u 186 W25 (M,c.2.1,c.2.2.1,V,c.2.2.2.2.1,c.2.2.2.2.2.1,c.2.2.2.2.2.2)]):=by
 unfold fi at h
 refine gP Tryz.func116 o 13 o o λF hT=>?_
 refine zu<|q 1 [(0,ptr u 0),(1,ti f)] [] o<|za<|zs<|eE (by kernel_rfl) (by kernel_rfl) ?_
 refine aA ai 3 [1,7] (E':=[(1,ti f),(7,ptr u 1)]) o ?_
 refine q_y (aM 0 f1 o o o (ag (ay ab)) ty9) o ?_
 refine iE h λhc h=>q_y (iX o o hc) o ?_
 refine aA ai 1 [9,10] (E':=[(9,ts (c.2.1++[46])),(10,ti f)]) o ?_
 refine cB h λR W h=>Bz hT (by rfl) (uX f _ W) (by kernel_rfl) o o o ?_
 refine iE h λhc h=>q_y (iX o o hc) o ?_
 refine aA ai 1 [4] (E':=[(4,ts ((c.2.1++[46])++R))]) o ?_
 refine eX ?_
 refine zt<|zR ?_
 cases h
 exact bd o (.tmp o) (.cons_cons _ .slnil)
theorem jt(M:Value)(c f r)(h:kX c f=some r):Fn PP 120 [tp M,ts f] [Res.disk PP dI M c] (λ_=> .tup [⟨(.int .i64),r.1⟩,⟨(.int .i64),r.2⟩]) (λ_=>[Res.disk PP dI M c]):=by
 unfold kX at h
 refine enter Tryz.func120 o 22 o o λF=>?_
 refine gE λV u hp=>?_
 subst hp
 refine zu<|q 2 [(0,ptr V 0),(1,ts f)] [] o<|zz<|q 2 [(9,ptr V 0),(10,ts f)] [] o<|cB h λR H h=>gx (Lo:=[]) (fZ V u c f _ H) (by kernel_rfl) (List.Perm.refl _) o o λW=>?_
 refine q 5 [(6,tp (aC W 0)),(7,ti R)] [] o<|za<|zs<|zu<|p 2 [6,7,15] o<|za<|rI h o (λhc h=>zu<|q 3 [(4,ti 0),(5,ti R)] [] o<|zf<|zT<|az (R':=Res.dfiles PP dI u c.2.1) 1 o fp<|cv (P:=PP) (I:=dI) (D:=c)<|by cases h;exact aF (rs:=[.tmp 4,.tmp 5]) o (.cons (.tmp o) (.cons (.tmp o) (.nil))) o (λ_ vs g=>aH vs g) (λ_ _ _=>(.cons_cons _ .slnil))) λhc h=>zk<|zt<|zs<|iE h λhc h=>az (R':=Res.dat PP dI u c.2.1 f (aC W 0)) 1 o (mA hc)<|cB h λf5 C h=>pk [1,0] o ?_
 refine hY dK C λG N J d hq=>?_
 rw[hq]
 clear hq
 refine zr<|q 3 [(19,ptr G 0)] [] o<|yl 0 f0 tx1 o o o tr o<|y (cn ai 1 o o o) o ?_
 refine q 2 [(4,ti (List.length f5.1:Int)),(5,ti 0)] [] o<|zf<|iZ (P:=PP) (I:=dI) dK C ?_
 refine az (R':=Res.dfiles PP dI u c.2.1) 0 o cp<|nL o<|pk [1,0] o<|cv (P:=PP) (I:=dI) (D:=c) ?_
 cases h
 exact aF (rs:=[.tmp 4,.tmp 5]) o (.cons (.tmp o) (.cons (.tmp o) (.nil))) o (λ_ vs g=>aH vs g) (λ_ _ _=>(.cons_cons _ .slnil))
theorem ol(u f r)(h:mJ u f=some r):bn PP 173 [.one (.int .u64) u,ti f] (ts r):=by
 unfold mJ at h
 refine enter Tryz.func173 o 28 o o λF=>?_
 refine zu<|q 1 [(0,.one (.int .u64) u),(1,ti f)] [] o<|zz<|p 1 [0,1,7] o<|iE h λhc h=>z1 (B:=1) ai o el5 o zf5 o o o hc.1 hc.2 o λH=>?_
 refine p 1 [0,1,5] o<|za<|jK h (γ:=Value) (λM g4=>[(5,.one W51 g4)]) (λM g4=>[Res.own g4 5 (.int .u8) M]) (λG h=>?_) λM g4 h=>?_
 ·refine zu<|p 1 [0,1,5,9] o<|y (cn ai 0 o o o) o ?_
  refine q 1 [(10,ti (List.length (List.replicate (Int.toNat f) (0:Int)):Int)),(11,ti 0)] [0,1,5] o<|za<|zb<|aa [0,1,5,10,11] o<|aY (γ:=Value) (λ(c:Int×List (Int)) g9=>[(0,.one (.int .u64) u),(1,ti f),(5,.one W51 g9),(10,ti (List.length (List.replicate (Int.toNat f) (0:Int)):Int)),(11,ti c.1)]) (λ(c:Int×List (Int)) g9=>[Res.own g9 5 (.int .u8) c.2]) (lV u f G) (0,(List.replicate (Int.toNat f) (0:Int))) H h o o ?_
  clear h
  intro V c g9 h
  cases V with
  |zero=>cases h
  |succ V=>
  simp only[lV]at h
  refine zu<|q 1 [(5,.one W51 g9),(11,ti c.1),(12,tb (decide (c.1<(List.length (List.replicate (Int.toNat f) (0:Int)):Int))))] [0,1,10] o<|za<|zs<|rI h o (λhc h=>?_) λhc h=>?_
  ·refine zk<|zt<|zs<|zb<|zu<|q 2 [(6,ti c.1)] [0,1,5,10,11] o<|za<|zr<|q 8 [(14,.one W51 g9),(15,ti c.1),(16,.one (.int .u64) u),(21,ti (wrap .i64 (8*(wrap .i64 ((wrap .i64 (f - 1)) - c.1)))))] [0,1,5,10,11] o<|iE h λhc h=>y (ny o o hc) o ?_
   refine q 1 [(23,.one (.int .u8) (wrap .u8 (bQ .u64 u (wrap .i64 (8*(wrap .i64 ((wrap .i64 (f - 1)) - c.1)))))))] [0,1,5,10,11,14,15] o ?_
   obtain⟨N,e,h⟩:=ak h;rw[e]
   refine iE h λhc h=>cJ 0 o (by first|omega|(simp only[List.length_set]at hc⊢;omega)) λR W C hv=>?_
   rw[hv]
   try clear hv
   refine y (cU ai o o hc.1 (by first|exact hc.2|simpa using hc.2) o ty5) o ?_
   refine oS 0 (Int.toNat c.1) .here o o o (by first|omega|(simp only[List.length_set]at hc⊢;omega)) (by first|rfl|(simp only[Pth.off,T.size];omega)) ab ty5 ?_
   exact zn<|zi<|zt<|zr<|q 2 [(5,.one W51 (.slice (some ⟨R,W,none⟩) (List.length c.2) C)),(11,ti (wrap .i64 (c.1+1)))] [0,1,10] o<|za<|aa [0,1,5,10,11] o<|aR ((wrap .i64 (c.1+1)),(List.set c.2 (Int.toNat c.1) N)) (.slice (some ⟨R,W,none⟩) (List.length c.2) C) (Nat.lt_succ_self _) h o o
  exact zx<|ze<|ze<|zq<|zt<|aa [5] o<|ah c.2 g9 h o o
 refine zu<|q 1 [(26,.one W51 g4)] [] o<|y (uv ai 0 o o o o o) o ?_
 refine q 1 [(4,ts M)] [] o<|zf ?_
 cases h
 exact aB o (.tmp o)
theorem lF(c f r)(h:strings_Repeat c f=some r):bn PP 167 [.one .str c,.one (.int .i64) f] (.one .str r):=xI Go.Proofs.Tryz.strings_Repeat c f r h
theorem qC(f c r)(h:nI f c=some r):bn PP 128 [ti f,ts c] (.tup [⟨.str,r.1⟩,⟨(.int .i64),r.2⟩]):=by
 unfold nI at h
 refine enter Tryz.func128 o 40 o o λF=>?_
 refine zu<|q 2 [(0,ti f),(1,ts c)] [] o<|za<|zs<|zu<|p 2 [0,1,10] o<|za<|rI h o (λhc h=>zu<|q 2 [(4,ts []),(5,ti 1)] [] o<|zf<|zT<|by cases h;exact aF (rs:=[.tmp 4,.tmp 5]) o (.cons (.tmp o) (.cons (.tmp o) (.nil))) o (λ_ vs g=>aH vs g) (λ_ _ _=>List.nil_sublist _)) λhc h=>zk<|zt<|zs<|zu<|q 3 [(13,tb (decide ((List.length c:Int)>65536)))] [0,1] o<|za ?_
 refine rI h o (λhc h=>zu<|q 2 [(4,ts []),(5,ti 3)] [] o<|zf<|zT<|by cases h;exact aF (rs:=[.tmp 4,.tmp 5]) o (.cons (.tmp o) (.cons (.tmp o) (.nil))) o (λ_ vs g=>aH vs g) (λ_ _ _=>List.nil_sublist _)) λhc h=>zy<|q 3 [(16,.one (.int .u64) (wrap .u64 (List.length c:Int)))] [0,1] o<|cB h λJ V h=>av (ol _ _ _ V) (ca o) o o<|p 2 [1,17,19] o<|cB h λd R h=>av (ol _ _ _ R) (ca o) o o<|iE h λhc h=>y (iX o o hc) o ?_
 refine p 1 [1,6] o ?_
 obtain⟨u,e,h⟩:=ak h;rw[e]
 refine zz<|p 1 [1,6,22] o<|cB h λm W h=>av (rz _ _ W) (ca o) o o<|p 1 [1,6,23,24] o<|cB h λO C h=>av (sR _ _ _ C) (ca o) o o<|p 1 [1,6,7] o<|zz<|p 3 [1,26,28] o<|cB h λM H h=>av (ol _ _ _ H) (ca o) o o<|iE h λhc h=>y (iX o o hc) o ?_
 refine q 1 [(30,ts (u++M)),(31,ts c)] [] o<|iE h λhc h=>y (iX o o hc) o ?_
 refine q 1 [(8,ts ((u++M)++c))] [] o ?_
 obtain⟨f7,e,h⟩:=ak h;rw[e]
 refine zz<|q 5 [(33,ts f7),(37,ti (fD .i64 (wrap .i64 (0 - (List.length f7:Int))) 63))] [] o<|cB h λG N h=>av (lF _ _ _ N) (ca o) o o<|iE h λhc h=>y (iX o o hc) o ?_
 refine q 2 [(4,ts (f7++G)),(5,ti 0)] [] o<|zf ?_
 cases h
 exact aF (rs:=[.tmp 4,.tmp 5]) o (.cons (.tmp o) (.cons (.tmp o) (.nil))) o (λ_ vs g=>aH vs g) (λ_ _ _=>List.nil_sublist _)
theorem rC(c f r)(h:ly c f=some r):bn PP 187 [ts c,ts f] (tb r):=by
 unfold ly at h
 refine enter Tryz.func187 o 8 o o λF=>?_
 refine zu<|q 1 [(0,ts c),(1,ts f)] [] o<|zz<|q 2 [(5,ts c),(6,ts f)] [] o<|cB h λu M h=>av (iF _ _ _ M) (ca o) o o<|q 1 [(4,tb u)] [] o<|zf ?_
 cases h
 exact aB o (.tmp o)
theorem rQ(c f V r)(h:oA c f V=some r):bn PP 184 [ts c,ti f,ti V] (.tup [⟨.str,r.1⟩,⟨(.int .i64),r.2.1⟩,⟨(.int .i64),r.2.2⟩]):=by
 unfold oA at h
 refine enter Tryz.func184 o 77 o o λF=>?_
 refine zu<|q 3 [(0,ts c),(1,ti f),(2,ti V)] [] o<|za<|zs<|zu<|q 4 [(17,tb (f==(List.length c:Int)))] [0,1,2] o<|za<|rI h o (λhc h=>zu<|q 3 [(6,ts []),(7,ti 0),(8,ti 0)] [] o<|zf<|zT<|by cases h;exact aF (rs:=[.tmp 6,.tmp 7,.tmp 8]) o (.cons (.tmp o) (.cons (.tmp o) (.cons (.tmp o) (.nil)))) o (λ_ vs g=>aH vs g) (λ_ _ _=>List.nil_sublist _)) λhc h=>zk<|zt<|zs<|zu<|p 3 [0,1,2,20] o ?_
 obtain⟨C,e,h⟩:=ak h;rw[e]
 refine aJ 5 [(0,ts c),(1,ti f),(2,ti V),(25,tb (C||(decide (f>(List.length c:Int)))))] [] (?_) ?_
 ·clear h
  cases C
  ·exact q 5 [(25,tb (decide (f>(List.length c:Int))))] [0,1,2] o<|aa [0,1,2,25] o<|za<|ao () o o
  exact p 5 [0,1,2,25] o<|za<|ao () o o
 refine q 1 [(0,ts c),(1,ti f),(2,ti V),(26,tb (C||(decide (f>(List.length c:Int)))))] [] o ?_
 obtain⟨H,e,h⟩:=ak h;rw[e]
 refine aJ 6 [(0,ts c),(1,ti f),(2,ti V),(32,tb (H||(decide ((wrap .i64 ((List.length c:Int) - f))<16))))] [] (?_) ?_
 ·clear h
  cases H
  ·exact q 6 [(32,tb (decide ((wrap .i64 ((List.length c:Int) - f))<16)))] [0,1,2] o<|aa [0,1,2,32] o<|za<|ao () o o
  exact p 6 [0,1,2,32] o<|za<|ao () o o
 refine za<|rI h o (λhc h=>zu<|q 3 [(6,ts []),(7,ti 0),(8,ti 2)] [] o<|zf<|zT<|by cases h;exact aF (rs:=[.tmp 6,.tmp 7,.tmp 8]) o (.cons (.tmp o) (.cons (.tmp o) (.cons (.tmp o) (.nil)))) o (λ_ vs g=>aH vs g) (λ_ _ _=>List.nil_sublist _)) λhc h=>zy<|q 2 [(2,ti V),(33,ts c),(34,ti f)] [] o<|iE h λhc h=>y (iR (i:=f) (j:=(List.length c:Int)) ai o o o hc.1 hc.2.1 hc.2.2 o) o ?_
 refine q 1 [(0,ts (List.drop (Int.toNat f) (List.take (Int.toNat (List.length c:Int)) c)))] [2] o ?_
 obtain⟨M,e,h⟩:=ak h;rw[e]
 refine zz<|p 1 [0,2,9] o<|za<|bv h (λR=>[(0,ts M),(2,ti V),(9,ti R)]) (λR=>[]) (λO h=>?_) λR h=>?_
 ·refine zu<|p 1 [0,2,9,36] o<|za<|zb<|aa [0,2,9,36] o<|aY (γ:=Unit) (λ(u:Int×Int) _=>[(0,ts M),(2,ti V),(9,ti u.1),(36,ti u.2)]) (λ(u:Int×Int) _=>[]) (lW M O) (0,0) () h o o ?_
  clear h
  intro G u gg h
  cases G with
  |zero=>cases h
  |succ G=>
  simp only[lW]at h
  refine zu<|q 1 [(9,ti u.1),(36,ti u.2),(37,tb (decide (u.2<4)))] [0,2] o<|za<|zs<|rI h o (λhc h=>?_) λhc h=>?_
  ·refine zk<|zt<|zs<|zb<|zu<|q 2 [(10,ti u.2)] [0,2,9,36] o<|za<|zr<|q 4 [(40,ti (fC .i64 u.1 8)),(41,ts M),(42,ti u.2)] [0,2,36] o<|iE h λhc h=>y (ge ai o o hc.1 hc.2 o) o ?_
   refine q 3 [(9,ti (ior .i64 (fC .i64 u.1 8) (wrap .i64 (List.getD M (Int.toNat u.2) 0))))] [0,2,36] o ?_
   obtain⟨N,e,h⟩:=ak h;rw[e]
   exact zn<|zi<|zt<|zr<|q 2 [(9,ti N),(36,ti (wrap .i64 (u.2+1)))] [0,2] o<|za<|aa [0,2,9,36] o<|aR (N,(wrap .i64 (u.2+1))) () (Nat.lt_succ_self _) h o o
  exact zx<|ze<|ze<|zq<|zt<|aa [0,2,9] o<|ah u.1 () h o o
 refine zs<|zu<|q 3 [(0,ts M),(2,ti V),(9,ti R),(49,tb (decide (R>65536)))] [] o ?_
 obtain⟨J,e,h⟩:=ak h;rw[e]
 refine aJ 6 [(0,ts M),(2,ti V),(9,ti R),(55,tb (J||(decide ((wrap .i64 ((List.length M:Int) - 16))<R))))] [] (?_) ?_
 ·clear h
  cases J
  ·exact q 6 [(55,tb (decide ((wrap .i64 ((List.length M:Int) - 16))<R)))] [0,2,9] o<|aa [0,2,9,55] o<|za<|ao () o o
  exact p 6 [0,2,9,55] o<|za<|ao () o o
 refine za<|rI h o (λhc h=>zu<|q 3 [(6,ts []),(7,ti 0),(8,ti 2)] [] o<|zf<|zT<|by cases h;exact aF (rs:=[.tmp 6,.tmp 7,.tmp 8]) o (.cons (.tmp o) (.cons (.tmp o) (.cons (.tmp o) (.nil)))) o (λ_ vs g=>aH vs g) (λ_ _ _=>List.nil_sublist _)) λhc h=>zy<|q 3 [(0,ts M),(2,ti V),(56,ts M),(58,ti (wrap .i64 (16+R)))] [] o<|iE h λhc h=>y (iR (i:=16) (j:=(wrap .i64 (16+R))) ai o o o hc.1 hc.2.1 hc.2.2 o) o ?_
 refine q 1 [(11,ts (List.drop 16 (List.take (Int.toNat (wrap .i64 (16+R))) M)))] [0,2] o ?_
 obtain⟨d,e,h⟩:=ak h;rw[e]
 refine zz<|p 2 [0,11,61,62] o<|cB h λW w h=>av (qC _ _ _ w) (ca o) o o<|q 5 [(12,ts W.1),(13,ti W.2)] [0,11] o<|zz<|q 3 [(68,tb (W.2 !=0))] [0,11,12] o ?_
 obtain⟨Z,e,h⟩:=ak h;rw[e]
 refine bL h 5 (λm=>[(11,ts d),(12,ts W.1),(73,tb m)]) (λ_=>[]) (λa5 h=>?_) λm h=>?_
 ·cases Z
  ·replace h:=ifF h
   refine q 2 [(68,tb false),(69,ts M),(70,ts W.1)] [11,12] o<|ap (by rfl) o ?_
   exact cB h λa3 a4 h=>av (rC _ _ _ a4) (ca o) o o<|p 2 [11,12,73] o<|zn<|aa [11,12,73] o<|zt<|ah (!a3) () h o o
  replace h:=ifT h
  exact p 5 [11,12,73] o<|zn<|aa [11,12,73] o<|zt<|ah true () h o o
 refine za<|rI h o (λhc h=>zu<|q 3 [(6,ts []),(7,ti 0),(8,ti 2)] [] o<|zf<|by cases h;exact aF (rs:=[.tmp 6,.tmp 7,.tmp 8]) o (.cons (.tmp o) (.cons (.tmp o) (.cons (.tmp o) (.nil)))) o (λ_ vs g=>aH vs g) (λ_ _ _=>List.nil_sublist _)) λhc h=>zu<|q 6 [(6,ts d),(7,ti (List.length W.1:Int)),(8,ti 1)] [] o<|zf ?_
 cases h
 exact aF (rs:=[.tmp 6,.tmp 7,.tmp 8]) o (.cons (.tmp o) (.cons (.tmp o) (.cons (.tmp o) (.nil)))) o (λ_ vs g=>aH vs g) (λ_ _ _=>List.nil_sublist _)
theorem wj(f r)(h:rm f=some r):bn PP 159 [ts f] (.tup [⟨(.int .i64),r.1⟩,⟨.bool,r.2⟩]):=by
 unfold rm at h
 refine enter Tryz.func159 o 37 o o λF=>?_
 refine zu<|q 2 [(0,ts f)] [] o<|za<|zs<|zu<|q 3 [(11,tb (decide ((List.length f:Int)<16)))] [0] o<|za<|rI h o (λhc h=>zu<|q 2 [(2,ti 0),(3,tb false)] [] o<|zf<|zT<|by cases h;exact aF (rs:=[.tmp 2,.tmp 3]) o (.cons (.tmp o) (.cons (.tmp o) (.nil))) o (λ_ vs g=>aH vs g) (λ_ _ _=>List.nil_sublist _)) λhc h=>zy<|p 1 [0,4] o<|za<|bv h (λu=>[(0,ts f),(4,.one (.int .u64) u)]) (λu=>[]) (λR h=>?_) λu h=>?_
 ·refine zu<|p 1 [0,4,5] o<|za<|zb<|aa [0,4,5] o<|aY (γ:=Unit) (λ(c:Int×Int) _=>[(0,ts f),(4,.one (.int .u64) c.1),(5,ti c.2)]) (λ(c:Int×Int) _=>[]) (lX f R) (0,4) () h o o ?_
  clear h
  intro M c gg h
  cases M with
  |zero=>cases h
  |succ M=>
  simp only[lX]at h
  refine zs<|zu<|q 2 [(4,.one (.int .u64) c.1),(5,ti c.2),(13,tb (decide (c.2<12)))] [0] o<|za<|rI h o (λhc h=>?_) λhc h=>?_
  ·refine zk<|zt<|zs<|zb<|zr<|q 4 [(17,.one (.int .u64) (fC .u64 c.1 8)),(18,ts f),(19,ti c.2)] [0,5] o<|iE h λhc h=>y (ge ai o o hc.1 hc.2 o) o ?_
   refine q 3 [(4,.one (.int .u64) (ior .u64 (fC .u64 c.1 8) (wrap .u64 (List.getD f (Int.toNat c.2) 0))))] [0,5] o ?_
   obtain⟨n7,e,h⟩:=ak h;rw[e]
   refine zn<|zi<|zt<|zr<|q 3 [(4,.one (.int .u64) n7),(5,ti (wrap .i64 (c.2+1)))] [0] o ?_
   obtain⟨W,e,h⟩:=ak h;rw[e]
   exact za<|aa [0,4,5] o<|aR (n7,W) () (Nat.lt_succ_self _) h o o
  exact zx<|ze<|ze<|zq<|zt<|aa [0,4] o<|ah c.1 () h o o
 refine zs<|zu<|q 2 [(0,ts f),(4,.one (.int .u64) u),(24,tb (decide (u≥1152921504606846976)))] [] o<|za<|rI h o (λhc h=>zu<|q 2 [(2,ti 0),(3,tb false)] [] o<|zf<|zT<|by cases h;exact aF (rs:=[.tmp 2,.tmp 3]) o (.cons (.tmp o) (.cons (.tmp o) (.nil))) o (λ_ vs g=>aH vs g) (λ_ _ _=>List.nil_sublist _)) λhc h=>zy<|p 3 [4,26,28] o<|cB h λV C h=>av (rQ _ _ _ _ C) (ca o) o o<|q 7 [(8,ti V.2.2)] [4] o<|zz<|q 6 [(2,ti (wrap .i64 u)),(3,tb (V.2.2==1))] [] o<|zf ?_
 cases h
 exact aF (rs:=[.tmp 2,.tmp 3]) o (.cons (.tmp o) (.cons (.tmp o) (.nil))) o (λ_ vs g=>aH vs g) (λ_ _ _=>List.nil_sublist _)
theorem wk(u V r)(h:rn u V=some r):Fn PP 160 [ts u,ti V] [] (λv=> .tup [⟨.raw (.slice none 0 0),aC v 0⟩,⟨(.int .i64),r.2.1⟩,⟨.bool,r.2.2⟩]) (λv=>[Res.own (aC v 0) 9 .str r.1]):=by
 unfold rn at h
 refine enter Tryz.func160 o 52 o o λF=>?_
 refine zu<|q 3 [(0,ts u),(1,ti V)] [] o<|za<|yh ?_
 refine zu<|p 1 [0,1,7] o<|cj (.slice none 0 0) o 9 .str ?_
 refine zz<|p 2 [0,1,7,8] o<|za<|zs<|yi ?_
 refine zt<|jK h (γ:=Value) (λM g3=>[(7,.one W51 g3),(8,ti M.1),(9,tb M.2.1)]) (λM g3=>[Res.own g3 9 .str M.2.2]) (λJ h=>?_) λM g3 h=>?_
 ·refine zb<|aa [0,1,7,8] o<|aY (γ:=Value) (λ(c:Int×Int×List (List Int)) g8=>[(0,ts u),(1,ti c.1),(7,.one W51 g8),(8,ti c.2.1)]) (λ(c:Int×Int×List (List Int)) g8=>[Res.own g8 9 .str c.2.2]) (lY u J) (V,0,[]) (.slice none 0 0) h o o ?_
  clear h
  intro C c g8 h
  cases C with
  |zero=>cases h
  |succ C=>
  simp only[lY]at h
  refine zb<|zu<|q 3 [(1,ti c.1),(7,.one W51 g8),(8,ti c.2.1),(14,ts u),(15,ti c.2.1),(16,ti c.1)] [0] o<|cB h λf d h=>av (rQ _ _ _ _ d) (ca o) o o<|q 7 [(10,ts f.1),(11,ti f.2.1),(12,ti f.2.2)] [0,1,7,8] o<|za<|zs<|zb<|zu<|q 3 [(21,tb (f.2.2 !=1))] [0,1,7,8,10,11,12] o<|za<|rI h o (λhc h=>?_) λhc h=>?_
  ·refine zu<|q 3 [(9,tb (f.2.2==2))] [7,8] o ?_
   obtain⟨m,e,h⟩:=ak h;rw[e]
   refine za<|zx<|wC o ?_
   refine ze<|wC o ?_
   exact ze<|zq<|zt<|aa [7,8,9] o<|ah (c.2.1,m,c.2.2) g8 h o o
  refine zu<|q 3 [(26,tb (c.1==9223372036854775807))] [0,1,7,8,10,11] o<|za<|rI h o (λhc h=>?_) λhc h=>?_
  ·refine zu<|q 2 [(29,.one W51 g8),(30,ts f.1)] [0,8,11] o<|bE (B:=16) ai o el9 o o o (.cons o .nil) o λa2=>?_
   refine iE h λhc h=>bq (B:=16) ai 1 o o (bZ 0 o o) o el9 o o hc o λO=>?_
   refine pk [1] o<|p 1 [0,7,8,11] o<|zz<|q 4 [(8,ti (wrap .i64 (c.2.1+f.2.1)))] [0,7] o ?_
   obtain⟨R,e,h⟩:=ak h;rw[e]
   refine zz<|q 5 [(8,ti R),(9,tb (decide (R<(List.length u:Int))))] [7] o ?_
   obtain⟨w,e,h⟩:=ak h;rw[e]
   refine za<|zx<|wC o ?_
   refine ze<|wC o ?_
   exact ze<|zq<|zt<|aa [7,8,9] o<|ah (R,w,(c.2.2++[f.1])) O h o o
  refine zk<|zi<|zt<|zu<|q 2 [(40,.one W51 g8),(41,ts f.1)] [0,1,8,11] o<|bE (B:=16) ai o el9 o o o (.cons o .nil) o λa3=>?_
  refine iE h λhc h=>bq (B:=16) ai 1 o o (bZ 0 o o) o el9 o o hc o λZ=>?_
  refine pk [1] o<|p 1 [0,1,7,8,11] o<|zz<|q 4 [(8,ti (wrap .i64 (c.2.1+f.2.1)))] [0,1,7] o ?_
  obtain⟨H,e,h⟩:=ak h;rw[e]
  refine za<|zr<|q 3 [(1,ti (wrap .i64 (c.1+1))),(8,ti H)] [0,7] o ?_
  obtain⟨n19,e,h⟩:=ak h;rw[e]
  exact zn<|zi<|zt<|aa [0,1,7,8] o<|aR (n19,H,(c.2.2++[f.1])) Z (Nat.lt_succ_self _) h o o
 refine zu<|q 6 [(4,.one W51 g3),(5,ti M.1),(6,tb M.2.1)] [] o<|zf<|jz ?_
 cases h
 exact aF (rs:=[.tmp 4,.tmp 5,.tmp 6]) o (.cons (.tmp o) (.cons (.tmp o) (.cons (.tmp o) (.nil)))) o (λ_ vs g=>by cases g with|cons W g=>cases g with|cons G g=>cases g with|cons N g=>cases g;exact⟨_,o,.cons (bf W) (.cons G (.cons N (.nil)))⟩) (λ_ vs g=>by cases g with|cons W g=>cases g with|cons G g=>cases g with|cons N g=>cases g;rw[bT W];exact(.cons_cons _ .slnil))
theorem uY(p0:Value)(p2:Value)(M:Value)(C J W Z r)(h:o1 C J W Z=some r):FnT PP bF 114 [tp p0,ti J,tp p2] [Res.cls (cg M) p0 C,Res.cls ik p2 W,Res.disk PP dI M Z] (λ_=>ti r.1) (λ_=>[Res.cls (cg M) p0 r.2.1,Res.cls ik p2 r.2.2,Res.disk PP dI M Z]):=by
 unfold o1 at h
 refine gP Tryz.func114 o 136 o o λF hT=>?_
 refine mc λu c0 hp=>?_
 subst hp
 refine bS (x:=C) (q:=M) ?_
 refine pk [1,0,0] o<|zN λH c1 hp=>?_
 subst hp
 refine iO (x:=W) ?_
 refine pk [1,0,0] o<|zu<|q 1 [(0,ptr u 0),(1,ti J),(2,ptr H 0)] [] o<|za<|bv h (λO=>[(0,ptr u 0),(1,ti J),(2,ptr H 0),(7,ti O.1),(8,ti O.2)]) (λO=>[Res.cls (cg M) (.pointer (some ⟨u,0,none⟩)) C,Res.disk PP dI M Z,Res.cls ik (.pointer (some ⟨H,0,none⟩)) W]) (λk5 h=>?_) λO h=>?_
 ·refine fo λc2=>?_
  refine dF (by kernel_rfl)<|ae 0 (ptr u 0) o (by kernel_rfl) o<|ae 4 (ptr u 0) o (by kernel_rfl) o<|ae 5 (ti J) o (by kernel_rfl) o ?_
  refine br (i:=1) (j:=6) (by kernel_rfl) o o ?_ ?_
  ·refine p 1 [0,1,2,16,19,20] o<|za<|aa [0,1,2,16,19,20] o<|ae 2 (ptr u 0) o (by kernel_rfl) o ?_
   refine br (i:=3) (j:=6) (by kernel_rfl) o o ?_ ?_
   ·refine yl 0 f0 dE o o o tr o<|za<|aa [0,1,2,18,19,20] o<|af 6 (by kernel_rfl) o<|cB h λb0 a4 h=>rcT hT [0] (aE _ _ _ _ _ _ a4) (ca o) o o o λ_=>za<|aa [0,1,2,18,21] o<|af 7 (by kernel_rfl) o<|cB h λV a5 h=>rc [3] (jt _ _ _ _ a5) (ca o) o o o λ_=>za<|aa [0,1,2,22] o<|ae 8 (.tup [⟨(.int .i64),V.1⟩,⟨(.int .i64),V.2⟩]) o (by kernel_rfl) o ?_
    refine ae 9 (ti V.1) o (by kernel_rfl) o<|ae 10 (ti V.2) o (by kernel_rfl) o<|ae 11 (ti V.1) o (by kernel_rfl) o<|ae 12 (ti V.2) o (by kernel_rfl) o<|aN (by kernel_rfl)<|zt<|pk [1,1,0,0] o<|bS (x:=C) (q:=M) ?_
    exact aa [0,1,2,7,8] o<|ah (V.1,V.2) () h o o
   refine cB h λb0 a4 h=>rcT hT [0] (aE _ _ _ _ _ _ a4) (ca o) o o o λ_=>za<|aa [0,1,2,17,21] o<|af 3 (by kernel_rfl) o<|yl 0 f0 dE o o o tr o<|za<|aa [0,1,2,18,21] o<|af 7 (by kernel_rfl) o<|cB h λV a5 h=>rc [3] (jt _ _ _ _ a5) (ca o) o o o λ_=>za<|aa [0,1,2,22] o<|ae 8 (.tup [⟨(.int .i64),V.1⟩,⟨(.int .i64),V.2⟩]) o (by kernel_rfl) o ?_
   refine ae 9 (ti V.1) o (by kernel_rfl) o<|ae 10 (ti V.2) o (by kernel_rfl) o<|ae 11 (ti V.1) o (by kernel_rfl) o<|ae 12 (ti V.2) o (by kernel_rfl) o<|aN (by kernel_rfl)<|zt<|pk [1,1,0,0] o<|bS (x:=C) (q:=M) ?_
   exact aa [0,1,2,7,8] o<|ah (V.1,V.2) () h o o
  refine cB h λb0 a4 h=>rcT hT [0] (aE _ _ _ _ _ _ a4) (ca o) o o o λ_=>za<|aa [0,1,2,15,21] o<|af 1 (by kernel_rfl) o<|p 1 [0,1,2,16,21] o<|za<|aa [0,1,2,16,21] o<|ae 2 (ptr u 0) o (by kernel_rfl) o<|af 3 (by kernel_rfl) o<|yl 0 f0 dE o o o tr o<|za<|aa [0,1,2,18,21] o<|af 7 (by kernel_rfl) o ?_
  refine cB h λV a5 h=>rc [3] (jt _ _ _ _ a5) (ca o) o o o λ_=>za<|aa [0,1,2,22] o<|ae 8 (.tup [⟨(.int .i64),V.1⟩,⟨(.int .i64),V.2⟩]) o (by kernel_rfl) o<|ae 9 (ti V.1) o (by kernel_rfl) o<|ae 10 (ti V.2) o (by kernel_rfl) o<|ae 11 (ti V.1) o (by kernel_rfl) o<|ae 12 (ti V.2) o (by kernel_rfl) o<|aN (by kernel_rfl)<|zt<|pk [1,1,0,0] o<|bS (x:=C) (q:=M) ?_
  exact aa [0,1,2,7,8] o<|ah (V.1,V.2) () h o o
 refine zs<|zu<|q 2 [(0,ptr u 0),(1,ti J),(2,ptr H 0),(7,ti O.1),(8,ti O.2),(26,tb (O.2 !=0))] [] o<|za<|rI h o (λhc h=>zu<|q 2 [(6,ti O.2)] [] o<|zf<|zT<|by cases h;exact pk [0,1,0] o<|aU o (.tmp o) (λ_ _ g=>g) (λ_ _ _=>(.cons_cons _ (.cons_cons _ (.cons_cons _ .slnil))))) λhc h=>zk<|zt<|bv h (λG=>[(0,ptr u 0),(1,ti J),(2,ptr H 0),(8,ti G.1),(9,ts G.2)]) (λG=>[Res.cls (cg M) (.pointer (some ⟨u,0,none⟩)) C,Res.disk PP dI M Z,Res.cls ik (.pointer (some ⟨H,0,none⟩)) W]) (λk7 h=>?_) λG h=>?_
 ·refine fo λc3=>?_
  refine dF (by kernel_rfl)<|ae 0 (ptr u 0) o (by kernel_rfl) o<|ae 4 (ptr u 0) o (by kernel_rfl) o<|ae 5 (ti J) o (by kernel_rfl) o<|ae 7 (ti O.1) o (by kernel_rfl) o ?_
  refine br (i:=1) (j:=6) (by kernel_rfl) o o ?_ ?_
  ·refine q 1 [(30,ptr u 0),(33,ptr u 0),(34,ti J),(36,ti O.1)] [0,1,2,8] o<|za<|aa [0,1,2,8,30,33,34,36] o<|ae 2 (ptr u 0) o (by kernel_rfl) o ?_
   refine br (i:=3) (j:=6) (by kernel_rfl) o o ?_ ?_
   ·refine yl 0 f0 dE o o o tr o<|za<|aa [0,1,2,8,32,33,34,36] o<|af 6 (by kernel_rfl) o<|cB h λa8 a6 h=>rcT hT [0] (aE _ _ _ _ _ _ a6) (ca o) o o o λ_=>za<|aa [0,1,2,8,32,35,36] o<|af 8 (by kernel_rfl) o<|cB h λR a7 h=>rc [2] (io _ _ _ _ _ _ a7) (ca o) o o o λ_=>za<|aa [0,1,2,8,37] o<|ae 9 (.tup [⟨.str,R.1⟩,⟨(.int .i64),R.2⟩]) o (by kernel_rfl) o ?_
    refine ae 10 (ts R.1) o (by kernel_rfl) o<|ae 11 (ti R.2) o (by kernel_rfl) o<|ae 12 (ts R.1) o (by kernel_rfl) o<|ae 13 (ti R.2) o (by kernel_rfl) o<|aN (by kernel_rfl)<|zt<|pk [1,1,0,0] o<|bS (x:=C) (q:=M) ?_
    exact aa [0,1,2,8,9] o<|ah (R.2,R.1) () h o o
   refine cB h λa8 a6 h=>rcT hT [0] (aE _ _ _ _ _ _ a6) (ca o) o o o λ_=>za<|aa [0,1,2,8,31,35,36] o<|af 3 (by kernel_rfl) o<|yl 0 f0 dE o o o tr o<|za<|aa [0,1,2,8,32,35,36] o<|af 8 (by kernel_rfl) o<|cB h λR a7 h=>rc [2] (io _ _ _ _ _ _ a7) (ca o) o o o λ_=>za<|aa [0,1,2,8,37] o<|ae 9 (.tup [⟨.str,R.1⟩,⟨(.int .i64),R.2⟩]) o (by kernel_rfl) o ?_
   refine ae 10 (ts R.1) o (by kernel_rfl) o<|ae 11 (ti R.2) o (by kernel_rfl) o<|ae 12 (ts R.1) o (by kernel_rfl) o<|ae 13 (ti R.2) o (by kernel_rfl) o<|aN (by kernel_rfl)<|zt<|pk [1,1,0,0] o<|bS (x:=C) (q:=M) ?_
   exact aa [0,1,2,8,9] o<|ah (R.2,R.1) () h o o
  refine cB h λa8 a6 h=>rcT hT [0] (aE _ _ _ _ _ _ a6) (ca o) o o o λ_=>za<|aa [0,1,2,8,29,35,36] o<|af 1 (by kernel_rfl) o<|q 1 [(30,ptr u 0),(35,ts a8),(36,ti O.1)] [0,1,2,8] o<|za<|aa [0,1,2,8,30,35,36] o<|ae 2 (ptr u 0) o (by kernel_rfl) o<|af 3 (by kernel_rfl) o<|yl 0 f0 dE o o o tr o<|za<|aa [0,1,2,8,32,35,36] o<|af 8 (by kernel_rfl) o ?_
  refine cB h λR a7 h=>rc [2] (io _ _ _ _ _ _ a7) (ca o) o o o λ_=>za<|aa [0,1,2,8,37] o<|ae 9 (.tup [⟨.str,R.1⟩,⟨(.int .i64),R.2⟩]) o (by kernel_rfl) o<|ae 10 (ts R.1) o (by kernel_rfl) o<|ae 11 (ti R.2) o (by kernel_rfl) o<|ae 12 (ts R.1) o (by kernel_rfl) o<|ae 13 (ti R.2) o (by kernel_rfl) o<|aN (by kernel_rfl)<|zt<|pk [1,1,0,0] o<|bS (x:=C) (q:=M) ?_
  exact aa [0,1,2,8,9] o<|ah (R.2,R.1) () h o o
 refine zs<|zu<|q 2 [(0,ptr u 0),(1,ti J),(2,ptr H 0),(8,ti G.1),(9,ts G.2),(41,tb (G.1 !=0))] [] o<|za<|rI h o (λhc h=>zu<|q 2 [(6,ti G.1)] [] o<|zf<|zT<|by cases h;exact pk [0,1,0] o<|aU o (.tmp o) (λ_ _ g=>g) (λ_ _ _=>(.cons_cons _ (.cons_cons _ (.cons_cons _ .slnil))))) λhc h=>zy<|p 1 [0,2,9,43] o<|y (bc o oF o o (.cons f0 o o ab .nil)) o ?_
 refine aD (t:=Y195) o oF o λd=>st 0 .here de o o o o tr<|za<|bv h (λf=>[(0,ptr u 0),(2,ptr H 0),(9,ts G.2),(10,ptr d 0)]) (λf=>[Res.cls ik (.pointer (some ⟨H,0,none⟩)) f.1,Res.cls (cg M) (.pointer (some ⟨u,0,none⟩)) f.2,Res.var d 195 Y195 (J,0,0,()),Res.disk PP dI M Z]) (λc4 h=>?_) λf h=>?_
 ·refine zs<|pk [3,0,0,0] o<|lO λb1=>?_
  refine zr<|p 3 [0,2,9,10,47] o<|yl 0 f2 ty4 o o o tr o<|q 2 [(50,tb (!W.2.2.1))] [0,2,9,10] o ?_
  obtain⟨b3,e,h⟩:=ak h;rw[e]
  refine aJ 3 [(0,ptr u 0),(2,ptr H 0),(9,ts G.2),(10,ptr d 0),(53,tb (b3&&(G.2 !=[])))] [Res.var H 191 W33 (b1,W.2.1,W.2.2.1,W.2.2.2.1,W.2.2.2.2),Res.own b1 9 .str W.1,Res.var d 195 Y195 (J,0,0,()),Res.cls (cg M) (.pointer (some ⟨u,0,none⟩)) C,Res.disk PP dI M Z] (?_) ?_
  ·clear h
   cases b3
   ·exact p 3 [0,2,9,10,53] o<|za<|ao () o o
   exact q 3 [(53,tb (G.2 !=[]))] [0,2,9,10] o<|aa [0,2,9,10,53] o<|za<|ao () o o
  refine za<|rI h o (λhc h=>?_) λhc h=>?_
  ·refine zu<|q 3 [(0,ptr u 0),(2,ptr H 0),(9,ts G.2),(10,ptr d 0),(55,ptr H 0),(56,ptr H 0),(57,ts G.2)] [] o<|cB h λm b7 h=>av (wj _ _ b7) (ca o) o o<|q 5 [(59,ti m.1),(60,tb m.2),(62,ptr H 1)] [0,2,9,10,56] o<|st 0 f1 ty2 o o o o tr<|p 2 [0,2,9,10,60,64] o<|st 0 f2 ty4 o o o o tr<|nL o<|zz<|p 3 [0,2,9,10,67] o<|yl 0 f2 ty4 o o o tr o<|za<|rI h o (λhc h=>?_) λhc h=>?_
   ·refine pk [3,0,0,0,0] o<|fo λc5=>?_
    refine zr<|p 4 [0,2,9,10,69,72] o<|yl 2 f1 ty2 o o o tr o<|q 2 [(73,ti m.1),(75,ptr u 4)] [0,2,9,10] o<|st 0 f4 ty2 o o o o tr<|za<|pk [2,2,0,0,0,0] o<|iO (x:=(W.1,m.1,m.2,W.2.2.2.1,W.2.2.2.2)) ?_
    refine pk [1,1,0,0,0] o<|bS (x:=((),C.2.1,C.2.2.1,C.2.2.2.1,m.1,C.2.2.2.2.2.1,C.2.2.2.2.2.2)) (q:=M) ?_
    exact aa [0,2,9,10] o<|pk [1,0,0,0] o<|ah ((W.1,m.1,m.2,W.2.2.2.1,W.2.2.2.2),((),C.2.1,C.2.2.1,C.2.2.2.1,m.1,C.2.2.2.2.2.1,C.2.2.2.2.2.2)) () h o o
   refine zk<|zt<|iO (x:=(W.1,m.1,m.2,W.2.2.2.1,W.2.2.2.2)) ?_
   exact aa [0,2,9,10] o<|pk [0,1,0,0] o<|ah ((W.1,m.1,m.2,W.2.2.2.1,W.2.2.2.2),C) () h o o
  refine zk<|zt<|iO (x:=W) ?_
  exact aa [0,2,9,10] o<|pk [0,1,0,0] o<|ah (W,C) () h o o
 refine bv h (λc=>[(0,ptr u 0),(2,ptr H 0),(9,ts G.2),(10,ptr d 0)]) (λc=>[Res.cls ik (.pointer (some ⟨H,0,none⟩)) c.1,Res.cls (cg M) (.pointer (some ⟨u,0,none⟩)) c.2.1,Res.var d 195 Y195 c.2.2,Res.disk PP dI M Z]) (λc6 h=>?_) λc h=>?_
 ·refine zs<|lO λc7=>?_
  refine zr<|q 3 [(0,ptr u 0),(2,ptr H 0),(9,ts G.2),(10,ptr d 0),(78,ptr H 2)] [] o<|yl 0 f2 ty4 o o o tr o<|za<|rI h o (λhc h=>?_) λhc h=>?_
  ·refine zs<|pk [2,0,0,0,0] o<|fo λc8=>?_
   refine zr<|q 4 [(81,ts G.2),(84,ptr u 4)] [0,2,9,10] o<|yl 0 f4 ty2 o o o tr o<|cB h λN b8 h=>rc [] (wk _ _ _ b8) (ca o) o o o λb5=>q 7 [(11,.one W51 (aC b5 0)),(12,ti N.2.1)] [0,2,9,10] o<|zz<|p 4 [0,2,9,10,11,12,90,93] o<|yl 3 f0 tx4 o o o tr o<|p 1 [0,2,9,10,11,12,90,94,95] o<|iE h λhc h=>bq (B:=16) ai 4 o o (bZ 0 o o) o el9 o o hc o λc9=>?_
   refine p 2 [0,2,9,10,11,12,96,98] o<|st 3 f0 tx4 o o o o tr<|nL o<|zz<|p 3 [0,2,9,10,11,12,99,101] o<|yl 1 f4 ty2 o o o tr o<|q 1 [(102,ti f.2.2.2.2.2.1),(103,.one W51 (aC b5 0))] [0,2,9,10,11,12,99] o<|y (cn ai 0 o o o) o ?_
   refine q 3 [(105,ti (wrap .i64 (f.2.2.2.2.2.1+(List.length N.1:Int)))),(107,ptr u 4)] [0,2,9,10,11,12] o<|st 1 f4 ty2 o o o o tr<|zz<|q 2 [(108,ti N.2.1),(109,ptr d 1)] [0,2,9,10,11] o<|st 5 f1 ty3 o o o o tr<|nL o<|zz<|p 1 [0,2,9,10,110] o<|y (cn ai 0 o o o) o ?_
   refine q 1 [(112,tb (decide ((List.length N.1:Int)>0)))] [0,2,9,10] o<|za<|rI h o (λhc h=>?_) λhc h=>?_
   ·refine zr<|p 3 [0,2,9,10,115] o<|yl 1 f4 ty2 o o o tr o<|q 1 [(0,ptr u 0),(2,ptr H 0),(9,ts G.2),(10,ptr d 0),(116,ti (wrap .i64 (f.2.2.2.2.2.1+(List.length N.1:Int)))),(117,ptr d 2)] [] o<|st 5 f2 ty2 o o o o tr<|za<|pk [3,3,0,0,0,0,0] o<|iO (x:=((f.1.1++N.1),f.1.2.1,f.1.2.2.1,f.1.2.2.2.1,f.1.2.2.2.2)) ?_
    refine pk [2,2,0,0,0,0] o<|bS (x:=((),f.2.2.1,f.2.2.2.1,f.2.2.2.2.1,(wrap .i64 (f.2.2.2.2.2.1+(List.length N.1:Int))),f.2.2.2.2.2.2.1,f.2.2.2.2.2.2.2)) (q:=M) ?_
    exact pk [0,0,1,1] o<|aa [0,2,9,10] o<|pk [1,0,0,0] o<|ah (((f.1.1++N.1),f.1.2.1,f.1.2.2.1,f.1.2.2.2.1,f.1.2.2.2.2),((),f.2.2.1,f.2.2.2.1,f.2.2.2.2.1,(wrap .i64 (f.2.2.2.2.2.1+(List.length N.1:Int))),f.2.2.2.2.2.2.1,f.2.2.2.2.2.2.2),(J,N.2.1,(wrap .i64 (f.2.2.2.2.2.1+(List.length N.1:Int))),())) () h o o
   refine zk<|zt<|pk [3,3,0,0,0,0,0] o<|iO (x:=((f.1.1++N.1),f.1.2.1,f.1.2.2.1,f.1.2.2.2.1,f.1.2.2.2.2)) ?_
   refine pk [2,2,0,0,0,0] o<|bS (x:=((),f.2.2.1,f.2.2.2.1,f.2.2.2.2.1,(wrap .i64 (f.2.2.2.2.2.1+(List.length N.1:Int))),f.2.2.2.2.2.2.1,f.2.2.2.2.2.2.2)) (q:=M) ?_
   exact pk [0,0,1,1] o<|aa [0,2,9,10] o<|pk [1,0,0,0] o<|ah (((f.1.1++N.1),f.1.2.1,f.1.2.2.1,f.1.2.2.2.1,f.1.2.2.2.2),((),f.2.2.1,f.2.2.2.1,f.2.2.2.2.1,(wrap .i64 (f.2.2.2.2.2.1+(List.length N.1:Int))),f.2.2.2.2.2.2.1,f.2.2.2.2.2.2.2),(J,N.2.1,0,())) () h o o
  refine zk<|zt<|iO (x:=f.1) ?_
  exact aa [0,2,9,10] o<|ah (f.1,f.2,(J,0,0,())) () h o o
 refine zs<|lO λb6=>?_
 refine zr<|q 2 [(0,ptr u 0),(9,ts G.2),(10,ptr d 0),(118,ptr H 0),(119,ptr d 1)] [] o<|yl 3 f1 ty3 o o o tr o<|q 5 [(123,tb (decide (c.2.2.2.1<(List.length G.2:Int)))),(125,ptr H 3)] [0,10] o<|st 0 f3 ty4 o o o o tr<|za<|bv h (λa9=>[]) (λa9=>[Res.cls (cg M) (.pointer (some ⟨u,0,none⟩)) a9,Res.var H 191 W33 (b6,c.1.2.1,c.1.2.2.1,(decide (c.2.2.2.1<(List.length G.2:Int))),c.1.2.2.2.2),Res.own b6 9 .str c.1.1,Res.var d 195 Y195 c.2.2,Res.disk PP dI M Z]) (λd0 h=>?_) λa9 h=>?_
 ·refine pk [2,0,0,0,0] o<|fo λd1=>?_
  refine dF (by kernel_rfl)<|ae 0 (ptr u 0) o (by kernel_rfl) o<|ae 1 (ptr u 0) o (by kernel_rfl) o ?_
  refine br (i:=2) (j:=5) (by kernel_rfl) o o ?_ ?_
  ·refine p 1 [10,126,128] o<|za<|aa [10,126,128] o<|ae 3 (ptr u 3) o (by kernel_rfl) o ?_
   refine br (i:=4) (j:=5) (by kernel_rfl) o o ?_ ?_
   ·refine yl 0 f3 tx5 o o o tr o<|za<|aa [10,126,130] o<|af 5 (by kernel_rfl) o<|yl 4 .here de o o o tr o<|za<|aa [126,130,131] o<|af 6 (by kernel_rfl) o<|bE (B:=24) ai o gb o o o (.cons o .nil) o λa3=>?_
    refine za<|aa [126,130,132] o<|af 7 (by kernel_rfl) o<|iE h λhc h=>bq (B:=24) ai 2 o o (bZ 0 o o) o gb o o hc o λw=>?_
    refine pk [1,1,1,1,1,1] o<|za<|aa [126,133] o<|af 8 (by kernel_rfl) o<|q 1 [(133,.one W51 w),(134,ptr u 0)] [] o<|za<|aa [133,134] o<|ae 9 (ptr u 3) o (by kernel_rfl) o<|af 10 (by kernel_rfl) o<|st 0 f3 tx5 o o o o tr<|nL o<|za<|aa [] o<|aN (by kernel_rfl) ?_
    refine zt<|bS (x:=((),c.2.1.2.1,c.2.1.2.2.1,(c.2.1.2.2.2.1++[c.2.2]),c.2.1.2.2.2.2.1,c.2.1.2.2.2.2.2.1,c.2.1.2.2.2.2.2.2)) (q:=M) ?_
    exact aa [] o<|ah ((),c.2.1.2.1,c.2.1.2.2.1,(c.2.1.2.2.2.1++[c.2.2]),c.2.1.2.2.2.2.1,c.2.1.2.2.2.2.2.1,c.2.1.2.2.2.2.2.2) () h o o
   refine yl 4 .here de o o o tr o<|za<|aa [126,129,131] o ?_
   refine br (i:=4) (j:=6) (by kernel_rfl) o o ?_ ?_
   ·refine yl 0 f3 tx5 o o o tr o<|za<|aa [126,130,131] o<|af 6 (by kernel_rfl) o<|bE (B:=24) ai o gb o o o (.cons o .nil) o λa3=>?_
    refine za<|aa [126,130,132] o<|af 7 (by kernel_rfl) o<|iE h λhc h=>bq (B:=24) ai 2 o o (bZ 0 o o) o gb o o hc o λw=>?_
    refine pk [1,1,1,1,1,1] o<|za<|aa [126,133] o<|af 8 (by kernel_rfl) o<|q 1 [(133,.one W51 w),(134,ptr u 0)] [] o<|za<|aa [133,134] o<|ae 9 (ptr u 3) o (by kernel_rfl) o<|af 10 (by kernel_rfl) o<|st 0 f3 tx5 o o o o tr<|nL o<|za<|aa [] o<|aN (by kernel_rfl) ?_
    refine zt<|bS (x:=((),c.2.1.2.1,c.2.1.2.2.1,(c.2.1.2.2.2.1++[c.2.2]),c.2.1.2.2.2.2.1,c.2.1.2.2.2.2.2.1,c.2.1.2.2.2.2.2.2)) (q:=M) ?_
    exact aa [] o<|ah ((),c.2.1.2.1,c.2.1.2.2.1,(c.2.1.2.2.2.1++[c.2.2]),c.2.1.2.2.2.2.1,c.2.1.2.2.2.2.2.1,c.2.1.2.2.2.2.2.2) () h o o
   refine bE (B:=24) ai o gb o o o (.cons o .nil) o λa3=>?_
   refine za<|aa [126,129,132] o<|af 4 (by kernel_rfl) o<|yl 1 f3 tx5 o o o tr o<|za<|aa [126,130,132] o<|af 7 (by kernel_rfl) o<|iE h λhc h=>bq (B:=24) ai 2 o o (bZ 0 o o) o gb o o hc o λw=>?_
   refine pk [1,1,1,1,1,1] o<|za<|aa [126,133] o<|af 8 (by kernel_rfl) o<|q 1 [(133,.one W51 w),(134,ptr u 0)] [] o<|za<|aa [133,134] o<|ae 9 (ptr u 3) o (by kernel_rfl) o<|af 10 (by kernel_rfl) o<|st 0 f3 tx5 o o o o tr<|nL o<|za<|aa [] o<|aN (by kernel_rfl) ?_
   refine zt<|bS (x:=((),c.2.1.2.1,c.2.1.2.2.1,(c.2.1.2.2.2.1++[c.2.2]),c.2.1.2.2.2.2.1,c.2.1.2.2.2.2.2.1,c.2.1.2.2.2.2.2.2)) (q:=M) ?_
   exact aa [] o<|ah ((),c.2.1.2.1,c.2.1.2.2.1,(c.2.1.2.2.2.1++[c.2.2]),c.2.1.2.2.2.2.1,c.2.1.2.2.2.2.2.1,c.2.1.2.2.2.2.2.2) () h o o
  refine yl 4 .here de o o o tr o<|za<|aa [126,127,131] o ?_
  refine br (i:=2) (j:=6) (by kernel_rfl) o o ?_ ?_
  ·refine q 1 [(126,ptr u 0),(128,ptr u 0),(131,.one Y195 c.2.2)] [] o<|za<|aa [126,128,131] o<|ae 3 (ptr u 3) o (by kernel_rfl) o ?_
   refine br (i:=4) (j:=6) (by kernel_rfl) o o ?_ ?_
   ·refine yl 0 f3 tx5 o o o tr o<|za<|aa [126,130,131] o<|af 6 (by kernel_rfl) o<|bE (B:=24) ai o gb o o o (.cons o .nil) o λa3=>?_
    refine za<|aa [126,130,132] o<|af 7 (by kernel_rfl) o<|iE h λhc h=>bq (B:=24) ai 2 o o (bZ 0 o o) o gb o o hc o λw=>?_
    refine pk [1,1,1,1,1,1] o<|za<|aa [126,133] o<|af 8 (by kernel_rfl) o<|q 1 [(133,.one W51 w),(134,ptr u 0)] [] o<|za<|aa [133,134] o<|ae 9 (ptr u 3) o (by kernel_rfl) o<|af 10 (by kernel_rfl) o<|st 0 f3 tx5 o o o o tr<|nL o<|za<|aa [] o<|aN (by kernel_rfl) ?_
    refine zt<|bS (x:=((),c.2.1.2.1,c.2.1.2.2.1,(c.2.1.2.2.2.1++[c.2.2]),c.2.1.2.2.2.2.1,c.2.1.2.2.2.2.2.1,c.2.1.2.2.2.2.2.2)) (q:=M) ?_
    exact aa [] o<|ah ((),c.2.1.2.1,c.2.1.2.2.1,(c.2.1.2.2.2.1++[c.2.2]),c.2.1.2.2.2.2.1,c.2.1.2.2.2.2.2.1,c.2.1.2.2.2.2.2.2) () h o o
   refine bE (B:=24) ai o gb o o o (.cons o .nil) o λa3=>?_
   refine za<|aa [126,129,132] o<|af 4 (by kernel_rfl) o<|yl 1 f3 tx5 o o o tr o<|za<|aa [126,130,132] o<|af 7 (by kernel_rfl) o<|iE h λhc h=>bq (B:=24) ai 2 o o (bZ 0 o o) o gb o o hc o λw=>?_
   refine pk [1,1,1,1,1,1] o<|za<|aa [126,133] o<|af 8 (by kernel_rfl) o<|q 1 [(133,.one W51 w),(134,ptr u 0)] [] o<|za<|aa [133,134] o<|ae 9 (ptr u 3) o (by kernel_rfl) o<|af 10 (by kernel_rfl) o<|st 0 f3 tx5 o o o o tr<|nL o<|za<|aa [] o<|aN (by kernel_rfl) ?_
   refine zt<|bS (x:=((),c.2.1.2.1,c.2.1.2.2.1,(c.2.1.2.2.2.1++[c.2.2]),c.2.1.2.2.2.2.1,c.2.1.2.2.2.2.2.1,c.2.1.2.2.2.2.2.2)) (q:=M) ?_
   exact aa [] o<|ah ((),c.2.1.2.1,c.2.1.2.2.1,(c.2.1.2.2.2.1++[c.2.2]),c.2.1.2.2.2.2.1,c.2.1.2.2.2.2.2.1,c.2.1.2.2.2.2.2.2) () h o o
  refine bE (B:=24) ai o gb o o o (.cons o .nil) o λa3=>?_
  refine za<|aa [126,127,132] o<|af 2 (by kernel_rfl) o<|q 1 [(126,ptr u 0),(128,ptr u 0),(132,.one W51 a3)] [] o<|za<|aa [126,128,132] o<|ae 3 (ptr u 3) o (by kernel_rfl) o<|af 4 (by kernel_rfl) o<|yl 1 f3 tx5 o o o tr o<|za<|aa [126,130,132] o<|af 7 (by kernel_rfl) o<|iE h λhc h=>bq (B:=24) ai 2 o o (bZ 0 o o) o gb o o hc o λw=>?_
  refine pk [1,1,1,1,1,1] o<|za<|aa [126,133] o<|af 8 (by kernel_rfl) o<|q 1 [(133,.one W51 w),(134,ptr u 0)] [] o<|za<|aa [133,134] o<|ae 9 (ptr u 3) o (by kernel_rfl) o<|af 10 (by kernel_rfl) o<|st 0 f3 tx5 o o o o tr<|nL o<|za<|aa [] o<|aN (by kernel_rfl) ?_
  refine zt<|bS (x:=((),c.2.1.2.1,c.2.1.2.2.1,(c.2.1.2.2.2.1++[c.2.2]),c.2.1.2.2.2.2.1,c.2.1.2.2.2.2.2.1,c.2.1.2.2.2.2.2.2)) (q:=M) ?_
  exact aa [] o<|ah ((),c.2.1.2.1,c.2.1.2.2.1,(c.2.1.2.2.2.1++[c.2.2]),c.2.1.2.2.2.2.1,c.2.1.2.2.2.2.2.1,c.2.1.2.2.2.2.2.2) () h o o
 refine zu<|q 1 [(6,ti 0)] [] o<|zf<|pk [1,1,0,0,0] o<|iO (x:=(c.1.1,c.1.2.1,c.1.2.2.1,(decide (c.2.2.2.1<(List.length G.2:Int))),c.1.2.2.2.2)) ?_
 cases h
 exact pk [0,0,1] o<|pk [1,0,0] o<|bd o (.tmp o) (.cons_cons _ (.cons_cons _ (.cons_cons _ .slnil)))
theorem eB(c r)(h:ec c=some r):Fn PP 153 [.one (.sl 5 (.int .u8)) c] [] (λv=> .one W51 v) (λv=>[Res.own v 5 (.int .u8) r]):=by
 unfold ec at h
 refine enter Tryz.func153 o 8 o o λF=>?_
 refine zu<|q 1 [(0,.one (.sl 5 (.int .u8)) c)] [] o<|za<|zs<|zu<|p 1 [0,3] o<|s6 o Tryz.underlying91 o λg1 f=>?_
 refine za ?_
 refine gO (b:=g1) o (λhc=>?_) (λhc=>?_)
 ·have hx:=f hc
  subst hx
  have h:(some []:Option (List (Int)))=some r:=by simpa using h
  refine zu<|q 1 [(2,.one W51 (.slice none 0 0))] [] o<|zf<|zT<|cj (.slice none 0 0) o 5 (.int .u8) ?_
  cases h
  exact aU o (.tmp o) (λ_ _ g=>holds_raw.2 ⟨rfl,by rw[(holds_raw.1 g).1];exact(holds_raw.1 g).2⟩) (λ_ _ g=>by obtain⟨rfl,_⟩:=holds_raw.1 g;exact(.cons_cons _ .slnil))
 refine zy<|bE (B:=1) ai o el5 o o o .nil o λu=>?_
 refine q 1 [(5,.one W51 u),(6,.one (.sl 5 (.int .u8)) c)] [] o<|iE h λhc h=>bq (B:=1) ai 0 o o (ut o) o el5 o o hc o λM=>?_
 refine q 1 [(2,.one W51 M)] [] o<|zf ?_
 cases h
 exact aU o (.tmp o) (λ_ _ g=>holds_raw.2 ⟨rfl,by rw[(holds_raw.1 g).1];exact(holds_raw.1 g).2⟩) (λ_ _ g=>by obtain⟨rfl,_⟩:=holds_raw.1 g;exact(.cons_cons _ .slnil))
theorem EF:y7 PP dI 163:=Dr Tryz.func163 o 10 o (by decide) λF s size=>by
 refine gc ?_
 refine dM ?_
 refine fU ai 1 [0,2] (E':=[(0,.one (.int .i64) s),(2,.ref (.int .i64) size)]) o ?_
 refine gM ?_
 refine eW ?_
 refine gc ?_
 refine dM ?_
 refine fU ai 2 [2,7] (E':=[(2,.ref (.int .i64) size),(7,.one (.int .i64) (wrap .i64 (s*64)))]) o ?_
 refine y (ga o ty3) o ?_
 refine fU ai 2 [5] (E':=[(5,.one .bool (decide (size≤wrap .i64 (s*64))))]) o ?_
 refine gM ?_
 refine eW ?_
 refine qL ?_
 exact aU o (.tmp o) (λ_ _ g=>g) (λ_ _ _=> .slnil)
theorem Cz:wt PP dI 162 163:=Ds Tryz.laysDel o Tryz.underlying3 (λ_ _=>gd (by kernel_rfl)) EF
theorem mq(N:Value)(u R f r)(h:jd u R f=some r):Fn PP 115 [tp N,ts R,ti f] [Res.disk PP dI N u] (λ_=>ti r.1) (λ_=>[Res.disk PP dI N r.2]):=by
 unfold jd at h
 refine enter Tryz.func115 o 60 o o λF=>?_
 refine gE λd C hp=>?_
 subst hp
 refine zu<|bD o o λM=>q 1 [(0,ptr d 0),(1,ts R),(5,ptr M 0)] [] o<|zz<|p 2 [5,10,11] o<|pk [1,1,0] o<|cB h λw Z h=>gx (Lo:=[Res.var M 3 (.int .i64) f]) (fZ d C u R _ Z) (by kernel_rfl) (List.Perm.refl _) o o λv5=>?_
 refine p 5 [5,7,8] o<|za<|zs<|zu<|p 2 [5,7,8,16] o<|za<|rI h o (λhc h=>zu<|q 2 [(6,ti w)] [] o<|zf<|zT<|az (R':=Res.dfiles PP dI C u.2.1) 1 o fp<|cv (P:=PP) (I:=dI) (D:=u)<|by cases h;exact aU o (.tmp o) (λ_ _ g=>g) (λ_ _ _=>(.cons_cons _ (.cons _ .slnil)))) λhc h=>zk<|zt<|zs<|zs<|iE h λhc h=>az (R':=Res.dat PP dI C u.2.1 R (aC v5 0)) 1 o (mA hc)<|cB h λf6 m h=>?_
 refine pk [1,0,0] o<|hY dK m λc a4 G a5 hq=>?_
 rw[hq]
 clear hq
 refine eE (by kernel_rfl) (by kernel_rfl) ?_
 refine q_y (aM 6 .here o o o ab ty3) o ?_
 refine aA ai 2 [5,7,20] (E':=[(5,ptr M 0),(7,ptr c 0),(20,tb (decide (f<0)))]) o ?_
 obtain⟨O,e,h⟩:=ak h;rw[e]
 refine kJ 8 [(5,ptr M 0),(7,ptr c 0),(28,tb (O||(decide (f>(List.length f6.1:Int)))))] ?_ ?_
 ·clear h
  cases O
  ·refine dx (by rfl) o ?_
   refine q_y (aM 6 .here o o o ab ty3) o ?_
   refine aA ai 3 [5,7,20,21,24] (E':=[(5,ptr M 0),(7,ptr c 0),(20,tb false),(21,ti f),(24,ptr c 0)]) o ?_
   refine dx (by rfl) o ?_
   refine q_y (aM 0 f0 o o o (ay ab) tx1) o ?_
   refine dx (by rfl) o ?_
   refine q_y (cn ai 1 o o o) o ?_
   refine aA ai 2 [5,7,28] (E':=[(5,ptr M 0),(7,ptr c 0),(28,tb (decide (f>(List.length f6.1:Int))))]) o ?_
   refine fV ?_
   exact ib o
  refine aA ai 8 [5,7,28] (E':=[(5,ptr M 0),(7,ptr c 0),(28,tb true)]) o ?_
  refine fV ?_
  exact ib o
 refine eX ?_
 refine zt<|rI h o (λhc h=>?_) λhc h=>?_
 ·refine zu<|q 1 [(6,ti 1)] [] o<|zf<|zT<|iZ (P:=PP) (I:=dI) dK m ?_
  refine az (R':=Res.dfiles PP dI C u.2.1) 0 o cp<|pk [1,0,0] o<|cv (P:=PP) (I:=dI) (D:=u) ?_
  cases h
  exact bd o (.tmp o) (.cons_cons _ (.cons _ .slnil))
 refine zk<|zt<|zs<|dF (by kernel_rfl)<|ae 0 (ptr c 0) o (by kernel_rfl) o<|ae 1 (ptr c 0) o (by kernel_rfl) o ?_
 refine br (i:=2) (j:=5) (by kernel_rfl) o o ?_ ?_
 ·refine p 1 [5,7,29,31] o<|za<|aa [5,7,29,31] o<|ae 3 (ptr c 0) o (by kernel_rfl) o<|nY (fuel:=5) [4,5] #[true,true,true,true,true,true,false,false,false,false,false] (by kernel_rfl) ?_
  refine q_y (aM 0 f0 o o o (ay ab) tx1) o ?_
  refine q_y (aM 6 .here o o o ab ty3) o ?_
  refine eX ?_
  refine aa [5,7,29,33,34] o<|af 6 (by kernel_rfl) o ?_
  obtain⟨V,h⟩:=cr h
  refine y (jA ai (i:=(0:Int)) (j:=f) o (eF 1 o) o o V.1 V.2.1 V.2.2 o ty5) o ?_
  refine za<|aa [5,7,29,35] o<|af 7 (by kernel_rfl) o<|cB h λH J h=>oU (eB (List.take (Int.toNat f) f6.1) _ J) (by kernel_rfl) (λ_=>o) (λ_ r hr=>by rcases List.mem_singleton.1 hr with rfl;exact Res.free_own o) (.sub o (na (eF 1 o) V.1 V.2.1 V.2.2) .nil) o λa3=>?_
  refine za<|aa [5,7,29,36] o<|af 8 (by kernel_rfl) o<|p 1 [5,7,36,37] o<|za<|aa [5,7,36,37] o<|ae 9 (ptr c 0) o (by kernel_rfl) o<|af 10 (by kernel_rfl) o<|st 1 f0 tx1 o o o o tr<|pk [0,0,1,1,1,1,1] o<|za<|aa [5,7] o<|aN (by kernel_rfl)<|zt ?_
  refine zs<|dF (by kernel_rfl)<|ae 0 (ptr c 0) o (by kernel_rfl) o<|ae 1 (ptr c 0) o (by kernel_rfl) o<|ae 6 (ptr c 0) o (by kernel_rfl) o<|nY (fuel:=2) [2,3,4,5,7,8,9,10,11,12,13] #[true,true,true,true,true,true,true,true,true,true,true,true,true,true,false,false] (by kernel_rfl) ?_
  refine aA ai 2 [5,7,39,42,45] (E':=[(5,ptr M 0),(7,ptr c 0),(39,ptr c 0),(42,ptr c 1),(45,ptr c 0)]) o ?_
  refine q_y (aM 1 f1 o o o (ag (ay ab)) tx1) o ?_
  refine q_y (aM 6 .here o o o ab ty3) o ?_
  refine aA ai 2 [5,7,39,43,44,47] (E':=[(5,ptr M 0),(7,ptr c 0),(39,ptr c 0),(43,.one W51 G),(44,ti f),(47,ptr c 1)]) o ?_
  refine q_y (aM 1 f1 o o o (ag (ay ab)) tx1) o ?_
  refine q_y (cn ai 2 o o o) o ?_
  refine q_y (uw o o) o ?_
  obtain⟨W,h⟩:=cr h
  refine q_y (jA ai (i:=(0:Int)) (j:=(min f (List.length f6.2.1:Int))) o (eF 2 o) o o W.1 W.2.1 W.2.2 o ty5) o ?_
  refine aA ai 1 [5,7,51,52] (E':=[(5,ptr M 0),(7,ptr c 0),(51,.one W51 (fP (T.size (.int .u8)) G (Int.toNat (0:Int)) (Int.toNat (min f (List.length f6.2.1:Int))))),(52,ptr c 0)]) o ?_
  refine eX ?_
  refine aa [5,7,51,52] o<|ae 14 (ptr c 1) o (by kernel_rfl) o<|af 15 (by kernel_rfl) o<|qX (j:=(Int.toNat (min f (List.length f6.2.1:Int)))) 2 o (by have:=W.2.2;omega) ?_
  refine nL o<|st 1 f1 tx1 o o o o tr<|za<|aa [5,7] o<|aN (by kernel_rfl)<|zt<|zu<|p 3 [5,56] o<|yl 1 f2 pA o o o tr o<|tK Cz (by kernel_rfl) 3 6 o o o o (by decide) (by simp) o o o ?_
  refine zz<|q 1 [(6,ti 0)] [] o<|zf<|pk [1,0,0,0,0,0,0] o<|gN (P:=PP) (I:=dI) dK ?_
  refine az (R':=Res.dfiles PP dI C (di .str R (H,(List.take (Int.toNat (min f (List.length f6.2.1:Int))) f6.2.1),(mn f6.2.2 f)) u.2.1)) 0 o cp<|nL o<|pk [1,0,0] o<|cv (P:=PP) (I:=dI) (D:=(u.1,(di .str R (H,(List.take (Int.toNat (min f (List.length f6.2.1:Int))) f6.2.1),(mn f6.2.2 f)) u.2.1),u.2.2.1,u.2.2.2.1,u.2.2.2.2.1,u.2.2.2.2.2.1,u.2.2.2.2.2.2)) ?_
  cases h
  exact bd o (.tmp o) (.cons_cons _ (.cons _ .slnil))
 refine yl 6 .here ty3 o o o tr o<|za<|aa [5,7,29,30,34] o<|af 2 (by kernel_rfl) o<|p 1 [5,7,29,31,34] o<|za<|aa [5,7,29,31,34] o<|ae 3 (ptr c 0) o (by kernel_rfl) o<|af 4 (by kernel_rfl) o<|yl 0 f0 tx1 o o o tr o<|za<|aa [5,7,29,33,34] o<|af 6 (by kernel_rfl) o ?_
 obtain⟨V,h⟩:=cr h
 refine y (jA ai (i:=(0:Int)) (j:=f) o (eF 1 o) o o V.1 V.2.1 V.2.2 o ty5) o ?_
 refine za<|aa [5,7,29,35] o<|af 7 (by kernel_rfl) o<|cB h λH J h=>oU (eB (List.take (Int.toNat f) f6.1) _ J) (by kernel_rfl) (λ_=>o) (λ_ r hr=>by rcases List.mem_singleton.1 hr with rfl;exact Res.free_own o) (.sub o (na (eF 1 o) V.1 V.2.1 V.2.2) .nil) o λa3=>?_
 refine za<|aa [5,7,29,36] o<|af 8 (by kernel_rfl) o<|p 1 [5,7,36,37] o<|za<|aa [5,7,36,37] o<|ae 9 (ptr c 0) o (by kernel_rfl) o<|af 10 (by kernel_rfl) o<|st 1 f0 tx1 o o o o tr<|pk [0,0,1,1,1,1,1] o<|za<|aa [5,7] o<|aN (by kernel_rfl)<|zt ?_
 refine zs<|dF (by kernel_rfl)<|ae 0 (ptr c 0) o (by kernel_rfl) o<|ae 1 (ptr c 0) o (by kernel_rfl) o<|ae 6 (ptr c 0) o (by kernel_rfl) o<|nY (fuel:=2) [2,3,4,5,7,8,9,10,11,12,13] #[true,true,true,true,true,true,true,true,true,true,true,true,true,true,false,false] (by kernel_rfl) ?_
 refine aA ai 2 [5,7,39,42,45] (E':=[(5,ptr M 0),(7,ptr c 0),(39,ptr c 0),(42,ptr c 1),(45,ptr c 0)]) o ?_
 refine q_y (aM 1 f1 o o o (ag (ay ab)) tx1) o ?_
 refine q_y (aM 6 .here o o o ab ty3) o ?_
 refine aA ai 2 [5,7,39,43,44,47] (E':=[(5,ptr M 0),(7,ptr c 0),(39,ptr c 0),(43,.one W51 G),(44,ti f),(47,ptr c 1)]) o ?_
 refine q_y (aM 1 f1 o o o (ag (ay ab)) tx1) o ?_
 refine q_y (cn ai 2 o o o) o ?_
 refine q_y (uw o o) o ?_
 obtain⟨W,h⟩:=cr h
 refine q_y (jA ai (i:=(0:Int)) (j:=(min f (List.length f6.2.1:Int))) o (eF 2 o) o o W.1 W.2.1 W.2.2 o ty5) o ?_
 refine aA ai 1 [5,7,51,52] (E':=[(5,ptr M 0),(7,ptr c 0),(51,.one W51 (fP (T.size (.int .u8)) G (Int.toNat (0:Int)) (Int.toNat (min f (List.length f6.2.1:Int))))),(52,ptr c 0)]) o ?_
 refine eX ?_
 refine aa [5,7,51,52] o<|ae 14 (ptr c 1) o (by kernel_rfl) o<|af 15 (by kernel_rfl) o<|qX (j:=(Int.toNat (min f (List.length f6.2.1:Int)))) 2 o (by have:=W.2.2;omega) ?_
 refine nL o<|st 1 f1 tx1 o o o o tr<|za<|aa [5,7] o<|aN (by kernel_rfl)<|zt<|zu<|p 3 [5,56] o<|yl 1 f2 pA o o o tr o<|tK Cz (by kernel_rfl) 3 6 o o o o (by decide) (by simp) o o o ?_
 refine zz<|q 1 [(6,ti 0)] [] o<|zf<|pk [1,0,0,0,0,0,0] o<|gN (P:=PP) (I:=dI) dK ?_
 refine az (R':=Res.dfiles PP dI C (di .str R (H,(List.take (Int.toNat (min f (List.length f6.2.1:Int))) f6.2.1),(mn f6.2.2 f)) u.2.1)) 0 o cp<|nL o<|pk [1,0,0] o<|cv (P:=PP) (I:=dI) (D:=(u.1,(di .str R (H,(List.take (Int.toNat (min f (List.length f6.2.1:Int))) f6.2.1),(mn f6.2.2 f)) u.2.1),u.2.2.1,u.2.2.2.1,u.2.2.2.2.1,u.2.2.2.2.2.1,u.2.2.2.2.2.2)) ?_
 cases h
 exact bd o (.tmp o) (.cons_cons _ (.cons _ .slnil))
theorem iy(u:Nat)(R:Value)(f M r)(h:jo f M=some r):Fn PP 165 [ptr u 0,ti M] [Res.var u 123 DT (f.1,R,f.2.2.1,f.2.2.2.1,f.2.2.2.2.1,f.2.2.2.2.2.1,f.2.2.2.2.2.2,())] (λ_=>ti r.1) (λ_=>[Res.var u 123 DT (r.2.1,R,r.2.2.2.1,r.2.2.2.2.1,r.2.2.2.2.2.1,r.2.2.2.2.2.2.1,r.2.2.2.2.2.2.2,())]):=by
 unfold jo at h
 refine enter Tryz.func165 o 60 o o λF=>?_
 refine zu<|q 1 [(0,ptr u 0),(1,ti M)] [] o<|za<|bv h (λc=>[(0,ptr u 0),(1,ti M)]) (λc=>[Res.var u 123 DT (c.1,R,c.2.2.1,c.2.2.2.1,c.2.2.2.2.1,c.2.2.2.2.2.1,c.2.2.2.2.2.2,())]) (λG h=>?_) λc h=>?_
 ·refine zu<|p 3 [0,1,7] o<|yl 0 f4 ty3 o o o tr o<|q 1 [(9,tb (decide (f.2.2.2.2.1>0)))] [0,1] o<|za<|rI h o (λhc h=>?_) λhc h=>?_
  ·refine zu<|p 3 [0,1,10,12] o<|yl 0 f4 ty3 o o o tr o<|q 3 [(14,ti (wrap .i64 (f.2.2.2.2.1 - 1))),(16,ptr u 4)] [0,1] o<|st 0 f4 ty3 o o o o tr<|zz<|p 3 [0,1,19] o<|yl 0 f4 ty3 o o o tr o<|q 1 [(21,tb ((wrap .i64 (f.2.2.2.2.1 - 1))==0))] [0,1] o<|za<|rI h o (λhc h=>zu<|q 4 [(23,ptr u 0),(25,ptr u 5)] [] o<|st 0 f5 ty4 o o o o tr<|q 2 [(27,ptr u 6)] [] o<|st 0 f6 ty4 o o o o tr<|nL o<|zz<|q 1 [(4,ti 9)] [] o<|zf<|zT<|by cases h;exact aU o (.tmp o) (λ_ _ g=>g) (λ_ _ _=>(.cons_cons _ .slnil))) λhc h=>?_
   exact zk<|zt<|aa [0,1] o<|ah (f.1,f.2.1,f.2.2.1,f.2.2.2.1,(wrap .i64 (f.2.2.2.2.1 - 1)),f.2.2.2.2.2.1,f.2.2.2.2.2.2) () h o o
  exact zk<|zt<|aa [0,1] o<|ah (f.1,f.2.1,f.2.2.1,f.2.2.2.1,f.2.2.2.2.1,f.2.2.2.2.2.1,f.2.2.2.2.2.2) () h o o
 refine bv h (λV=>[]) (λV=>[Res.var u 123 DT (V.1,R,V.2.2.1,V.2.2.2.1,V.2.2.2.2.1,V.2.2.2.2.2.1,V.2.2.2.2.2.2,())]) (λN h=>?_) λV h=>?_
 ·refine zu<|q 3 [(0,ptr u 0),(1,ti M),(30,ptr u 2)] [] o<|yl 0 f2 ty3 o o o tr o<|q 2 [(33,tb (decide (c.2.2.1>0)))] [0,1] o ?_
  obtain⟨H,e,h⟩:=ak h;rw[e]
  refine bL h 14 (λC=>[(0,ptr u 0),(47,tb C)]) (λ_=>[Res.var u 123 DT (c.1,R,c.2.2.1,c.2.2.2.1,c.2.2.2.2.1,c.2.2.2.2.2.1,c.2.2.2.2.2.2,())]) (λJ h=>?_) λC h=>?_
  ·cases H
   ·replace h:=ifF h
    exact p 14 [0,47] o<|zn<|aa [0,47] o<|zt<|ah false () h o o
   replace h:=ifT h
   refine p 3 [0,1,33,36] o<|ap (by rfl) o ?_
   refine yl 0 f3 ty3 o o o tr o<|q 2 [(39,tb (c.2.2.2.1==0))] [0,1,33] o ?_
   obtain⟨W,e,h⟩:=ak h;rw[e]
   refine aJ 7 [(0,ptr u 0),(33,tb true),(46,tb (W||(c.2.2.2.1==M)))] [Res.var u 123 DT (c.1,R,c.2.2.1,c.2.2.2.1,c.2.2.2.2.1,c.2.2.2.2.2.1,c.2.2.2.2.2.2,())] (?_) ?_
   ·clear h
    cases W
    ·refine p 3 [0,1,33,39,42] o<|ap (by rfl) o ?_
     exact yl 0 f3 ty3 o o o tr o<|q 3 [(46,tb (c.2.2.2.1==M))] [0,33] o<|aa [0,33,46] o<|za<|ao () o o
    exact p 7 [0,33,46] o<|za<|ao () o o
   exact q 1 [(0,ptr u 0),(47,tb (W||(c.2.2.2.1==M)))] [] o<|zn<|aa [0,47] o<|zt<|ah (W||(c.2.2.2.1==M)) () h o o
  refine za<|rI h o (λhc h=>?_) λhc h=>?_
  ·refine zu<|q 3 [(0,ptr u 0),(48,ptr u 0),(50,ptr u 2)] [] o<|yl 0 f2 ty3 o o o tr o<|q 3 [(52,ti (wrap .i64 (c.2.2.1 - 1))),(54,ptr u 2)] [0] o<|st 0 f2 ty3 o o o o tr<|zz<|q 3 [(57,ptr u 2)] [] o<|yl 0 f2 ty3 o o o tr o<|q 1 [(59,tb ((wrap .i64 (c.2.2.1 - 1))==0))] [] o<|za<|rI h o (λhc h=>zu<|q 1 [(4,ti 40)] [] o<|zf<|zT<|by cases h;exact aU o (.tmp o) (λ_ _ g=>g) (λ_ _ _=>(.cons_cons _ .slnil))) λhc h=>?_
   exact zk<|zt<|aa [] o<|ah (c.1,f.2.1,(wrap .i64 (c.2.2.1 - 1)),c.2.2.2.1,c.2.2.2.2.1,c.2.2.2.2.2.1,c.2.2.2.2.2.2) () h o o
  exact zk<|zt<|aa [] o<|ah (c.1,f.2.1,c.2.2.1,c.2.2.2.1,c.2.2.2.2.1,c.2.2.2.2.2.1,c.2.2.2.2.2.2) () h o o
 refine zu<|q 1 [(4,ti 0)] [] o<|zf ?_
 cases h
 exact bd o (.tmp o) (.cons_cons _ .slnil)
theorem dt(R:Value)(f u r)(h:gI f u=some r):Fn PP 117 [tp R,ts u] [Res.disk PP dI R f] (λ_=>ti r.1) (λ_=>[Res.disk PP dI R r.2]):=by
 unfold gI at h
 refine enter Tryz.func117 o 34 o o λF=>?_
 refine gE λW M hp=>?_
 subst hp
 refine zu<|q 1 [(0,ptr W 0),(1,ts u)] [] o<|zz<|p 2 [0,9,10] o<|cB h λC N h=>gx (Lo:=[]) (fZ W M f u _ N) (by kernel_rfl) (List.Perm.refl _) o o λH=>?_
 refine p 5 [0,5,6] o<|za<|zs<|zu<|p 2 [0,5,6,15] o<|za<|rI h o (λhc h=>zu<|q 2 [(4,ti C)] [] o<|zf<|zT<|az (R':=Res.dfiles PP dI M f.2.1) 1 o fp<|cv (P:=PP) (I:=dI) (D:=f)<|by cases h;exact aU o (.tmp o) (λ_ _ g=>g) (λ_ _ _=>(.cons_cons _ .slnil))) λhc h=>zk<|zt<|zs<|zu<|p 1 [5,17] o<|cB h λc J h=>gx (Lo:=[Res.dfound PP dI M f.2.1 u (aC H 0) C]) (iy W M f 2 _ J) (by kernel_rfl) (List.Perm.refl _) o o λ_=>?_
 refine q 1 [(7,ti c.1)] [5] o<|zz<|q 2 [(20,tb (c.1 !=0))] [5,7] o<|za<|rI h o (λhc h=>zu<|q 2 [(4,ti c.1)] [] o<|zf<|zT<|az (R':=Res.dfiles PP dI M f.2.1) 1 o fp<|cv (P:=PP) (I:=dI) (D:=(c.2.1,f.2.1,c.2.2.2.1,c.2.2.2.2.1,c.2.2.2.2.2.1,c.2.2.2.2.2.2.1,c.2.2.2.2.2.2.2))<|by cases h;exact aU o (.tmp o) (λ_ _ g=>g) (λ_ _ _=>(.cons_cons _ .slnil))) λhc h=>zk<|zt<|zs<|iE h λhc h=>az (R':=Res.dat PP dI M f.2.1 u (aC H 0)) 1 o (mA hc)<|cB h λf6 d h=>pk [1,0] o<|hY dK d λV O w Z hq=>?_
 rw[hq]
 clear hq
 refine zr<|q 4 [(5,ptr V 0),(22,ptr V 0),(25,ptr V 0)] [] o<|yl 0 f0 tx1 o o o tr o<|cB h λG m h=>oU (eB f6.1 _ m) (by kernel_rfl) (λ_=>o) (λ_ r hr=>by rcases List.mem_singleton.1 hr with rfl;exact Res.free_own o) (.sub o (eF 1 o) .nil) o λa2=>?_
 refine p 2 [5,27,29] o<|st 1 f1 tx1 o o o o tr<|nL o<|pk [0,0,0,1,1,1] o<|zz<|q 3 [(32,ptr V 2)] [] o<|yl 1 f2 pA o o o tr o<|mm 3 o λa3 a4=>?_
 refine yn 3 o o Tryz.underlying235 ?_
 refine iD (P:=PP) (I:=dI) (keys:=[]) 3 o o ?_
 refine zz<|q 1 [(4,ti 0)] [] o<|zf<|pk [1,1,0,0,0,0] o<|gN (P:=PP) (I:=dI) dK ?_
 refine az (R':=Res.dfiles PP dI M (di .str u (f6.1,G,[]) f.2.1)) 0 o cp<|pk [1,0] o<|cv (P:=PP) (I:=dI) (D:=(c.2.1,(di .str u (f6.1,G,[]) f.2.1),c.2.2.2.1,c.2.2.2.2.1,c.2.2.2.2.2.1,c.2.2.2.2.2.2.1,c.2.2.2.2.2.2.2)) ?_
 cases h
 exact bd o (.tmp o) (.cons_cons _ .slnil)
theorem go(c r)(h:gT c=some r):Fn PP 118 [.one W67 c] [] (λv=> .one W51 v) (λv=>[Res.own v 9 .str r]):=by
 unfold gT at h
 refine enter Tryz.func118 o 8 o o λF=>?_
 refine zu<|q 1 [(0,.one W67 c)] [] o<|za<|zs<|zu<|p 1 [0,3] o<|s6 o Tryz.underlying128 o λg1 f=>?_
 refine za ?_
 refine gO (b:=g1) o (λhc=>?_) (λhc=>?_)
 ·have hx:=f hc
  subst hx
  have h:(some []:Option (List (List Int)))=some r:=by simpa using h
  refine zu<|q 1 [(2,.one W51 (.slice none 0 0))] [] o<|zf<|zT<|cj (.slice none 0 0) o 9 .str ?_
  cases h
  exact aU o (.tmp o) (λ_ _ g=>holds_raw.2 ⟨rfl,by rw[(holds_raw.1 g).1];exact(holds_raw.1 g).2⟩) (λ_ _ g=>by obtain⟨rfl,_⟩:=holds_raw.1 g;exact(.cons_cons _ .slnil))
 refine zy<|bE (B:=16) ai o el9 o o o .nil o λu=>?_
 refine q 1 [(5,.one W51 u),(6,.one W67 c)] [] o<|iE h λhc h=>bq (B:=16) ai 0 o o (ut o) o el9 o o hc o λM=>?_
 refine q 1 [(2,.one W51 M)] [] o<|zf ?_
 cases h
 exact aU o (.tmp o) (λ_ _ g=>holds_raw.2 ⟨rfl,by rw[(holds_raw.1 g).1];exact(holds_raw.1 g).2⟩) (λ_ _ g=>by obtain⟨rfl,_⟩:=holds_raw.1 g;exact(.cons_cons _ .slnil))
theorem xU(f:Value)(d a1 m W r)(h:ug d a1 m W=some r):FnT PP bF 65 [tp f,ts a1,ti m,ti W] [Res.disk PP dI f d] (λv=> .tup [⟨.raw (.pointer none),aC v 0⟩,⟨.raw (.slice none 0 0),aC v 1⟩,⟨(.int .i64),r.2.2.1⟩]) (λv=>[Res.disk PP dI f r.2.2.2,Res.clsif (cg f) (aC v 0) r.1.2 r.1.1,Res.own (aC v 1) 9 .str r.2.1]):=by
 unfold ug at h
 refine C1 Tryz.func65 o 153 o o λF hT=>?_
 refine zu<|aD (t:=W52) o Cw o λM=>aD (t:=W51) o Em o λV=>cj (.slice none 0 0) o 9 .str ?_
 refine aD (t:=(.int .i64)) o E6 o λR=>za<|yh ?_
 refine zs<|zu<|q 1 [(0,tp f),(1,ts a1),(2,ti m),(3,ti W),(8,ptr M 0),(9,ptr V 0),(10,ptr R 0),(23,ts a1)] [] o<|cB h λr4 e9 h=>av (xu _ _ e9) (ca o) o o<|p 2 [0,1,2,3,8,9,10,26] o ?_
 obtain⟨b5,e,h⟩:=ak h;rw[e]
 refine aJ 3 [(0,tp f),(1,ts a1),(2,ti m),(3,ti W),(8,ptr M 0),(9,ptr V 0),(10,ptr R 0),(29,tb (b5||(decide (m<64))))] [Res.var R 31 (.int .i64) 0,Res.own (.slice none 0 0) 9 .str [],Res.var V 128 W51 (.slice none 0 0),Res.var M 127 W52 (.pointer none),Res.disk PP dI f d] (?_) ?_
 ·clear h
  cases b5
  ·exact p 3 [0,1,2,3,8,9,10,29] o<|za<|ao () o o
  exact p 3 [0,1,2,3,8,9,10,29] o<|za<|ao () o o
 refine q 1 [(0,tp f),(1,ts a1),(2,ti m),(3,ti W),(8,ptr M 0),(9,ptr V 0),(10,ptr R 0),(30,tb (b5||(decide (m<64))))] [] o ?_
 obtain⟨b6,e,h⟩:=ak h;rw[e]
 refine aJ 3 [(0,tp f),(1,ts a1),(2,ti m),(3,ti W),(8,ptr M 0),(9,ptr V 0),(10,ptr R 0),(33,tb (b6||(decide (m>1048576))))] [Res.var R 31 (.int .i64) 0,Res.own (.slice none 0 0) 9 .str [],Res.var V 128 W51 (.slice none 0 0),Res.var M 127 W52 (.pointer none),Res.disk PP dI f d] (?_) ?_
 ·clear h
  cases b6
  ·exact p 3 [0,1,2,3,8,9,10,33] o<|za<|ao () o o
  exact p 3 [0,1,2,3,8,9,10,33] o<|za<|ao () o o
 refine q 1 [(0,tp f),(1,ts a1),(2,ti m),(3,ti W),(8,ptr M 0),(9,ptr V 0),(10,ptr R 0),(34,tb (b6||(decide (m>1048576))))] [] o ?_
 obtain⟨b7,e,h⟩:=ak h;rw[e]
 refine aJ 3 [(0,tp f),(1,ts a1),(2,ti m),(3,ti W),(8,ptr M 0),(9,ptr V 0),(10,ptr R 0),(37,tb (b7||(decide (W<0))))] [Res.var R 31 (.int .i64) 0,Res.own (.slice none 0 0) 9 .str [],Res.var V 128 W51 (.slice none 0 0),Res.var M 127 W52 (.pointer none),Res.disk PP dI f d] (?_) ?_
 ·clear h
  cases b7
  ·exact p 3 [0,1,2,3,8,9,10,37] o<|za<|ao () o o
  exact p 3 [0,1,2,3,8,9,10,37] o<|za<|ao () o o
 refine q 1 [(0,tp f),(1,ts a1),(2,ti m),(3,ti W),(8,ptr M 0),(9,ptr V 0),(10,ptr R 0),(38,tb (b7||(decide (W<0))))] [] o ?_
 obtain⟨b8,e,h⟩:=ak h;rw[e]
 refine aJ 3 [(0,tp f),(1,ts a1),(2,ti m),(3,ti W),(8,ptr M 0),(9,ptr V 0),(10,ptr R 0),(41,tb (b8||(decide (W>1152921504606846976))))] [Res.var R 31 (.int .i64) 0,Res.own (.slice none 0 0) 9 .str [],Res.var V 128 W51 (.slice none 0 0),Res.var M 127 W52 (.pointer none),Res.disk PP dI f d] (?_) ?_
 ·clear h
  cases b8
  ·exact p 3 [0,1,2,3,8,9,10,41] o<|za<|ao () o o
  exact p 3 [0,1,2,3,8,9,10,41] o<|za<|ao () o o
 refine za<|rI h o (λhc h=>?_) λhc h=>?_
 ·refine zu<|st 3 .here cT o o o o tr<|cj (.slice none 0 0) o 9 .str ?_
  refine st 3 .here tx4 o o o o tr<|nL o<|st 1 .here fk o o o o tr<|zf<|zT<|jz ?_
  refine nG ?_
  refine eG (K:=(cg f)) (x:=((),[],0,[],0,false,())) (e:=1) (by decide) ?_
  refine pk [6,0,0,0,0,0,0] o ?_
  cases h
  exact aF (rs:=[.cell 8 127,.cell 9 128,.cell 10 31]) o (.cons (.cell 6 .here o o o ab cT) (.cons (.cell 5 .here o o o ab tx4) (.cons (.cell 3 .here o o o ab fk) (.nil)))) o (λ_ vs g=>by cases g with|cons H g=>cases g with|cons G g=>cases g with|cons J g=>cases g;exact⟨_,o,.cons (bf H) (.cons (bf G) (.cons J (.nil)))⟩) (λ_ vs g=>by cases g with|cons H g=>cases g with|cons G g=>cases g with|cons J g=>cases g;rw[bT H];rw[bT G];exact(.cons_cons _ (.cons_cons _ (.cons_cons _ (.cons _ (.cons _ (.cons _ (.cons _ .slnil))))))))
 refine zk<|zt<|zs<|zu<|q 1 [(0,tp f),(1,ts a1),(2,ti m),(3,ti W),(8,ptr M 0),(9,ptr V 0),(10,ptr R 0),(42,tp f)] [] o<|cB h λr9 f5 h=>rc [4] (uk _ _ _ f5) (ca o) o o o λ_=>za<|rI h o (λhc h=>?_) λhc h=>?_
 ·refine zu<|st 4 .here cT o o o o tr<|cj (.slice none 0 0) o 9 .str ?_
  refine st 4 .here tx4 o o o o tr<|nL o<|st 2 .here fk o o o o tr<|zf<|zT<|jz ?_
  refine nG ?_
  refine eG (K:=(cg f)) (x:=((),[],0,[],0,false,())) (e:=1) (by decide) ?_
  refine pk [2,0,0,0,0,0,0] o ?_
  cases h
  exact aF (rs:=[.cell 8 127,.cell 9 128,.cell 10 31]) o (.cons (.cell 6 .here o o o ab cT) (.cons (.cell 5 .here o o o ab tx4) (.cons (.cell 3 .here o o o ab fk) (.nil)))) o (λ_ vs g=>by cases g with|cons H g=>cases g with|cons G g=>cases g with|cons J g=>cases g;exact⟨_,o,.cons (bf H) (.cons (bf G) (.cons J (.nil)))⟩) (λ_ vs g=>by cases g with|cons H g=>cases g with|cons G g=>cases g with|cons J g=>cases g;rw[bT H];rw[bT G];exact(.cons_cons _ (.cons_cons _ (.cons_cons _ (.cons _ (.cons _ (.cons _ (.cons _ .slnil))))))))
 refine zy<|p 4 [0,3,8,9,10,44,45,46,47] o<|y (bc o Er o o (.cons f0 o o (ay ab) (.cons f1 o o (ag (ay ab)) (.cons f2 o o (ag (ag (ay ab))) (.cons f4 o o (ag (ag (ag (ag (ay ab))))) .nil))))) o ?_
 refine bD o o λu=>cj (.slice none 0 0) o 195 Y195 ?_
 refine aD (t:=W52) o Cw o λC=>st 0 .here cT o o o o tr<|zz<|aD (t:=(.int .i64)) o zf3 o λZ=>st 0 .here ty3 o o o o tr<|nL o<|za<|bX h λd8 f6 h=>?_
 refine xl (γ:=Unit) (λ(O:(Unit×List Int×Int×(List ck)×cq)×Int) _=>[(0,tp f),(3,ti W),(8,ptr M 0),(9,ptr V 0),(10,ptr R 0),(11,ptr C 0),(12,ptr Z 0)]) (λD0 (O:(Unit×List Int×Int×(List ck)×cq)×Int) _=>[Res.cls (cg f) (.pointer (some ⟨u,0,none⟩)) O.1,Res.var Z 3 (.int .i64) O.2,Res.var C 127 W52 (.pointer (some ⟨u,0,none⟩)),Res.disk PP dI f d,Res.var R 31 (.int .i64) 0,Res.own (.slice none 0 0) 9 .str [],Res.var V 128 W51 (.slice none 0 0),Res.var M 127 W52 (.pointer none),Res.dfr D0]) d8 r ?_ ?_
 ·refine zu<|yl 1 .here cT o o o tr o<|vX (n1 _) (ca o) o o λc8=>?_
  refine za<|zb<|pk [4,3,0,0,0,0,0,0,0,0] o<|bS (x:=((),a1,m,[],W,false,())) (q:=f) ?_
  refine cB h λg7 f7 h=>aa [0,3,8,9,10,11,12,51] o ?_
  refine xj (γ:=Unit) (λ(b4:Int) _=>[Res.cls (cg f) (.pointer (some ⟨u,0,none⟩)) ((),a1,m,[],W,false,()),Res.var c8 127 W52 (.pointer (some ⟨u,0,none⟩)),Res.var Z 3 (.int .i64) b4,Res.var C 127 W52 (.pointer (some ⟨u,0,none⟩)),Res.disk PP dI f d,Res.var R 31 (.int .i64) 0,Res.own (.slice none 0 0) 9 .str [],Res.var V 128 W51 (.slice none 0 0),Res.var M 127 W52 (.pointer none)]) (lN d a1 m W d8) (-1) () [1,0,2] hT (by rfl) (λ_ _ a b=>TabM.mono a b) (mW _ _ _ _ _ _ f7) (by kernel_rfl) h o o o o o (λl F1 D0 c5 g8 b4 gg hT h=>?_) (λD0 b4 gg h=>?_)
  ·simp only[lN]at h
   refine xg ?_
   refine mE ?_
   refine mE ?_
   refine jO o ?_
   refine yl 2 .here ty3 o o o tr o<|p 2 [8,9,10,12,13,55] o ?_
   obtain⟨d6,e,h⟩:=ak h;rw[e]
   refine aJ 5 [(8,ptr M 0),(9,ptr V 0),(10,ptr R 0),(12,ptr Z 0),(13,ti c5),(60,tb (d6&&(c5 !=(wrap .i64 (b4+1)))))] [Res.cls (cg f) (.pointer (some ⟨u,0,none⟩)) ((),a1,m,[],W,false,()),Res.var c8 127 W52 (.pointer (some ⟨u,0,none⟩)),Res.var Z 3 (.int .i64) b4,Res.var C 127 W52 (.pointer (some ⟨u,0,none⟩)),Res.disk PP dI f d,Res.var R 31 (.int .i64) 0,Res.own (.slice none 0 0) 9 .str [],Res.var V 128 W51 (.slice none 0 0),Res.var M 127 W52 (.pointer none)] (?_) ?_
   ·clear h
    cases d6
    ·exact p 5 [8,9,10,12,13,60] o<|za<|ao () o o
    refine p 1 [8,9,10,12,13,55,56] o<|ap (by rfl) o ?_
    exact yl 2 .here ty3 o o o tr o<|p 3 [8,9,10,12,13,60] o<|za<|ao () o o
   refine za ?_
   refine zl (b:=(d6&&(c5 !=(wrap .i64 (b4+1))))) o (λhc=>?_) (λhc=>?_)
   ·rw[if_pos hc]at h
    refine mE ?_
    refine jO o ?_
    refine st 8 .here cT o o o o tr<|cj (.slice none 0 0) o 9 .str ?_
    refine st 8 .here tx4 o o o o tr<|nL o<|st 6 .here fk o o o o tr<|za<|AH ?_
    refine zT<|zB<|AJ (L2:=[Res.own (.slice none 0 0) 9 .str [],Res.cls (cg f) (.pointer (some ⟨u,0,none⟩)) ((),a1,m,[],W,false,()),Res.var c8 127 W52 (.pointer (some ⟨u,0,none⟩)),Res.var Z 3 (.int .i64) b4,Res.var C 127 W52 (.pointer (some ⟨u,0,none⟩)),Res.disk PP dI f d,Res.var R 31 (.int .i64) 60,Res.own (.slice none 0 0) 9 .str [],Res.var V 128 W51 (.slice none 0 0),Res.var M 127 W52 (.pointer none),Res.dfr D0]) o ?_
    refine zB<|zT<|jz ?_
    refine jR [10] o ?_
    refine nG ?_
    refine eG (K:=(cg f)) (x:=((),[],0,[],0,false,())) (e:=1) (by decide) ?_
    refine pk [6,0,0,0,0,0,0,0,0,0,0] o ?_
    cases h
    exact aF (rs:=[.cell 8 127,.cell 9 128,.cell 10 31]) o (.cons (.cell 10 .here o o o ab cT) (.cons (.cell 9 .here o o o ab tx4) (.cons (.cell 7 .here o o o ab fk) (.nil)))) o (λ_ vs g=>by cases g with|cons H g=>cases g with|cons G g=>cases g with|cons J g=>cases g;exact⟨_,o,.cons (bf H) (.cons (bf G) (.cons J (.nil)))⟩) (λ_ vs g=>by cases g with|cons H g=>cases g with|cons G g=>cases g with|cons J g=>cases g;rw[bT H];rw[bT G];exact(.cons_cons _ (.cons_cons _ (.cons_cons _ (.cons _ (.cons _ (.cons _ (.cons _ (.cons _ (.cons _ (.cons _ (.cons _ .slnil))))))))))))
   rw[if_neg (ne_true_of_eq_false hc)]at h
   refine vp ?_
   refine zt<|jO o ?_
   exact q 1 [(12,ptr Z 0),(61,ti c5)] [] o<|st 2 .here ty3 o o o o tr<|zn<|zi<|yH c5 () h o
  simp only[lN]at h
  refine Ci (L2:=[Res.cls (cg f) (.pointer (some ⟨u,0,none⟩)) ((),a1,m,[],W,false,()),Res.var c8 127 W52 (.pointer (some ⟨u,0,none⟩)),Res.var Z 3 (.int .i64) b4,Res.var C 127 W52 (.pointer (some ⟨u,0,none⟩)),Res.disk PP dI f d,Res.var R 31 (.int .i64) 0,Res.own (.slice none 0 0) 9 .str [],Res.var V 128 W51 (.slice none 0 0),Res.var M 127 W52 (.pointer none),Res.dfr D0]) o ?_
  exact zi<|zt<|pk [0,1,1,1,1,1,1,1,1] o<|aa [0,3,8,9,10,11,12] o<|ud (((),a1,m,[],W,false,()),b4) () h o o
 intro D0 O gg h
 rw[←f6]at h
 try dsimp only at h
 refine zu<|aD (t:=W33) o Es o λN=>cj (.slice none 0 0) o 9 .str ?_
 refine zz<|aD (t:= .bool) o zf4 o λa7=>st 0 .here ty4 o o o o tr<|za<|zs<|yi ?_
 refine zt<|bX h λd9 f8 h=>?_
 refine xl (γ:=Unit) (λ(c:nj×(Unit×List Int×Int×(List ck)×cq)×Bool) _=>[(0,tp f),(3,ti W),(8,ptr M 0),(9,ptr V 0),(10,ptr R 0),(11,ptr C 0),(14,ptr N 0),(15,ptr a7 0)]) (λD1 (c:nj×(Unit×List Int×Int×(List ck)×cq)×Bool) _=>[Res.cls ik (.pointer (some ⟨N,0,none⟩)) c.1,Res.cls (cg f) (.pointer (some ⟨u,0,none⟩)) c.2.1,Res.disk PP dI f d,Res.var a7 4 .bool c.2.2,Res.var Z 3 (.int .i64) O.2,Res.var C 127 W52 (.pointer (some ⟨u,0,none⟩)),Res.var R 31 (.int .i64) 0,Res.own (.slice none 0 0) 9 .str [],Res.var V 128 W51 (.slice none 0 0),Res.var M 127 W52 (.pointer none),Res.dfr D0,Res.dfr D1]) d9 r ?_ ?_
 ·refine zu<|yl 5 .here cT o o o tr o<|vX (n1 _) (ca o) o o λc9=>?_
  refine za<|zb<|pk [3,2,0,0,0,0,0,0,0,0,0,0,0] o<|iO (x:=([],0,false,false,())) ?_
  refine cB h λg9 f9 h=>aa [0,3,8,9,10,11,12,14,15,63] o ?_
  refine xj (γ:=Unit) (λ(b0:nj×(Unit×List Int×Int×(List ck)×cq)) _=>[Res.cls ik (.pointer (some ⟨N,0,none⟩)) b0.1,Res.var c9 127 W52 (.pointer (some ⟨u,0,none⟩)),Res.var a7 4 .bool false,Res.cls (cg f) (.pointer (some ⟨u,0,none⟩)) b0.2,Res.var Z 3 (.int .i64) O.2,Res.var C 127 W52 (.pointer (some ⟨u,0,none⟩)),Res.disk PP dI f d,Res.var R 31 (.int .i64) 0,Res.own (.slice none 0 0) 9 .str [],Res.var V 128 W51 (.slice none 0 0),Res.var M 127 W52 (.pointer none),Res.dfr D0]) (lM d O d9) (([],0,false,false,()),O.1) () [1,2,4] hT (by rfl) (λ_ _ a b=>TabM.mono a b) (mW _ _ _ _ _ _ f9) (by kernel_rfl) h o o o o o (λl F1 D1 d0 h3 b0 gg hT h=>?_) (λD1 b0 gg h=>?_)
  ·simp only[lM]at h
   refine xg ?_
   refine mE ?_
   refine mE ?_
   refine jO o ?_
   refine yl 5 .here cT o o o tr o<|p 1 [0,3,8,9,10,11,12,14,15,16,65,66] o<|cB h λa4 g0 h=>BF hT (by rfl) [3,0,4] (uY (.pointer (some ⟨u,0,none⟩)) (.pointer (some ⟨N,0,none⟩)) f b0.2 d0 b0.1 d _ g0) (by kernel_rfl) o o o λ_=>?_
   refine q 1 [(17,ti a4.1)] [0,3,8,9,10,11,12,14,15,16] o<|za<|mE ?_
   refine jO o ?_
   refine q 2 [(69,tb (a4.1 !=0))] [0,3,8,9,10,11,12,14,15,16,17] o<|za ?_
   refine zl (b:=(a4.1 !=0)) o (λhc=>?_) (λhc=>?_)
   ·rw[if_pos hc]at h
    refine mE ?_
    refine jO o ?_
    refine q 1 [(70,ti a4.1)] [8,9,10] o<|st 10 .here cT o o o o tr<|cj (.slice none 0 0) o 9 .str ?_
    refine st 10 .here tx4 o o o o tr<|nL o<|st 8 .here fk o o o o tr<|za<|AH ?_
    refine zT<|zB<|AJ (L2:=[Res.own (.slice none 0 0) 9 .str [],Res.cls (cg f) (.pointer (some ⟨u,0,none⟩)) a4.2.1,Res.cls ik (.pointer (some ⟨N,0,none⟩)) a4.2.2,Res.disk PP dI f d,Res.var c9 127 W52 (.pointer (some ⟨u,0,none⟩)),Res.var a7 4 .bool false,Res.var Z 3 (.int .i64) O.2,Res.var C 127 W52 (.pointer (some ⟨u,0,none⟩)),Res.var R 31 (.int .i64) a4.1,Res.own (.slice none 0 0) 9 .str [],Res.var V 128 W51 (.slice none 0 0),Res.var M 127 W52 (.pointer none),Res.dfr D0,Res.dfr D1]) o ?_
    refine zB<|zT<|jz ?_
    refine jR [13] o ?_
    refine jR [12] o ?_
    refine nG ?_
    refine eG (K:=(cg f)) (x:=((),[],0,[],0,false,())) (e:=1) (by decide) ?_
    refine pk [4,0,0,0,0,0,0,0,0,0,0,0,0] o ?_
    cases h
    exact aF (rs:=[.cell 8 127,.cell 9 128,.cell 10 31]) o (.cons (.cell 12 .here o o o ab cT) (.cons (.cell 11 .here o o o ab tx4) (.cons (.cell 9 .here o o o ab fk) (.nil)))) o (λ_ vs g=>by cases g with|cons H g=>cases g with|cons G g=>cases g with|cons J g=>cases g;exact⟨_,o,.cons (bf H) (.cons (bf G) (.cons J (.nil)))⟩) (λ_ vs g=>by cases g with|cons H g=>cases g with|cons G g=>cases g with|cons J g=>cases g;rw[bT H];rw[bT G];exact(.cons_cons _ (.cons_cons _ (.cons_cons _ (.cons _ (.cons _ (.cons _ (.cons _ (.cons _ (.cons _ (.cons _ (.cons _ (.cons _ (.cons _ .slnil))))))))))))))
   rw[if_neg (ne_true_of_eq_false hc)]at h
   refine vp ?_
   refine zt<|mE ?_
   refine pk [1,0,0,0,0,0,0,0,0,0,0,0] o<|lO λe0=>?_
   refine jO o ?_
   refine p 1 [0,3,8,9,10,11,12,14,15,16,71] o<|yl 0 f3 ty4 o o o tr o<|za ?_
   refine zl (b:=a4.2.2.2.2.2.1) o (λhc=>?_) (λhc=>?_)
   ·rw[if_pos hc]at h
    refine mE ?_
    refine jO o ?_
    refine p 1 [0,3,8,9,10,11,12,14,15,73] o<|yl 6 .here ty3 o o o tr o<|q 1 [(75,tb (d0 !=O.2))] [0,3,8,9,10,11,14,15] o<|st 5 .here ty4 o o o o tr<|za<|CY ?_
    refine wC o ?_
    refine CZ (L2:=[Res.var N 191 W33 (e0,a4.2.2.2.1,a4.2.2.2.2.1,a4.2.2.2.2.2.1,a4.2.2.2.2.2.2),Res.own e0 9 .str a4.2.2.1,Res.cls (cg f) (.pointer (some ⟨u,0,none⟩)) a4.2.1,Res.disk PP dI f d,Res.var c9 127 W52 (.pointer (some ⟨u,0,none⟩)),Res.var a7 4 .bool (d0 !=O.2),Res.var Z 3 (.int .i64) O.2,Res.var C 127 W52 (.pointer (some ⟨u,0,none⟩)),Res.var R 31 (.int .i64) 0,Res.own (.slice none 0 0) 9 .str [],Res.var V 128 W51 (.slice none 0 0),Res.var M 127 W52 (.pointer none),Res.dfr D0,Res.dfr D1]) o ?_
    refine zq<|zt<|iO (x:=a4.2.2) ?_
    exact pk [0,0,0,1,1,1,1,1,1,1,1,1] o<|aa [0,3,8,9,10,11,14,15] o<|ud (a4.2.2,a4.2.1,(d0 !=O.2)) () h o o
   rw[if_neg (ne_true_of_eq_false hc)]at h
   refine vp ?_
   refine zi<|iO (x:=a4.2.2) ?_
   exact pk [0,2,2,0,1,1,0,0,0,0,0,0] o<|yH (a4.2.2,a4.2.1) () h o
  simp only[lM]at h
  refine Ci (L2:=[Res.cls ik (.pointer (some ⟨N,0,none⟩)) b0.1,Res.var c9 127 W52 (.pointer (some ⟨u,0,none⟩)),Res.var a7 4 .bool false,Res.cls (cg f) (.pointer (some ⟨u,0,none⟩)) b0.2,Res.var Z 3 (.int .i64) O.2,Res.var C 127 W52 (.pointer (some ⟨u,0,none⟩)),Res.disk PP dI f d,Res.var R 31 (.int .i64) 0,Res.own (.slice none 0 0) 9 .str [],Res.var V 128 W51 (.slice none 0 0),Res.var M 127 W52 (.pointer none),Res.dfr D0,Res.dfr D1]) o ?_
  exact zi<|zt<|pk [0,1,1,1,1,1,1,1,1,1,1,1] o<|aa [0,3,8,9,10,11,14,15] o<|pk [0,1,3,0,0,0,0,0,0,0,0,0] o<|ud (b0.1,b0.2,false) () h o o
 intro D1 c gg h
 rw[←f8]at h
 try dsimp only at h
 refine zs<|zs<|lO λa8=>?_
 refine pk [2,0,0,0,0,0,0,0,0,0,0,0,0] o<|fo λc0=>?_
 refine zr<|yl 5 .here ty4 o o o tr o<|q 1 [(11,ptr C 0),(14,ptr N 0),(77,tb c.2.2)] [0,3,8,9,10] o<|bL h 17 (λe1=>[(0,tp f),(3,ti W),(8,ptr M 0),(9,ptr V 0),(10,ptr R 0),(11,ptr C 0),(14,ptr N 0),(94,tb e1)]) (λ_=>[Res.var u 186 W25 (f,c.2.1.2.1,c.2.1.2.2.1,c0,c.2.1.2.2.2.2.1,c.2.1.2.2.2.2.2.1,c.2.1.2.2.2.2.2.2),Res.own c0 195 Y195 c.2.1.2.2.2.1,Res.var N 191 W33 (a8,c.1.2.1,c.1.2.2.1,c.1.2.2.2.1,c.1.2.2.2.2),Res.own a8 9 .str c.1.1,Res.disk PP dI f d,Res.var a7 4 .bool c.2.2,Res.var Z 3 (.int .i64) O.2,Res.var C 127 W52 (.pointer (some ⟨u,0,none⟩)),Res.var R 31 (.int .i64) 0,Res.own (.slice none 0 0) 9 .str [],Res.var V 128 W51 (.slice none 0 0),Res.var M 127 W52 (.pointer none),Res.dfr D0,Res.dfr D1]) (λh4 h=>?_) λe1 h=>?_
 ·rcases Bool.eq_false_or_eq_true c.2.2 with hh|hh
  ·rw[if_pos hh]at h
   refine nZ 77 hh o ?_
   exact p 17 [0,3,8,9,10,11,14,94] o<|zn<|aa [0,3,8,9,10,11,14,94] o<|zt<|ah true () h o o
  rw[if_neg (ne_true_of_eq_false hh)]at h
  refine nZ 77 hh o ?_
  refine p 1 [0,3,8,9,10,11,14,77,78] o<|ap (by rfl) o ?_
  refine yl 2 f2 ty4 o o o tr o<|q 1 [(80,tb c.1.2.2.1)] [0,3,8,9,10,11,14,77] o<|bL h 13 (λd1=>[(0,tp f),(3,ti W),(8,ptr M 0),(9,ptr V 0),(10,ptr R 0),(11,ptr C 0),(14,ptr N 0),(77,tb false),(93,tb d1)]) (λ_=>[Res.var u 186 W25 (f,c.2.1.2.1,c.2.1.2.2.1,c0,c.2.1.2.2.2.2.1,c.2.1.2.2.2.2.2.1,c.2.1.2.2.2.2.2.2),Res.own c0 195 Y195 c.2.1.2.2.2.1,Res.var N 191 W33 (a8,c.1.2.1,c.1.2.2.1,c.1.2.2.2.1,c.1.2.2.2.2),Res.own a8 9 .str c.1.1,Res.disk PP dI f d,Res.var a7 4 .bool c.2.2,Res.var Z 3 (.int .i64) O.2,Res.var C 127 W52 (.pointer (some ⟨u,0,none⟩)),Res.var R 31 (.int .i64) 0,Res.own (.slice none 0 0) 9 .str [],Res.var V 128 W51 (.slice none 0 0),Res.var M 127 W52 (.pointer none),Res.dfr D0,Res.dfr D1]) (λh5 h=>?_) λd1 h=>?_
  ·rcases Bool.eq_false_or_eq_true c.1.2.2.1 with hh|hh
   ·rw[if_pos hh]at h
    refine nZ 80 hh o ?_
    refine p 1 [0,3,8,9,10,11,14,77,80,81] o<|ap (by rfl) o ?_
    refine yl 2 f1 ty2 o o o tr o<|q 3 [(85,tb (decide (c.1.2.1>W)))] [0,3,8,9,10,11,14,77,80] o ?_
    obtain⟨d2,e,h⟩:=ak h;rw[e]
    refine aJ 7 [(0,tp f),(3,ti W),(8,ptr M 0),(9,ptr V 0),(10,ptr R 0),(11,ptr C 0),(14,ptr N 0),(77,tb false),(80,tb true),(92,tb (d2||(decide (c.2.1.2.2.2.2.1<W))))] [Res.var u 186 W25 (f,c.2.1.2.1,c.2.1.2.2.1,c0,c.2.1.2.2.2.2.1,c.2.1.2.2.2.2.2.1,c.2.1.2.2.2.2.2.2),Res.own c0 195 Y195 c.2.1.2.2.2.1,Res.var N 191 W33 (a8,c.1.2.1,c.1.2.2.1,c.1.2.2.2.1,c.1.2.2.2.2),Res.own a8 9 .str c.1.1,Res.disk PP dI f d,Res.var a7 4 .bool c.2.2,Res.var Z 3 (.int .i64) O.2,Res.var C 127 W52 (.pointer (some ⟨u,0,none⟩)),Res.var R 31 (.int .i64) 0,Res.own (.slice none 0 0) 9 .str [],Res.var V 128 W51 (.slice none 0 0),Res.var M 127 W52 (.pointer none),Res.dfr D0,Res.dfr D1] (?_) ?_
    ·clear h
     cases d2
     ·refine ap (by rfl) o ?_
      refine yl 7 .here cT o o o tr o<|p 2 [0,3,8,9,10,11,14,77,80,85,88] o<|ap (by rfl) o ?_
      exact yl 0 f4 ty2 o o o tr o<|q 3 [(92,tb (decide (c.2.1.2.2.2.2.1<W)))] [0,3,8,9,10,11,14,77,80] o<|aa [0,3,8,9,10,11,14,77,80,92] o<|za<|ao () o o
     exact p 7 [0,3,8,9,10,11,14,77,80,92] o<|za<|ao () o o
    exact q 1 [(0,tp f),(3,ti W),(8,ptr M 0),(9,ptr V 0),(10,ptr R 0),(11,ptr C 0),(14,ptr N 0),(77,tb false),(93,tb (d2||(decide (c.2.1.2.2.2.2.1<W))))] [] o<|zn<|aa [0,3,8,9,10,11,14,77,93] o<|zt<|ah (d2||(decide (c.2.1.2.2.2.2.1<W))) () h o o
   rw[if_neg (ne_true_of_eq_false hh)]at h
   refine nZ 80 hh o ?_
   exact p 13 [0,3,8,9,10,11,14,77,93] o<|zn<|aa [0,3,8,9,10,11,14,77,93] o<|zt<|ah false () h o o
  exact q 1 [(0,tp f),(3,ti W),(8,ptr M 0),(9,ptr V 0),(10,ptr R 0),(11,ptr C 0),(14,ptr N 0),(94,tb d1)] [] o<|zn<|aa [0,3,8,9,10,11,14,94] o<|zt<|ah d1 () h o o
 refine za<|rI h o (λhc h=>?_) λhc h=>?_
 ·refine zu<|st 11 .here cT o o o o tr<|cj (.slice none 0 0) o 9 .str ?_
  refine st 11 .here tx4 o o o o tr<|nL o<|st 9 .here fk o o o o tr<|zf<|zT<|jz ?_
  refine jR [14] o ?_
  refine jR [13] o ?_
  refine nG ?_
  refine eG (K:=(cg f)) (x:=((),[],0,[],0,false,())) (e:=1) (by decide) ?_
  refine pk [6,0,0,0,0,0,0,0,0,0,0,0,0,0] o ?_
  cases h
  exact aF (rs:=[.cell 8 127,.cell 9 128,.cell 10 31]) o (.cons (.cell 13 .here o o o ab cT) (.cons (.cell 12 .here o o o ab tx4) (.cons (.cell 10 .here o o o ab fk) (.nil)))) o (λ_ vs g=>by cases g with|cons H g=>cases g with|cons G g=>cases g with|cons J g=>cases g;exact⟨_,o,.cons (bf H) (.cons (bf G) (.cons J (.nil)))⟩) (λ_ vs g=>by cases g with|cons H g=>cases g with|cons G g=>cases g with|cons J g=>cases g;rw[bT H];rw[bT G];exact(.cons_cons _ (.cons_cons _ (.cons_cons _ (.cons _ (.cons _ (.cons _ (.cons _ (.cons _ (.cons _ (.cons _ (.cons _ (.cons _ (.cons _ (.cons _ .slnil)))))))))))))))
 refine zk<|zt<|jK h (γ:=Value) (λd3 c2=>[(0,tp f),(3,ti W),(8,ptr M 0),(9,ptr V 0),(10,ptr R 0),(11,ptr C 0),(14,ptr N 0)]) (λd3 c2=>[Res.disk PP dI f d3,Res.var u 186 W25 (f,c.2.1.2.1,c.2.1.2.2.1,c2,c.2.1.2.2.2.2.1,c.2.1.2.2.2.2.2.1,c.2.1.2.2.2.2.2.2),Res.own c2 195 Y195 c.2.1.2.2.2.1,Res.var N 191 W33 (a8,c.1.2.1,c.1.2.2.1,c.1.2.2.2.1,c.1.2.2.2.2),Res.own a8 9 .str c.1.1,Res.var a7 4 .bool c.2.2,Res.var Z 3 (.int .i64) O.2,Res.var C 127 W52 (.pointer (some ⟨u,0,none⟩)),Res.var R 31 (.int .i64) 0,Res.own (.slice none 0 0) 9 .str [],Res.var V 128 W51 (.slice none 0 0),Res.var M 127 W52 (.pointer none),Res.dfr D0,Res.dfr D1]) (λh6 h=>?_) λd3 c2 h=>?_
 ·refine zu<|q 1 [(0,tp f),(3,ti W),(8,ptr M 0),(9,ptr V 0),(10,ptr R 0),(11,ptr C 0),(14,ptr N 0),(95,ptr N 3)] [] o<|yl 2 f3 ty4 o o o tr o<|za<|rI h o (λhc h=>?_) λhc h=>?_
  ·refine zs ?_
   obtain⟨e2,h⟩:=cr h
   refine cJ 1 o (by omega) λa5 a6 b9 hv=>?_
   rw[hv]
   try clear hv
   refine gF (S:=bJ [jm a5 a6 195 Y195 c.2.1.2.2.2.1,aX C 127 W52 (.pointer (some ⟨u,0,none⟩)),aX u 186 W25 (f,c.2.1.2.1,c.2.1.2.2.1,(.slice (some ⟨a5,a6,none⟩) (List.length c.2.1.2.2.2.1) b9),c.2.1.2.2.2.2.1,c.2.1.2.2.2.2.2.1,c.2.1.2.2.2.2.2.2)]) (by kernel_rfl) ?_
   refine bz 0 (ptr u 0) (aj (kM 1 o (by omega)) (aj (ar 7 o) (aj (ar 0 o) al))) o (by kernel_rfl) (cD (S:=λw=>bJ [jm a5 a6 195 Y195 c.2.1.2.2.2.1,aX C 127 W52 (.pointer (some ⟨u,0,none⟩)),aX u 186 W25 (f,c.2.1.2.1,c.2.1.2.2.1,(.slice (some ⟨a5,a6,none⟩) (List.length c.2.1.2.2.2.1) b9),c.2.1.2.2.2.2.1,c.2.1.2.2.2.2.2.1,c.2.1.2.2.2.2.2.2)] w) (bA 1 o) 7 .here o o o o ab cT) λs=>au 1 (ptr u 0) s o (by kernel_rfl) o λs=>au 2 (ptr u 3) s o (by kernel_rfl) o λs=>bz 3 (.one W51 (.slice (some ⟨a5,a6,none⟩) (List.length c.2.1.2.2.2.1) b9)) s o (by kernel_rfl) (cD (S:=λw=>bJ [jm a5 a6 195 Y195 c.2.1.2.2.2.1,aX C 127 W52 (.pointer (some ⟨u,0,none⟩)),aX u 186 W25 (f,c.2.1.2.1,c.2.1.2.2.1,(.slice (some ⟨a5,a6,none⟩) (List.length c.2.1.2.2.2.1) b9),c.2.1.2.2.2.2.1,c.2.1.2.2.2.2.2.1,c.2.1.2.2.2.2.2.2)] w) (bA 2 o) 0 f3 o o o o (ag (ag (ag (ay ab)))) tx5) λs=>bz 4 (ptr u 0) s o (by kernel_rfl) (cD (S:=λw=>bJ [jm a5 a6 195 Y195 c.2.1.2.2.2.1,aX C 127 W52 (.pointer (some ⟨u,0,none⟩)),aX u 186 W25 (f,c.2.1.2.1,c.2.1.2.2.1,(.slice (some ⟨a5,a6,none⟩) (List.length c.2.1.2.2.2.1) b9),c.2.1.2.2.2.2.1,c.2.1.2.2.2.2.2.1,c.2.1.2.2.2.2.2.2)] w) (bA 1 o) 7 .here o o o o ab cT) λs=>au 5 (ptr u 0) s o (by kernel_rfl) o λs=>au 6 (ptr u 3) s o (by kernel_rfl) o λs=>bz 7 (.one W51 (.slice (some ⟨a5,a6,none⟩) (List.length c.2.1.2.2.2.1) b9)) s o (by kernel_rfl) (cD (S:=λw=>bJ [jm a5 a6 195 Y195 c.2.1.2.2.2.1,aX C 127 W52 (.pointer (some ⟨u,0,none⟩)),aX u 186 W25 (f,c.2.1.2.1,c.2.1.2.2.1,(.slice (some ⟨a5,a6,none⟩) (List.length c.2.1.2.2.2.1) b9),c.2.1.2.2.2.2.1,c.2.1.2.2.2.2.2.1,c.2.1.2.2.2.2.2.2)] w) (bA 2 o) 0 f3 o o o o (ag (ag (ag (ay ab)))) tx5) λs=>bz 8 (ti (List.length c.2.1.2.2.2.1:Int)) s o (by kernel_rfl) (cn (t:=Y195) ai 1 o o o) λs=>au 9 (ti (wrap .i64 ((List.length c.2.1.2.2.2.1:Int) - 1))) s o (by kernel_rfl) o λs=>bz 10 (ptr a5 (a6+(Int.toNat (wrap .i64 ((List.length c.2.1.2.2.2.1:Int) - 1)))*3)) s o (by kernel_rfl) (cU ai o o e2.1 e2.2 o de) λs=>bz 11 (.one Y195 (List.getD c.2.1.2.2.2.1 (Int.toNat (wrap .i64 ((List.length c.2.1.2.2.2.1:Int) - 1))) (0,0,0,()))) s o (by kernel_rfl) (sz (S:=λw=>bJ [jm a5 a6 195 Y195 c.2.1.2.2.2.1,aX C 127 W52 (.pointer (some ⟨u,0,none⟩)),aX u 186 W25 (f,c.2.1.2.1,c.2.1.2.2.1,(.slice (some ⟨a5,a6,none⟩) (List.length c.2.1.2.2.2.1) b9),c.2.1.2.2.2.2.1,c.2.1.2.2.2.2.2.1,c.2.1.2.2.2.2.2.2)] w) (bA 0 o) 1 (Int.toNat (wrap .i64 ((List.length c.2.1.2.2.2.1:Int) - 1))) .here o o o (by omega) (by first|rfl|(simp only[Pth.off,T.size];omega)) ab de) λs=>aI 12 (by kernel_rfl) o<|aD (t:=Y195) o oF o λc3=>?_
   refine za<|bj (aj (kM 2 o (by omega)) (aj (ar 8 o) (aj (ar 1 o) al))) ?_
   refine aa [0,3,8,9,10,11,14,18,108] o<|aI 13 (by kernel_rfl) o<|st 0 .here de o o o o tr<|za<|bj (aj (kM 2 o (by omega)) (aj (ar 8 o) (aj (ar 1 o) al))) ?_
   refine aa [0,3,8,9,10,11,14,18] o<|eY (by kernel_rfl)<|zt<|zs<|gF (S:=bJ [aX C 127 W52 (.pointer (some ⟨u,0,none⟩)),aX c3 195 Y195 (List.getD c.2.1.2.2.2.1 (Int.toNat (wrap .i64 ((List.length c.2.1.2.2.2.1:Int) - 1))) (0,0,0,()))]) (by kernel_rfl) ?_
   refine au 0 (tp f) (aj (ar 8 o) (aj (ar 0 o) al)) o (by kernel_rfl) o λs=>bz 1 (ptr u 0) s o (by kernel_rfl) (cD (S:=λw=>bJ [aX C 127 W52 (.pointer (some ⟨u,0,none⟩)),aX c3 195 Y195 (List.getD c.2.1.2.2.2.1 (Int.toNat (wrap .i64 ((List.length c.2.1.2.2.2.1:Int) - 1))) (0,0,0,()))] w) (bA 0 o) 8 .here o o o (by first|rfl|(simp only[Pth.off,T.size];omega)) ab cT) λs=>au 2 (ptr c3 0) s o (by kernel_rfl) o λs=>bz 3 (ti ((List.getD c.2.1.2.2.2.1 (Int.toNat (wrap .i64 ((List.length c.2.1.2.2.2.1:Int) - 1))) (0,0,0,())).1)) s o (by kernel_rfl) (cD (S:=λw=>bJ [aX C 127 W52 (.pointer (some ⟨u,0,none⟩)),aX c3 195 Y195 (List.getD c.2.1.2.2.2.1 (Int.toNat (wrap .i64 ((List.length c.2.1.2.2.2.1:Int) - 1))) (0,0,0,()))] w) (bA 1 o) 0 f0 o o o (by first|rfl|(simp only[Pth.off,T.size];omega)) (ay ab) ty3) λs=>au 5 (ptr c3 1) s o (by kernel_rfl) o λs=>bz 6 (ti ((List.getD c.2.1.2.2.2.1 (Int.toNat (wrap .i64 ((List.length c.2.1.2.2.2.1:Int) - 1))) (0,0,0,())).2.1)) s o (by kernel_rfl) (cD (S:=λw=>bJ [aX C 127 W52 (.pointer (some ⟨u,0,none⟩)),aX c3 195 Y195 (List.getD c.2.1.2.2.2.1 (Int.toNat (wrap .i64 ((List.length c.2.1.2.2.2.1:Int) - 1))) (0,0,0,()))] w) (bA 1 o) 0 f1 o o o (by first|rfl|(simp only[Pth.off,T.size];omega)) (ag (ay ab)) ty3) λs=>aI 4 (by kernel_rfl) o<|cB h λh7 g1 h=>BF hT (by rfl) [1] (aE _ _ _ c.2.1 ((List.getD c.2.1.2.2.2.1 (Int.toNat (wrap .i64 ((List.length c.2.1.2.2.2.1:Int) - 1))) (0,0,0,())).1) _ g1) (by kernel_rfl) o o o λ_=>?_
   refine za<|bj (aj (ar 8 o) (aj (ar 1 o) al)) ?_
   refine aa [0,3,8,9,10,11,14,109,113,115] o<|aI 7 (by kernel_rfl) o<|cB h λc6 g2 h=>rc [5] (mq _ _ _ _ _ g2) (ca o) o o o λ_=>za<|bj (aj (ar 8 o) (aj (ar 2 o) al)) ?_
   refine aa [0,3,8,9,10,11,14,116] o<|au 8 (ti c6.1) (aj (ar 8 o) (aj (ar 2 o) al)) o (by kernel_rfl) o λs=>eY (by kernel_rfl)<|zt<|zu<|q 2 [(19,ti c6.1),(118,tb (c6.1 !=0))] [0,3,8,9,10,11,14] o<|za<|rI h o (λhc h=>?_) λhc h=>?_
   ·refine zu<|q 1 [(119,ti c6.1)] [8,9,10] o<|st 12 .here cT o o o o tr<|cj (.slice none 0 0) o 9 .str ?_
    refine st 12 .here tx4 o o o o tr<|nL o<|st 10 .here fk o o o o tr<|zf<|zT<|jz ?_
    refine jR [15] o ?_
    refine jR [14] o ?_
    refine nG ?_
    refine eG (K:=(cg f)) (x:=((),[],0,[],0,false,())) (e:=1) (by decide) ?_
    refine pk [2,0,0,0,0,0,0,0,0,0,0,0,0,0,0] o ?_
    cases h
    exact aF (rs:=[.cell 8 127,.cell 9 128,.cell 10 31]) o (.cons (.cell 14 .here o o o ab cT) (.cons (.cell 13 .here o o o ab tx4) (.cons (.cell 11 .here o o o ab fk) (.nil)))) o (λ_ vs g=>by cases g with|cons H g=>cases g with|cons G g=>cases g with|cons J g=>cases g;exact⟨_,o,.cons (bf H) (.cons (bf G) (.cons J (.nil)))⟩) (λ_ vs g=>by cases g with|cons H g=>cases g with|cons G g=>cases g with|cons J g=>cases g;rw[bT H];rw[bT G];exact(.cons_cons _ (.cons_cons _ (.cons_cons _ (.cons _ (.cons _ (.cons _ (.cons _ (.cons _ (.cons _ (.cons _ (.cons _ (.cons _ (.cons _ (.cons _ (.cons _ .slnil))))))))))))))))
   exact zk<|zt<|pk [0,0,1,1,1,1,1,1,1,1,1,1,1,1] o<|aa [0,3,8,9,10,11,14] o<|ah c6.2 (.slice (some ⟨a5,a6,none⟩) (List.length c.2.1.2.2.2.1) b9) h o o
  exact zk<|zt<|aa [0,3,8,9,10,11,14] o<|pk [4,0,0,0,0,0,0,0,0,0,0,0,0,0] o<|ah d c0 h o o
 refine jK h (γ:=Value) (λd4 c4=>[(3,ti W),(8,ptr M 0),(9,ptr V 0),(10,ptr R 0),(11,ptr C 0),(14,ptr N 0)]) (λd4 c4=>[Res.disk PP dI f d4,Res.var u 186 W25 (f,c.2.1.2.1,c.2.1.2.2.1,c4,c.2.1.2.2.2.2.1,c.2.1.2.2.2.2.2.1,c.2.1.2.2.2.2.2.2),Res.own c4 195 Y195 c.2.1.2.2.2.1,Res.var N 191 W33 (a8,c.1.2.1,c.1.2.2.1,c.1.2.2.2.1,c.1.2.2.2.2),Res.own a8 9 .str c.1.1,Res.var a7 4 .bool c.2.2,Res.var Z 3 (.int .i64) O.2,Res.var C 127 W52 (.pointer (some ⟨u,0,none⟩)),Res.var R 31 (.int .i64) 0,Res.own (.slice none 0 0) 9 .str [],Res.var V 128 W51 (.slice none 0 0),Res.var M 127 W52 (.pointer none),Res.dfr D0,Res.dfr D1]) (λg3 h=>?_) λd4 c4 h=>?_
 ·refine zu<|yl 7 .here cT o o o tr o<|q 2 [(0,tp f),(3,ti W),(8,ptr M 0),(9,ptr V 0),(10,ptr R 0),(11,ptr C 0),(14,ptr N 0),(122,ptr u 3)] [] o<|yl 1 f3 tx5 o o o tr o<|y (cn ai 2 o o o) o ?_
  refine q 1 [(123,.one W51 c2),(124,ti (List.length c.2.1.2.2.2.1:Int)),(125,ti 0)] [0,3,8,9,10,11,14] o<|za<|zb<|aa [0,3,8,9,10,11,14,123,124,125] o<|aY (γ:=Value) (λ(a9:Int×aO) c1=>[(0,tp f),(3,ti W),(8,ptr M 0),(9,ptr V 0),(10,ptr R 0),(11,ptr C 0),(14,ptr N 0),(123,.one W51 c1),(124,ti (List.length c.2.1.2.2.2.1:Int)),(125,ti a9.1)]) (λ(a9:Int×aO) c1=>[Res.disk PP dI f a9.2,Res.var u 186 W25 (f,c.2.1.2.1,c.2.1.2.2.1,c1,c.2.1.2.2.2.2.1,c.2.1.2.2.2.2.2.1,c.2.1.2.2.2.2.2.2),Res.own c1 195 Y195 c.2.1.2.2.2.1,Res.var N 191 W33 (a8,c.1.2.1,c.1.2.2.1,c.1.2.2.2.1,c.1.2.2.2.2),Res.own a8 9 .str c.1.1,Res.var a7 4 .bool c.2.2,Res.var Z 3 (.int .i64) O.2,Res.var C 127 W52 (.pointer (some ⟨u,0,none⟩)),Res.var R 31 (.int .i64) 0,Res.own (.slice none 0 0) 9 .str [],Res.var V 128 W51 (.slice none 0 0),Res.var M 127 W52 (.pointer none),Res.dfr D0,Res.dfr D1]) (nJ c g3) (0,d3) c2 h o o ?_
  clear h
  intro e3 a9 c1 h
  cases e3 with
  |zero=>cases h
  |succ e3=>
  simp only[nJ]at h
  refine zu<|q 1 [(123,.one W51 c1),(125,ti a9.1),(126,tb (decide (a9.1<(List.length c.2.1.2.2.2.1:Int))))] [0,3,8,9,10,11,14,124] o<|za<|zs<|rI h o (λhc h=>?_) λhc h=>?_
  ·refine zk<|zt<|zs<|zb<|zu<|iE h λhc h=>cJ 2 o (by omega) λe4 e5 e6 hv=>?_
   rw[hv]
   try clear hv
   refine y (cU ai o o hc.1 (by first|exact hc.2|simpa using hc.2) o de) o ?_
   refine y (dN 2 (Int.toNat a9.1) .here o o (by omega) (by first|rfl|(simp only[Pth.off,T.size];omega)) ab de) o ?_
   refine aD (t:=Y195) o oF o λg4=>st 0 .here de o o o o tr<|zz<|q 1 [(21,ptr g4 0),(123,.one W51 (.slice (some ⟨e4,e5,none⟩) (List.length c.2.1.2.2.2.1) e6)),(129,tp f)] [0,3,8,9,10,11,14,124,125] o<|yl 8 .here cT o o o tr o<|p 1 [0,3,8,9,10,11,14,123,124,125,129,130,131] o<|yl 0 f0 ty3 o o o tr o<|cB h λh8 g5 h=>BF hT (by rfl) [2] (aE _ _ _ c.2.1 ((List.getD c.2.1.2.2.2.1 (Int.toNat a9.1) (0,0,0,())).1) _ g5) (by kernel_rfl) o o o λ_=>?_
   refine cB h λd5 g6 h=>rc [2] (dt _ _ _ _ g6) (ca o) o o o λ_=>q 1 [(22,ti d5.1)] [0,3,8,9,10,11,14,123,124,125] o<|zz<|q 2 [(136,tb (d5.1 !=0))] [0,3,8,9,10,11,14,22,123,124,125] o<|za<|rI h o (λhc h=>?_) λhc h=>?_
   ·refine zu<|q 1 [(137,ti d5.1)] [8,9,10] o<|st 12 .here cT o o o o tr<|cj (.slice none 0 0) o 9 .str ?_
    refine st 12 .here tx4 o o o o tr<|nL o<|st 10 .here fk o o o o tr<|zf<|zB<|zT<|zT<|zB<|zT<|jz ?_
    refine jR [15] o ?_
    refine jR [14] o ?_
    refine nG ?_
    refine eG (K:=(cg f)) (x:=((),[],0,[],0,false,())) (e:=1) (by decide) ?_
    refine pk [2,0,0,0,0,0,0,0,0,0,0,0,0,0,0] o ?_
    cases h
    exact aF (rs:=[.cell 8 127,.cell 9 128,.cell 10 31]) o (.cons (.cell 14 .here o o o ab cT) (.cons (.cell 13 .here o o o ab tx4) (.cons (.cell 11 .here o o o ab fk) (.nil)))) o (λ_ vs g=>by cases g with|cons H g=>cases g with|cons G g=>cases g with|cons J g=>cases g;exact⟨_,o,.cons (bf H) (.cons (bf G) (.cons J (.nil)))⟩) (λ_ vs g=>by cases g with|cons H g=>cases g with|cons G g=>cases g with|cons J g=>cases g;rw[bT H];rw[bT G];exact(.cons_cons _ (.cons_cons _ (.cons_cons _ (.cons _ (.cons _ (.cons _ (.cons _ (.cons _ (.cons _ (.cons _ (.cons _ (.cons _ (.cons _ (.cons _ (.cons _ .slnil))))))))))))))))
   exact zk<|zi<|zt<|zr<|q 2 [(125,ti (wrap .i64 (a9.1+1)))] [0,3,8,9,10,11,14,123,124] o<|za<|pk [0,0,1,1,1,1,1,1,1,1,1,1,1,1] o<|aa [0,3,8,9,10,11,14,123,124,125] o<|aR ((wrap .i64 (a9.1+1)),d5.2) (.slice (some ⟨e4,e5,none⟩) (List.length c.2.1.2.2.2.1) e6) (Nat.lt_succ_self _) h o o
  exact zx<|ze<|ze<|zq<|zt<|aa [3,8,9,10,11,14] o<|ah a9.2 c1 h o o
 refine bv h (λd7=>[(8,ptr M 0),(9,ptr V 0),(10,ptr R 0),(11,ptr C 0),(14,ptr N 0)]) (λd7=>[Res.var N 191 (.pair W67 (.pair (.int .i64) (.pair .bool (.pair .bool .unit)))) d7,Res.disk PP dI f d4,Res.var u 186 W25 (f,c.2.1.2.1,c.2.1.2.2.1,c4,c.2.1.2.2.2.2.1,c.2.1.2.2.2.2.2.1,c.2.1.2.2.2.2.2.2),Res.own c4 195 Y195 c.2.1.2.2.2.1,Res.var a7 4 .bool c.2.2,Res.var Z 3 (.int .i64) O.2,Res.var C 127 W52 (.pointer (some ⟨u,0,none⟩)),Res.var R 31 (.int .i64) 0,Res.own (.slice none 0 0) 9 .str [],Res.var V 128 W51 (.slice none 0 0),Res.var M 127 W52 (.pointer none),Res.dfr D0,Res.dfr D1]) (λh9 h=>?_) λd7 h=>?_
 ·refine zu<|q 1 [(3,ti W),(8,ptr M 0),(9,ptr V 0),(10,ptr R 0),(11,ptr C 0),(14,ptr N 0),(139,ptr N 2)] [] o<|yl 3 f2 ty4 o o o tr o<|za<|pk [4,3,0,0,0,0,0,0,0,0,0,0,0,0] o<|fL (t:= .str) f0 o o ?_
  refine rI h o (λhc h=>?_) λhc h=>?_
  ·refine zr<|p 1 [3,8,9,10,11,14,141] o<|yl 0 f0 wv o o o tr o<|q 2 [(142,.one W67 c.1.1),(143,ti W),(144,ptr N 1)] [8,9,10,11,14] o<|yl 0 f1 ty2 o o o tr o<|q 1 [(146,ti (wrap .i64 (W - c.1.2.1)))] [8,9,10,11,14,142] o<|iE h λhc h=>y (CG (i:=(wrap .i64 (W - c.1.2.1))) (j:=(List.length c.1.1:Int)) ai o o o hc.1 hc.2.1 hc.2.2 o ty9) o ?_
   exact q 1 [(147,.one W67 (List.drop (Int.toNat (wrap .i64 (W - c.1.2.1))) (List.take (Int.toNat (List.length c.1.1:Int)) c.1.1))),(148,ptr N 0)] [8,9,10,11,14] o<|st 0 f0 wv o o o o tr<|za<|aa [8,9,10,11,14] o<|ah ((List.drop (Int.toNat (wrap .i64 (W - c.1.2.1))) (List.take (Int.toNat (List.length c.1.1:Int)) c.1.1)),c.1.2.1,c.1.2.2.1,c.1.2.2.2.1,c.1.2.2.2.2) () h o o
  exact zk<|zt<|aa [8,9,10,11,14] o<|ah (c.1.1,c.1.2.1,c.1.2.2.1,c.1.2.2.2.1,c.1.2.2.2.2) () h o o
 refine zs<|dF (by kernel_rfl)<|ae 1 (ptr N 0) o (by kernel_rfl) o ?_
 refine br (i:=0) (j:=2) (by kernel_rfl) o o ?_ ?_
 ·refine yl 6 .here cT o o o tr o<|za<|aa [8,9,10,149,150] o<|af 2 (by kernel_rfl) o<|yl 0 f0 wv o o o tr o<|za<|aa [8,9,10,149,151] o<|af 3 (by kernel_rfl) o<|cB h λe7 c7 h=>rc [] (go _ _ c7) (ca o) o o o λe8=>za<|aa [8,9,10,149,152] o<|af 4 (by kernel_rfl) o<|st 11 .here cT o o o o tr ?_
  refine za<|aa [8,9,10,152] o<|af 5 (by kernel_rfl) o<|st 10 .here tx4 o o o o tr<|nL o<|za<|aa [8,9,10] o<|af 6 (by kernel_rfl) o<|st 8 .here fk o o o o tr<|za<|aa [8,9,10] o<|aN (by kernel_rfl)<|zt<|zR ?_
  refine jz ?_
  refine jR [13] o ?_
  refine jR [12] o ?_
  refine nG ?_
  refine pk [3,3,0,0,0,0,0,0,0,0,0,0] o<|bS (x:=c.2.1) (q:=f) ?_
  refine az (R':=Res.clsif (cg f) (.pointer (some ⟨u,0,none⟩)) c.2.1 0) 0 o (cY o)<|nL o<|pk [3,0,0,0,0,0,0,0,0,0,0] o ?_
  cases h
  exact aF (rs:=[.cell 8 127,.cell 9 128,.cell 10 31]) o (.cons (.cell 10 .here o o o ab cT) (.cons (.cell 9 .here o o o ab tx4) (.cons (.cell 7 .here o o o ab fk) (.nil)))) o (λ_ vs g=>by cases g with|cons H g=>cases g with|cons G g=>cases g with|cons J g=>cases g;exact⟨_,o,.cons (bf H) (.cons (bf G) (.cons J (.nil)))⟩) (λ_ vs g=>by cases g with|cons H g=>cases g with|cons G g=>cases g with|cons J g=>cases g;rw[bT H];rw[bT G];exact(.cons_cons _ (.cons_cons _ (.cons_cons _ (.cons _ (.cons _ (.cons _ (.cons _ (.cons _ (.cons _ (.cons _ (.cons _ .slnil))))))))))))
 refine yl 0 f0 wv o o o tr o<|za<|aa [8,9,10,11,151] o ?_
 refine br (i:=0) (j:=3) (by kernel_rfl) o o ?_ ?_
 ·refine yl 6 .here cT o o o tr o<|za<|aa [8,9,10,149,151] o<|af 3 (by kernel_rfl) o<|cB h λe7 c7 h=>rc [] (go _ _ c7) (ca o) o o o λe8=>za<|aa [8,9,10,149,152] o<|af 4 (by kernel_rfl) o<|st 11 .here cT o o o o tr<|za<|aa [8,9,10,152] o<|af 5 (by kernel_rfl) o<|st 10 .here tx4 o o o o tr ?_
  refine nL o<|za<|aa [8,9,10] o<|af 6 (by kernel_rfl) o<|st 8 .here fk o o o o tr<|za<|aa [8,9,10] o<|aN (by kernel_rfl)<|zt<|zR<|jz ?_
  refine jR [13] o ?_
  refine jR [12] o ?_
  refine nG ?_
  refine pk [3,3,0,0,0,0,0,0,0,0,0,0] o<|bS (x:=c.2.1) (q:=f) ?_
  refine az (R':=Res.clsif (cg f) (.pointer (some ⟨u,0,none⟩)) c.2.1 0) 0 o (cY o)<|nL o<|pk [3,0,0,0,0,0,0,0,0,0,0] o ?_
  cases h
  exact aF (rs:=[.cell 8 127,.cell 9 128,.cell 10 31]) o (.cons (.cell 10 .here o o o ab cT) (.cons (.cell 9 .here o o o ab tx4) (.cons (.cell 7 .here o o o ab fk) (.nil)))) o (λ_ vs g=>by cases g with|cons H g=>cases g with|cons G g=>cases g with|cons J g=>cases g;exact⟨_,o,.cons (bf H) (.cons (bf G) (.cons J (.nil)))⟩) (λ_ vs g=>by cases g with|cons H g=>cases g with|cons G g=>cases g with|cons J g=>cases g;rw[bT H];rw[bT G];exact(.cons_cons _ (.cons_cons _ (.cons_cons _ (.cons _ (.cons _ (.cons _ (.cons _ (.cons _ (.cons _ (.cons _ (.cons _ .slnil))))))))))))
 refine cB h λe7 c7 h=>rc [] (go _ _ c7) (ca o) o o o λe8=>za<|aa [8,9,10,11,152] o<|af 0 (by kernel_rfl) o<|yl 7 .here cT o o o tr o<|za<|aa [8,9,10,149,152] o<|af 4 (by kernel_rfl) o<|st 11 .here cT o o o o tr<|za<|aa [8,9,10,152] o<|af 5 (by kernel_rfl) o<|st 10 .here tx4 o o o o tr ?_
 refine nL o<|za<|aa [8,9,10] o<|af 6 (by kernel_rfl) o<|st 8 .here fk o o o o tr<|za<|aa [8,9,10] o<|aN (by kernel_rfl)<|zt<|zR<|jz ?_
 refine jR [13] o ?_
 refine jR [12] o ?_
 refine nG ?_
 refine pk [3,3,0,0,0,0,0,0,0,0,0,0] o<|bS (x:=c.2.1) (q:=f) ?_
 refine az (R':=Res.clsif (cg f) (.pointer (some ⟨u,0,none⟩)) c.2.1 0) 0 o (cY o)<|nL o<|pk [3,0,0,0,0,0,0,0,0,0,0] o ?_
 cases h
 exact aF (rs:=[.cell 8 127,.cell 9 128,.cell 10 31]) o (.cons (.cell 10 .here o o o ab cT) (.cons (.cell 9 .here o o o ab tx4) (.cons (.cell 7 .here o o o ab fk) (.nil)))) o (λ_ vs g=>by cases g with|cons H g=>cases g with|cons G g=>cases g with|cons J g=>cases g;exact⟨_,o,.cons (bf H) (.cons (bf G) (.cons J (.nil)))⟩) (λ_ vs g=>by cases g with|cons H g=>cases g with|cons G g=>cases g with|cons J g=>cases g;rw[bT H];rw[bT G];exact(.cons_cons _ (.cons_cons _ (.cons_cons _ (.cons _ (.cons _ (.cons _ (.cons _ (.cons _ (.cons _ (.cons _ (.cons _ .slnil))))))))))))
theorem om(C M r)(h:kY C M=some r):Fn PP 166 [ts C,ti M] [] (λv=> .tup [⟨.raw (.slice none 0 0),aC v 0⟩,⟨.str,r.2.1⟩,⟨.bool,r.2.2⟩]) (λv=>[Res.own (aC v 0) 52 Y52 r.1]):=by
 unfold kY at h
 refine enter Tryz.func166 o 32 o o λF=>?_
 refine zu<|q 3 [(0,ts C),(1,ti M)] [] o<|zz<|p 1 [0,1,7] o<|cj (.slice none 0 0) o 52 Y52 ?_
 refine za<|jK h (γ:=Value) (λV g5=>[(0,ts V.1),(7,.one W51 g5)]) (λV g5=>[Res.own g5 52 Y52 V.2]) (λN h=>?_) λV g5 h=>?_
 ·refine zu<|p 2 [0,7,11,12] o<|za<|zb<|aa [0,7,11,12] o<|aY (γ:=Value) (λ(c:List Int×Int×(List Z51)) g10=>[(0,ts c.1),(7,.one W51 g10),(11,ti M),(12,ti c.2.1)]) (λ(c:List Int×Int×(List Z51)) g10=>[Res.own g10 52 Y52 c.2.2]) (jp M N) (C,0,[]) (.slice none 0 0) h o o ?_
  clear h
  intro H c g10 h
  cases H with
  |zero=>cases h
  |succ H=>
  simp only[jp]at h
  refine zu<|q 1 [(0,ts c.1),(7,.one W51 g10),(12,ti c.2.1),(13,tb (decide (c.2.1<M)))] [11] o<|za<|zs<|rI h o (λhc h=>?_) λhc h=>?_
  ·refine zk<|zt<|zs<|zb<|zu<|q 1 [(15,ts c.1)] [0,7,11,12] o<|cB h λf J h=>av (qA _ _ J) (ca o) o o<|q 4 [(17,.one Y52 f.1),(18,ti f.2.1),(19,ti f.2.2)] [0,7,11,12] o<|aD (t:=Y52) o jJ o λd=>st 0 .here bI o o o o tr<|q 2 [(8,ptr d 0),(9,ti f.2.1),(10,ti f.2.2)] [0,7,11,12] o<|za<|zs ?_
   refine zu<|q 2 [(21,tb (f.2.2 !=0))] [0,7,8,9,11,12] o<|za<|rI h o (λhc h=>?_) λhc h=>?_
   ·refine zu<|q 3 [(4,.one W51 (.slice none 0 0)),(5,ts []),(6,tb false)] [] o<|zf<|zT<|zB<|zT<|zT<|zB<|zT<|cj (.slice none 0 0) o 52 Y52 ?_
    cases h
    exact aF (rs:=[.tmp 4,.tmp 5,.tmp 6]) o (.cons (.tmp o) (.cons (.tmp o) (.cons (.tmp o) (.nil)))) o (λ_ vs g=>by cases g with|cons u g=>cases g with|cons R g=>cases g with|cons W g=>cases g;exact⟨_,o,.cons (bf u) (.cons R (.cons W (.nil)))⟩) (λ_ vs g=>by cases g with|cons u g=>cases g with|cons R g=>cases g with|cons W g=>cases g;rw[bT u];exact(.cons_cons _ (.cons _ (.cons _ .slnil))))
   refine zy<|p 1 [0,8,9,11,12,22] o<|yl 0 .here bI o o o tr o<|bE (B:=72) ai o jM o o o (.cons o .nil) o λO=>?_
   refine iE h λhc h=>bq (B:=72) ai 2 o o (bZ 0 o o) o jM o o hc o λm=>?_
   refine pk [1,1] o<|p 1 [0,7,9,11,12] o<|za<|zr<|q 2 [(26,ts c.1),(27,ti f.2.1)] [7,11,12] o<|iE h λhc h=>y (iR (i:=f.2.1) (j:=(List.length c.1:Int)) ai o o o hc.1 hc.2.1 hc.2.2 o) o ?_
   refine q 1 [(0,ts (List.drop (Int.toNat f.2.1) (List.take (Int.toNat (List.length c.1:Int)) c.1)))] [7,11,12] o ?_
   obtain⟨G,e,h⟩:=ak h;rw[e]
   exact zn<|zi<|zt<|zr<|q 2 [(0,ts G),(12,ti (wrap .i64 (c.2.1+1)))] [7,11] o<|za<|pk [1] o<|aa [0,7,11,12] o<|aR (G,(wrap .i64 (c.2.1+1)),(c.2.2++[f.1])) m (Nat.lt_succ_self _) h o o
  exact zx<|ze<|ze<|zq<|zt<|aa [0,7] o<|ah (c.1,c.2.2) g10 h o o
 refine zu<|q 5 [(4,.one W51 g5),(5,ts V.1),(6,tb true)] [] o<|zf ?_
 cases h
 exact aF (rs:=[.tmp 4,.tmp 5,.tmp 6]) o (.cons (.tmp o) (.cons (.tmp o) (.cons (.tmp o) (.nil)))) o (λ_ vs g=>by cases g with|cons u g=>cases g with|cons R g=>cases g with|cons W g=>cases g;exact⟨_,o,.cons (bf u) (.cons R (.cons W (.nil)))⟩) (λ_ vs g=>by cases g with|cons u g=>cases g with|cons R g=>cases g with|cons W g=>cases g;rw[bT u];exact(.cons_cons _ .slnil))
theorem xw(c r)(h:sI c=some r):bn PP 170 [.one Y54 c] (.one Y212 r):=by
 unfold sI at h
 refine enter Tryz.func170 o 51 o o λF=>?_
 refine zu<|bD o o λf=>y (nf (U:=Y212) (.next (.next (.next (.next (.next (.next .here)))))) o) o ?_
 refine za<|zs<|zu<|q 1 [(1,ptr f 0),(3,ptr f 0)] [] o<|yl 0 f0 ty3 o o o tr o<|za<|zb<|zu<|q 2 [(4,ti c.1),(5,tb (c.1==1))] [1] o<|za<|rI h o (λhc h=>?_) λhc h=>?_
 ·refine zu<|q 1 [(7,ptr f 1)] [] o<|yl 0 f1 bI o o o tr o<|y (bc o Eu o o (.cons f0 o o ab .nil)) o ?_
  refine y (qq (U:=Y212) (t:=W61) .here o (by kernel_rfl)) o ?_
  refine q 1 [(2,.one Y212 ((.inl (c.2.1,())):fx⊕(fu⊕(fc⊕(fw⊕((Int×Unit)⊕((Int×Unit)⊕(Value))))))))] [] o ?_
  obtain⟨u,e,h⟩:=ak h;rw[e]
  refine zf<|zB<|zT ?_
  cases h
  exact aB o (.tmp o)
 refine zu<|q 2 [(11,tb (c.1==2))] [1,4] o<|za<|rI h o (λhc h=>?_) λhc h=>?_
 ·refine zu<|p 1 [1,13] o<|yl 0 f3 ty2 o o o tr o<|q 1 [(14,ti c.2.2.2.1),(15,ptr f 39)] [] o<|yl 0 f4 fj o o o tr o<|y (bc o Ev o o (.cons f0 o o ab (.cons f1 o o ab .nil))) o ?_
  refine y (qq (U:=Y212) (t:=W47) (.next .here) o (by kernel_rfl)) o ?_
  refine q 1 [(2,.one Y212 ((.inr (.inl (c.2.2.2.1,c.2.2.2.2.1,()))):fx⊕(fu⊕(fc⊕(fw⊕((Int×Unit)⊕((Int×Unit)⊕(Value))))))))] [] o ?_
  obtain⟨M,e,h⟩:=ak h;rw[e]
  refine zf<|zB<|zT ?_
  cases h
  exact aB o (.tmp o)
 refine zu<|q 2 [(19,tb (c.1==3))] [1,4] o<|za<|rI h o (λhc h=>?_) λhc h=>?_
 ·refine zu<|p 1 [1,21] o<|yl 0 f3 ty2 o o o tr o<|q 1 [(22,ti c.2.2.2.1),(23,ptr f 37)] [1] o<|yl 0 f2 jI o o o tr o<|q 1 [(24,.one W65 c.2.2.1),(25,ptr f 41)] [22] o<|yl 0 f5 bK o o o tr o<|y (bc o Ew o o (.cons f0 o o ab (.cons f1 o o ab (.cons f2 o o ab .nil)))) o ?_
  refine y (qq (U:=Y212) (t:=Y280) (.next (.next .here)) o (by kernel_rfl)) o ?_
  refine q 1 [(2,.one Y212 ((.inr (.inr (.inl (c.2.2.2.1,c.2.2.1,c.2.2.2.2.2.1,())))):fx⊕(fu⊕(fc⊕(fw⊕((Int×Unit)⊕((Int×Unit)⊕(Value))))))))] [] o ?_
  obtain⟨V,e,h⟩:=ak h;rw[e]
  refine zf<|zB<|zT ?_
  cases h
  exact aB o (.tmp o)
 refine zu<|q 2 [(29,tb (c.1==4))] [1,4] o<|za<|rI h o (λhc h=>?_) λhc h=>?_
 ·refine zu<|p 1 [1,31] o<|yl 0 f3 ty2 o o o tr o<|q 1 [(32,ti c.2.2.2.1),(33,ptr f 73)] [1] o<|yl 0 f6 bK o o o tr o<|q 1 [(34,.one W55 c.2.2.2.2.2.2.1),(35,ptr f 105)] [32] o<|yl 0 f7 bK o o o tr o<|y (bc o Ex o o (.cons f0 o o ab (.cons f1 o o ab (.cons f2 o o ab .nil)))) o ?_
  refine y (qq (U:=Y212) (t:=Y282) (.next (.next (.next .here))) o (by kernel_rfl)) o ?_
  refine q 1 [(2,.one Y212 ((.inr (.inr (.inr (.inl (c.2.2.2.1,c.2.2.2.2.2.2.1,c.2.2.2.2.2.2.2.1,()))))):fx⊕(fu⊕(fc⊕(fw⊕((Int×Unit)⊕((Int×Unit)⊕(Value))))))))] [] o ?_
  obtain⟨R,e,h⟩:=ak h;rw[e]
  refine zf<|zB<|zT ?_
  cases h
  exact aB o (.tmp o)
 refine zu<|q 2 [(39,tb (c.1==5))] [1,4] o<|za<|rI h o (λhc h=>?_) λhc h=>?_
 ·refine zu<|q 1 [(41,ptr f 137)] [] o<|yl 0 f8 ty3 o o o tr o<|y (bc o Ey o o (.cons f0 o o ab .nil)) o ?_
  refine y (qq (U:=Y212) (t:=W50) (.next (.next (.next (.next .here)))) o (by kernel_rfl)) o ?_
  refine q 1 [(2,.one Y212 ((.inr (.inr (.inr (.inr (.inl (c.2.2.2.2.2.2.2.2.1,())))))):fx⊕(fu⊕(fc⊕(fw⊕((Int×Unit)⊕((Int×Unit)⊕(Value))))))))] [] o ?_
  obtain⟨W,e,h⟩:=ak h;rw[e]
  refine zf<|zB<|zT ?_
  cases h
  exact aB o (.tmp o)
 refine zu<|q 2 [(45,tb (c.1==6))] [1] o<|za<|rI h o (λhc h=>?_) λhc h=>?_
 ·refine zu<|q 1 [(47,ptr f 38)] [] o<|yl 0 f3 ty2 o o o tr o<|y (bc o Ez o o (.cons f0 o o ab .nil)) o ?_
  refine y (qq (U:=Y212) (t:=W50) (.next (.next (.next (.next (.next .here))))) o (by kernel_rfl)) o ?_
  refine q 1 [(2,.one Y212 ((.inr (.inr (.inr (.inr (.inr (.inl (c.2.2.2.1,()))))))):fx⊕(fu⊕(fc⊕(fw⊕((Int×Unit)⊕((Int×Unit)⊕(Value))))))))] [] o ?_
  obtain⟨C,e,h⟩:=ak h;rw[e]
  refine zf<|zB<|zT ?_
  cases h
  exact aB o (.tmp o)
 refine zk<|zi<|zt<|zu<|y (nf (U:=Y212) (.next (.next (.next (.next (.next (.next .here)))))) o) o ?_
 refine zf ?_
 cases h
 exact aB o (.tmp o)
theorem kB(c u r)(h:fA c u=some r):bn PP 189 [.one W65 c,.one W65 u] (tb r):=by
 unfold fA at h
 refine enter Tryz.func189 o 26 o o λF=>?_
 refine zu<|q 1 [(0,.one W65 c),(1,.one W65 u)] [] o<|za<|zs<|zu<|q 5 [(10,tb ((List.length c:Int) !=(List.length u:Int)))] [0,1] o<|za<|rI h o (λhc h=>zu<|q 1 [(4,tb false)] [] o<|zf<|zT<|by cases h;exact aB o (.tmp o)) λhc h=>zk<|zt<|bv h (λM=>[]) (λM=>[]) (λR h=>?_) λM h=>?_
 ·refine zu<|q 3 [(12,ti (List.length c:Int)),(13,ti 0)] [0,1] o<|za<|zb<|aa [0,1,12,13] o<|aY (γ:=Unit) (λ(f:Int) _=>[(0,.one W65 c),(1,.one W65 u),(12,ti (List.length c:Int)),(13,ti f)]) (λ(f:Int) _=>[]) (dn c u R) 0 () h o o ?_
  clear h
  intro V f gg h
  cases V with
  |zero=>cases h
  |succ V=>
  simp only[dn]at h
  refine zu<|q 1 [(13,ti f),(14,tb (decide (f<(List.length c:Int))))] [0,1,12] o<|za<|zs<|rI h o (λhc h=>?_) λhc h=>?_
  ·refine zk<|zt<|zs<|zb<|zu<|p 2 [0,1,5,12,13] o<|za<|zs<|eE (by kernel_rfl) (by kernel_rfl) ?_
   refine aA ai 2 [0,1,5,12,13,16,17] (E':=[(0,.one W65 c),(1,.one W65 u),(5,ti f),(12,ti (List.length c:Int)),(13,ti f),(16,.one W65 c),(17,ti f)]) o ?_
   refine iE h λhc h=>q_y (ff ai o o hc.1 hc.2 o bI) o ?_
   refine q_y (ga o bI) o ?_
   refine aA ai 2 [0,1,12,13,19,20,21] (E':=[(0,.one W65 c),(1,.one W65 u),(12,ti (List.length c:Int)),(13,ti f),(19,.one Y52 (List.getD c (Int.toNat f) (0,0,0,z32,[],()))),(20,.one W65 u),(21,ti f)]) o ?_
   refine iE h λhc h=>q_y (ff ai o o hc.1 hc.2 o bI) o ?_
   refine q_y (ga o bI) o ?_
   refine q_y (nA 20 o o o o bI o B1 B3) o ?_
   refine eX ?_
   exact zt<|rI h o (λhc h=>zu<|q 1 [(4,tb false)] [] o<|zf<|zB<|zT<|zT<|zB<|zT<|by cases h;exact aB o (.tmp o)) λhc h=>zk<|zi<|zt<|zr<|p 2 [0,1,12,13] o<|za<|aa [0,1,12,13] o<|aR (wrap .i64 (f+1)) () (Nat.lt_succ_self _) h o o
  exact zx<|ze<|ze<|zq<|zt<|aa [] o<|ah () () h o o
 refine zu<|q 1 [(4,tb true)] [] o<|zf ?_
 cases h
 exact aB o (.tmp o)
theorem qD(c f r)(h:pO c f=some r):bn PP 171 [.one Y54 c,.one Y54 f] (tb r):=by
 unfold pO at h
 refine enter Tryz.func171 o 66 o o λF=>?_
 refine zu<|bD o o λM=>bD o o λu=>q 1 [(2,ptr M 0),(3,ptr u 0)] [] o<|zz<|p 1 [2,3,5] o<|yl 1 f0 ty3 o o o tr o<|q 1 [(6,ti c.1),(7,ptr u 0)] [2,3] o<|yl 0 f0 ty3 o o o tr o<|q 2 [(10,tb (c.1==f.1))] [2,3] o ?_
 obtain⟨R,e,h⟩:=ak h;rw[e]
 refine aJ 6 [(2,ptr M 0),(3,ptr u 0),(16,tb (R&&(eqD W28 c.2.1 f.2.1)))] [Res.var u 54 Y54 f,Res.var M 54 Y54 c] (?_) ?_
 ·clear h
  cases R
  ·exact p 6 [2,3,16] o<|za<|ao () o o
  refine p 1 [2,3,10,11] o<|ap (by rfl) o ?_
  refine yl 1 f1 bI o o o tr o<|q 1 [(12,.one Y52 c.2.1),(13,ptr u 1)] [2,3,10] o<|ap (by rfl) o ?_
  refine yl 0 f1 bI o o o tr o<|ap (by rfl) o ?_
  refine y (s3 20 o o o o bI o B1 B3) o ?_
  exact q 1 [(16,tb (eqD W28 c.2.1 f.2.1))] [2,3] o<|aa [2,3,16] o<|za<|ao () o o
 refine q 1 [(2,ptr M 0),(3,ptr u 0),(17,tb (R&&(eqD W28 c.2.1 f.2.1)))] [] o ?_
 obtain⟨J,e,h⟩:=ak h;rw[e]
 refine bL h 6 (λV=>[(2,ptr M 0),(3,ptr u 0),(23,tb V)]) (λ_=>[Res.var u 54 Y54 f,Res.var M 54 Y54 c]) (λO h=>?_) λV h=>?_
 ·cases J
  ·replace h:=ifF h
   exact p 6 [2,3,23] o<|zn<|aa [2,3,23] o<|zt<|ah false () h o o
  replace h:=ifT h
  refine p 1 [2,3,17,18] o<|ap (by rfl) o ?_
  refine yl 1 f2 jI o o o tr o<|q 1 [(19,.one W65 c.2.2.1),(20,ptr u 37)] [2,3,17] o<|ap (by rfl) o ?_
  refine yl 0 f2 jI o o o tr o<|ap (by rfl) o ?_
  exact cB h λd m h=>av (kB _ _ _ m) (ca o) o o<|p 1 [2,3,23] o<|zn<|aa [2,3,23] o<|zt<|ah d () h o o
 refine q 1 [(2,ptr M 0),(3,ptr u 0),(24,tb V)] [] o<|aJ 6 [(2,ptr M 0),(3,ptr u 0),(30,tb (V&&(c.2.2.2.1==f.2.2.2.1)))] [Res.var u 54 Y54 f,Res.var M 54 Y54 c] (?_) ?_
 ·clear h
  cases V
  ·exact p 6 [2,3,30] o<|za<|ao () o o
  refine p 1 [2,3,24,25] o<|ap (by rfl) o ?_
  refine yl 1 f3 ty2 o o o tr o<|q 1 [(26,ti c.2.2.2.1),(27,ptr u 38)] [2,3,24] o<|ap (by rfl) o ?_
  exact yl 0 f3 ty2 o o o tr o<|q 2 [(30,tb (c.2.2.2.1==f.2.2.2.1))] [2,3] o<|aa [2,3,30] o<|za<|ao () o o
 refine q 1 [(2,ptr M 0),(3,ptr u 0),(31,tb (V&&(c.2.2.2.1==f.2.2.2.1)))] [] o ?_
 obtain⟨W,e,h⟩:=ak h;rw[e]
 refine aJ 6 [(2,ptr M 0),(3,ptr u 0),(37,tb (W&&(eqD W44 c.2.2.2.2.1 f.2.2.2.2.1)))] [Res.var u 54 Y54 f,Res.var M 54 Y54 c] (?_) ?_
 ·clear h
  cases W
  ·exact p 6 [2,3,37] o<|za<|ao () o o
  refine p 1 [2,3,31,32] o<|ap (by rfl) o ?_
  refine yl 1 f4 fj o o o tr o<|q 1 [(33,.one Y24 c.2.2.2.2.1),(34,ptr u 39)] [2,3,31] o<|ap (by rfl) o ?_
  refine yl 0 f4 fj o o o tr o<|ap (by rfl) o ?_
  refine y (s3 20 o o o o fj o zK zL) o ?_
  exact q 1 [(37,tb (eqD W44 c.2.2.2.2.1 f.2.2.2.2.1))] [2,3] o<|aa [2,3,37] o<|za<|ao () o o
 refine q 1 [(2,ptr M 0),(3,ptr u 0),(38,tb (W&&(eqD W44 c.2.2.2.2.1 f.2.2.2.2.1)))] [] o ?_
 obtain⟨C,e,h⟩:=ak h;rw[e]
 refine aJ 6 [(2,ptr M 0),(3,ptr u 0),(44,tb (C&&(eqD W55 c.2.2.2.2.2.1 f.2.2.2.2.2.1)))] [Res.var u 54 Y54 f,Res.var M 54 Y54 c] (?_) ?_
 ·clear h
  cases C
  ·exact p 6 [2,3,44] o<|za<|ao () o o
  refine p 1 [2,3,38,39] o<|ap (by rfl) o ?_
  refine yl 1 f5 bK o o o tr o<|q 1 [(40,.one W55 c.2.2.2.2.2.1),(41,ptr u 41)] [2,3,38] o<|ap (by rfl) o ?_
  refine yl 0 f5 bK o o o tr o<|ap (by rfl) o ?_
  refine y (s3 20 o o o o bK o ui uj) o ?_
  exact q 1 [(44,tb (eqD W55 c.2.2.2.2.2.1 f.2.2.2.2.2.1))] [2,3] o<|aa [2,3,44] o<|za<|ao () o o
 refine q 1 [(2,ptr M 0),(3,ptr u 0),(45,tb (C&&(eqD W55 c.2.2.2.2.2.1 f.2.2.2.2.2.1)))] [] o ?_
 obtain⟨H,e,h⟩:=ak h;rw[e]
 refine aJ 6 [(2,ptr M 0),(3,ptr u 0),(51,tb (H&&(eqD W55 c.2.2.2.2.2.2.1 f.2.2.2.2.2.2.1)))] [Res.var u 54 Y54 f,Res.var M 54 Y54 c] (?_) ?_
 ·clear h
  cases H
  ·exact p 6 [2,3,51] o<|za<|ao () o o
  refine p 1 [2,3,45,46] o<|ap (by rfl) o ?_
  refine yl 1 f6 bK o o o tr o<|q 1 [(47,.one W55 c.2.2.2.2.2.2.1),(48,ptr u 73)] [2,3,45] o<|ap (by rfl) o ?_
  refine yl 0 f6 bK o o o tr o<|ap (by rfl) o ?_
  refine y (s3 20 o o o o bK o ui uj) o ?_
  exact q 1 [(51,tb (eqD W55 c.2.2.2.2.2.2.1 f.2.2.2.2.2.2.1))] [2,3] o<|aa [2,3,51] o<|za<|ao () o o
 refine q 1 [(2,ptr M 0),(3,ptr u 0),(52,tb (H&&(eqD W55 c.2.2.2.2.2.2.1 f.2.2.2.2.2.2.1)))] [] o ?_
 obtain⟨G,e,h⟩:=ak h;rw[e]
 refine aJ 6 [(2,ptr M 0),(3,ptr u 0),(58,tb (G&&(eqD W55 c.2.2.2.2.2.2.2.1 f.2.2.2.2.2.2.2.1)))] [Res.var u 54 Y54 f,Res.var M 54 Y54 c] (?_) ?_
 ·clear h
  cases G
  ·exact p 6 [2,3,58] o<|za<|ao () o o
  refine p 1 [2,3,52,53] o<|ap (by rfl) o ?_
  refine yl 1 f7 bK o o o tr o<|q 1 [(54,.one W55 c.2.2.2.2.2.2.2.1),(55,ptr u 105)] [2,3,52] o<|ap (by rfl) o ?_
  refine yl 0 f7 bK o o o tr o<|ap (by rfl) o ?_
  refine y (s3 20 o o o o bK o ui uj) o ?_
  exact q 1 [(58,tb (eqD W55 c.2.2.2.2.2.2.2.1 f.2.2.2.2.2.2.2.1))] [2,3] o<|aa [2,3,58] o<|za<|ao () o o
 refine q 1 [(2,ptr M 0),(3,ptr u 0),(59,tb (G&&(eqD W55 c.2.2.2.2.2.2.2.1 f.2.2.2.2.2.2.2.1)))] [] o ?_
 obtain⟨N,e,h⟩:=ak h;rw[e]
 refine aJ 6 [(65,tb (N&&(c.2.2.2.2.2.2.2.2.1==f.2.2.2.2.2.2.2.2.1)))] [Res.var u 54 Y54 f,Res.var M 54 Y54 c] (?_) ?_
 ·clear h
  cases N
  ·exact q 6 [(65,tb false)] [] o<|aa [65] o<|za<|ao () o o
  refine p 1 [3,59,60] o<|ap (by rfl) o ?_
  refine yl 1 f8 ty3 o o o tr o<|q 1 [(61,ti c.2.2.2.2.2.2.2.2.1),(62,ptr u 137)] [59] o<|ap (by rfl) o ?_
  exact yl 0 f8 ty3 o o o tr o<|q 2 [(65,tb (c.2.2.2.2.2.2.2.2.1==f.2.2.2.2.2.2.2.2.1))] [] o<|aa [65] o<|za<|ao () o o
 refine q 1 [(4,tb (N&&(c.2.2.2.2.2.2.2.2.1==f.2.2.2.2.2.2.2.2.1)))] [] o<|zf ?_
 cases h
 exact aB o (.tmp o)
theorem iz(x:fx⊕(fu⊕(fc⊕(fw⊕((Int×Unit)⊕((Int×Unit)⊕(Value))))))):sB Y212 x=dL x:=by rcases x with x|x|x|x|x|x|x<;>rfl
theorem rD(c r)(h:lz c=some r):bn PP 260 [.one W61 c] (tb r):=by
 unfold lz at h
 refine enter Tryz.func260 o 6 o o λF=>?_
 refine zu<|bD o o λf=>q 1 [(1,ptr f 0)] [] o<|zz<|q 1 [(3,ptr f 0)] [] o<|yl 0 f0 bI o o o tr o<|cB h λu M h=>av (hJ _ _ M) (ca o) o o<|q 1 [(2,tb u)] [] o<|zf ?_
 cases h
 exact aB o (.tmp o)
theorem ju(c r)(h:iH c=some r):bn PP 278 [ti c] (tb r):=by
 unfold iH at h
 refine enter Tryz.func278 o 9 o o λF=>?_
 refine zu<|q 1 [(0,ti c)] [] o<|zz<|p 3 [0,5] o ?_
 obtain⟨f,e,h⟩:=ak h;rw[e]
 refine aJ 3 [(8,tb (f&&(decide (c≤281474976710655))))] [] (?_) ?_
 ·clear h
  cases f
  ·exact q 3 [(8,tb false)] [] o<|aa [8] o<|za<|ao () o o
  exact q 3 [(8,tb (decide (c≤281474976710655)))] [] o<|aa [8] o<|za<|ao () o o
 refine q 1 [(2,tb (f&&(decide (c≤281474976710655))))] [] o<|zf ?_
 cases h
 exact aB o (.tmp o)
theorem oq(c r)(h:kZ c=some r):bn PP 279 [ti c] (tb r):=by
 unfold kZ at h
 refine enter Tryz.func279 o 9 o o λF=>?_
 refine zu<|q 1 [(0,ti c)] [] o<|zz<|p 3 [0,5] o ?_
 obtain⟨f,e,h⟩:=ak h;rw[e]
 refine aJ 3 [(8,tb (f&&(decide (c≤2048))))] [] (?_) ?_
 ·clear h
  cases f
  ·exact q 3 [(8,tb false)] [] o<|aa [8] o<|za<|ao () o o
  exact q 3 [(8,tb (decide (c≤2048)))] [] o<|aa [8] o<|za<|ao () o o
 refine q 1 [(2,tb (f&&(decide (c≤2048))))] [] o<|zf ?_
 cases h
 exact aB o (.tmp o)
theorem pY(f r)(h:kj f=some r):bn PP 276 [.one W47 f] (tb r):=by
 unfold kj at h
 refine enter Tryz.func276 o 18 o o λF=>?_
 refine zu<|bD o o λc=>q 1 [(1,ptr c 0)] [] o<|zz<|p 1 [1,3] o<|yl 0 f0 ty2 o o o tr o<|cB h λR W h=>av (ju _ _ W) (ca o) o o<|p 1 [1,6] o<|bL h 5 (λu=>[(1,ptr c 0),(11,tb u)]) (λ_=>[Res.var c 278 W47 f]) (λN h=>?_) λu h=>?_
 ·cases R
  ·replace h:=ifF h
   exact p 5 [1,11] o<|zn<|aa [1,11] o<|zt<|ah false () h o o
  replace h:=ifT h
  refine p 2 [1,6,8] o<|ap (by rfl) o ?_
  refine yl 0 ((.snd (.fst f0))) ty3 o o o tr o<|ap (by rfl) o ?_
  exact cB h λC H h=>av (oq _ _ H) (ca o) o o<|p 1 [1,11] o<|zn<|aa [1,11] o<|zt<|ah C () h o o
 refine q 1 [(1,ptr c 0),(12,tb u)] [] o<|bL h 5 (λM=>[(17,tb M)]) (λ_=>[Res.var c 278 W47 f]) (λJ h=>?_) λM h=>?_
 ·cases u
  ·replace h:=ifF h
   exact q 5 [(17,tb false)] [] o<|zn<|aa [17] o<|zt<|ah false () h o o
  replace h:=ifT h
  refine q 2 [(12,tb true),(14,ptr c 2)] [] o<|ap (by rfl) o ?_
  refine yl 0 ((.snd (.fst f1))) ty3 o o o tr o<|ap (by rfl) o ?_
  exact cB h λV G h=>av (oq _ _ G) (ca o) o o<|q 1 [(17,tb V)] [] o<|zn<|aa [17] o<|zt<|ah V () h o o
 refine q 1 [(2,tb M)] [] o<|zf ?_
 cases h
 exact aB o (.tmp o)
theorem pZ(c r)(h:kk c=some r):bn PP 284 [.one Y52 c] (tb r):=by
 unfold kk at h
 refine enter Tryz.func284 o 6 o o λF=>?_
 refine zu<|bD o o λf=>q 1 [(1,ptr f 0)] [] o<|zz<|yl 0 .here bI o o o tr o<|cB h λu M h=>av (hJ _ _ M) (ca o) o o<|q 2 [(2,tb (!u))] [] o<|zf ?_
 cases h
 exact aB o (.tmp o)
theorem iJ(c r)(h:dw c=some r):bn PP 179 [.one W65 c,.one (.raw (fnv 284)) (fnv 284)] (ti r):=by
 unfold dw at h
 refine enter Tryz.func179 o 19 o o λF=>?_
 refine zu<|q 1 [(0,.one W65 c),(1,.one (.raw (fnv 284)) (fnv 284))] [] o<|za<|bv h (λu=>[]) (λu=>[]) (λV h=>?_) λu h=>?_
 ·refine zu<|q 3 [(7,ti (List.length c:Int)),(8,ti 0)] [0,1] o<|za<|zb<|aa [0,1,7,8] o<|aY (γ:=Unit) (λ(f:Int) _=>[(0,.one W65 c),(1,.one (.raw (fnv 284)) (fnv 284)),(7,ti (List.length c:Int)),(8,ti f)]) (λ(f:Int) _=>[]) (cy c V) 0 () h o o ?_
  clear h
  intro M f gg h
  cases M with
  |zero=>cases h
  |succ M=>
  simp only[cy]at h
  refine zu<|q 1 [(8,ti f),(9,tb (decide (f<(List.length c:Int))))] [0,1,7] o<|za<|zs<|rI h o (λhc h=>?_) λhc h=>?_
  ·refine zk<|zt<|zs<|zb<|zu<|p 2 [0,1,5,7,8] o<|zz<|p 3 [0,1,5,7,8,11,12,13] o<|iE h λhc h=>y (ff ai o o hc.1 hc.2 o bI) o ?_
   refine y (ga o bI) o ?_
   refine lL o ?_
   exact cB h λW R h=>av (pZ _ _ R) (ca o) o o<|za<|rI h o (λhc h=>zu<|q 2 [(4,ti f)] [] o<|zf<|zB<|zT<|zT<|zB<|zT<|by cases h;exact aB o (.tmp o)) λhc h=>zk<|zi<|zt<|zr<|p 2 [0,1,7,8] o<|za<|aa [0,1,7,8] o<|aR (wrap .i64 (f+1)) () (Nat.lt_succ_self _) h o o
  exact zx<|ze<|ze<|zq<|zt<|aa [] o<|ah () () h o o
 refine zu<|q 1 [(4,ti (-1))] [] o<|zf ?_
 cases h
 exact aB o (.tmp o)
theorem ia(c r)(h:da c=some r):bn PP 137 [.one W65 c,.one (.raw (fnv 284)) (fnv 284)] (tb r):=by
 unfold da at h
 refine enter Tryz.func137 o 9 o o λF=>?_
 refine zu<|q 1 [(0,.one W65 c),(1,.one (.raw (fnv 284)) (fnv 284))] [] o<|zz<|q 2 [(5,.one W65 c),(6,.one (.raw (fnv 284)) (fnv 284))] [] o<|cB h λf u h=>av (iJ _ _ u) (ca o) o o<|q 2 [(4,tb (decide (f≥0)))] [] o<|zf ?_
 cases h
 exact aB o (.tmp o)
theorem rE(c r)(h:lA c=some r):bn PP 282 [.one Y280 c] (tb r):=by
 unfold lA at h
 refine enter Tryz.func282 o 18 o o λF=>?_
 refine zu<|bD o o λf=>q 1 [(1,ptr f 0)] [] o<|zz<|p 1 [1,3] o<|yl 0 f0 ty2 o o o tr o<|cB h λu R h=>av (ju _ _ R) (ca o) o o<|p 1 [1,6] o<|aJ 5 [(1,ptr f 0),(11,tb (u&&(decide ((List.length c.2.1:Int)≤512))))] [Res.var f 280 Y280 c] (?_) ?_
 ·clear h
  cases u
  ·exact p 5 [1,11] o<|za<|ao () o o
  refine p 1 [1,6,7] o<|ap (by rfl) o ?_
  exact yl 0 f1 jI o o o tr o<|q 3 [(11,tb (decide ((List.length c.2.1:Int)≤512)))] [1] o<|aa [1,11] o<|za<|ao () o o
 refine q 1 [(1,ptr f 0),(12,tb (u&&(decide ((List.length c.2.1:Int)≤512))))] [] o ?_
 obtain⟨W,e,h⟩:=ak h;rw[e]
 refine bL h 5 (λM=>[(17,tb M)]) (λ_=>[Res.var f 280 Y280 c]) (λH h=>?_) λM h=>?_
 ·cases W
  ·replace h:=ifF h
   exact q 5 [(17,tb false)] [] o<|zn<|aa [17] o<|zt<|ah false () h o o
  replace h:=ifT h
  refine q 1 [(12,tb true),(13,ptr f 1)] [] o<|ap (by rfl) o ?_
  refine yl 0 f1 jI o o o tr o<|ap (by rfl) o ?_
  exact cB h λV C h=>av (ia _ _ C) (ca o) o o<|q 2 [(17,tb (!V))] [] o<|zn<|aa [17] o<|zt<|ah (!V) () h o o
 refine q 1 [(2,tb M)] [] o<|zf ?_
 cases h
 exact aB o (.tmp o)
theorem pg(c r)(h:jU c=some r):bn PP 287 [.one Y282 c] (tb r):=by
 unfold jU at h
 refine enter Tryz.func287 o 6 o o λF=>?_
 refine zu<|bD o o λf=>q 1 [(1,ptr f 0)] [] o<|zz<|q 1 [(3,ptr f 0)] [] o<|yl 0 f0 ty2 o o o tr o<|cB h λu M h=>av (ju _ _ M) (ca o) o o<|q 1 [(2,tb u)] [] o<|zf ?_
 cases h
 exact aB o (.tmp o)
theorem p5(c r)(h:km c=some r):bn PP 298 [.one W50 c] (tb r):=by
 unfold km at h
 refine enter Tryz.func298 o 11 o o λF=>?_
 refine zu<|bD o o λf=>q 1 [(1,ptr f 0)] [] o<|zz<|p 1 [1,3] o<|yl 0 f0 ty3 o o o tr o<|q 2 [(6,tb (decide (c.1≥1)))] [1] o ?_
 obtain⟨u,e,h⟩:=ak h;rw[e]
 refine aJ 4 [(10,tb (u&&(decide (c.1≤65535))))] [Res.var f 284 W50 c] (?_) ?_
 ·clear h
  cases u
  ·exact q 4 [(10,tb false)] [] o<|aa [10] o<|za<|ao () o o
  refine q 1 [(6,tb true),(7,ptr f 0)] [] o<|ap (by rfl) o ?_
  exact yl 0 f0 ty3 o o o tr o<|q 2 [(10,tb (decide (c.1≤65535)))] [] o<|aa [10] o<|za<|ao () o o
 refine q 1 [(2,tb (u&&(decide (c.1≤65535))))] [] o<|zf ?_
 cases h
 exact aB o (.tmp o)
theorem p6(c r)(h:ko c=some r):bn PP 302 [.one W50 c] (tb r):=by
 unfold ko at h
 refine enter Tryz.func302 o 6 o o λF=>?_
 refine zu<|bD o o λf=>q 1 [(1,ptr f 0)] [] o<|zz<|q 1 [(3,ptr f 0)] [] o<|yl 0 f0 ty2 o o o tr o<|cB h λu M h=>av (ju _ _ M) (ca o) o o<|q 1 [(2,tb u)] [] o<|zf ?_
 cases h
 exact aB o (.tmp o)
theorem p7(c r)(h:m1 c=some r):Inv PP "escrow/record.valid" [.one Y212 c] [] (fun _=> .one .bool r) (fun _=>[]):=match c,h with
 | .inl z,h=>(dk (k:=260) (by kernel_rfl) (rD z r h))
 | .inr (.inl z),h=>(bu o (dk (k:=276) (by kernel_rfl) (pY z r h)))
 | .inr (.inr (.inl z)),h=>(bu o (bu o (dk (k:=282) (by kernel_rfl) (rE z r h))))
 | .inr (.inr (.inr (.inl z))),h=>(bu o (bu o (bu o (dk (k:=287) (by kernel_rfl) (pg z r h)))))
 | .inr (.inr (.inr (.inr (.inl z)))),h=>(bu o (bu o (bu o (bu o (dk (k:=298) (by kernel_rfl) (p5 z r h))))))
 | .inr (.inr (.inr (.inr (.inr (.inl z))))),h=>(bu o (bu o (bu o (bu o (bu o (dk (k:=302) (by kernel_rfl) (p6 z r h)))))))
 | .inr (.inr (.inr (.inr (.inr (.inr (_)))))),h=>by cases h
theorem qE(c r)(h:kO c=some r):bn PP 259 [.one W61 c] (.one Y54 r):=by
 unfold kO at h
 refine enter Tryz.func259 o 6 o o λF=>?_
 refine zu<|bD o o λf=>aD (t:=Y54) o jL o λu=>zz<|q 1 [(2,ptr u 0),(3,ptr f 0)] [] o<|yl 1 f0 bI o o o tr o<|y (bc o jL o o (.cons f0 o o ab (.cons f1 o o ab .nil))) o ?_
 refine st 0 .here fm o o o o tr<|zf ?_
 cases h
 exact aU o (.cell 0 .here o o o ab fm) (λ_ _ g=>g) (λ_ _ _=>List.nil_sublist _)
theorem ph(c r)(h:jV c=some r):bn PP 275 [.one W47 c] (.one Y54 r):=by
 unfold jV at h
 refine enter Tryz.func275 o 8 o o λF=>?_
 refine zu<|bD o o λf=>aD (t:=Y54) o jL o λu=>zz<|q 1 [(1,ptr f 0),(2,ptr u 0),(3,ptr f 0)] [] o<|yl 1 f0 ty2 o o o tr o<|q 1 [(4,ti c.1),(5,ptr f 1)] [2] o<|yl 1 f1 fj o o o tr o<|y (bc o jL o o (.cons f0 o o ab (.cons f3 o o ab (.cons f4 o o ab .nil)))) o ?_
 refine st 0 .here fm o o o o tr<|zf ?_
 cases h
 exact aU o (.cell 0 .here o o o ab fm) (λ_ _ g=>g) (λ_ _ _=>List.nil_sublist _)
theorem qF(c r)(h:kP c=some r):bn PP 281 [.one Y280 c] (.one Y54 r):=by
 unfold kP at h
 refine enter Tryz.func281 o 10 o o λF=>?_
 refine zu<|bD o o λf=>aD (t:=Y54) o jL o λu=>zz<|q 1 [(1,ptr f 0),(2,ptr u 0),(3,ptr f 0)] [] o<|yl 1 f0 ty2 o o o tr o<|q 1 [(4,ti c.1),(5,ptr f 1)] [1,2] o<|yl 1 f1 jI o o o tr o<|q 1 [(6,.one W65 c.2.1),(7,ptr f 2)] [2,4] o<|yl 1 f2 bK o o o tr o<|y (bc o jL o o (.cons f0 o o ab (.cons f3 o o ab (.cons f2 o o ab (.cons f5 o o ab .nil))))) o ?_
 refine st 0 .here fm o o o o tr<|zf ?_
 cases h
 exact aU o (.cell 0 .here o o o ab fm) (λ_ _ g=>g) (λ_ _ _=>List.nil_sublist _)
theorem pc(c r)(h:jG c=some r):bn PP 286 [.one Y282 c] (.one Y54 r):=by
 unfold jG at h
 refine enter Tryz.func286 o 10 o o λF=>?_
 refine zu<|bD o o λf=>aD (t:=Y54) o jL o λu=>zz<|q 1 [(1,ptr f 0),(2,ptr u 0),(3,ptr f 0)] [] o<|yl 1 f0 ty2 o o o tr o<|q 1 [(4,ti c.1),(5,ptr f 1)] [1,2] o<|yl 1 f1 bK o o o tr o<|q 1 [(6,.one W55 c.2.1),(7,ptr f 33)] [2,4] o<|yl 1 f2 bK o o o tr o<|y (bc o jL o o (.cons f0 o o ab (.cons f3 o o ab (.cons f6 o o ab (.cons f7 o o ab .nil))))) o ?_
 refine st 0 .here fm o o o o tr<|zf ?_
 cases h
 exact aU o (.cell 0 .here o o o ab fm) (λ_ _ g=>g) (λ_ _ _=>List.nil_sublist _)
theorem pi(c r)(h:jW c=some r):bn PP 297 [.one W50 c] (.one Y54 r):=by
 unfold jW at h
 refine enter Tryz.func297 o 6 o o λF=>?_
 refine zu<|bD o o λf=>aD (t:=Y54) o jL o λu=>zz<|q 1 [(2,ptr u 0),(3,ptr f 0)] [] o<|yl 1 f0 ty3 o o o tr o<|y (bc o jL o o (.cons f0 o o ab (.cons f8 o o ab .nil))) o ?_
 refine st 0 .here fm o o o o tr<|zf ?_
 cases h
 exact aU o (.cell 0 .here o o o ab fm) (λ_ _ g=>g) (λ_ _ _=>List.nil_sublist _)
theorem pj(c r)(h:jX c=some r):bn PP 301 [.one W50 c] (.one Y54 r):=by
 unfold jX at h
 refine enter Tryz.func301 o 6 o o λF=>?_
 refine zu<|bD o o λf=>aD (t:=Y54) o jL o λu=>zz<|q 1 [(2,ptr u 0),(3,ptr f 0)] [] o<|yl 1 f0 ty2 o o o tr o<|y (bc o jL o o (.cons f0 o o ab (.cons f3 o o ab .nil))) o ?_
 refine st 0 .here fm o o o o tr<|zf ?_
 cases h
 exact aU o (.cell 0 .here o o o ab fm) (λ_ _ g=>g) (λ_ _ _=>List.nil_sublist _)
theorem lu(c r)(h:mK c=some r):Inv PP "escrow/record.record" [.one Y212 c] [] (fun _=> .one Y54 r) (fun _=>[]):=match c,h with
 | .inl z,h=>(dk (k:=259) (by kernel_rfl) (qE z r h))
 | .inr (.inl z),h=>(bu o (dk (k:=275) (by kernel_rfl) (ph z r h)))
 | .inr (.inr (.inl z)),h=>(bu o (bu o (dk (k:=281) (by kernel_rfl) (qF z r h))))
 | .inr (.inr (.inr (.inl z))),h=>(bu o (bu o (bu o (dk (k:=286) (by kernel_rfl) (pc z r h)))))
 | .inr (.inr (.inr (.inr (.inl z)))),h=>(bu o (bu o (bu o (bu o (dk (k:=297) (by kernel_rfl) (pi z r h))))))
 | .inr (.inr (.inr (.inr (.inr (.inl z))))),h=>(bu o (bu o (bu o (bu o (bu o (dk (k:=301) (by kernel_rfl) (pj z r h)))))))
 | .inr (.inr (.inr (.inr (.inr (.inr (_)))))),h=>by cases h
theorem lG(f r)(h:jH f=some r):bn PP 126 [.one Y54 f] (.one Y212 r):=by
 unfold jH at h
 refine enter Tryz.func126 o 21 o o λF=>?_
 refine zu<|bD o o λW=>y (nf (U:=Y212) (.next (.next (.next (.next (.next (.next .here)))))) o) o ?_
 refine zz<|yl 0 .here fm o o o tr o<|cB h λc C h=>av (xw _ _ C) (ca o) o o<|q 1 [(1,ptr W 0),(3,.one Y212 c)] [] o<|za<|zs<|zs<|gF (S:=bJ [aX W 54 Y54 f]) (by kernel_rfl) ?_
 refine au 0 (.one Y212 c) (aj (ar 0 o) al) o (by kernel_rfl) o λs=>bz 1 (tb (dL c)) s o (by kernel_rfl) (s9 (.next (.next (.next (.next (.next (.next .here)))))) o o wx (iz c)) λs=>au 2 (tb (dL c)) s o (by kernel_rfl) o λs=>?_
 refine qp (d:=8) (b:=(dL c)) o (λhb=>?_) (λhb=>?_)
 ·rw[if_pos hb]at h
  refine bl 3 8 (aj (ar 0 o) al) o (by kernel_rfl) (.inl o) λs=>bl 4 8 s o (by kernel_rfl) (.inl o) λs=>bl 5 8 s o (by kernel_rfl) (.inl o) λs=>aI 6 (by kernel_rfl) o<|p 1 [1,3,12] o<|za<|bj (aj (ar 0 o) al) ?_
  refine aa [1,3,12] o<|au 7 (tb true) (aj (ar 0 o) al) o (by kernel_rfl) o λs=>bl 8 13 s o (by kernel_rfl) (.inl o) λs=>bl 9 13 s o (by kernel_rfl) (.inl o) λs=>bl 10 13 s o (by kernel_rfl) (.inl o) λs=>bl 11 13 s o (by kernel_rfl) (.inl o) λs=>bl 12 13 s o (by kernel_rfl) (.inl o) λs=>aI 13 (by kernel_rfl) o<|p 1 [3,19] o<|za<|bj (aj (ar 0 o) al) ?_
  refine aa [3,19] o<|eY (by kernel_rfl)<|zt ?_
  refine gO (b:=true) o (λhc=>?_) (λhc=>?_)
  ·refine zu<|y (nf (U:=Y212) (.next (.next (.next (.next (.next (.next .here)))))) o) o ?_
   refine zf<|zT ?_
   cases h
   exact aB o (.tmp o)
  cases hc
 rw[if_neg (ne_true_of_eq_false hb)]at h
 refine eM 3 8 (.one Y212 c) (aj (ar 0 o) al) o (by kernel_rfl) o (jx ai o) λs=>aI 4 (by kernel_rfl) o<|ap (by rfl) o ?_
 refine cB h λu H h=>ri [] (p7 c _ H) o o o λ_=>?_
 refine za<|bj (aj (ar 0 o) al) ?_
 refine aa [1,3,8,10] o<|eM 5 8 (tb (!u)) (aj (ar 0 o) al) o (by kernel_rfl) o (jx ai o) λs=>aI 6 (by kernel_rfl) o<|p 1 [1,3,12] o<|za<|bj (aj (ar 0 o) al) ?_
 refine aa [1,3,12] o<|au 7 (tb (!u)) (aj (ar 0 o) al) o (by kernel_rfl) o λs=>?_
 refine qp (d:=13) (b:=(!u)) o (λhb=>?_) (λhb=>?_)
 ·rw[if_pos hb]at h
  refine bl 8 13 (aj (ar 0 o) al) o (by kernel_rfl) (.inl o) λs=>bl 9 13 s o (by kernel_rfl) (.inl o) λs=>bl 10 13 s o (by kernel_rfl) (.inl o) λs=>bl 11 13 s o (by kernel_rfl) (.inl o) λs=>bl 12 13 s o (by kernel_rfl) (.inl o) λs=>aI 13 (by kernel_rfl) o<|p 1 [3,19] o<|za<|bj (aj (ar 0 o) al) ?_
  refine aa [3,19] o<|eY (by kernel_rfl)<|zt ?_
  refine gO (b:=true) o (λhc=>?_) (λhc=>?_)
  ·refine zu<|y (nf (U:=Y212) (.next (.next (.next (.next (.next (.next .here)))))) o) o ?_
   refine zf<|zT ?_
   cases h
   exact aB o (.tmp o)
  cases hc
 rw[if_neg (ne_true_of_eq_false hb)]at h
 refine eM 8 13 (.one Y212 c) (aj (ar 0 o) al) o (by kernel_rfl) o (jx ai o) λs=>?_
 refine uM (i:=9) (j:=10) (by kernel_rfl) o o ?_ ?_
 ·refine ap (by rfl) o ?_
  refine cB h λG M h=>ri [] (lu c _ M) o o o λ_=>?_
  refine za<|bj (aj (ar 0 o) al) ?_
  refine aa [1,3,13,15] o<|aI 10 (by kernel_rfl) o<|ap (by rfl) o ?_
  refine yl 0 .here fm o o o tr o<|za<|bj (aj (ar 0 o) al) ?_
  refine aa [3,13,15,16] o<|aI 11 (by kernel_rfl) o<|ap (by rfl) o ?_
  refine cB h λV R h=>av (qD _ _ _ R) (ca o) o o<|za<|bj (aj (ar 0 o) al) ?_
  refine aa [3,13,17] o<|eM 12 13 (tb (!V)) (aj (ar 0 o) al) o (by kernel_rfl) o (jx ai o) λs=>aI 13 (by kernel_rfl) o<|p 1 [3,19] o<|za<|bj (aj (ar 0 o) al) ?_
  refine aa [3,19] o<|eY (by kernel_rfl)<|zt<|rI h o (λhc h=>?_) λhc h=>?_
  ·refine zu<|y (nf (U:=Y212) (.next (.next (.next (.next (.next (.next .here)))))) o) o ?_
   refine zf<|zT ?_
   cases h
   exact aB o (.tmp o)
  refine zy<|q 2 [(2,.one Y212 c)] [] o<|zf ?_
  cases h
  exact aB o (.tmp o)
 refine ap (by rfl) o ?_
 refine yl 0 .here fm o o o tr o<|za<|bj (aj (ar 0 o) al) ?_
 refine aa [3,13,14,16] o<|aI 9 (by kernel_rfl) o<|ap (by rfl) o ?_
 refine cB h λG M h=>ri [] (lu c _ M) o o o λ_=>?_
 refine za<|bj (aj (ar 0 o) al) ?_
 refine aa [3,13,15,16] o<|aI 11 (by kernel_rfl) o<|ap (by rfl) o ?_
 refine cB h λV R h=>av (qD _ _ _ R) (ca o) o o<|za<|bj (aj (ar 0 o) al) ?_
 refine aa [3,13,17] o<|eM 12 13 (tb (!V)) (aj (ar 0 o) al) o (by kernel_rfl) o (jx ai o) λs=>aI 13 (by kernel_rfl) o<|p 1 [3,19] o<|za<|bj (aj (ar 0 o) al) ?_
 refine aa [3,19] o<|eY (by kernel_rfl)<|zt<|rI h o (λhc h=>?_) λhc h=>?_
 ·refine zu<|y (nf (U:=Y212) (.next (.next (.next (.next (.next (.next .here)))))) o) o ?_
  refine zf<|zT ?_
  cases h
  exact aB o (.tmp o)
 refine zy<|q 2 [(2,.one Y212 c)] [] o<|zf ?_
 cases h
 exact aB o (.tmp o)
theorem vv(f r)(h:pP f=some r):bn PP 119 [ts f] (.tup [⟨Y54,r.1⟩,⟨(.int .i64),r.2.1⟩,⟨(.int .i64),r.2.2⟩]):=by
 unfold pP at h
 refine enter Tryz.func119 o 123 o o λF=>?_
 refine zu<|aD (t:=Y54) o jL o λM=>q 2 [(0,ts f),(2,ptr M 0)] [] o<|zz<|p 1 [0,2,12] o<|cB h λr3 c3 h=>rc [] (gL _ _ c3) (ca o) o o o λv4=>p 1 [0,2,5] o<|zz<|p 1 [0,2,5,14] o<|eL λV hp=>?_
 subst hp
 refine cB h λu c4 h=>rc [0] (gA _ _ _ c4) (ca o) o o o λ_=>q 1 [(5,ptr V 0),(16,ti (wrap .i64 u.1))] [0,2] o<|y (bc o jL o o (.cons f0 o o ab .nil)) o ?_
 refine aD (t:=Y54) o jL o λc=>st 0 .here fm o o o o tr<|zz<|p 1 [0,2,5,6,7] o<|za<|jK h (γ:=Value) (λR g10=>[(0,ts f),(2,ptr M 0),(5,tp g10),(6,ptr c 0),(7,tb R.1)]) (λR g10=>[Res.cls dz g10 R.2.1,Res.var c 54 Y54 R.2.2,Res.var M 54 Y54 (0,(0,0,0,z32,[],()),[],0,(0,0,()),z32,z32,z32,0,())]) (λk8 h=>?_) λR g10 h=>?_
 ·refine zu<|p 1 [0,2,5,6,7,18] o<|yl 0 f0 ty3 o o o tr o<|za<|zb<|zu<|q 2 [(19,ti (wrap .i64 u.1)),(20,tb ((wrap .i64 u.1)==1))] [0,2,5,6,7] o<|za<|rI h o (λhc h=>?_) λhc h=>?_
  ·refine zu<|p 1 [0,2,5,6] o<|zz<|p 1 [0,2,5,6] o<|zz<|p 1 [0,2,5,6,23] o<|cB h λb0 c5 h=>rc [1] (dS _ _ _ c5) (ca o) o o o λ_=>cB h λW c6 h=>rc [] (om _ _ _ c6) (ca o) o o o λc7=>q 7 [(7,tb W.2.2),(8,.one W51 (aC c7 0)),(9,ts W.2.1)] [0,2,5,6] o<|zz<|q 1 [(29,tb W.2.2)] [0,2,5,6,7,8,9] o<|za ?_
   refine rI h o (λhc h=>?_) λhc h=>?_
   ·obtain⟨b1,h⟩:=cr h
    refine cJ 0 o (by omega) λO Z c8 hv=>?_
    rw[hv]
    try clear hv
    refine gF (S:=bJ [jm O Z 52 Y52 W.1]) (by kernel_rfl) ?_
    refine au 0 (.one W51 (.slice (some ⟨O,Z,none⟩) (List.length W.1) c8)) (aj (kM 0 o (by omega)) al) o (by kernel_rfl) o λs=>bz 1 (ptr O (Z+0*36)) s o (by kernel_rfl) (cU ai o o b1.1 b1.2 o bI) λs=>bz 2 (.one Y52 (List.getD W.1 0 (0,0,0,z32,[],()))) s o (by kernel_rfl) (sz (S:=λw=>bJ [jm O Z 52 Y52 W.1] w) (bA 0 o) 0 0 .here o o o (by omega) o ab bI) λs=>au 3 (ts W.2.1) s o (by kernel_rfl) o λs=>au 5 (ptr c 1) s o (by kernel_rfl) o λs=>aI 4 (by kernel_rfl) o<|cB h λc9 d0 h=>rc [] (gL _ _ d0) (ca o) o o o λb3=>za<|bj (aj (kM 1 o (by omega)) al) ?_
    refine aa [0,2,5,6,7,32,34,35] o<|aI 6 (by kernel_rfl) o<|st 3 f1 bI o o o o tr<|za<|bj (aj (kM 1 o (by omega)) al) ?_
    exact aa [0,2,5,6,7,34] o<|au 7 (tp b3) (aj (kM 1 o (by omega)) al) o (by kernel_rfl) o λs=>eY (by kernel_rfl)<|zi<|zt<|pk [0,1,1,1] o<|pk [0,1,1] o<|aa [0,2,5,6,7] o<|ah (W.2.2,c9,((wrap .i64 u.1),(List.getD W.1 0 (0,0,0,z32,[],())),[],0,(0,0,()),z32,z32,z32,0,())) b3 h o o
   refine zk<|zi<|zt<|pk [1,1,1] o<|eT (x:=b0.2) ?_
   exact aa [0,2,5,6,7] o<|ah (W.2.2,b0.2,((wrap .i64 u.1),(0,0,0,z32,[],()),[],0,(0,0,()),z32,z32,z32,0,())) (.pointer (some ⟨V,0,none⟩)) h o o
  refine zu<|q 2 [(36,tb ((wrap .i64 u.1)==2))] [0,2,5,6,7,19] o<|za<|rI h o (λhc h=>?_) λhc h=>?_
  ·refine zu<|p 1 [0,2,5,6,7,38] o<|cB h λb4 d1 h=>rc [1] (bN _ _ _ d1) (ca o) o o o λ_=>q 1 [(39,ti b4.1),(40,ptr c 38)] [0,2,5,6,7] o<|st 1 f3 ty2 o o o o tr<|zz<|p 1 [0,2,5,6,7,41] o<|cB h λb6 d2 h=>rc [0] (fB _ _ _ d2) (ca o) o o o λ_=>q 3 [(43,ti (wrap .i64 b6.1)),(45,ptr c 39)] [0,2,5,6,7] o<|st 1 ((g4 (.fst f0))) ty3 o o o o tr<|nL o<|za ?_
   refine zr<|q 1 [(0,ts f),(2,ptr M 0),(5,ptr V 0),(6,ptr c 0),(7,tb true),(46,ptr V 0)] [] o<|cB h λa1 d3 h=>rc [0] (fB _ _ _ d3) (ca o) o o o λ_=>q 3 [(48,ti (wrap .i64 a1.1)),(50,ptr c 40)] [0,2,5,6,7] o<|st 1 ((g4 (.fst f1))) ty3 o o o o tr<|zn<|zi<|zt<|eT (x:=a1.2) ?_
   exact aa [0,2,5,6,7] o<|ah (true,a1.2,((wrap .i64 u.1),(0,0,0,z32,[],()),[],b4.1,((wrap .i64 b6.1),(wrap .i64 a1.1),()),z32,z32,z32,0,())) (.pointer (some ⟨V,0,none⟩)) h o o
  refine zu<|q 2 [(51,tb ((wrap .i64 u.1)==3))] [0,2,5,6,7,19] o<|za<|rI h o (λhc h=>?_) λhc h=>?_
  ·refine zu<|p 1 [0,2,5,6,53] o<|cB h λd d4 h=>rc [1] (bN _ _ _ d4) (ca o) o o o λ_=>q 1 [(54,ti d.1),(55,ptr c 38)] [0,2,5,6] o<|st 1 f3 ty2 o o o o tr<|zz<|p 1 [0,2,5,6,56] o<|cB h λd5 d6 h=>rc [0] (fB _ _ _ d6) (ca o) o o o λ_=>q 2 [(0,ts f),(2,ptr M 0),(5,ptr V 0),(6,ptr c 0),(10,ti (wrap .i64 d5.1))] [] o ?_
   obtain⟨n37,e,h⟩:=ak h;rw[e]
   refine zz<|p 1 [0,2,5,6,10] o<|zz<|p 1 [0,2,5,6,10,59] o<|cB h λa2 d7 h=>rc [0] (gn _ _ _ d7) (ca o) o o o λ_=>q 2 [(62,tb (a2.1==0))] [0,2,5,6,10] o ?_
   obtain⟨a6,e,h⟩:=ak h;rw[e]
   refine aJ 3 [(0,ts f),(2,ptr M 0),(5,ptr V 0),(6,ptr c 0),(10,ti n37),(65,tb (a6&&(decide (n37≤512))))] [Res.var V 171 W46 a2.2,Res.var c 54 Y54 ((wrap .i64 u.1),(0,0,0,z32,[],()),[],d.1,(0,0,()),z32,z32,z32,0,()),Res.var M 54 Y54 (0,(0,0,0,z32,[],()),[],0,(0,0,()),z32,z32,z32,0,())] (?_) ?_
   ·clear h
    cases a6
    ·exact p 3 [0,2,5,6,10,65] o<|za<|ao () o o
    exact p 3 [0,2,5,6,10,65] o<|za<|ao () o o
   refine q 1 [(0,ts f),(2,ptr M 0),(5,ptr V 0),(6,ptr c 0),(7,tb (a6&&(decide (n37≤512)))),(10,ti n37)] [] o ?_
   obtain⟨d8,e,h⟩:=ak h;rw[e]
   refine zz<|p 1 [0,2,5,6,7,10,66] o<|za<|rI h o (λhc h=>?_) λhc h=>?_
   ·refine zu<|p 1 [0,2,6,10,68] o<|cB h λd9 e0 h=>rc [0] (dS _ _ _ e0) (ca o) o o o λ_=>q 1 [(69,ts d9.1),(70,ti n37)] [0,2,6] o<|cB h λG e1 h=>rc [] (om _ _ _ e1) (ca o) o o o λa7=>q 5 [(72,.one W51 (aC a7 0)),(73,ts G.2.1),(74,tb G.2.2),(75,ptr c 37)] [0,2,6] o<|kU (t:=Y54) (v:=W51) 2 f2 o o o o o o tx2 ?_
    refine q 2 [(7,tb G.2.2),(11,ts G.2.1)] [0,2,6] o<|zz<|q 1 [(76,ts G.2.1)] [0,2,6,7] o<|cB h λg0 e2 h=>rc [] (gL _ _ e2) (ca o) o o o λg1=>p 1 [0,2,5,6,7] o<|za<|zr<|p 1 [0,2,5,6,7,78] o<|eL λb8 hp=>?_
    subst hp
    refine cB h λm e3 h=>rc [0] (cR _ _ _ e3) (ca o) o o o λ_=>q 1 [(5,ptr b8 0),(79,.one W55 m.1),(80,ptr c 41)] [0,2,6,7] o<|st 3 f5 bK o o o o tr<|nL o<|zn<|zi<|zt<|pk [1,2,0,0,0] o<|fL (v:=(aC a7 0)) (T0:=(.pair (.int .i64) (.pair Y52 (.pair W51 (.pair (.int .i64) (.pair Y24 (.pair W55 (.pair W55 (.pair W55 W50))))))))) (x0:=((wrap .i64 u.1),(0,0,0,z32,[],()),(aC a7 0),d.1,(0,0,()),m.1,z32,z32,0,())) (t:=Y52) f2 o o ?_
    refine pk [1,0,0,0] o<|eT (x:=m.2) ?_
    exact pk [0,0,1] o<|aa [0,2,5,6,7] o<|ah (G.2.2,m.2,((wrap .i64 u.1),(0,0,0,z32,[],()),G.1,d.1,(0,0,()),m.1,z32,z32,0,())) (.pointer (some ⟨b8,0,none⟩)) h o o
   refine zk<|zi<|zt<|eT (x:=a2.2) ?_
   exact aa [0,2,5,6,7] o<|ah (d8,a2.2,((wrap .i64 u.1),(0,0,0,z32,[],()),[],d.1,(0,0,()),z32,z32,z32,0,())) (.pointer (some ⟨V,0,none⟩)) h o o
  refine zu<|q 2 [(81,tb ((wrap .i64 u.1)==4))] [0,2,5,6,7,19] o<|za<|rI h o (λhc h=>?_) λhc h=>?_
  ·refine zu<|p 1 [0,2,5,6,7,83] o<|cB h λb9 e4 h=>rc [1] (bN _ _ _ e4) (ca o) o o o λ_=>q 1 [(84,ti b9.1),(85,ptr c 38)] [0,2,5,6,7] o<|st 1 f3 ty2 o o o o tr<|zz<|q 1 [(0,ts f),(2,ptr M 0),(5,ptr V 0),(6,ptr c 0),(7,tb true),(86,ptr V 0)] [] o<|cB h λc0 e5 h=>rc [0] (cR _ _ _ e5) (ca o) o o o λ_=>q 1 [(87,.one W55 c0.1),(88,ptr c 73)] [0,2,5,6,7] o<|st 1 f6 bK o o o o tr<|nL o<|za ?_
   refine zr<|p 1 [0,2,5,6,7,89] o<|cB h λa3 e6 h=>rc [0] (cR _ _ _ e6) (ca o) o o o λ_=>q 1 [(90,.one W55 a3.1),(91,ptr c 105)] [0,2,5,6,7] o<|st 1 f7 bK o o o o tr<|zn<|zi<|zt<|eT (x:=a3.2) ?_
   exact aa [0,2,5,6,7] o<|ah (true,a3.2,((wrap .i64 u.1),(0,0,0,z32,[],()),[],b9.1,(0,0,()),z32,c0.1,a3.1,0,())) (.pointer (some ⟨V,0,none⟩)) h o o
  refine zu<|q 2 [(92,tb ((wrap .i64 u.1)==5))] [0,2,5,6,7,19] o<|za<|rI h o (λhc h=>?_) λhc h=>?_
  ·refine zr<|p 1 [0,2,5,6,7,94] o<|cB h λa4 e7 h=>rc [1] (fB _ _ _ e7) (ca o) o o o λ_=>q 2 [(0,ts f),(2,ptr M 0),(5,ptr V 0),(6,ptr c 0),(7,tb true),(96,ti (wrap .i64 a4.1)),(97,ptr c 137)] [] o<|st 1 f8 ty3 o o o o tr<|zn<|zi<|zt<|eT (x:=a4.2) ?_
   exact aa [0,2,5,6,7] o<|ah (true,a4.2,((wrap .i64 u.1),(0,0,0,z32,[],()),[],0,(0,0,()),z32,z32,z32,(wrap .i64 a4.1),())) (.pointer (some ⟨V,0,none⟩)) h o o
  refine zu<|q 2 [(98,tb ((wrap .i64 u.1)==6))] [0,2,5,6,7] o<|za<|rI h o (λhc h=>?_) λhc h=>?_
  ·refine zr<|q 1 [(0,ts f),(2,ptr M 0),(5,ptr V 0),(6,ptr c 0),(7,tb true),(100,ptr V 0)] [] o<|cB h λa5 e8 h=>rc [1] (bN _ _ _ e8) (ca o) o o o λ_=>q 1 [(101,ti a5.1),(102,ptr c 38)] [0,2,5,6,7] o<|st 1 f3 ty2 o o o o tr<|zn<|zi<|zt<|eT (x:=a5.2) ?_
   exact aa [0,2,5,6,7] o<|ah (true,a5.2,((wrap .i64 u.1),(0,0,0,z32,[],()),[],a5.1,(0,0,()),z32,z32,z32,0,())) (.pointer (some ⟨V,0,none⟩)) h o o
  refine zk<|zi<|zt<|pk [1,0,0] o<|eT (x:=u.2) ?_
  exact aa [0,2,5,6,7] o<|ah (true,u.2,((wrap .i64 u.1),(0,0,0,z32,[],()),[],0,(0,0,()),z32,z32,z32,0,())) (.pointer (some ⟨V,0,none⟩)) h o o
 refine eL λH hp=>?_
 subst hp
 refine zs<|zu<|q 3 [(0,ts f),(2,ptr M 0),(5,ptr H 0),(6,ptr c 0),(105,tb (!R.1))] [] o ?_
 obtain⟨e9,e,h⟩:=ak h;rw[e]
 refine bL h 4 (λN=>[(0,ts f),(2,ptr M 0),(5,ptr H 0),(6,ptr c 0),(109,tb N.1)]) (λN=>[Res.var H 171 W46 N.2,Res.var c 54 Y54 R.2.2,Res.var M 54 Y54 (0,(0,0,0,z32,[],()),[],0,(0,0,()),z32,z32,z32,0,())]) (λg2 h=>?_) λN h=>?_
 ·cases e9
  ·replace h:=ifF h
   refine p 1 [0,2,5,6,105,106] o<|ap (by rfl) o ?_
   exact cB h λa8 f4 h=>rc [0] (gn _ _ _ f4) (ca o) o o o λ_=>q 2 [(109,tb (a8.1 !=0))] [0,2,5,6] o<|zn<|aa [0,2,5,6,109] o<|zt<|ah ((a8.1 !=0),a8.2) () h o o
  replace h:=ifT h
  exact p 4 [0,2,5,6,109] o<|zn<|aa [0,2,5,6,109] o<|zt<|ah (true,R.2.1) () h o o
 refine q 1 [(0,ts f),(2,ptr M 0),(5,ptr H 0),(6,ptr c 0),(110,tb N.1)] [] o<|bL h 4 (λc1=>[(0,ts f),(2,ptr M 0),(5,ptr H 0),(6,ptr c 0),(114,tb c1)]) (λ_=>[Res.var H 171 W46 N.2,Res.var c 54 Y54 R.2.2,Res.var M 54 Y54 (0,(0,0,0,z32,[],()),[],0,(0,0,()),z32,z32,z32,0,())]) (λg3 h=>?_) λc1 h=>?_
 ·rcases Bool.eq_false_or_eq_true N.1 with hh|hh
  ·rw[hh]at h⊢
   rw[if_pos o]at h
   exact p 4 [0,2,5,6,114] o<|zn<|aa [0,2,5,6,114] o<|zt<|ah true () h o o
  rw[hh]at h⊢
  rw[if_neg (by decide)]at h
  refine ap (by rfl) o ?_
  refine yl 1 .here fm o o o tr o<|ap (by rfl) o ?_
  refine cB h λc2 f9 h=>av (lG _ _ f9) (ca o) o o<|ap (by rfl) o ?_
  refine y (s9 (.next (.next (.next (.next (.next (.next .here)))))) o o wx (iz c2)) o ?_
  exact p 1 [0,2,5,6,114] o<|zn<|aa [0,2,5,6,114] o<|zt<|ah (dL c2) () h o o
 refine za<|rI h o (λhc h=>?_) λhc h=>?_
 ·refine zu<|y (bc o jL o o .nil) o ?_
  refine st 2 .here fm o o o o tr<|q 2 [(2,ptr M 0),(3,ti 0),(4,ti 170)] [] o<|zf<|zT ?_
  cases h
  exact aF (rs:=[.cell 2 54,.tmp 3,.tmp 4]) o (.cons (.cell 2 .here o o o ab fm) (.cons (.tmp o) (.cons (.tmp o) (.nil)))) o (λ_ vs g=>aH vs g) (λ_ _ _=>List.nil_sublist _)
 refine zk<|zt<|bv h (λJ=>[(2,ptr M 0),(3,ti J.1),(4,ti J.2.1)]) (λJ=>[Res.var H 171 W46 J.2.2.1,Res.var c 54 Y54 R.2.2,Res.var M 54 Y54 J.2.2.2]) (λg5 h=>?_) λJ h=>?_
 ·refine dF (by kernel_rfl)<|ae 1 (ts f) o (by kernel_rfl) o<|ae 2 (ti (List.length f:Int)) o (by kernel_rfl) o<|ae 3 (ptr H 0) o (by kernel_rfl) o ?_
  refine br (i:=0) (j:=4) (by kernel_rfl) o o ?_ ?_
  ·refine yl 1 .here fm o o o tr o<|za<|aa [2,116,118,119] o<|af 4 (by kernel_rfl) o<|cB h λC a9 h=>rc [0] (dS _ _ _ a9) (ca o) o o o λ_=>za<|aa [2,116,118,120] o<|ae 5 (ti (List.length C.1:Int)) o (by kernel_rfl) o<|ae 6 (ti (wrap .i64 ((List.length f:Int) - (List.length C.1:Int)))) o (by kernel_rfl) o<|af 7 (by kernel_rfl) o<|st 2 .here fm o o o o tr<|za<|aa [2,122] o ?_
   exact ae 8 (ti (wrap .i64 ((List.length f:Int) - (List.length C.1:Int)))) o (by kernel_rfl) o<|ae 9 (ti 0) o (by kernel_rfl) o<|aN (by kernel_rfl)<|zt<|aa [2,3,4] o<|ah ((wrap .i64 ((List.length f:Int) - (List.length C.1:Int))),0,C.2,R.2.2) () h o o
  refine cB h λC a9 h=>rc [0] (dS _ _ _ a9) (ca o) o o o λ_=>za<|aa [2,6,118,120] o<|ae 5 (ti (List.length C.1:Int)) o (by kernel_rfl) o<|ae 6 (ti (wrap .i64 ((List.length f:Int) - (List.length C.1:Int)))) o (by kernel_rfl) o<|af 0 (by kernel_rfl) o<|yl 1 .here fm o o o tr o<|za<|aa [2,116,122] o<|af 7 (by kernel_rfl) o<|st 2 .here fm o o o o tr<|za<|aa [2,122] o ?_
  exact ae 8 (ti (wrap .i64 ((List.length f:Int) - (List.length C.1:Int)))) o (by kernel_rfl) o<|ae 9 (ti 0) o (by kernel_rfl) o<|aN (by kernel_rfl)<|zt<|aa [2,3,4] o<|ah ((wrap .i64 ((List.length f:Int) - (List.length C.1:Int))),0,C.2,R.2.2) () h o o
 refine zR ?_
 cases h
 exact aF (rs:=[.cell 2 54,.tmp 3,.tmp 4]) o (.cons (.cell 2 .here o o o ab fm) (.cons (.tmp o) (.cons (.tmp o) (.nil)))) o (λ_ vs g=>aH vs g) (λ_ _ _=>List.nil_sublist _)
theorem dp(c r)(h:cz c=some r):Fn PP 124 [.one W65 c] [] (λv=> .one W51 v) (λv=>[Res.own v 52 Y52 r]):=by
 unfold cz at h
 refine enter Tryz.func124 o 8 o o λF=>?_
 refine zu<|q 1 [(0,.one W65 c)] [] o<|za<|zs<|zu<|p 1 [0,3] o<|s6 o Tryz.underlying22 o λg1 f=>?_
 refine za ?_
 refine gO (b:=g1) o (λhc=>?_) (λhc=>?_)
 ·have hx:=f hc
  subst hx
  have h:(some []:Option ((List Z51)))=some r:=by simpa using h
  refine zu<|q 1 [(2,.one W51 (.slice none 0 0))] [] o<|zf<|zT<|cj (.slice none 0 0) o 52 Y52 ?_
  cases h
  exact aU o (.tmp o) (λ_ _ g=>holds_raw.2 ⟨rfl,by rw[(holds_raw.1 g).1];exact(holds_raw.1 g).2⟩) (λ_ _ g=>by obtain⟨rfl,_⟩:=holds_raw.1 g;exact(.cons_cons _ .slnil))
 refine zy<|bE (B:=72) ai o jM o o o .nil o λu=>?_
 refine q 1 [(5,.one W51 u),(6,.one W65 c)] [] o<|iE h λhc h=>bq (B:=72) ai 0 o o (ut o) o jM o o hc o λM=>?_
 refine q 1 [(2,.one W51 M)] [] o<|zf ?_
 cases h
 exact aU o (.tmp o) (λ_ _ g=>holds_raw.2 ⟨rfl,by rw[(holds_raw.1 g).1];exact(holds_raw.1 g).2⟩) (λ_ _ g=>by obtain⟨rfl,_⟩:=holds_raw.1 g;exact(.cons_cons _ .slnil))
theorem ip(c r)(h:eC c=some r):Fn PP 125 [.one W66 c] [] (λv=> .one W51 v) (λv=>[Res.own v 56 Y56 r]):=by
 unfold eC at h
 refine enter Tryz.func125 o 8 o o λF=>?_
 refine zu<|q 1 [(0,.one W66 c)] [] o<|za<|zs<|zu<|p 1 [0,3] o<|s6 o Tryz.underlying28 o λg1 f=>?_
 refine za ?_
 refine gO (b:=g1) o (λhc=>?_) (λhc=>?_)
 ·have hx:=f hc
  subst hx
  have h:(some []:Option ((List Z55)))=some r:=by simpa using h
  refine zu<|q 1 [(2,.one W51 (.slice none 0 0))] [] o<|zf<|zT<|cj (.slice none 0 0) o 56 Y56 ?_
  cases h
  exact aU o (.tmp o) (λ_ _ g=>holds_raw.2 ⟨rfl,by rw[(holds_raw.1 g).1];exact(holds_raw.1 g).2⟩) (λ_ _ g=>by obtain⟨rfl,_⟩:=holds_raw.1 g;exact(.cons_cons _ .slnil))
 refine zy<|bE (B:=48) ai o xp o o o .nil o λu=>?_
 refine q 1 [(5,.one W51 u),(6,.one W66 c)] [] o<|iE h λhc h=>bq (B:=48) ai 0 o o (ut o) o xp o o hc o λM=>?_
 refine q 1 [(2,.one W51 M)] [] o<|zf ?_
 cases h
 exact aU o (.tmp o) (λ_ _ g=>holds_raw.2 ⟨rfl,by rw[(holds_raw.1 g).1];exact(holds_raw.1 g).2⟩) (λ_ _ g=>by obtain⟨rfl,_⟩:=holds_raw.1 g;exact(.cons_cons _ .slnil))
theorem vw(c r)(h:pQ c=some r):bn PP 264 [.one W65 c] (ti r):=by
 unfold pQ at h
 refine enter Tryz.func264 o 19 o o λF=>?_
 refine zu<|q 1 [(0,.one W65 c)] [] o<|zz<|p 1 [0,3] o<|za<|bv h (λM=>[(3,ti M)]) (λM=>[]) (λR h=>?_) λM h=>?_
 ·refine zu<|q 3 [(6,.one W65 c),(7,ti (List.length c:Int)),(8,ti 0)] [3] o<|za<|zb<|aa [3,6,7,8] o<|aY (γ:=Unit) (λ(f:Int×Int) _=>[(3,ti f.1),(6,.one W65 c),(7,ti (List.length c:Int)),(8,ti f.2)]) (λ(f:Int×Int) _=>[]) (la c R) (0,0) () h o o ?_
  clear h
  intro V f gg h
  cases V with
  |zero=>cases h
  |succ V=>
  simp only[la]at h
  refine zu<|q 1 [(3,ti f.1),(8,ti f.2),(9,tb (decide (f.2<(List.length c:Int))))] [6,7] o<|za<|zs<|rI h o (λhc h=>?_) λhc h=>?_
  ·refine zk<|zt<|bv h (λu=>[(3,ti u),(6,.one W65 c),(7,ti (List.length c:Int)),(8,ti f.2)]) (λu=>[]) (λW h=>?_) λu h=>?_
   ·refine zb<|zu<|iE h λhc h=>y (ff ai o o hc.1 hc.2 o bI) o ?_
    refine y (ga o bI) o ?_
    refine aD (t:=Y52) o jJ o λC=>st 0 .here bI o o o o tr<|zz<|p 1 [3,6,7,8,12] o<|yl 0 f0 ty3 o o o tr o<|q 1 [(14,tb (((List.getD c (Int.toNat f.2) (0,0,0,z32,[],())).1)==1))] [3,6,7,8] o ?_
    obtain⟨H,e,h⟩:=ak h;rw[e]
    refine za<|rI h o (λhc h=>?_) λhc h=>?_
    ·refine zr<|q 3 [(3,ti (wrap .i64 (f.1+1)))] [6,7,8] o ?_
     obtain⟨n11,e,h⟩:=ak h;rw[e]
     exact zn<|zi<|zt<|pk [] o<|aa [3,6,7,8] o<|ah n11 () h o o
    exact zk<|zi<|zt<|pk [] o<|aa [3,6,7,8] o<|ah f.1 () h o o
   exact zr<|q 2 [(3,ti u),(6,.one W65 c),(7,ti (List.length c:Int)),(8,ti (wrap .i64 (f.2+1)))] [] o<|za<|aa [3,6,7,8] o<|aR (u,(wrap .i64 (f.2+1))) () (Nat.lt_succ_self _) h o o
  exact zx<|ze<|ze<|zq<|zt<|aa [3] o<|ah f.1 () h o o
 refine zu<|q 2 [(2,ti M)] [] o<|zf ?_
 cases h
 exact aB o (.tmp o)
theorem pE(c M V r)(h:mL c M V=some r):bn PP 268 [.one W65 c,ti M,tb V] (.tup [⟨Y52,r.1⟩,⟨.bool,r.2⟩]):=by
 unfold mL at h
 refine enter Tryz.func268 o 45 o o λF=>?_
 refine zu<|aD (t:=Y52) o jJ o λu=>q 1 [(0,.one W65 c),(1,ti M),(2,tb V),(6,ptr u 0)] [] o<|za<|bv h (λN=>[(6,ptr u 0)]) (λN=>[Res.var u 52 Y52 (0,0,0,z32,[],())]) (λm h=>?_) λN h=>?_
 ·refine zu<|q 3 [(10,.one W65 c),(11,ti (List.length c:Int)),(12,ti 0)] [1,2,6] o<|za<|zb<|aa [1,2,6,10,11,12] o<|aY (γ:=Unit) (λ(f:Int) _=>[(1,ti M),(2,tb V),(6,ptr u 0),(10,.one W65 c),(11,ti (List.length c:Int)),(12,ti f)]) (λ(f:Int) _=>[Res.var u 52 Y52 (0,0,0,z32,[],())]) (kE c M V m) 0 () h o o ?_
  clear h
  intro J f gg h
  cases J with
  |zero=>cases h
  |succ J=>
  simp only[kE]at h
  refine zu<|q 1 [(12,ti f),(13,tb (decide (f<(List.length c:Int))))] [1,2,6,10,11] o<|za<|zs<|rI h o (λhc h=>?_) λhc h=>?_
  ·refine zk<|zt<|zs<|zb<|zu<|iE h λhc h=>y (ff ai o o hc.1 hc.2 o bI) o ?_
   refine y (ga o bI) o ?_
   refine aD (t:=Y52) o jJ o λR=>st 0 .here bI o o o o tr<|zz<|p 1 [1,2,6,9,10,11,12,16] o<|yl 0 f1 ty2 o o o tr o<|q 2 [(19,tb (((List.getD c (Int.toNat f) (0,0,0,z32,[],())).2.1)==M))] [1,2,6,9,10,11,12] o ?_
   obtain⟨O,e,h⟩:=ak h;rw[e]
   refine p 1 [1,2,6,9,10,11,12,20] o<|bL h 21 (λd=>[(1,ti M),(2,tb V),(6,ptr u 0),(9,ptr R 0),(10,.one W65 c),(11,ti (List.length c:Int)),(12,ti f),(41,tb d)]) (λ_=>[Res.var R 52 Y52 (List.getD c (Int.toNat f) (0,0,0,z32,[],())),Res.var u 52 Y52 (0,0,0,z32,[],())]) (λZ h=>?_) λd h=>?_
   ·rcases Bool.eq_false_or_eq_true O with hh|hh
    ·rw[hh]at h⊢
     rw[if_pos o]at h
     refine p 3 [1,2,6,9,10,11,12,20,23] o ?_
     obtain⟨G,e,h⟩:=ak h;rw[e]
     refine aJ 4 [(1,ti M),(2,tb V),(6,ptr u 0),(9,ptr R 0),(10,.one W65 c),(11,ti (List.length c:Int)),(12,ti f),(20,tb true),(27,tb (G&&(((List.getD c (Int.toNat f) (0,0,0,z32,[],())).1)==1)))] [Res.var R 52 Y52 (List.getD c (Int.toNat f) (0,0,0,z32,[],())),Res.var u 52 Y52 (0,0,0,z32,[],())] (?_) ?_
     ·clear h
      cases G
      ·exact p 4 [1,2,6,9,10,11,12,20,27] o<|za<|ao () o o
      refine p 1 [1,2,6,9,10,11,12,20,23,24] o<|ap (by rfl) o ?_
      exact yl 0 f0 ty3 o o o tr o<|q 2 [(27,tb (((List.getD c (Int.toNat f) (0,0,0,z32,[],())).1)==1))] [1,2,6,9,10,11,12,20] o<|aa [1,2,6,9,10,11,12,20,27] o<|za<|ao () o o
     refine q 1 [(1,ti M),(2,tb V),(6,ptr u 0),(9,ptr R 0),(10,.one W65 c),(11,ti (List.length c:Int)),(12,ti f),(20,tb true),(28,tb (G&&(((List.getD c (Int.toNat f) (0,0,0,z32,[],())).1)==1)))] [] o ?_
     obtain⟨w,e,h⟩:=ak h;rw[e]
     refine bL h 12 (λW=>[(1,ti M),(2,tb V),(6,ptr u 0),(9,ptr R 0),(10,.one W65 c),(11,ti (List.length c:Int)),(12,ti f),(20,tb true),(40,tb W)]) (λ_=>[Res.var R 52 Y52 (List.getD c (Int.toNat f) (0,0,0,z32,[],())),Res.var u 52 Y52 (0,0,0,z32,[],())]) (λa3 h=>?_) λW h=>?_
     ·rcases Bool.eq_false_or_eq_true w with hh|hh
      ·rw[hh]at h⊢
       rw[if_pos o]at h
       exact p 12 [1,2,6,9,10,11,12,20,40] o<|zn<|aa [1,2,6,9,10,11,12,20,40] o<|zt<|ah true () h o o
      rw[hh]at h⊢
      rw[if_neg (by decide)]at h
      refine p 2 [1,2,6,9,10,11,12,20,28,30] o<|bL h 9 (λC=>[(1,ti M),(2,tb V),(6,ptr u 0),(9,ptr R 0),(10,.one W65 c),(11,ti (List.length c:Int)),(12,ti f),(20,tb true),(28,tb false),(39,tb C)]) (λ_=>[Res.var R 52 Y52 (List.getD c (Int.toNat f) (0,0,0,z32,[],())),Res.var u 52 Y52 (0,0,0,z32,[],())]) (λa4 h=>?_) λC h=>?_
      ·cases V
       ·replace h:=ifF h
        exact p 9 [1,2,6,9,10,11,12,20,28,39] o<|zn<|aa [1,2,6,9,10,11,12,20,28,39] o<|zt<|ah false () h o o
       replace h:=ifT h
       refine p 1 [1,2,6,9,10,11,12,20,28,30,31] o<|ap (by rfl) o ?_
       refine yl 0 f0 ty3 o o o tr o<|q 2 [(34,tb (((List.getD c (Int.toNat f) (0,0,0,z32,[],())).1)==2))] [1,2,6,9,10,11,12,20,28,30] o ?_
       obtain⟨H,e,h⟩:=ak h;rw[e]
       refine aJ 4 [(1,ti M),(2,tb true),(6,ptr u 0),(9,ptr R 0),(10,.one W65 c),(11,ti (List.length c:Int)),(12,ti f),(20,tb true),(28,tb false),(30,tb true),(38,tb (H||(((List.getD c (Int.toNat f) (0,0,0,z32,[],())).1)==3)))] [Res.var R 52 Y52 (List.getD c (Int.toNat f) (0,0,0,z32,[],())),Res.var u 52 Y52 (0,0,0,z32,[],())] (?_) ?_
       ·clear h
        cases H
        ·refine p 1 [1,2,6,9,10,11,12,20,28,30,34,35] o<|ap (by rfl) o ?_
         exact yl 0 f0 ty3 o o o tr o<|q 2 [(38,tb (((List.getD c (Int.toNat f) (0,0,0,z32,[],())).1)==3))] [1,2,6,9,10,11,12,20,28,30] o<|aa [1,2,6,9,10,11,12,20,28,30,38] o<|za<|ao () o o
        exact p 4 [1,2,6,9,10,11,12,20,28,30,38] o<|za<|ao () o o
       exact q 1 [(1,ti M),(2,tb true),(6,ptr u 0),(9,ptr R 0),(10,.one W65 c),(11,ti (List.length c:Int)),(12,ti f),(20,tb true),(28,tb false),(39,tb (H||(((List.getD c (Int.toNat f) (0,0,0,z32,[],())).1)==3)))] [] o<|zn<|aa [1,2,6,9,10,11,12,20,28,39] o<|zt<|ah (H||(((List.getD c (Int.toNat f) (0,0,0,z32,[],())).1)==3)) () h o o
      exact q 1 [(1,ti M),(2,tb V),(6,ptr u 0),(9,ptr R 0),(10,.one W65 c),(11,ti (List.length c:Int)),(12,ti f),(20,tb true),(40,tb C)] [] o<|zn<|aa [1,2,6,9,10,11,12,20,40] o<|zt<|ah C () h o o
     exact q 1 [(1,ti M),(2,tb V),(6,ptr u 0),(9,ptr R 0),(10,.one W65 c),(11,ti (List.length c:Int)),(12,ti f),(41,tb W)] [] o<|zn<|aa [1,2,6,9,10,11,12,41] o<|zt<|ah W () h o o
    rw[hh]at h⊢
    rw[if_neg (by decide)]at h
    exact p 21 [1,2,6,9,10,11,12,41] o<|zn<|aa [1,2,6,9,10,11,12,41] o<|zt<|ah false () h o o
   exact za<|rI h o (λhc h=>zu<|yl 0 .here bI o o o tr o<|st 1 .here bI o o o o tr<|q 1 [(6,ptr u 0),(7,tb true)] [] o<|zf<|zB<|zT<|zT<|zB<|zT<|by cases h;exact aF (rs:=[.cell 6 52,.tmp 7]) o (.cons (.cell 1 .here o o o ab bI) (.cons (.tmp o) (.nil))) o (λ_ vs g=>aH vs g) (λ_ _ _=>List.nil_sublist _)) λhc h=>zk<|zi<|zt<|zr<|q 2 [(1,ti M),(2,tb V),(6,ptr u 0),(10,.one W65 c),(11,ti (List.length c:Int)),(12,ti (wrap .i64 (f+1)))] [] o<|za<|pk [1] o<|aa [1,2,6,10,11,12] o<|aR (wrap .i64 (f+1)) () (Nat.lt_succ_self _) h o o
  exact zx<|ze<|ze<|zq<|zt<|aa [6] o<|ah () () h o o
 refine zu<|y (bc o jJ o o .nil) o ?_
 refine st 0 .here bI o o o o tr<|q 1 [(6,ptr u 0),(7,tb false)] [] o<|zf ?_
 cases h
 exact aF (rs:=[.cell 6 52,.tmp 7]) o (.cons (.cell 0 .here o o o ab bI) (.cons (.tmp o) (.nil))) o (λ_ vs g=>aH vs g) (λ_ _ _=>List.nil_sublist _)
theorem vx(c f r)(h:pR c f=some r):bn PP 265 [.one W65 c,ti f] (.tup [⟨Y52,r.1⟩,⟨.bool,r.2⟩]):=by
 unfold pR at h
 refine enter Tryz.func265 o 11 o o λF=>?_
 refine zu<|aD (t:=Y52) o jJ o λM=>q 1 [(0,.one W65 c),(1,ti f),(4,ptr M 0)] [] o<|zz<|p 2 [4,6,7] o<|cB h λu V h=>av (pE _ _ _ _ V) (ca o) o o<|q 2 [(9,.one Y52 u.1),(10,tb u.2)] [4] o<|st 0 .here bI o o o o tr<|q 1 [(5,tb u.2)] [4] o<|zf ?_
 cases h
 exact aF (rs:=[.cell 4 52,.tmp 5]) o (.cons (.cell 0 .here o o o ab bI) (.cons (.tmp o) (.nil))) o (λ_ vs g=>aH vs g) (λ_ _ _=>List.nil_sublist _)
theorem tD(c f r)(h:nk c f=some r):bn PP 266 [.one W65 c,ti f] (.tup [⟨Y52,r.1⟩,⟨.bool,r.2⟩]):=by
 unfold nk at h
 refine enter Tryz.func266 o 11 o o λF=>?_
 refine zu<|aD (t:=Y52) o jJ o λM=>q 1 [(0,.one W65 c),(1,ti f),(4,ptr M 0)] [] o<|zz<|p 2 [4,6,7] o<|cB h λu V h=>av (pE _ _ _ _ V) (ca o) o o<|q 2 [(9,.one Y52 u.1),(10,tb u.2)] [4] o<|st 0 .here bI o o o o tr<|q 1 [(5,tb u.2)] [4] o<|zf ?_
 cases h
 exact aF (rs:=[.cell 4 52,.tmp 5]) o (.cons (.cell 0 .here o o o ab bI) (.cons (.tmp o) (.nil))) o (λ_ vs g=>aH vs g) (λ_ _ _=>List.nil_sublist _)
theorem uZ(c f r)(h:strings_Join c f=some r):bn PP 269 [.one W67 c,ts f] (ts r):=As Go.Proofs.Tryz.strings_Join_none Go.Proofs.Tryz.strings_Join c f r h
theorem tE(r)(h:nl=some r):bn PP 270 [] (.one W54 r):=by
 unfold nl at h
 refine enter Tryz.func270 o 2 o o λF=>?_
 refine zu<|aD (t:=W54) o nR o λc=>zz<|y (bc o nR o o (.cons (.elem 0 .here) o o (ax (by omega) ab) (.cons (.elem 1 .here) o o (ax (by omega) ab) (.cons (.elem 2 .here) o o (ax (by omega) ab) (.cons (.elem 3 .here) o o (ax (by omega) ab) (.cons (.elem 4 .here) o o (ax (by omega) ab) (.cons (.elem 5 .here) o o (ax (by omega) ab) (.cons (.elem 6 .here) o o (ax (by omega) ab) (.cons (.elem 7 .here) o o (ax (by omega) ab) (.cons (.elem 8 .here) o o (ax (by omega) ab) (.cons (.elem 9 .here) o o (ax (by omega) ab) (.cons (.elem 10 .here) o o (ax (by omega) ab) (.cons (.elem 11 .here) o o (ax (by omega) ab) (.cons (.elem 12 .here) o o (ax (by omega) ab) (.cons (.elem 13 .here) o o (ax (by omega) ab) (.cons (.elem 14 .here) o o (ax (by omega) ab) (.cons (.elem 15 .here) o o (ax (by omega) ab) (.cons (.elem 16 .here) o o (ax (by omega) ab) (.cons (.elem 17 .here) o o (ax (by omega) ab) (.cons (.elem 18 .here) o o (ax (by omega) ab) (.cons (.elem 19 .here) o o (ax (by omega) ab) (.cons (.elem 20 .here) o o (ax (by omega) ab) (.cons (.elem 21 .here) o o (ax (by omega) ab) (.cons (.elem 22 .here) o o (ax (by omega) ab) (.cons (.elem 23 .here) o o (ax (by omega) ab) (.cons (.elem 24 .here) o o (ax (by omega) ab) (.cons (.elem 25 .here) o o (ax (by omega) ab) (.cons (.elem 26 .here) o o (ax (by omega) ab) (.cons (.elem 27 .here) o o (ax (by omega) ab) (.cons (.elem 28 .here) o o (ax (by omega) ab) (.cons (.elem 29 .here) o o (ax (by omega) ab) (.cons (.elem 30 .here) o o (ax (by omega) ab) (.cons (.elem 31 .here) o o (ax (by omega) ab) (.cons (.elem 32 .here) o o (ax (by omega) ab) (.cons (.elem 33 .here) o o (ax (by omega) ab) (.cons (.elem 34 .here) o o (ax (by omega) ab) (.cons (.elem 35 .here) o o (ax (by omega) ab) (.cons (.elem 36 .here) o o (ax (by omega) ab) (.cons (.elem 37 .here) o o (ax (by omega) ab) (.cons (.elem 38 .here) o o (ax (by omega) ab) (.cons (.elem 39 .here) o o (ax (by omega) ab) (.cons (.elem 40 .here) o o (ax (by omega) ab) (.cons (.elem 41 .here) o o (ax (by omega) ab) (.cons (.elem 42 .here) o o (ax (by omega) ab) (.cons (.elem 43 .here) o o (ax (by omega) ab) (.cons (.elem 44 .here) o o (ax (by omega) ab) (.cons (.elem 45 .here) o o (ax (by omega) ab) (.cons (.elem 46 .here) o o (ax (by omega) ab) (.cons (.elem 47 .here) o o (ax (by omega) ab) (.cons (.elem 48 .here) o o (ax (by omega) ab) (.cons (.elem 49 .here) o o (ax (by omega) ab) (.cons (.elem 50 .here) o o (ax (by omega) ab) (.cons (.elem 51 .here) o o (ax (by omega) ab) (.cons (.elem 52 .here) o o (ax (by omega) ab) (.cons (.elem 53 .here) o o (ax (by omega) ab) (.cons (.elem 54 .here) o o (ax (by omega) ab) (.cons (.elem 55 .here) o o (ax (by omega) ab) (.cons (.elem 56 .here) o o (ax (by omega) ab) (.cons (.elem 57 .here) o o (ax (by omega) ab) (.cons (.elem 58 .here) o o (ax (by omega) ab) (.cons (.elem 59 .here) o o (ax (by omega) ab) (.cons (.elem 60 .here) o o (ax (by omega) ab) (.cons (.elem 61 .here) o o (ax (by omega) ab) (.cons (.elem 62 .here) o o (ax (by omega) ab) (.cons (.elem 63 .here) o o (ax (by omega) ab) .nil))))))))))))))))))))))))))))))))))))))))))))))))))))))))))))))))) o ?_
 refine st 0 .here l4 o o o o tr<|zf ?_
 cases h
 exact aU o (.cell 0 .here o o o ab l4) (λ_ _ g=>g) (λ_ _ _=>List.nil_sublist _)
theorem cm(c f r)(h:ce c f=some r):bn PP 273 [.one (.int .u32) c,ti f] (.one (.int .u32) r):=by
 unfold ce at h
 refine enter Tryz.func273 o 17 o o λF=>?_
 refine zu<|q 1 [(0,.one (.int .u32) c),(1,ti f)] [] o<|zz<|p 4 [0,5] o ?_
 obtain⟨u,e,h⟩:=ak h;rw[e]
 refine zz<|q 9 [(4,.one (.int .u32) (ior .u32 (fC .u32 c u) (bQ .u32 c (wrap .u64 (32 - u)))))] [] o<|zf ?_
 cases h
 exact aB o (.tmp o)
theorem iQ(R r)(h:oc R=some r):bn PP 272 [ts R] (.one W54 r):=by
 unfold oc at h
 refine enter Tryz.func272 o 77 o o λF=>?_
 refine zu<|aD (t:=W54) o nR o λM=>zz<|aD (t:=W54) o nR o λu=>za<|bv h (λC=>[(2,ptr M 0),(3,ptr u 0)]) (λC=>[Res.var u 354 W54 C,Res.var M 354 W54 (List.replicate 64 (0:Int))]) (λw h=>?_) λC h=>?_
 ·refine zu<|q 1 [(0,ts R),(2,ptr M 0),(3,ptr u 0),(11,ti 0)] [] o<|za<|zb<|aa [0,2,3,11] o<|aY (γ:=Unit) (λ(f:Int×List (Int)) _=>[(0,ts R),(2,ptr M 0),(3,ptr u 0),(11,ti f.1)]) (λ(f:Int×List (Int)) _=>[Res.var u 354 W54 f.2,Res.var M 354 W54 (List.replicate 64 (0:Int))]) (j5 R w) (0,(List.replicate 64 (0:Int))) () h o o ?_
  clear h
  intro N f gg h
  cases N with
  |zero=>cases h
  |succ N=>
  simp only[j5]at h
  refine zu<|q 1 [(11,ti f.1),(12,tb (decide (f.1<16)))] [0,2,3] o<|za<|zs<|rI h o (λhc h=>?_) λhc h=>?_
  ·refine zk<|zt<|zs<|zb<|zu<|q 2 [(4,ti f.1)] [0,2,3,11] o<|zz<|p 1 [0,2,3,4,11,14] o<|za<|bX h λJ Z h=>?_
   refine qo (γ:=Unit) (λ(H:List (Int)) _=>[(0,ts R),(2,ptr M 0),(3,ptr u 0),(11,ti f.1)]) (λ(H:List (Int)) _=>[Res.var u 354 W54 H,Res.var M 354 W54 (List.replicate 64 (0:Int))]) J r ?_ ?_
   ·refine zb<|aa [0,2,3,4,11,14] o<|aY (γ:=Unit) (λ(V:Int×List (Int)) _=>[(0,ts R),(2,ptr M 0),(3,ptr u 0),(4,ti f.1),(11,ti f.1),(14,ti V.1)]) (λ(V:Int×List (Int)) _=>[Res.var u 354 W54 V.2,Res.var M 354 W54 (List.replicate 64 (0:Int))]) (jZ R f J) (0,f.2) () h o o ?_
    clear h
    intro m32 V gg h
    cases m32 with
    |zero=>cases h
    |succ m32=>
    simp only[jZ]at h
    refine zu<|q 1 [(14,ti V.1),(15,tb (decide (V.1<4)))] [0,2,3,4,11] o<|za<|zs<|rI h o (λhc h=>?_) λhc h=>?_
    ·refine zk<|zt<|zs<|zb<|zu<|q 2 [(5,ti V.1)] [0,2,3,4,11,14] o<|za<|dF (by kernel_rfl)<|ae 0 (ti f.1) o (by kernel_rfl) o<|ae 1 (ti f.1) o (by kernel_rfl) o<|iE h λhc h=>fH 2 (ptr u (0+(Int.toNat f.1)*1)) o (by kernel_rfl) (bY o o hc.1 hc.2 oI cA)<|ae 5 (ts R) o (by kernel_rfl) o<|ae 6 (ti f.1) o (by kernel_rfl) o ?_
     refine ae 7 (ti (wrap .i64 (4*f.1))) o (by kernel_rfl) o<|ae 8 (ti V.1) o (by kernel_rfl) o<|ae 9 (ti (wrap .i64 ((wrap .i64 (4*f.1))+V.1))) o (by kernel_rfl) o<|iE h λhc h=>fH 10 (.one (.int .u8) (List.getD R (Int.toNat (wrap .i64 ((wrap .i64 (4*f.1))+V.1))) 0)) o (by kernel_rfl) (ge ai o o hc.1 hc.2 o)<|ae 11 (.one (.int .u32) (wrap .u32 (List.getD R (Int.toNat (wrap .i64 ((wrap .i64 (4*f.1))+V.1))) 0))) o (by kernel_rfl) o<|af 3 (by kernel_rfl) o<|y (aM 0 (.elem (Int.toNat f.1) .here) o o (by first|rfl|(simp only[Pth.off,T.size];omega)) (ax (by first|omega|(simp only[List.length_set]at hc⊢;omega)) ab) cA) o ?_
     refine za<|aa [0,2,3,4,11,14,17,20,28] o<|ae 4 (.one (.int .u32) (fC .u32 (List.getD V.2 (Int.toNat f.1) 0) 8)) o (by kernel_rfl) o<|ae 12 (.one (.int .u32) (ior .u32 (fC .u32 (List.getD V.2 (Int.toNat f.1) 0) 8) (wrap .u32 (List.getD R (Int.toNat (wrap .i64 ((wrap .i64 (4*f.1))+V.1))) 0)))) o (by kernel_rfl) o<|iE h λhc h=>fH 13 (ptr u (0+(Int.toNat f.1)*1)) o (by kernel_rfl) (bY o o hc.1 hc.2 oI cA)<|af 14 (by kernel_rfl) o<|kd 0 (.elem (Int.toNat f.1) .here) o o o (by first|rfl|(simp only[Pth.off,T.size];omega)) (ax (by first|omega|(simp only[List.length_set]at hc⊢;omega)) ab) cA<|za<|aa [0,2,3,4,11,14] o<|aN (by kernel_rfl)<|zi<|zt<|zr ?_
     exact q 2 [(14,ti (wrap .i64 (V.1+1)))] [0,2,3,4,11] o<|za<|aa [0,2,3,4,11,14] o<|aR ((wrap .i64 (V.1+1)),(List.set V.2 (Int.toNat f.1) (ior .u32 (fC .u32 (List.getD V.2 (Int.toNat f.1) 0) 8) (wrap .u32 (List.getD R (Int.toNat (wrap .i64 ((wrap .i64 (4*f.1))+V.1))) 0))))) () (Nat.lt_succ_self _) h o o
    exact zx<|ze<|ze<|zq<|zt<|aa [0,2,3,11] o<|ah V.2 () h o o
   intro H gg h
   rw[←Z]at h
   try dsimp only at h
   exact zi<|zt<|zr<|q 2 [(11,ti (wrap .i64 (f.1+1)))] [0,2,3] o<|za<|aa [0,2,3,11] o<|aR ((wrap .i64 (f.1+1)),H) () (Nat.lt_succ_self _) h o o
  exact zx<|ze<|ze<|zq<|zt<|aa [2,3] o<|ah f.2 () h o o
 refine bv h (λG=>[(2,ptr M 0),(3,ptr u 0)]) (λG=>[Res.var u 354 W54 G,Res.var M 354 W54 (List.replicate 64 (0:Int))]) (λk6 h=>?_) λG h=>?_
 ·refine zu<|q 1 [(2,ptr M 0),(3,ptr u 0),(6,ti 16)] [] o<|za<|zb<|aa [2,3,6] o<|aY (γ:=Unit) (λ(c:Int×List (Int)) _=>[(2,ptr M 0),(3,ptr u 0),(6,ti c.1)]) (λ(c:Int×List (Int)) _=>[Res.var u 354 W54 c.2,Res.var M 354 W54 (List.replicate 64 (0:Int))]) (jY k6) (16,C) () h o o ?_
  clear h
  intro d c gg h
  cases d with
  |zero=>cases h
  |succ d=>
  simp only[jY]at h
  refine zs<|zu<|q 2 [(6,ti c.1),(34,tb (decide (c.1<64)))] [2,3] o<|za<|rI h o (λhc h=>?_) λhc h=>?_
  ·refine zk<|zt<|zs<|zb<|zs<|eE (by kernel_rfl) (by kernel_rfl) ?_
   refine aA ai 2 [2,3,6,38] (E':=[(2,ptr M 0),(3,ptr u 0),(6,ti c.1),(38,ti (wrap .i64 (c.1 - 15)))]) o ?_
   refine iE h λhc h=>q_y (bY o o hc.1 hc.2 oI cA) o ?_
   refine q_y (aM 0 (.elem (Int.toNat (wrap .i64 (c.1 - 15))) .here) o o (by first|rfl|(simp only[Pth.off,T.size];omega)) (ax (by first|omega|(simp only[List.length_set]at hc⊢;omega)) ab) cA) o ?_
   refine aA ai 2 [2,3,6,40,42] (E':=[(2,ptr M 0),(3,ptr u 0),(6,ti c.1),(40,.one (.int .u32) (List.getD c.2 (Int.toNat (wrap .i64 (c.1 - 15))) 0)),(42,ti (wrap .i64 (c.1 - 2)))]) o ?_
   refine iE h λhc h=>q_y (bY o o hc.1 hc.2 oI cA) o ?_
   refine q_y (aM 0 (.elem (Int.toNat (wrap .i64 (c.1 - 2))) .here) o o (by first|rfl|(simp only[Pth.off,T.size];omega)) (ax (by first|omega|(simp only[List.length_set]at hc⊢;omega)) ab) cA) o ?_
   refine aA ai 1 [2,3,6,7,44] (E':=[(2,ptr M 0),(3,ptr u 0),(6,ti c.1),(7,.one (.int .u32) (List.getD c.2 (Int.toNat (wrap .i64 (c.1 - 15))) 0)),(44,.one (.int .u32) (List.getD c.2 (Int.toNat (wrap .i64 (c.1 - 2))) 0))]) o ?_
   obtain⟨a1,e,h⟩:=ak h;rw[e]
   refine aA ai 1 [2,3,6,7,8] (E':=[(2,ptr M 0),(3,ptr u 0),(6,ti c.1),(7,.one (.int .u32) a1),(8,.one (.int .u32) (List.getD c.2 (Int.toNat (wrap .i64 (c.1 - 2))) 0))]) o ?_
   obtain⟨a8,e,h⟩:=ak h;rw[e]
   refine eX ?_
   refine zt<|zu<|p 1 [2,3,6,7,8,45] o<|cB h λa9 a2 h=>av (cm _ _ _ a2) (ca o) o o<|p 1 [2,3,6,7,8,46,47] o<|cB h λb0 a3 h=>av (cm _ _ _ a3) (ca o) o o<|p 5 [2,3,6,8,9] o ?_
   obtain⟨m,e,h⟩:=ak h;rw[e]
   refine zz<|p 1 [2,3,6,8,9,53] o<|cB h λb1 a4 h=>av (cm _ _ _ a4) (ca o) o o<|p 1 [2,3,6,8,9,54,55] o<|cB h λb4 a5 h=>av (cm _ _ _ a5) (ca o) o o<|p 5 [2,3,6,9,10] o ?_
   obtain⟨W,e,h⟩:=ak h;rw[e]
   refine za<|dF (by kernel_rfl)<|ae 0 (ti c.1) o (by kernel_rfl) o<|ae 1 (ti c.1) o (by kernel_rfl) o<|ae 2 (ti (wrap .i64 (c.1 - 16))) o (by kernel_rfl) o<|iE h λhc h=>fH 3 (ptr u (0+(Int.toNat (wrap .i64 (c.1 - 16)))*1)) o (by kernel_rfl) (bY o o hc.1 hc.2 oI cA)<|ae 5 (.one (.int .u32) m) o (by kernel_rfl) o<|ae 7 (ti c.1) o (by kernel_rfl) o<|ae 8 (ti (wrap .i64 (c.1 - 7))) o (by kernel_rfl) o<|iE h λhc h=>fH 9 (ptr u (0+(Int.toNat (wrap .i64 (c.1 - 7)))*1)) o (by kernel_rfl) (bY o o hc.1 hc.2 oI cA)<|ae 12 (.one (.int .u32) W) o (by kernel_rfl) o<|nY (fuel:=1) [4,6,10,11,13,14] #[true,true,true,true,true,true,true,true,true,true,true,true,true,true,true,false] (by kernel_rfl) ?_
   refine q_y (aM 0 (.elem (Int.toNat (wrap .i64 (c.1 - 16))) .here) o o (by first|rfl|(simp only[Pth.off,T.size];omega)) (ax (by first|omega|(simp only[List.length_set]at hc⊢;omega)) ab) cA) o ?_
   refine aA ai 1 [2,3,6,61,67,70,73] (E':=[(2,ptr M 0),(3,ptr u 0),(6,ti c.1),(61,ti c.1),(67,.one (.int .u32) (wrap .u32 ((List.getD c.2 (Int.toNat (wrap .i64 (c.1 - 16))) 0)+m))),(70,ptr u (0+(Int.toNat (wrap .i64 (c.1 - 7)))*1)),(73,.one (.int .u32) W)]) o ?_
   obtain⟨a6,e,h⟩:=ak h;rw[e]
   refine q_y (aM 0 (.elem (Int.toNat (wrap .i64 (c.1 - 7))) .here) o o (by first|rfl|(simp only[Pth.off,T.size];omega)) (ax (by first|omega|(simp only[List.length_set]at hc⊢;omega)) ab) cA) o ?_
   refine aA ai 1 [2,3,6,61,72,73] (E':=[(2,ptr M 0),(3,ptr u 0),(6,ti c.1),(61,ti c.1),(72,.one (.int .u32) (wrap .u32 (a6+(List.getD c.2 (Int.toNat (wrap .i64 (c.1 - 7))) 0)))),(73,.one (.int .u32) W)]) o ?_
   obtain⟨O,e,h⟩:=ak h;rw[e]
   refine aA ai 1 [2,3,6,61,74] (E':=[(2,ptr M 0),(3,ptr u 0),(6,ti c.1),(61,ti c.1),(74,.one (.int .u32) (wrap .u32 (O+W)))]) o ?_
   refine iE h λhc h=>q_y (bY o o hc.1 hc.2 oI cA) o ?_
   refine eX ?_
   refine aa [2,3,6,74,75] o<|af 15 (by kernel_rfl) o<|kd 0 (.elem (Int.toNat c.1) .here) o o o (by first|rfl|(simp only[Pth.off,T.size];omega)) (ax (by first|omega|(simp only[List.length_set]at hc⊢;omega)) ab) cA<|za<|aa [2,3,6] o<|aN (by kernel_rfl)<|zi<|zt<|zr<|q 3 [(6,ti (wrap .i64 (c.1+1)))] [2,3] o ?_
   obtain⟨a7,e,h⟩:=ak h;rw[e]
   exact za<|aa [2,3,6] o<|aR (a7,(List.set c.2 (Int.toNat c.1) (wrap .u32 (O+W)))) () (Nat.lt_succ_self _) h o o
  exact zx<|ze<|ze<|zq<|zt<|aa [2,3] o<|ah c.2 () h o o
 refine zu<|yl 0 .here l4 o o o tr o<|st 1 .here l4 o o o o tr<|zf ?_
 cases h
 exact aU o (.cell 1 .here o o o ab l4) (λ_ _ g=>g) (λ_ _ _=>List.nil_sublist _)
end Sx
