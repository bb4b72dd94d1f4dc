/-
  Own work, printed by a program of the same hand. Each function of the code answers what its plain twin reckons.
-/
import Derived.Test.YtfadfecpoimkiaaGreatDoorWalk3
namespace Sx
open Go Go.Proofs Go.IntKind
set_option maxRecDepth 10000
set_option maxHeartbeats 1000000
attribute [local irreducible] wpList
theorem pN(H a1 r)(h:fN H a1=some r):FnT PP bD 5 [.one Y40 H,.one W79 a1] [] (λ_=>tb r) (λ_=>[]):=by
 unfold fN at h
 refine ik Tryz.func5 o 176 o o λF hT=>?_
 refine zu<|bA o o λW=>zm 1 o<|zz<|cB h λr4 e3 h=>gp (Lo:=[Res.var W 40 Y40 H]) (uO 1000000 _ e3) kr (List.Perm.refl _) o o λf=>?_
 refine zA o<|zs<|zU 1 o<|y (Cj 0 o o Tryz.underlying42) o ?_
 refine q 1 [(1,.one W79 a1),(2,ptr W 0),(5,tp (au f 0)),(6,ti r4.1),(26,tb (r4.1 !=0))] [] o ?_
 obtain⟨b6,e,h⟩:=al h;rw[e]
 refine aM 3 [(1,.one W79 a1),(2,ptr W 0),(5,tp (au f 0)),(29,tb (b6||(r4.1 !=0)))] [Res.diskif PP dI (au f 0) r4.2 r4.1,Res.var W 40 Y40 H] (?_) ?_
 ·clear h
  cases b6
  ·exact zA o<|ap () o o
  exact zA o<|ap () o o
 refine q 1 [(1,.one W79 a1),(2,ptr W 0),(5,tp (au f 0)),(30,tb (b6||(r4.1 !=0)))] [] o ?_
 obtain⟨b7,e,h⟩:=al h;rw[e]
 refine bQ h 3 (λo9=>[(1,.one W79 a1),(2,ptr W 0),(5,tp (au f 0)),(33,tb o9)]) (λ_=>[Res.diskif PP dI (au f 0) r4.2 r4.1,Res.var W 40 Y40 H]) (λk8 h=>?_) λo9 h=>?_
 ·cases b7
  ·replace h:=ifF h
   refine am dl o ?_
   exact cB h λe4 e5 h=>rcT hT [] (s3 _ e5) kr o o o λ_=>zN o<|zt<|ai (!e4) () h o o
  replace h:=ifT h
  exact zN o<|zt<|ai true () h o o
 refine za<|rI h o (λhc h=>zU 1 o<|zf<|zT<|by cases h;exact ax o (.tmp o)) λhc h=>zy<|zm 1 o<|yl 1 .here BD o o o tr o ?_
 obtain⟨e6,h⟩:=cj h
 refine aw (R':=Res.disk PP dI (au f 0) r4.2) 0 o (uH e6)<|cB h λb1 e7 h=>rcT hT [0] (pq _ _ _ _ e7) kr o o o λc=>zA o<|zs<|zW o<|rI h o (λhc h=>?_) λhc h=>?_
 ·refine zU 1 o<|y (yz 1 o o Tryz.underlying45) o ?_
  refine zE o<|zT ?_
  cases h
  exact ax o (.tmp o)
 refine zk<|zt<|bv h (λu=>[(7,tp (au c 0))]) (λu=>[Res.disk PP dI (au f 0) u.1,Res.clsif (aZ (au f 0)) (au c 0) u.2.2 u.2.1,Res.var W 40 Y40 H]) (λe8 h=>?_) λu h=>?_
 ·refine zW o<|zb ?_
  obtain⟨d1,h⟩:=cj h
  refine aw (R':=Res.cls (aZ (au f 0)) (au c 0) b1.1.2) 1 o (dM d1)<|ah [1,7,8] o<|bg (γ:=Unit) (λ(a7:Int×(Unit×(Int×Unit×List Int×Int×(List bN)×cb)×(Int×Unit×List Int×Z23)×Z29×Unit)×aB) _=>[(1,.one W79 a1),(7,tp (au c 0)),(8,ti a7.1)]) (λ(a7:Int×(Unit×(Int×Unit×List Int×Int×(List bN)×cb)×(Int×Unit×List Int×Z23)×Z29×Unit)×aB) _=>[Res.disk PP dI (au f 0) a7.2.2,Res.cls (aZ (au f 0)) (au c 0) a7.2.1,Res.var W 40 Y40 H]) (dm a1 b1 e8) (0,b1.1.2,b1.2.2) () h o o ?_
  clear h
  intro d2 a7 gg h
  cases d2 with
  |zero=>cases h
  |succ d2=>
  simp only[dm]at h
  refine zs<|zW o<|rI h o (λhc h=>?_) λhc h=>?_
  ·refine zk<|zt<|zs<|zb<|zU 1 o<|cB h λj2 e9 h=>rc [1,0] (cK _ _ _ _ _ e9) kr o o o λ_=>aC (t:=Y30) o fO o λj3=>st 0 .here bE o o o o tr<|zz<|yl 0 .here bE o o o tr o<|cB h λj4 f1 h=>ar (nt _ _ f1) kr o o<|aC (t:=Y30) o fO o λj5=>?_
   refine st 0 .here bE o o o o tr<|nL o<|zZ 3 o<|iE h λhc h=>y (eZ ag o o hc.1 hc.2 o eX) o ?_
   refine y (fP o eX) o ?_
   refine bu (B:=232) ag o y5 o o o (.cons o .nil) o λj6=>?_
   refine kB (i:=0) (k:=59) o o ?_
   refine cB h λd3 f2 h=>rcT hT [2,2] (iQ _ _ _ _ _ _ f2) kr o o o λ_=>zz<|yl 3 .here bE o o o tr o<|yl 2 .here bE o o o tr o<|cB h λj7 f3 h=>ar (dA _ _ _ f3) kr o o<|zA o<|rI h o (λhc h=>zU 1 o<|zf<|zB<|zT<|zT<|zB<|zT<|by cases h;exact ax o (.tmp o)) λhc h=>zk<|zi<|zt<|zr<|q 3 [(1,.one W79 a1),(7,tp (au c 0)),(8,ti (wrap .i64 (a7.1+1)))] [] o ?_
   obtain⟨f6,e,h⟩:=al h;rw[e]
   exact za<|pk [0,0,2] o<|pk [1,0,0] o<|aX (f6,d3.2.1,d3.2.2) () (Nat.lt_succ_self _) h o o
  exact zx<|ze<|ze<|zq<|zt<|aw (R':=Res.clsif (aZ (au f 0)) (au c 0) a7.2.1 b1.1.1) 1 o (cT d1)<|ai (a7.2.2,(b1.1.1,a7.2.1)) () h o o
 refine zU 1 o ?_
 obtain⟨f7,h⟩:=cj h
 refine aw (R':=Res.cls (aZ (au f 0)) (au c 0) u.2.2) 1 o (dM f7)<|cB h λC f8 h=>rc [1,0] (qh _ _ _ _ _ f8) kr o o o λJ=>aC (t:=W0) o fO o λR=>st 0 .here tx6 o o o o tr<|nL o<|zz<|q 1 [(7,tp (au c 0)),(11,ptr R 0),(67,tp (au c 0))] [] o<|cB h λO f9 h=>rc [1,1] (cK _ _ _ _ _ f9) kr o o o λ_=>aC (t:=Y30) o fO o λM=>st 0 .here bE o o o o tr<|zz<|yl 0 .here bE o o o tr o ?_
 refine cB h λG g0 h=>ar (nt _ _ g0) kr o o<|aC (t:=Y30) o fO o λV=>st 0 .here bE o o o o tr<|nL o<|za<|jK h (γ:=Value) (λN g26=>[(7,tp (au c 0)),(11,ptr R 0),(12,ptr M 0),(13,ptr V 0)]) (λN g26=>[Res.var V 30 Y30 G,Res.var M 30 Y30 O,Res.cls (aZ (au f 0)) (au c 0) u.2.2,Res.disk PP dI (au f 0) u.1,Res.var R 30 W0 (cQ C g26 (cel J 5) (cel J 112)),Res.own g26 52 Y52 N,Res.own (cel J 5) 52 Y52 C.2.2.2.2.2.1,Res.own (cel J 112) 56 Y56 C.2.2.2.2.2.2.2.2.2.2.2.2.2.2.2.1,Res.var W 40 Y40 H]) (λg1 h=>?_) λN g26 h=>?_
 ·refine zW o<|zb<|ah [7,11,12,13,14] o<|bg (γ:=Value) (λ(a2:Int×(List Z51)) b9=>[(7,tp (au c 0)),(11,ptr R 0),(12,ptr M 0),(13,ptr V 0),(14,ti a2.1)]) (λ(a2:Int×(List Z51)) b9=>[Res.var V 30 Y30 G,Res.var M 30 Y30 O,Res.cls (aZ (au f 0)) (au c 0) u.2.2,Res.disk PP dI (au f 0) u.1,Res.var R 30 W0 (cQ C b9 (cel J 5) (cel J 112)),Res.own b9 52 Y52 a2.2,Res.own (cel J 5) 52 Y52 C.2.2.2.2.2.1,Res.own (cel J 112) 56 Y56 C.2.2.2.2.2.2.2.2.2.2.2.2.2.2.2.1,Res.var W 40 Y40 H]) (dk g1) (0,C.2.2.2.2.1) (cel J 4) h o o ?_
  clear h
  intro d4 a2 b9 h
  cases d4 with
  |zero=>cases h
  |succ d4=>
  simp only[dk]at h
  refine zs<|zU 2 o<|yl 4 f4 tx1 o o o tr o<|y (bW ag 5 o o o) o ?_
  refine zA o<|rI h o (λhc h=>?_) λhc h=>?_
  ·refine zk<|zt<|zs<|zb<|zr<|zm 1 o<|yl 4 f4 tx1 o o o tr o<|zm 1 o<|y (aY o ja o o (.cons f0 o o aa .nil)) o ?_
   refine iE h λhc h=>ce 5 o pix λg2 g3 g4 hv=>?_
   rw[hv]
   try clear hv
   refine y (cx ag o o hc.1 (by first|exact hc.2|simpa using hc.2) o bB) o ?_
   refine mw 5 (Int.toNat a2.1) .here o o o pix pof aa bB ?_
   refine zn<|zi<|zt<|zr<|q 3 [(12,ptr M 0),(13,ptr V 0),(14,ti (wrap .i64 (a2.1+1)))] [7,11] o ?_
   obtain⟨g5,e,h⟩:=al h;rw[e]
   exact za<|aX (g5,(List.set a2.2 (Int.toNat a2.1) ((-1),0,0,(List.replicate 32 (0:Int)),[],()))) (.slice (some ⟨g2,g3,none⟩) (List.length a2.2) g4) (Nat.lt_succ_self _) h o o
  exact zx<|ze<|ze<|zq<|zt<|ai a2.2 b9 h o o
 refine jK h (γ:=Value) (λm g29=>[(7,tp (au c 0)),(11,ptr R 0),(12,ptr M 0),(13,ptr V 0)]) (λm g29=>[Res.var V 30 Y30 G,Res.var M 30 Y30 O,Res.cls (aZ (au f 0)) (au c 0) u.2.2,Res.disk PP dI (au f 0) u.1,Res.var R 30 W0 (cQ C g26 g29 (cel J 112)),Res.own g26 52 Y52 N,Res.own g29 52 Y52 m,Res.own (cel J 112) 56 Y56 C.2.2.2.2.2.2.2.2.2.2.2.2.2.2.2.1,Res.var W 40 Y40 H]) (λg6 h=>?_) λm g29 h=>?_
 ·refine zW o<|zb<|ah [7,11,12,13,15] o<|bg (γ:=Value) (λ(a3:Int×(List Z51)) c0=>[(7,tp (au c 0)),(11,ptr R 0),(12,ptr M 0),(13,ptr V 0),(15,ti a3.1)]) (λ(a3:Int×(List Z51)) c0=>[Res.var V 30 Y30 G,Res.var M 30 Y30 O,Res.cls (aZ (au f 0)) (au c 0) u.2.2,Res.disk PP dI (au f 0) u.1,Res.var R 30 W0 (cQ C g26 c0 (cel J 112)),Res.own g26 52 Y52 N,Res.own c0 52 Y52 a3.2,Res.own (cel J 112) 56 Y56 C.2.2.2.2.2.2.2.2.2.2.2.2.2.2.2.1,Res.var W 40 Y40 H]) (di g6) (0,C.2.2.2.2.2.1) (cel J 5) h o o ?_
  clear h
  intro d5 a3 c0 h
  cases d5 with
  |zero=>cases h
  |succ d5=>
  simp only[di]at h
  refine zs<|zU 2 o<|yl 4 f5 tx1 o o o tr o<|y (bW ag 6 o o o) o ?_
  refine zA o<|rI h o (λhc h=>?_) λhc h=>?_
  ·refine zk<|zt<|zs<|zb<|zr<|zm 1 o<|yl 4 f5 tx1 o o o tr o<|zm 1 o<|y (aY o ja o o (.cons f0 o o aa .nil)) o ?_
   refine iE h λhc h=>ce 6 o pix λg7 g8 g9 hv=>?_
   rw[hv]
   try clear hv
   refine y (cx ag o o hc.1 (by first|exact hc.2|simpa using hc.2) o bB) o ?_
   refine mw 6 (Int.toNat a3.1) .here o o o pix pof aa bB ?_
   refine zn<|zi<|zt<|zr<|q 3 [(7,tp (au c 0)),(11,ptr R 0),(12,ptr M 0),(13,ptr V 0),(15,ti (wrap .i64 (a3.1+1)))] [] o ?_
   obtain⟨h0,e,h⟩:=al h;rw[e]
   exact za<|aX (h0,(List.set a3.2 (Int.toNat a3.1) ((-2),0,0,(List.replicate 32 (0:Int)),[],()))) (.slice (some ⟨g7,g8,none⟩) (List.length a3.2) g9) (Nat.lt_succ_self _) h o o
  exact zx<|ze<|ze<|zq<|zt<|ai a3.2 c0 h o o
 refine jK h (γ:=Value) (λZ c6=>[(7,tp (au c 0)),(11,ptr R 0),(12,ptr M 0),(13,ptr V 0)]) (λZ c6=>[Res.var V 30 Y30 G,Res.var M 30 Y30 O,Res.cls (aZ (au f 0)) (au c 0) u.2.2,Res.disk PP dI (au f 0) u.1,Res.var R 30 W0 (cQ C g26 g29 c6),Res.own g26 52 Y52 N,Res.own g29 52 Y52 m,Res.own c6 56 Y56 Z,Res.var W 40 Y40 H]) (λh1 h=>?_) λZ c6 h=>?_
 ·refine zW o<|zb<|ah [7,11,12,13,16] o<|bg (γ:=Value) (λ(a4:Int×(List Z55)) c1=>[(7,tp (au c 0)),(11,ptr R 0),(12,ptr M 0),(13,ptr V 0),(16,ti a4.1)]) (λ(a4:Int×(List Z55)) c1=>[Res.var V 30 Y30 G,Res.var M 30 Y30 O,Res.cls (aZ (au f 0)) (au c 0) u.2.2,Res.disk PP dI (au f 0) u.1,Res.var R 30 W0 (cQ C g26 g29 c1),Res.own g26 52 Y52 N,Res.own g29 52 Y52 m,Res.own c1 56 Y56 a4.2,Res.var W 40 Y40 H]) (dh h1) (0,C.2.2.2.2.2.2.2.2.2.2.2.2.2.2.2.1) (cel J 112) h o o ?_
  clear h
  intro d6 a4 c1 h
  cases d6 with
  |zero=>cases h
  |succ d6=>
  simp only[dh]at h
  refine zs<|zU 2 o<|yl 4 f15 tx2 o o o tr o<|y (bW ag 7 o o o) o ?_
  refine zA o<|rI h o (λhc h=>?_) λhc h=>?_
  ·refine zk<|zt<|zs<|zb<|zr<|zm 1 o<|yl 4 f15 tx2 o o o tr o<|zm 1 o<|y (aY o vj o o (.cons f0 o o aa .nil)) o ?_
   refine iE h λhc h=>ce 7 o pix λh2 h3 h4 hv=>?_
   rw[hv]
   try clear hv
   refine y (cx ag o o hc.1 (by first|exact hc.2|simpa using hc.2) o iZ) o ?_
   refine mw 7 (Int.toNat a4.1) .here o o o pix pof aa iZ ?_
   refine zn<|zi<|zt<|zr<|q 3 [(7,tp (au c 0)),(11,ptr R 0),(12,ptr M 0),(13,ptr V 0),(16,ti (wrap .i64 (a4.1+1)))] [] o ?_
   obtain⟨h5,e,h⟩:=al h;rw[e]
   exact za<|aX (h5,(List.set a4.2 (Int.toNat a4.1) ((-3),(List.replicate 32 (0:Int)),false,()))) (.slice (some ⟨h2,h3,none⟩) (List.length a4.2) h4) (Nat.lt_succ_self _) h o o
  exact zx<|ze<|ze<|zq<|zt<|ai a4.2 c1 h o o
 refine zU 1 o<|yl 4 f4 tx1 o o o tr o<|y (aY o ja o o (.cons f0 o o aa .nil)) o ?_
 refine bu (B:=72) ag o iq o o o (.cons o .nil) o λj8=>?_
 refine iE h λhc h=>bd (B:=72) ag 6 o o (bL 0 o o) o iq o o hc o λh6=>?_
 refine pk [1,1,1,1,1,1,1,1,1] o<|zm 1 o<|st 4 f4 tx1 o o o o tr<|nL o<|zZ 1 o<|yl 4 f5 tx1 o o o tr o<|y (aY o ja o o (.cons f0 o o aa .nil)) o ?_
 refine bu (B:=72) ag o iq o o o (.cons o .nil) o λj9=>?_
 refine iE h λhc h=>bd (B:=72) ag 7 o o (bL 0 o o) o iq o o hc o λc2=>?_
 refine pk [1,1,1,1,1,1,1,1,1] o<|zm 1 o<|st 4 f5 tx1 o o o o tr<|nL o<|zZ 1 o<|yl 4 f15 tx2 o o o tr o<|y (aY o vj o o (.cons f0 o o aa .nil)) o ?_
 refine bu (B:=48) ag o tT o o o (.cons o .nil) o λk0=>?_
 refine iE h λhc h=>bd (B:=48) ag 8 o o (bL 0 o o) o tT o o hc o λa5=>?_
 refine pk [1,1,1,1,1,1,1,1,1] o<|q 1 [(7,tp (au c 0)),(11,ptr R 0),(12,ptr M 0),(13,ptr V 0),(123,.one W62 a5),(124,ptr R 112)] [] o<|st 4 f15 tx2 o o o o tr<|nL o<|za<|jK h (γ:=Value) (λd7 w=>[(7,tp (au c 0)),(11,ptr R 0),(12,ptr M 0),(13,ptr V 0)]) (λd7 w=>[Res.var V 30 Y30 G,Res.var M 30 Y30 O,Res.cls (aZ (au f 0)) (au c 0) u.2.2,Res.disk PP dI (au f 0) u.1,Res.var R 30 W0 (cQ C w c2 a5),Res.own w 52 Y52 (N++([((-4),0,0,(List.replicate 32 (0:Int)),[],())])),Res.own c2 52 Y52 (m++([((-5),0,0,(List.replicate 32 (0:Int)),[],())])),Res.own a5 56 Y56 (Z++[((-6),(List.replicate 32 (0:Int)),false,())]),Res.var W 40 Y40 H]) (λh7 h=>?_) λd7 w h=>?_
 ·refine zW o<|zb<|ah [7,11,12,13,17] o<|bg (γ:=Value) (λ(b2:Int) c3=>[(7,tp (au c 0)),(11,ptr R 0),(12,ptr M 0),(13,ptr V 0),(17,ti b2)]) (λ(b2:Int) c3=>[Res.var V 30 Y30 G,Res.var M 30 Y30 O,Res.cls (aZ (au f 0)) (au c 0) u.2.2,Res.disk PP dI (au f 0) u.1,Res.var R 30 W0 (cQ C c3 c2 a5),Res.own c3 52 Y52 (N++([((-4),0,0,(List.replicate 32 (0:Int)),[],())])),Res.own c2 52 Y52 (m++([((-5),0,0,(List.replicate 32 (0:Int)),[],())])),Res.own a5 56 Y56 (Z++[((-6),(List.replicate 32 (0:Int)),false,())]),Res.var W 40 Y40 H]) (dg G N h7) 0 h6 h o o ?_
  clear h
  intro d8 b2 c3 h
  cases d8 with
  |zero=>cases h
  |succ d8=>
  simp only[dg]at h
  refine zs<|zU 2 o<|yl 0 f4 iY o o o tr o<|zA o<|rI h o (λhc h=>?_) λhc h=>?_
  ·refine zk<|zt<|zs<|zb<|zU 1 o<|yl 4 f4 tx1 o o o tr o<|zm 1 o<|iE h λhc h=>ce 5 o pix λh8 h9 i0 hv=>?_
   rw[hv]
   try clear hv
   refine y (cx ag o o hc.1 (by first|exact hc.2|simpa using hc.2) o bB) o ?_
   refine zm 1 o<|y (dE 5 (Int.toNat b2) f0 o o pix pof (aq aa) ty3) o ?_
   refine q 1 [(17,ti b2),(138,tb (((List.getD (N++([((-4),0,0,(List.replicate 32 (0:Int)),[],())])) (Int.toNat b2) (0,0,0,(List.replicate 32 (0:Int)),[],())).1) !=(-1)))] [7,11,12,13] o ?_
   obtain⟨k1,e,h⟩:=al h;rw[e]
   refine za<|rI h o (λhc h=>zU 1 o<|zf<|zB<|zT<|zT<|zB<|zT<|by cases h;exact ax o (.tmp o)) λhc h=>zk<|zi<|zt<|zr<|p 3 [7,11,12,13,17] o ?_
   obtain⟨i1,e,h⟩:=al h;rw[e]
   exact za<|aX i1 (.slice (some ⟨h8,h9,none⟩) (List.length (N++([((-4),0,0,(List.replicate 32 (0:Int)),[],())]))) i0) (Nat.lt_succ_self _) h o o
  exact zx<|ze<|ze<|zq<|zt<|ai () c3 h o o
 refine jK h (γ:=Value) (λd9 a6=>[(7,tp (au c 0)),(11,ptr R 0),(12,ptr M 0),(13,ptr V 0)]) (λd9 a6=>[Res.var V 30 Y30 G,Res.var M 30 Y30 O,Res.cls (aZ (au f 0)) (au c 0) u.2.2,Res.disk PP dI (au f 0) u.1,Res.var R 30 W0 (cQ C w a6 a5),Res.own w 52 Y52 (N++([((-4),0,0,(List.replicate 32 (0:Int)),[],())])),Res.own a6 52 Y52 (m++([((-5),0,0,(List.replicate 32 (0:Int)),[],())])),Res.own a5 56 Y56 (Z++[((-6),(List.replicate 32 (0:Int)),false,())]),Res.var W 40 Y40 H]) (λi2 h=>?_) λd9 a6 h=>?_
 ·refine zW o<|zb<|ah [7,11,12,13,18] o<|bg (γ:=Value) (λ(b4:Int) c4=>[(7,tp (au c 0)),(11,ptr R 0),(12,ptr M 0),(13,ptr V 0),(18,ti b4)]) (λ(b4:Int) c4=>[Res.var V 30 Y30 G,Res.var M 30 Y30 O,Res.cls (aZ (au f 0)) (au c 0) u.2.2,Res.disk PP dI (au f 0) u.1,Res.var R 30 W0 (cQ C w c4 a5),Res.own w 52 Y52 (N++([((-4),0,0,(List.replicate 32 (0:Int)),[],())])),Res.own c4 52 Y52 (m++([((-5),0,0,(List.replicate 32 (0:Int)),[],())])),Res.own a5 56 Y56 (Z++[((-6),(List.replicate 32 (0:Int)),false,())]),Res.var W 40 Y40 H]) (de G m i2) 0 c2 h o o ?_
  clear h
  intro e0 b4 c4 h
  cases e0 with
  |zero=>cases h
  |succ e0=>
  simp only[de]at h
  refine zs<|zU 2 o<|yl 0 f5 iY o o o tr o<|zA o<|rI h o (λhc h=>?_) λhc h=>?_
  ·refine zk<|zt<|zs<|zb<|zU 1 o<|yl 4 f5 tx1 o o o tr o<|zm 1 o<|iE h λhc h=>ce 6 o pix λi3 i4 i5 hv=>?_
   rw[hv]
   try clear hv
   refine y (cx ag o o hc.1 (by first|exact hc.2|simpa using hc.2) o bB) o ?_
   refine zm 1 o<|y (dE 6 (Int.toNat b4) f0 o o pix pof (aq aa) ty3) o ?_
   refine q 1 [(7,tp (au c 0)),(11,ptr R 0),(12,ptr M 0),(13,ptr V 0),(18,ti b4),(152,tb (((List.getD (m++([((-5),0,0,(List.replicate 32 (0:Int)),[],())])) (Int.toNat b4) (0,0,0,(List.replicate 32 (0:Int)),[],())).1) !=(-2)))] [] o ?_
   obtain⟨k2,e,h⟩:=al h;rw[e]
   refine za<|rI h o (λhc h=>zU 1 o<|zf<|zB<|zT<|zT<|zB<|zT<|by cases h;exact ax o (.tmp o)) λhc h=>zk<|zi<|zt<|zr<|p 3 [7,11,12,13,18] o ?_
   obtain⟨i6,e,h⟩:=al h;rw[e]
   exact za<|aX i6 (.slice (some ⟨i3,i4,none⟩) (List.length (m++([((-5),0,0,(List.replicate 32 (0:Int)),[],())]))) i5) (Nat.lt_succ_self _) h o o
  exact zx<|ze<|ze<|zq<|zt<|ai () c4 h o o
 refine jK h (γ:=Value) (λe1 b5=>[(7,tp (au c 0)),(12,ptr M 0),(13,ptr V 0)]) (λe1 b5=>[Res.var V 30 Y30 G,Res.var M 30 Y30 O,Res.cls (aZ (au f 0)) (au c 0) u.2.2,Res.disk PP dI (au f 0) u.1,Res.var R 30 W0 (cQ C w a6 b5),Res.own w 52 Y52 (N++([((-4),0,0,(List.replicate 32 (0:Int)),[],())])),Res.own a6 52 Y52 (m++([((-5),0,0,(List.replicate 32 (0:Int)),[],())])),Res.own b5 56 Y56 (Z++[((-6),(List.replicate 32 (0:Int)),false,())]),Res.var W 40 Y40 H]) (λi7 h=>?_) λe1 b5 h=>?_
 ·refine zW o<|zb<|ah [7,11,12,13,19] o<|bg (γ:=Value) (λ(b8:Int) c5=>[(7,tp (au c 0)),(11,ptr R 0),(12,ptr M 0),(13,ptr V 0),(19,ti b8)]) (λ(b8:Int) c5=>[Res.var V 30 Y30 G,Res.var M 30 Y30 O,Res.cls (aZ (au f 0)) (au c 0) u.2.2,Res.disk PP dI (au f 0) u.1,Res.var R 30 W0 (cQ C w a6 c5),Res.own w 52 Y52 (N++([((-4),0,0,(List.replicate 32 (0:Int)),[],())])),Res.own a6 52 Y52 (m++([((-5),0,0,(List.replicate 32 (0:Int)),[],())])),Res.own c5 56 Y56 (Z++[((-6),(List.replicate 32 (0:Int)),false,())]),Res.var W 40 Y40 H]) (db G Z i7) 0 a5 h o o ?_
  clear h
  intro e2 b8 c5 h
  cases e2 with
  |zero=>cases h
  |succ e2=>
  simp only[db]at h
  refine zs<|zU 2 o<|yl 0 f15 qd o o o tr o<|zA o<|rI h o (λhc h=>?_) λhc h=>?_
  ·refine zk<|zt<|zs<|zb<|zU 1 o<|yl 4 f15 tx2 o o o tr o<|zm 1 o<|iE h λhc h=>ce 7 o pix λi8 i9 j0 hv=>?_
   rw[hv]
   try clear hv
   refine y (cx ag o o hc.1 (by first|exact hc.2|simpa using hc.2) o iZ) o ?_
   refine zm 1 o<|y (dE 7 (Int.toNat b8) f0 o o pix pof (aq aa) ty2) o ?_
   refine q 1 [(7,tp (au c 0)),(11,ptr R 0),(12,ptr M 0),(13,ptr V 0),(19,ti b8),(166,tb (((List.getD (Z++[((-6),(List.replicate 32 (0:Int)),false,())]) (Int.toNat b8) (0,(List.replicate 32 (0:Int)),false,())).1) !=(-3)))] [] o ?_
   obtain⟨k3,e,h⟩:=al h;rw[e]
   refine za<|rI h o (λhc h=>zU 1 o<|zf<|zB<|zT<|zT<|zB<|zT<|by cases h;exact ax o (.tmp o)) λhc h=>zk<|zi<|zt<|zr<|p 3 [7,11,12,13,19] o ?_
   obtain⟨j1,e,h⟩:=al h;rw[e]
   exact za<|aX j1 (.slice (some ⟨i8,i9,none⟩) (List.length (Z++[((-6),(List.replicate 32 (0:Int)),false,())])) j0) (Nat.lt_succ_self _) h o o
  exact zx<|ze<|ze<|zq<|zt<|ai () c5 h o o
 refine bv h (λc7=>[(4,tb c7)]) (λc7=>[Res.cls (aZ (au f 0)) (au c 0) u.2.2,Res.disk PP dI (au f 0) u.1,Res.var V 30 Y30 G,Res.var M 30 Y30 O,Res.var R 30 W0 (cQ C w a6 b5),Res.own w 52 Y52 (N++([((-4),0,0,(List.replicate 32 (0:Int)),[],())])),Res.own a6 52 Y52 (m++([((-5),0,0,(List.replicate 32 (0:Int)),[],())])),Res.own b5 56 Y56 (Z++[((-6),(List.replicate 32 (0:Int)),false,())]),Res.var W 40 Y40 H]) (λk4 h=>?_) λc7 h=>?_
 ·refine gE (S:=bC [aV M 30 Y30 O,aV V 30 Y30 G]) kr ?_
  refine FM (i:=0) (j:=1) kr o o ?_ ?_
  ·refine yl 1 .here bE o o o tr o<|za<|aR (ae (ak 1 o) (ae (ak 0 o) aj)) ?_
   refine ah [7,13,167] o<|az 1 kr o<|yl 0 .here bE o o o tr o<|za<|aR (ae (ak 1 o) (ae (ak 0 o) aj)) ?_
   refine ah [7,13,167,168] o<|az 2 kr o<|cB h λc8 c9 h=>ar (dA _ _ _ c9) kr o o<|za<|aR (ae (ak 1 o) (ae (ak 0 o) aj)) ?_
   refine ah [7,13,169] o<|zH 1 [3] (ae (ak 1 o) (ae (ak 0 o) aj)) kr o o λs=>?_
   refine om (d:=170) (b:=c8) o (λhb=>?_) (λhb=>?_)
   ·rw[if_pos hb]at h
    refine dX 4 170 (tp (au c 0)) (ae (ak 1 o) (ae (ak 0 o) aj)) o kr o (fY ag o) λs=>?_
    refine qw (i:=5) (j:=6) kr o o ?_ ?_
    ·refine am dl o ?_
     refine cB h λd0 a8 h=>rc [2,2] (cK _ _ _ _ _ a8) kr o o o λ_=>za<|aR (ae (ak 3 o) (ae (ak 2 o) aj)) ?_
     refine ah [13,170,172] o<|az 6 kr o<|am dl o ?_
     refine yl 2 .here bE o o o tr o<|za<|aR (ae (ak 3 o) (ae (ak 2 o) aj)) ?_
     refine ah [170,172,173] o<|az 7 kr o<|am dl o ?_
     refine cB h λa9 b0 h=>ar (dA _ _ _ b0) kr o o<|za<|aR (ae (ak 3 o) (ae (ak 2 o) aj)) ?_
     refine ah [170,174] o<|az 8 kr o<|zA o<|aR (ae (ak 3 o) (ae (ak 2 o) aj)) ?_
     exact ah [175] o<|zH 1 [9] (ae (ak 3 o) (ae (ak 2 o) aj)) kr o o λs=>dF kr<|zt<|ai a9 () h o o
    refine am dl o ?_
    refine yl 0 .here bE o o o tr o<|za<|aR (ae (ak 1 o) (ae (ak 0 o) aj)) ?_
    refine ah [170,171,173] o<|az 5 kr o<|am dl o ?_
    refine cB h λd0 a8 h=>rc [2,2] (cK _ _ _ _ _ a8) kr o o o λ_=>za<|aR (ae (ak 3 o) (ae (ak 2 o) aj)) ?_
    refine ah [170,172,173] o<|az 7 kr o<|am dl o ?_
    refine cB h λa9 b0 h=>ar (dA _ _ _ b0) kr o o<|za<|aR (ae (ak 3 o) (ae (ak 2 o) aj)) ?_
    refine ah [170,174] o<|az 8 kr o<|zA o<|aR (ae (ak 3 o) (ae (ak 2 o) aj)) ?_
    exact ah [175] o<|zH 1 [9] (ae (ak 3 o) (ae (ak 2 o) aj)) kr o o λs=>dF kr<|zt<|ai a9 () h o o
   rw[if_neg (ne_true_of_eq_false hb)]at h
   refine zH 4 [4,5,6,7] (ae (ak 1 o) (ae (ak 0 o) aj)) kr o o λs=>az 8 kr o<|zA o<|aR (ae (ak 1 o) (ae (ak 0 o) aj)) ?_
   exact ah [175] o<|zH 1 [9] (ae (ak 1 o) (ae (ak 0 o) aj)) kr o o λs=>dF kr<|zt<|pk [2,2,0,0,0,0,0,0,0] o<|ai false () h o o
  refine yl 0 .here bE o o o tr o<|za<|aR (ae (ak 1 o) (ae (ak 0 o) aj)) ?_
  refine ah [7,12,13,168] o<|az 0 kr o<|yl 1 .here bE o o o tr o<|za<|aR (ae (ak 1 o) (ae (ak 0 o) aj)) ?_
  refine ah [7,13,167,168] o<|az 2 kr o<|cB h λc8 c9 h=>ar (dA _ _ _ c9) kr o o<|za<|aR (ae (ak 1 o) (ae (ak 0 o) aj)) ?_
  refine ah [7,13,169] o<|zH 1 [3] (ae (ak 1 o) (ae (ak 0 o) aj)) kr o o λs=>?_
  refine om (d:=170) (b:=c8) o (λhb=>?_) (λhb=>?_)
  ·rw[if_pos hb]at h
   refine dX 4 170 (tp (au c 0)) (ae (ak 1 o) (ae (ak 0 o) aj)) o kr o (fY ag o) λs=>?_
   refine qw (i:=5) (j:=6) kr o o ?_ ?_
   ·refine am dl o ?_
    refine cB h λd0 a8 h=>rc [2,2] (cK _ _ _ _ _ a8) kr o o o λ_=>za<|aR (ae (ak 3 o) (ae (ak 2 o) aj)) ?_
    refine ah [13,170,172] o<|az 6 kr o<|am dl o ?_
    refine yl 2 .here bE o o o tr o<|za<|aR (ae (ak 3 o) (ae (ak 2 o) aj)) ?_
    refine ah [170,172,173] o<|az 7 kr o<|am dl o ?_
    refine cB h λa9 b0 h=>ar (dA _ _ _ b0) kr o o<|za<|aR (ae (ak 3 o) (ae (ak 2 o) aj)) ?_
    refine ah [170,174] o<|az 8 kr o<|zA o<|aR (ae (ak 3 o) (ae (ak 2 o) aj)) ?_
    exact ah [175] o<|zH 1 [9] (ae (ak 3 o) (ae (ak 2 o) aj)) kr o o λs=>dF kr<|zt<|ai a9 () h o o
   refine am dl o ?_
   refine yl 0 .here bE o o o tr o<|za<|aR (ae (ak 1 o) (ae (ak 0 o) aj)) ?_
   refine ah [170,171,173] o<|az 5 kr o<|am dl o ?_
   refine cB h λd0 a8 h=>rc [2,2] (cK _ _ _ _ _ a8) kr o o o λ_=>za<|aR (ae (ak 3 o) (ae (ak 2 o) aj)) ?_
   refine ah [170,172,173] o<|az 7 kr o<|am dl o ?_
   refine cB h λa9 b0 h=>ar (dA _ _ _ b0) kr o o<|za<|aR (ae (ak 3 o) (ae (ak 2 o) aj)) ?_
   refine ah [170,174] o<|az 8 kr o<|zA o<|aR (ae (ak 3 o) (ae (ak 2 o) aj)) ?_
   exact ah [175] o<|zH 1 [9] (ae (ak 3 o) (ae (ak 2 o) aj)) kr o o λs=>dF kr<|zt<|ai a9 () h o o
  rw[if_neg (ne_true_of_eq_false hb)]at h
  refine zH 4 [4,5,6,7] (ae (ak 1 o) (ae (ak 0 o) aj)) kr o o λs=>az 8 kr o<|zA o<|aR (ae (ak 1 o) (ae (ak 0 o) aj)) ?_
  exact ah [175] o<|zH 1 [9] (ae (ak 1 o) (ae (ak 0 o) aj)) kr o o λs=>dF kr<|zt<|pk [2,2,0,0,0,0,0,0,0] o<|ai false () h o o
 refine zR ?_
 cases h
 exact ax o (.tmp o)
end Sx
