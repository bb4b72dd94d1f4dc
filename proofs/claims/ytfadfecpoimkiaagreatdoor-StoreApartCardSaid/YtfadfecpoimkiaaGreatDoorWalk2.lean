/-
  Own work, printed by a program of the same hand. Each function of the code answers what its plain twin reckons.
-/
import Derived.Test.YtfadfecpoimkiaaGreatDoorWalk1
namespace Sx
open Go Go.Proofs Go.IntKind
set_option maxRecDepth 10000
set_option maxHeartbeats 1000000
attribute [local irreducible] wpList
theorem v7(p0:Value)(p2:Value)(f:Value)(V H M J r)(h:qa V H M J=some r):FnT PP bD 114 [tp p0,ti H,tp p2] [Res.cls (cd f) p0 V,Res.cls iM p2 M,Res.disk PP dI f J] (λ_=>ti r.1) (λ_=>[Res.cls (cd f) p0 r.2.1,Res.cls iM p2 r.2.2,Res.disk PP dI f J]):=by
 unfold qa at h
 refine ik Tryz.func114 o 136 o o λF hT=>?_
 refine na λR b7 hp=>?_
 subst hp
 refine bM (x:=V) (q:=f) ?_
 refine pk [1,0,0] o<|BL λW b8 hp=>?_
 subst hp
 refine jt (x:=M) ?_
 refine pk [1,0,0] o<|zu<|q 1 [(0,ptr R 0),(1,ti H),(2,ptr W 0)] [] o<|za<|bv h (λo6=>[(0,ptr R 0),(1,ti H),(2,ptr W 0),(7,ti o6.1),(8,ti o6.2)]) (λo6=>[Res.cls (cd f) (.pointer (some ⟨R,0,none⟩)) V,Res.disk PP dI f J,Res.cls iM (.pointer (some ⟨W,0,none⟩)) M]) (λk5 h=>?_) λo6 h=>?_
 ·refine fm λc0=>?_
  refine dS kr<|zF 3 [0,4,5] kr o o ?_
  refine br (i:=1) (j:=6) kr o o ?_ ?_
  ·refine zA o<|ah [0,1,2,16,19,20] o<|zF 1 [2] kr o o ?_
   refine br (i:=3) (j:=6) kr o o ?_ ?_
   ·refine yl 0 f0 dR o o o tr o<|zL [0,1,2,18,19,20] o<|af 6 kr o<|cB h λa8 w h=>rcT hT [0] (aD _ _ _ _ _ _ w) kr o o o λ_=>zL [0,1,2,18,21] o<|af 7 kr o<|cB h λm Z h=>rc [3] (jW _ _ _ _ Z) kr o o o λ_=>zL [0,1,2,22] o<|zF 5 [8,9,10,11,12] kr o o<|aN kr<|zt<|pk [1,1,0,0] o ?_
    refine bM (x:=V) (q:=f) ?_
    exact ai (m.1,m.2) () h o o
   refine cB h λa8 w h=>rcT hT [0] (aD _ _ _ _ _ _ w) kr o o o λ_=>zL [0,1,2,17,21] o<|af 3 kr o<|yl 0 f0 dR o o o tr o<|zL [0,1,2,18,21] o<|af 7 kr o<|cB h λm Z h=>rc [3] (jW _ _ _ _ Z) kr o o o λ_=>zL [0,1,2,22] o<|zF 5 [8,9,10,11,12] kr o o<|aN kr<|zt<|pk [1,1,0,0] o ?_
   refine bM (x:=V) (q:=f) ?_
   exact ai (m.1,m.2) () h o o
  refine cB h λa8 w h=>rcT hT [0] (aD _ _ _ _ _ _ w) kr o o o λ_=>zL [0,1,2,15,21] o<|af 1 kr o<|zA o<|ah [0,1,2,16,21] o<|zF 1 [2] kr o o<|af 3 kr o<|yl 0 f0 dR o o o tr o<|zL [0,1,2,18,21] o<|af 7 kr o<|cB h λm Z h=>rc [3] (jW _ _ _ _ Z) kr o o o λ_=>zL [0,1,2,22] o ?_
  refine zF 5 [8,9,10,11,12] kr o o<|aN kr<|zt<|pk [1,1,0,0] o<|bM (x:=V) (q:=f) ?_
  exact ai (m.1,m.2) () h o o
 refine zs<|zW o<|rI h o (λhc h=>zU 2 o<|zf<|zT<|by cases h;exact pk [0,1,0] o<|aS o (.tmp o) (λ_ _ g=>g) (λ_ _ _=>(.cons_cons _ (.cons_cons _ (.cons_cons _ .slnil))))) λhc h=>zk<|zt<|bv h (λC=>[(0,ptr R 0),(1,ti H),(2,ptr W 0),(8,ti C.1),(9,ts C.2)]) (λC=>[Res.cls (cd f) (.pointer (some ⟨R,0,none⟩)) V,Res.disk PP dI f J,Res.cls iM (.pointer (some ⟨W,0,none⟩)) M]) (λk7 h=>?_) λC h=>?_
 ·refine fm λc1=>?_
  refine dS kr<|zF 4 [0,4,5,7] kr o o ?_
  refine br (i:=1) (j:=6) kr o o ?_ ?_
  ·refine zA o<|ah [0,1,2,8,30,33,34,36] o<|zF 1 [2] kr o o ?_
   refine br (i:=3) (j:=6) kr o o ?_ ?_
   ·refine yl 0 f0 dR o o o tr o<|zL [0,1,2,8,32,33,34,36] o<|af 6 kr o<|cB h λa9 a3 h=>rcT hT [0] (aD _ _ _ _ _ _ a3) kr o o o λ_=>zL [0,1,2,8,32,35,36] o<|af 8 kr o<|cB h λO a4 h=>rc [2] (iN _ _ _ _ _ _ a4) kr o o o λ_=>zL [0,1,2,8,37] o<|zF 5 [9,10,11,12,13] kr o o<|aN kr<|zt<|pk [1,1,0,0] o ?_
    refine bM (x:=V) (q:=f) ?_
    exact ai (O.2,O.1) () h o o
   refine cB h λa9 a3 h=>rcT hT [0] (aD _ _ _ _ _ _ a3) kr o o o λ_=>zL [0,1,2,8,31,35,36] o<|af 3 kr o<|yl 0 f0 dR o o o tr o<|zL [0,1,2,8,32,35,36] o<|af 8 kr o<|cB h λO a4 h=>rc [2] (iN _ _ _ _ _ _ a4) kr o o o λ_=>zL [0,1,2,8,37] o<|zF 5 [9,10,11,12,13] kr o o<|aN kr<|zt<|pk [1,1,0,0] o ?_
   refine bM (x:=V) (q:=f) ?_
   exact ai (O.2,O.1) () h o o
  refine cB h λa9 a3 h=>rcT hT [0] (aD _ _ _ _ _ _ a3) kr o o o λ_=>zL [0,1,2,8,29,35,36] o<|af 1 kr o<|zA o<|ah [0,1,2,8,30,35,36] o<|zF 1 [2] kr o o<|af 3 kr o<|yl 0 f0 dR o o o tr o<|zL [0,1,2,8,32,35,36] o<|af 8 kr o<|cB h λO a4 h=>rc [2] (iN _ _ _ _ _ _ a4) kr o o o λ_=>zL [0,1,2,8,37] o ?_
  refine zF 5 [9,10,11,12,13] kr o o<|aN kr<|zt<|pk [1,1,0,0] o<|bM (x:=V) (q:=f) ?_
  exact ai (O.2,O.1) () h o o
 refine zs<|zW o<|rI h o (λhc h=>zU 2 o<|zf<|zT<|by cases h;exact pk [0,1,0] o<|aS o (.tmp o) (λ_ _ g=>g) (λ_ _ _=>(.cons_cons _ (.cons_cons _ (.cons_cons _ .slnil))))) λhc h=>zy<|q 1 [(0,ptr R 0),(2,ptr W 0),(9,ts C.2),(43,ti H)] [] o<|y (aY o pI o o (.cons f0 o o aa .nil)) o ?_
 refine aC (t:=Y195) o pI o λd=>st 0 .here dq o o o o tr<|za<|bv h (λu=>[(0,ptr R 0),(2,ptr W 0),(9,ts C.2),(10,ptr d 0)]) (λu=>[Res.cls iM (.pointer (some ⟨W,0,none⟩)) u.1,Res.cls (cd f) (.pointer (some ⟨R,0,none⟩)) u.2,Res.var d 195 Y195 (H,0,0,()),Res.disk PP dI f J]) (λc2 h=>?_) λu h=>?_
 ·refine zs<|pk [3,0,0,0] o<|mL λb0=>?_
  refine zr<|zm 3 o<|yl 0 f2 ty4 o o o tr o<|q 2 [(10,ptr d 0),(50,tb (!M.2.2.1))] [0,2,9] o ?_
  obtain⟨b1,e,h⟩:=al h;rw[e]
  refine aM 3 [(0,ptr R 0),(2,ptr W 0),(9,ts C.2),(10,ptr d 0),(53,tb (b1&&(C.2 !=[])))] [Res.var W 191 W45 (fB M b0),Res.own b0 9 .str M.1,Res.var d 195 Y195 (H,0,0,()),Res.cls (cd f) (.pointer (some ⟨R,0,none⟩)) V,Res.disk PP dI f J] (?_) ?_
  ·clear h
   cases b1
   ·exact zA o<|ap () o o
   exact zA o<|ap () o o
  refine za<|rI h o (λhc h=>?_) λhc h=>?_
  ·refine zU 3 o<|cB h λN b5 h=>ar (xl _ _ b5) kr o o<|zm 5 o<|st 0 f1 ty2 o o o o tr<|zm 2 o<|st 0 f2 ty4 o o o o tr<|nL o<|zZ 3 o<|yl 0 f2 ty4 o o o tr o<|za<|rI h o (λhc h=>?_) λhc h=>?_
   ·refine pk [3,0,0,0,0] o<|fm λc3=>?_
    refine zr<|zm 4 o<|yl 2 f1 ty2 o o o tr o<|zm 2 o<|st 0 f4 ty2 o o o o tr<|za<|bM (x:=(rD V () N.1)) (q:=f) ?_
    refine pk [1,1,0,0,0] o<|jt (x:=(M.1,N.1,N.2,M.2.2.2.1,M.2.2.2.2)) ?_
    exact ai ((M.1,N.1,N.2,M.2.2.2.1,M.2.2.2.2),(rD V () N.1)) () h o o
   refine zk<|zt<|jt (x:=(M.1,N.1,N.2,M.2.2.2.1,M.2.2.2.2)) ?_
   exact pk [0,1,0,0] o<|ai ((M.1,N.1,N.2,M.2.2.2.1,M.2.2.2.2),V) () h o o
  refine zk<|zt<|jt (x:=M) ?_
  exact pk [0,1,0,0] o<|ai (M,V) () h o o
 refine bv h (λc=>[(0,ptr R 0),(2,ptr W 0),(9,ts C.2),(10,ptr d 0)]) (λc=>[Res.cls iM (.pointer (some ⟨W,0,none⟩)) c.1,Res.cls (cd f) (.pointer (some ⟨R,0,none⟩)) c.2.1,Res.var d 195 Y195 c.2.2,Res.disk PP dI f J]) (λc4 h=>?_) λc h=>?_
 ·refine zs<|mL λc5=>?_
  refine zr<|zm 3 o<|yl 0 f2 ty4 o o o tr o<|za<|rI h o (λhc h=>?_) λhc h=>?_
  ·refine zs<|pk [2,0,0,0,0] o<|fm λc6=>?_
   refine zr<|zm 4 o<|yl 0 f4 ty2 o o o tr o<|cB h λG b6 h=>rc [] (xm _ _ _ b6) kr o o o λc7=>zm 7 o<|zZ 4 o<|yl 3 f0 tx4 o o o tr o<|zm 1 o<|iE h λhc h=>bd (B:=16) ag 4 o o (bL 0 o o) o el9 o o hc o λc8=>?_
   refine zm 2 o<|st 3 f0 tx4 o o o o tr<|nL o<|zZ 3 o<|yl 1 f4 ty2 o o o tr o<|zm 1 o<|y (bW ag 0 o o o) o ?_
   refine zm 3 o<|st 1 f4 ty2 o o o o tr<|zZ 2 o<|st 5 f1 ty3 o o o o tr<|nL o<|zZ 1 o<|y (bW ag 0 o o o) o ?_
   refine zA o<|rI h o (λhc h=>?_) λhc h=>?_
   ·refine zr<|zm 3 o<|yl 1 f4 ty2 o o o tr o<|zm 1 o<|st 5 f2 ty2 o o o o tr<|za<|pk [1,1,0,0,0,0,0] o<|bM (x:=(rD u.2 () (wrap .i64 (u.2.2.2.2.2.1+(List.length G.1:Int))))) (q:=f) ?_
    refine pk [2,2,0,0,0,0] o<|jt (x:=(fB u.1 (u.1.1++G.1))) ?_
    exact pk [0,0,1,1] o<|ai ((fB u.1 (u.1.1++G.1)),(rD u.2 () (wrap .i64 (u.2.2.2.2.2.1+(List.length G.1:Int)))),(H,G.2.1,(wrap .i64 (u.2.2.2.2.2.1+(List.length G.1:Int))),())) () h o o
   refine zk<|zt<|pk [1,1,0,0,0,0,0] o<|bM (x:=(rD u.2 () (wrap .i64 (u.2.2.2.2.2.1+(List.length G.1:Int))))) (q:=f) ?_
   refine pk [2,2,0,0,0,0] o<|jt (x:=(fB u.1 (u.1.1++G.1))) ?_
   exact pk [0,0,1,1] o<|ai ((fB u.1 (u.1.1++G.1)),(rD u.2 () (wrap .i64 (u.2.2.2.2.2.1+(List.length G.1:Int)))),(H,G.2.1,0,())) () h o o
  refine zk<|zt<|jt (x:=u.1) ?_
  exact ai (u.1,u.2,(H,0,0,())) () h o o
 refine zs<|mL λb3=>?_
 refine zr<|zm 2 o<|yl 3 f1 ty3 o o o tr o<|q 5 [(0,ptr R 0),(10,ptr d 0),(123,tb (decide (c.2.2.2.1<(List.length C.2:Int)))),(125,ptr W 3)] [] o<|st 0 f3 ty4 o o o o tr<|za<|bv h (λa7=>[]) (λa7=>[Res.cls (cd f) (.pointer (some ⟨R,0,none⟩)) a7,Res.var W 191 W45 (b3,c.1.2.1,c.1.2.2.1,(decide (c.2.2.2.1<(List.length C.2:Int))),c.1.2.2.2.2),Res.own b3 9 .str c.1.1,Res.var d 195 Y195 c.2.2,Res.disk PP dI f J]) (λc9 h=>?_) λa7 h=>?_
 ·refine pk [2,0,0,0,0] o<|fm λd0=>?_
  refine dS kr<|zF 2 [0,1] kr o o ?_
  refine br (i:=2) (j:=5) kr o o ?_ ?_
  ·refine zA o<|ah [10,126,128] o<|zF 1 [3] kr o o ?_
   refine br (i:=4) (j:=5) kr o o ?_ ?_
   ·refine yl 0 f3 tx5 o o o tr o<|zL [10,126,130] o<|af 5 kr o<|yl 4 .here dq o o o tr o<|zL [126,130,131] o<|af 6 kr o<|bu (B:=24) ag o gk o o o (.cons o .nil) o λa5=>?_
    refine zL [126,130,132] o<|af 7 kr o<|iE h λhc h=>bd (B:=24) ag 2 o o (bL 0 o o) o gk o o hc o λa6=>?_
    refine pk [1,1,1,1,1,1] o<|zL [126,133] o<|af 8 kr o<|zA o<|ah [133,134] o<|zF 1 [9] kr o o<|af 10 kr o<|st 0 f3 tx5 o o o o tr<|nL o<|zL [] o<|aN kr<|zt<|bM (x:=(bI c.2.1 () (c.2.1.2.2.2.1++[c.2.2]))) (q:=f) ?_
    exact ai (bI c.2.1 () (c.2.1.2.2.2.1++[c.2.2])) () h o o
   refine yl 4 .here dq o o o tr o<|zL [126,129,131] o ?_
   refine br (i:=4) (j:=6) kr o o ?_ ?_
   ·refine yl 0 f3 tx5 o o o tr o<|zL [126,130,131] o<|af 6 kr o<|bu (B:=24) ag o gk o o o (.cons o .nil) o λa5=>?_
    refine zL [126,130,132] o<|af 7 kr o<|iE h λhc h=>bd (B:=24) ag 2 o o (bL 0 o o) o gk o o hc o λa6=>?_
    refine pk [1,1,1,1,1,1] o<|zL [126,133] o<|af 8 kr o<|zA o<|ah [133,134] o<|zF 1 [9] kr o o<|af 10 kr o<|st 0 f3 tx5 o o o o tr<|nL o<|zL [] o<|aN kr<|zt<|bM (x:=(bI c.2.1 () (c.2.1.2.2.2.1++[c.2.2]))) (q:=f) ?_
    exact ai (bI c.2.1 () (c.2.1.2.2.2.1++[c.2.2])) () h o o
   refine bu (B:=24) ag o gk o o o (.cons o .nil) o λa5=>?_
   refine zL [126,129,132] o<|af 4 kr o<|yl 1 f3 tx5 o o o tr o<|zL [126,130,132] o<|af 7 kr o<|iE h λhc h=>bd (B:=24) ag 2 o o (bL 0 o o) o gk o o hc o λa6=>?_
   refine pk [1,1,1,1,1,1] o<|zL [126,133] o<|af 8 kr o<|zA o<|ah [133,134] o<|zF 1 [9] kr o o<|af 10 kr o<|st 0 f3 tx5 o o o o tr<|nL o<|zL [] o<|aN kr<|zt<|bM (x:=(bI c.2.1 () (c.2.1.2.2.2.1++[c.2.2]))) (q:=f) ?_
   exact ai (bI c.2.1 () (c.2.1.2.2.2.1++[c.2.2])) () h o o
  refine yl 4 .here dq o o o tr o<|zL [126,127,131] o ?_
  refine br (i:=2) (j:=6) kr o o ?_ ?_
  ·refine zA o<|ah [126,128,131] o<|zF 1 [3] kr o o ?_
   refine br (i:=4) (j:=6) kr o o ?_ ?_
   ·refine yl 0 f3 tx5 o o o tr o<|zL [126,130,131] o<|af 6 kr o<|bu (B:=24) ag o gk o o o (.cons o .nil) o λa5=>?_
    refine zL [126,130,132] o<|af 7 kr o<|iE h λhc h=>bd (B:=24) ag 2 o o (bL 0 o o) o gk o o hc o λa6=>?_
    refine pk [1,1,1,1,1,1] o<|zL [126,133] o<|af 8 kr o<|zA o<|ah [133,134] o<|zF 1 [9] kr o o<|af 10 kr o<|st 0 f3 tx5 o o o o tr<|nL o<|zL [] o<|aN kr<|zt<|bM (x:=(bI c.2.1 () (c.2.1.2.2.2.1++[c.2.2]))) (q:=f) ?_
    exact ai (bI c.2.1 () (c.2.1.2.2.2.1++[c.2.2])) () h o o
   refine bu (B:=24) ag o gk o o o (.cons o .nil) o λa5=>?_
   refine zL [126,129,132] o<|af 4 kr o<|yl 1 f3 tx5 o o o tr o<|zL [126,130,132] o<|af 7 kr o<|iE h λhc h=>bd (B:=24) ag 2 o o (bL 0 o o) o gk o o hc o λa6=>?_
   refine pk [1,1,1,1,1,1] o<|zL [126,133] o<|af 8 kr o<|zA o<|ah [133,134] o<|zF 1 [9] kr o o<|af 10 kr o<|st 0 f3 tx5 o o o o tr<|nL o<|zL [] o<|aN kr<|zt<|bM (x:=(bI c.2.1 () (c.2.1.2.2.2.1++[c.2.2]))) (q:=f) ?_
   exact ai (bI c.2.1 () (c.2.1.2.2.2.1++[c.2.2])) () h o o
  refine bu (B:=24) ag o gk o o o (.cons o .nil) o λa5=>?_
  refine zL [126,127,132] o<|af 2 kr o<|zA o<|ah [126,128,132] o<|zF 1 [3] kr o o<|af 4 kr o<|yl 1 f3 tx5 o o o tr o<|zL [126,130,132] o<|af 7 kr o<|iE h λhc h=>bd (B:=24) ag 2 o o (bL 0 o o) o gk o o hc o λa6=>?_
  refine pk [1,1,1,1,1,1] o<|zL [126,133] o<|af 8 kr o<|zA o<|ah [133,134] o<|zF 1 [9] kr o o<|af 10 kr o<|st 0 f3 tx5 o o o o tr<|nL o<|zL [] o<|aN kr<|zt<|bM (x:=(bI c.2.1 () (c.2.1.2.2.2.1++[c.2.2]))) (q:=f) ?_
  exact ai (bI c.2.1 () (c.2.1.2.2.2.1++[c.2.2])) () h o o
 refine zU 1 o<|zf<|pk [1,1,0,0,0] o<|jt (x:=(c.1.1,c.1.2.1,c.1.2.2.1,(decide (c.2.2.2.1<(List.length C.2:Int))),c.1.2.2.2.2)) ?_
 cases h
 exact pk [0,0,1] o<|pk [1,0,0] o<|bc o (.tmp o) (.cons_cons _ (.cons_cons _ (.cons_cons _ .slnil)))
theorem eJ(c r)(h:cU c=some r):Fn PP 153 [.one (.sl 5 (.int .u8)) c] [] (λv=> .one W62 v) (λv=>[Res.own v 5 (.int .u8) r]):=by
 unfold cU at h
 refine enter Tryz.func153 o 8 o o λF=>?_
 refine zW o<|zs<|zU 1 o<|ud o Tryz.underlying91 o λg1 f=>?_
 refine za ?_
 refine ii (b:=g1) o (λhc=>?_) (λhc=>?_)
 ·have hx:=f hc
  subst hx
  have h:(some []:Option (List (Int)))=some r:=by simpa using h
  refine zU 1 o<|zf<|zT<|bT (.slice none 0 0) o 5 (.int .u8) ?_
  cases h
  exact aS o (.tmp o) (λ_ _ g=>holds_raw.2 ⟨rfl,by rw[(holds_raw.1 g).1];exact(holds_raw.1 g).2⟩) (λ_ _ g=>by obtain⟨rfl,_⟩:=holds_raw.1 g;exact(.cons_cons _ .slnil))
 refine zy<|bu (B:=1) ag o el5 o o o .nil o λu=>?_
 refine zm 1 o<|iE h λhc h=>bd (B:=1) ag 0 o o (pV o) o el5 o o hc o λM=>?_
 refine zE o ?_
 cases h
 exact aS o (.tmp o) (λ_ _ g=>holds_raw.2 ⟨rfl,by rw[(holds_raw.1 g).1];exact(holds_raw.1 g).2⟩) (λ_ _ g=>by obtain⟨rfl,_⟩:=holds_raw.1 g;exact(.cons_cons _ .slnil))
theorem Hl:Be PP dI 163:=FH Tryz.func163 o 10 o (by decide) λF s size=>by
 refine gm ?_
 refine ec ?_
 refine fX ag 1 [0,2] (E':=[(0,.one (.int .i64) s),(2,.ref (.int .i64) size)]) o ?_
 refine hZ ?_
 refine eY ?_
 refine gm ?_
 refine ec ?_
 refine fX ag 2 [2,7] (E':=[(2,.ref (.int .i64) size),(7,.one (.int .i64) (wrap .i64 (s*64)))]) o ?_
 refine y (fP o ty3) o ?_
 refine fX ag 2 [5] (E':=[(5,.one .bool (decide (size≤wrap .i64 (s*64))))]) o ?_
 refine hZ ?_
 refine eY ?_
 refine rV ?_
 exact aS o (.tmp o) (λ_ _ g=>g) (λ_ _ _=> .slnil)
theorem EC:xy PP dI 162 163:=FI Tryz.laysDel o Tryz.underlying3 (λ_ _=>gn kr) Hl
theorem ns(N:Value)(u W c r)(h:cM u W c=some r):Fn PP 115 [tp N,ts W,ti c] [Res.disk PP dI N u] (λ_=>ti r.1) (λ_=>[Res.disk PP dI N r.2]):=by
 unfold cM at h
 refine enter Tryz.func115 o 60 o o λF=>?_
 refine gT λO C hp=>?_
 subst hp
 refine zu<|bA o o λV=>zm 1 o<|zZ 2 o<|pk [1,1,0] o<|cB h λr4 w h=>gp (Lo:=[Res.var V 3 (.int .i64) c]) (gj O C u W _ w) kr (List.Perm.refl _) o o λZ=>?_
 refine zA o<|zs<|zW o<|rI h o (λhc h=>zU 2 o<|zf<|zT<|aw (R':=Res.dfiles PP dI C u.2.1) 1 o fp<|ct (P:=PP) (I:=dI) (D:=u)<|by cases h;exact aS o (.tmp o) (λ_ _ g=>g) (λ_ _ _=>(.cons_cons _ (.cons _ .slnil)))) λhc h=>zk<|zt<|zs<|zs<|iE h λhc h=>aw (R':=Res.dat PP dI C u.2.1 W (au Z 0)) 1 o (nC hc)<|cB h λf6 d h=>pk [1,0,0] o<|iB dW d λf a4 G a5 hq=>?_
 rw[hq]
 clear hq
 refine eL kr kr ?_
 refine q_y (aL 6 .here o o o aa ty3) o ?_
 refine ay ag 2 [5,7,20] (E':=[(5,ptr V 0),(7,ptr f 0),(20,tb (decide (c<0)))]) o ?_
 obtain⟨m,e,h⟩:=al h;rw[e]
 refine lE 8 [(5,ptr V 0),(7,ptr f 0),(28,tb (m||(decide (c>(List.length f6.1:Int)))))] ?_ ?_
 ·clear h
  cases m
  ·refine dH dl o ?_
   refine q_y (aL 6 .here o o o aa ty3) o ?_
   refine ay ag 3 [5,7,20,21,24] (E':=[(5,ptr V 0),(7,ptr f 0),(20,tb false),(21,ti c),(24,ptr f 0)]) o ?_
   refine dH dl o ?_
   refine q_y (aL 0 f0 o o o (aq aa) tx0) o ?_
   refine dH dl o ?_
   refine q_y (bW ag 1 o o o) o ?_
   refine ay ag 2 [5,7,28] (E':=[(5,ptr V 0),(7,ptr f 0),(28,tb (decide (c>(List.length f6.1:Int))))]) o ?_
   refine fZ ?_
   exact iF o
  refine ay ag 8 [5,7,28] (E':=[(5,ptr V 0),(7,ptr f 0),(28,tb true)]) o ?_
  refine fZ ?_
  exact iF o
 refine fa ?_
 refine zt<|rI h o (λhc h=>?_) λhc h=>?_
 ·refine zU 1 o<|zf<|zT<|jC (P:=PP) (I:=dI) dW d ?_
  refine aw (R':=Res.dfiles PP dI C u.2.1) 0 o cp<|pk [1,0,0] o<|ct (P:=PP) (I:=dI) (D:=u) ?_
  cases h
  exact bc o (.tmp o) (.cons_cons _ (.cons _ .slnil))
 refine zk<|zt<|zs<|dS kr<|zF 2 [0,1] kr o o ?_
 refine br (i:=2) (j:=5) kr o o ?_ ?_
 ·refine zA o<|ah [5,7,29,31] o<|zF 1 [3] kr o o<|o4 (fuel:=5) [4,5] #[true,true,true,true,true,true,false,false,false,false,false] kr ?_
  refine q_y (aL 0 f0 o o o (aq aa) tx0) o ?_
  refine q_y (aL 6 .here o o o aa ty3) o ?_
  refine fa ?_
  refine ah [5,7,29,33,34] o<|af 6 kr o ?_
  obtain⟨M,h⟩:=cj h
  refine y (kb ag (i:=(0:Int)) (j:=c) o (eM 1 o) o o M.1 M.2.1 M.2.2 o ty5) o ?_
  refine zL [5,7,29,35] o<|af 7 kr o<|cB h λH J h=>pX (eJ (List.take (Int.toNat c) f6.1) _ J) kr (λ_=>o) (λ_ r hr=>by rcases List.mem_singleton.1 hr with rfl;exact Res.free_own o) (.sub o (oe (eM 1 o) M.1 M.2.1 M.2.2) .nil) o λa3=>?_
  refine zL [5,7,29,36] o<|af 8 kr o<|zA o<|ah [5,7,36,37] o<|zF 1 [9] kr o o<|af 10 kr o<|st 1 f0 tx0 o o o o tr<|pk [0,0,1,1,1,1,1] o<|zL [5,7] o<|aN kr<|zt<|zs<|dS kr<|zF 3 [0,1,6] kr o o ?_
  refine o4 (fuel:=2) [2,3,4,5,7,8,9,10,11,12,13] #[true,true,true,true,true,true,true,true,true,true,true,true,true,true,false,false] kr ?_
  refine ay ag 2 [5,7,39,42,45] (E':=[(5,ptr V 0),(7,ptr f 0),(39,ptr f 0),(42,ptr f 1),(45,ptr f 0)]) o ?_
  refine q_y (aL 1 f1 o o o (ab (aq aa)) tx0) o ?_
  refine q_y (aL 6 .here o o o aa ty3) o ?_
  refine ay ag 2 [5,7,39,43,44,47] (E':=[(5,ptr V 0),(7,ptr f 0),(39,ptr f 0),(43,.one W62 G),(44,ti c),(47,ptr f 1)]) o ?_
  refine q_y (aL 1 f1 o o o (ab (aq aa)) tx0) o ?_
  refine q_y (bW ag 2 o o o) o ?_
  refine q_y (vy o o) o ?_
  obtain⟨R,h⟩:=cj h
  refine q_y (kb ag (i:=(0:Int)) (j:=(min c (List.length f6.2.1:Int))) o (eM 2 o) o o R.1 R.2.1 R.2.2 o ty5) o ?_
  refine ay ag 1 [5,7,51,52] (E':=[(5,ptr V 0),(7,ptr f 0),(51,.one W62 (ij (T.size (.int .u8)) G (Int.toNat (0:Int)) (Int.toNat (min c (List.length f6.2.1:Int))))),(52,ptr f 0)]) o ?_
  refine fa ?_
  refine ah [5,7,51,52] o<|zF 1 [14] kr o o<|af 15 kr o<|so (j:=(Int.toNat (min c (List.length f6.2.1:Int)))) 2 o (by have:=R.2.2;omega) ?_
  refine nL o<|st 1 f1 tx0 o o o o tr<|zL [5,7] o<|aN kr<|zt<|zU 3 o<|yl 1 f2 qA o o o tr o<|uI EC kr 3 6 o o o o (by decide) (by simp) o o o ?_
  refine zz<|zE o<|pk [1,0,0,0,0,0,0] o<|ia (P:=PP) (I:=dI) dW ?_
  refine aw (R':=Res.dfiles PP dI C (cm .str W (H,(List.take (Int.toNat (min c (List.length f6.2.1:Int))) f6.2.1),(kc f6.2.2 c)) u.2.1)) 0 o cp<|nL o<|pk [1,0,0] o<|ct (P:=PP) (I:=dI) (D:=(kg u (cm .str W (H,(List.take (Int.toNat (min c (List.length f6.2.1:Int))) f6.2.1),(kc f6.2.2 c)) u.2.1))) ?_
  cases h
  exact bc o (.tmp o) (.cons_cons _ (.cons _ .slnil))
 refine yl 6 .here ty3 o o o tr o<|zL [5,7,29,30,34] o<|af 2 kr o<|zA o<|ah [5,7,29,31,34] o<|zF 1 [3] kr o o<|af 4 kr o<|yl 0 f0 tx0 o o o tr o<|zL [5,7,29,33,34] o<|af 6 kr o ?_
 obtain⟨M,h⟩:=cj h
 refine y (kb ag (i:=(0:Int)) (j:=c) o (eM 1 o) o o M.1 M.2.1 M.2.2 o ty5) o ?_
 refine zL [5,7,29,35] o<|af 7 kr o<|cB h λH J h=>pX (eJ (List.take (Int.toNat c) f6.1) _ J) kr (λ_=>o) (λ_ r hr=>by rcases List.mem_singleton.1 hr with rfl;exact Res.free_own o) (.sub o (oe (eM 1 o) M.1 M.2.1 M.2.2) .nil) o λa3=>?_
 refine zL [5,7,29,36] o<|af 8 kr o<|zA o<|ah [5,7,36,37] o<|zF 1 [9] kr o o<|af 10 kr o<|st 1 f0 tx0 o o o o tr<|pk [0,0,1,1,1,1,1] o<|zL [5,7] o<|aN kr<|zt<|zs<|dS kr<|zF 3 [0,1,6] kr o o ?_
 refine o4 (fuel:=2) [2,3,4,5,7,8,9,10,11,12,13] #[true,true,true,true,true,true,true,true,true,true,true,true,true,true,false,false] kr ?_
 refine ay ag 2 [5,7,39,42,45] (E':=[(5,ptr V 0),(7,ptr f 0),(39,ptr f 0),(42,ptr f 1),(45,ptr f 0)]) o ?_
 refine q_y (aL 1 f1 o o o (ab (aq aa)) tx0) o ?_
 refine q_y (aL 6 .here o o o aa ty3) o ?_
 refine ay ag 2 [5,7,39,43,44,47] (E':=[(5,ptr V 0),(7,ptr f 0),(39,ptr f 0),(43,.one W62 G),(44,ti c),(47,ptr f 1)]) o ?_
 refine q_y (aL 1 f1 o o o (ab (aq aa)) tx0) o ?_
 refine q_y (bW ag 2 o o o) o ?_
 refine q_y (vy o o) o ?_
 obtain⟨R,h⟩:=cj h
 refine q_y (kb ag (i:=(0:Int)) (j:=(min c (List.length f6.2.1:Int))) o (eM 2 o) o o R.1 R.2.1 R.2.2 o ty5) o ?_
 refine ay ag 1 [5,7,51,52] (E':=[(5,ptr V 0),(7,ptr f 0),(51,.one W62 (ij (T.size (.int .u8)) G (Int.toNat (0:Int)) (Int.toNat (min c (List.length f6.2.1:Int))))),(52,ptr f 0)]) o ?_
 refine fa ?_
 refine ah [5,7,51,52] o<|zF 1 [14] kr o o<|af 15 kr o<|so (j:=(Int.toNat (min c (List.length f6.2.1:Int)))) 2 o (by have:=R.2.2;omega) ?_
 refine nL o<|st 1 f1 tx0 o o o o tr<|zL [5,7] o<|aN kr<|zt<|zU 3 o<|yl 1 f2 qA o o o tr o<|uI EC kr 3 6 o o o o (by decide) (by simp) o o o ?_
 refine zz<|zE o<|pk [1,0,0,0,0,0,0] o<|ia (P:=PP) (I:=dI) dW ?_
 refine aw (R':=Res.dfiles PP dI C (cm .str W (H,(List.take (Int.toNat (min c (List.length f6.2.1:Int))) f6.2.1),(kc f6.2.2 c)) u.2.1)) 0 o cp<|nL o<|pk [1,0,0] o<|ct (P:=PP) (I:=dI) (D:=(kg u (cm .str W (H,(List.take (Int.toNat (min c (List.length f6.2.1:Int))) f6.2.1),(kc f6.2.2 c)) u.2.1))) ?_
 cases h
 exact bc o (.tmp o) (.cons_cons _ (.cons _ .slnil))
theorem jc(u:Nat)(V:Value)(c M r)(h:cY c M=some r):Fn PP 165 [ptr u 0,ti M] [Res.var u 123 DT (cy c V c.2.2.2.2.2.2 ())] (λ_=>ti r.1) (λ_=>[Res.var u 123 DT (cy r.2 V r.2.2.2.2.2.2.2 ())]):=by
 unfold cY at h
 refine enter Tryz.func165 o 60 o o λF=>?_
 refine zu<|q 1 [(0,ptr u 0),(1,ti M)] [] o<|za<|bv h (λf=>[(0,ptr u 0),(1,ti M)]) (λf=>[Res.var u 123 DT (cy f V f.2.2.2.2.2.2 ())]) (λG h=>?_) λf h=>?_
 ·refine zU 3 o<|yl 0 f4 ty3 o o o tr o<|zA o<|rI h o (λhc h=>?_) λhc h=>?_
  ·exact zU 3 o<|yl 0 f4 ty3 o o o tr o<|zm 3 o<|st 0 f4 ty3 o o o o tr<|zZ 3 o<|yl 0 f4 ty3 o o o tr o<|zA o<|rI h o (λhc h=>zU 4 o<|st 0 f5 ty4 o o o o tr<|zm 2 o<|st 0 f6 ty4 o o o o tr<|nL o<|zz<|zE o<|zT<|by cases h;exact aS o (.tmp o) (λ_ _ g=>g) (λ_ _ _=>(.cons_cons _ .slnil))) λhc h=>zk<|zt<|ai (c.1,c.2.1,c.2.2.1,c.2.2.2.1,(wrap .i64 (c.2.2.2.2.1 - 1)),c.2.2.2.2.2.1,c.2.2.2.2.2.2) () h o o
  exact zk<|zt<|ai (c.1,c.2.1,c.2.2.1,c.2.2.2.1,c.2.2.2.2.1,c.2.2.2.2.2.1,c.2.2.2.2.2.2) () h o o
 refine bv h (λR=>[]) (λR=>[Res.var u 123 DT (cy R V R.2.2.2.2.2.2 ())]) (λN h=>?_) λR h=>?_
 ·refine zU 3 o<|yl 0 f2 ty3 o o o tr o<|q 2 [(0,ptr u 0),(1,ti M),(33,tb (decide (f.2.2.1>0)))] [] o ?_
  obtain⟨H,e,h⟩:=al h;rw[e]
  refine bQ h 14 (λC=>[(0,ptr u 0),(47,tb C)]) (λ_=>[Res.var u 123 DT (cy f V f.2.2.2.2.2.2 ())]) (λJ h=>?_) λC h=>?_
  ·cases H
   ·replace h:=ifF h
    exact zN o<|zt<|ai false () h o o
   replace h:=ifT h
   refine zm 3 o<|am dl o ?_
   refine yl 0 f3 ty3 o o o tr o<|q 2 [(33,tb true),(39,tb (f.2.2.2.1==0))] [0,1] o ?_
   obtain⟨W,e,h⟩:=al h;rw[e]
   refine aM 7 [(0,ptr u 0),(33,tb true),(46,tb (W||(f.2.2.2.1==M)))] [Res.var u 123 DT (cy f V f.2.2.2.2.2.2 ())] (?_) ?_
   ·clear h
    cases W
    ·refine zm 3 o<|am dl o ?_
     exact yl 0 f3 ty3 o o o tr o<|zA o<|ap () o o
    exact zA o<|ap () o o
   exact zN o<|zt<|ai (W||(f.2.2.2.1==M)) () h o o
  exact za<|rI h o (λhc h=>zU 3 o<|yl 0 f2 ty3 o o o tr o<|zm 3 o<|st 0 f2 ty3 o o o o tr<|zZ 3 o<|yl 0 f2 ty3 o o o tr o<|zA o<|rI h o (λhc h=>zU 1 o<|zf<|zT<|by cases h;exact aS o (.tmp o) (λ_ _ g=>g) (λ_ _ _=>(.cons_cons _ .slnil))) λhc h=>zk<|zt<|ai (f.1,c.2.1,(wrap .i64 (f.2.2.1 - 1)),f.2.2.2.1,f.2.2.2.2.1,f.2.2.2.2.2.1,f.2.2.2.2.2.2) () h o o) λhc h=>zk<|zt<|ai (kg f c.2.1) () h o o
 refine zU 1 o<|zf ?_
 cases h
 exact bc o (.tmp o) (.cons_cons _ .slnil)
theorem dD(M:Value)(c f r)(h:dJ c f=some r):Fn PP 117 [tp M,ts f] [Res.disk PP dI M c] (λ_=>ti r.1) (λ_=>[Res.disk PP dI M r.2]):=by
 unfold dJ at h
 refine enter Tryz.func117 o 34 o o λF=>?_
 refine gT λV u hp=>?_
 subst hp
 refine zU 1 o<|zZ 2 o<|cB h λH G h=>gp (Lo:=[]) (gj V u c f _ G) kr (List.Perm.refl _) o o λR=>?_
 refine zA o<|zs<|zW o<|rI h o (λhc h=>zU 2 o<|zf<|zT<|aw (R':=Res.dfiles PP dI u c.2.1) 1 o fp<|ct (P:=PP) (I:=dI) (D:=c)<|by cases h;exact aS o (.tmp o) (λ_ _ g=>g) (λ_ _ _=>(.cons_cons _ .slnil))) λhc h=>zk<|zt<|zs<|zU 1 o<|cB h λW N h=>gp (Lo:=[Res.dfound PP dI u c.2.1 f (au R 0) H]) (jc V u c 2 _ N) kr (List.Perm.refl _) o o λ_=>?_
 refine zm 1 o<|zz<|zA o<|rI h o (λhc h=>zU 2 o<|zf<|zT<|aw (R':=Res.dfiles PP dI u c.2.1) 1 o fp<|ct (P:=PP) (I:=dI) (D:=(kg W.2 c.2.1))<|by cases h;exact aS o (.tmp o) (λ_ _ g=>g) (λ_ _ _=>(.cons_cons _ .slnil))) λhc h=>zk<|zt<|zs<|iE h λhc h=>aw (R':=Res.dat PP dI u c.2.1 f (au R 0)) 1 o (nC hc)<|cB h λf6 J h=>pk [1,0] o<|iB dW J λm O w Z hq=>?_
 rw[hq]
 clear hq
 refine zr<|zm 4 o<|yl 0 f0 tx0 o o o tr o<|cB h λC d h=>pX (eJ f6.1 _ d) kr (λ_=>o) (λ_ r hr=>by rcases List.mem_singleton.1 hr with rfl;exact Res.free_own o) (.sub o (eM 1 o) .nil) o λa2=>?_
 refine zm 2 o<|st 1 f1 tx0 o o o o tr<|nL o<|pk [0,0,0,1,1,1] o<|zZ 3 o<|yl 1 f2 qA o o o tr o<|nj 3 o λa3 a4=>?_
 refine Ap 3 o o Tryz.underlying235 ?_
 refine jg (P:=PP) (I:=dI) (keys:=[]) 3 o o ?_
 refine zz<|zE o<|pk [1,1,0,0,0,0] o<|ia (P:=PP) (I:=dI) dW ?_
 refine aw (R':=Res.dfiles PP dI u (cm .str f (f6.1,C,[]) c.2.1)) 0 o cp<|pk [1,0] o<|ct (P:=PP) (I:=dI) (D:=(kg W.2 (cm .str f (f6.1,C,[]) c.2.1))) ?_
 cases h
 exact bc o (.tmp o) (.cons_cons _ .slnil)
theorem gD(c r)(h:im c=some r):Fn PP 118 [.one W78 c] [] (λv=> .one W62 v) (λv=>[Res.own v 9 .str r]):=by
 unfold im at h
 refine enter Tryz.func118 o 8 o o λF=>?_
 refine zW o<|zs<|zU 1 o<|ud o Tryz.underlying128 o λg1 f=>?_
 refine za ?_
 refine ii (b:=g1) o (λhc=>?_) (λhc=>?_)
 ·have hx:=f hc
  subst hx
  have h:(some []:Option (List (List Int)))=some r:=by simpa using h
  refine zU 1 o<|zf<|zT<|bT (.slice none 0 0) o 9 .str ?_
  cases h
  exact aS o (.tmp o) (λ_ _ g=>holds_raw.2 ⟨rfl,by rw[(holds_raw.1 g).1];exact(holds_raw.1 g).2⟩) (λ_ _ g=>by obtain⟨rfl,_⟩:=holds_raw.1 g;exact(.cons_cons _ .slnil))
 refine zy<|bu (B:=16) ag o el9 o o o .nil o λu=>?_
 refine zm 1 o<|iE h λhc h=>bd (B:=16) ag 0 o o (pV o) o el9 o o hc o λM=>?_
 refine zE o ?_
 cases h
 exact aS o (.tmp o) (λ_ _ g=>holds_raw.2 ⟨rfl,by rw[(holds_raw.1 g).1];exact(holds_raw.1 g).2⟩) (λ_ _ g=>by obtain⟨rfl,_⟩:=holds_raw.1 g;exact(.cons_cons _ .slnil))
theorem z6(f:Value)(J a1 d G r)(h:oy J a1 d G=some r):FnT PP bD 65 [tp f,ts a1,ti d,ti G] [Res.disk PP dI f J] (λv=> .tup [⟨.raw (.pointer none),au v 0⟩,⟨.raw (.slice none 0 0),au v 1⟩,⟨(.int .i64),r.2.2.1⟩]) (λv=>[Res.disk PP dI f r.2.2.2,Res.clsif (cd f) (au v 0) r.1.2 r.1.1,Res.own (au v 1) 9 .str r.2.1]):=by
 unfold oy at h
 refine E7 Tryz.func65 o 153 o o λF hT=>?_
 refine zu<|aC (t:=W63) o Ez o λM=>aC (t:=W62) o G3 o λV=>bT (.slice none 0 0) o 9 .str ?_
 refine aC (t:=(.int .i64)) o HB o λR=>za<|Ak ?_
 refine zs<|zU 1 o<|cB h λr4 e4 h=>ar (y8 _ _ e4) kr o o<|q 2 [(0,tp f),(1,ts a1),(2,ti d),(3,ti G),(8,ptr M 0),(9,ptr V 0),(10,ptr R 0),(26,tb (!r4))] [] o ?_
 obtain⟨b5,e,h⟩:=al h;rw[e]
 refine aM 3 [(0,tp f),(1,ts a1),(2,ti d),(3,ti G),(8,ptr M 0),(9,ptr V 0),(10,ptr R 0),(29,tb (b5||(decide (d<64))))] [Res.var R 31 (.int .i64) 0,Res.own (.slice none 0 0) 9 .str [],Res.var V 128 W62 (.slice none 0 0),Res.var M 127 W63 (.pointer none),Res.disk PP dI f J] (?_) ?_
 ·clear h
  cases b5
  ·exact zA o<|ap () o o
  exact zA o<|ap () o o
 refine q 1 [(0,tp f),(1,ts a1),(2,ti d),(3,ti G),(8,ptr M 0),(9,ptr V 0),(10,ptr R 0),(30,tb (b5||(decide (d<64))))] [] o ?_
 obtain⟨b6,e,h⟩:=al h;rw[e]
 refine aM 3 [(0,tp f),(1,ts a1),(2,ti d),(3,ti G),(8,ptr M 0),(9,ptr V 0),(10,ptr R 0),(33,tb (b6||(decide (d>1048576))))] [Res.var R 31 (.int .i64) 0,Res.own (.slice none 0 0) 9 .str [],Res.var V 128 W62 (.slice none 0 0),Res.var M 127 W63 (.pointer none),Res.disk PP dI f J] (?_) ?_
 ·clear h
  cases b6
  ·exact zA o<|ap () o o
  exact zA o<|ap () o o
 refine q 1 [(0,tp f),(1,ts a1),(2,ti d),(3,ti G),(8,ptr M 0),(9,ptr V 0),(10,ptr R 0),(34,tb (b6||(decide (d>1048576))))] [] o ?_
 obtain⟨b7,e,h⟩:=al h;rw[e]
 refine aM 3 [(0,tp f),(1,ts a1),(2,ti d),(3,ti G),(8,ptr M 0),(9,ptr V 0),(10,ptr R 0),(37,tb (b7||(decide (G<0))))] [Res.var R 31 (.int .i64) 0,Res.own (.slice none 0 0) 9 .str [],Res.var V 128 W62 (.slice none 0 0),Res.var M 127 W63 (.pointer none),Res.disk PP dI f J] (?_) ?_
 ·clear h
  cases b7
  ·exact zA o<|ap () o o
  exact zA o<|ap () o o
 refine q 1 [(0,tp f),(1,ts a1),(2,ti d),(3,ti G),(8,ptr M 0),(9,ptr V 0),(10,ptr R 0),(38,tb (b7||(decide (G<0))))] [] o ?_
 obtain⟨b8,e,h⟩:=al h;rw[e]
 refine aM 3 [(0,tp f),(1,ts a1),(2,ti d),(3,ti G),(8,ptr M 0),(9,ptr V 0),(10,ptr R 0),(41,tb (b8||(decide (G>1152921504606846976))))] [Res.var R 31 (.int .i64) 0,Res.own (.slice none 0 0) 9 .str [],Res.var V 128 W62 (.slice none 0 0),Res.var M 127 W63 (.pointer none),Res.disk PP dI f J] (?_) ?_
 ·clear h
  cases b8
  ·exact zA o<|ap () o o
  exact zA o<|ap () o o
 refine za<|rI h o (λhc h=>?_) λhc h=>?_
 ·refine zu<|st 3 .here cV o o o o tr<|bT (.slice none 0 0) o 9 .str ?_
  refine st 3 .here tx4 o o o o tr<|nL o<|st 1 .here fk o o o o tr<|zf<|zT<|ka ?_
  refine oN ?_
  refine eN (K:=(cd f)) (x:=((),[],0,[],0,false,())) (e:=1) (by decide) ?_
  refine pk [6,0,0,0,0,0,0] o ?_
  cases h
  exact aE (rs:=[.cell 8 127,.cell 9 128,.cell 10 31]) o (.cons (.cell 6 .here o o o aa cV) (.cons (.cell 5 .here o o o aa tx4) (.cons (.cell 3 .here o o o aa fk) (.nil)))) o (λ_ vs g=>by cases g with|cons W g=>cases g with|cons C g=>cases g with|cons N g=>cases g;exact⟨_,o,.cons (bf W) (.cons (bf C) (.cons N (.nil)))⟩) (λ_ vs g=>by cases g with|cons W g=>cases g with|cons C g=>cases g with|cons N g=>cases g;rw[bP W];rw[bP C];exact(.cons_cons _ (.cons_cons _ (.cons_cons _ (.cons _ (.cons _ (.cons _ (.cons _ .slnil))))))))
 refine zk<|zt<|zs<|zU 1 o<|cB h λr9 e5 h=>rc [4] (vn _ _ _ e5) kr o o o λ_=>za<|rI h o (λhc h=>?_) λhc h=>?_
 ·refine zu<|st 4 .here cV o o o o tr<|bT (.slice none 0 0) o 9 .str ?_
  refine st 4 .here tx4 o o o o tr<|nL o<|st 2 .here fk o o o o tr<|zf<|zT<|ka ?_
  refine oN ?_
  refine eN (K:=(cd f)) (x:=((),[],0,[],0,false,())) (e:=1) (by decide) ?_
  refine pk [2,0,0,0,0,0,0] o ?_
  cases h
  exact aE (rs:=[.cell 8 127,.cell 9 128,.cell 10 31]) o (.cons (.cell 6 .here o o o aa cV) (.cons (.cell 5 .here o o o aa tx4) (.cons (.cell 3 .here o o o aa fk) (.nil)))) o (λ_ vs g=>by cases g with|cons W g=>cases g with|cons C g=>cases g with|cons N g=>cases g;exact⟨_,o,.cons (bf W) (.cons (bf C) (.cons N (.nil)))⟩) (λ_ vs g=>by cases g with|cons W g=>cases g with|cons C g=>cases g with|cons N g=>cases g;rw[bP W];rw[bP C];exact(.cons_cons _ (.cons_cons _ (.cons_cons _ (.cons _ (.cons _ (.cons _ (.cons _ .slnil))))))))
 refine zy<|q 4 [(0,tp f),(3,ti G),(8,ptr M 0),(9,ptr V 0),(10,ptr R 0),(44,tp f),(45,ts a1),(46,ti d),(47,ti G)] [] o<|y (aY o G8 o o (.cons f0 o o (aq aa) (.cons f1 o o (ab (aq aa)) (.cons f2 o o (ab (ab (aq aa))) (.cons f4 o o (ab (ab (ab (ab (aq aa))))) .nil))))) o ?_
 refine bA o o λu=>bT (.slice none 0 0) o 195 Y195 ?_
 refine aC (t:=W63) o Ez o λH=>st 0 .here cV o o o o tr<|zz<|aC (t:=(.int .i64)) o zf3 o λZ=>st 0 .here ty3 o o o o tr<|nL o<|za<|bX h λd6 e6 h=>?_
 refine yJ (γ:=Unit) (λ(O:(Unit×List Int×Int×(List bN)×cb)×Int) _=>[(0,tp f),(3,ti G),(8,ptr M 0),(9,ptr V 0),(10,ptr R 0),(11,ptr H 0),(12,ptr Z 0)]) (λD0 (O:(Unit×List Int×Int×(List bN)×cb)×Int) _=>[Res.cls (cd f) (.pointer (some ⟨u,0,none⟩)) O.1,Res.var Z 3 (.int .i64) O.2,Res.var H 127 W63 (.pointer (some ⟨u,0,none⟩)),Res.disk PP dI f J,Res.var R 31 (.int .i64) 0,Res.own (.slice none 0 0) 9 .str [],Res.var V 128 W62 (.slice none 0 0),Res.var M 127 W63 (.pointer none),Res.dfr D0]) d6 r ?_ ?_
 ·refine zu<|yl 1 .here cV o o o tr o<|w8 (ph _) kr o o λc5=>?_
  refine za<|zb<|pk [4,3,0,0,0,0,0,0,0,0] o<|bM (x:=((),a1,d,[],G,false,())) (q:=f) ?_
  refine cB h λg6 e7 h=>ah [0,3,8,9,10,11,12,51] o ?_
  refine yH (γ:=Unit) (λ(b0:Int) _=>[Res.cls (cd f) (.pointer (some ⟨u,0,none⟩)) ((),a1,d,[],G,false,()),Res.var c5 127 W63 (.pointer (some ⟨u,0,none⟩)),Res.var Z 3 (.int .i64) b0,Res.var H 127 W63 (.pointer (some ⟨u,0,none⟩)),Res.disk PP dI f J,Res.var R 31 (.int .i64) 0,Res.own (.slice none 0 0) 9 .str [],Res.var V 128 W62 (.slice none 0 0),Res.var M 127 W63 (.pointer none)]) (mD J a1 d G d6) (-1) () [1,0,2] hT dl (λ_ _ a b=>TabM.mono a b) (n1 _ _ _ _ _ _ e7) kr h o o o o o (λl F1 D0 c6 g7 b0 gg hT h=>?_) (λD0 b0 gg h=>?_)
  ·simp only[mD]at h
   refine yF ?_
   refine nI ?_
   refine nI ?_
   refine kz o ?_
   refine yl 2 .here ty3 o o o tr o<|p 2 [8,9,10,12,13,55] o ?_
   obtain⟨d1,e,h⟩:=al h;rw[e]
   refine aM 5 [(8,ptr M 0),(9,ptr V 0),(10,ptr R 0),(12,ptr Z 0),(13,ti c6),(60,tb (d1&&(c6 !=(wrap .i64 (b0+1)))))] [Res.cls (cd f) (.pointer (some ⟨u,0,none⟩)) ((),a1,d,[],G,false,()),Res.var c5 127 W63 (.pointer (some ⟨u,0,none⟩)),Res.var Z 3 (.int .i64) b0,Res.var H 127 W63 (.pointer (some ⟨u,0,none⟩)),Res.disk PP dI f J,Res.var R 31 (.int .i64) 0,Res.own (.slice none 0 0) 9 .str [],Res.var V 128 W62 (.slice none 0 0),Res.var M 127 W63 (.pointer none)] (?_) ?_
   ·clear h
    cases d1
    ·exact zA o<|ap () o o
    refine zm 1 o<|am dl o ?_
    exact yl 2 .here ty3 o o o tr o<|zA o<|ap () o o
   refine za ?_
   refine Bm (b:=(d1&&(c6 !=(wrap .i64 (b0+1))))) o (λhc=>?_) (λhc=>?_)
   ·rw[if_pos hc]at h
    refine nI ?_
    refine kz o ?_
    refine st 8 .here cV o o o o tr<|bT (.slice none 0 0) o 9 .str ?_
    refine st 8 .here tx4 o o o o tr<|nL o<|st 6 .here fk o o o o tr<|za<|Cz ?_
    refine zT<|zB<|CA (L2:=[Res.own (.slice none 0 0) 9 .str [],Res.cls (cd f) (.pointer (some ⟨u,0,none⟩)) ((),a1,d,[],G,false,()),Res.var c5 127 W63 (.pointer (some ⟨u,0,none⟩)),Res.var Z 3 (.int .i64) b0,Res.var H 127 W63 (.pointer (some ⟨u,0,none⟩)),Res.disk PP dI f J,Res.var R 31 (.int .i64) 60,Res.own (.slice none 0 0) 9 .str [],Res.var V 128 W62 (.slice none 0 0),Res.var M 127 W63 (.pointer none),Res.dfr D0]) o ?_
    refine zB<|zT<|ka ?_
    refine kD [10] o ?_
    refine oN ?_
    refine eN (K:=(cd f)) (x:=((),[],0,[],0,false,())) (e:=1) (by decide) ?_
    refine pk [6,0,0,0,0,0,0,0,0,0,0] o ?_
    cases h
    exact aE (rs:=[.cell 8 127,.cell 9 128,.cell 10 31]) o (.cons (.cell 10 .here o o o aa cV) (.cons (.cell 9 .here o o o aa tx4) (.cons (.cell 7 .here o o o aa fk) (.nil)))) o (λ_ vs g=>by cases g with|cons W g=>cases g with|cons C g=>cases g with|cons N g=>cases g;exact⟨_,o,.cons (bf W) (.cons (bf C) (.cons N (.nil)))⟩) (λ_ vs g=>by cases g with|cons W g=>cases g with|cons C g=>cases g with|cons N g=>cases g;rw[bP W];rw[bP C];exact(.cons_cons _ (.cons_cons _ (.cons_cons _ (.cons _ (.cons _ (.cons _ (.cons _ (.cons _ (.cons _ (.cons _ (.cons _ .slnil))))))))))))
   rw[if_neg (ne_true_of_eq_false hc)]at h
   refine wx ?_
   refine zt<|kz o ?_
   exact zm 1 o<|st 2 .here ty3 o o o o tr<|zn<|zi<|AG c6 () h o
  simp only[mD]at h
  refine Ep (L2:=[Res.cls (cd f) (.pointer (some ⟨u,0,none⟩)) ((),a1,d,[],G,false,()),Res.var c5 127 W63 (.pointer (some ⟨u,0,none⟩)),Res.var Z 3 (.int .i64) b0,Res.var H 127 W63 (.pointer (some ⟨u,0,none⟩)),Res.disk PP dI f J,Res.var R 31 (.int .i64) 0,Res.own (.slice none 0 0) 9 .str [],Res.var V 128 W62 (.slice none 0 0),Res.var M 127 W63 (.pointer none),Res.dfr D0]) o ?_
  exact zi<|zt<|pk [0,1,1,1,1,1,1,1,1] o<|ah [0,3,8,9,10,11,12] o<|vc (((),a1,d,[],G,false,()),b0) () h o o
 intro D0 O gg h
 rw[←e6]at h
 try dsimp only at h
 refine zu<|aC (t:=W45) o G9 o λm=>bT (.slice none 0 0) o 9 .str ?_
 refine zz<|aC (t:= .bool) o zf4 o λa7=>st 0 .here ty4 o o o o tr<|za<|zs<|Al ?_
 refine zt<|bX h λd7 e8 h=>?_
 refine yJ (γ:=Unit) (λ(c:ow×(Unit×List Int×Int×(List bN)×cb)×Bool) _=>[(0,tp f),(3,ti G),(8,ptr M 0),(9,ptr V 0),(10,ptr R 0),(11,ptr H 0),(14,ptr m 0),(15,ptr a7 0)]) (λD1 (c:ow×(Unit×List Int×Int×(List bN)×cb)×Bool) _=>[Res.cls iM (.pointer (some ⟨m,0,none⟩)) c.1,Res.cls (cd f) (.pointer (some ⟨u,0,none⟩)) c.2.1,Res.disk PP dI f J,Res.var a7 4 .bool c.2.2,Res.var Z 3 (.int .i64) O.2,Res.var H 127 W63 (.pointer (some ⟨u,0,none⟩)),Res.var R 31 (.int .i64) 0,Res.own (.slice none 0 0) 9 .str [],Res.var V 128 W62 (.slice none 0 0),Res.var M 127 W63 (.pointer none),Res.dfr D0,Res.dfr D1]) d7 r ?_ ?_
 ·refine zu<|yl 5 .here cV o o o tr o<|w8 (ph _) kr o o λc7=>?_
  refine za<|zb<|pk [3,2,0,0,0,0,0,0,0,0,0,0,0] o<|jt (x:=([],0,false,false,())) ?_
  refine cB h λg8 e9 h=>ah [0,3,8,9,10,11,12,14,15,63] o ?_
  refine yH (γ:=Unit) (λ(a9:ow×(Unit×List Int×Int×(List bN)×cb)) _=>[Res.cls iM (.pointer (some ⟨m,0,none⟩)) a9.1,Res.var c7 127 W63 (.pointer (some ⟨u,0,none⟩)),Res.var a7 4 .bool false,Res.cls (cd f) (.pointer (some ⟨u,0,none⟩)) a9.2,Res.var Z 3 (.int .i64) O.2,Res.var H 127 W63 (.pointer (some ⟨u,0,none⟩)),Res.disk PP dI f J,Res.var R 31 (.int .i64) 0,Res.own (.slice none 0 0) 9 .str [],Res.var V 128 W62 (.slice none 0 0),Res.var M 127 W63 (.pointer none),Res.dfr D0]) (mC J O d7) (([],0,false,false,()),O.1) () [1,2,4] hT dl (λ_ _ a b=>TabM.mono a b) (n1 _ _ _ _ _ _ e9) kr h o o o o o (λl F1 D1 d2 g9 a9 gg hT h=>?_) (λD1 a9 gg h=>?_)
  ·simp only[mC]at h
   refine yF ?_
   refine nI ?_
   refine nI ?_
   refine kz o ?_
   refine yl 5 .here cV o o o tr o<|zm 1 o<|cB h λa6 f5 h=>DF hT dl [3,0,4] (v7 (.pointer (some ⟨u,0,none⟩)) (.pointer (some ⟨m,0,none⟩)) f a9.2 d2 a9.1 J _ f5) kr o o o λ_=>?_
   refine zA o<|nI ?_
   refine kz o ?_
   refine zA o ?_
   refine Bm (b:=(a6.1 !=0)) o (λhc=>?_) (λhc=>?_)
   ·rw[if_pos hc]at h
    refine nI ?_
    refine kz o ?_
    refine zm 1 o<|st 10 .here cV o o o o tr<|bT (.slice none 0 0) o 9 .str ?_
    refine st 10 .here tx4 o o o o tr<|nL o<|st 8 .here fk o o o o tr<|za<|Cz ?_
    refine zT<|zB<|CA (L2:=[Res.own (.slice none 0 0) 9 .str [],Res.cls (cd f) (.pointer (some ⟨u,0,none⟩)) a6.2.1,Res.cls iM (.pointer (some ⟨m,0,none⟩)) a6.2.2,Res.disk PP dI f J,Res.var c7 127 W63 (.pointer (some ⟨u,0,none⟩)),Res.var a7 4 .bool false,Res.var Z 3 (.int .i64) O.2,Res.var H 127 W63 (.pointer (some ⟨u,0,none⟩)),Res.var R 31 (.int .i64) a6.1,Res.own (.slice none 0 0) 9 .str [],Res.var V 128 W62 (.slice none 0 0),Res.var M 127 W63 (.pointer none),Res.dfr D0,Res.dfr D1]) o ?_
    refine zB<|zT<|ka ?_
    refine kD [13] o ?_
    refine kD [12] o ?_
    refine oN ?_
    refine eN (K:=(cd f)) (x:=((),[],0,[],0,false,())) (e:=1) (by decide) ?_
    refine pk [4,0,0,0,0,0,0,0,0,0,0,0,0] o ?_
    cases h
    exact aE (rs:=[.cell 8 127,.cell 9 128,.cell 10 31]) o (.cons (.cell 12 .here o o o aa cV) (.cons (.cell 11 .here o o o aa tx4) (.cons (.cell 9 .here o o o aa fk) (.nil)))) o (λ_ vs g=>by cases g with|cons W g=>cases g with|cons C g=>cases g with|cons N g=>cases g;exact⟨_,o,.cons (bf W) (.cons (bf C) (.cons N (.nil)))⟩) (λ_ vs g=>by cases g with|cons W g=>cases g with|cons C g=>cases g with|cons N g=>cases g;rw[bP W];rw[bP C];exact(.cons_cons _ (.cons_cons _ (.cons_cons _ (.cons _ (.cons _ (.cons _ (.cons _ (.cons _ (.cons _ (.cons _ (.cons _ (.cons _ (.cons _ .slnil))))))))))))))
   rw[if_neg (ne_true_of_eq_false hc)]at h
   refine wx ?_
   refine zt<|nI ?_
   refine pk [1,0,0,0,0,0,0,0,0,0,0,0] o<|mL λd8=>?_
   refine kz o ?_
   refine zm 1 o<|yl 0 f3 ty4 o o o tr o<|za ?_
   refine Bm (b:=a6.2.2.2.2.2.1) o (λhc=>?_) (λhc=>?_)
   ·rw[if_pos hc]at h
    refine nI ?_
    refine kz o ?_
    refine zm 1 o<|yl 6 .here ty3 o o o tr o<|zm 1 o<|st 5 .here ty4 o o o o tr<|za<|E4 ?_
    refine xK o ?_
    refine E5 (L2:=[Res.var m 191 W45 (fB a6.2.2 d8),Res.own d8 9 .str a6.2.2.1,Res.cls (cd f) (.pointer (some ⟨u,0,none⟩)) a6.2.1,Res.disk PP dI f J,Res.var c7 127 W63 (.pointer (some ⟨u,0,none⟩)),Res.var a7 4 .bool (d2 !=O.2),Res.var Z 3 (.int .i64) O.2,Res.var H 127 W63 (.pointer (some ⟨u,0,none⟩)),Res.var R 31 (.int .i64) 0,Res.own (.slice none 0 0) 9 .str [],Res.var V 128 W62 (.slice none 0 0),Res.var M 127 W63 (.pointer none),Res.dfr D0,Res.dfr D1]) o ?_
    refine zq<|zt<|jt (x:=a6.2.2) ?_
    exact pk [0,0,0,1,1,1,1,1,1,1,1,1] o<|ah [0,3,8,9,10,11,14,15] o<|vc (a6.2.2,a6.2.1,(d2 !=O.2)) () h o o
   rw[if_neg (ne_true_of_eq_false hc)]at h
   refine wx ?_
   refine zi<|jt (x:=a6.2.2) ?_
   exact pk [0,2,2,0,1,1,0,0,0,0,0,0] o<|AG (a6.2.2,a6.2.1) () h o
  simp only[mC]at h
  refine Ep (L2:=[Res.cls iM (.pointer (some ⟨m,0,none⟩)) a9.1,Res.var c7 127 W63 (.pointer (some ⟨u,0,none⟩)),Res.var a7 4 .bool false,Res.cls (cd f) (.pointer (some ⟨u,0,none⟩)) a9.2,Res.var Z 3 (.int .i64) O.2,Res.var H 127 W63 (.pointer (some ⟨u,0,none⟩)),Res.disk PP dI f J,Res.var R 31 (.int .i64) 0,Res.own (.slice none 0 0) 9 .str [],Res.var V 128 W62 (.slice none 0 0),Res.var M 127 W63 (.pointer none),Res.dfr D0,Res.dfr D1]) o ?_
  exact zi<|zt<|pk [0,1,1,1,1,1,1,1,1,1,1,1] o<|ah [0,3,8,9,10,11,14,15] o<|pk [0,1,3,0,0,0,0,0,0,0,0,0] o<|vc (a9.1,a9.2,false) () h o o
 intro D1 c gg h
 rw[←e8]at h
 try dsimp only at h
 refine zs<|zs<|mL λa8=>?_
 refine pk [2,0,0,0,0,0,0,0,0,0,0,0,0] o<|fm λc0=>?_
 refine zr<|yl 5 .here ty4 o o o tr o<|q 1 [(11,ptr H 0),(14,ptr m 0),(77,tb c.2.2)] [0,3,8,9,10] o<|bQ h 17 (λd9=>[(0,tp f),(3,ti G),(8,ptr M 0),(9,ptr V 0),(10,ptr R 0),(11,ptr H 0),(14,ptr m 0),(94,tb d9)]) (λ_=>[Res.var u 186 W37 (bI c.2.1 f c0),Res.own c0 195 Y195 c.2.1.2.2.2.1,Res.var m 191 W45 (fB c.1 a8),Res.own a8 9 .str c.1.1,Res.disk PP dI f J,Res.var a7 4 .bool c.2.2,Res.var Z 3 (.int .i64) O.2,Res.var H 127 W63 (.pointer (some ⟨u,0,none⟩)),Res.var R 31 (.int .i64) 0,Res.own (.slice none 0 0) 9 .str [],Res.var V 128 W62 (.slice none 0 0),Res.var M 127 W63 (.pointer none),Res.dfr D0,Res.dfr D1]) (λh3 h=>?_) λd9 h=>?_
 ·rcases Bool.eq_false_or_eq_true c.2.2 with hh|hh
  ·rw[if_pos hh]at h
   refine o5 77 hh o ?_
   exact zN o<|zt<|ai true () h o o
  rw[if_neg (ne_true_of_eq_false hh)]at h
  refine o5 77 hh o ?_
  refine zm 1 o<|am dl o ?_
  refine yl 2 f2 ty4 o o o tr o<|q 1 [(77,tb false),(80,tb c.1.2.2.1)] [0,3,8,9,10,11,14] o<|bQ h 13 (λd3=>[(0,tp f),(3,ti G),(8,ptr M 0),(9,ptr V 0),(10,ptr R 0),(11,ptr H 0),(14,ptr m 0),(77,tb false),(93,tb d3)]) (λ_=>[Res.var u 186 W37 (bI c.2.1 f c0),Res.own c0 195 Y195 c.2.1.2.2.2.1,Res.var m 191 W45 (fB c.1 a8),Res.own a8 9 .str c.1.1,Res.disk PP dI f J,Res.var a7 4 .bool c.2.2,Res.var Z 3 (.int .i64) O.2,Res.var H 127 W63 (.pointer (some ⟨u,0,none⟩)),Res.var R 31 (.int .i64) 0,Res.own (.slice none 0 0) 9 .str [],Res.var V 128 W62 (.slice none 0 0),Res.var M 127 W63 (.pointer none),Res.dfr D0,Res.dfr D1]) (λh4 h=>?_) λd3 h=>?_
  ·rcases Bool.eq_false_or_eq_true c.1.2.2.1 with hh|hh
   ·rw[if_pos hh]at h
    refine o5 80 hh o ?_
    refine zm 1 o<|am dl o ?_
    refine yl 2 f1 ty2 o o o tr o<|q 3 [(80,tb true),(85,tb (decide (c.1.2.1>G)))] [0,3,8,9,10,11,14,77] o ?_
    obtain⟨d4,e,h⟩:=al h;rw[e]
    refine aM 7 [(0,tp f),(3,ti G),(8,ptr M 0),(9,ptr V 0),(10,ptr R 0),(11,ptr H 0),(14,ptr m 0),(77,tb false),(80,tb true),(92,tb (d4||(decide (c.2.1.2.2.2.2.1<G))))] [Res.var u 186 W37 (bI c.2.1 f c0),Res.own c0 195 Y195 c.2.1.2.2.2.1,Res.var m 191 W45 (fB c.1 a8),Res.own a8 9 .str c.1.1,Res.disk PP dI f J,Res.var a7 4 .bool c.2.2,Res.var Z 3 (.int .i64) O.2,Res.var H 127 W63 (.pointer (some ⟨u,0,none⟩)),Res.var R 31 (.int .i64) 0,Res.own (.slice none 0 0) 9 .str [],Res.var V 128 W62 (.slice none 0 0),Res.var M 127 W63 (.pointer none),Res.dfr D0,Res.dfr D1] (?_) ?_
    ·clear h
     cases d4
     ·refine am dl o ?_
      refine yl 7 .here cV o o o tr o<|zm 2 o<|am dl o ?_
      exact yl 0 f4 ty2 o o o tr o<|zA o<|ap () o o
     exact zA o<|ap () o o
    exact zN o<|zt<|ai (d4||(decide (c.2.1.2.2.2.2.1<G))) () h o o
   rw[if_neg (ne_true_of_eq_false hh)]at h
   refine o5 80 hh o ?_
   exact zN o<|zt<|ai false () h o o
  exact zN o<|zt<|ai d3 () h o o
 refine za<|rI h o (λhc h=>?_) λhc h=>?_
 ·refine zu<|st 11 .here cV o o o o tr<|bT (.slice none 0 0) o 9 .str ?_
  refine st 11 .here tx4 o o o o tr<|nL o<|st 9 .here fk o o o o tr<|zf<|zT<|ka ?_
  refine kD [14] o ?_
  refine kD [13] o ?_
  refine oN ?_
  refine eN (K:=(cd f)) (x:=((),[],0,[],0,false,())) (e:=1) (by decide) ?_
  refine pk [6,0,0,0,0,0,0,0,0,0,0,0,0,0] o ?_
  cases h
  exact aE (rs:=[.cell 8 127,.cell 9 128,.cell 10 31]) o (.cons (.cell 13 .here o o o aa cV) (.cons (.cell 12 .here o o o aa tx4) (.cons (.cell 10 .here o o o aa fk) (.nil)))) o (λ_ vs g=>by cases g with|cons W g=>cases g with|cons C g=>cases g with|cons N g=>cases g;exact⟨_,o,.cons (bf W) (.cons (bf C) (.cons N (.nil)))⟩) (λ_ vs g=>by cases g with|cons W g=>cases g with|cons C g=>cases g with|cons N g=>cases g;rw[bP W];rw[bP C];exact(.cons_cons _ (.cons_cons _ (.cons_cons _ (.cons _ (.cons _ (.cons _ (.cons _ (.cons _ (.cons _ (.cons _ (.cons _ (.cons _ (.cons _ (.cons _ .slnil)))))))))))))))
 refine zk<|zt<|jK h (γ:=Value) (λc8 c3=>[(0,tp f),(3,ti G),(8,ptr M 0),(9,ptr V 0),(10,ptr R 0),(11,ptr H 0),(14,ptr m 0)]) (λc8 c3=>[Res.disk PP dI f c8,Res.var u 186 W37 (bI c.2.1 f c3),Res.own c3 195 Y195 c.2.1.2.2.2.1,Res.var m 191 W45 (fB c.1 a8),Res.own a8 9 .str c.1.1,Res.var a7 4 .bool c.2.2,Res.var Z 3 (.int .i64) O.2,Res.var H 127 W63 (.pointer (some ⟨u,0,none⟩)),Res.var R 31 (.int .i64) 0,Res.own (.slice none 0 0) 9 .str [],Res.var V 128 W62 (.slice none 0 0),Res.var M 127 W63 (.pointer none),Res.dfr D0,Res.dfr D1]) (λh5 h=>?_) λc8 c3 h=>?_
 ·refine zU 1 o<|yl 2 f3 ty4 o o o tr o<|za<|rI h o (λhc h=>?_) λhc h=>?_
  ·refine zs ?_
   obtain⟨e0,h⟩:=cj h
   refine ce 1 o (by omega) λa4 a5 b4 hv=>?_
   rw[hv]
   try clear hv
   refine gE (S:=bC [jP a4 a5 195 Y195 c.2.1.2.2.2.1,aV H 127 W63 (.pointer (some ⟨u,0,none⟩)),aV u 186 W37 (bI c.2.1 f (.slice (some ⟨a4,a5,none⟩) (List.length c.2.1.2.2.2.1) b4))]) kr ?_
   refine bl 0 (ptr u 0) (ae (lG 1 o (by omega)) (ae (ak 7 o) (ae (ak 0 o) aj))) o kr (cq (S:=λw=>bC [jP a4 a5 195 Y195 c.2.1.2.2.2.1,aV H 127 W63 (.pointer (some ⟨u,0,none⟩)),aV u 186 W37 (bI c.2.1 f (.slice (some ⟨a4,a5,none⟩) (List.length c.2.1.2.2.2.1) b4))] w) (bn 1 o) 7 .here o o o o aa cV) λs=>zH 2 [1,2] s kr o o λs=>bl 3 (.one W62 (.slice (some ⟨a4,a5,none⟩) (List.length c.2.1.2.2.2.1) b4)) s o kr (cq (S:=λw=>bC [jP a4 a5 195 Y195 c.2.1.2.2.2.1,aV H 127 W63 (.pointer (some ⟨u,0,none⟩)),aV u 186 W37 (bI c.2.1 f (.slice (some ⟨a4,a5,none⟩) (List.length c.2.1.2.2.2.1) b4))] w) (bn 2 o) 0 f3 o o o o (ab (ab (ab (aq aa)))) tx5) λs=>bl 4 (ptr u 0) s o kr (cq (S:=λw=>bC [jP a4 a5 195 Y195 c.2.1.2.2.2.1,aV H 127 W63 (.pointer (some ⟨u,0,none⟩)),aV u 186 W37 (bI c.2.1 f (.slice (some ⟨a4,a5,none⟩) (List.length c.2.1.2.2.2.1) b4))] w) (bn 1 o) 7 .here o o o o aa cV) λs=>zH 2 [5,6] s kr o o λs=>bl 7 (.one W62 (.slice (some ⟨a4,a5,none⟩) (List.length c.2.1.2.2.2.1) b4)) s o kr (cq (S:=λw=>bC [jP a4 a5 195 Y195 c.2.1.2.2.2.1,aV H 127 W63 (.pointer (some ⟨u,0,none⟩)),aV u 186 W37 (bI c.2.1 f (.slice (some ⟨a4,a5,none⟩) (List.length c.2.1.2.2.2.1) b4))] w) (bn 2 o) 0 f3 o o o o (ab (ab (ab (aq aa)))) tx5) λs=>bl 8 (ti (List.length c.2.1.2.2.2.1:Int)) s o kr (bW (t:=Y195) ag 1 o o o) λs=>zH 1 [9] s kr o o λs=>bl 10 (ptr a4 (a5+(Int.toNat (wrap .i64 ((List.length c.2.1.2.2.2.1:Int) - 1)))*3)) s o kr (cx ag o o e0.1 e0.2 o dq) λs=>bl 11 (.one Y195 (List.getD c.2.1.2.2.2.1 (Int.toNat (wrap .i64 ((List.length c.2.1.2.2.2.1:Int) - 1))) (0,0,0,()))) s o kr (tG (S:=λw=>bC [jP a4 a5 195 Y195 c.2.1.2.2.2.1,aV H 127 W63 (.pointer (some ⟨u,0,none⟩)),aV u 186 W37 (bI c.2.1 f (.slice (some ⟨a4,a5,none⟩) (List.length c.2.1.2.2.2.1) b4))] w) (bn 0 o) 1 (Int.toNat (wrap .i64 ((List.length c.2.1.2.2.2.1:Int) - 1))) .here o o o (by omega) pof aa dq) λs=>az 12 kr o<|aC (t:=Y195) o pI o λc9=>za<|aR (ae (lG 2 o (by omega)) (ae (ak 8 o) (ae (ak 1 o) aj))) ?_
   refine ah [0,3,8,9,10,11,14,18,108] o<|az 13 kr o<|st 0 .here dq o o o o tr<|za<|aR (ae (lG 2 o (by omega)) (ae (ak 8 o) (ae (ak 1 o) aj))) ?_
   refine ah [0,3,8,9,10,11,14,18] o<|dF kr<|zt<|zs<|gE (S:=bC [aV H 127 W63 (.pointer (some ⟨u,0,none⟩)),aV c9 195 Y195 (List.getD c.2.1.2.2.2.1 (Int.toNat (wrap .i64 ((List.length c.2.1.2.2.2.1:Int) - 1))) (0,0,0,()))]) kr ?_
   refine zH 1 [0] (ae (ak 8 o) (ae (ak 0 o) aj)) kr o o λs=>bl 1 (ptr u 0) s o kr (cq (S:=λw=>bC [aV H 127 W63 (.pointer (some ⟨u,0,none⟩)),aV c9 195 Y195 (List.getD c.2.1.2.2.2.1 (Int.toNat (wrap .i64 ((List.length c.2.1.2.2.2.1:Int) - 1))) (0,0,0,()))] w) (bn 0 o) 8 .here o o o pof aa cV) λs=>zH 1 [2] s kr o o λs=>bl 3 (ti ((List.getD c.2.1.2.2.2.1 (Int.toNat (wrap .i64 ((List.length c.2.1.2.2.2.1:Int) - 1))) (0,0,0,())).1)) s o kr (cq (S:=λw=>bC [aV H 127 W63 (.pointer (some ⟨u,0,none⟩)),aV c9 195 Y195 (List.getD c.2.1.2.2.2.1 (Int.toNat (wrap .i64 ((List.length c.2.1.2.2.2.1:Int) - 1))) (0,0,0,()))] w) (bn 1 o) 0 f0 o o o pof (aq aa) ty3) λs=>zH 1 [5] s kr o o λs=>bl 6 (ti ((List.getD c.2.1.2.2.2.1 (Int.toNat (wrap .i64 ((List.length c.2.1.2.2.2.1:Int) - 1))) (0,0,0,())).2.1)) s o kr (cq (S:=λw=>bC [aV H 127 W63 (.pointer (some ⟨u,0,none⟩)),aV c9 195 Y195 (List.getD c.2.1.2.2.2.1 (Int.toNat (wrap .i64 ((List.length c.2.1.2.2.2.1:Int) - 1))) (0,0,0,()))] w) (bn 1 o) 0 f1 o o o pof (ab (aq aa)) ty3) λs=>az 4 kr o<|cB h λh6 f6 h=>DF hT dl [1] (aD _ _ _ c.2.1 ((List.getD c.2.1.2.2.2.1 (Int.toNat (wrap .i64 ((List.length c.2.1.2.2.2.1:Int) - 1))) (0,0,0,())).1) _ f6) kr o o o λ_=>?_
   refine za<|aR (ae (ak 8 o) (ae (ak 1 o) aj)) ?_
   refine ah [0,3,8,9,10,11,14,109,113,115] o<|az 7 kr o<|cB h λf7 f8 h=>rc [5] (ns _ _ _ _ _ f8) kr o o o λ_=>za<|aR (ae (ak 8 o) (ae (ak 2 o) aj)) ?_
   refine ah [0,3,8,9,10,11,14,116] o<|zH 1 [8] (ae (ak 8 o) (ae (ak 2 o) aj)) kr o o λs=>dF kr<|zt<|zW o<|rI h o (λhc h=>?_) λhc h=>?_
   ·refine zU 1 o<|st 12 .here cV o o o o tr<|bT (.slice none 0 0) o 9 .str ?_
    refine st 12 .here tx4 o o o o tr<|nL o<|st 10 .here fk o o o o tr<|zf<|zT<|ka ?_
    refine kD [15] o ?_
    refine kD [14] o ?_
    refine oN ?_
    refine eN (K:=(cd f)) (x:=((),[],0,[],0,false,())) (e:=1) (by decide) ?_
    refine pk [2,0,0,0,0,0,0,0,0,0,0,0,0,0,0] o ?_
    cases h
    exact aE (rs:=[.cell 8 127,.cell 9 128,.cell 10 31]) o (.cons (.cell 14 .here o o o aa cV) (.cons (.cell 13 .here o o o aa tx4) (.cons (.cell 11 .here o o o aa fk) (.nil)))) o (λ_ vs g=>by cases g with|cons W g=>cases g with|cons C g=>cases g with|cons N g=>cases g;exact⟨_,o,.cons (bf W) (.cons (bf C) (.cons N (.nil)))⟩) (λ_ vs g=>by cases g with|cons W g=>cases g with|cons C g=>cases g with|cons N g=>cases g;rw[bP W];rw[bP C];exact(.cons_cons _ (.cons_cons _ (.cons_cons _ (.cons _ (.cons _ (.cons _ (.cons _ (.cons _ (.cons _ (.cons _ (.cons _ (.cons _ (.cons _ (.cons _ (.cons _ .slnil))))))))))))))))
   exact zk<|zt<|pk [0,0,1,1,1,1,1,1,1,1,1,1,1,1] o<|ai f7.2 (.slice (some ⟨a4,a5,none⟩) (List.length c.2.1.2.2.2.1) b4) h o o
  exact zk<|zt<|pk [4,0,0,0,0,0,0,0,0,0,0,0,0,0] o<|ai J c0 h o o
 refine jK h (γ:=Value) (λd0 c1=>[(3,ti G),(8,ptr M 0),(9,ptr V 0),(10,ptr R 0),(11,ptr H 0),(14,ptr m 0)]) (λd0 c1=>[Res.disk PP dI f d0,Res.var u 186 W37 (bI c.2.1 f c1),Res.own c1 195 Y195 c.2.1.2.2.2.1,Res.var m 191 W45 (fB c.1 a8),Res.own a8 9 .str c.1.1,Res.var a7 4 .bool c.2.2,Res.var Z 3 (.int .i64) O.2,Res.var H 127 W63 (.pointer (some ⟨u,0,none⟩)),Res.var R 31 (.int .i64) 0,Res.own (.slice none 0 0) 9 .str [],Res.var V 128 W62 (.slice none 0 0),Res.var M 127 W63 (.pointer none),Res.dfr D0,Res.dfr D1]) (λf9 h=>?_) λd0 c1 h=>?_
 ·refine zu<|yl 7 .here cV o o o tr o<|zm 2 o<|yl 1 f3 tx5 o o o tr o<|y (bW ag 2 o o o) o ?_
  refine zA o<|zb<|ah [0,3,8,9,10,11,14,123,124,125] o<|bg (γ:=Value) (λ(b9:Int×aB) c2=>[(0,tp f),(3,ti G),(8,ptr M 0),(9,ptr V 0),(10,ptr R 0),(11,ptr H 0),(14,ptr m 0),(123,.one W62 c2),(124,ti (List.length c.2.1.2.2.2.1:Int)),(125,ti b9.1)]) (λ(b9:Int×aB) c2=>[Res.disk PP dI f b9.2,Res.var u 186 W37 (bI c.2.1 f c2),Res.own c2 195 Y195 c.2.1.2.2.2.1,Res.var m 191 W45 (fB c.1 a8),Res.own a8 9 .str c.1.1,Res.var a7 4 .bool c.2.2,Res.var Z 3 (.int .i64) O.2,Res.var H 127 W63 (.pointer (some ⟨u,0,none⟩)),Res.var R 31 (.int .i64) 0,Res.own (.slice none 0 0) 9 .str [],Res.var V 128 W62 (.slice none 0 0),Res.var M 127 W63 (.pointer none),Res.dfr D0,Res.dfr D1]) (oT c f9) (0,c8) c3 h o o ?_
  clear h
  intro e1 b9 c2 h
  cases e1 with
  |zero=>cases h
  |succ e1=>
  simp only[oT]at h
  refine zW o<|zs<|rI h o (λhc h=>?_) λhc h=>?_
  ·refine zk<|zt<|zs<|zb<|zu<|iE h λhc h=>ce 2 o (by omega) λg0 g1 g2 hv=>?_
   rw[hv]
   try clear hv
   refine y (cx ag o o hc.1 (by first|exact hc.2|simpa using hc.2) o dq) o ?_
   refine y (dE 2 (Int.toNat b9.1) .here o o (by omega) pof aa dq) o ?_
   refine aC (t:=Y195) o pI o λh7=>st 0 .here dq o o o o tr<|zZ 1 o<|yl 8 .here cV o o o tr o<|zm 1 o<|yl 0 f0 ty3 o o o tr o<|cB h λh8 g3 h=>DF hT dl [2] (aD _ _ _ c.2.1 ((List.getD c.2.1.2.2.2.1 (Int.toNat b9.1) (0,0,0,())).1) _ g3) kr o o o λ_=>?_
   refine cB h λg4 g5 h=>rc [2] (dD _ _ _ _ g5) kr o o o λ_=>zm 1 o<|zz<|zA o<|rI h o (λhc h=>?_) λhc h=>?_
   ·refine zU 1 o<|st 12 .here cV o o o o tr<|bT (.slice none 0 0) o 9 .str ?_
    refine st 12 .here tx4 o o o o tr<|nL o<|st 10 .here fk o o o o tr<|zf<|zB<|zT<|zT<|zB<|zT<|ka ?_
    refine kD [15] o ?_
    refine kD [14] o ?_
    refine oN ?_
    refine eN (K:=(cd f)) (x:=((),[],0,[],0,false,())) (e:=1) (by decide) ?_
    refine pk [2,0,0,0,0,0,0,0,0,0,0,0,0,0,0] o ?_
    cases h
    exact aE (rs:=[.cell 8 127,.cell 9 128,.cell 10 31]) o (.cons (.cell 14 .here o o o aa cV) (.cons (.cell 13 .here o o o aa tx4) (.cons (.cell 11 .here o o o aa fk) (.nil)))) o (λ_ vs g=>by cases g with|cons W g=>cases g with|cons C g=>cases g with|cons N g=>cases g;exact⟨_,o,.cons (bf W) (.cons (bf C) (.cons N (.nil)))⟩) (λ_ vs g=>by cases g with|cons W g=>cases g with|cons C g=>cases g with|cons N g=>cases g;rw[bP W];rw[bP C];exact(.cons_cons _ (.cons_cons _ (.cons_cons _ (.cons _ (.cons _ (.cons _ (.cons _ (.cons _ (.cons _ (.cons _ (.cons _ (.cons _ (.cons _ (.cons _ (.cons _ .slnil))))))))))))))))
   exact zk<|zi<|zt<|zr<|zA o<|pk [0,0,1,1,1,1,1,1,1,1,1,1,1,1] o<|aX ((wrap .i64 (b9.1+1)),g4.2) (.slice (some ⟨g0,g1,none⟩) (List.length c.2.1.2.2.2.1) g2) (Nat.lt_succ_self _) h o o
  exact zx<|ze<|ze<|zq<|zt<|ai b9.2 c2 h o o
 refine bv h (λd5=>[(8,ptr M 0),(9,ptr V 0),(10,ptr R 0),(11,ptr H 0),(14,ptr m 0)]) (λd5=>[Res.var m 191 (.pair W78 (.pair (.int .i64) (.pair .bool (.pair .bool .unit)))) d5,Res.disk PP dI f d0,Res.var u 186 W37 (bI c.2.1 f c1),Res.own c1 195 Y195 c.2.1.2.2.2.1,Res.var a7 4 .bool c.2.2,Res.var Z 3 (.int .i64) O.2,Res.var H 127 W63 (.pointer (some ⟨u,0,none⟩)),Res.var R 31 (.int .i64) 0,Res.own (.slice none 0 0) 9 .str [],Res.var V 128 W62 (.slice none 0 0),Res.var M 127 W63 (.pointer none),Res.dfr D0,Res.dfr D1]) (λh9 h=>?_) λd5 h=>?_
 ·refine zU 1 o<|yl 3 f2 ty4 o o o tr o<|za<|pk [4,3,0,0,0,0,0,0,0,0,0,0,0,0] o<|ep (t:= .str) f0 o o ?_
  refine rI h o (λhc h=>?_) λhc h=>?_
  ·refine zr<|zm 1 o<|yl 0 f0 xD o o o tr o<|zm 2 o<|yl 0 f1 ty2 o o o tr o<|zm 1 o<|iE h λhc h=>y (EM (i:=(wrap .i64 (G - c.1.2.1))) (j:=(List.length c.1.1:Int)) ag o o o hc.1 hc.2.1 hc.2.2 o ty9) o ?_
   exact zm 1 o<|st 0 f0 xD o o o o tr<|za<|ai (fB c.1 (List.drop (Int.toNat (wrap .i64 (G - c.1.2.1))) (List.take (Int.toNat (List.length c.1.1:Int)) c.1.1))) () h o o
  exact zk<|zt<|ai (c.1.1,c.1.2.1,c.1.2.2.1,c.1.2.2.2.1,c.1.2.2.2.2) () h o o
 refine zs<|dS kr<|zF 1 [1] kr o o ?_
 refine br (i:=0) (j:=2) kr o o ?_ ?_
 ·refine yl 6 .here cV o o o tr o<|zL [8,9,10,149,150] o<|af 2 kr o<|yl 0 f0 xD o o o tr o<|zL [8,9,10,149,151] o<|af 3 kr o<|cB h λe2 c4 h=>rc [] (gD _ _ c4) kr o o o λe3=>zL [8,9,10,149,152] o<|af 4 kr o<|st 11 .here cV o o o o tr<|zL [8,9,10,152] o<|af 5 kr o<|st 10 .here tx4 o o o o tr ?_
  refine nL o<|zL [8,9,10] o<|af 6 kr o<|st 8 .here fk o o o o tr<|zL [8,9,10] o<|aN kr<|zt<|zR<|ka ?_
  refine kD [13] o ?_
  refine kD [12] o ?_
  refine oN ?_
  refine pk [3,3,0,0,0,0,0,0,0,0,0,0] o<|bM (x:=c.2.1) (q:=f) ?_
  refine aw (R':=Res.clsif (cd f) (.pointer (some ⟨u,0,none⟩)) c.2.1 0) 0 o (cT o)<|nL o<|pk [3,0,0,0,0,0,0,0,0,0,0] o ?_
  cases h
  exact aE (rs:=[.cell 8 127,.cell 9 128,.cell 10 31]) o (.cons (.cell 10 .here o o o aa cV) (.cons (.cell 9 .here o o o aa tx4) (.cons (.cell 7 .here o o o aa fk) (.nil)))) o (λ_ vs g=>by cases g with|cons W g=>cases g with|cons C g=>cases g with|cons N g=>cases g;exact⟨_,o,.cons (bf W) (.cons (bf C) (.cons N (.nil)))⟩) (λ_ vs g=>by cases g with|cons W g=>cases g with|cons C g=>cases g with|cons N g=>cases g;rw[bP W];rw[bP C];exact(.cons_cons _ (.cons_cons _ (.cons_cons _ (.cons _ (.cons _ (.cons _ (.cons _ (.cons _ (.cons _ (.cons _ (.cons _ .slnil))))))))))))
 refine yl 0 f0 xD o o o tr o<|zL [8,9,10,11,151] o ?_
 refine br (i:=0) (j:=3) kr o o ?_ ?_
 ·refine yl 6 .here cV o o o tr o<|zL [8,9,10,149,151] o<|af 3 kr o<|cB h λe2 c4 h=>rc [] (gD _ _ c4) kr o o o λe3=>zL [8,9,10,149,152] o<|af 4 kr o<|st 11 .here cV o o o o tr<|zL [8,9,10,152] o<|af 5 kr o<|st 10 .here tx4 o o o o tr<|nL o<|zL [8,9,10] o<|af 6 kr o ?_
  refine st 8 .here fk o o o o tr<|zL [8,9,10] o<|aN kr<|zt<|zR<|ka ?_
  refine kD [13] o ?_
  refine kD [12] o ?_
  refine oN ?_
  refine pk [3,3,0,0,0,0,0,0,0,0,0,0] o<|bM (x:=c.2.1) (q:=f) ?_
  refine aw (R':=Res.clsif (cd f) (.pointer (some ⟨u,0,none⟩)) c.2.1 0) 0 o (cT o)<|nL o<|pk [3,0,0,0,0,0,0,0,0,0,0] o ?_
  cases h
  exact aE (rs:=[.cell 8 127,.cell 9 128,.cell 10 31]) o (.cons (.cell 10 .here o o o aa cV) (.cons (.cell 9 .here o o o aa tx4) (.cons (.cell 7 .here o o o aa fk) (.nil)))) o (λ_ vs g=>by cases g with|cons W g=>cases g with|cons C g=>cases g with|cons N g=>cases g;exact⟨_,o,.cons (bf W) (.cons (bf C) (.cons N (.nil)))⟩) (λ_ vs g=>by cases g with|cons W g=>cases g with|cons C g=>cases g with|cons N g=>cases g;rw[bP W];rw[bP C];exact(.cons_cons _ (.cons_cons _ (.cons_cons _ (.cons _ (.cons _ (.cons _ (.cons _ (.cons _ (.cons _ (.cons _ (.cons _ .slnil))))))))))))
 refine cB h λe2 c4 h=>rc [] (gD _ _ c4) kr o o o λe3=>zL [8,9,10,11,152] o<|af 0 kr o<|yl 7 .here cV o o o tr o<|zL [8,9,10,149,152] o<|af 4 kr o<|st 11 .here cV o o o o tr<|zL [8,9,10,152] o<|af 5 kr o<|st 10 .here tx4 o o o o tr<|nL o<|zL [8,9,10] o<|af 6 kr o ?_
 refine st 8 .here fk o o o o tr<|zL [8,9,10] o<|aN kr<|zt<|zR<|ka ?_
 refine kD [13] o ?_
 refine kD [12] o ?_
 refine oN ?_
 refine pk [3,3,0,0,0,0,0,0,0,0,0,0] o<|bM (x:=c.2.1) (q:=f) ?_
 refine aw (R':=Res.clsif (cd f) (.pointer (some ⟨u,0,none⟩)) c.2.1 0) 0 o (cT o)<|nL o<|pk [3,0,0,0,0,0,0,0,0,0,0] o ?_
 cases h
 exact aE (rs:=[.cell 8 127,.cell 9 128,.cell 10 31]) o (.cons (.cell 10 .here o o o aa cV) (.cons (.cell 9 .here o o o aa tx4) (.cons (.cell 7 .here o o o aa fk) (.nil)))) o (λ_ vs g=>by cases g with|cons W g=>cases g with|cons C g=>cases g with|cons N g=>cases g;exact⟨_,o,.cons (bf W) (.cons (bf C) (.cons N (.nil)))⟩) (λ_ vs g=>by cases g with|cons W g=>cases g with|cons C g=>cases g with|cons N g=>cases g;rw[bP W];rw[bP C];exact(.cons_cons _ (.cons_cons _ (.cons_cons _ (.cons _ (.cons _ (.cons _ (.cons _ (.cons _ (.cons _ (.cons _ (.cons _ .slnil))))))))))))
theorem pu(R u r)(h:l0 R u=some r):Fn PP 166 [ts R,ti u] [] (λv=> .tup [⟨.raw (.slice none 0 0),au v 0⟩,⟨.str,r.2.1⟩,⟨.bool,r.2.2⟩]) (λv=>[Res.own (au v 0) 52 Y52 r.1]):=by
 unfold l0 at h
 refine enter Tryz.func166 o 32 o o λF=>?_
 refine zU 3 o<|zz<|q 1 [(0,ts R),(1,ti u),(7,.one W62 (.slice none 0 0))] [] o<|bT (.slice none 0 0) o 52 Y52 ?_
 refine za<|jK h (γ:=Value) (λW g5=>[(0,ts W.1),(7,.one W62 g5)]) (λW g5=>[Res.own g5 52 Y52 W.2]) (λN h=>?_) λW g5 h=>?_
 ·refine zW o<|zb<|ah [0,7,11,12] o<|bg (γ:=Value) (λ(c:List Int×Int×(List Z51)) g10=>[(0,ts c.1),(7,.one W62 g10),(11,ti u),(12,ti c.2.1)]) (λ(c:List Int×Int×(List Z51)) g10=>[Res.own g10 52 Y52 c.2.2]) (jU u N) (R,0,[]) (.slice none 0 0) h o o ?_
  clear h
  intro H c g10 h
  cases H with
  |zero=>cases h
  |succ H=>
  simp only[jU]at h
  refine zW o<|zs<|rI h o (λhc h=>?_) λhc h=>?_
  ·refine zk<|zt<|zs<|zb<|zU 1 o<|cB h λC J h=>ar (rH _ _ J) kr o o<|zm 4 o<|aC (t:=Y52) o ja o λm=>st 0 .here bB o o o o tr<|zA o<|zs<|zW o<|rI h o (λhc h=>?_) λhc h=>?_
   ·refine zU 3 o<|zf<|zT<|zB<|zT<|zT<|zB<|zT<|bT (.slice none 0 0) o 52 Y52 ?_
    cases h
    exact aE (rs:=[.tmp 4,.tmp 5,.tmp 6]) o (.cons (.tmp o) (.cons (.tmp o) (.cons (.tmp o) (.nil)))) o (λ_ vs g=>by cases g with|cons f g=>cases g with|cons M g=>cases g with|cons V g=>cases g;exact⟨_,o,.cons (bf f) (.cons M (.cons V (.nil)))⟩) (λ_ vs g=>by cases g with|cons f g=>cases g with|cons M g=>cases g with|cons V g=>cases g;rw[bP f];exact(.cons_cons _ (.cons _ (.cons _ .slnil))))
   refine zy<|zm 1 o<|yl 0 .here bB o o o tr o<|bu (B:=72) ag o iq o o o (.cons o .nil) o λO=>?_
   refine iE h λhc h=>bd (B:=72) ag 2 o o (bL 0 o o) o iq o o hc o λG=>?_
   refine pk [1,1] o<|zA o<|zr<|zm 2 o<|iE h λhc h=>y (jB (i:=C.2.1) (j:=(List.length c.1:Int)) ag o o o hc.1 hc.2.1 hc.2.2 o) o ?_
   refine q 1 [(0,ts (List.drop (Int.toNat C.2.1) (List.take (Int.toNat (List.length c.1:Int)) c.1))),(7,.one W62 G),(11,ti u),(12,ti c.2.1)] [] o ?_
   obtain⟨d,e,h⟩:=al h;rw[e]
   exact zn<|zi<|zt<|zr<|zA o<|pk [1] o<|aX (d,(wrap .i64 (c.2.1+1)),(c.2.2++[C.1])) G (Nat.lt_succ_self _) h o o
  exact zx<|ze<|ze<|zq<|zt<|ai (c.1,c.2.2) g10 h o o
 refine zU 5 o<|zf ?_
 cases h
 exact aE (rs:=[.tmp 4,.tmp 5,.tmp 6]) o (.cons (.tmp o) (.cons (.tmp o) (.cons (.tmp o) (.nil)))) o (λ_ vs g=>by cases g with|cons f g=>cases g with|cons M g=>cases g with|cons V g=>cases g;exact⟨_,o,.cons (bf f) (.cons M (.cons V (.nil)))⟩) (λ_ vs g=>by cases g with|cons f g=>cases g with|cons M g=>cases g with|cons V g=>cases g;rw[bP f];exact(.cons_cons _ .slnil))
theorem y9(c r)(h:pd c=some r):bm PP 170 [.one Y54 c] (.one Y212 r):=by
 unfold pd at h
 refine enter Tryz.func170 o 51 o o λF=>?_
 refine zu<|bA o o λf=>y (oq (U:=Y212) (.next (.next (.next (.next (.next (.next .here)))))) o) o ?_
 refine za<|zs<|zU 1 o<|yl 0 f0 ty3 o o o tr o<|za<|zb<|zW o<|rI h o (λhc h=>?_) λhc h=>?_
 ·refine zU 1 o<|yl 0 f1 bB o o o tr o<|y (aY o Hb o o (.cons f0 o o aa .nil)) o ?_
  refine y (rt (U:=Y212) (t:=W72) .here o kr) o ?_
  refine q 1 [(2,.one Y212 ((.inl (c.2.1,())):fw⊕(ft⊕(ff⊕(fu⊕((Int×Unit)⊕((Int×Unit)⊕(Value))))))))] [] o ?_
  obtain⟨u,e,h⟩:=al h;rw[e]
  refine zf<|zB<|zT ?_
  cases h
  exact ax o (.tmp o)
 refine zW o<|rI h o (λhc h=>?_) λhc h=>?_
 ·refine zU 1 o<|yl 0 f3 ty2 o o o tr o<|zm 1 o<|yl 0 f4 fj o o o tr o<|y (aY o Hc o o (.cons f0 o o aa (.cons f1 o o aa .nil))) o ?_
  refine y (rt (U:=Y212) (t:=W58) (.next .here) o kr) o ?_
  refine q 1 [(2,.one Y212 ((.inr (.inl (c.2.2.2.1,c.2.2.2.2.1,()))):fw⊕(ft⊕(ff⊕(fu⊕((Int×Unit)⊕((Int×Unit)⊕(Value))))))))] [] o ?_
  obtain⟨M,e,h⟩:=al h;rw[e]
  refine zf<|zB<|zT ?_
  cases h
  exact ax o (.tmp o)
 refine zW o<|rI h o (λhc h=>?_) λhc h=>?_
 ·refine zU 1 o<|yl 0 f3 ty2 o o o tr o<|zm 1 o<|yl 0 f2 iY o o o tr o<|zm 1 o<|yl 0 f5 bH o o o tr o<|y (aY o Hd o o (.cons f0 o o aa (.cons f1 o o aa (.cons f2 o o aa .nil)))) o ?_
  refine y (rt (U:=Y212) (t:=Y280) (.next (.next .here)) o kr) o ?_
  refine q 1 [(2,.one Y212 ((.inr (.inr (.inl (c.2.2.2.1,c.2.2.1,c.2.2.2.2.2.1,())))):fw⊕(ft⊕(ff⊕(fu⊕((Int×Unit)⊕((Int×Unit)⊕(Value))))))))] [] o ?_
  obtain⟨V,e,h⟩:=al h;rw[e]
  refine zf<|zB<|zT ?_
  cases h
  exact ax o (.tmp o)
 refine zW o<|rI h o (λhc h=>?_) λhc h=>?_
 ·refine zU 1 o<|yl 0 f3 ty2 o o o tr o<|zm 1 o<|yl 0 f6 bH o o o tr o<|zm 1 o<|yl 0 f7 bH o o o tr o<|y (aY o He o o (.cons f0 o o aa (.cons f1 o o aa (.cons f2 o o aa .nil)))) o ?_
  refine y (rt (U:=Y212) (t:=Y282) (.next (.next (.next .here))) o kr) o ?_
  refine q 1 [(2,.one Y212 ((.inr (.inr (.inr (.inl (c.2.2.2.1,c.2.2.2.2.2.2.1,c.2.2.2.2.2.2.2.1,()))))):fw⊕(ft⊕(ff⊕(fu⊕((Int×Unit)⊕((Int×Unit)⊕(Value))))))))] [] o ?_
  obtain⟨R,e,h⟩:=al h;rw[e]
  refine zf<|zB<|zT ?_
  cases h
  exact ax o (.tmp o)
 refine zW o<|rI h o (λhc h=>?_) λhc h=>?_
 ·refine zU 1 o<|yl 0 f8 ty3 o o o tr o<|y (aY o Hf o o (.cons f0 o o aa .nil)) o ?_
  refine y (rt (U:=Y212) (t:=W61) (.next (.next (.next (.next .here)))) o kr) o ?_
  refine q 1 [(2,.one Y212 ((.inr (.inr (.inr (.inr (.inl (c.2.2.2.2.2.2.2.2.1,())))))):fw⊕(ft⊕(ff⊕(fu⊕((Int×Unit)⊕((Int×Unit)⊕(Value))))))))] [] o ?_
  obtain⟨W,e,h⟩:=al h;rw[e]
  refine zf<|zB<|zT ?_
  cases h
  exact ax o (.tmp o)
 refine zW o<|rI h o (λhc h=>?_) λhc h=>?_
 ·refine zU 1 o<|yl 0 f3 ty2 o o o tr o<|y (aY o Hg o o (.cons f0 o o aa .nil)) o ?_
  refine y (rt (U:=Y212) (t:=W61) (.next (.next (.next (.next (.next .here))))) o kr) o ?_
  refine q 1 [(2,.one Y212 ((.inr (.inr (.inr (.inr (.inr (.inl (c.2.2.2.1,()))))))):fw⊕(ft⊕(ff⊕(fu⊕((Int×Unit)⊕((Int×Unit)⊕(Value))))))))] [] o ?_
  obtain⟨C,e,h⟩:=al h;rw[e]
  refine zf<|zB<|zT ?_
  cases h
  exact ax o (.tmp o)
 refine zk<|zi<|zt<|zu<|y (oq (U:=Y212) (.next (.next (.next (.next (.next (.next .here)))))) o) o ?_
 refine zf ?_
 cases h
 exact ax o (.tmp o)
theorem lx(c u r)(h:cR c u=some r):bm PP 189 [.one W76 c,.one W76 u] (tb r):=by
 unfold cR at h
 refine enter Tryz.func189 o 26 o o λF=>?_
 refine zW o<|zs<|zW o<|rI h o (λhc h=>zU 1 o<|zf<|zT<|by cases h;exact ax o (.tmp o)) λhc h=>zk<|zt<|bv h (λM=>[]) (λM=>[]) (λR h=>?_) λM h=>?_
 ·refine zW o<|zb<|ah [0,1,12,13] o<|bg (γ:=Unit) (λ(f:Int) _=>[(0,.one W76 c),(1,.one W76 u),(12,ti (List.length c:Int)),(13,ti f)]) (λ(f:Int) _=>[]) (bV c u R) 0 () h o o ?_
  clear h
  intro V f gg h
  cases V with
  |zero=>cases h
  |succ V=>
  simp only[bV]at h
  refine zW o<|zs<|rI h o (λhc h=>?_) λhc h=>?_
  ·refine zk<|zt<|zs<|zb<|zW o<|zs<|eL kr kr ?_
   refine ay ag 2 [0,1,5,12,13,16,17] (E':=[(0,.one W76 c),(1,.one W76 u),(5,ti f),(12,ti (List.length c:Int)),(13,ti f),(16,.one W76 c),(17,ti f)]) o ?_
   refine iE h λhc h=>q_y (eZ ag o o hc.1 hc.2 o bB) o ?_
   refine q_y (fP o bB) o ?_
   refine ay ag 2 [0,1,12,13,19,20,21] (E':=[(0,.one W76 c),(1,.one W76 u),(12,ti (List.length c:Int)),(13,ti f),(19,.one Y52 (List.getD c (Int.toNat f) (0,0,0,z32,[],()))),(20,.one W76 u),(21,ti f)]) o ?_
   refine iE h λhc h=>q_y (eZ ag o o hc.1 hc.2 o bB) o ?_
   refine q_y (fP o bB) o ?_
   refine q_y (oH 20 o o o o bB o Ea Eb) o ?_
   refine fa ?_
   exact zt<|rI h o (λhc h=>zU 1 o<|zf<|zB<|zT<|zT<|zB<|zT<|by cases h;exact ax o (.tmp o)) λhc h=>zk<|zi<|zt<|zr<|zA o<|aX (wrap .i64 (f+1)) () (Nat.lt_succ_self _) h o o
  exact zx<|ze<|ze<|zq<|zt<|ai () () h o o
 refine zU 1 o<|zf ?_
 cases h
 exact ax o (.tmp o)
theorem rN(c f r)(h:mE c f=some r):bm PP 171 [.one Y54 c,.one Y54 f] (tb r):=by
 unfold mE at h
 refine enter Tryz.func171 o 66 o o λF=>?_
 refine zu<|bA o o λu=>bA o o λM=>zm 1 o<|zZ 1 o<|yl 1 f0 ty3 o o o tr o<|zm 1 o<|yl 0 f0 ty3 o o o tr o<|q 2 [(2,ptr u 0),(3,ptr M 0),(10,tb (c.1==f.1))] [] o ?_
 obtain⟨R,e,h⟩:=al h;rw[e]
 refine aM 6 [(2,ptr u 0),(3,ptr M 0),(16,tb (R&&(eqD (.pair (.int .i64) (.pair (.int .i64) (.pair (.int .i64) (.pair W66 (.pair .str .unit))))) c.2.1 f.2.1)))] [Res.var M 54 Y54 f,Res.var u 54 Y54 c] (?_) ?_
 ·clear h
  cases R
  ·exact zA o<|ap () o o
  refine zm 1 o<|am dl o ?_
  refine yl 1 f1 bB o o o tr o<|zm 1 o<|am dl o ?_
  refine yl 0 f1 bB o o o tr o<|am dl o ?_
  refine y (ub 20 o o o o bB o Ea Eb) o ?_
  exact zA o<|ap () o o
 refine q 1 [(2,ptr u 0),(3,ptr M 0),(17,tb (R&&(eqD (.pair (.int .i64) (.pair (.int .i64) (.pair (.int .i64) (.pair W66 (.pair .str .unit))))) c.2.1 f.2.1)))] [] o ?_
 obtain⟨J,e,h⟩:=al h;rw[e]
 refine bQ h 6 (λV=>[(2,ptr u 0),(3,ptr M 0),(23,tb V)]) (λ_=>[Res.var M 54 Y54 f,Res.var u 54 Y54 c]) (λO h=>?_) λV h=>?_
 ·cases J
  ·replace h:=ifF h
   exact zN o<|zt<|ai false () h o o
  replace h:=ifT h
  refine zm 1 o<|am dl o ?_
  refine yl 1 f2 iY o o o tr o<|zm 1 o<|am dl o ?_
  refine yl 0 f2 iY o o o tr o<|am dl o ?_
  exact cB h λd m h=>ar (lx _ _ _ m) kr o o<|zN o<|zt<|ai d () h o o
 refine q 1 [(2,ptr u 0),(3,ptr M 0),(24,tb V)] [] o<|aM 6 [(2,ptr u 0),(3,ptr M 0),(30,tb (V&&(c.2.2.2.1==f.2.2.2.1)))] [Res.var M 54 Y54 f,Res.var u 54 Y54 c] (?_) ?_
 ·clear h
  cases V
  ·exact zA o<|ap () o o
  refine zm 1 o<|am dl o ?_
  refine yl 1 f3 ty2 o o o tr o<|zm 1 o<|am dl o ?_
  exact yl 0 f3 ty2 o o o tr o<|zA o<|ap () o o
 refine q 1 [(2,ptr u 0),(3,ptr M 0),(31,tb (V&&(c.2.2.2.1==f.2.2.2.1)))] [] o ?_
 obtain⟨W,e,h⟩:=al h;rw[e]
 refine aM 6 [(2,ptr u 0),(3,ptr M 0),(37,tb (W&&(eqD W55 c.2.2.2.2.1 f.2.2.2.2.1)))] [Res.var M 54 Y54 f,Res.var u 54 Y54 c] (?_) ?_
 ·clear h
  cases W
  ·exact zA o<|ap () o o
  refine zm 1 o<|am dl o ?_
  refine yl 1 f4 fj o o o tr o<|zm 1 o<|am dl o ?_
  refine yl 0 f4 fj o o o tr o<|am dl o ?_
  refine y (ub 20 o o o o fj o BI BJ) o ?_
  exact zA o<|ap () o o
 refine q 1 [(2,ptr u 0),(3,ptr M 0),(38,tb (W&&(eqD W55 c.2.2.2.2.1 f.2.2.2.2.1)))] [] o ?_
 obtain⟨C,e,h⟩:=al h;rw[e]
 refine aM 6 [(2,ptr u 0),(3,ptr M 0),(44,tb (C&&(eqD W66 c.2.2.2.2.2.1 f.2.2.2.2.2.1)))] [Res.var M 54 Y54 f,Res.var u 54 Y54 c] (?_) ?_
 ·clear h
  cases C
  ·exact zA o<|ap () o o
  refine zm 1 o<|am dl o ?_
  refine yl 1 f5 bH o o o tr o<|zm 1 o<|am dl o ?_
  refine yl 0 f5 bH o o o tr o<|am dl o ?_
  refine y (ub 20 o o o o bH o vl vm) o ?_
  exact zA o<|ap () o o
 refine q 1 [(2,ptr u 0),(3,ptr M 0),(45,tb (C&&(eqD W66 c.2.2.2.2.2.1 f.2.2.2.2.2.1)))] [] o ?_
 obtain⟨H,e,h⟩:=al h;rw[e]
 refine aM 6 [(2,ptr u 0),(3,ptr M 0),(51,tb (H&&(eqD W66 c.2.2.2.2.2.2.1 f.2.2.2.2.2.2.1)))] [Res.var M 54 Y54 f,Res.var u 54 Y54 c] (?_) ?_
 ·clear h
  cases H
  ·exact zA o<|ap () o o
  refine zm 1 o<|am dl o ?_
  refine yl 1 f6 bH o o o tr o<|zm 1 o<|am dl o ?_
  refine yl 0 f6 bH o o o tr o<|am dl o ?_
  refine y (ub 20 o o o o bH o vl vm) o ?_
  exact zA o<|ap () o o
 refine q 1 [(2,ptr u 0),(3,ptr M 0),(52,tb (H&&(eqD W66 c.2.2.2.2.2.2.1 f.2.2.2.2.2.2.1)))] [] o ?_
 obtain⟨G,e,h⟩:=al h;rw[e]
 refine aM 6 [(2,ptr u 0),(3,ptr M 0),(58,tb (G&&(eqD W66 c.2.2.2.2.2.2.2.1 f.2.2.2.2.2.2.2.1)))] [Res.var M 54 Y54 f,Res.var u 54 Y54 c] (?_) ?_
 ·clear h
  cases G
  ·exact zA o<|ap () o o
  refine zm 1 o<|am dl o ?_
  refine yl 1 f7 bH o o o tr o<|zm 1 o<|am dl o ?_
  refine yl 0 f7 bH o o o tr o<|am dl o ?_
  refine y (ub 20 o o o o bH o vl vm) o ?_
  exact zA o<|ap () o o
 refine q 1 [(2,ptr u 0),(3,ptr M 0),(59,tb (G&&(eqD W66 c.2.2.2.2.2.2.2.1 f.2.2.2.2.2.2.2.1)))] [] o ?_
 obtain⟨N,e,h⟩:=al h;rw[e]
 refine aM 6 [(65,tb (N&&(c.2.2.2.2.2.2.2.2.1==f.2.2.2.2.2.2.2.2.1)))] [Res.var M 54 Y54 f,Res.var u 54 Y54 c] (?_) ?_
 ·clear h
  cases N
  ·exact zA o<|ap () o o
  refine zm 1 o<|am dl o ?_
  refine yl 1 f8 ty3 o o o tr o<|zm 1 o<|am dl o ?_
  exact yl 0 f8 ty3 o o o tr o<|zA o<|ap () o o
 refine zE o ?_
 cases h
 exact ax o (.tmp o)
theorem jd(x:fw⊕(ft⊕(ff⊕(fu⊕((Int×Unit)⊕((Int×Unit)⊕(Value))))))):tI Y212 x=cD x:=by rcases x with x|x|x|x|x|x|x<;>rfl
theorem sU(c r)(h:mm c=some r):bm PP 260 [.one W72 c] (tb r):=by
 unfold mm at h
 refine enter Tryz.func260 o 6 o o λF=>?_
 refine zu<|bA o o λu=>zm 1 o<|zZ 1 o<|yl 0 f0 bB o o o tr o<|cB h λM f h=>ar (iy _ _ f) kr o o<|zE o ?_
 cases h
 exact ax o (.tmp o)
theorem jX(c r)(h:gb c=some r):bm PP 278 [ti c] (tb r):=by
 unfold gb at h
 refine enter Tryz.func278 o 9 o o λF=>?_
 refine zU 1 o<|zz<|q 3 [(0,ti c),(5,tb (decide (c≥0)))] [] o ?_
 obtain⟨f,e,h⟩:=al h;rw[e]
 refine aM 3 [(8,tb (f&&(decide (c≤281474976710655))))] [] (?_) ?_
 ·clear h
  cases f
  ·exact zA o<|ap () o o
  exact zA o<|ap () o o
 refine zE o ?_
 cases h
 exact ax o (.tmp o)
theorem pw(c r)(h:jk c=some r):bm PP 279 [ti c] (tb r):=by
 unfold jk at h
 refine enter Tryz.func279 o 9 o o λF=>?_
 refine zU 1 o<|zz<|q 3 [(0,ti c),(5,tb (decide (c≥0)))] [] o ?_
 obtain⟨f,e,h⟩:=al h;rw[e]
 refine aM 3 [(8,tb (f&&(decide (c≤2048))))] [] (?_) ?_
 ·clear h
  cases f
  ·exact zA o<|ap () o o
  exact zA o<|ap () o o
 refine zE o ?_
 cases h
 exact ax o (.tmp o)
theorem qU(f r)(h:gK f=some r):bm PP 276 [.one W58 f] (tb r):=by
 unfold gK at h
 refine enter Tryz.func276 o 18 o o λF=>?_
 refine zu<|bA o o λc=>zm 1 o<|zZ 1 o<|yl 0 f0 ty2 o o o tr o<|cB h λM R h=>ar (jX _ _ R) kr o o<|q 1 [(1,ptr c 0),(6,tb M)] [] o<|bQ h 5 (λu=>[(1,ptr c 0),(11,tb u)]) (λ_=>[Res.var c 278 W58 f]) (λN h=>?_) λu h=>?_
 ·cases M
  ·replace h:=ifF h
   exact zN o<|zt<|ai false () h o o
  replace h:=ifT h
  refine zm 2 o<|am dl o ?_
  refine yl 0 ((.snd (.fst f0))) ty3 o o o tr o<|am dl o ?_
  exact cB h λW C h=>ar (pw _ _ C) kr o o<|zN o<|zt<|ai W () h o o
 refine q 1 [(1,ptr c 0),(12,tb u)] [] o<|bQ h 5 (λV=>[(17,tb V)]) (λ_=>[Res.var c 278 W58 f]) (λJ h=>?_) λV h=>?_
 ·cases u
  ·replace h:=ifF h
   exact zN o<|zt<|ai false () h o o
  replace h:=ifT h
  refine zm 2 o<|am dl o ?_
  refine yl 0 ((.snd (.fst f1))) ty3 o o o tr o<|am dl o ?_
  exact cB h λH G h=>ar (pw _ _ G) kr o o<|zN o<|zt<|ai H () h o o
 refine zE o ?_
 cases h
 exact ax o (.tmp o)
theorem qV(c r)(h:jw c=some r):bm PP 284 [.one Y52 c] (tb r):=by
 unfold jw at h
 refine enter Tryz.func284 o 6 o o λF=>?_
 refine zu<|bA o o λu=>zm 1 o<|zz<|yl 0 .here bB o o o tr o<|cB h λM f h=>ar (iy _ _ f) kr o o<|zE o ?_
 cases h
 exact ax o (.tmp o)
theorem jl(c r)(h:cG c=some r):bm PP 179 [.one W76 c,.one (.raw (fnv 284)) (fnv 284)] (ti r):=by
 unfold cG at h
 refine enter Tryz.func179 o 19 o o λF=>?_
 refine zu<|q 1 [(0,.one W76 c),(1,.one (.raw (fnv 284)) (fnv 284))] [] o<|za<|bv h (λu=>[]) (λu=>[]) (λV h=>?_) λu h=>?_
 ·refine zW o<|zb<|ah [0,1,7,8] o<|bg (γ:=Unit) (λ(f:Int) _=>[(0,.one W76 c),(1,.one (.raw (fnv 284)) (fnv 284)),(7,ti (List.length c:Int)),(8,ti f)]) (λ(f:Int) _=>[]) (bj c V) 0 () h o o ?_
  clear h
  intro M f gg h
  cases M with
  |zero=>cases h
  |succ M=>
  simp only[bj]at h
  refine zW o<|zs<|rI h o (λhc h=>?_) λhc h=>?_
  ·refine zk<|zt<|zs<|zb<|zU 2 o<|zZ 3 o<|iE h λhc h=>y (eZ ag o o hc.1 hc.2 o bB) o ?_
   refine y (fP o bB) o ?_
   refine mz o ?_
   exact cB h λW R h=>ar (qV _ _ R) kr o o<|za<|rI h o (λhc h=>zU 2 o<|zf<|zB<|zT<|zT<|zB<|zT<|by cases h;exact ax o (.tmp o)) λhc h=>zk<|zi<|zt<|zr<|zA o<|aX (wrap .i64 (f+1)) () (Nat.lt_succ_self _) h o o
  exact zx<|ze<|ze<|zq<|zt<|ai () () h o o
 refine zU 1 o<|zf ?_
 cases h
 exact ax o (.tmp o)
theorem iD(c r)(h:bZ c=some r):bm PP 137 [.one W76 c,.one (.raw (fnv 284)) (fnv 284)] (tb r):=by
 unfold bZ at h
 refine enter Tryz.func137 o 9 o o λF=>?_
 refine zU 1 o<|zZ 2 o<|cB h λu f h=>ar (jl _ _ f) kr o o<|zE o ?_
 cases h
 exact ax o (.tmp o)
theorem sV(c r)(h:iH c=some r):bm PP 282 [.one Y280 c] (tb r):=by
 unfold iH at h
 refine enter Tryz.func282 o 18 o o λF=>?_
 refine zu<|bA o o λf=>zm 1 o<|zZ 1 o<|yl 0 f0 ty2 o o o tr o<|cB h λu V h=>ar (jX _ _ V) kr o o<|q 1 [(1,ptr f 0),(6,tb u)] [] o<|aM 5 [(1,ptr f 0),(11,tb (u&&(decide ((List.length c.2.1:Int)≤512))))] [Res.var f 280 Y280 c] (?_) ?_
 ·clear h
  cases u
  ·exact zA o<|ap () o o
  refine zm 1 o<|am dl o ?_
  exact yl 0 f1 iY o o o tr o<|zA o<|ap () o o
 refine q 1 [(1,ptr f 0),(12,tb (u&&(decide ((List.length c.2.1:Int)≤512))))] [] o ?_
 obtain⟨R,e,h⟩:=al h;rw[e]
 refine bQ h 5 (λM=>[(17,tb M)]) (λ_=>[Res.var f 280 Y280 c]) (λH h=>?_) λM h=>?_
 ·cases R
  ·replace h:=ifF h
   exact zN o<|zt<|ai false () h o o
  replace h:=ifT h
  refine zm 1 o<|am dl o ?_
  refine yl 0 f1 iY o o o tr o<|am dl o ?_
  exact cB h λW C h=>ar (iD _ _ C) kr o o<|zN o<|zt<|ai (!W) () h o o
 refine zE o ?_
 cases h
 exact ax o (.tmp o)
theorem qj(c r)(h:kE c=some r):bm PP 287 [.one Y282 c] (tb r):=by
 unfold kE at h
 refine enter Tryz.func287 o 6 o o λF=>?_
 refine zu<|bA o o λu=>zm 1 o<|zZ 1 o<|yl 0 f0 ty2 o o o tr o<|cB h λM f h=>ar (jX _ _ f) kr o o<|zE o ?_
 cases h
 exact ax o (.tmp o)
theorem qW(c r)(h:gL c=some r):bm PP 298 [.one W61 c] (tb r):=by
 unfold gL at h
 refine enter Tryz.func298 o 11 o o λF=>?_
 refine zu<|bA o o λf=>zm 1 o<|zZ 1 o<|yl 0 f0 ty3 o o o tr o<|q 2 [(1,ptr f 0),(6,tb (decide (c.1≥1)))] [] o ?_
 obtain⟨u,e,h⟩:=al h;rw[e]
 refine aM 4 [(10,tb (u&&(decide (c.1≤65535))))] [Res.var f 284 W61 c] (?_) ?_
 ·clear h
  cases u
  ·exact zA o<|ap () o o
  refine zm 1 o<|am dl o ?_
  exact yl 0 f0 ty3 o o o tr o<|zA o<|ap () o o
 refine zE o ?_
 cases h
 exact ax o (.tmp o)
theorem qX(c r)(h:lh c=some r):bm PP 302 [.one W61 c] (tb r):=by
 unfold lh at h
 refine enter Tryz.func302 o 6 o o λF=>?_
 refine zu<|bA o o λu=>zm 1 o<|zZ 1 o<|yl 0 f0 ty2 o o o tr o<|cB h λM f h=>ar (jX _ _ f) kr o o<|zE o ?_
 cases h
 exact ax o (.tmp o)
theorem qY(c r)(h:li c=some r):Inv PP "escrow/record.valid" [.one Y212 c] [] (fun _=> .one .bool r) (fun _=>[]):=match c,h with
 | .inl z,h=>(du (k:=260) kr (sU z r h))
 | .inr (.inl z),h=>(bw o (du (k:=276) kr (qU z r h)))
 | .inr (.inr (.inl z)),h=>(bw o (bw o (du (k:=282) kr (sV z r h))))
 | .inr (.inr (.inr (.inl z))),h=>(bw o (bw o (bw o (du (k:=287) kr (qj z r h)))))
 | .inr (.inr (.inr (.inr (.inl z)))),h=>(bw o (bw o (bw o (bw o (du (k:=298) kr (qW z r h))))))
 | .inr (.inr (.inr (.inr (.inr (.inl z))))),h=>(bw o (bw o (bw o (bw o (bw o (du (k:=302) kr (qX z r h)))))))
 | .inr (.inr (.inr (.inr (.inr (.inr (_)))))),h=>by cases h
theorem rO(c r)(h:lM c=some r):bm PP 259 [.one W72 c] (.one Y54 r):=by
 unfold lM at h
 refine enter Tryz.func259 o 6 o o λF=>?_
 refine zu<|bA o o λf=>aC (t:=Y54) o kq o λu=>zZ 1 o<|yl 1 f0 bB o o o tr o<|y (aY o kq o o (.cons f0 o o aa (.cons f1 o o aa .nil))) o ?_
 refine st 0 .here eX o o o o tr<|zf ?_
 cases h
 exact aS o (.cell 0 .here o o o aa eX) (λ_ _ g=>g) (λ_ _ _=>List.nil_sublist _)
theorem qk(c r)(h:kF c=some r):bm PP 275 [.one W58 c] (.one Y54 r):=by
 unfold kF at h
 refine enter Tryz.func275 o 8 o o λF=>?_
 refine zu<|bA o o λf=>aC (t:=Y54) o kq o λu=>zZ 1 o<|yl 1 f0 ty2 o o o tr o<|zm 1 o<|yl 1 f1 fj o o o tr o<|y (aY o kq o o (.cons f0 o o aa (.cons f3 o o aa (.cons f4 o o aa .nil)))) o ?_
 refine st 0 .here eX o o o o tr<|zf ?_
 cases h
 exact aS o (.cell 0 .here o o o aa eX) (λ_ _ g=>g) (λ_ _ _=>List.nil_sublist _)
theorem rP(c r)(h:lN c=some r):bm PP 281 [.one Y280 c] (.one Y54 r):=by
 unfold lN at h
 refine enter Tryz.func281 o 10 o o λF=>?_
 refine zu<|bA o o λf=>aC (t:=Y54) o kq o λu=>zZ 1 o<|yl 1 f0 ty2 o o o tr o<|zm 1 o<|yl 1 f1 iY o o o tr o<|zm 1 o<|yl 1 f2 bH o o o tr o<|y (aY o kq o o (.cons f0 o o aa (.cons f3 o o aa (.cons f2 o o aa (.cons f5 o o aa .nil))))) o ?_
 refine st 0 .here eX o o o o tr<|zf ?_
 cases h
 exact aS o (.cell 0 .here o o o aa eX) (λ_ _ g=>g) (λ_ _ _=>List.nil_sublist _)
theorem qg(c r)(h:kk c=some r):bm PP 286 [.one Y282 c] (.one Y54 r):=by
 unfold kk at h
 refine enter Tryz.func286 o 10 o o λF=>?_
 refine zu<|bA o o λf=>aC (t:=Y54) o kq o λu=>zZ 1 o<|yl 1 f0 ty2 o o o tr o<|zm 1 o<|yl 1 f1 bH o o o tr o<|zm 1 o<|yl 1 f2 bH o o o tr o<|y (aY o kq o o (.cons f0 o o aa (.cons f3 o o aa (.cons f6 o o aa (.cons f7 o o aa .nil))))) o ?_
 refine st 0 .here eX o o o o tr<|zf ?_
 cases h
 exact aS o (.cell 0 .here o o o aa eX) (λ_ _ g=>g) (λ_ _ _=>List.nil_sublist _)
theorem ql(c r)(h:kG c=some r):bm PP 297 [.one W61 c] (.one Y54 r):=by
 unfold kG at h
 refine enter Tryz.func297 o 6 o o λF=>?_
 refine zu<|bA o o λf=>aC (t:=Y54) o kq o λu=>zZ 1 o<|yl 1 f0 ty3 o o o tr o<|y (aY o kq o o (.cons f0 o o aa (.cons f8 o o aa .nil))) o ?_
 refine st 0 .here eX o o o o tr<|zf ?_
 cases h
 exact aS o (.cell 0 .here o o o aa eX) (λ_ _ g=>g) (λ_ _ _=>List.nil_sublist _)
theorem qm(c r)(h:kH c=some r):bm PP 301 [.one W61 c] (.one Y54 r):=by
 unfold kH at h
 refine enter Tryz.func301 o 6 o o λF=>?_
 refine zu<|bA o o λf=>aC (t:=Y54) o kq o λu=>zZ 1 o<|yl 1 f0 ty2 o o o tr o<|y (aY o kq o o (.cons f0 o o aa (.cons f3 o o aa .nil))) o ?_
 refine st 0 .here eX o o o o tr<|zf ?_
 cases h
 exact aS o (.cell 0 .here o o o aa eX) (λ_ _ g=>g) (λ_ _ _=>List.nil_sublist _)
theorem mf(c r)(h:kI c=some r):Inv PP "escrow/record.record" [.one Y212 c] [] (fun _=> .one Y54 r) (fun _=>[]):=match c,h with
 | .inl z,h=>(du (k:=259) kr (rO z r h))
 | .inr (.inl z),h=>(bw o (du (k:=275) kr (qk z r h)))
 | .inr (.inr (.inl z)),h=>(bw o (bw o (du (k:=281) kr (rP z r h))))
 | .inr (.inr (.inr (.inl z))),h=>(bw o (bw o (bw o (du (k:=286) kr (qg z r h)))))
 | .inr (.inr (.inr (.inr (.inl z)))),h=>(bw o (bw o (bw o (bw o (du (k:=297) kr (ql z r h))))))
 | .inr (.inr (.inr (.inr (.inr (.inl z))))),h=>(bw o (bw o (bw o (bw o (bw o (du (k:=301) kr (qm z r h)))))))
 | .inr (.inr (.inr (.inr (.inr (.inr (_)))))),h=>by cases h
theorem mq(f r)(h:gW f=some r):bm PP 126 [.one Y54 f] (.one Y212 r):=by
 unfold gW at h
 refine enter Tryz.func126 o 21 o o λF=>?_
 refine zu<|bA o o λW=>y (oq (U:=Y212) (.next (.next (.next (.next (.next (.next .here)))))) o) o ?_
 refine zz<|yl 0 .here eX o o o tr o<|cB h λc C h=>ar (y9 _ _ C) kr o o<|zA o<|zs<|zs<|gE (S:=bC [aV W 54 Y54 f]) kr ?_
 refine zH 1 [0] (ae (ak 0 o) aj) kr o o λs=>bl 1 (tb (cD c)) s o kr (ug (.next (.next (.next (.next (.next (.next .here)))))) o o xF (jd c)) λs=>zH 1 [2] s kr o o λs=>?_
 refine om (d:=8) (b:=(cD c)) o (λhb=>?_) (λhb=>?_)
 ·rw[if_pos hb]at h
  refine zH 3 [3,4,5] (ae (ak 0 o) aj) kr o o λs=>az 6 kr o<|zA o<|aR (ae (ak 0 o) aj) ?_
  refine ah [1,3,12] o<|zH 6 [7,8,9,10,11,12] (ae (ak 0 o) aj) kr o o λs=>az 13 kr o<|zA o<|aR (ae (ak 0 o) aj) ?_
  refine ah [3,19] o<|dF kr<|zt ?_
  refine ii (b:=true) o (λhc=>?_) (λhc=>?_)
  ·refine zu<|y (oq (U:=Y212) (.next (.next (.next (.next (.next (.next .here)))))) o) o ?_
   refine zf<|zT ?_
   cases h
   exact ax o (.tmp o)
  cases hc
 rw[if_neg (ne_true_of_eq_false hb)]at h
 refine dX 3 8 (.one Y212 c) (ae (ak 0 o) aj) o kr o (fY ag o) λs=>az 4 kr o<|am dl o ?_
 refine cB h λR H h=>ri [] (qY c _ H) o o o λ_=>?_
 refine za<|aR (ae (ak 0 o) aj) ?_
 refine ah [1,3,8,10] o<|dX 5 8 (tb (!R)) (ae (ak 0 o) aj) o kr o (fY ag o) λs=>az 6 kr o<|zA o<|aR (ae (ak 0 o) aj) ?_
 refine ah [1,3,12] o<|zH 1 [7] (ae (ak 0 o) aj) kr o o λs=>?_
 refine om (d:=13) (b:=(!R)) o (λhb=>?_) (λhb=>?_)
 ·rw[if_pos hb]at h
  refine zH 5 [8,9,10,11,12] (ae (ak 0 o) aj) kr o o λs=>az 13 kr o<|zA o<|aR (ae (ak 0 o) aj) ?_
  refine ah [3,19] o<|dF kr<|zt ?_
  refine ii (b:=true) o (λhc=>?_) (λhc=>?_)
  ·refine zu<|y (oq (U:=Y212) (.next (.next (.next (.next (.next (.next .here)))))) o) o ?_
   refine zf<|zT ?_
   cases h
   exact ax o (.tmp o)
  cases hc
 rw[if_neg (ne_true_of_eq_false hb)]at h
 refine dX 8 13 (.one Y212 c) (ae (ak 0 o) aj) o kr o (fY ag o) λs=>?_
 refine qw (i:=9) (j:=10) kr o o ?_ ?_
 ·refine am dl o ?_
  refine cB h λG u h=>ri [] (mf c _ u) o o o λ_=>?_
  refine za<|aR (ae (ak 0 o) aj) ?_
  refine ah [1,3,13,15] o<|az 10 kr o<|am dl o ?_
  refine yl 0 .here eX o o o tr o<|za<|aR (ae (ak 0 o) aj) ?_
  refine ah [3,13,15,16] o<|az 11 kr o<|am dl o ?_
  refine cB h λM V h=>ar (rN _ _ _ V) kr o o<|za<|aR (ae (ak 0 o) aj) ?_
  refine ah [3,13,17] o<|dX 12 13 (tb (!M)) (ae (ak 0 o) aj) o kr o (fY ag o) λs=>az 13 kr o<|zA o<|aR (ae (ak 0 o) aj) ?_
  refine ah [3,19] o<|dF kr<|zt<|rI h o (λhc h=>?_) λhc h=>?_
  ·refine zu<|y (oq (U:=Y212) (.next (.next (.next (.next (.next (.next .here)))))) o) o ?_
   refine zf<|zT ?_
   cases h
   exact ax o (.tmp o)
  refine zy<|zE o ?_
  cases h
  exact ax o (.tmp o)
 refine am dl o ?_
 refine yl 0 .here eX o o o tr o<|za<|aR (ae (ak 0 o) aj) ?_
 refine ah [3,13,14,16] o<|az 9 kr o<|am dl o ?_
 refine cB h λG u h=>ri [] (mf c _ u) o o o λ_=>?_
 refine za<|aR (ae (ak 0 o) aj) ?_
 refine ah [3,13,15,16] o<|az 11 kr o<|am dl o ?_
 refine cB h λM V h=>ar (rN _ _ _ V) kr o o<|za<|aR (ae (ak 0 o) aj) ?_
 refine ah [3,13,17] o<|dX 12 13 (tb (!M)) (ae (ak 0 o) aj) o kr o (fY ag o) λs=>az 13 kr o<|zA o<|aR (ae (ak 0 o) aj) ?_
 refine ah [3,19] o<|dF kr<|zt<|rI h o (λhc h=>?_) λhc h=>?_
 ·refine zu<|y (oq (U:=Y212) (.next (.next (.next (.next (.next (.next .here)))))) o) o ?_
  refine zf<|zT ?_
  cases h
  exact ax o (.tmp o)
 refine zy<|zE o ?_
 cases h
 exact ax o (.tmp o)
theorem wC(M r)(h:qP M=some r):bm PP 119 [ts M] (.tup [⟨Y54,r.1⟩,⟨(.int .i64),r.2.1⟩,⟨(.int .i64),r.2.2⟩]):=by
 unfold qP at h
 refine enter Tryz.func119 o 123 o o λF=>?_
 refine zu<|aC (t:=Y54) o kq o λc=>zm 2 o<|zZ 1 o<|cB h λr3 b6 h=>rc [] (hY _ _ b6) kr o o o λv4=>zm 1 o<|zZ 1 o<|eP λR hp=>?_
 subst hp
 refine cB h λf b8 h=>rc [0] (gP _ _ _ b8) kr o o o λ_=>zm 1 o<|y (aY o kq o o (.cons f0 o o aa .nil)) o ?_
 refine aC (t:=Y54) o kq o λu=>st 0 .here eX o o o o tr<|zz<|q 1 [(0,ts M),(2,ptr c 0),(5,ptr R 0),(6,ptr u 0),(7,tb true)] [] o<|za<|jK h (γ:=Value) (λV g10=>[(0,ts M),(2,ptr c 0),(5,tp g10),(6,ptr u 0),(7,tb V.1)]) (λV g10=>[Res.cls dK g10 V.2.1,Res.var u 54 Y54 V.2.2,Res.var c 54 Y54 (0,(0,0,0,(List.replicate 32 (0:Int)),[],()),[],0,(0,0,()),(List.replicate 32 (0:Int)),(List.replicate 32 (0:Int)),(List.replicate 32 (0:Int)),0,())]) (λk8 h=>?_) λV g10 h=>?_
 ·refine zU 1 o<|yl 0 f0 ty3 o o o tr o<|za<|zb<|zW o<|rI h o (λhc h=>?_) λhc h=>?_
  ·refine zU 1 o<|zZ 1 o<|zZ 1 o<|cB h λa7 b9 h=>rc [1] (em _ _ _ b9) kr o o o λ_=>cB h λH c0 h=>rc [] (pu _ _ _ c0) kr o o o λe9=>zm 7 o<|zz<|zA o<|rI h o (λhc h=>?_) λhc h=>?_
   ·obtain⟨a8,h⟩:=cj h
    refine ce 0 o (by omega) λO Z f4 hv=>?_
    rw[hv]
    try clear hv
    refine gE (S:=bC [jP O Z 52 Y52 H.1]) kr ?_
    refine zH 1 [0] (ae (lG 0 o (by omega)) aj) kr o o λs=>bl 1 (ptr O (Z+0*36)) s o kr (cx ag o o a8.1 a8.2 o bB) λs=>bl 2 (.one Y52 (List.getD H.1 0 (0,0,0,(List.replicate 32 (0:Int)),[],()))) s o kr (tG (S:=λw=>bC [jP O Z 52 Y52 H.1] w) (bn 0 o) 0 0 .here o o o (by omega) o aa bB) λs=>zH 2 [3,5] s kr o o λs=>az 4 kr o<|cB h λc1 c2 h=>rc [] (hY _ _ c2) kr o o o λc3=>za<|aR (ae (lG 1 o (by omega)) aj) ?_
    refine ah [0,2,5,6,7,32,34,35] o<|az 6 kr o<|st 3 f1 bB o o o o tr<|za<|aR (ae (lG 1 o (by omega)) aj) ?_
    exact ah [0,2,5,6,7,34] o<|zH 1 [7] (ae (lG 1 o (by omega)) aj) kr o o λs=>dF kr<|zi<|zt<|pk [0,1,1,1] o<|pk [0,1,1] o<|ai (H.2.2,c1,((wrap .i64 f.1),(List.getD H.1 0 (0,0,0,(List.replicate 32 (0:Int)),[],())),[],0,(0,0,()),(List.replicate 32 (0:Int)),(List.replicate 32 (0:Int)),(List.replicate 32 (0:Int)),0,())) c3 h o o
   refine zk<|zi<|zt<|pk [1,1,1] o<|eT (x:=a7.2) ?_
   exact ai (H.2.2,a7.2,((wrap .i64 f.1),(0,0,0,(List.replicate 32 (0:Int)),[],()),[],0,(0,0,()),(List.replicate 32 (0:Int)),(List.replicate 32 (0:Int)),(List.replicate 32 (0:Int)),0,())) (.pointer (some ⟨R,0,none⟩)) h o o
  refine zW o<|rI h o (λhc h=>?_) λhc h=>?_
  ·refine zU 1 o<|cB h λc4 c5 h=>rc [1] (bJ _ _ _ c5) kr o o o λ_=>zm 1 o<|st 1 f3 ty2 o o o o tr<|zZ 1 o<|cB h λc6 c7 h=>rc [0] (fA _ _ _ c7) kr o o o λ_=>zm 3 o<|st 1 ((g4 (.fst f0))) ty3 o o o o tr<|nL o<|za<|zr<|zm 1 o ?_
   refine cB h λa1 c8 h=>rc [0] (fA _ _ _ c8) kr o o o λ_=>zm 3 o<|st 1 ((g4 (.fst f1))) ty3 o o o o tr<|zn<|zi<|zt<|eT (x:=a1.2) ?_
   exact ai (true,a1.2,((wrap .i64 f.1),(0,0,0,(List.replicate 32 (0:Int)),[],()),[],c4.1,((wrap .i64 c6.1),(wrap .i64 a1.1),()),(List.replicate 32 (0:Int)),(List.replicate 32 (0:Int)),(List.replicate 32 (0:Int)),0,())) (.pointer (some ⟨R,0,none⟩)) h o o
  refine zW o<|rI h o (λhc h=>?_) λhc h=>?_
  ·refine zU 1 o<|cB h λJ c9 h=>rc [1] (bJ _ _ _ c9) kr o o o λ_=>zm 1 o<|st 1 f3 ty2 o o o o tr<|zZ 1 o<|cB h λd0 d1 h=>rc [0] (fA _ _ _ d1) kr o o o λ_=>q 2 [(10,ti (wrap .i64 d0.1))] [0,2,5,6] o ?_
   obtain⟨n37,e,h⟩:=al h;rw[e]
   refine zZ 1 o<|zZ 1 o<|cB h λd d2 h=>rc [0] (gB _ _ _ d2) kr o o o λ_=>q 2 [(10,ti n37),(62,tb (d.1==0))] [0,2,5,6] o ?_
   obtain⟨a2,e,h⟩:=al h;rw[e]
   refine aM 3 [(0,ts M),(2,ptr c 0),(5,ptr R 0),(6,ptr u 0),(10,ti n37),(65,tb (a2&&(decide (n37≤512))))] [Res.var R 171 W57 d.2,Res.var u 54 Y54 ((wrap .i64 f.1),(0,0,0,(List.replicate 32 (0:Int)),[],()),[],J.1,(0,0,()),(List.replicate 32 (0:Int)),(List.replicate 32 (0:Int)),(List.replicate 32 (0:Int)),0,()),Res.var c 54 Y54 (0,(0,0,0,(List.replicate 32 (0:Int)),[],()),[],0,(0,0,()),(List.replicate 32 (0:Int)),(List.replicate 32 (0:Int)),(List.replicate 32 (0:Int)),0,())] (?_) ?_
   ·clear h
    cases a2
    ·exact zA o<|ap () o o
    exact zA o<|ap () o o
   refine q 1 [(0,ts M),(2,ptr c 0),(5,ptr R 0),(6,ptr u 0),(7,tb (a2&&(decide (n37≤512)))),(10,ti n37)] [] o ?_
   obtain⟨d3,e,h⟩:=al h;rw[e]
   refine zz<|zA o<|rI h o (λhc h=>?_) λhc h=>?_
   ·refine zU 1 o<|cB h λf9 d4 h=>rc [0] (em _ _ _ d4) kr o o o λ_=>zm 1 o<|cB h λa9 d5 h=>rc [] (pu _ _ _ d5) kr o o o λb0=>zm 5 o<|iS (t:=Y54) (v:=W62) 2 f2 o o o o o o tx1 ?_
    refine zm 2 o<|zZ 1 o<|cB h λg0 d6 h=>rc [] (hY _ _ d6) kr o o o λg1=>zA o<|zr<|zm 1 o<|eP λd7 hp=>?_
    subst hp
    refine cB h λm d8 h=>rc [0] (cS _ _ _ d8) kr o o o λ_=>zm 1 o<|st 3 f5 bH o o o o tr<|nL o<|zn<|zi<|zt<|pk [1,2,0,0,0] o<|ep (v:=(au b0 0)) (T0:=(.pair (.int .i64) (.pair Y52 (.pair W62 (.pair (.int .i64) (.pair Y24 (.pair W66 (.pair W66 (.pair W66 W61))))))))) (x0:=((wrap .i64 f.1),(0,0,0,(List.replicate 32 (0:Int)),[],()),(au b0 0),J.1,(0,0,()),m.1,(List.replicate 32 (0:Int)),(List.replicate 32 (0:Int)),0,())) (t:=Y52) f2 o o ?_
    refine pk [1,0,0,0] o<|eT (x:=m.2) ?_
    exact pk [0,0,1] o<|ai (a9.2.2,m.2,((wrap .i64 f.1),(0,0,0,(List.replicate 32 (0:Int)),[],()),a9.1,J.1,(0,0,()),m.1,(List.replicate 32 (0:Int)),(List.replicate 32 (0:Int)),0,())) (.pointer (some ⟨d7,0,none⟩)) h o o
   refine zk<|zi<|zt<|eT (x:=d.2) ?_
   exact ai (d3,d.2,((wrap .i64 f.1),(0,0,0,(List.replicate 32 (0:Int)),[],()),[],J.1,(0,0,()),(List.replicate 32 (0:Int)),(List.replicate 32 (0:Int)),(List.replicate 32 (0:Int)),0,())) (.pointer (some ⟨R,0,none⟩)) h o o
  refine zW o<|rI h o (λhc h=>?_) λhc h=>?_
  ·refine zU 1 o<|cB h λd9 e0 h=>rc [1] (bJ _ _ _ e0) kr o o o λ_=>zm 1 o<|st 1 f3 ty2 o o o o tr<|zZ 1 o<|cB h λe1 e2 h=>rc [0] (cS _ _ _ e2) kr o o o λ_=>zm 1 o<|st 1 f6 bH o o o o tr<|nL o<|za<|zr<|zm 1 o ?_
   refine cB h λa3 e3 h=>rc [0] (cS _ _ _ e3) kr o o o λ_=>zm 1 o<|st 1 f7 bH o o o o tr<|zn<|zi<|zt<|eT (x:=a3.2) ?_
   exact ai (true,a3.2,((wrap .i64 f.1),(0,0,0,(List.replicate 32 (0:Int)),[],()),[],d9.1,(0,0,()),(List.replicate 32 (0:Int)),e1.1,a3.1,0,())) (.pointer (some ⟨R,0,none⟩)) h o o
  refine zW o<|rI h o (λhc h=>?_) λhc h=>?_
  ·refine zr<|zm 1 o<|cB h λa4 e4 h=>rc [1] (fA _ _ _ e4) kr o o o λ_=>zm 2 o<|st 1 f8 ty3 o o o o tr<|zn<|zi<|zt<|eT (x:=a4.2) ?_
   exact ai (true,a4.2,((wrap .i64 f.1),(0,0,0,(List.replicate 32 (0:Int)),[],()),[],0,(0,0,()),(List.replicate 32 (0:Int)),(List.replicate 32 (0:Int)),(List.replicate 32 (0:Int)),(wrap .i64 a4.1),())) (.pointer (some ⟨R,0,none⟩)) h o o
  refine zW o<|rI h o (λhc h=>?_) λhc h=>?_
  ·refine zr<|zm 1 o<|cB h λa5 e5 h=>rc [1] (bJ _ _ _ e5) kr o o o λ_=>zm 1 o<|st 1 f3 ty2 o o o o tr<|zn<|zi<|zt<|eT (x:=a5.2) ?_
   exact ai (true,a5.2,((wrap .i64 f.1),(0,0,0,(List.replicate 32 (0:Int)),[],()),[],a5.1,(0,0,()),(List.replicate 32 (0:Int)),(List.replicate 32 (0:Int)),(List.replicate 32 (0:Int)),0,())) (.pointer (some ⟨R,0,none⟩)) h o o
  refine zk<|zi<|zt<|pk [1,0,0] o<|eT (x:=f.2) ?_
  exact ai (true,f.2,((wrap .i64 f.1),(0,0,0,(List.replicate 32 (0:Int)),[],()),[],0,(0,0,()),(List.replicate 32 (0:Int)),(List.replicate 32 (0:Int)),(List.replicate 32 (0:Int)),0,())) (.pointer (some ⟨R,0,none⟩)) h o o
 refine eP λW hp=>?_
 subst hp
 refine zs<|zu<|q 3 [(0,ts M),(2,ptr c 0),(5,ptr W 0),(6,ptr u 0),(105,tb (!V.1))] [] o ?_
 obtain⟨e6,e,h⟩:=al h;rw[e]
 refine bQ h 4 (λC=>[(0,ts M),(2,ptr c 0),(5,ptr W 0),(6,ptr u 0),(109,tb C.1)]) (λC=>[Res.var W 171 W57 C.2,Res.var u 54 Y54 V.2.2,Res.var c 54 Y54 (0,(0,0,0,(List.replicate 32 (0:Int)),[],()),[],0,(0,0,()),(List.replicate 32 (0:Int)),(List.replicate 32 (0:Int)),(List.replicate 32 (0:Int)),0,())]) (λg2 h=>?_) λC h=>?_
 ·cases e6
  ·replace h:=ifF h
   refine zm 1 o<|am dl o ?_
   exact cB h λb1 e7 h=>rc [0] (gB _ _ _ e7) kr o o o λ_=>zN o<|zt<|ai ((b1.1 !=0),b1.2) () h o o
  replace h:=ifT h
  exact zN o<|zt<|ai (true,V.2.1) () h o o
 refine q 1 [(0,ts M),(2,ptr c 0),(5,ptr W 0),(6,ptr u 0),(110,tb C.1)] [] o<|bQ h 4 (λb3=>[(0,ts M),(2,ptr c 0),(5,ptr W 0),(6,ptr u 0),(114,tb b3)]) (λ_=>[Res.var W 171 W57 C.2,Res.var u 54 Y54 V.2.2,Res.var c 54 Y54 (0,(0,0,0,(List.replicate 32 (0:Int)),[],()),[],0,(0,0,()),(List.replicate 32 (0:Int)),(List.replicate 32 (0:Int)),(List.replicate 32 (0:Int)),0,())]) (λg3 h=>?_) λb3 h=>?_
 ·rcases Bool.eq_false_or_eq_true C.1 with hh|hh
  ·rw[hh]at h⊢
   rw[if_pos o]at h
   exact zN o<|zt<|ai true () h o o
  rw[hh]at h⊢
  rw[if_neg (by decide)]at h
  refine am dl o ?_
  refine yl 1 .here eX o o o tr o<|am dl o ?_
  refine cB h λb4 e8 h=>ar (mq _ _ e8) kr o o<|am dl o ?_
  refine y (ug (.next (.next (.next (.next (.next (.next .here)))))) o o xF (jd b4)) o ?_
  exact zN o<|zt<|ai (cD b4) () h o o
 refine za<|rI h o (λhc h=>?_) λhc h=>?_
 ·refine zu<|y (aY o kq o o .nil) o ?_
  refine st 2 .here eX o o o o tr<|zE o<|zT ?_
  cases h
  exact aE (rs:=[.cell 2 54,.tmp 3,.tmp 4]) o (.cons (.cell 2 .here o o o aa eX) (.cons (.tmp o) (.cons (.tmp o) (.nil)))) o (λ_ vs g=>aI vs g) (λ_ _ _=>List.nil_sublist _)
 refine zk<|zt<|bv h (λG=>[(2,ptr c 0),(3,ti G.1),(4,ti G.2.1)]) (λG=>[Res.var W 171 W57 G.2.2.1,Res.var u 54 Y54 V.2.2,Res.var c 54 Y54 G.2.2.2]) (λg5 h=>?_) λG h=>?_
 ·refine dS kr<|zF 3 [1,2,3] kr o o ?_
  refine br (i:=0) (j:=4) kr o o ?_ ?_
  ·exact yl 1 .here eX o o o tr o<|zL [2,116,118,119] o<|af 4 kr o<|cB h λN a6 h=>rc [0] (em _ _ _ a6) kr o o o λ_=>zL [2,116,118,120] o<|zF 2 [5,6] kr o o<|af 7 kr o<|st 2 .here eX o o o o tr<|zL [2,122] o<|zF 2 [8,9] kr o o<|aN kr<|zt<|ai ((wrap .i64 ((List.length M:Int) - (List.length N.1:Int))),0,N.2,V.2.2) () h o o
  exact cB h λN a6 h=>rc [0] (em _ _ _ a6) kr o o o λ_=>zL [2,6,118,120] o<|zF 2 [5,6] kr o o<|af 0 kr o<|yl 1 .here eX o o o tr o<|zL [2,116,122] o<|af 7 kr o<|st 2 .here eX o o o o tr<|zL [2,122] o<|zF 2 [8,9] kr o o<|aN kr<|zt<|ai ((wrap .i64 ((List.length M:Int) - (List.length N.1:Int))),0,N.2,V.2.2) () h o o
 refine zR ?_
 cases h
 exact aE (rs:=[.cell 2 54,.tmp 3,.tmp 4]) o (.cons (.cell 2 .here o o o aa eX) (.cons (.tmp o) (.cons (.tmp o) (.nil)))) o (λ_ vs g=>aI vs g) (λ_ _ _=>List.nil_sublist _)
theorem co(c r)(h:bh c=some r):Fn PP 124 [.one W76 c] [] (λv=> .one W62 v) (λv=>[Res.own v 52 Y52 r]):=by
 unfold bh at h
 refine enter Tryz.func124 o 8 o o λF=>?_
 refine zW o<|zs<|zU 1 o<|ud o Tryz.underlying22 o λg1 f=>?_
 refine za ?_
 refine ii (b:=g1) o (λhc=>?_) (λhc=>?_)
 ·have hx:=f hc
  subst hx
  have h:(some []:Option ((List Z51)))=some r:=by simpa using h
  refine zU 1 o<|zf<|zT<|bT (.slice none 0 0) o 52 Y52 ?_
  cases h
  exact aS o (.tmp o) (λ_ _ g=>holds_raw.2 ⟨rfl,by rw[(holds_raw.1 g).1];exact(holds_raw.1 g).2⟩) (λ_ _ g=>by obtain⟨rfl,_⟩:=holds_raw.1 g;exact(.cons_cons _ .slnil))
 refine zy<|bu (B:=72) ag o iq o o o .nil o λu=>?_
 refine zm 1 o<|iE h λhc h=>bd (B:=72) ag 0 o o (pV o) o iq o o hc o λM=>?_
 refine zE o ?_
 cases h
 exact aS o (.tmp o) (λ_ _ g=>holds_raw.2 ⟨rfl,by rw[(holds_raw.1 g).1];exact(holds_raw.1 g).2⟩) (λ_ _ g=>by obtain⟨rfl,_⟩:=holds_raw.1 g;exact(.cons_cons _ .slnil))
theorem fE(c r)(h:cg c=some r):Fn PP 125 [.one W77 c] [] (λv=> .one W62 v) (λv=>[Res.own v 56 Y56 r]):=by
 unfold cg at h
 refine enter Tryz.func125 o 8 o o λF=>?_
 refine zW o<|zs<|zU 1 o<|ud o Tryz.underlying28 o λg1 f=>?_
 refine za ?_
 refine ii (b:=g1) o (λhc=>?_) (λhc=>?_)
 ·have hx:=f hc
  subst hx
  have h:(some []:Option ((List Z55)))=some r:=by simpa using h
  refine zU 1 o<|zf<|zT<|bT (.slice none 0 0) o 56 Y56 ?_
  cases h
  exact aS o (.tmp o) (λ_ _ g=>holds_raw.2 ⟨rfl,by rw[(holds_raw.1 g).1];exact(holds_raw.1 g).2⟩) (λ_ _ g=>by obtain⟨rfl,_⟩:=holds_raw.1 g;exact(.cons_cons _ .slnil))
 refine zy<|bu (B:=48) ag o tT o o o .nil o λu=>?_
 refine zm 1 o<|iE h λhc h=>bd (B:=48) ag 0 o o (pV o) o tT o o hc o λM=>?_
 refine zE o ?_
 cases h
 exact aS o (.tmp o) (λ_ _ g=>holds_raw.2 ⟨rfl,by rw[(holds_raw.1 g).1];exact(holds_raw.1 g).2⟩) (λ_ _ g=>by obtain⟨rfl,_⟩:=holds_raw.1 g;exact(.cons_cons _ .slnil))
theorem wD(f r)(h:mF f=some r):bm PP 264 [.one W76 f] (ti r):=by
 unfold mF at h
 refine enter Tryz.func264 o 19 o o λF=>?_
 refine zU 1 o<|zz<|q 1 [(0,.one W76 f),(3,ti 0)] [] o<|za<|bv h (λM=>[(3,ti M)]) (λM=>[]) (λR h=>?_) λM h=>?_
 ·refine zW o<|zb<|ah [3,6,7,8] o<|bg (γ:=Unit) (λ(c:Int×Int) _=>[(3,ti c.1),(6,.one W76 f),(7,ti (List.length f:Int)),(8,ti c.2)]) (λ(c:Int×Int) _=>[]) (gX f R) (0,0) () h o o ?_
  clear h
  intro V c gg h
  cases V with
  |zero=>cases h
  |succ V=>
  simp only[gX]at h
  refine zW o<|zs<|rI h o (λhc h=>?_) λhc h=>?_
  ·refine zk<|zt<|bv h (λu=>[(3,ti u),(6,.one W76 f),(7,ti (List.length f:Int)),(8,ti c.2)]) (λu=>[]) (λW h=>?_) λu h=>?_
   ·refine zb<|zu<|iE h λhc h=>y (eZ ag o o hc.1 hc.2 o bB) o ?_
    refine y (fP o bB) o ?_
    refine aC (t:=Y52) o ja o λC=>st 0 .here bB o o o o tr<|zZ 1 o<|yl 0 f0 ty3 o o o tr o<|q 1 [(3,ti c.1),(6,.one W76 f),(7,ti (List.length f:Int)),(8,ti c.2),(14,tb (((List.getD f (Int.toNat c.2) (0,0,0,z32,[],())).1)==1))] [] o ?_
    obtain⟨H,e,h⟩:=al h;rw[e]
    refine za<|rI h o (λhc h=>?_) λhc h=>?_
    ·refine zr<|q 3 [(3,ti (wrap .i64 (c.1+1)))] [6,7,8] o ?_
     obtain⟨n11,e,h⟩:=al h;rw[e]
     exact zn<|zi<|zt<|pk [] o<|ai n11 () h o o
    exact zk<|zi<|zt<|pk [] o<|ai c.1 () h o o
   exact zr<|zA o<|aX (u,(wrap .i64 (c.2+1))) () (Nat.lt_succ_self _) h o o
  exact zx<|ze<|ze<|zq<|zt<|ai c.1 () h o o
 refine zU 2 o<|zf ?_
 cases h
 exact ax o (.tmp o)
theorem qE(c M R r)(h:km c M R=some r):bm PP 268 [.one W76 c,ti M,tb R] (.tup [⟨Y52,r.1⟩,⟨.bool,r.2⟩]):=by
 unfold km at h
 refine enter Tryz.func268 o 45 o o λF=>?_
 refine zu<|aC (t:=Y52) o ja o λu=>q 1 [(0,.one W76 c),(1,ti M),(2,tb R),(6,ptr u 0)] [] o<|za<|bv h (λN=>[(6,ptr u 0)]) (λN=>[Res.var u 52 Y52 (0,0,0,z32,[],())]) (λm h=>?_) λN h=>?_
 ·refine zW o<|zb<|ah [1,2,6,10,11,12] o<|bg (γ:=Unit) (λ(f:Int) _=>[(1,ti M),(2,tb R),(6,ptr u 0),(10,.one W76 c),(11,ti (List.length c:Int)),(12,ti f)]) (λ(f:Int) _=>[Res.var u 52 Y52 (0,0,0,z32,[],())]) (fF c M R m) 0 () h o o ?_
  clear h
  intro J f gg h
  cases J with
  |zero=>cases h
  |succ J=>
  simp only[fF]at h
  refine zW o<|zs<|rI h o (λhc h=>?_) λhc h=>?_
  ·refine zk<|zt<|zs<|zb<|zu<|iE h λhc h=>y (eZ ag o o hc.1 hc.2 o bB) o ?_
   refine y (fP o bB) o ?_
   refine aC (t:=Y52) o ja o λV=>st 0 .here bB o o o o tr<|zZ 1 o<|yl 0 f1 ty2 o o o tr o<|q 2 [(9,ptr V 0),(10,.one W76 c),(11,ti (List.length c:Int)),(12,ti f),(19,tb (((List.getD c (Int.toNat f) (0,0,0,z32,[],())).2.1)==M))] [1,2,6] o ?_
   obtain⟨O,e,h⟩:=al h;rw[e]
   refine p 1 [1,2,6,9,10,11,12,20] o<|bQ h 21 (λd=>[(1,ti M),(2,tb R),(6,ptr u 0),(9,ptr V 0),(10,.one W76 c),(11,ti (List.length c:Int)),(12,ti f),(41,tb d)]) (λ_=>[Res.var V 52 Y52 (List.getD c (Int.toNat f) (0,0,0,z32,[],())),Res.var u 52 Y52 (0,0,0,z32,[],())]) (λZ h=>?_) λd h=>?_
   ·rcases Bool.eq_false_or_eq_true O with hh|hh
    ·rw[hh]at h⊢
     rw[if_pos o]at h
     refine p 3 [1,2,6,9,10,11,12,20,23] o ?_
     obtain⟨W,e,h⟩:=al h;rw[e]
     refine aM 4 [(1,ti M),(2,tb R),(6,ptr u 0),(9,ptr V 0),(10,.one W76 c),(11,ti (List.length c:Int)),(12,ti f),(20,tb true),(27,tb (W&&(((List.getD c (Int.toNat f) (0,0,0,z32,[],())).1)==1)))] [Res.var V 52 Y52 (List.getD c (Int.toNat f) (0,0,0,z32,[],())),Res.var u 52 Y52 (0,0,0,z32,[],())] (?_) ?_
     ·clear h
      cases W
      ·exact zA o<|ap () o o
      refine zm 1 o<|am dl o ?_
      exact yl 0 f0 ty3 o o o tr o<|zA o<|ap () o o
     refine q 1 [(1,ti M),(2,tb R),(6,ptr u 0),(9,ptr V 0),(10,.one W76 c),(11,ti (List.length c:Int)),(12,ti f),(20,tb true),(28,tb (W&&(((List.getD c (Int.toNat f) (0,0,0,z32,[],())).1)==1)))] [] o ?_
     obtain⟨w,e,h⟩:=al h;rw[e]
     refine bQ h 12 (λC=>[(1,ti M),(2,tb R),(6,ptr u 0),(9,ptr V 0),(10,.one W76 c),(11,ti (List.length c:Int)),(12,ti f),(20,tb true),(40,tb C)]) (λ_=>[Res.var V 52 Y52 (List.getD c (Int.toNat f) (0,0,0,z32,[],())),Res.var u 52 Y52 (0,0,0,z32,[],())]) (λa3 h=>?_) λC h=>?_
     ·rcases Bool.eq_false_or_eq_true w with hh|hh
      ·rw[hh]at h⊢
       rw[if_pos o]at h
       exact zN o<|zt<|ai true () h o o
      rw[hh]at h⊢
      rw[if_neg (by decide)]at h
      refine p 2 [1,2,6,9,10,11,12,20,28,30] o<|bQ h 9 (λH=>[(1,ti M),(2,tb R),(6,ptr u 0),(9,ptr V 0),(10,.one W76 c),(11,ti (List.length c:Int)),(12,ti f),(20,tb true),(28,tb false),(39,tb H)]) (λ_=>[Res.var V 52 Y52 (List.getD c (Int.toNat f) (0,0,0,z32,[],())),Res.var u 52 Y52 (0,0,0,z32,[],())]) (λa4 h=>?_) λH h=>?_
      ·cases R
       ·replace h:=ifF h
        exact zN o<|zt<|ai false () h o o
       replace h:=ifT h
       refine zm 1 o<|am dl o ?_
       refine yl 0 f0 ty3 o o o tr o<|q 2 [(2,tb true),(30,tb true),(34,tb (((List.getD c (Int.toNat f) (0,0,0,z32,[],())).1)==2))] [1,6,9,10,11,12,20,28] o ?_
       obtain⟨G,e,h⟩:=al h;rw[e]
       refine aM 4 [(1,ti M),(2,tb true),(6,ptr u 0),(9,ptr V 0),(10,.one W76 c),(11,ti (List.length c:Int)),(12,ti f),(20,tb true),(28,tb false),(30,tb true),(38,tb (G||(((List.getD c (Int.toNat f) (0,0,0,z32,[],())).1)==3)))] [Res.var V 52 Y52 (List.getD c (Int.toNat f) (0,0,0,z32,[],())),Res.var u 52 Y52 (0,0,0,z32,[],())] (?_) ?_
       ·clear h
        cases G
        ·refine zm 1 o<|am dl o ?_
         exact yl 0 f0 ty3 o o o tr o<|zA o<|ap () o o
        exact zA o<|ap () o o
       exact zN o<|zt<|ai (G||(((List.getD c (Int.toNat f) (0,0,0,z32,[],())).1)==3)) () h o o
      exact zN o<|zt<|ai H () h o o
     exact zN o<|zt<|ai C () h o o
    rw[hh]at h⊢
    rw[if_neg (by decide)]at h
    exact zN o<|zt<|ai false () h o o
   exact za<|rI h o (λhc h=>zu<|yl 0 .here bB o o o tr o<|st 1 .here bB o o o o tr<|zE o<|zB<|zT<|zT<|zB<|zT<|by cases h;exact aE (rs:=[.cell 6 52,.tmp 7]) o (.cons (.cell 1 .here o o o aa bB) (.cons (.tmp o) (.nil))) o (λ_ vs g=>aI vs g) (λ_ _ _=>List.nil_sublist _)) λhc h=>zk<|zi<|zt<|zr<|zA o<|pk [1] o<|aX (wrap .i64 (f+1)) () (Nat.lt_succ_self _) h o o
  exact zx<|ze<|ze<|zq<|zt<|ai () () h o o
 refine zu<|y (aY o ja o o .nil) o ?_
 refine st 0 .here bB o o o o tr<|zE o ?_
 cases h
 exact aE (rs:=[.cell 6 52,.tmp 7]) o (.cons (.cell 0 .here o o o aa bB) (.cons (.tmp o) (.nil))) o (λ_ vs g=>aI vs g) (λ_ _ _=>List.nil_sublist _)
theorem wE(c f r)(h:oU c f=some r):bm PP 265 [.one W76 c,ti f] (.tup [⟨Y52,r.1⟩,⟨.bool,r.2⟩]):=by
 unfold oU at h
 refine enter Tryz.func265 o 11 o o λF=>?_
 refine zu<|aC (t:=Y52) o ja o λM=>zm 1 o<|zZ 2 o<|cB h λV u h=>ar (qE _ _ _ _ u) kr o o<|zm 2 o<|st 0 .here bB o o o o tr<|zE o ?_
 cases h
 exact aE (rs:=[.cell 4 52,.tmp 5]) o (.cons (.cell 0 .here o o o aa bB) (.cons (.tmp o) (.nil))) o (λ_ vs g=>aI vs g) (λ_ _ _=>List.nil_sublist _)
theorem uz(c f r)(h:l3 c f=some r):bm PP 266 [.one W76 c,ti f] (.tup [⟨Y52,r.1⟩,⟨.bool,r.2⟩]):=by
 unfold l3 at h
 refine enter Tryz.func266 o 11 o o λF=>?_
 refine zu<|aC (t:=Y52) o ja o λM=>zm 1 o<|zZ 2 o<|cB h λV u h=>ar (qE _ _ _ _ u) kr o o<|zm 2 o<|st 0 .here bB o o o o tr<|zE o ?_
 cases h
 exact aE (rs:=[.cell 4 52,.tmp 5]) o (.cons (.cell 0 .here o o o aa bB) (.cons (.tmp o) (.nil))) o (λ_ vs g=>aI vs g) (λ_ _ _=>List.nil_sublist _)
theorem wa(c f r)(h:strings_Join c f=some r):bm PP 269 [.one W78 c,ts f] (ts r):=Cm Go.Proofs.Tryz.strings_Join_none Go.Proofs.Tryz.strings_Join c f r h
theorem uA(r)(h:l5=some r):bm PP 270 [] (.one W65 r):=by
 unfold l5 at h
 refine enter Tryz.func270 o 2 o o λF=>?_
 refine zu<|aC (t:=W65) o oV o λc=>zz<|y (aY o oV o o (.cons (.elem 0 .here) o o (av (by omega) aa) (.cons (.elem 1 .here) o o (av (by omega) aa) (.cons (.elem 2 .here) o o (av (by omega) aa) (.cons (.elem 3 .here) o o (av (by omega) aa) (.cons (.elem 4 .here) o o (av (by omega) aa) (.cons (.elem 5 .here) o o (av (by omega) aa) (.cons (.elem 6 .here) o o (av (by omega) aa) (.cons (.elem 7 .here) o o (av (by omega) aa) (.cons (.elem 8 .here) o o (av (by omega) aa) (.cons (.elem 9 .here) o o (av (by omega) aa) (.cons (.elem 10 .here) o o (av (by omega) aa) (.cons (.elem 11 .here) o o (av (by omega) aa) (.cons (.elem 12 .here) o o (av (by omega) aa) (.cons (.elem 13 .here) o o (av (by omega) aa) (.cons (.elem 14 .here) o o (av (by omega) aa) (.cons (.elem 15 .here) o o (av (by omega) aa) (.cons (.elem 16 .here) o o (av (by omega) aa) (.cons (.elem 17 .here) o o (av (by omega) aa) (.cons (.elem 18 .here) o o (av (by omega) aa) (.cons (.elem 19 .here) o o (av (by omega) aa) (.cons (.elem 20 .here) o o (av (by omega) aa) (.cons (.elem 21 .here) o o (av (by omega) aa) (.cons (.elem 22 .here) o o (av (by omega) aa) (.cons (.elem 23 .here) o o (av (by omega) aa) (.cons (.elem 24 .here) o o (av (by omega) aa) (.cons (.elem 25 .here) o o (av (by omega) aa) (.cons (.elem 26 .here) o o (av (by omega) aa) (.cons (.elem 27 .here) o o (av (by omega) aa) (.cons (.elem 28 .here) o o (av (by omega) aa) (.cons (.elem 29 .here) o o (av (by omega) aa) (.cons (.elem 30 .here) o o (av (by omega) aa) (.cons (.elem 31 .here) o o (av (by omega) aa) (.cons (.elem 32 .here) o o (av (by omega) aa) (.cons (.elem 33 .here) o o (av (by omega) aa) (.cons (.elem 34 .here) o o (av (by omega) aa) (.cons (.elem 35 .here) o o (av (by omega) aa) (.cons (.elem 36 .here) o o (av (by omega) aa) (.cons (.elem 37 .here) o o (av (by omega) aa) (.cons (.elem 38 .here) o o (av (by omega) aa) (.cons (.elem 39 .here) o o (av (by omega) aa) (.cons (.elem 40 .here) o o (av (by omega) aa) (.cons (.elem 41 .here) o o (av (by omega) aa) (.cons (.elem 42 .here) o o (av (by omega) aa) (.cons (.elem 43 .here) o o (av (by omega) aa) (.cons (.elem 44 .here) o o (av (by omega) aa) (.cons (.elem 45 .here) o o (av (by omega) aa) (.cons (.elem 46 .here) o o (av (by omega) aa) (.cons (.elem 47 .here) o o (av (by omega) aa) (.cons (.elem 48 .here) o o (av (by omega) aa) (.cons (.elem 49 .here) o o (av (by omega) aa) (.cons (.elem 50 .here) o o (av (by omega) aa) (.cons (.elem 51 .here) o o (av (by omega) aa) (.cons (.elem 52 .here) o o (av (by omega) aa) (.cons (.elem 53 .here) o o (av (by omega) aa) (.cons (.elem 54 .here) o o (av (by omega) aa) (.cons (.elem 55 .here) o o (av (by omega) aa) (.cons (.elem 56 .here) o o (av (by omega) aa) (.cons (.elem 57 .here) o o (av (by omega) aa) (.cons (.elem 58 .here) o o (av (by omega) aa) (.cons (.elem 59 .here) o o (av (by omega) aa) (.cons (.elem 60 .here) o o (av (by omega) aa) (.cons (.elem 61 .here) o o (av (by omega) aa) (.cons (.elem 62 .here) o o (av (by omega) aa) (.cons (.elem 63 .here) o o (av (by omega) aa) .nil))))))))))))))))))))))))))))))))))))))))))))))))))))))))))))))))) o ?_
 refine st 0 .here mZ o o o o tr<|zf ?_
 cases h
 exact aS o (.cell 0 .here o o o aa mZ) (λ_ _ g=>g) (λ_ _ _=>List.nil_sublist _)
theorem ck(c f r)(h:bO c f=some r):bm PP 273 [.one (.int .u32) c,ti f] (.one (.int .u32) r):=by
 unfold bO at h
 refine enter Tryz.func273 o 17 o o λF=>?_
 refine zU 1 o<|zz<|q 4 [(0,.one (.int .u32) c),(5,.one (.int .u64) (dV .u64 (wrap .u64 f) 31))] [] o ?_
 obtain⟨u,e,h⟩:=al h;rw[e]
 refine zz<|zE o ?_
 cases h
 exact ax o (.tmp o)
theorem jv(V r)(h:kQ V=some r):bm PP 272 [ts V] (.one W65 r):=by
 unfold kQ at h
 refine enter Tryz.func272 o 77 o o λF=>?_
 refine zu<|aC (t:=W65) o oV o λu=>zz<|aC (t:=W65) o oV o λf=>za<|bv h (λW=>[(2,ptr u 0),(3,ptr f 0)]) (λW=>[Res.var f 354 W65 W,Res.var u 354 W65 (List.replicate 64 (0:Int))]) (λw h=>?_) λW h=>?_
 ·refine zW o<|zb<|ah [0,2,3,11] o<|bg (γ:=Unit) (λ(M:Int×List (Int)) _=>[(0,ts V),(2,ptr u 0),(3,ptr f 0),(11,ti M.1)]) (λ(M:Int×List (Int)) _=>[Res.var f 354 W65 M.2,Res.var u 354 W65 (List.replicate 64 (0:Int))]) (fV V w) (0,(List.replicate 64 (0:Int))) () h o o ?_
  clear h
  intro N M gg h
  cases N with
  |zero=>cases h
  |succ N=>
  simp only[fV]at h
  refine zW o<|zs<|rI h o (λhc h=>?_) λhc h=>?_
  ·refine zk<|zt<|zs<|zb<|zU 2 o<|zz<|q 1 [(0,ts V),(2,ptr u 0),(3,ptr f 0),(4,ti M.1),(11,ti M.1),(14,ti 0)] [] o<|za<|bX h λJ Z h=>?_
   refine rq (γ:=Unit) (λ(C:List (Int)) _=>[(0,ts V),(2,ptr u 0),(3,ptr f 0),(11,ti M.1)]) (λ(C:List (Int)) _=>[Res.var f 354 W65 C,Res.var u 354 W65 (List.replicate 64 (0:Int))]) J r ?_ ?_
   ·refine zb<|ah [0,2,3,4,11,14] o<|bg (γ:=Unit) (λ(R:Int×List (Int)) _=>[(0,ts V),(2,ptr u 0),(3,ptr f 0),(4,ti M.1),(11,ti M.1),(14,ti R.1)]) (λ(R:Int×List (Int)) _=>[Res.var f 354 W65 R.2,Res.var u 354 W65 (List.replicate 64 (0:Int))]) (fU V M J) (0,M.2) () h o o ?_
    clear h
    intro m32 R gg h
    cases m32 with
    |zero=>cases h
    |succ m32=>
    simp only[fU]at h
    refine zW o<|zs<|rI h o (λhc h=>?_) λhc h=>?_
    ·refine zk<|zt<|zs<|zb<|zW o<|dS kr<|zF 2 [0,1] kr o o<|iE h λhc h=>ga 2 (ptr f (0+(Int.toNat M.1)*1)) o kr (bY o o hc.1 hc.2 pL cv)<|zF 5 [5,6,7,8,9] kr o o<|iE h λhc h=>ga 10 (.one (.int .u8) (List.getD V (Int.toNat (wrap .i64 ((wrap .i64 (4*M.1))+R.1))) 0)) o kr (gq ag o o hc.1 hc.2 o)<|zF 1 [11] kr o o<|af 3 kr o ?_
     refine y (aL 0 (.elem (Int.toNat M.1) .here) o o pof (av pix aa) cv) o ?_
     exact zL [0,2,3,4,11,14,17,20,28] o<|zF 2 [4,12] kr o o<|iE h λhc h=>ga 13 (ptr f (0+(Int.toNat M.1)*1)) o kr (bY o o hc.1 hc.2 pL cv)<|af 14 kr o<|kV 0 (.elem (Int.toNat M.1) .here) o o o pof (av pix aa) cv<|zL [0,2,3,4,11,14] o<|aN kr<|zi<|zt<|zr<|zA o<|aX ((wrap .i64 (R.1+1)),(List.set R.2 (Int.toNat M.1) (ior .u32 (kA .u32 (List.getD R.2 (Int.toNat M.1) 0) 8) (wrap .u32 (List.getD V (Int.toNat (wrap .i64 ((wrap .i64 (4*M.1))+R.1))) 0))))) () (Nat.lt_succ_self _) h o o
    exact zx<|ze<|ze<|zq<|zt<|ai R.2 () h o o
   intro C gg h
   rw[←Z]at h
   try dsimp only at h
   exact zi<|zt<|zr<|zA o<|aX ((wrap .i64 (M.1+1)),C) () (Nat.lt_succ_self _) h o o
  exact zx<|ze<|ze<|zq<|zt<|ai M.2 () h o o
 refine bv h (λG=>[(2,ptr u 0),(3,ptr f 0)]) (λG=>[Res.var f 354 W65 G,Res.var u 354 W65 (List.replicate 64 (0:Int))]) (λk6 h=>?_) λG h=>?_
 ·refine zW o<|zb<|ah [2,3,6] o<|bg (γ:=Unit) (λ(c:Int×List (Int)) _=>[(2,ptr u 0),(3,ptr f 0),(6,ti c.1)]) (λ(c:Int×List (Int)) _=>[Res.var f 354 W65 c.2,Res.var u 354 W65 (List.replicate 64 (0:Int))]) (fT k6) (16,W) () h o o ?_
  clear h
  intro d c gg h
  cases d with
  |zero=>cases h
  |succ d=>
  simp only[fT]at h
  refine zs<|zW o<|rI h o (λhc h=>?_) λhc h=>?_
  ·refine zk<|zt<|zs<|zb<|zs<|eL kr kr ?_
   refine ay ag 2 [2,3,6,38] (E':=[(2,ptr u 0),(3,ptr f 0),(6,ti c.1),(38,ti (wrap .i64 (c.1 - 15)))]) o ?_
   refine iE h λhc h=>q_y (bY o o hc.1 hc.2 pL cv) o ?_
   refine q_y (aL 0 (.elem (Int.toNat (wrap .i64 (c.1 - 15))) .here) o o pof (av pix aa) cv) o ?_
   refine ay ag 2 [2,3,6,40,42] (E':=[(2,ptr u 0),(3,ptr f 0),(6,ti c.1),(40,.one (.int .u32) (List.getD c.2 (Int.toNat (wrap .i64 (c.1 - 15))) 0)),(42,ti (wrap .i64 (c.1 - 2)))]) o ?_
   refine iE h λhc h=>q_y (bY o o hc.1 hc.2 pL cv) o ?_
   refine q_y (aL 0 (.elem (Int.toNat (wrap .i64 (c.1 - 2))) .here) o o pof (av pix aa) cv) o ?_
   refine ay ag 1 [2,3,6,7,44] (E':=[(2,ptr u 0),(3,ptr f 0),(6,ti c.1),(7,.one (.int .u32) (List.getD c.2 (Int.toNat (wrap .i64 (c.1 - 15))) 0)),(44,.one (.int .u32) (List.getD c.2 (Int.toNat (wrap .i64 (c.1 - 2))) 0))]) o ?_
   obtain⟨m,e,h⟩:=al h;rw[e]
   refine ay ag 1 [2,3,6,7,8] (E':=[(2,ptr u 0),(3,ptr f 0),(6,ti c.1),(7,.one (.int .u32) m),(8,.one (.int .u32) (List.getD c.2 (Int.toNat (wrap .i64 (c.1 - 2))) 0))]) o ?_
   obtain⟨a1,e,h⟩:=al h;rw[e]
   refine fa ?_
   refine zt<|zU 1 o<|cB h λa2 a3 h=>ar (ck _ _ _ a3) kr o o<|zm 1 o<|cB h λa4 a5 h=>ar (ck _ _ _ a5) kr o o<|q 5 [(2,ptr u 0),(3,ptr f 0),(6,ti c.1),(8,.one (.int .u32) a1),(9,.one (.int .u32) (cO .u32 (cO .u32 a2 a4) (bS .u32 m 3)))] [] o ?_
   obtain⟨a6,e,h⟩:=al h;rw[e]
   refine zZ 1 o<|cB h λb1 a7 h=>ar (ck _ _ _ a7) kr o o<|zm 1 o<|cB h λb4 a8 h=>ar (ck _ _ _ a8) kr o o<|p 5 [2,3,6,9,10] o ?_
   obtain⟨H,e,h⟩:=al h;rw[e]
   refine za<|dS kr<|zF 3 [0,1,2] kr o o<|iE h λhc h=>ga 3 (ptr f (0+(Int.toNat (wrap .i64 (c.1 - 16)))*1)) o kr (bY o o hc.1 hc.2 pL cv)<|zF 3 [5,7,8] kr o o<|iE h λhc h=>ga 9 (ptr f (0+(Int.toNat (wrap .i64 (c.1 - 7)))*1)) o kr (bY o o hc.1 hc.2 pL cv)<|zF 1 [12] kr o o<|o4 (fuel:=1) [4,6,10,11,13,14] #[true,true,true,true,true,true,true,true,true,true,true,true,true,true,true,false] kr ?_
   refine q_y (aL 0 (.elem (Int.toNat (wrap .i64 (c.1 - 16))) .here) o o pof (av pix aa) cv) o ?_
   refine ay ag 1 [2,3,6,61,67,70,73] (E':=[(2,ptr u 0),(3,ptr f 0),(6,ti c.1),(61,ti c.1),(67,.one (.int .u32) (wrap .u32 ((List.getD c.2 (Int.toNat (wrap .i64 (c.1 - 16))) 0)+a6))),(70,ptr f (0+(Int.toNat (wrap .i64 (c.1 - 7)))*1)),(73,.one (.int .u32) H)]) o ?_
   obtain⟨a9,e,h⟩:=al h;rw[e]
   refine q_y (aL 0 (.elem (Int.toNat (wrap .i64 (c.1 - 7))) .here) o o pof (av pix aa) cv) o ?_
   refine ay ag 1 [2,3,6,61,72,73] (E':=[(2,ptr u 0),(3,ptr f 0),(6,ti c.1),(61,ti c.1),(72,.one (.int .u32) (wrap .u32 (a9+(List.getD c.2 (Int.toNat (wrap .i64 (c.1 - 7))) 0)))),(73,.one (.int .u32) H)]) o ?_
   obtain⟨O,e,h⟩:=al h;rw[e]
   refine ay ag 1 [2,3,6,61,74] (E':=[(2,ptr u 0),(3,ptr f 0),(6,ti c.1),(61,ti c.1),(74,.one (.int .u32) (wrap .u32 (O+H)))]) o ?_
   refine iE h λhc h=>q_y (bY o o hc.1 hc.2 pL cv) o ?_
   refine fa ?_
   refine ah [2,3,6,74,75] o<|af 15 kr o<|kV 0 (.elem (Int.toNat c.1) .here) o o o pof (av pix aa) cv<|zL [2,3,6] o<|aN kr<|zi<|zt<|zr<|q 3 [(6,ti (wrap .i64 (c.1+1)))] [2,3] o ?_
   obtain⟨b0,e,h⟩:=al h;rw[e]
   exact za<|aX (b0,(List.set c.2 (Int.toNat c.1) (wrap .u32 (O+H)))) () (Nat.lt_succ_self _) h o o
  exact zx<|ze<|ze<|zq<|zt<|ai c.2 () h o o
 refine zu<|yl 0 .here mZ o o o tr o<|st 1 .here mZ o o o o tr<|zf ?_
 cases h
 exact aS o (.cell 1 .here o o o aa mZ) (λ_ _ g=>g) (λ_ _ _=>List.nil_sublist _)
theorem wF(V:Nat)(H a1 N r)(h:mG H a1 N=some r):Fn PP 271 [.one W67 H,ts a1,ptr V 0] [Res.var V 354 W65 N] (λ_=> .one W67 r.1) (λ_=>[Res.var V 354 W65 r.2]):=by
 unfold mG at h
 refine enter Tryz.func271 o 113 o o λF=>?_
 refine zu<|bA o o λu=>aC (t:=W67) o pJ o λM=>za<|zs<|cB h λJ a3 h=>gE (S:=bC [aV u 353 W67 H]) kr ?_
 refine Cq (γ:=Nat×Nat) (λ(f:Nat×Nat)=>[(2,ptr V 0),(3,ptr u 0),(6,ptr M 0),(7,ptr f.2 0),(8,ptr f.1 0)]) (λ(f:Nat×Nat)=>[Res.var f.1 353 W67 H,Res.var f.2 354 W65 J,Res.var M 353 W67 (List.replicate 8 (0:Int)),Res.var u 353 W67 H,Res.var V 354 W65 N]) (λf=>?_) (λm=>?_)
 ·refine zt<|bv h (λa6=>[(3,ptr u 0),(6,ptr M 0),(8,ptr f.1 0)]) (λa6=>[Res.var f.1 353 W67 a6,Res.var f.2 354 W65 J,Res.var M 353 W67 (List.replicate 8 (0:Int)),Res.var u 353 W67 H,Res.var V 354 W65 N]) (λb7 h=>?_) λa6 h=>?_
  ·refine zW o<|zb<|ah [2,3,6,7,8,18] o<|bg (γ:=Unit) (λ(c:Int×List (Int)) _=>[(2,ptr V 0),(3,ptr u 0),(6,ptr M 0),(7,ptr f.2 0),(8,ptr f.1 0),(18,ti c.1)]) (λ(c:Int×List (Int)) _=>[Res.var f.1 353 W67 c.2,Res.var f.2 354 W65 J,Res.var M 353 W67 (List.replicate 8 (0:Int)),Res.var u 353 W67 H,Res.var V 354 W65 N]) (gZ N J b7) (0,H) () h o o ?_
   clear h
   intro b0 c gg h
   cases b0 with
   |zero=>cases h
   |succ b0=>
   simp only[gZ]at h
   refine zW o<|zs<|rI h o (λhc h=>?_) λhc h=>?_
   ·refine zk<|zt<|zs<|zb<|zu<|q 2 [(2,ptr V 0),(3,ptr u 0),(6,ptr M 0),(7,ptr f.2 0),(8,ptr f.1 0),(9,ti c.1),(18,ti c.1)] [] o<|za<|zs<|eL kr kr ?_
    refine iE h λhc h=>q_y (bY o o hc.1 hc.2 jx cv) o ?_
    refine q_y (aL 0 (.elem 4 .here) o o pof (av pix aa) cv) o ?_
    refine iE h λhc h=>q_y (bY o o hc.1 hc.2 jx cv) o ?_
    refine q_y (aL 0 (.elem 0 .here) o o pof (av pix aa) cv) o ?_
    refine ay ag 1 [2,3,6,7,8,9,10,18,24] (E':=[(2,ptr V 0),(3,ptr u 0),(6,ptr M 0),(7,ptr f.2 0),(8,ptr f.1 0),(9,ti c.1),(10,.one (.int .u32) (List.getD c.2 4 0)),(18,ti c.1),(24,.one (.int .u32) (List.getD c.2 0 0))]) o ?_
    obtain⟨W,e,h⟩:=al h;rw[e]
    refine ay ag 1 [2,3,6,7,8,9,10,11,18] (E':=[(2,ptr V 0),(3,ptr u 0),(6,ptr M 0),(7,ptr f.2 0),(8,ptr f.1 0),(9,ti c.1),(10,.one (.int .u32) W),(11,.one (.int .u32) (List.getD c.2 0 0)),(18,ti c.1)]) o ?_
    obtain⟨R,e,h⟩:=al h;rw[e]
    refine fa ?_
    refine zt<|zs<|eL kr kr ?_
    refine iE h λhc h=>q_y (bY o o hc.1 hc.2 jx cv) o ?_
    refine q_y (aL 0 (.elem 7 .here) o o pof (av pix aa) cv) o ?_
    refine ay ag 1 [2,3,6,7,8,9,10,11,18,26,27] (E':=[(2,ptr V 0),(3,ptr u 0),(6,ptr M 0),(7,ptr f.2 0),(8,ptr f.1 0),(9,ti c.1),(10,.one (.int .u32) W),(11,.one (.int .u32) R),(18,ti c.1),(26,.one (.int .u32) (List.getD c.2 7 0)),(27,.one (.int .u32) W)]) o ?_
    refine cB h λO b8 h=>jZ (ck W (-6) _ b8) kr o o o ?_
    refine ay ag 1 [2,3,6,7,8,9,10,11,18,26,28,29] (E':=[(2,ptr V 0),(3,ptr u 0),(6,ptr M 0),(7,ptr f.2 0),(8,ptr f.1 0),(9,ti c.1),(10,.one (.int .u32) W),(11,.one (.int .u32) R),(18,ti c.1),(26,.one (.int .u32) (List.getD c.2 7 0)),(28,.one (.int .u32) O),(29,.one (.int .u32) W)]) o ?_
    refine cB h λa4 b9 h=>jZ (ck W (-11) _ b9) kr o o o ?_
    refine ay ag 2 [2,3,6,7,8,9,10,11,18,26,31,32] (E':=[(2,ptr V 0),(3,ptr u 0),(6,ptr M 0),(7,ptr f.2 0),(8,ptr f.1 0),(9,ti c.1),(10,.one (.int .u32) W),(11,.one (.int .u32) R),(18,ti c.1),(26,.one (.int .u32) (List.getD c.2 7 0)),(31,.one (.int .u32) (cO .u32 O a4)),(32,.one (.int .u32) W)]) o ?_
    refine cB h λa7 c0 h=>jZ (ck W (-25) _ c0) kr o o o ?_
    refine ay ag 3 [2,3,6,7,8,9,10,11,18,35,36] (E':=[(2,ptr V 0),(3,ptr u 0),(6,ptr M 0),(7,ptr f.2 0),(8,ptr f.1 0),(9,ti c.1),(10,.one (.int .u32) W),(11,.one (.int .u32) R),(18,ti c.1),(35,.one (.int .u32) (wrap .u32 ((List.getD c.2 7 0)+(cO .u32 (cO .u32 O a4) a7)))),(36,.one (.int .u32) W)]) o ?_
    refine iE h λhc h=>q_y (bY o o hc.1 hc.2 jx cv) o ?_
    refine q_y (aL 0 (.elem 5 .here) o o pof (av pix aa) cv) o ?_
    refine ay ag 3 [2,3,6,7,8,9,10,11,18,35,39,41] (E':=[(2,ptr V 0),(3,ptr u 0),(6,ptr M 0),(7,ptr f.2 0),(8,ptr f.1 0),(9,ti c.1),(10,.one (.int .u32) W),(11,.one (.int .u32) R),(18,ti c.1),(35,.one (.int .u32) (wrap .u32 ((List.getD c.2 7 0)+(cO .u32 (cO .u32 O a4) a7)))),(39,.one (.int .u32) (dV .u32 W (List.getD c.2 5 0))),(41,.one (.int .u32) (qG .u32 W))]) o ?_
    refine iE h λhc h=>q_y (bY o o hc.1 hc.2 jx cv) o ?_
    refine q_y (aL 0 (.elem 6 .here) o o pof (av pix aa) cv) o ?_
    refine ay ag 2 [2,3,6,7,8,9,10,11,18,35,45] (E':=[(2,ptr V 0),(3,ptr u 0),(6,ptr M 0),(7,ptr f.2 0),(8,ptr f.1 0),(9,ti c.1),(10,.one (.int .u32) W),(11,.one (.int .u32) R),(18,ti c.1),(35,.one (.int .u32) (wrap .u32 ((List.getD c.2 7 0)+(cO .u32 (cO .u32 O a4) a7)))),(45,.one (.int .u32) (cO .u32 (dV .u32 W (List.getD c.2 5 0)) (dV .u32 (qG .u32 W) (List.getD c.2 6 0))))]) o ?_
    obtain⟨c1,e,h⟩:=al h;rw[e]
    refine ay ag 1 [2,3,6,7,8,9,10,11,18,46] (E':=[(2,ptr V 0),(3,ptr u 0),(6,ptr M 0),(7,ptr f.2 0),(8,ptr f.1 0),(9,ti c.1),(10,.one (.int .u32) W),(11,.one (.int .u32) R),(18,ti c.1),(46,.one (.int .u32) (wrap .u32 ((wrap .u32 ((List.getD c.2 7 0)+(cO .u32 (cO .u32 O a4) a7)))+c1)))]) o ?_
    obtain⟨a8,e,h⟩:=al h;rw[e]
    refine ay ag 3 [2,3,6,7,8,9,10,11,18,46,48,49] (E':=[(2,ptr V 0),(3,ptr u 0),(6,ptr M 0),(7,ptr f.2 0),(8,ptr f.1 0),(9,ti c.1),(10,.one (.int .u32) W),(11,.one (.int .u32) R),(18,ti c.1),(46,.one (.int .u32) a8),(48,ti c.1),(49,ptr V 0)]) o ?_
    refine iE h λhc h=>q_y (bY o o hc.1 hc.2 pL cv) o ?_
    refine q_y (aL 4 (.elem (Int.toNat c.1) .here) o o pof (av pix aa) cv) o ?_
    refine ay ag 2 [2,3,6,7,8,10,11,18,52,53] (E':=[(2,ptr V 0),(3,ptr u 0),(6,ptr M 0),(7,ptr f.2 0),(8,ptr f.1 0),(10,.one (.int .u32) W),(11,.one (.int .u32) R),(18,ti c.1),(52,.one (.int .u32) (wrap .u32 (a8+(List.getD N (Int.toNat c.1) 0)))),(53,ti c.1)]) o ?_
    refine iE h λhc h=>q_y (bY o o hc.1 hc.2 pL cv) o ?_
    refine q_y (aL 1 (.elem (Int.toNat c.1) .here) o o pof (av pix aa) cv) o ?_
    refine ay ag 1 [2,3,6,7,8,10,11,18,56] (E':=[(2,ptr V 0),(3,ptr u 0),(6,ptr M 0),(7,ptr f.2 0),(8,ptr f.1 0),(10,.one (.int .u32) W),(11,.one (.int .u32) R),(18,ti c.1),(56,.one (.int .u32) (wrap .u32 ((wrap .u32 (a8+(List.getD N (Int.toNat c.1) 0)))+(List.getD J (Int.toNat c.1) 0))))]) o ?_
    obtain⟨G,e,h⟩:=al h;rw[e]
    refine ay ag 1 [2,3,6,7,8,10,11,12,18] (E':=[(2,ptr V 0),(3,ptr u 0),(6,ptr M 0),(7,ptr f.2 0),(8,ptr f.1 0),(10,.one (.int .u32) W),(11,.one (.int .u32) R),(12,.one (.int .u32) G),(18,ti c.1)]) o ?_
    refine fa ?_
    refine zt<|zs<|eL kr kr ?_
    refine ay ag 1 [2,3,6,7,8,10,11,12,18,57] (E':=[(2,ptr V 0),(3,ptr u 0),(6,ptr M 0),(7,ptr f.2 0),(8,ptr f.1 0),(10,.one (.int .u32) W),(11,.one (.int .u32) R),(12,.one (.int .u32) G),(18,ti c.1),(57,.one (.int .u32) R)]) o ?_
    refine cB h λd c2 h=>jZ (ck R (-2) _ c2) kr o o o ?_
    refine ay ag 1 [2,3,6,7,8,10,11,12,18,58,59] (E':=[(2,ptr V 0),(3,ptr u 0),(6,ptr M 0),(7,ptr f.2 0),(8,ptr f.1 0),(10,.one (.int .u32) W),(11,.one (.int .u32) R),(12,.one (.int .u32) G),(18,ti c.1),(58,.one (.int .u32) d),(59,.one (.int .u32) R)]) o ?_
    refine cB h λZ c3 h=>jZ (ck R (-13) _ c3) kr o o o ?_
    refine ay ag 2 [2,3,6,7,8,10,11,12,18,61,62] (E':=[(2,ptr V 0),(3,ptr u 0),(6,ptr M 0),(7,ptr f.2 0),(8,ptr f.1 0),(10,.one (.int .u32) W),(11,.one (.int .u32) R),(12,.one (.int .u32) G),(18,ti c.1),(61,.one (.int .u32) (cO .u32 d Z)),(62,.one (.int .u32) R)]) o ?_
    refine cB h λa5 c4 h=>jZ (ck R (-22) _ c4) kr o o o ?_
    refine ay ag 2 [2,3,6,7,8,10,11,12,18,64,65] (E':=[(2,ptr V 0),(3,ptr u 0),(6,ptr M 0),(7,ptr f.2 0),(8,ptr f.1 0),(10,.one (.int .u32) W),(11,.one (.int .u32) R),(12,.one (.int .u32) G),(18,ti c.1),(64,.one (.int .u32) (cO .u32 (cO .u32 d Z) a5)),(65,.one (.int .u32) R)]) o ?_
    refine iE h λhc h=>q_y (bY o o hc.1 hc.2 jx cv) o ?_
    refine q_y (aL 0 (.elem 1 .here) o o pof (av pix aa) cv) o ?_
    refine ay ag 2 [2,3,6,7,8,10,11,12,18,64,68,69] (E':=[(2,ptr V 0),(3,ptr u 0),(6,ptr M 0),(7,ptr f.2 0),(8,ptr f.1 0),(10,.one (.int .u32) W),(11,.one (.int .u32) R),(12,.one (.int .u32) G),(18,ti c.1),(64,.one (.int .u32) (cO .u32 (cO .u32 d Z) a5)),(68,.one (.int .u32) (dV .u32 R (List.getD c.2 1 0))),(69,.one (.int .u32) R)]) o ?_
    refine iE h λhc h=>q_y (bY o o hc.1 hc.2 jx cv) o ?_
    refine q_y (aL 0 (.elem 2 .here) o o pof (av pix aa) cv) o ?_
    refine ay ag 2 [2,3,6,7,8,10,11,12,18,64,73] (E':=[(2,ptr V 0),(3,ptr u 0),(6,ptr M 0),(7,ptr f.2 0),(8,ptr f.1 0),(10,.one (.int .u32) W),(11,.one (.int .u32) R),(12,.one (.int .u32) G),(18,ti c.1),(64,.one (.int .u32) (cO .u32 (cO .u32 d Z) a5)),(73,.one (.int .u32) (cO .u32 (dV .u32 R (List.getD c.2 1 0)) (dV .u32 R (List.getD c.2 2 0))))]) o ?_
    refine iE h λhc h=>q_y (bY o o hc.1 hc.2 jx cv) o ?_
    refine q_y (aL 0 (.elem 1 .here) o o pof (av pix aa) cv) o ?_
    refine iE h λhc h=>q_y (bY o o hc.1 hc.2 jx cv) o ?_
    refine q_y (aL 0 (.elem 2 .here) o o pof (av pix aa) cv) o ?_
    refine ay ag 2 [2,3,6,7,8,10,11,12,18,64,79] (E':=[(2,ptr V 0),(3,ptr u 0),(6,ptr M 0),(7,ptr f.2 0),(8,ptr f.1 0),(10,.one (.int .u32) W),(11,.one (.int .u32) R),(12,.one (.int .u32) G),(18,ti c.1),(64,.one (.int .u32) (cO .u32 (cO .u32 d Z) a5)),(79,.one (.int .u32) (cO .u32 (cO .u32 (dV .u32 R (List.getD c.2 1 0)) (dV .u32 R (List.getD c.2 2 0))) (dV .u32 (List.getD c.2 1 0) (List.getD c.2 2 0))))]) o ?_
    obtain⟨c5,e,h⟩:=al h;rw[e]
    refine ay ag 2 [2,3,6,7,8,10,11,12,13,18] (E':=[(2,ptr V 0),(3,ptr u 0),(6,ptr M 0),(7,ptr f.2 0),(8,ptr f.1 0),(10,.one (.int .u32) W),(11,.one (.int .u32) R),(12,.one (.int .u32) G),(13,.one (.int .u32) (wrap .u32 ((cO .u32 (cO .u32 d Z) a5)+c5))),(18,ti c.1)]) o ?_
    obtain⟨c6,e,h⟩:=al h;rw[e]
    refine fa ?_
    refine zt<|zr<|zm 4 o<|iE h λhc h=>y (bY o o hc.1 hc.2 jx cv) o ?_
    refine y (aL 0 (.elem 1 .here) o o pof (av pix aa) cv) o ?_
    refine iE h λhc h=>y (bY o o hc.1 hc.2 jx cv) o ?_
    refine y (aL 0 (.elem 2 .here) o o pof (av pix aa) cv) o ?_
    refine iE h λhc h=>y (bY o o hc.1 hc.2 jx cv) o ?_
    refine y (aL 0 (.elem 3 .here) o o pof (av pix aa) cv) o ?_
    refine zm 3 o<|iE h λhc h=>y (bY o o hc.1 hc.2 jx cv) o ?_
    refine y (aL 0 (.elem 5 .here) o o pof (av pix aa) cv) o ?_
    refine iE h λhc h=>y (bY o o hc.1 hc.2 jx cv) o ?_
    refine y (aL 0 (.elem 6 .here) o o pof (av pix aa) cv) o ?_
    refine y (aY o pJ o o (.cons (.elem 0 .here) o o (av pix aa) (.cons (.elem 1 .here) o o (av pix aa) (.cons (.elem 2 .here) o o (av pix aa) (.cons (.elem 3 .here) o o (av pix aa) (.cons (.elem 4 .here) o o (av pix aa) (.cons (.elem 5 .here) o o (av pix aa) (.cons (.elem 6 .here) o o (av pix aa) (.cons (.elem 7 .here) o o (av pix aa) .nil))))))))) o ?_
    exact st 0 .here lB o o o o tr<|zn<|zi<|zt<|zr<|zA o<|aX ((wrap .i64 (c.1+1)),[(wrap .u32 (G+c6)),R,(List.getD c.2 1 0),(List.getD c.2 2 0),(wrap .u32 ((List.getD c.2 3 0)+G)),W,(List.getD c.2 5 0),(List.getD c.2 6 0)]) () (Nat.lt_succ_self _) h o o
   exact zx<|ze<|ze<|zq<|zt<|ai c.2 () h o o
  refine bv h (λa9=>[(6,ptr M 0),(8,ptr f.1 0)]) (λa9=>[Res.var f.1 353 W67 a9,Res.var f.2 354 W65 J,Res.var M 353 W67 (List.replicate 8 (0:Int)),Res.var u 353 W67 H,Res.var V 354 W65 N]) (λc7 h=>?_) λa9 h=>?_
  ·refine zW o<|zb<|ah [3,6,8,100] o<|bg (γ:=Unit) (λ(C:Int×List (Int)) _=>[(3,ptr u 0),(6,ptr M 0),(8,ptr f.1 0),(100,ti C.1)]) (λ(C:Int×List (Int)) _=>[Res.var f.1 353 W67 C.2,Res.var f.2 354 W65 J,Res.var M 353 W67 (List.replicate 8 (0:Int)),Res.var u 353 W67 H,Res.var V 354 W65 N]) (gY H c7) (0,a6) () h o o ?_
   clear h
   intro b1 C gg h
   cases b1 with
   |zero=>cases h
   |succ b1=>
   simp only[gY]at h
   refine zW o<|zs<|rI h o (λhc h=>?_) λhc h=>?_
   ·refine zk<|zt<|zs<|zb<|zu<|q 2 [(3,ptr u 0),(6,ptr M 0),(8,ptr f.1 0),(14,ti C.1),(100,ti C.1)] [] o<|za<|dS kr<|zF 1 [0] kr o o<|iE h λhc h=>ga 1 (ptr f.1 (0+(Int.toNat C.1)*1)) o kr (bY o o hc.1 hc.2 jx cv)<|zF 1 [3] kr o o<|iE h λhc h=>ga 4 (ptr u (0+(Int.toNat C.1)*1)) o kr (bY o o hc.1 hc.2 jx cv) ?_
    refine o4 (fuel:=1) [2,5,6,7] #[true,true,true,true,true,true,true,true,false] kr ?_
    refine q_y (aL 0 (.elem (Int.toNat C.1) .here) o o pof (av pix aa) cv) o ?_
    refine q_y (aL 3 (.elem (Int.toNat C.1) .here) o o pof (av pix aa) cv) o ?_
    refine ay ag 1 [3,6,8,100,103,109] (E':=[(3,ptr u 0),(6,ptr M 0),(8,ptr f.1 0),(100,ti C.1),(103,ti C.1),(109,.one (.int .u32) (wrap .u32 ((List.getD C.2 (Int.toNat C.1) 0)+(List.getD H (Int.toNat C.1) 0))))]) o ?_
    obtain⟨c8,e,h⟩:=al h;rw[e]
    refine iE h λhc h=>q_y (bY o o hc.1 hc.2 jx cv) o ?_
    refine fa ?_
    exact ah [3,6,8,100,109,110] o<|af 8 kr o<|kV 0 (.elem (Int.toNat C.1) .here) o o o pof (av pix aa) cv<|zL [3,6,8,100] o<|aN kr<|zi<|zt<|zr<|zA o<|aX ((wrap .i64 (C.1+1)),(List.set C.2 (Int.toNat C.1) c8)) () (Nat.lt_succ_self _) h o o
   exact zx<|ze<|ze<|zq<|zt<|ai C.2 () h o o
  refine zu<|yl 0 .here lB o o o tr o<|st 2 .here lB o o o o tr<|zf ?_
  cases h
  exact aS o (.cell 2 .here o o o aa lB) (λ_ _ g=>g) (λ_ _ _=>(.cons _ (.cons _ (.cons _ (.cons _ (.cons_cons _ .slnil))))))
 refine zH 1 [0] (ae (ak 1 o) aj) kr o o λs=>bl 2 (.one W67 H) s o kr (cq (S:=λw=>bC [aV u 353 W67 H] w) (bn 0 o) 1 .here o o o o aa lB) λs=>?_
 refine EV (i:=1) (j:=3) (l:=4) kr o o o ?_ ?_ ?_
 ·refine ar (jv _ _ a3) kr o o<|za<|aR (ae (ak 1 o) aj) ?_
  refine ah [2,3,6,16,17] o ?_
  refine qw (i:=3) (j:=4) kr o o ?_ ?_
  ·refine aC (t:=W65) o oV o λc9=>za<|aR (ae (ak 2 o) aj) ?_
   refine ah [2,3,6,7,16,17] o<|az 4 kr o<|aC (t:=W67) o pJ o λd0=>za<|aR (ae (ak 3 o) aj) ?_
   refine ah [2,3,6,7,8,16,17] o<|az 5 kr o<|st 1 .here mZ o o o o tr<|za<|aR (ae (ak 3 o) aj) ?_
   refine ah [2,3,6,7,8,17] o<|az 6 kr o<|st 0 .here lB o o o o tr<|nL o<|za<|aR (ae (ak 3 o) aj) ?_
   exact ah [2,3,6,7,8] o<|dF kr<|ah [2,3,6,7,8] o<|m (d0,c9)
  refine aC (t:=W67) o pJ o λd1=>za<|aR (ae (ak 2 o) aj) ?_
  refine ah [2,3,6,8,16,17] o<|az 3 kr o<|aC (t:=W65) o oV o λd2=>za<|aR (ae (ak 3 o) aj) ?_
  refine ah [2,3,6,7,8,16,17] o<|az 5 kr o<|st 0 .here mZ o o o o tr<|za<|aR (ae (ak 3 o) aj) ?_
  refine ah [2,3,6,7,8,17] o<|az 6 kr o<|st 1 .here lB o o o o tr<|nL o<|za<|aR (ae (ak 3 o) aj) ?_
  exact ah [2,3,6,7,8] o<|dF kr<|ah [2,3,6,7,8] o<|pk [1,0,0,0,0] o<|m (d1,d2)
 ·refine aC (t:=W65) o oV o λb3=>za<|aR (ae (ak 2 o) aj) ?_
  refine ah [2,3,6,7,15,17] o ?_
  refine qw (i:=1) (j:=4) kr o o ?_ ?_
  ·refine ar (jv _ _ a3) kr o o<|za<|aR (ae (ak 2 o) aj) ?_
   refine ah [2,3,6,7,16,17] o<|az 4 kr o<|aC (t:=W67) o pJ o λd3=>za<|aR (ae (ak 3 o) aj) ?_
   refine ah [2,3,6,7,8,16,17] o<|az 5 kr o<|st 1 .here mZ o o o o tr<|za<|aR (ae (ak 3 o) aj) ?_
   refine ah [2,3,6,7,8,17] o<|az 6 kr o<|st 0 .here lB o o o o tr<|nL o<|za<|aR (ae (ak 3 o) aj) ?_
   exact ah [2,3,6,7,8] o<|dF kr<|ah [2,3,6,7,8] o<|m (d3,b3)
  refine aC (t:=W67) o pJ o λd4=>za<|aR (ae (ak 3 o) aj) ?_
  refine ah [2,3,6,7,8,15,17] o<|az 1 kr o<|ar (jv _ _ a3) kr o o<|za<|aR (ae (ak 3 o) aj) ?_
  refine ah [2,3,6,7,8,16,17] o<|az 5 kr o<|st 1 .here mZ o o o o tr<|za<|aR (ae (ak 3 o) aj) ?_
  refine ah [2,3,6,7,8,17] o<|az 6 kr o<|st 0 .here lB o o o o tr<|nL o<|za<|aR (ae (ak 3 o) aj) ?_
  exact ah [2,3,6,7,8] o<|dF kr<|ah [2,3,6,7,8] o<|m (d4,b3)
 refine aC (t:=W67) o pJ o λb6=>za<|aR (ae (ak 2 o) aj) ?_
 refine ah [2,3,6,8,15,17] o ?_
 refine qw (i:=1) (j:=3) kr o o ?_ ?_
 ·refine ar (jv _ _ a3) kr o o<|za<|aR (ae (ak 2 o) aj) ?_
  refine ah [2,3,6,8,16,17] o<|az 3 kr o<|aC (t:=W65) o oV o λd5=>za<|aR (ae (ak 3 o) aj) ?_
  refine ah [2,3,6,7,8,16,17] o<|az 5 kr o<|st 0 .here mZ o o o o tr<|za<|aR (ae (ak 3 o) aj) ?_
  refine ah [2,3,6,7,8,17] o<|az 6 kr o<|st 1 .here lB o o o o tr<|nL o<|za<|aR (ae (ak 3 o) aj) ?_
  exact ah [2,3,6,7,8] o<|dF kr<|ah [2,3,6,7,8] o<|pk [1,0,0,0,0] o<|m (b6,d5)
 refine aC (t:=W65) o oV o λd6=>za<|aR (ae (ak 3 o) aj) ?_
 refine ah [2,3,6,7,8,15,17] o<|az 1 kr o<|ar (jv _ _ a3) kr o o<|za<|aR (ae (ak 3 o) aj) ?_
 refine ah [2,3,6,7,8,16,17] o<|az 5 kr o<|st 0 .here mZ o o o o tr<|za<|aR (ae (ak 3 o) aj) ?_
 refine ah [2,3,6,7,8,17] o<|az 6 kr o<|st 1 .here lB o o o o tr<|nL o<|za<|aR (ae (ak 3 o) aj) ?_
 exact ah [2,3,6,7,8] o<|dF kr<|ah [2,3,6,7,8] o<|pk [1,0,0,0,0] o<|m (b6,d6)
theorem uP(w r)(h:oz w=some r):bm PP 267 [.one W78 w] (.one W66 r):=by
 unfold oz at h
 refine enter Tryz.func267 o 71 o o λF=>?_
 refine zu<|aC (t:=W66) o oB o λc=>zZ 1 o<|cB h λW a5 h=>ar (wa _ _ _ a5) kr o o<|zm 1 o<|zz<|q 3 [(2,ptr c 0),(3,ts W),(4,ti (List.length W:Int))] [] o ?_
 obtain⟨n4,e,h⟩:=al h;rw[e]
 refine zz<|bu (B:=1) ag o el5 o o o (.cons o .nil) o λv5=>?_
 refine p 1 [2,3,4,5] o<|za<|jK h (γ:=Value) (λm g8=>[(2,ptr c 0),(3,ts W),(4,ti n4),(5,.one W62 g8)]) (λm g8=>[Res.own g8 5 (.int .u8) m,Res.var c 26 W66 z32]) (λk6 h=>?_) λm g8 h=>?_
 ·refine zb<|ah [2,3,4,5] o<|bg (γ:=Value) (λ(N:List (Int)) J=>[(2,ptr c 0),(3,ts W),(4,ti n4),(5,.one W62 J)]) (λ(N:List (Int)) J=>[Res.own J 5 (.int .u8) N,Res.var c 26 W66 z32]) (mI n4 k6) [128] v5 h o o ?_
  clear h
  intro Z N J h
  cases Z with
  |zero=>cases h
  |succ Z=>
  simp only[mI]at h
  refine zs<|zU 2 o<|y (bW ag 0 o o o) o ?_
  refine zA o<|rI h o (λhc h=>?_) λhc h=>?_
  ·refine zk<|zt<|zb<|zr<|zm 1 o<|bu (B:=1) ag o el5 o o o (.cons o .nil) o λb8=>?_
   refine iE h λhc h=>bd (B:=1) ag 1 o o (bL 0 o o) o el5 o o hc o λa6=>?_
   exact pk [1,1] o<|zN o<|zi<|zt<|aX (N++[0]) a6 (Nat.lt_succ_self _) h o o
  exact zx<|ze<|ze<|zq<|zt<|ai N J h o o
 refine jK h (γ:=Value) (λC g11=>[(2,ptr c 0),(3,ts W),(5,.one W62 g11)]) (λC g11=>[Res.own g11 5 (.int .u8) C,Res.var c 26 W66 z32]) (λk9 h=>?_) λC g11 h=>?_
 ·refine zW o<|zb<|ah [2,3,4,5,25] o<|bg (γ:=Value) (λ(V:Int×List (Int)) H=>[(2,ptr c 0),(3,ts W),(4,ti n4),(5,.one W62 H),(25,ti V.1)]) (λ(V:Int×List (Int)) H=>[Res.own H 5 (.int .u8) V.2,Res.var c 26 W66 z32]) (mH n4 k9) (0,m) g8 h o o ?_
  clear h
  intro a1 V H h
  cases a1 with
  |zero=>cases h
  |succ a1=>
  simp only[mH]at h
  refine zW o<|zs<|rI h o (λhc h=>?_) λhc h=>?_
  ·refine zk<|zt<|zs<|zb<|zW o<|zr<|zm 7 o<|iE h λhc h=>y (oF o o hc) o ?_
   refine q 1 [(2,ptr c 0),(3,ts W),(4,ti n4),(25,ti V.1),(28,.one W62 H),(36,.one (.int .u8) (wrap .u8 (bS .u64 (wrap .u64 (wrap .i64 (8*n4))) (wrap .i64 (56 - (wrap .i64 (8*V.1)))))))] [] o ?_
   obtain⟨a7,e,h⟩:=al h;rw[e]
   refine bu (B:=1) ag o el5 o o o (.cons o .nil) o λb9=>?_
   refine iE h λhc h=>bd (B:=1) ag 1 o o (bL 0 o o) o el5 o o hc o λa8=>?_
   exact pk [1,1] o<|zN o<|zi<|zt<|zr<|zA o<|aX ((wrap .i64 (V.1+1)),(V.2++[a7])) a8 (Nat.lt_succ_self _) h o o
  exact zx<|ze<|ze<|zq<|zt<|ai V.2 H h o o
 refine zU 2 o<|y (vx ag 0 o o o o o) o ?_
 refine iE h λhc h=>y (jN o o hc) o ?_
 refine q 1 [(2,ptr c 0),(3,ts (W++C))] [] o ?_
 obtain⟨a9,e,h⟩:=al h;rw[e]
 refine zz<|y (aY o pJ o o (.cons (.elem 0 .here) o o (av pix aa) (.cons (.elem 1 .here) o o (av pix aa) (.cons (.elem 2 .here) o o (av pix aa) (.cons (.elem 3 .here) o o (av pix aa) (.cons (.elem 4 .here) o o (av pix aa) (.cons (.elem 5 .here) o o (av pix aa) (.cons (.elem 6 .here) o o (av pix aa) (.cons (.elem 7 .here) o o (av pix aa) .nil))))))))) o ?_
 refine aC (t:=W67) o pJ o λR=>st 0 .here lB o o o o tr<|zz<|cB h λb0 b1 h=>ar (uA _ b1) kr o o<|aC (t:=W65) o oV o λG=>st 0 .here mZ o o o o tr<|nL o<|za<|bv h (λM=>[(2,ptr c 0),(7,ptr R 0)]) (λM=>[Res.var G 354 W65 M.1,Res.var R 353 W67 M.2,Res.own g11 5 (.int .u8) C,Res.var c 26 W66 z32]) (λb3 h=>?_) λM h=>?_
 ·refine zb<|ah [2,3,7,8] o<|bg (γ:=Unit) (λ(u:List Int×List (Int)×List (Int)) _=>[(2,ptr c 0),(3,ts u.1),(7,ptr R 0),(8,ptr G 0)]) (λ(u:List Int×List (Int)×List (Int)) _=>[Res.var G 354 W65 u.2.1,Res.var R 353 W67 u.2.2,Res.own g11 5 (.int .u8) C,Res.var c 26 W66 z32]) (kZ b3) (a9,b0,[1779033703,3144134277,1013904242,2773480762,1359893119,2600822924,528734635,1541459225]) () h o o ?_
  clear h
  intro a2 u gg h
  cases a2 with
  |zero=>cases h
  |succ a2=>
  simp only[kZ]at h
  refine zs<|zW o<|rI h o (λhc h=>?_) λhc h=>?_
  ·refine zk<|zt<|zs<|zb<|dS kr<|zF 1 [1] kr o o<|iE h λhc h=>ga 2 (ts (List.drop 0 (List.take 64 u.1))) o kr (jB (i:=(0:Int)) (j:=64) ag o o o hc.1 hc.2.1 hc.2.2 o)<|af 0 kr o<|yl 1 .here lB o o o tr o<|zL [2,3,7,8,50,52] o<|af 3 kr o<|cB h λa3 b4 h=>rc [0] (wF _ _ _ _ _ b4) kr o o o λ_=>?_
   refine zL [2,3,7,8,53] o<|af 4 kr o<|st 1 .here lB o o o o tr<|zL [2,3,7,8] o<|aN kr<|zi<|zt<|zr<|zm 1 o<|iE h λhc h=>y (jB (i:=64) (j:=(List.length u.1:Int)) ag o o o hc.1 hc.2.1 hc.2.2 o) o ?_
   refine q 1 [(3,ts (List.drop 64 (List.take (Int.toNat (List.length u.1:Int)) u.1))),(7,ptr R 0),(8,ptr G 0)] [2] o ?_
   obtain⟨b5,e,h⟩:=al h;rw[e]
   exact za<|aX (b5,a3.2,a3.1) () (Nat.lt_succ_self _) h o o
  exact zx<|ze<|ze<|zq<|zt<|ai (u.2.1,u.2.2) () h o o
 refine zu<|aC (t:=W66) o oB o λd=>za<|bv h (λO=>[(2,ptr c 0),(9,ptr d 0)]) (λO=>[Res.var d 26 W66 O,Res.var G 354 W65 M.1,Res.var R 353 W67 M.2,Res.own g11 5 (.int .u8) C,Res.var c 26 W66 z32]) (λb6 h=>?_) λO h=>?_
 ·refine zW o<|zb<|ah [2,7,9,54] o<|bg (γ:=Unit) (λ(f:Int×List (Int)) _=>[(2,ptr c 0),(7,ptr R 0),(9,ptr d 0),(54,ti f.1)]) (λ(f:Int×List (Int)) _=>[Res.var d 26 W66 f.2,Res.var G 354 W65 M.1,Res.var R 353 W67 M.2,Res.own g11 5 (.int .u8) C,Res.var c 26 W66 z32]) (jI M b6) (0,z32) () h o o ?_
  clear h
  intro a4 f gg h
  cases a4 with
  |zero=>cases h
  |succ a4=>
  simp only[jI]at h
  refine zW o<|zs<|rI h o (λhc h=>?_) λhc h=>?_
  ·refine zk<|zt<|zs<|zb<|zW o<|zr<|zm 3 o<|iE h λhc h=>y (bY o o hc.1 hc.2 jx cv) o ?_
   refine y (aL 2 (.elem (Int.toNat (wrap .i64 (Int.tdiv f.1 4))) .here) o o pof (av pix aa) cv) o ?_
   refine zm 4 o<|iE h λhc h=>y (oF o o hc) o ?_
   refine q 1 [(2,ptr c 0),(7,ptr R 0),(9,ptr d 0),(54,ti f.1),(57,ti f.1),(67,.one (.int .u8) (wrap .u8 (bS .u32 (List.getD M.2 (Int.toNat (wrap .i64 (Int.tdiv f.1 4))) 0) (wrap .i64 (24 - (wrap .i64 (8*(Int.tmod f.1 4))))))))] [] o ?_
   obtain⟨b7,e,h⟩:=al h;rw[e]
   refine iE h λhc h=>y (bY o o hc.1 hc.2 vk ty5) o ?_
   exact kV 0 (.elem (Int.toNat f.1) .here) o o o pof (av pix aa) ty5<|zn<|zi<|zt<|zr<|zA o<|aX ((wrap .i64 (f.1+1)),(List.set f.2 (Int.toNat f.1) b7)) () (Nat.lt_succ_self _) h o o
  exact zx<|ze<|ze<|zq<|zt<|ai f.2 () h o o
 refine zu<|yl 0 .here bH o o o tr o<|st 4 .here bH o o o o tr<|zf ?_
 cases h
 exact aS o (.cell 4 .here o o o aa bH) (λ_ _ g=>g) (λ_ _ _=>List.nil_sublist _)
theorem rQ(M R c r)(h:la M R c=some r):bm PP 262 [.one W76 M,.one W76 R,.one Y52 c] (ti r):=by
 unfold la at h
 refine enter Tryz.func262 o 59 o o λF=>?_
 refine zu<|bA o o λf=>zA o<|zs<|zW o<|rI h o (λhc h=>zU 1 o<|zf<|zT<|by cases h;exact ax o (.tmp o)) λhc h=>zk<|zt<|zs<|zu<|yl 0 .here bB o o o tr o<|cB h λZ C h=>ar (iy _ _ C) kr o o<|zA o ?_
 refine rI h o (λhc h=>zU 1 o<|zf<|zT<|by cases h;exact ax o (.tmp o)) λhc h=>zk<|zt<|zs<|zU 1 o<|yl 0 f0 ty3 o o o tr o<|zA o<|rI h o (λhc h=>?_) λhc h=>?_
 ·refine zs<|zs<|eL kr kr ?_
  refine ay ag 1 [0,20] (E':=[(0,.one W76 M),(20,ptr f 1)]) o ?_
  refine q_y (aL 0 f1 o o o (ab (aq aa)) ty2) o ?_
  refine ay ag 1 [21,22] (E':=[(21,ti c.2.1),(22,.one W76 M)]) o ?_
  refine cB h λH G h=>jZ (wD M _ G) kr o o o ?_
  refine ay ag 1 [24] (E':=[(24,tb (c.2.1 !=H))]) o ?_
  refine fa ?_
  refine zt<|rI h o (λhc h=>zU 1 o<|zf<|zT<|zT<|by cases h;exact ax o (.tmp o)) λhc h=>zy<|zE o<|zT ?_
  cases h
  exact ax o (.tmp o)
 refine zy<|zm 2 o<|yl 0 f1 ty2 o o o tr o<|cB h λu N h=>ar (wE _ _ _ N) kr o o<|zm 3 o<|aC (t:=Y52) o ja o λV=>st 0 .here bB o o o o tr<|zm 1 o<|zZ 2 o<|yl 1 f1 ty2 o o o tr o<|cB h λW J h=>ar (uz _ _ _ J) kr o o<|zm 3 o ?_
 refine aC (t:=Y52) o ja o λa3=>st 0 .here bB o o o o tr<|nL o<|zA o<|zs<|zs<|gE (S:=bC [aV f 52 Y52 c,aV V 52 Y52 u.1]) kr ?_
 refine zH 3 [0,1,2] (ae (ak 2 o) (ae (ak 1 o) aj)) kr o o λs=>?_
 refine om (d:=41) (b:=(!u.2)) o (λhb=>?_) (λhb=>?_)
 ·rw[if_pos hb]at h
  refine zH 1 [3] (ae (ak 2 o) (ae (ak 1 o) aj)) kr o o λs=>az 4 kr o<|zA o<|aR (ae (ak 2 o) (ae (ak 1 o) aj)) ?_
  refine ah [5,7,43] o<|zH 14 [5,6,7,8,9,10,11,12,13,14,15,16,17,18] (ae (ak 2 o) (ae (ak 1 o) aj)) kr o o λs=>az 19 kr o<|zA o<|aR (ae (ak 2 o) (ae (ak 1 o) aj)) ?_
  refine ah [58] o<|dF kr<|zt ?_
  refine ii (b:=true) o (λhc=>?_) (λhc=>?_)
  ·refine zU 1 o<|zf<|zT ?_
   cases h
   exact ax o (.tmp o)
  cases hc
 rw[if_neg (ne_true_of_eq_false hb)]at h
 refine dX 3 41 (tb W.2) (ae (ak 2 o) (ae (ak 1 o) aj)) o kr o (fY ag o) λs=>az 4 kr o<|zA o<|aR (ae (ak 2 o) (ae (ak 1 o) aj)) ?_
 refine ah [5,7,43] o<|zH 1 [5] (ae (ak 2 o) (ae (ak 1 o) aj)) kr o o λs=>?_
 refine om (d:=44) (b:=W.2) o (λhb=>?_) (λhb=>?_)
 ·rw[if_pos hb]at h
  refine zH 13 [6,7,8,9,10,11,12,13,14,15,16,17,18] (ae (ak 2 o) (ae (ak 1 o) aj)) kr o o λs=>az 19 kr o<|zA o<|aR (ae (ak 2 o) (ae (ak 1 o) aj)) ?_
  refine ah [58] o<|dF kr<|zt ?_
  refine ii (b:=true) o (λhc=>?_) (λhc=>?_)
  ·refine zU 1 o<|zf<|zT ?_
   cases h
   exact ax o (.tmp o)
  cases hc
 rw[if_neg (ne_true_of_eq_false hb)]at h
 refine dX 6 44 (ptr f 0) (ae (ak 2 o) (ae (ak 1 o) aj)) o kr o (fY ag o) λs=>dX 7 44 (ti c.1) s o kr o (cq (S:=λw=>bC [aV f 52 Y52 c,aV V 52 Y52 u.1] w) (bn 0 o) 2 f0 o o o o (aq aa) ty3) λs=>dX 8 44 (tb (c.1==2)) s o kr o (fY ag o) λs=>dX 9 44 (tb (c.1==2)) s o kr o (fY ag o) λs=>?_
 refine om (d:=48) (b:=(c.1==2)) o (λhb=>?_) (λhb=>?_)
 ·rw[if_pos hb]at h
  refine dX 10 48 (ptr f 3) (ae (ak 2 o) (ae (ak 1 o) aj)) o kr o (fY ag o) λs=>dX 11 48 (.one W62 (.slice (some ⟨f,3,none⟩) 32 32)) s o kr o (uh o vk o ty5) λs=>dX 12 48 (ts c.2.2.2.1) s o kr o (Bl (S:=λw=>bC [aV f 52 Y52 c,aV V 52 Y52 u.1] w) (bn 0 o) ag 2 f3 o o o (ab (ab (ab (aq aa)))) o o o o) λs=>dX 15 48 (ptr V 3) s o kr o (fY ag o) λs=>dX 16 48 (.one W66 u.1.2.2.2.1) s o kr o (cq (S:=λw=>bC [aV f 52 Y52 c,aV V 52 Y52 u.1] w) (bn 1 o) 1 f3 o o o o (ab (ab (ab (aq aa)))) bH) λs=>az 13 kr o<|am dl o ?_
  refine bu (B:=16) ag o el9 o o o (.cons o .nil) o λa4=>?_
  refine za<|aR (ae (ak 3 o) (ae (ak 2 o) aj)) ?_
  refine ah [44,48,52,55] o<|az 14 kr o<|am dl o ?_
  refine kB (i:=0) (k:=52) o o ?_
  refine cB h λm O h=>ar (uP _ _ O) kr o o<|za<|aR (ae (ak 2 o) (ae (ak 1 o) aj)) ?_
  refine ah [44,48,53,55] o<|dX 17 48 (tb (!eqD W66 m u.1.2.2.2.1)) (ae (ak 2 o) (ae (ak 1 o) aj)) o kr o (oH 20 o o o o bH o vl vm) λs=>az 18 kr o<|am dl o ?_
  refine zA o<|aR (ae (ak 2 o) (ae (ak 1 o) aj)) ?_
  refine ah [44,57] o<|az 19 kr o<|zA o<|aR (ae (ak 2 o) (ae (ak 1 o) aj)) ?_
  refine ah [58] o<|dF kr<|zt<|rI h o (λhc h=>zU 1 o<|zf<|zT<|by cases h;exact ax o (.tmp o)) λhc h=>zy<|zE o ?_
  cases h
  exact ax o (.tmp o)
 rw[if_neg (ne_true_of_eq_false hb)]at h
 refine zH 8 [10,11,12,13,14,15,16,17] (ae (ak 2 o) (ae (ak 1 o) aj)) kr o o λs=>az 18 kr o<|am dl o ?_
 refine zA o<|aR (ae (ak 2 o) (ae (ak 1 o) aj)) ?_
 refine ah [44,57] o<|az 19 kr o<|zA o<|aR (ae (ak 2 o) (ae (ak 1 o) aj)) ?_
 refine ah [58] o<|dF kr<|zt ?_
 refine ii (b:=false) o (λhc=>?_) (λhc=>?_)
 ·cases hc
 refine zy<|zE o ?_
 cases h
 exact ax o (.tmp o)
theorem sW(C:Value)(u c r)(h:iI u c=some r):Fn PP 258 [.one W72 u,tp C] [Res.cls cN C c] (λ_=>tb r.1) (λ_=>[Res.clsor cN C r.2 r.1]):=by
 unfold iI at h
 refine enter Tryz.func258 o 28 o o λF=>?_
 refine mc λM m O w hp=>?_
 subst hp
 refine gA (x:=c) ?_
 refine zu<|bA o o λV=>zA o<|zs<|zs<|pk [1,0] o<|jL λG H N=>?_
 refine eL kr kr ?_
 refine ay ag 3 [1,2,7] (E':=[(1,ptr M 0),(2,ptr V 0),(7,ptr M 4)]) o ?_
 refine q_y (aL 0 f4 o o o (ab (ab (ab (ab (aq aa))))) tx1) o ?_
 refine ay ag 3 [1,2,8,11] (E':=[(1,ptr M 0),(2,ptr V 0),(8,.one W62 G),(11,ptr M 5)]) o ?_
 refine q_y (aL 0 f5 o o o (ab (ab (ab (ab (ab (aq aa)))))) tx1) o ?_
 refine ay ag 1 [1,2,8,12,13] (E':=[(1,ptr M 0),(2,ptr V 0),(8,.one W62 G),(12,.one W62 H),(13,ptr V 0)]) o ?_
 refine q_y (aL 4 f0 o o o (aq aa) bB) o ?_
 refine cB h λJ d h=>Av (rQ c.2.2.2.2.1 c.2.2.2.2.2.1 u.1 _ d) kr o (.own 1 o o (.own 2 o o (.val o .nil))) o ?_
 refine ay ag 1 [1,2,16] (E':=[(1,ptr M 0),(2,ptr V 0),(16,tb (J !=0))]) o ?_
 refine fa ?_
 refine zt<|rI h o (λhc h=>zU 1 o<|zf<|zT<|aw (R':=Res.clsor cN (.pointer (some ⟨M,0,none⟩)) c false) 0 o m6<|by cases h;exact aS o (.tmp o) (λ_ _ g=>g) (λ_ _ _=>(.cons_cons _ (.cons _ (.cons _ (.cons _ (.cons _ .slnil))))))) λhc h=>zk<|zt<|jK h (γ:=Value) (λR g14=>[]) (λR g14=>[Res.var M 30 W0 (cQ c g14 H N),Res.own g14 52 Y52 R,Res.own H 52 Y52 c.2.2.2.2.2.1,Res.own N 56 Y56 c.2.2.2.2.2.2.2.2.2.2.2.2.2.2.2.1,Res.var V 276 W72 u]) (λZ h=>?_) λR g14 h=>?_
 ·refine dS kr<|zF 3 [0,1,5] kr o o ?_
  refine br (i:=2) (j:=6) kr o o ?_ ?_
  ·refine zA o<|ah [17,19,22] o<|zF 1 [3] kr o o ?_
   refine br (i:=4) (j:=6) kr o o ?_ ?_
   ·refine yl 0 f4 tx1 o o o tr o<|zL [17,21,22] o<|af 6 kr o<|yl 4 f0 bB o o o tr o<|zL [17,21,23] o<|af 7 kr o<|bu (B:=72) ag o iq o o o (.cons o .nil) o λW=>?_
    refine zL [17,21,24] o<|af 8 kr o<|iE h λhc h=>bd (B:=72) ag 2 o o (bL 0 o o) o iq o o hc o λf=>?_
    exact pk [1,1,1,1,1] o<|zL [17,25] o<|af 9 kr o<|zA o<|ah [25,26] o<|zF 1 [10] kr o o<|af 11 kr o<|st 0 f4 tx1 o o o o tr<|nL o<|zL [] o<|aN kr<|zt<|ai (c.2.2.2.2.1++[u.1]) f h o o
   refine yl 4 f0 bB o o o tr o<|zL [17,20,23] o ?_
   refine br (i:=4) (j:=7) kr o o ?_ ?_
   ·refine yl 0 f4 tx1 o o o tr o<|zL [17,21,23] o<|af 7 kr o<|bu (B:=72) ag o iq o o o (.cons o .nil) o λW=>?_
    refine zL [17,21,24] o<|af 8 kr o<|iE h λhc h=>bd (B:=72) ag 2 o o (bL 0 o o) o iq o o hc o λf=>?_
    exact pk [1,1,1,1,1] o<|zL [17,25] o<|af 9 kr o<|zA o<|ah [25,26] o<|zF 1 [10] kr o o<|af 11 kr o<|st 0 f4 tx1 o o o o tr<|nL o<|zL [] o<|aN kr<|zt<|ai (c.2.2.2.2.1++[u.1]) f h o o
   refine bu (B:=72) ag o iq o o o (.cons o .nil) o λW=>?_
   refine zL [17,20,24] o<|af 4 kr o<|yl 1 f4 tx1 o o o tr o<|zL [17,21,24] o<|af 8 kr o<|iE h λhc h=>bd (B:=72) ag 2 o o (bL 0 o o) o iq o o hc o λf=>?_
   exact pk [1,1,1,1,1] o<|zL [17,25] o<|af 9 kr o<|zA o<|ah [25,26] o<|zF 1 [10] kr o o<|af 11 kr o<|st 0 f4 tx1 o o o o tr<|nL o<|zL [] o<|aN kr<|zt<|ai (c.2.2.2.2.1++[u.1]) f h o o
  refine yl 4 f0 bB o o o tr o<|zL [17,18,23] o ?_
  refine br (i:=2) (j:=7) kr o o ?_ ?_
  ·refine zA o<|ah [17,19,23] o<|zF 1 [3] kr o o ?_
   refine br (i:=4) (j:=7) kr o o ?_ ?_
   ·refine yl 0 f4 tx1 o o o tr o<|zL [17,21,23] o<|af 7 kr o<|bu (B:=72) ag o iq o o o (.cons o .nil) o λW=>?_
    refine zL [17,21,24] o<|af 8 kr o<|iE h λhc h=>bd (B:=72) ag 2 o o (bL 0 o o) o iq o o hc o λf=>?_
    exact pk [1,1,1,1,1] o<|zL [17,25] o<|af 9 kr o<|zA o<|ah [25,26] o<|zF 1 [10] kr o o<|af 11 kr o<|st 0 f4 tx1 o o o o tr<|nL o<|zL [] o<|aN kr<|zt<|ai (c.2.2.2.2.1++[u.1]) f h o o
   refine bu (B:=72) ag o iq o o o (.cons o .nil) o λW=>?_
   refine zL [17,20,24] o<|af 4 kr o<|yl 1 f4 tx1 o o o tr o<|zL [17,21,24] o<|af 8 kr o<|iE h λhc h=>bd (B:=72) ag 2 o o (bL 0 o o) o iq o o hc o λf=>?_
   exact pk [1,1,1,1,1] o<|zL [17,25] o<|af 9 kr o<|zA o<|ah [25,26] o<|zF 1 [10] kr o o<|af 11 kr o<|st 0 f4 tx1 o o o o tr<|nL o<|zL [] o<|aN kr<|zt<|ai (c.2.2.2.2.1++[u.1]) f h o o
  refine bu (B:=72) ag o iq o o o (.cons o .nil) o λW=>?_
  refine zL [17,18,24] o<|af 2 kr o<|zA o<|ah [17,19,24] o<|zF 1 [3] kr o o<|af 4 kr o<|yl 1 f4 tx1 o o o tr o<|zL [17,21,24] o<|af 8 kr o<|iE h λhc h=>bd (B:=72) ag 2 o o (bL 0 o o) o iq o o hc o λf=>?_
  exact pk [1,1,1,1,1] o<|zL [17,25] o<|af 9 kr o<|zA o<|ah [25,26] o<|zF 1 [10] kr o o<|af 11 kr o<|st 0 f4 tx1 o o o o tr<|nL o<|zL [] o<|aN kr<|zt<|ai (c.2.2.2.2.1++[u.1]) f h o o
 refine zU 1 o<|zf<|gA (x:=(C4 c R)) ?_
 refine aw (R':=Res.clsor cN (.pointer (some ⟨M,0,none⟩)) (C4 c R) true) 0 o ou ?_
 cases h
 exact bc o (.tmp o) (.cons_cons _ (.cons _ .slnil))
theorem qZ(R:Value)(M u r)(h:gM M u=some r):Fn PP 274 [.one W58 M,tp R] [Res.cls cN R u] (λ_=>tb r.1) (λ_=>[Res.clsor cN R r.2 r.1]):=by
 unfold gM at h
 refine enter Tryz.func274 o 70 o o λF=>?_
 refine mc λc m O w hp=>?_
 subst hp
 refine gA (x:=u) ?_
 refine zu<|bA o o λf=>q 1 [(1,ptr c 0),(2,ptr f 0)] [] o<|za<|zs<|zs<|pk [1,0] o<|jL λG N J=>?_
 refine eL kr kr ?_
 refine ay ag 3 [1,2,7] (E':=[(1,ptr c 0),(2,ptr f 0),(7,ptr c 7)]) o ?_
 refine q_y (aL 0 f7 o o o (ab (ab (ab (ab (ab (ab (ab (aq aa)))))))) ty2) o ?_
 refine ay ag 3 [1,2,8,11] (E':=[(1,ptr c 0),(2,ptr f 0),(8,ti u.2.2.2.2.2.2.2.1),(11,ptr c 8)]) o ?_
 refine q_y (aL 0 f8 o o o (ab (ab (ab (ab (ab (ab (ab (ab (aq aa))))))))) ty2) o ?_
 refine ay ag 2 [1,2,14] (E':=[(1,ptr c 0),(2,ptr f 0),(14,tb (u.2.2.2.2.2.2.2.1 !=u.2.2.2.2.2.2.2.2.1))]) o ?_
 obtain⟨W,e,h⟩:=al h;rw[e]
 refine lE 9 [(1,ptr c 0),(2,ptr f 0),(23,tb (W||(M.1 !=(wrap .i64 (u.2.2.2.2.2.2.2.1+1)))))] ?_ ?_
 ·clear h
  cases W
  ·refine ay ag 1 [1,2,14,15] (E':=[(1,ptr c 0),(2,ptr f 0),(14,tb false),(15,ptr f 0)]) o ?_
   refine dH dl o ?_
   refine q_y (aL 4 f0 o o o (aq aa) ty2) o ?_
   refine ay ag 3 [1,2,14,16,19] (E':=[(1,ptr c 0),(2,ptr f 0),(14,tb false),(16,ti M.1),(19,ptr c 7)]) o ?_
   refine dH dl o ?_
   refine q_y (aL 0 f7 o o o (ab (ab (ab (ab (ab (ab (ab (aq aa)))))))) ty2) o ?_
   refine ay ag 3 [1,2,23] (E':=[(1,ptr c 0),(2,ptr f 0),(23,tb (M.1 !=(wrap .i64 (u.2.2.2.2.2.2.2.1+1))))]) o ?_
   refine fZ ?_
   exact iF o
  refine ay ag 9 [1,2,23] (E':=[(1,ptr c 0),(2,ptr f 0),(23,tb true)]) o ?_
  refine fZ ?_
  exact iF o
 refine ay ag 1 [1,2,24] (E':=[(1,ptr c 0),(2,ptr f 0),(24,tb (W||(M.1 !=(wrap .i64 (u.2.2.2.2.2.2.2.1+1)))))]) o ?_
 obtain⟨C,e,h⟩:=al h;rw[e]
 refine lE 10 [(1,ptr c 0),(2,ptr f 0),(34,tb (C||(M.2.1.2.1 !=u.2.2.2.2.2.2.2.2.2.1.2.1)))] ?_ ?_
 ·clear h
  cases C
  ·refine ay ag 2 [1,2,24,26] (E':=[(1,ptr c 0),(2,ptr f 0),(24,tb false),(26,ptr f 2)]) o ?_
   refine dH dl o ?_
   refine q_y (aL 4 ((.snd (.fst f1))) o o o (ab (aq (ab (aq aa)))) ty3) o ?_
   refine ay ag 4 [1,2,24,27,31] (E':=[(1,ptr c 0),(2,ptr f 0),(24,tb false),(27,ti M.2.1.2.1),(31,ptr c 10)]) o ?_
   refine dH dl o ?_
   refine q_y (aL 0 ((g9 (.fst f1))) o o o (ab (ab (ab (ab (ab (ab (ab (ab (ab (aq (ab (aq aa)))))))))))) ty3) o ?_
   refine ay ag 2 [1,2,34] (E':=[(1,ptr c 0),(2,ptr f 0),(34,tb (M.2.1.2.1 !=u.2.2.2.2.2.2.2.2.2.1.2.1))]) o ?_
   refine fZ ?_
   exact iF o
  refine ay ag 10 [1,2,34] (E':=[(1,ptr c 0),(2,ptr f 0),(34,tb true)]) o ?_
  refine fZ ?_
  exact iF o
 refine ay ag 1 [1,2,35] (E':=[(1,ptr c 0),(2,ptr f 0),(35,tb (C||(M.2.1.2.1 !=u.2.2.2.2.2.2.2.2.2.1.2.1)))]) o ?_
 obtain⟨H,e,h⟩:=al h;rw[e]
 refine lE 10 [(1,ptr c 0),(2,ptr f 0),(45,tb (H||(decide (M.2.1.1<u.2.2.2.2.2.2.2.2.2.2.1.1))))] ?_ ?_
 ·clear h
  cases H
  ·refine ay ag 2 [1,2,35,37] (E':=[(1,ptr c 0),(2,ptr f 0),(35,tb false),(37,ptr f 1)]) o ?_
   refine dH dl o ?_
   refine q_y (aL 4 ((.snd (.fst f0))) o o o (ab (aq (aq aa))) ty3) o ?_
   refine ay ag 4 [1,2,35,38,42] (E':=[(1,ptr c 0),(2,ptr f 0),(35,tb false),(38,ti M.2.1.1),(42,ptr c 11)]) o ?_
   refine dH dl o ?_
   refine q_y (aL 0 ((g10 (.fst f0))) o o o (ab (ab (ab (ab (ab (ab (ab (ab (ab (ab (aq (aq aa)))))))))))) ty3) o ?_
   refine ay ag 2 [1,2,45] (E':=[(1,ptr c 0),(2,ptr f 0),(45,tb (decide (M.2.1.1<u.2.2.2.2.2.2.2.2.2.2.1.1)))]) o ?_
   refine fZ ?_
   exact iF o
  refine ay ag 10 [1,2,45] (E':=[(1,ptr c 0),(2,ptr f 0),(45,tb true)]) o ?_
  refine fZ ?_
  exact iF o
 refine ay ag 1 [1,2,46] (E':=[(1,ptr c 0),(2,ptr f 0),(46,tb (H||(decide (M.2.1.1<u.2.2.2.2.2.2.2.2.2.2.1.1))))]) o ?_
 obtain⟨d,e,h⟩:=al h;rw[e]
 refine lE 10 [(1,ptr c 0),(2,ptr f 0),(56,tb (d||(decide (M.2.1.1>(List.length u.2.2.2.2.1:Int)))))] ?_ ?_
 ·clear h
  cases d
  ·refine ay ag 2 [1,2,46,48] (E':=[(1,ptr c 0),(2,ptr f 0),(46,tb false),(48,ptr f 1)]) o ?_
   refine dH dl o ?_
   refine q_y (aL 4 ((.snd (.fst f0))) o o o (ab (aq (aq aa))) ty3) o ?_
   refine ay ag 3 [1,2,46,49,52] (E':=[(1,ptr c 0),(2,ptr f 0),(46,tb false),(49,ti M.2.1.1),(52,ptr c 4)]) o ?_
   refine dH dl o ?_
   refine q_y (aL 0 f4 o o o (ab (ab (ab (ab (aq aa))))) tx1) o ?_
   refine dH dl o ?_
   refine q_y (bW ag 1 o o o) o ?_
   refine ay ag 2 [1,2,56] (E':=[(1,ptr c 0),(2,ptr f 0),(56,tb (decide (M.2.1.1>(List.length u.2.2.2.2.1:Int))))]) o ?_
   refine fZ ?_
   exact iF o
  refine ay ag 10 [1,2,56] (E':=[(1,ptr c 0),(2,ptr f 0),(56,tb true)]) o ?_
  refine fZ ?_
  exact iF o
 refine fa ?_
 refine zt<|rI h o (λhc h=>zU 1 o<|zf<|zT<|aw (R':=Res.clsor cN (.pointer (some ⟨c,0,none⟩)) u false) 0 o m6<|by cases h;exact aS o (.tmp o) (λ_ _ g=>g) (λ_ _ _=>(.cons_cons _ (.cons _ (.cons _ (.cons _ (.cons _ .slnil))))))) λhc h=>zk<|zt<|bv h (λV=>[]) (λV=>[Res.var c 30 W0 (cQ V G N J),Res.own G 52 Y52 u.2.2.2.2.1,Res.own N 52 Y52 u.2.2.2.2.2.1,Res.own J 56 Y56 u.2.2.2.2.2.2.2.2.2.2.2.2.2.2.2.1,Res.var f 278 W58 M]) (λZ h=>?_) λV h=>?_
 ·refine dS kr<|zF 5 [0,1,2,3,5] kr o o ?_
  refine br (i:=4) (j:=6) kr o o ?_ ?_
  ·refine yl 4 f0 ty2 o o o tr o<|zL [57,58,59,61,62] o ?_
   refine br (i:=6) (j:=7) kr o o ?_ ?_
   ·refine yl 4 f1 fj o o o tr o<|zL [57,58,59,61,63] o<|af 7 kr o<|zA o<|ah [58,59,61,63,64] o<|zF 1 [8] kr o o<|af 9 kr o<|st 0 f7 ty2 o o o o tr<|zL [58,59,63] o<|af 10 kr o<|zA o<|ah [59,63,66] o<|zF 1 [11] kr o o<|af 12 kr o ?_
    exact st 0 f10 fj o o o o tr<|nL o<|zL [59] o<|af 13 kr o<|zA o<|ah [68] o<|zF 1 [14] kr o o<|af 15 kr o<|st 0 f12 ty4 o o o o tr<|zL [] o<|aN kr<|zt<|ai (ur u () () M.1 M.2.1 true ()) () h o o
   refine zA o<|ah [58,59,61,62,64] o<|zF 1 [8] kr o o ?_
   refine br (i:=6) (j:=9) kr o o ?_ ?_
   ·refine yl 4 f1 fj o o o tr o<|zL [58,59,61,63,65] o<|af 9 kr o<|st 0 f7 ty2 o o o o tr<|zL [58,59,63] o<|af 10 kr o<|zA o<|ah [59,63,66] o<|zF 1 [11] kr o o<|af 12 kr o<|st 0 f10 fj o o o o tr<|nL o<|zL [59] o<|af 13 kr o ?_
    exact zA o<|ah [68] o<|zF 1 [14] kr o o<|af 15 kr o<|st 0 f12 ty4 o o o o tr<|zL [] o<|aN kr<|zt<|ai (ur u () () M.1 M.2.1 true ()) () h o o
   refine st 0 f7 ty2 o o o o tr<|zL [58,59,62] o<|af 6 kr o<|yl 4 f1 fj o o o tr o<|zL [58,59,63] o<|af 10 kr o<|zA o<|ah [59,63,66] o<|zF 1 [11] kr o o<|af 12 kr o<|st 0 f10 fj o o o o tr<|nL o<|zL [59] o<|af 13 kr o ?_
   exact zA o<|ah [68] o<|zF 1 [14] kr o o<|af 15 kr o<|st 0 f12 ty4 o o o o tr<|zL [] o<|aN kr<|zt<|ai (ur u () () M.1 M.2.1 true ()) () h o o
  refine yl 4 f1 fj o o o tr o<|zL [57,58,59,60,63] o<|af 4 kr o<|yl 4 f0 ty2 o o o tr o<|zL [57,58,59,61,63] o<|af 7 kr o<|zA o<|ah [58,59,61,63,64] o<|zF 1 [8] kr o o<|af 9 kr o<|st 0 f7 ty2 o o o o tr<|zL [58,59,63] o<|af 10 kr o<|zA o ?_
  refine ah [59,63,66] o<|zF 1 [11] kr o o<|af 12 kr o<|st 0 f10 fj o o o o tr<|nL o<|zL [59] o<|af 13 kr o<|zA o<|ah [68] o<|zF 1 [14] kr o o<|af 15 kr o<|st 0 f12 ty4 o o o o tr<|zL [] o<|aN kr ?_
  exact zt<|ai (ur u () () M.1 M.2.1 true ()) () h o o
 refine zU 1 o<|zf<|gA (x:=(cQ V u.2.2.2.2.1 u.2.2.2.2.2.1 u.2.2.2.2.2.2.2.2.2.2.2.2.2.2.2.1)) ?_
 refine aw (R':=Res.clsor cN (.pointer (some ⟨c,0,none⟩)) (cQ V u.2.2.2.2.1 u.2.2.2.2.2.1 u.2.2.2.2.2.2.2.2.2.2.2.2.2.2.2.1) true) 0 o ou ?_
 cases h
 exact bc o (.tmp o) (.cons_cons _ (.cons _ .slnil))
theorem sX(N:Value)(M f r)(h:iJ M f=some r):Fn PP 280 [.one Y280 M,tp N] [Res.cls cN N f] (λ_=>tb r.1) (λ_=>[Res.clsor cN N r.2 r.1]):=by
 unfold iJ at h
 refine enter Tryz.func280 o 95 o o λF=>?_
 refine mc λc a5 a6 a7 hp=>?_
 subst hp
 refine gA (x:=f) ?_
 refine zu<|bA o o λu=>q 1 [(1,ptr c 0),(2,ptr u 0)] [] o<|za<|zs<|zs<|pk [1,0] o<|jL λC W H=>?_
 refine eL kr kr ?_
 refine ay ag 1 [1,2,8] (E':=[(1,ptr c 0),(2,ptr u 0),(8,ptr u 0)]) o ?_
 refine q_y (aL 4 f0 o o o (aq aa) ty2) o ?_
 refine ay ag 3 [1,2,9,12] (E':=[(1,ptr c 0),(2,ptr u 0),(9,ti M.1),(12,ptr c 6)]) o ?_
 refine q_y (aL 0 f6 o o o (ab (ab (ab (ab (ab (ab (aq aa))))))) ty2) o ?_
 refine ay ag 3 [1,2,16] (E':=[(1,ptr c 0),(2,ptr u 0),(16,tb (M.1 !=(wrap .i64 (f.2.2.2.2.2.2.1+1))))]) o ?_
 obtain⟨J,e,h⟩:=al h;rw[e]
 refine lE 7 [(1,ptr c 0),(2,ptr u 0),(23,tb (J||(decide (f.2.2.2.2.2.2.2.2.2.1.2.1<0))))] ?_ ?_
 ·clear h
  cases J
  ·refine ay ag 4 [1,2,16,20] (E':=[(1,ptr c 0),(2,ptr u 0),(16,tb false),(20,ptr c 10)]) o ?_
   refine dH dl o ?_
   refine q_y (aL 0 ((g9 (.fst f1))) o o o (ab (ab (ab (ab (ab (ab (ab (ab (ab (aq (ab (aq aa)))))))))))) ty3) o ?_
   refine ay ag 2 [1,2,23] (E':=[(1,ptr c 0),(2,ptr u 0),(23,tb (decide (f.2.2.2.2.2.2.2.2.2.1.2.1<0)))]) o ?_
   refine fZ ?_
   exact iF o
  refine ay ag 7 [1,2,23] (E':=[(1,ptr c 0),(2,ptr u 0),(23,tb true)]) o ?_
  refine fZ ?_
  exact iF o
 refine ay ag 1 [1,2,24] (E':=[(1,ptr c 0),(2,ptr u 0),(24,tb (J||(decide (f.2.2.2.2.2.2.2.2.2.1.2.1<0))))]) o ?_
 obtain⟨d,e,h⟩:=al h;rw[e]
 refine lE 12 [(1,ptr c 0),(2,ptr u 0),(36,tb (d||(decide (f.2.2.2.2.2.2.2.2.2.1.2.1>(List.length f.2.2.2.2.2.1:Int)))))] ?_ ?_
 ·clear h
  cases d
  ·refine ay ag 4 [1,2,24,28] (E':=[(1,ptr c 0),(2,ptr u 0),(24,tb false),(28,ptr c 10)]) o ?_
   refine dH dl o ?_
   refine q_y (aL 0 ((g9 (.fst f1))) o o o (ab (ab (ab (ab (ab (ab (ab (ab (ab (aq (ab (aq aa)))))))))))) ty3) o ?_
   refine ay ag 3 [1,2,24,29,32] (E':=[(1,ptr c 0),(2,ptr u 0),(24,tb false),(29,ti f.2.2.2.2.2.2.2.2.2.1.2.1),(32,ptr c 5)]) o ?_
   refine dH dl o ?_
   refine q_y (aL 0 f5 o o o (ab (ab (ab (ab (ab (aq aa)))))) tx1) o ?_
   refine dH dl o ?_
   refine q_y (bW ag 2 o o o) o ?_
   refine ay ag 2 [1,2,36] (E':=[(1,ptr c 0),(2,ptr u 0),(36,tb (decide (f.2.2.2.2.2.2.2.2.2.1.2.1>(List.length f.2.2.2.2.2.1:Int))))]) o ?_
   refine fZ ?_
   exact iF o
  refine ay ag 12 [1,2,36] (E':=[(1,ptr c 0),(2,ptr u 0),(36,tb true)]) o ?_
  refine fZ ?_
  exact iF o
 refine fa ?_
 refine zt<|rI h o (λhc h=>zU 1 o<|zf<|zT<|aw (R':=Res.clsor cN (.pointer (some ⟨c,0,none⟩)) f false) 0 o m6<|by cases h;exact aS o (.tmp o) (λ_ _ g=>g) (λ_ _ _=>(.cons_cons _ (.cons _ (.cons _ (.cons _ (.cons _ .slnil))))))) λhc h=>zk<|zt<|zs<|eL kr kr ?_
 refine ay ag 3 [1,2,39] (E':=[(1,ptr c 0),(2,ptr u 0),(39,ptr c 5)]) o ?_
 refine q_y (aL 0 f5 o o o (ab (ab (ab (ab (ab (aq aa)))))) tx1) o ?_
 refine ay ag 4 [1,2,40,44] (E':=[(1,ptr c 0),(2,ptr u 0),(40,.one W62 W),(44,ptr c 10)]) o ?_
 refine q_y (aL 0 ((g9 (.fst f1))) o o o (ab (ab (ab (ab (ab (ab (ab (ab (ab (aq (ab (aq aa)))))))))))) ty3) o ?_
 obtain⟨G,h⟩:=cj h
 refine q_y (kb ag (i:=(0:Int)) (j:=f.2.2.2.2.2.2.2.2.2.1.2.1) o (eM 2 o) o o G.1 G.2.1 G.2.2 o bB) o ?_
 refine ay ag 1 [1,2,5] (E':=[(1,ptr c 0),(2,ptr u 0),(5,.one W62 (ij (T.size Y52) W (Int.toNat (0:Int)) (Int.toNat f.2.2.2.2.2.2.2.2.2.1.2.1)))]) o ?_
 refine fa ?_
 refine zt<|jK h (γ:=Value) (λV g16=>[(1,ptr c 0),(2,ptr u 0),(5,.one W62 g16)]) (λV g16=>[Res.var c 30 W0 (cQ V.1 C W H),Res.own C 52 Y52 f.2.2.2.2.1,Res.own g16 52 Y52 V.2,Res.own H 56 Y56 f.2.2.2.2.2.2.2.2.2.2.2.2.2.2.2.1,Res.var u 280 Y280 M]) (λZ h=>?_) λV g16 h=>?_
 ·refine zU 1 o<|yl 4 f1 iY o o o tr o<|zA o<|zb<|so (j:=(Int.toNat f.2.2.2.2.2.2.2.2.2.1.2.1)) 2 o (by have:=G.2.2;omega) ?_
  refine ah [1,2,5,48,49,50] o<|bg (γ:=Value) (λ(R:Int×(List Z51)) g21=>[(1,ptr c 0),(2,ptr u 0),(5,.one W62 g21),(48,.one W76 M.2.1),(49,ti (List.length M.2.1:Int)),(50,ti R.1)]) (λ(R:Int×(List Z51)) g21=>[Res.var c 30 W0 (cQ f C W H),Res.own C 52 Y52 f.2.2.2.2.1,Res.own g21 52 Y52 R.2,Res.own H 56 Y56 f.2.2.2.2.2.2.2.2.2.2.2.2.2.2.2.1,Res.var u 280 Y280 M]) (eD M f Z) (0,(List.take (Int.toNat f.2.2.2.2.2.2.2.2.2.1.2.1) f.2.2.2.2.2.1)) (ij (T.size Y52) W 0 (Int.toNat f.2.2.2.2.2.2.2.2.2.1.2.1)) h o o ?_
  clear h
  intro m R g21 h
  cases m with
  |zero=>cases h
  |succ m=>
  simp only[eD]at h
  refine zW o<|zs<|rI h o (λhc h=>?_) λhc h=>?_
  ·refine zk<|zt<|zs<|zb<|zu<|iE h λhc h=>y (eZ ag o o hc.1 hc.2 o bB) o ?_
   refine y (fP o bB) o ?_
   refine aC (t:=Y52) o ja o λO=>st 0 .here bB o o o o tr<|za<|zs<|zs<|eL kr kr ?_
   refine ay ag 4 [1,2,5,7,48,49,50,54,57] (E':=[(1,ptr c 0),(2,ptr u 0),(5,.one W62 g21),(7,ptr O 0),(48,.one W76 M.2.1),(49,ti (List.length M.2.1:Int)),(50,ti R.1),(54,.one W62 g21),(57,ptr c 4)]) o ?_
   refine q_y (aL 1 f4 o o o (ab (ab (ab (ab (aq aa))))) tx1) o ?_
   refine q_y (aL 0 .here o o o aa bB) o ?_
   refine cB h λa2 a3 h=>Av (rQ R.2 f.2.2.2.2.1 (List.getD M.2.1 (Int.toNat R.1) (0,0,0,z32,[],())) _ a3) kr o (.own 3 o o (.own 2 o o (.val o .nil))) o ?_
   refine ay ag 1 [1,2,5,7,48,49,50,61] (E':=[(1,ptr c 0),(2,ptr u 0),(5,.one W62 g21),(7,ptr O 0),(48,.one W76 M.2.1),(49,ti (List.length M.2.1:Int)),(50,ti R.1),(61,tb (a2 !=0))]) o ?_
   refine fa ?_
   refine zt<|rI h o (λhc h=>zU 1 o<|zf<|zT<|zB<|zT<|zT<|zB<|zT<|aw (R':=Res.clsor cN (.pointer (some ⟨c,0,none⟩)) f false) 1 o m6<|by cases h;exact aS o (.tmp o) (λ_ _ g=>g) (λ_ _ _=>(.cons _ (.cons_cons _ (.cons _ (.cons _ (.cons _ (.cons _ .slnil)))))))) λhc h=>zk<|zt<|zr<|zm 1 o<|yl 0 .here bB o o o tr o<|bu (B:=72) ag o iq o o o (.cons o .nil) o λa8=>?_
   refine iE h λhc h=>bd (B:=72) ag 4 o o (bL 0 o o) o iq o o hc o λa4=>?_
   exact pk [1,1,1,1,1,1] o<|zN o<|zi<|zt<|zr<|zA o<|pk [1,1,1,1,1] o<|aX ((wrap .i64 (R.1+1)),(R.2++([(List.getD M.2.1 (Int.toNat R.1) (0,0,0,z32,[],()))]))) a4 (Nat.lt_succ_self _) h o o
  exact zx<|ze<|ze<|zq<|zt<|ai ((cQ f () () ()),R.2) g21 h o o
 refine zs<|gE (S:=bC [aV u 280 Y280 M]) kr ?_
 refine zH 6 [0,1,2,3,4,5] (ae (ak 4 o) aj) kr o o λs=>bl 6 (ti M.1) s o kr (cq (S:=λw=>bC [aV u 280 Y280 M] w) (bn 0 o) 4 f0 o o o o (aq aa) ty2) λs=>zH 1 [7] s kr o o λs=>bl 8 (.one W66 M.2.2.1) s o kr (cq (S:=λw=>bC [aV u 280 Y280 M] w) (bn 0 o) 4 f2 o o o o (ab (ab (aq aa))) bH) λs=>zH 2 [9,10] s kr o o λs=>az 11 kr o<|iS (t:=W0) (v:=W62) 0 f5 o o o o o o tx1 ?_
 refine za<|aR (ae (ak 4 o) aj) ?_
 refine ah [1,5,68,69,70,73,75] o<|zH 2 [12,13] (ae (ak 4 o) aj) kr o o λs=>az 14 kr o<|st 0 f6 ty2 o o o o tr<|nL o<|za<|aR (ae (ak 4 o) aj) ?_
 refine ah [1,5,69,70,75] o<|zH 2 [15,16] (ae (ak 4 o) aj) kr o o λs=>az 17 kr o<|st 0 f14 bH o o o o tr<|za<|aR (ae (ak 4 o) aj) ?_
 refine ah [1,5,70] o<|zH 2 [18,19] (ae (ak 4 o) aj) kr o o λs=>az 20 kr o<|st 0 f12 ty4 o o o o tr<|nL o<|za<|aR (ae (ak 4 o) aj) ?_
 refine ah [1,5] o<|dF kr<|zt<|zU 5 o<|yl 0 ((g11 (.fst f0))) ty3 o o o tr o<|zm 1 o<|y (bW ag 2 o o o) o ?_
 refine y (aY o Hz o o (.cons f0 o o aa (.cons f1 o o aa .nil))) o ?_
 refine zm 2 o<|st 0 f9 fj o o o o tr<|zz<|zE o<|gA (x:=(AQ V.1 f.2.2.2.2.1 V.2 M.1 (V.1.2.2.2.2.2.2.2.2.2.2.2.1.1,(List.length V.2:Int),()) false M.2.2.1 f.2.2.2.2.2.2.2.2.2.2.2.2.2.2.2.1)) ?_
 refine aw (R':=Res.clsor cN (.pointer (some ⟨c,0,none⟩)) (AQ V.1 f.2.2.2.2.1 V.2 M.1 (V.1.2.2.2.2.2.2.2.2.2.2.2.1.1,(List.length V.2:Int),()) false M.2.2.1 f.2.2.2.2.2.2.2.2.2.2.2.2.2.2.2.1) true) 0 o ou<|nL o ?_
 cases h
 exact bc o (.tmp o) (.cons_cons _ (.cons _ .slnil))
theorem tf(c r)(h:l6 c=some r):bm PP 292 [ti c] (tb r):=by
 unfold l6 at h
 refine enter Tryz.func292 o 9 o o λF=>?_
 refine zU 1 o<|zz<|q 3 [(0,ti c),(5,tb (decide (c≥0)))] [] o ?_
 obtain⟨f,e,h⟩:=al h;rw[e]
 refine aM 3 [(8,tb (f&&(decide (c≤281474976710655))))] [] (?_) ?_
 ·clear h
  cases f
  ·exact zA o<|ap () o o
  exact zA o<|ap () o o
 refine zE o ?_
 cases h
 exact ax o (.tmp o)
theorem m3(c r)(h:gx c=some r):bm PP 293 [ti c] (ti r):=by
 unfold gx at h
 refine enter Tryz.func293 o 5 o o λF=>?_
 refine zU 1 o<|zz<|zE o ?_
 cases h
 exact ax o (.tmp o)
theorem oC(c r)(h:fe c=some r):FnT PP bD 240 [.one (.int .u64) c] [] (λ_=>ti r) (λ_=>[]):=by
 unfold fe at h
 refine ik Tryz.func240 o 14 o o λF hT=>?_
 refine zW o<|zs<|zW o<|rI h o (λhc h=>zU 1 o<|zf<|zT<|by cases h;exact ax o (.tmp o)) λhc h=>zy<|q 6 [(10,.one (.int .u64) (bS .u64 (wrap .u64 ((dV .u64 c (wrap .u64 (0 - c)))*285870213051353865)) 58))] [] o ?_
 obtain⟨f,e,h⟩:=al h;rw[e]
 refine iE h λhc h=>y (bY o o hc.1 hc.2 Hi ty5) o ?_
 refine y (EX hT dl (t:=En) (off:=(0+(Int.toNat f)*1)) (i:=(Int.toNat f)) (.tail _ (.head _)) kr o (by show _<64;omega) (by omega) kr ty5) o ?_
 refine zE o ?_
 cases h
 exact ax o (.tmp o)
theorem tg(c r)(h:l7 c=some r):FnT PP bD 290 [ti c] [] (λ_=> .tup [⟨(.int .i64),r.1⟩,⟨(.int .i64),r.2⟩]) (λ_=>[]):=by
 unfold l7 at h
 refine ik Tryz.func290 o 12 o o λF hT=>?_
 refine zW o<|zs<|zU 1 o<|cB h λV f h=>ar (tf _ _ f) kr o o<|zA o<|rI h o (λhc h=>zU 2 o<|zf<|zT<|by cases h;exact aE (rs:=[.tmp 2,.tmp 3]) o (.cons (.tmp o) (.cons (.tmp o) (.nil))) o (λ_ vs g=>aI vs g) (λ_ _ _=>List.nil_sublist _)) λhc h=>zy<|zm 1 o<|cB h λR u h=>ar (m3 _ _ u) kr o o<|zm 1 o<|cB h λW M h=>rcT hT [] (oC _ _ M) kr o o o λ_=>?_
 refine y (vy o o) o ?_
 refine zE o ?_
 cases h
 exact aE (rs:=[.tmp 2,.tmp 3]) o (.cons (.tmp o) (.cons (.tmp o) (.nil))) o (λ_ vs g=>aI vs g) (λ_ _ _=>List.nil_sublist _)
theorem xn(c r)(h:nR c=some r):bm PP 295 [.one W66 c] (.one W66 r):=by
 unfold nR at h
 refine enter Tryz.func295 o 7 o o λF=>?_
 refine zu<|bA o o λu=>aC (t:=W66) o oB o λM=>zz<|y (uh o vk o ty5) o ?_
 refine y (w7 ag 1 .here o o o aa o o o o) o ?_
 refine bu (B:=16) ag o el9 o o o (.cons o .nil) o λV=>?_
 refine kB (i:=0) (k:=5) o o ?_
 refine cB h λR f h=>ar (uP _ _ f) kr o o<|st 0 .here bH o o o o tr<|zf ?_
 cases h
 exact aS o (.cell 0 .here o o o aa bH) (λ_ _ g=>g) (λ_ _ _=>List.nil_sublist _)
theorem zd(C V c r)(h:nn C V c=some r):bm PP 294 [.one W66 C,ti V,ti c] (.one W66 r):=by
 unfold nn at h
 refine enter Tryz.func294 o 35 o o λF=>?_
 refine zu<|bA o o λu=>aC (t:=W66) o oB o λM=>za<|bv h (λH=>[(3,ptr u 0),(6,ptr M 0)]) (λH=>[Res.var M 26 W66 z32,Res.var u 26 W66 H]) (λN h=>?_) λH h=>?_
 ·refine zW o<|zb<|ah [1,2,3,6,9,10] o<|bg (γ:=Unit) (λ(f:Int×List (Int)) _=>[(1,ti V),(2,ti c),(3,ptr u 0),(6,ptr M 0),(9,ti c),(10,ti f.1)]) (λ(f:Int×List (Int)) _=>[Res.var M 26 W66 z32,Res.var u 26 W66 f.2]) (io V c N) (0,C) () h o o ?_
  clear h
  intro G f gg h
  cases G with
  |zero=>cases h
  |succ G=>
  simp only[io]at h
  refine zW o<|zs<|rI h o (λhc h=>?_) λhc h=>?_
  ·refine zk<|zt<|bv h (λW=>[(1,ti V),(2,ti c),(3,ptr u 0),(6,ptr M 0),(9,ti c),(10,ti f.1)]) (λW=>[Res.var M 26 W66 z32,Res.var u 26 W66 W]) (λm h=>?_) λW h=>?_
   ·refine zb<|zU 2 o<|zz<|q 5 [(1,ti V),(2,ti c),(3,ptr u 0),(6,ptr M 0),(8,ti (wrap .i64 ((wrap .i64 (c - 1)) - f.1))),(9,ti c),(10,ti f.1)] [] o ?_
    obtain⟨R,e,h⟩:=al h;rw[e]
    refine zZ 2 o<|iE h λhc h=>y (oF o o hc) o ?_
    refine zA o<|rI h o (λhc h=>?_) λhc h=>?_
    ·refine zs<|dS kr<|zF 2 [0,1] kr o o<|iE h λhc h=>ga 2 (ptr u (0+(Int.toNat (wrap .i64 (Int.tdiv R 8)))*1)) o kr (bY o o hc.1 hc.2 vk ty5)<|zF 2 [4,5] kr o o<|iE h λhc h=>ga 6 (.one (.int .u8) (kA .u8 1 (Int.tmod R 8))) o kr (Gv o o hc)<|af 3 kr o<|y (aL 1 (.elem (Int.toNat (wrap .i64 (Int.tdiv R 8))) .here) o o pof (av (by omega) aa) ty5) o ?_
     refine zL [1,2,3,6,9,10,23,25,28] o<|zF 1 [7] kr o o<|iE h λhc h=>ga 8 (ptr u (0+(Int.toNat (wrap .i64 (Int.tdiv R 8)))*1)) o kr (bY o o hc.1 hc.2 vk ty5)<|af 9 kr o<|kV 1 (.elem (Int.toNat (wrap .i64 (Int.tdiv R 8))) .here) o o o pof (av (by omega) aa) ty5<|zL [1,2,3,6,9,10] o<|aN kr<|zt<|zr<|yl 1 .here bH o o o tr o<|cB h λJ d h=>ar (xn _ _ d) kr o o<|st 1 .here bH o o o o tr ?_
     exact nL o<|zn<|zi<|zt<|ai J () h o o
    exact zk<|zi<|zt<|ai f.2 () h o o
   exact zr<|zA o<|aX ((wrap .i64 (f.1+1)),W) () (Nat.lt_succ_self _) h o o
  exact zx<|ze<|ze<|zq<|zt<|ai f.2 () h o o
 refine zu<|yl 1 .here bH o o o tr o<|st 0 .here bH o o o o tr<|zf ?_
 cases h
 exact aS o (.cell 0 .here o o o aa bH) (λ_ _ g=>g) (λ_ _ _=>List.nil_sublist _)
theorem rR(R V f r)(h:mJ R V f=some r):FnT PP bD 291 [.one W66 R,ti V,ti f] [] (λ_=> .tup [⟨W66,r.1⟩,⟨(.int .i64),r.2⟩]) (λ_=>[]):=by
 unfold mJ at h
 refine ik Tryz.func291 o 40 o o λF hT=>?_
 refine zu<|bA o o λu=>aC (t:=W66) o oB o λM=>zm 1 o<|zZ 1 o<|cB h λc G h=>rcT hT [] (tg _ _ G) kr o o o λ_=>zA o<|zs<|zb<|zu<|q 3 [(1,ti V),(2,ti f),(3,ptr u 0),(6,ptr M 0),(8,ti c.1),(18,tb (c.2 !=0))] [] o ?_
 obtain⟨N,e,h⟩:=al h;rw[e]
 refine bQ h 4 (λC=>[(1,ti V),(2,ti f),(3,ptr u 0),(6,ptr M 0),(8,ti c.1),(22,tb C)]) (λ_=>[Res.var M 26 W66 z32,Res.var u 26 W66 R]) (λk8 h=>?_) λC h=>?_
 ·cases N
  ·replace h:=ifF h
   refine zm 1 o<|am dl o ?_
   exact cB h λJ d h=>ar (tf _ _ d) kr o o<|zN o<|zt<|ai (!J) () h o o
  replace h:=ifT h
  exact zN o<|zt<|ai true () h o o
 refine zA o<|rI h o (λhc h=>?_) λhc h=>?_
 ·refine zu<|y (aY o oB o o .nil) o ?_
  refine st 0 .here bH o o o o tr<|zE o<|zB<|zT ?_
  cases h
  exact aE (rs:=[.cell 6 26,.tmp 7]) o (.cons (.cell 0 .here o o o aa bH) (.cons (.tmp o) (.nil))) o (λ_ vs g=>aI vs g) (λ_ _ _=>List.nil_sublist _)
 refine zs<|eL kr kr ?_
 refine ay ag 1 [2,3,6,8,25] (E':=[(2,ti f),(3,ptr u 0),(6,ptr M 0),(8,ti c.1),(25,ti V)]) o ?_
 refine cB h λW m h=>jZ (m3 V _ m) kr o o o ?_
 refine ay ag 1 [2,3,6,8,26,27] (E':=[(2,ti f),(3,ptr u 0),(6,ptr M 0),(8,ti c.1),(26,ti W),(27,ti c.1)]) o ?_
 refine iE h λhc h=>q_y (oF o o hc) o ?_
 refine ay ag 1 [2,3,6,8,28,29] (E':=[(2,ti f),(3,ptr u 0),(6,ptr M 0),(8,ti c.1),(28,ti (bS .i64 W c.1)),(29,ti f)]) o ?_
 refine cB h λH O h=>jZ (m3 f _ O) kr o o o ?_
 refine ay ag 1 [2,3,6,8,28,30,31] (E':=[(2,ti f),(3,ptr u 0),(6,ptr M 0),(8,ti c.1),(28,ti (bS .i64 W c.1)),(30,ti H),(31,ti c.1)]) o ?_
 refine iE h λhc h=>q_y (oF o o hc) o ?_
 refine ay ag 2 [2,3,6,8,24] (E':=[(2,ti f),(3,ptr u 0),(6,ptr M 0),(8,ti c.1),(24,tb ((bS .i64 W c.1) !=(bS .i64 H c.1)))]) o ?_
 refine fa ?_
 refine zt<|rI h o (λhc h=>?_) λhc h=>?_
 ·refine zu<|y (aY o oB o o .nil) o ?_
  refine st 0 .here bH o o o o tr<|zE o<|zB<|zT ?_
  cases h
  exact aE (rs:=[.cell 6 26,.tmp 7]) o (.cons (.cell 0 .here o o o aa bH) (.cons (.tmp o) (.nil))) o (λ_ vs g=>aI vs g) (λ_ _ _=>List.nil_sublist _)
 refine zk<|zi<|zt<|zs<|dS kr<|zF 2 [1,3] kr o o<|o4 (fuel:=2) [0,2,4] #[true,true,true,true,true,false,false] kr ?_
 refine q_y (aL 1 .here o o o aa bH) o ?_
 refine cB h λw Z h=>jZ (m3 f _ Z) kr o o o ?_
 refine cB h λa4 a3 h=>jZ (zd R w c.1 _ a3) kr o o o ?_
 refine fa ?_
 refine ah [6,39] o<|af 5 kr o<|st 0 .here bH o o o o tr<|zL [6] o<|zF 1 [6] kr o o<|aN kr<|zt<|zR ?_
 cases h
 exact aE (rs:=[.cell 6 26,.tmp 7]) o (.cons (.cell 0 .here o o o aa bH) (.cons (.tmp o) (.nil))) o (λ_ vs g=>aI vs g) (λ_ _ _=>List.nil_sublist _)
theorem zg(f V W r)(h:pf f V W=some r):FnT PP bD 289 [.one W77 f,ti V,.one W66 W] [] (λv=> .tup [⟨.raw (.slice none 0 0),au v 0⟩,⟨(.int .i64),r.2⟩]) (λv=>[Res.own (au v 0) 56 Y56 r.1]):=by
 unfold pf at h
 refine ik Tryz.func289 o 76 o o λF hT=>?_
 refine zu<|bA o o λu=>zA o<|zs<|zW o<|rI h o (λhc h=>?_) λhc h=>?_
 ·refine zU 2 o<|zf<|zT<|bT (.slice none 0 0) o 56 Y56 ?_
  cases h
  exact aE (rs:=[.tmp 6,.tmp 7]) o (.cons (.tmp o) (.cons (.tmp o) (.nil))) o (λ_ vs g=>by cases g with|cons M g=>cases g with|cons C g=>cases g;exact⟨_,o,.cons (bf M) (.cons C (.nil))⟩) (λ_ vs g=>by cases g with|cons M g=>cases g with|cons C g=>cases g;rw[bP M];exact(.cons_cons _ (.cons _ .slnil)))
 refine zy<|zm 1 o<|cB h λR a8 h=>rcT hT [] (tg _ _ a8) kr o o o λ_=>zA o<|zs<|zW o<|rI h o (λhc h=>?_) λhc h=>?_
 ·refine zU 2 o<|zf<|zT<|bT (.slice none 0 0) o 56 Y56 ?_
  cases h
  exact aE (rs:=[.tmp 6,.tmp 7]) o (.cons (.tmp o) (.cons (.tmp o) (.nil))) o (λ_ vs g=>by cases g with|cons M g=>cases g with|cons C g=>cases g;exact⟨_,o,.cons (bf M) (.cons C (.nil))⟩) (λ_ vs g=>by cases g with|cons M g=>cases g with|cons C g=>cases g;rw[bP M];exact(.cons_cons _ (.cons _ .slnil)))
 refine zy<|iE h λhc h=>BW (B:=48) ag o tT o vj o o o hc.1 hc.2 o λv6=>?_
 refine q 1 [(0,.one W77 f),(1,ti V),(5,ptr u 0),(8,ti R.1),(10,.one W62 v6)] [] o<|za<|jK h (γ:=Value) (λo8 g9=>[(1,ti V),(5,ptr u 0),(8,ti R.1),(10,.one W62 g9)]) (λo8 g9=>[Res.own g9 56 Y56 o8,Res.var u 26 W66 W]) (λk7 h=>?_) λo8 g9 h=>?_
 ·refine zW o<|zb<|ah [0,1,5,8,10,26,27] o<|bg (γ:=Value) (λ(c:Int×(List Z55)) g17=>[(0,.one W77 f),(1,ti V),(5,ptr u 0),(8,ti R.1),(10,.one W62 g17),(26,ti (List.length f:Int)),(27,ti c.1)]) (λ(c:Int×(List Z55)) g17=>[Res.own g17 56 Y56 c.2,Res.var u 26 W66 W]) (gy f V W R k7) (0,(List.replicate (Int.toNat 49) ((0,(List.replicate 32 (0:Int)),false,()):Z55))) v6 h o o ?_
  clear h
  intro a3 c g17 h
  cases a3 with
  |zero=>cases h
  |succ a3=>
  simp only[gy]at h
  refine zW o<|zs<|rI h o (λhc h=>?_) λhc h=>?_
  ·refine zk<|zt<|jK h (γ:=Value) (λm g21=>[(0,.one W77 f),(1,ti V),(5,ptr u 0),(8,ti R.1),(10,.one W62 g21),(26,ti (List.length f:Int)),(27,ti c.1)]) (λm g21=>[Res.own g21 56 Y56 m,Res.var u 26 W66 W]) (λb5 h=>?_) λm g21 h=>?_
   ·refine zb<|zW o<|zs<|zU 2 o<|iE h λhc h=>y (eZ ag o o hc.1 hc.2 o iZ) o ?_
    refine y (xN ag f2 o o o o (ab (ab (aq aa)))) o ?_
    refine y (fP o ty4) o ?_
    refine zA o<|rI h o (λhc h=>zx<|ze<|zq<|zt<|ai c.2 g17 h o o) λhc h=>zy<|zm 4 o<|iE h λhc h=>y (eZ ag o o hc.1 hc.2 o iZ) o ?_
    refine y (fP o iZ) o ?_
    refine iE h λhc h=>ce 0 o pix λH G N hv=>?_
    rw[hv]
    try clear hv
    refine y (cx ag o o hc.1 (by first|exact hc.2|simpa using hc.2) o iZ) o ?_
    refine mw 0 (Int.toNat c.1) .here o o o pix pof aa iZ ?_
    refine za<|zs<|zW o<|rI h o (λhc h=>zx<|ze<|zq<|zt<|ai (List.set c.2 (Int.toNat c.1) (List.getD f (Int.toNat c.1) (0,(List.replicate 32 (0:Int)),false,()))) (.slice (some ⟨H,G,none⟩) (List.length c.2) N) h o o) λhc h=>zk<|zt<|zs ?_
    obtain⟨a4,h⟩:=cj h
    refine GE (k:=0) o (by omega) λO Z b6=>?_
    refine cB h λJ a5 h=>gE (S:=bC [aV u 26 W66 W,sA O Z Y56 f]) kr ?_
    refine Cq (γ:=Nat) (λ(d:Nat)=>[(0,.one W77 f),(1,ti V),(5,ptr u 0),(8,ti R.1),(10,.one W62 (.slice (some ⟨H,G,none⟩) (List.length c.2) N)),(11,ti c.1),(12,ptr d 0),(13,ti J.2),(26,ti (List.length f:Int)),(27,ti c.1)]) (λ(d:Nat)=>[Res.var d 26 W66 J.1,Res.own (.slice (some ⟨H,G,none⟩) (List.length c.2) N) 56 Y56 (List.set c.2 (Int.toNat c.1) (List.getD f (Int.toNat c.1) (0,(List.replicate 32 (0:Int)),false,()))),Res.var u 26 W66 W]) (λd=>?_) (λa6=>?_)
    ·refine zt<|zs<|eL kr kr ?_
     refine ay ag 3 [0,1,5,8,10,11,12,26,27,59] (E':=[(0,.one W77 f),(1,ti V),(5,ptr u 0),(8,ti R.1),(10,.one W62 (.slice (some ⟨H,G,none⟩) (List.length c.2) N)),(11,ti c.1),(12,ptr d 0),(26,ti (List.length f:Int)),(27,ti c.1),(59,tb (J.2 !=0))]) o ?_
     obtain⟨a9,e,h⟩:=al h;rw[e]
     refine bX h λb0 b1 h=>?_
     refine wJ 8 (λ(a7:Bool)=>[(0,.one W77 f),(1,ti V),(5,ptr u 0),(8,ti R.1),(10,.one W62 (.slice (some ⟨H,G,none⟩) (List.length c.2) N)),(26,ti (List.length f:Int)),(27,ti c.1),(67,tb a7)]) b0 r ?_ ?_
     ·cases a9
      ·replace h:=ifF h
       refine dH dl o ?_
       refine q_y (aL 0 .here o o o aa bH) o ?_
       refine ay ag 2 [0,1,5,8,10,26,27,59,60,61,62] (E':=[(0,.one W77 f),(1,ti V),(5,ptr u 0),(8,ti R.1),(10,.one W62 (.slice (some ⟨H,G,none⟩) (List.length c.2) N)),(26,ti (List.length f:Int)),(27,ti c.1),(59,tb false),(60,.one W66 J.1),(61,.one W77 f),(62,ti c.1)]) o ?_
       refine dH dl o ?_
       refine iE h λhc h=>q_y (eZ ag o o hc.1 hc.2 o iZ) o ?_
       refine dH dl o ?_
       refine q_y (xN ag f1 o o o o (ab (aq aa))) o ?_
       refine dH dl o ?_
       refine q_y (fP o bH) o ?_
       refine dH dl o ?_
       refine q_y (oH 20 o o o o bH o vl vm) o ?_
       refine ay ag 1 [0,1,5,8,10,26,27,67] (E':=[(0,.one W77 f),(1,ti V),(5,ptr u 0),(8,ti R.1),(10,.one W62 (.slice (some ⟨H,G,none⟩) (List.length c.2) N)),(26,ti (List.length f:Int)),(27,ti c.1),(67,tb (!eqD W66 J.1 ((List.getD f (Int.toNat c.1) (0,(List.replicate 32 (0:Int)),false,())).2.1)))]) o ?_
       refine fZ ?_
       exact t8 (!eqD W66 J.1 ((List.getD f (Int.toNat c.1) (0,(List.replicate 32 (0:Int)),false,())).2.1)) [0,1,5,8,10,26,27,67] h o
      replace h:=ifT h
      refine ay ag 8 [0,1,5,8,10,26,27,67] (E':=[(0,.one W77 f),(1,ti V),(5,ptr u 0),(8,ti R.1),(10,.one W62 (.slice (some ⟨H,G,none⟩) (List.length c.2) N)),(26,ti (List.length f:Int)),(27,ti c.1),(67,tb true)]) o ?_
      refine fZ ?_
      exact t8 true [0,1,5,8,10,26,27,67] h o
     intro a7 h
     rw[←b1]at h
     try dsimp only at h
     refine fa ?_
     refine zt<|rI h o (λhc h=>?_) λhc h=>?_
     ·refine zU 2 o<|zf<|zB<|zT<|zT<|zB<|zT<|bT (.slice none 0 0) o 56 Y56 ?_
      cases h
      exact aE (rs:=[.tmp 6,.tmp 7]) o (.cons (.tmp o) (.cons (.tmp o) (.nil))) o (λ_ vs g=>by cases g with|cons M g=>cases g with|cons C g=>cases g;exact⟨_,o,.cons (bf M) (.cons C (.nil))⟩) (λ_ vs g=>by cases g with|cons M g=>cases g with|cons C g=>cases g;rw[bP M];exact(.cons_cons _ (.cons _ (.cons _ (.cons _ .slnil)))))
     exact zk<|zi<|zt<|pk [1,1] o<|ai (List.set c.2 (Int.toNat c.1) (List.getD f (Int.toNat c.1) (0,(List.replicate 32 (0:Int)),false,()))) (.slice (some ⟨H,G,none⟩) (List.length c.2) N) h o o
    refine bl 0 (.one W66 W) (ae (ak 2 o) (ae (kP 0 o) aj)) o kr (cq (S:=λw=>bC [aV u 26 W66 W,sA O Z Y56 f] w) (bn 0 o) 2 .here o o o o aa bH) λs=>zH 3 [1,2,3] s kr o o λs=>bl 4 (ptr O (Z+(Int.toNat c.1)*34)) s o kr (cx ag o o a4.1 a4.2 o iZ) λs=>zH 1 [5] s kr o o λs=>bl 6 (ti ((List.getD f (Int.toNat c.1) (0,(List.replicate 32 (0:Int)),false,())).1)) s o kr (CE (S:=λw=>bC [aV u 26 W66 W,sA O Z Y56 f] w) (bn 1 o) 0 (Int.toNat c.1) f0 o o o (by omega) pof (aq aa) ty2) λs=>?_
    refine qw (i:=7) (j:=11) kr o o ?_ ?_
    ·refine rcT hT [] (rR _ _ _ _ a5) kr o o o λ_=>za<|aR (ae (ak 2 o) (ae (kP 0 o) aj)) ?_
     refine ah [0,1,5,8,10,11,26,27,54] o<|zH 3 [8,9,10] (ae (ak 2 o) (ae (kP 0 o) aj)) kr o o λs=>az 11 kr o<|aC (t:=W66) o oB o λb2=>za<|aR (ae (ak 3 o) (ae (kP 1 o) aj)) ?_
     refine ah [0,1,5,8,10,11,12,26,27,55,56] o<|az 12 kr o<|st 0 .here bH o o o o tr<|za<|aR (ae (ak 3 o) (ae (kP 1 o) aj)) ?_
     refine ah [0,1,5,8,10,11,12,26,27,56] o<|zH 1 [13] (ae (ak 3 o) (ae (kP 1 o) aj)) kr o o λs=>dF kr<|AJ 56 0 1 o o ?_
     exact pk [0,1,1] o<|ah [0,1,5,8,10,11,12,13,26,27] o<|a6 b2
    refine aC (t:=W66) o oB o λb3=>za<|aR (ae (ak 3 o) (ae (kP 1 o) aj)) ?_
    refine ah [0,1,5,8,10,11,12,26,27,47,48,53] o<|az 7 kr o<|rcT hT [] (rR _ _ _ _ a5) kr o o o λ_=>za<|aR (ae (ak 3 o) (ae (kP 1 o) aj)) ?_
    refine ah [0,1,5,8,10,11,12,26,27,54] o<|zH 3 [8,9,10] (ae (ak 3 o) (ae (kP 1 o) aj)) kr o o λs=>az 12 kr o<|st 0 .here bH o o o o tr<|za<|aR (ae (ak 3 o) (ae (kP 1 o) aj)) ?_
    refine ah [0,1,5,8,10,11,12,26,27,56] o<|zH 1 [13] (ae (ak 3 o) (ae (kP 1 o) aj)) kr o o λs=>dF kr<|AJ 56 0 1 o o ?_
    exact pk [0,1,1] o<|ah [0,1,5,8,10,11,12,13,26,27] o<|a6 b3
   exact zr<|zA o<|aX ((wrap .i64 (c.1+1)),m) g21 (Nat.lt_succ_self _) h o o
  exact zx<|ze<|ze<|zq<|zt<|ai c.2 g17 h o o
 refine zU 3 o<|yl 1 .here bH o o o tr o<|y (aY o vj o o (.cons f0 o o aa (.cons f1 o o aa (.cons f2 o o aa .nil)))) o ?_
 refine iE h λhc h=>ce 0 o pix λb7 b8 b9 hv=>?_
 rw[hv]
 try clear hv
 refine y (cx ag o o hc.1 (by first|exact hc.2|simpa using hc.2) o iZ) o ?_
 refine mw 0 (Int.toNat R.1) .here o o o pix pof aa iZ ?_
 refine zz<|zE o ?_
 cases h
 exact aE (rs:=[.tmp 6,.tmp 7]) o (.cons (.tmp o) (.cons (.tmp o) (.nil))) o (λ_ vs g=>by cases g with|cons M g=>cases g with|cons C g=>cases g;exact⟨_,o,.cons (bf M) (.cons C (.nil))⟩) (λ_ vs g=>by cases g with|cons M g=>cases g with|cons C g=>cases g;rw[bP M];exact(.cons_cons _ (.cons _ .slnil)))
end Sx
