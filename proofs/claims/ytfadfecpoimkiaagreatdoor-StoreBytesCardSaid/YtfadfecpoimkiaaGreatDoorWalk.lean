/-
  Own work, printed by a program of the same hand. Each function of the code answers what its plain twin reckons.
-/
import Derived.Test.YtfadfecpoimkiaaGreatDoorWalk3
namespace Sx
open Go Go.Proofs Go.IntKind
set_option maxRecDepth 10000
set_option maxHeartbeats 1000000
attribute [local irreducible] wpList
theorem wj(Z:Value)(H:Value)(G N w r)(h:pP G N w=some r):FnT PP bN 80 [tp Z,ti N] [Res.cls (co H) Z G,Res.disk PP dI H w] (λ_=>ti r.1) (λ_=>[Res.cls (co H) Z r.2.1,Res.disk PP dI H r.2.2]):=by
 unfold pP at h
 refine iM Tryz.func80 o 65 o o λF hT=>?_
 refine nn λJ a6 hp=>?_
 subst hp
 refine cd (x:=G) (q:=H) ?_
 refine zW o<|zs<|zs<|fY λa2=>?_
 refine zr<|zm 3 o<|yl 0 f5 ty4 o o o tr o<|za<|rI h o (λhc h=>?_) λhc h=>?_
 ·refine zU 1 o<|zf<|zT<|cd (x:=G) (q:=H) ?_
  cases h
  exact bm o (.tmp o) (.cons_cons _ (.cons_cons _ .slnil))
 refine zk<|zt<|zs<|zu<|q 3 [(0,ptr J 0),(1,ti N),(12,tb (decide (N<0)))] [] o ?_
 obtain⟨b4,e,h⟩:=aj h;rw[e]
 refine aH 7 [(0,ptr J 0),(1,ti N),(19,tb (b4||(decide (N>G.2.2.2.2.1))))] [Res.var J 186 W43 (bT G H a2),Res.own a2 195 Y195 G.2.2.2.1,Res.disk PP dI H w] (?_) ?_
 ·clear h
  cases b4
  ·refine zm 4 o<|al dl o ?_
   exact yl 0 f4 ty2 o o o tr o<|zA o<|ap () o o
  exact zA o<|ap () o o
 refine za<|rI h o (λhc h=>?_) λhc h=>?_
 ·refine zU 1 o<|zf<|zT<|cd (x:=G) (q:=H) ?_
  cases h
  exact bm o (.tmp o) (.cons_cons _ (.cons_cons _ .slnil))
 refine zk<|zt<|jK h (γ:=Value) (λd g7=>[]) (λd g7=>[Res.var J 186 W43 (bT G H g7),Res.own g7 195 Y195 d.1,Res.disk PP dI H d.2]) (λk5 h=>?_) λd g7 h=>?_
 ·refine zb<|ai [0,1] o<|bl (γ:=Value) (λ(M:aU×(List cq)) g12=>[(0,ptr J 0),(1,ti N)]) (λ(M:aU×(List cq)) g12=>[Res.var J 186 W43 (bT G H g12),Res.own g12 195 Y195 M.2,Res.disk PP dI H M.1]) (lq G N k5) (w,G.2.2.2.1) a2 h o o ?_
  clear h
  intro a3 M g12 h
  cases a3 with
  |zero=>cases h
  |succ a3=>
  simp only[lq]at h
  refine zs<|zU 3 o<|yl 0 f3 tx5 o o o tr o<|y (ct af 1 o o o) o ?_
  refine q 2 [(0,ptr J 0),(1,ti N),(26,tb (decide ((List.length M.2:Int)>0)))] [] o ?_
  obtain⟨a5,e,h⟩:=aj h;rw[e]
  refine bL h 10 (λa4=>[(0,ptr J 0),(1,ti N),(36,tb a4)]) (λ_=>[Res.var J 186 W43 (bT G H g12),Res.own g12 195 Y195 M.2,Res.disk PP dI H M.1]) (λa7 h=>?_) λa4 h=>?_
  ·cases a5
   ·replace h:=ifF h
    exact zN o<|zt<|ah false () h o o
   replace h:=ifT h
   refine zm 3 o<|al dl o ?_
   refine yl 0 f3 tx5 o o o tr o<|al dl o ?_
   refine iE h λhc h=>cT 1 o (by omega) λa8 a9 b0 hv=>?_
   rw[hv]
   try clear hv
   refine y (dn af o o hc.1 (by first|exact hc.2|simpa using hc.2) o dB) o ?_
   refine zm 1 o<|al dl o ?_
   refine y (eC 1 0 f2 o o (by omega) o (ab (ab (av aa))) ty2) o ?_
   exact zN o<|zt<|ah (decide (((List.getD M.2 0 (0,0,0,())).2.2.1)≤N)) () h o o
  refine za<|rI h o (λhc h=>?_) λhc h=>?_
  ·refine zk<|zt<|zb<|zs<|jK h (γ:=Value) (λm g22=>[(0,ptr J 0),(1,ti N),(5,ti m.1)]) (λm g22=>[Res.disk PP dI H m.2,Res.var J 186 W43 (bT G H g22),Res.own g22 195 Y195 M.2]) (λb1 h=>?_) λm g22 h=>?_
   ·refine dA kr<|zF 3 [0,4,5] kr o o ?_
    refine bv (i:=1) (j:=6) kr o o ?_ ?_
    ·refine zA o<|ai [0,1,38,41,42] o<|zF 1 [2] kr o o ?_
     refine bv (i:=3) (j:=6) kr o o ?_ ?_
     ·refine yl 0 f0 ec o o o tr o<|zL [0,1,40,41,42] o<|ae 6 kr o<|zA o<|ai [0,1,40,41,43] o<|zF 1 [7] kr o o<|ae 8 kr o<|yl 0 f3 tx5 o o o tr o<|zL [0,1,40,41,45] o<|ae 9 kr o<|iE h λhc h=>cT 1 o (by omega) λV R W hv=>?_
      rw[hv]
      try clear hv
      refine y (dn af o o hc.1 (by first|exact hc.2|simpa using hc.2) o dB) o ?_
      refine zL [0,1,40,41,46] o<|zF 1 [10] kr o o<|ae 11 kr o<|y (eC 1 0 f0 o o (by omega) o (av aa) ty3) o ?_
      exact zL [0,1,40,41,48] o<|ae 12 kr o<|cB h λC f h=>rcT hT [0] (aI _ _ _ _ _ _ f) kr o o o λ_=>zL [0,1,40,49] o<|ae 13 kr o<|cB h λc u h=>rc [2] (aP _ _ _ _ u) kr o o o λ_=>zL [0,1,50] o<|zF 1 [14] kr o o<|aJ kr<|zt<|ah (c.1,c.2) (.slice (some ⟨V,R,none⟩) (List.length M.2) W) h o o
     refine zA o<|ai [0,1,39,41,43] o<|zF 1 [7] kr o o ?_
     refine bv (i:=3) (j:=8) kr o o ?_ ?_
     ·refine yl 0 f0 ec o o o tr o<|zL [0,1,40,41,44] o<|ae 8 kr o<|yl 0 f3 tx5 o o o tr o<|zL [0,1,40,41,45] o<|ae 9 kr o<|iE h λhc h=>cT 1 o (by omega) λV R W hv=>?_
      rw[hv]
      try clear hv
      refine y (dn af o o hc.1 (by first|exact hc.2|simpa using hc.2) o dB) o ?_
      refine zL [0,1,40,41,46] o<|zF 1 [10] kr o o<|ae 11 kr o<|y (eC 1 0 f0 o o (by omega) o (av aa) ty3) o ?_
      exact zL [0,1,40,41,48] o<|ae 12 kr o<|cB h λC f h=>rcT hT [0] (aI _ _ _ _ _ _ f) kr o o o λ_=>zL [0,1,40,49] o<|ae 13 kr o<|cB h λc u h=>rc [2] (aP _ _ _ _ u) kr o o o λ_=>zL [0,1,50] o<|zF 1 [14] kr o o<|aJ kr<|zt<|ah (c.1,c.2) (.slice (some ⟨V,R,none⟩) (List.length M.2) W) h o o
     refine yl 0 f3 tx5 o o o tr o<|zL [0,1,39,41,45] o ?_
     refine bv (i:=3) (j:=9) kr o o ?_ ?_
     ·refine yl 0 f0 ec o o o tr o<|zL [0,1,40,41,45] o<|ae 9 kr o<|iE h λhc h=>cT 1 o (by omega) λV R W hv=>?_
      rw[hv]
      try clear hv
      refine y (dn af o o hc.1 (by first|exact hc.2|simpa using hc.2) o dB) o ?_
      refine zL [0,1,40,41,46] o<|zF 1 [10] kr o o<|ae 11 kr o<|y (eC 1 0 f0 o o (by omega) o (av aa) ty3) o ?_
      exact zL [0,1,40,41,48] o<|ae 12 kr o<|cB h λC f h=>rcT hT [0] (aI _ _ _ _ _ _ f) kr o o o λ_=>zL [0,1,40,49] o<|ae 13 kr o<|cB h λc u h=>rc [2] (aP _ _ _ _ u) kr o o o λ_=>zL [0,1,50] o<|zF 1 [14] kr o o<|aJ kr<|zt<|ah (c.1,c.2) (.slice (some ⟨V,R,none⟩) (List.length M.2) W) h o o
     refine iE h λhc h=>cT 1 o (by omega) λV R W hv=>?_
     rw[hv]
     try clear hv
     refine y (dn af o o hc.1 (by first|exact hc.2|simpa using hc.2) o dB) o ?_
     refine zL [0,1,39,41,46] o<|zF 1 [10] kr o o ?_
     refine bv (i:=3) (j:=11) kr o o ?_ ?_
     ·refine yl 0 f0 ec o o o tr o<|zL [0,1,40,41,47] o<|ae 11 kr o<|y (eC 1 0 f0 o o (by omega) o (av aa) ty3) o ?_
      exact zL [0,1,40,41,48] o<|ae 12 kr o<|cB h λC f h=>rcT hT [0] (aI _ _ _ _ _ _ f) kr o o o λ_=>zL [0,1,40,49] o<|ae 13 kr o<|cB h λc u h=>rc [2] (aP _ _ _ _ u) kr o o o λ_=>zL [0,1,50] o<|zF 1 [14] kr o o<|aJ kr<|zt<|ah (c.1,c.2) (.slice (some ⟨V,R,none⟩) (List.length M.2) W) h o o
     refine y (eC 1 0 f0 o o (by omega) o (av aa) ty3) o ?_
     refine zL [0,1,39,41,48] o ?_
     refine bv (i:=3) (j:=12) kr o o ?_ ?_
     ·exact yl 0 f0 ec o o o tr o<|zL [0,1,40,41,48] o<|ae 12 kr o<|cB h λC f h=>rcT hT [0] (aI _ _ _ _ _ _ f) kr o o o λ_=>zL [0,1,40,49] o<|ae 13 kr o<|cB h λc u h=>rc [2] (aP _ _ _ _ u) kr o o o λ_=>zL [0,1,50] o<|zF 1 [14] kr o o<|aJ kr<|zt<|ah (c.1,c.2) (.slice (some ⟨V,R,none⟩) (List.length M.2) W) h o o
     exact cB h λC f h=>rcT hT [0] (aI _ _ _ _ _ _ f) kr o o o λ_=>zL [0,1,39,49] o<|ae 3 kr o<|yl 0 f0 ec o o o tr o<|zL [0,1,40,49] o<|ae 13 kr o<|cB h λc u h=>rc [2] (aP _ _ _ _ u) kr o o o λ_=>zL [0,1,50] o<|zF 1 [14] kr o o<|aJ kr<|zt<|ah (c.1,c.2) (.slice (some ⟨V,R,none⟩) (List.length M.2) W) h o o
    refine zA o<|ai [0,1,37,41,43] o<|zF 1 [7] kr o o ?_
    refine bv (i:=1) (j:=8) kr o o ?_ ?_
    ·refine zA o<|ai [0,1,38,41,44] o<|zF 1 [2] kr o o ?_
     refine bv (i:=3) (j:=8) kr o o ?_ ?_
     ·refine yl 0 f0 ec o o o tr o<|zL [0,1,40,41,44] o<|ae 8 kr o<|yl 0 f3 tx5 o o o tr o<|zL [0,1,40,41,45] o<|ae 9 kr o<|iE h λhc h=>cT 1 o (by omega) λV R W hv=>?_
      rw[hv]
      try clear hv
      refine y (dn af o o hc.1 (by first|exact hc.2|simpa using hc.2) o dB) o ?_
      refine zL [0,1,40,41,46] o<|zF 1 [10] kr o o<|ae 11 kr o<|y (eC 1 0 f0 o o (by omega) o (av aa) ty3) o ?_
      exact zL [0,1,40,41,48] o<|ae 12 kr o<|cB h λC f h=>rcT hT [0] (aI _ _ _ _ _ _ f) kr o o o λ_=>zL [0,1,40,49] o<|ae 13 kr o<|cB h λc u h=>rc [2] (aP _ _ _ _ u) kr o o o λ_=>zL [0,1,50] o<|zF 1 [14] kr o o<|aJ kr<|zt<|ah (c.1,c.2) (.slice (some ⟨V,R,none⟩) (List.length M.2) W) h o o
     refine yl 0 f3 tx5 o o o tr o<|zL [0,1,39,41,45] o ?_
     refine bv (i:=3) (j:=9) kr o o ?_ ?_
     ·refine yl 0 f0 ec o o o tr o<|zL [0,1,40,41,45] o<|ae 9 kr o<|iE h λhc h=>cT 1 o (by omega) λV R W hv=>?_
      rw[hv]
      try clear hv
      refine y (dn af o o hc.1 (by first|exact hc.2|simpa using hc.2) o dB) o ?_
      refine zL [0,1,40,41,46] o<|zF 1 [10] kr o o<|ae 11 kr o<|y (eC 1 0 f0 o o (by omega) o (av aa) ty3) o ?_
      exact zL [0,1,40,41,48] o<|ae 12 kr o<|cB h λC f h=>rcT hT [0] (aI _ _ _ _ _ _ f) kr o o o λ_=>zL [0,1,40,49] o<|ae 13 kr o<|cB h λc u h=>rc [2] (aP _ _ _ _ u) kr o o o λ_=>zL [0,1,50] o<|zF 1 [14] kr o o<|aJ kr<|zt<|ah (c.1,c.2) (.slice (some ⟨V,R,none⟩) (List.length M.2) W) h o o
     refine iE h λhc h=>cT 1 o (by omega) λV R W hv=>?_
     rw[hv]
     try clear hv
     refine y (dn af o o hc.1 (by first|exact hc.2|simpa using hc.2) o dB) o ?_
     refine zL [0,1,39,41,46] o<|zF 1 [10] kr o o ?_
     refine bv (i:=3) (j:=11) kr o o ?_ ?_
     ·refine yl 0 f0 ec o o o tr o<|zL [0,1,40,41,47] o<|ae 11 kr o<|y (eC 1 0 f0 o o (by omega) o (av aa) ty3) o ?_
      exact zL [0,1,40,41,48] o<|ae 12 kr o<|cB h λC f h=>rcT hT [0] (aI _ _ _ _ _ _ f) kr o o o λ_=>zL [0,1,40,49] o<|ae 13 kr o<|cB h λc u h=>rc [2] (aP _ _ _ _ u) kr o o o λ_=>zL [0,1,50] o<|zF 1 [14] kr o o<|aJ kr<|zt<|ah (c.1,c.2) (.slice (some ⟨V,R,none⟩) (List.length M.2) W) h o o
     refine y (eC 1 0 f0 o o (by omega) o (av aa) ty3) o ?_
     refine zL [0,1,39,41,48] o ?_
     refine bv (i:=3) (j:=12) kr o o ?_ ?_
     ·exact yl 0 f0 ec o o o tr o<|zL [0,1,40,41,48] o<|ae 12 kr o<|cB h λC f h=>rcT hT [0] (aI _ _ _ _ _ _ f) kr o o o λ_=>zL [0,1,40,49] o<|ae 13 kr o<|cB h λc u h=>rc [2] (aP _ _ _ _ u) kr o o o λ_=>zL [0,1,50] o<|zF 1 [14] kr o o<|aJ kr<|zt<|ah (c.1,c.2) (.slice (some ⟨V,R,none⟩) (List.length M.2) W) h o o
     exact cB h λC f h=>rcT hT [0] (aI _ _ _ _ _ _ f) kr o o o λ_=>zL [0,1,39,49] o<|ae 3 kr o<|yl 0 f0 ec o o o tr o<|zL [0,1,40,49] o<|ae 13 kr o<|cB h λc u h=>rc [2] (aP _ _ _ _ u) kr o o o λ_=>zL [0,1,50] o<|zF 1 [14] kr o o<|aJ kr<|zt<|ah (c.1,c.2) (.slice (some ⟨V,R,none⟩) (List.length M.2) W) h o o
    refine yl 0 f3 tx5 o o o tr o<|zL [0,1,37,41,45] o ?_
    refine bv (i:=1) (j:=9) kr o o ?_ ?_
    ·refine zA o<|ai [0,1,38,41,45] o<|zF 1 [2] kr o o ?_
     refine bv (i:=3) (j:=9) kr o o ?_ ?_
     ·refine yl 0 f0 ec o o o tr o<|zL [0,1,40,41,45] o<|ae 9 kr o<|iE h λhc h=>cT 1 o (by omega) λV R W hv=>?_
      rw[hv]
      try clear hv
      refine y (dn af o o hc.1 (by first|exact hc.2|simpa using hc.2) o dB) o ?_
      refine zL [0,1,40,41,46] o<|zF 1 [10] kr o o<|ae 11 kr o<|y (eC 1 0 f0 o o (by omega) o (av aa) ty3) o ?_
      exact zL [0,1,40,41,48] o<|ae 12 kr o<|cB h λC f h=>rcT hT [0] (aI _ _ _ _ _ _ f) kr o o o λ_=>zL [0,1,40,49] o<|ae 13 kr o<|cB h λc u h=>rc [2] (aP _ _ _ _ u) kr o o o λ_=>zL [0,1,50] o<|zF 1 [14] kr o o<|aJ kr<|zt<|ah (c.1,c.2) (.slice (some ⟨V,R,none⟩) (List.length M.2) W) h o o
     refine iE h λhc h=>cT 1 o (by omega) λV R W hv=>?_
     rw[hv]
     try clear hv
     refine y (dn af o o hc.1 (by first|exact hc.2|simpa using hc.2) o dB) o ?_
     refine zL [0,1,39,41,46] o<|zF 1 [10] kr o o ?_
     refine bv (i:=3) (j:=11) kr o o ?_ ?_
     ·refine yl 0 f0 ec o o o tr o<|zL [0,1,40,41,47] o<|ae 11 kr o<|y (eC 1 0 f0 o o (by omega) o (av aa) ty3) o ?_
      exact zL [0,1,40,41,48] o<|ae 12 kr o<|cB h λC f h=>rcT hT [0] (aI _ _ _ _ _ _ f) kr o o o λ_=>zL [0,1,40,49] o<|ae 13 kr o<|cB h λc u h=>rc [2] (aP _ _ _ _ u) kr o o o λ_=>zL [0,1,50] o<|zF 1 [14] kr o o<|aJ kr<|zt<|ah (c.1,c.2) (.slice (some ⟨V,R,none⟩) (List.length M.2) W) h o o
     refine y (eC 1 0 f0 o o (by omega) o (av aa) ty3) o ?_
     refine zL [0,1,39,41,48] o ?_
     refine bv (i:=3) (j:=12) kr o o ?_ ?_
     ·exact yl 0 f0 ec o o o tr o<|zL [0,1,40,41,48] o<|ae 12 kr o<|cB h λC f h=>rcT hT [0] (aI _ _ _ _ _ _ f) kr o o o λ_=>zL [0,1,40,49] o<|ae 13 kr o<|cB h λc u h=>rc [2] (aP _ _ _ _ u) kr o o o λ_=>zL [0,1,50] o<|zF 1 [14] kr o o<|aJ kr<|zt<|ah (c.1,c.2) (.slice (some ⟨V,R,none⟩) (List.length M.2) W) h o o
     exact cB h λC f h=>rcT hT [0] (aI _ _ _ _ _ _ f) kr o o o λ_=>zL [0,1,39,49] o<|ae 3 kr o<|yl 0 f0 ec o o o tr o<|zL [0,1,40,49] o<|ae 13 kr o<|cB h λc u h=>rc [2] (aP _ _ _ _ u) kr o o o λ_=>zL [0,1,50] o<|zF 1 [14] kr o o<|aJ kr<|zt<|ah (c.1,c.2) (.slice (some ⟨V,R,none⟩) (List.length M.2) W) h o o
    refine iE h λhc h=>cT 1 o (by omega) λV R W hv=>?_
    rw[hv]
    try clear hv
    refine y (dn af o o hc.1 (by first|exact hc.2|simpa using hc.2) o dB) o ?_
    refine zL [0,1,37,41,46] o<|zF 1 [10] kr o o ?_
    refine bv (i:=1) (j:=11) kr o o ?_ ?_
    ·refine zA o<|ai [0,1,38,41,47] o<|zF 1 [2] kr o o ?_
     refine bv (i:=3) (j:=11) kr o o ?_ ?_
     ·refine yl 0 f0 ec o o o tr o<|zL [0,1,40,41,47] o<|ae 11 kr o<|y (eC 1 0 f0 o o (by omega) o (av aa) ty3) o ?_
      exact zL [0,1,40,41,48] o<|ae 12 kr o<|cB h λC f h=>rcT hT [0] (aI _ _ _ _ _ _ f) kr o o o λ_=>zL [0,1,40,49] o<|ae 13 kr o<|cB h λc u h=>rc [2] (aP _ _ _ _ u) kr o o o λ_=>zL [0,1,50] o<|zF 1 [14] kr o o<|aJ kr<|zt<|ah (c.1,c.2) (.slice (some ⟨V,R,none⟩) (List.length M.2) W) h o o
     refine y (eC 1 0 f0 o o (by omega) o (av aa) ty3) o ?_
     refine zL [0,1,39,41,48] o ?_
     refine bv (i:=3) (j:=12) kr o o ?_ ?_
     ·exact yl 0 f0 ec o o o tr o<|zL [0,1,40,41,48] o<|ae 12 kr o<|cB h λC f h=>rcT hT [0] (aI _ _ _ _ _ _ f) kr o o o λ_=>zL [0,1,40,49] o<|ae 13 kr o<|cB h λc u h=>rc [2] (aP _ _ _ _ u) kr o o o λ_=>zL [0,1,50] o<|zF 1 [14] kr o o<|aJ kr<|zt<|ah (c.1,c.2) (.slice (some ⟨V,R,none⟩) (List.length M.2) W) h o o
     exact cB h λC f h=>rcT hT [0] (aI _ _ _ _ _ _ f) kr o o o λ_=>zL [0,1,39,49] o<|ae 3 kr o<|yl 0 f0 ec o o o tr o<|zL [0,1,40,49] o<|ae 13 kr o<|cB h λc u h=>rc [2] (aP _ _ _ _ u) kr o o o λ_=>zL [0,1,50] o<|zF 1 [14] kr o o<|aJ kr<|zt<|ah (c.1,c.2) (.slice (some ⟨V,R,none⟩) (List.length M.2) W) h o o
    refine y (eC 1 0 f0 o o (by omega) o (av aa) ty3) o ?_
    refine zL [0,1,37,41,48] o ?_
    refine bv (i:=1) (j:=12) kr o o ?_ ?_
    ·refine zA o<|ai [0,1,38,41,48] o<|zF 1 [2] kr o o ?_
     refine bv (i:=3) (j:=12) kr o o ?_ ?_
     ·exact yl 0 f0 ec o o o tr o<|zL [0,1,40,41,48] o<|ae 12 kr o<|cB h λC f h=>rcT hT [0] (aI _ _ _ _ _ _ f) kr o o o λ_=>zL [0,1,40,49] o<|ae 13 kr o<|cB h λc u h=>rc [2] (aP _ _ _ _ u) kr o o o λ_=>zL [0,1,50] o<|zF 1 [14] kr o o<|aJ kr<|zt<|ah (c.1,c.2) (.slice (some ⟨V,R,none⟩) (List.length M.2) W) h o o
     exact cB h λC f h=>rcT hT [0] (aI _ _ _ _ _ _ f) kr o o o λ_=>zL [0,1,39,49] o<|ae 3 kr o<|yl 0 f0 ec o o o tr o<|zL [0,1,40,49] o<|ae 13 kr o<|cB h λc u h=>rc [2] (aP _ _ _ _ u) kr o o o λ_=>zL [0,1,50] o<|zF 1 [14] kr o o<|aJ kr<|zt<|ah (c.1,c.2) (.slice (some ⟨V,R,none⟩) (List.length M.2) W) h o o
    refine cB h λC f h=>rcT hT [0] (aI _ _ _ _ _ _ f) kr o o o λ_=>zL [0,1,37,49] o<|ae 1 kr o<|zA o<|ai [0,1,38,49] o<|zF 1 [2] kr o o<|ae 3 kr o<|yl 0 f0 ec o o o tr o<|zL [0,1,40,49] o<|ae 13 kr o<|cB h λc u h=>rc [2] (aP _ _ _ _ u) kr o o o λ_=>zL [0,1,50] o ?_
    exact zF 1 [14] kr o o<|aJ kr<|zt<|ah (c.1,c.2) (.slice (some ⟨V,R,none⟩) (List.length M.2) W) h o o
   refine zW o<|rI h o (λhc h=>?_) λhc h=>?_
   ·refine zU 3 o<|st 1 f5 ty4 o o o o tr<|zz<|zE o<|zT<|zB<|zT<|zB<|zT<|pk [1,1,0] o<|cd (x:=((),G.2.1,G.2.2.1,M.2,G.2.2.2.2.1,true,G.2.2.2.2.2.2)) (q:=H) ?_
    cases h
    exact bm o (.tmp o) (.cons_cons _ (.cons_cons _ .slnil))
   refine zk<|zt<|zr<|zm 4 o<|yl 1 f3 tx5 o o o tr o ?_
   obtain⟨O,h⟩:=cu h
   refine y (kF af (i:=1) (j:=(List.length M.2:Int)) o (fk 2 o) o o O.1 O.2.1 O.2.2 o dB) o ?_
   refine zm 2 o<|wu (k:=1) (j:=(Int.toNat (List.length M.2:Int))) 2 o (by have:=O.2.1;omega) (by have:=O.2.2;omega) ?_
   exact st 1 f3 tx5 o o o o tr<|nL o<|zn<|zi<|zt<|pk [1,1,0] o<|aY (m.2,(List.drop 1 (List.take (Int.toNat (List.length M.2:Int)) M.2))) (iL (T.size Y195) g22 1 (Int.toNat (List.length M.2:Int))) (Nat.lt_succ_self _) h o o
  exact zx<|ze<|ze<|zq<|zt<|ah (M.2,M.1) g12 h o o
 refine zU 1 o<|zf<|cd (x:=(bT G () d.1)) (q:=H) ?_
 cases h
 exact bm o (.tmp o) (.cons_cons _ (.cons_cons _ .slnil))
theorem qf(V:Value)(f:Value)(c R r)(h:ki c R=some r):FnT PP bN 22 [tp V] [Res.cls (bZ f) V c,Res.disk PP dI f R] (λ_=>ti r.1) (λ_=>[Res.cls (bZ f) V r.2.1,Res.disk PP dI f r.2.2]):=by
 unfold ki at h
 refine iM Tryz.func22 o 39 o o λF hT=>?_
 refine qe λJ d m hp=>?_
 subst hp
 refine gL (x:=c) (q:=f) ?_
 refine zW o<|zs<|pq λu O=>?_
 refine zr<|zm 3 o<|yl 0 f1 dm o o o tr o ?_
 obtain⟨M,h⟩:=cu h
 refine az (R':=Res.cls (co f) u c.2.1.2) 1 o (eO M)<|cB h λw C h=>rc [1,2] (wW _ _ _ _ _ C) kr o o o λ_=>zm 1 o<|zZ 4 o<|yl 2 f3 bR o o o tr o<|cB h λZ H h=>au (oW _ _ _ H) kr o o<|zA o<|zs<|zW o<|rI h o (λhc h=>?_) λhc h=>?_
 ·refine zU 2 o<|zf<|zT<|az (R':=Res.clsif (co f) u c.2.1.2 c.2.1.1) 0 o (du M)<|pk [2,0,1,0] o<|gL (x:=c) (q:=f) ?_
  cases h
  exact bm o (.tmp o) (.cons_cons _ (.cons_cons _ .slnil))
 refine zk<|zt<|zs<|zU 3 o<|yl 2 f0 ec o o o tr o<|zm 1 o<|cB h λa1 G h=>rc [1] (ym _ _ _ _ _ G) kr o o o λ_=>zm 1 o<|zz<|zA o<|rI h o (λhc h=>?_) λhc h=>?_
 ·refine zU 2 o<|zf<|zT<|az (R':=Res.clsif (co f) u c.2.1.2 c.2.1.1) 1 o (du M)<|pk [2,1,1,0] o<|gL (x:=c) (q:=f) ?_
  cases h
  exact bm o (.tmp o) (.cons_cons _ (.cons_cons _ .slnil))
 refine zy<|zm 3 o<|yl 2 f1 dm o o o tr o<|zm 1 o<|cB h λW N h=>rcT hT [1,0] (wj _ _ _ _ _ _ N) kr o o o λ_=>zE o<|az (R':=Res.clsif (co f) u W.2.1 c.2.1.1) 0 o (du M)<|pk [2,0,1,0] o<|gL (x:=((),(c.2.1.1,W.2.1),c.2.2.1,c.2.2.2.1,c.2.2.2.2)) (q:=f) ?_
 cases h
 exact bm o (.tmp o) (.cons_cons _ (.cons_cons _ .slnil))
theorem vE(f:Value)(c u r)(h:oV c u=some r):Fn PP 24 [tp f,ti u] [Res.disk PP dI f c] (λ_=> .tup []) (λ_=>[Res.disk PP dI f r]):=by
 unfold oV at h
 refine enter Tryz.func24 o 9 o o λF=>?_
 refine iy λM V hp=>?_
 subst hp
 refine zr<|zm 2 o<|y (BB o o) o ?_
 refine zm 2 o<|st 0 f4 ty3 o o o o tr<|zn<|cC (P:=PP) (I:=dI) (D:=(c.1,c.2.1,c.2.2.1,c.2.2.2.1,(max u 0),c.2.2.2.2.2.1,c.2.2.2.2.2.2)) ?_
 cases h
 exact eN o (λ_=>aG [] .nil) ((.cons_cons _ .slnil))
theorem xz(c u M r)(h:fu c u M=some r):bw PP 152 [.one W83 c,ts u,ti M] (.one Y152 r):=by
 unfold fu at h
 refine enter Tryz.func152 o 28 o o λF=>?_
 refine zu<|aB (t:=Y152) o vx o λV=>za<|bD h (λW=>[(6,ptr V 0)]) (λW=>[Res.var V 152 Y152 ([],0,0,[],())]) (λG h=>?_) λW h=>?_
 ·refine zW o<|zb<|ai [1,2,6,9,10,11] o<|bl (γ:=Unit) (λ(f:Int) _=>[(1,ts u),(2,ti M),(6,ptr V 0),(9,.one W83 c),(10,ti (List.length c:Int)),(11,ti f)]) (λ(f:Int) _=>[Res.var V 152 Y152 ([],0,0,[],())]) (mz c u M G) 0 () h o o ?_
  clear h
  intro C f gg h
  cases C with
  |zero=>cases h
  |succ C=>
  simp only[mz]at h
  refine zW o<|zs<|rI h o (λhc h=>?_) λhc h=>?_
  ·refine zk<|zt<|zs<|zb<|zu<|iE h λhc h=>y (eo af o o hc.1 hc.2 o oe) o ?_
   refine y (de o oe) o ?_
   refine aB (t:=Y152) o vx o λR=>st 0 .here oe o o o o tr<|zZ 1 o<|yl 0 f0 ty9 o o o tr o<|q 3 [(1,ts u),(2,ti M),(6,ptr V 0),(8,ptr R 0),(9,.one W83 c),(10,ti (List.length c:Int)),(11,ti f),(19,tb (((List.getD c (Int.toNat f) ([],0,0,[],())).1)==u))] [] o ?_
   obtain⟨H,e,h⟩:=aj h;rw[e]
   refine aH 5 [(1,ts u),(2,ti M),(6,ptr V 0),(8,ptr R 0),(9,.one W83 c),(10,ti (List.length c:Int)),(11,ti f),(24,tb (H&&(((List.getD c (Int.toNat f) ([],0,0,[],())).2.1)==M)))] [Res.var R 152 Y152 (List.getD c (Int.toNat f) ([],0,0,[],())),Res.var V 152 Y152 ([],0,0,[],())] (?_) ?_
   ·clear h
    cases H
    ·exact zA o<|ap () o o
    refine zm 1 o<|al dl o ?_
    exact yl 0 f1 ty3 o o o tr o<|zA o<|ap () o o
   exact za<|rI h o (λhc h=>zu<|yl 0 .here oe o o o tr o<|st 1 .here oe o o o o tr<|zf<|zB<|zT<|zT<|zB<|zT<|by cases h;exact aT o (.cell 1 .here o o o aa oe) (λ_ _ g=>g) (λ_ _ _=>List.nil_sublist _)) λhc h=>zk<|zi<|zt<|zr<|zA o<|pk [1] o<|aY (wrap .i64 (f+1)) () (Nat.lt_succ_self _) h o o
  exact zx<|ze<|ze<|zq<|zt<|ah () () h o o
 refine zu<|y (bc o vx o o .nil) o ?_
 refine st 0 .here oe o o o o tr<|zf ?_
 cases h
 exact aT o (.cell 0 .here o o o aa oe) (λ_ _ g=>g) (λ_ _ _=>List.nil_sublist _)
theorem vF(p0:Value)(f H G r)(h:iF f H G=some r):Fn PP 109 [tp p0,ts H,.one W83 G] [Res.file PP dI p0 f] (λ_=> .tup []) (λ_=>[Res.file PP dI p0 r]):=by
 unfold iF at h
 refine enter Tryz.func109 o 142 o o λF=>?_
 refine zh λu W m M hp=>?_
 subst hp
 refine zU 3 o<|yl 0 f1 tx3 o o o tr o<|y (ct af 2 o o o) o ?_
 refine q 1 [(0,ptr u 0),(1,ts H),(2,.one W83 G),(6,ti (List.length f.2.1:Int))] [] o ?_
 obtain⟨d1,e,h⟩:=aj h;rw[e]
 refine zz<|pA 3 (.int .i64) Y152 o λV=>?_
 refine p 1 [0,1,2,6,7] o<|za<|bD h (λR=>[(0,ptr u 0),(6,ti R.1),(7,.one W78 V)]) (λR=>[Res.dirty PP dI M f.2.2,Res.map PP 3 (.int .i64) Y152 V R.2,Res.var u 237 FT (W,m,M,()),Res.own W 5 (.int .u8) f.1,Res.own m 5 (.int .u8) f.2.1]) (λk7 h=>?_) λR h=>?_
 ·refine zU 3 o<|yl 1 f2 q9 o o o tr o<|pk [4,0,0,0,0] o<|DA (P:=PP) (I:=dI) uY o Tryz.underlying235 o λN b3=>?_
  refine za<|zb<|cB h λrr hall h=>ai [0,1,2,6,7,26] o<|rm (step:=fG f H G) (λs l=>l.Nodup∧∀k∈l,bh (.int .i64) k s.2=none) (rY f H G) b3 ⟨b3,λ_ _=>o⟩ hall (γ:=Unit) (λ(C:Int×(List (Int×nj))) _=>[(0,ptr u 0),(1,ts H),(2,.one W83 G),(6,ti C.1),(7,.one W78 V),(26,tp N)]) (λb5 (C:Int×(List (Int×nj))) _=>[Res.kiter PP dI M N f.2.2 b5 none,Res.map PP 3 (.int .i64) Y152 V C.2,Res.var u 237 FT (W,m,M,()),Res.own W 5 (.int .u8) f.1,Res.own m 5 (.int .u8) f.2.1]) () o o λb5 C gg hend hone=>?_
  refine zu ?_
  refine Fl (P:=PP) (I:=dI) uY o o (λht=>?_) (λA61 w B63 d2 a7 hk=>?_)
  ·obtain rfl:=hend ht
   refine BG ?_
   refine zA o<|zs ?_
   refine iK (b:=false) o (λhc=>?_) (λhc=>?_)
   ·cases hc
   exact zx<|ze<|ze<|zq<|zt<|ah (C.1,C.2) () h o o
  obtain⟨d3,a8⟩:=hone A61 w B63 a7
  clear h
  have h:=a8
  unfold fG at h
  refine zA o<|zs ?_
  refine iK (b:=true) o (λhc=>?_) (λhc=>?_)
  ·refine zk<|zt<|zb<|zu<|DB (P:=PP) (I:=dI) o 0 o o λd4=>?_
   refine zm 2 o<|zZ 3 o<|cB h λa3 c4 h=>au (xz _ _ _ _ c4) kr o o<|aB (t:=Y152) o vx o λb6=>st 0 .here oe o o o o tr<|zZ 2 o<|yl 0 .here oe o o o tr o<|iE h λhc h=>mR 2 o o o o GE Tryz.underlying238 hc ?_
   refine zZ 1 o<|yl 0 f2 ty3 o o o tr o<|q 2 [(6,ti C.1),(8,ti w),(9,ptr b6 0),(26,tp N),(41,tb (a3.2.2.1==1))] [0,1,2,7] o ?_
   obtain⟨b7,e,h⟩:=aj h;rw[e]
   refine aH 4 [(0,ptr u 0),(1,ts H),(2,.one W83 G),(6,ti C.1),(7,.one W78 V),(8,ti w),(26,tp N),(45,tb (b7||(a3.2.2.1==2)))] [Res.var b6 152 Y152 a3,Res.kiter PP dI M N f.2.2 (A61++B63) (some w),Res.map PP 3 (.int .i64) Y152 V (fN (.int .i64) w a3 C.2),Res.var u 237 FT (W,m,M,()),Res.own W 5 (.int .u8) f.1,Res.own m 5 (.int .u8) f.2.1] (?_) ?_
   ·clear h
    cases b7
    ·refine zm 1 o<|al dl o ?_
     exact yl 0 f2 ty3 o o o tr o<|zA o<|ap () o o
    exact zA o<|ap () o o
   refine za<|rI h o (λhc h=>?_) λhc h=>?_
   ·refine zr<|zm 7 o<|yl 3 f0 tx3 o o o tr o<|y (ct af 4 o o o) o ?_
    refine y (wo o o) o ?_
    refine y (BB o o) o ?_
    refine q 1 [(0,ptr u 0),(1,ts H),(2,.one W83 G),(6,ti (max C.1 (min (wrap .i64 ((wrap .i64 (w+1))*64)) (List.length f.1:Int)))),(7,.one W78 V),(26,tp N)] [] o ?_
    obtain⟨d5,e,h⟩:=aj h;rw[e]
    refine zn<|zi<|zt<|pk [1,1,1,1,1] o<|az (R':=Res.kiter PP dI M N f.2.2 (A61++B63) none) 0 o wD<|ai [0,1,2,6,7,26] o ?_
    obtain rfl:=Option.some.inj h
    exact vj () a7 a8 o o
   refine zk<|zi<|zt<|pk [1,1,1,1,1] o<|az (R':=Res.kiter PP dI M N f.2.2 (A61++B63) none) 0 o wD<|ai [0,1,2,6,7,26] o ?_
   obtain rfl:=Option.some.inj h
   exact vj () a7 a8 o o
  cases hc
 refine zU 3 o<|yl 2 f0 tx3 o o o tr o<|zm 1 o ?_
 obtain⟨Z,h⟩:=cu h
 refine y (kF af (i:=(0:Int)) (j:=R.1) o (fk 3 o) o o Z.1 Z.2.1 Z.2.2 o ty5) o ?_
 refine cB h λO c5 h=>qq (fh (List.take (Int.toNat R.1) f.1) _ c5) kr (λ_=>o) (λ_ r hr=>by rcases List.mem_singleton.1 hr with rfl;exact Res.free_own o) (.sub o (oJ (fk 3 o) Z.1 Z.2.1 Z.2.2) .nil) o λb8=>?_
 refine q 1 [(0,ptr u 0),(7,.one W78 V),(10,.one W69 b8)] [] o<|za<|jK h (γ:=Value×Value) (λ(a4:List (Int)) g16=>[(0,ptr u 0),(10,.one W69 g16.1)]) (λ(a4:List (Int)) g16=>[Res.own g16.1 5 (.int .u8) a4,Res.dirty PP dI M f.2.2,Res.map PP 3 (.int .i64) Y152 V R.2,Res.var u 237 FT (W,g16.2,M,()),Res.own W 5 (.int .u8) f.1,Res.own g16.2 5 (.int .u8) f.2.1]) (λc6 h=>?_) λa4 g16 h=>?_
 ·refine zU 1 o<|y (ct af 0 o o o) o ?_
  refine zA o<|zb<|ai [0,7,10,65,66] o<|bl (γ:=Value×Value) (λ(c:Int×List (Int)) g28=>[(0,ptr u 0),(7,.one W78 V),(10,.one W69 g28.1),(65,ti (List.length O:Int)),(66,ti c.1)]) (λ(c:Int×List (Int)) g28=>[Res.own g28.1 5 (.int .u8) c.2,Res.dirty PP dI M f.2.2,Res.map PP 3 (.int .i64) Y152 V R.2,Res.var u 237 FT (W,g28.2,M,()),Res.own W 5 (.int .u8) f.1,Res.own g28.2 5 (.int .u8) f.2.1]) (kz f R O c6) (0,O) (b8,m) h o o ?_
  clear h
  intro b9 c g28 h
  cases b9 with
  |zero=>cases h
  |succ b9=>
  simp only[kz]at h
  refine zW o<|zs<|rI h o (λhc h=>?_) λhc h=>?_
  ·refine zk<|zt<|jK h (γ:=Value×Value) (λ(a5:List (Int)) J=>[(0,ptr u 0),(7,.one W78 V),(10,.one W69 J.1),(65,ti (List.length O:Int)),(66,ti c.1)]) (λ(a5:List (Int)) J=>[Res.own J.1 5 (.int .u8) a5,Res.dirty PP dI M f.2.2,Res.map PP 3 (.int .i64) Y152 V R.2,Res.var u 237 FT (W,J.2,M,()),Res.own W 5 (.int .u8) f.1,Res.own J.2 5 (.int .u8) f.2.1]) (λd6 h=>?_) λa5 J h=>?_
   ·refine zb<|zU 2 o<|zz<|q 3 [(10,.one W69 g28.1),(11,ti c.1),(12,ti (wrap .i64 (Int.tdiv c.1 64))),(65,ti (List.length O:Int)),(66,ti c.1)] [0,7] o ?_
    obtain⟨d,e,h⟩:=aj h;rw[e]
    refine zZ 2 o<|y (yW 2 o o o GE Tryz.underlying238 vx o) o ?_
    refine zm 3 o<|aB (t:=Y152) o vx o λa6=>st 0 .here oe o o o o tr<|q 1 [(12,ti d),(13,ptr a6 0),(14,tb (Option.isSome (bh (.int .i64) d R.2)))] [0,7,10,11,65,66] o ?_
    obtain⟨d7,e,h⟩:=aj h;rw[e]
    refine za<|zb<|zu<|p 3 [0,7,10,11,12,13,65,66,100] o ?_
    obtain⟨c0,e,h⟩:=aj h;rw[e]
    refine aH 4 [(0,ptr u 0),(7,.one W78 V),(10,.one W69 g28.1),(11,ti c.1),(12,ti d),(13,ptr a6 0),(65,ti (List.length O:Int)),(66,ti c.1),(104,tb (c0||(((Option.getD (bh (.int .i64) d R.2) ([],0,0,[],())).2.2.1)==1)))] [Res.var a6 152 Y152 (Option.getD (bh (.int .i64) d R.2) ([],0,0,[],())),Res.own g28.1 5 (.int .u8) c.2,Res.dirty PP dI M f.2.2,Res.map PP 3 (.int .i64) Y152 V R.2,Res.var u 237 FT (W,g28.2,M,()),Res.own W 5 (.int .u8) f.1,Res.own g28.2 5 (.int .u8) f.2.1] (?_) ?_
    ·clear h
     cases c0
     ·refine zm 1 o<|al dl o ?_
      exact yl 0 f2 ty3 o o o tr o<|zA o<|ap () o o
     exact zA o<|ap () o o
    refine zA o<|rI h o (λhc h=>zk<|zi<|zi<|zt<|pk [1,1,1,1,1,1] o<|ah c.2 (g28.1,g28.2) h o o) λhc h=>zU 1 o<|yl 0 f2 ty3 o o o tr o<|zA o<|rI h o (λhc h=>?_) λhc h=>?_
    ·refine zU 2 o<|iE h λhc h=>cT 1 o pix λa9 b0 b1 hv=>?_
     rw[hv]
     try clear hv
     refine y (dn af o o hc.1 (by first|exact hc.2|simpa using hc.2) o ty5) o ?_
     refine qo 1 (Int.toNat c.1) .here o o o pix pof aa ty5 ?_
     refine zz<|q 5 [(0,ptr u 0),(7,.one W78 V),(10,.one W69 (.slice (some ⟨a9,b0,none⟩) (List.length c.2) b1)),(11,ti c.1),(13,ptr a6 0),(15,ti (wrap .i64 (c.1 - (wrap .i64 (d*64))))),(65,ti (List.length O:Int)),(66,ti c.1)] [] o ?_
     obtain⟨b2,e,h⟩:=aj h;rw[e]
     refine zZ 2 o<|yl 0 f3 ty9 o o o tr o<|q 2 [(15,ti b2),(120,tb (decide (b2<(List.length ((Option.getD (bh (.int .i64) d R.2) ([],0,0,[],())).2.2.2.1):Int))))] [0,7,10,11,13,65,66] o ?_
     obtain⟨d8,e,h⟩:=aj h;rw[e]
     refine za<|rI h o (λhc h=>?_) λhc h=>?_
     ·refine zr<|zm 3 o<|yl 0 f3 ty9 o o o tr o<|zm 1 o<|iE h λhc h=>y (eA af o o hc.1 hc.2 o) o ?_
      refine iE h λhc h=>y (dn af o o hc.1 (by first|exact hc.2|simpa using hc.2) o ty5) o ?_
      refine qo 1 (Int.toNat c.1) .here o o o pix pof aa ty5 ?_
      exact zn<|zi<|zi<|zt<|pk [1,1,1,1,1,1] o<|ah (List.set (List.set c.2 (Int.toNat c.1) 0) (Int.toNat c.1) (List.getD ((Option.getD (bh (.int .i64) d R.2) ([],0,0,[],())).2.2.2.1) (Int.toNat b2) 0)) ((.slice (some ⟨a9,b0,none⟩) (List.length c.2) b1),g28.2) h o o
     exact zk<|zi<|zi<|zt<|pk [1,1,1,1,1,1] o<|ah (List.set c.2 (Int.toNat c.1) 0) ((.slice (some ⟨a9,b0,none⟩) (List.length c.2) b1),g28.2) h o o
    refine zU 2 o<|iE h λhc h=>cT 1 o pix λc1 c2 c3 hv=>?_
    rw[hv]
    try clear hv
    refine y (dn af o o hc.1 (by first|exact hc.2|simpa using hc.2) o ty5) o ?_
    refine qo 1 (Int.toNat c.1) .here o o o pix pof aa ty5 ?_
    refine zZ 4 o<|yl 4 f1 tx3 o o o tr o<|y (ct af 6 o o o) o ?_
    refine zA o<|rI h o (λhc h=>?_) λhc h=>?_
    ·refine zr<|zm 5 o<|yl 4 f1 tx3 o o o tr o<|zm 1 o<|iE h λhc h=>cT 6 o pix λc7 c8 c9 hv=>?_
     rw[hv]
     try clear hv
     refine y (dn af o o hc.1 (by first|exact hc.2|simpa using hc.2) o ty5) o ?_
     refine y (eC 6 (Int.toNat c.1) .here o o pix pof aa ty5) o ?_
     refine iE h λhc h=>y (dn af o o hc.1 (by first|exact hc.2|simpa using hc.2) o ty5) o ?_
     refine qo 1 (Int.toNat c.1) .here o o o pix pof aa ty5 ?_
     exact zn<|zi<|zi<|zt<|pk [1,1,1,1,1,1] o<|ah (List.set (List.set c.2 (Int.toNat c.1) 0) (Int.toNat c.1) (List.getD f.2.1 (Int.toNat c.1) 0)) ((.slice (some ⟨c1,c2,none⟩) (List.length c.2) c3),(.slice (some ⟨c7,c8,none⟩) (List.length f.2.1) c9)) h o o
    exact zk<|zi<|zi<|zt<|pk [1,1,1,1,1,1] o<|ah (List.set c.2 (Int.toNat c.1) 0) ((.slice (some ⟨c1,c2,none⟩) (List.length c.2) c3),g28.2) h o o
   exact zr<|zA o<|aY ((wrap .i64 (c.1+1)),a5) (J.1,J.2) (Nat.lt_succ_self _) h o o
  exact zx<|ze<|ze<|zq<|zt<|ah c.2 (g28.1,g28.2) h o o
 refine zU 4 o<|cB h λd9 d0 h=>qq (fh a4 _ d0) kr (λ_=>o) (λ_ r hr=>by rcases List.mem_singleton.1 hr with rfl;exact Res.free_own o) (.sub o (fk 0 o) .nil) o λe0=>?_
 refine zm 2 o<|st 4 f0 tx3 o o o o tr<|pk [0,0,0,0,0,1] o<|zm 2 o<|st 4 f1 tx3 o o o o tr<|nL o<|pk [0,0,0,0,0] o<|za<|zr<|zm 3 o<|yl 4 f2 q9 o o o tr o<|ny 2 o λe1 e2=>?_
 refine AV 2 o o Tryz.underlying235 ?_
 refine jJ (P:=PP) (I:=dI) (keys:=[]) 2 o o ?_
 refine zn<|pk [4,1,0,0,0] o<|CK (P:=PP) (I:=dI) ?_
 cases h
 exact eN o (λ_=>aG [] .nil) ((.cons_cons _ (.cons _ .slnil)))
theorem pI(W:Value)(c f r)(h:lX c f=some r):Fn PP 61 [tp W,.one W83 f] [Res.disk PP dI W c] (λ_=> .tup []) (λ_=>[Res.disk PP dI W r]):=by
 unfold lX at h
 refine enter Tryz.func61 o 43 o o λF=>?_
 refine iy λu M hp=>?_
 subst hp
 refine zs<|zU 3 o<|yl 0 f5 ty4 o o o tr o<|q 1 [(0,ptr u 0),(1,.one W83 f),(10,tb c.2.2.2.2.2.1)] [] o<|aH 6 [(0,ptr u 0),(1,.one W83 f),(16,tb (c.2.2.2.2.2.1&&(!c.2.2.2.2.2.2)))] [Res.var u 123 DT (cL c M c.2.2.2.2.2.2 ()),Res.dfiles PP dI M c.2.1] (?_) ?_
 ·clear h
  rcases Bool.eq_false_or_eq_true c.2.2.2.2.2.1 with hh|hh
  ·refine pC 10 hh o ?_
   refine zm 3 o<|al dl o ?_
   exact yl 0 f6 ty4 o o o tr o<|zA o<|ap () (by first|rfl|(rw[hh];done)|(rw[hh];rfl)) o
  refine pC 10 hh o ?_
  exact zA o<|ap () (by first|rfl|(rw[hh];done)|(rw[hh];rfl)) o
 refine za<|rI h o (λhc h=>zR<|zT<|cC (P:=PP) (I:=dI) (D:=c)<|by cases h;exact sk o (λ_=>aG [] .nil) ((.cons_cons _ .slnil))) λhc h=>zk<|zt<|bD h (λR=>[(0,ptr u 0)]) (λR=>[Res.dfiles PP dI M R,Res.var u 123 DT (cL c M c.2.2.2.2.2.2 ())]) (λZ h=>?_) λR h=>?_
 ·refine zU 3 o<|yl 0 f1 m9 o o o tr o<|pk [1,0] o<|zg ep o Tryz.underlying121 o λC d=>?_
  refine za<|zb<|cB h λrr hall h=>ai [0,1,21] o<|rm (step:=iS f) (λ_ _=>True) (qQ f) d tr hall (γ:=Unit) (λ(V:(List (List Int×aV))) _=>[(0,ptr u 0),(1,.one W83 f),(21,tp C)]) (λH (V:(List (List Int×aV))) _=>[Res.diter PP dI M C V H none none,Res.var u 123 DT (cL c M c.2.2.2.2.2.2 ())]) () o o λH V gg hend hone=>?_
  refine zu ?_
  refine xb ep o o (λht=>?_) (λA13 G B15 a2 N hk=>?_)
  ·obtain rfl:=hend ht
   refine wC ?_
   refine zA o<|zs ?_
   refine iK (b:=false) o (λhc=>?_) (λhc=>?_)
   ·cases hc
   exact zx<|ze<|ze<|zq<|zt<|ah V () h o o
  obtain⟨a3,J⟩:=hone A13 G B15 N
  clear h
  have h:=J
  unfold iS at h
  refine zA o<|zs ?_
  refine iK (b:=true) o (λhc=>?_) (λhc=>?_)
  ·refine zk<|zt<|zb<|zu<|y (vZ o 0 o) o ?_
   refine zA o<|zr<|zm 3 o<|cB h λf18 m h=>xO m λa4 a5 a6 a7 hq=>?_
   rw[hq]
   clear hq
   refine CK (P:=PP) (I:=dI) ?_
   refine cB h λO w h=>rc [0] (vF _ _ _ _ _ w) kr o o o λ_=>zn<|zi<|zt<|CJ λa8 a9 b0=>?_
   refine Au (P:=PP) (I:=dI) ?_
   refine az (R':=Res.diter PP dI M C (dE .str G O V) (A13++B15) none none) 0 o tg<|ai [0,1,21] o ?_
   obtain rfl:=Option.some.inj h
   exact vj () N J o o
  cases hc
 refine zr<|zm 6 o<|st 1 f5 ty4 o o o o tr<|zm 2 o<|st 1 f6 ty4 o o o o tr<|nL o<|zm 2 o<|st 1 f2 ty3 o o o o tr<|zm 2 o<|st 1 f4 ty3 o o o o tr<|nL o<|zn<|pk [1,0] o<|cC (P:=PP) (I:=dI) (D:=(c.1,R,0,c.2.2.2.1,0,true,false)) ?_
 cases h
 exact eN o (λ_=>aG [] .nil) ((.cons_cons _ .slnil))
theorem wX(u:Value)(f r)(h:qE f=some r):Fn PP 62 [tp u] [Res.disk PP dI u f] (λ_=> .tup []) (λ_=>[Res.disk PP dI u r]):=by
 unfold qE at h
 refine enter Tryz.func62 o 11 o o λF=>?_
 refine iy λM W hp=>?_
 subst hp
 refine bD h (λc=>[(0,ptr M 0)]) (λc=>[Res.disk PP dI (.pointer (some ⟨M,0,none⟩)) c]) (λC h=>?_) λc h=>?_
 ·refine zU 3 o<|yl 0 f6 ty4 o o o tr o<|za<|rI h o (λhc h=>?_) λhc h=>?_
  ·refine zr<|zm 1 o<|cC (P:=PP) (I:=dI) (D:=f)<|cB h λV R h=>A7 (Lo:=[]) (pI (.pointer (some ⟨M,0,none⟩)) f [] _ R) kr (gF (is:=[0]) o) (.val o (.nilsl .nil)) o λ_=>?_
   exact za<|ah V () h o o
  exact zk<|zt<|cC (P:=PP) (I:=dI) (D:=f)<|ah f () h o o
 refine CD λH=>?_
 refine zr<|zm 3 o<|st 0 f5 ty4 o o o o tr<|zn<|cC (P:=PP) (I:=dI) (D:=(c.1,c.2.1,c.2.2.1,c.2.2.2.1,c.2.2.2.2.1,false,c.2.2.2.2.2.2)) ?_
 cases h
 exact eN o (λ_=>aG [] .nil) ((.cons_cons _ .slnil))
theorem tY(r)(h:jo=some r):FnT PP bN 12 [] [] (λ_=>tb r) (λ_=>[]):=by
 unfold jo at h
 refine iM Tryz.func12 o 137 o o λF hT=>?_
 refine zU 1 o<|zz<|cB h λG b1 h=>il (Lo:=[]) (AA 100000 _ b1) kr (List.Perm.refl _) o o λc=>?_
 refine zA o<|zs<|zU 1 o<|y (F9 0 o o Tryz.underlying42) o ?_
 refine q 1 [(1,tp (aK c 0)),(2,ti G.1),(20,tb (G.1 !=0))] [] o ?_
 obtain⟨b3,e,h⟩:=aj h;rw[e]
 refine aH 3 [(1,tp (aK c 0)),(23,tb (b3||(G.1 !=0)))] [Res.diskif PP dI (aK c 0) G.2 G.1] (?_) ?_
 ·clear h
  cases b3
  ·exact zA o<|ap () o o
  exact zA o<|ap () o o
 refine za<|rI h o (λhc h=>zU 1 o<|zf<|zT<|by cases h;exact ax o (.tmp o)) λhc h=>zy<|zm 1 o<|cB h λr4 b2 h=>au (nG _ b2) kr o o ?_
 obtain⟨b4,h⟩:=cu h
 refine az (R':=Res.disk PP dI (aK c 0) G.2) 0 o (As b4)<|cB h λM b5 h=>rcT hT [0] (ug _ _ _ _ b5) kr o o o λu=>zA o<|zs<|zU 1 o<|y (CS 1 o o Tryz.underlying45) o ?_
 refine q 1 [(1,tp (aK c 0)),(2,ti M.2.1),(3,tp (aK u 0)),(32,tb (M.1.1 !=0))] [] o ?_
 obtain⟨O,e,h⟩:=aj h;rw[e]
 refine aH 3 [(1,tp (aK c 0)),(3,tp (aK u 0)),(35,tb (O||(M.2.1 !=0)))] [Res.disk PP dI (aK c 0) M.2.2,Res.clsif (bZ (aK c 0)) (aK u 0) M.1.2 M.1.1] (?_) ?_
 ·clear h
  cases O
  ·exact zA o<|ap () o o
  exact zA o<|ap () o o
 refine q 1 [(1,tp (aK c 0)),(3,tp (aK u 0)),(36,tb (O||(M.2.1 !=0)))] [] o ?_
 obtain⟨b9,e,h⟩:=aj h;rw[e]
 refine bL h 4 (λd=>[(1,tp (aK c 0)),(3,tp (aK u 0)),(40,tb d)]) (λ_=>[Res.disk PP dI (aK c 0) M.2.2,Res.clsif (bZ (aK c 0)) (aK u 0) M.1.2 M.1.1]) (λe6 h=>?_) λd h=>?_
 ·cases b9
  ·replace h:=ifF h
   refine zm 1 o<|al dl o ?_
   obtain⟨a5,h⟩:=cu h
   exact az (R':=Res.cls (bZ (aK c 0)) (aK u 0) M.1.2) 1 o (eO a5)<|cB h λb6 b7 h=>rc [1,0] (uo _ _ _ _ _ b7) kr o o o λ_=>zN o<|ai [1,3,40] o<|az (R':=Res.clsif (bZ (aK c 0)) (aK u 0) M.1.2 M.1.1) 0 o (du a5)<|nL o<|pk [1,0] o<|zt<|ah (b6 !=(-1)) () h o o
  replace h:=ifT h
  exact zN o<|zt<|ah true () h o o
 refine q 1 [(1,tp (aK c 0)),(3,tp (aK u 0)),(41,tb d)] [] o<|bL h 5 (λm=>[(1,tp (aK c 0)),(3,tp (aK u 0)),(46,tb m)]) (λ_=>[Res.disk PP dI (aK c 0) M.2.2,Res.clsif (bZ (aK c 0)) (aK u 0) M.1.2 M.1.1]) (λe7 h=>?_) λm h=>?_
 ·cases d
  ·replace h:=ifF h
   refine zm 1 o<|al dl o ?_
   obtain⟨a6,h⟩:=cu h
   refine az (R':=Res.cls (bZ (aK c 0)) (aK u 0) M.1.2) 1 o (eO a6)<|cB h λc0 c1 h=>rc [1,0] (jG _ _ _ _ _ c1) kr o o o λ_=>al dl o ?_
   refine y (vd f2 o o (ab (ab (av aa))) Ce o o ty2) o ?_
   exact zN o<|ai [1,3,46] o<|az (R':=Res.clsif (bZ (aK c 0)) (aK u 0) M.1.2 M.1.1) 0 o (du a6)<|nL o<|pk [1,0] o<|zt<|ah (c0.2.2.1 !=700) () h o o
  replace h:=ifT h
  exact zN o<|zt<|ah true () h o o
 refine q 1 [(1,tp (aK c 0)),(3,tp (aK u 0)),(47,tb m)] [] o<|bL h 6 (λa7=>[(1,tp (aK c 0)),(3,tp (aK u 0)),(53,tb a7)]) (λ_=>[Res.disk PP dI (aK c 0) M.2.2,Res.clsif (bZ (aK c 0)) (aK u 0) M.1.2 M.1.1]) (λe8 h=>?_) λa7 h=>?_
 ·cases m
  ·replace h:=ifF h
   refine zm 1 o<|al dl o ?_
   obtain⟨a8,h⟩:=cu h
   refine az (R':=Res.cls (bZ (aK c 0)) (aK u 0) M.1.2) 1 o (eO a8)<|cB h λc2 c3 h=>rc [1,0] (jG _ _ _ _ _ c3) kr o o o λ_=>al dl o ?_
   refine y (vd f4 o o (ab (ab (ab (ab (av aa))))) Ce o o jA) o ?_
   exact zN o<|ai [1,3,53] o<|az (R':=Res.clsif (bZ (aK c 0)) (aK u 0) M.1.2 M.1.1) 0 o (du a8)<|nL o<|pk [1,0] o<|zt<|ah ((List.length c2.2.2.2.2.1:Int) !=0) () h o o
  replace h:=ifT h
  exact zN o<|zt<|ah true () h o o
 refine za<|rI h o (λhc h=>zU 1 o<|zf<|zT<|by cases h;exact ax o (.tmp o)) λhc h=>zy<|zm 1 o<|cB h λe9 c4 h=>au (kg _ _ c4) kr o o<|bC (B:=232) af o Cd o o o (.cons o .nil) o λf0=>?_
 obtain⟨c5,h⟩:=cu h
 refine az (R':=Res.cls (bZ (aK c 0)) (aK u 0) M.1.2) 2 o (eO c5)<|l5 (i:=0) (k:=56) o o ?_
 refine cB h λw c6 h=>rcT hT [1,0] (kC _ _ _ _ _ _ c6) kr o o o λ_=>zm 1 o<|zZ 1 o<|cB h λf3 c7 h=>au (kg _ _ c7) kr o o<|bC (B:=232) af o Cd o o o (.cons o .nil) o λf5=>?_
 refine l5 (i:=0) (k:=60) o o ?_
 refine cB h λJ c8 h=>rcT hT [0,0] (kC _ _ _ _ _ _ c8) kr o o o λ_=>zm 1 o<|zZ 1 o<|cB h λH c9 h=>rcT hT [0,0] (qf _ _ _ _ _ c9) kr o o o λ_=>zm 1 o<|zZ 1 o<|cB h λf6 d0 h=>au (kg _ _ d0) kr o o<|bC (B:=232) af o Cd o o o (.cons o .nil) o λf7=>?_
 refine l5 (i:=0) (k:=66) o o ?_
 refine cB h λC d1 h=>rcT hT [0,0] (kC _ _ _ _ _ _ d1) kr o o o λ_=>zm 1 o<|zZ 1 o<|cB h λf8 d2 h=>rc [1] (vE _ _ _ _ d2) kr o o o λ_=>zZ 1 o<|cB h λf9 d3 h=>au (kg _ _ d3) kr o o<|bC (B:=232) af o Cd o o o (.cons o .nil) o λg0=>?_
 refine l5 (i:=0) (k:=72) o o ?_
 refine cB h λR d4 h=>rcT hT [1,0] (kC _ _ _ _ _ _ d4) kr o o o λ_=>zm 1 o<|zZ 1 o<|cB h λg1 d5 h=>A7 (Lo:=[Res.cls (bZ (aK c 0)) (aK u 0) R.2.1]) (pI (aK c 0) R.2.2 [] _ d5) kr (gF (is:=[1]) o) (.val o (.nilsl .nil)) o λ_=>?_
 refine zZ 1 o<|cB h λg2 d6 h=>rc [0] (wX _ _ _ d6) kr o o o λ_=>zZ 1 o<|cB h λg3 d7 h=>au (nG _ d7) kr o o<|cB h λf d8 h=>rcT hT [0] (ug _ _ _ _ d8) kr o o o λV=>zA o<|zs<|zU 1 o<|y (CS 1 o o Tryz.underlying45) o ?_
 refine q 1 [(4,ti w.1),(5,ti J.1),(6,ti H.1),(7,ti C.1),(8,ti R.1),(9,tp (aK V 0)),(10,ti f.2.1),(86,tb (f.1.1 !=0))] [] o ?_
 obtain⟨Z,e,h⟩:=aj h;rw[e]
 refine aH 3 [(5,ti J.1),(6,ti H.1),(7,ti C.1),(8,ti R.1),(9,tp (aK V 0)),(10,ti f.2.1),(89,tb (Z||(w.1 !=0)))] [Res.disk PP dI (aK c 0) f.2.2,Res.clsif (bZ (aK c 0)) (aK V 0) f.1.2 f.1.1,Res.cls (bZ (aK c 0)) (aK u 0) R.2.1] (?_) ?_
 ·clear h
  cases Z
  ·exact zA o<|ap () o o
  exact zA o<|ap () o o
 refine q 1 [(5,ti J.1),(6,ti H.1),(7,ti C.1),(8,ti R.1),(9,tp (aK V 0)),(10,ti f.2.1),(90,tb (Z||(w.1 !=0)))] [] o ?_
 obtain⟨a0,e,h⟩:=aj h;rw[e]
 refine aH 3 [(6,ti H.1),(7,ti C.1),(8,ti R.1),(9,tp (aK V 0)),(10,ti f.2.1),(93,tb (a0||(J.1 !=170)))] [Res.disk PP dI (aK c 0) f.2.2,Res.clsif (bZ (aK c 0)) (aK V 0) f.1.2 f.1.1,Res.cls (bZ (aK c 0)) (aK u 0) R.2.1] (?_) ?_
 ·clear h
  cases a0
  ·exact zA o<|ap () o o
  exact zA o<|ap () o o
 refine q 1 [(6,ti H.1),(7,ti C.1),(8,ti R.1),(9,tp (aK V 0)),(10,ti f.2.1),(94,tb (a0||(J.1 !=170)))] [] o ?_
 obtain⟨a1,e,h⟩:=aj h;rw[e]
 refine aH 3 [(7,ti C.1),(8,ti R.1),(9,tp (aK V 0)),(10,ti f.2.1),(97,tb (a1||(H.1 !=0)))] [Res.disk PP dI (aK c 0) f.2.2,Res.clsif (bZ (aK c 0)) (aK V 0) f.1.2 f.1.1,Res.cls (bZ (aK c 0)) (aK u 0) R.2.1] (?_) ?_
 ·clear h
  cases a1
  ·exact zA o<|ap () o o
  exact zA o<|ap () o o
 refine q 1 [(7,ti C.1),(8,ti R.1),(9,tp (aK V 0)),(10,ti f.2.1),(98,tb (a1||(H.1 !=0)))] [] o ?_
 obtain⟨a2,e,h⟩:=aj h;rw[e]
 refine aH 3 [(8,ti R.1),(9,tp (aK V 0)),(10,ti f.2.1),(101,tb (a2||(C.1 !=0)))] [Res.disk PP dI (aK c 0) f.2.2,Res.clsif (bZ (aK c 0)) (aK V 0) f.1.2 f.1.1,Res.cls (bZ (aK c 0)) (aK u 0) R.2.1] (?_) ?_
 ·clear h
  cases a2
  ·exact zA o<|ap () o o
  exact zA o<|ap () o o
 refine q 1 [(8,ti R.1),(9,tp (aK V 0)),(10,ti f.2.1),(102,tb (a2||(C.1 !=0)))] [] o ?_
 obtain⟨a3,e,h⟩:=aj h;rw[e]
 refine aH 3 [(9,tp (aK V 0)),(10,ti f.2.1),(105,tb (a3||(R.1 !=9)))] [Res.disk PP dI (aK c 0) f.2.2,Res.clsif (bZ (aK c 0)) (aK V 0) f.1.2 f.1.1,Res.cls (bZ (aK c 0)) (aK u 0) R.2.1] (?_) ?_
 ·clear h
  cases a3
  ·exact zA o<|ap () o o
  exact zA o<|ap () o o
 refine q 1 [(9,tp (aK V 0)),(10,ti f.2.1),(106,tb (a3||(R.1 !=9)))] [] o ?_
 obtain⟨a9,e,h⟩:=aj h;rw[e]
 refine aH 3 [(9,tp (aK V 0)),(109,tb (a9||(f.2.1 !=0)))] [Res.disk PP dI (aK c 0) f.2.2,Res.clsif (bZ (aK c 0)) (aK V 0) f.1.2 f.1.1,Res.cls (bZ (aK c 0)) (aK u 0) R.2.1] (?_) ?_
 ·clear h
  cases a9
  ·exact zA o<|ap () o o
  exact zA o<|ap () o o
 refine za<|rI h o (λhc h=>zU 1 o<|zf<|zT<|by cases h;exact ax o (.tmp o)) λhc h=>zy<|cB h λW d9 h=>au (pQ _ _ d9) kr o o<|zm 4 o<|aB (t:=Y30) o gU o λa4=>zm 1 o<|st 0 .here bR o o o o tr<|zm 1 o<|zZ 1 o ?_
 obtain⟨e0,h⟩:=cu h
 refine az (R':=Res.cls (bZ (aK c 0)) (aK V 0) f.1.2) 2 o (eO e0)<|nL o<|cB h λe1 e2 h=>rc [2,1] (jG _ _ _ _ _ e2) kr o o o λ_=>y (vd f4 o o (ab (ab (ab (ab (av aa))))) Ce o o jA) o ?_
 refine q 3 [(9,tp (aK V 0)),(11,ti W.1),(13,ti W.2.2),(120,tb ((List.length e1.2.2.2.2.1:Int)==2))] [] o ?_
 obtain⟨e3,e,h⟩:=aj h;rw[e]
 refine bL h 8 (λN=>[(11,ti W.1),(13,ti W.2.2),(128,tb N)]) (λ_=>[Res.cls (bZ (aK c 0)) (aK V 0) f.1.2,Res.disk PP dI (aK c 0) f.2.2,Res.var a4 30 Y30 W.2.1,Res.cls (bZ (aK c 0)) (aK u 0) R.2.1]) (λg4 h=>?_) λN h=>?_
 ·cases e3
  ·replace h:=ifF h
   exact zN o<|zt<|ah false () h o o
  replace h:=ifT h
  refine zm 1 o<|al dl o ?_
  refine cB h λe4 e5 h=>rc [0,0] (jG _ _ _ _ _ e5) kr o o o λ_=>al dl o ?_
  refine y (vd f4 o o (ab (ab (ab (ab (av aa))))) Ce o o jA) o ?_
  refine al dl o ?_
  refine iE h λhc h=>y (eo af o o hc.1 hc.2 o br) o ?_
  refine al dl o ?_
  refine y (lw af f1 o o o o (ab (av aa))) o ?_
  refine al dl o ?_
  refine y (de o ty2) o ?_
  exact zN o<|zt<|ah (((List.getD e4.2.2.2.2.1 1 (0,0,0,z32,[],())).2.1)==1) () h o o
 refine q 1 [(11,ti W.1),(13,ti W.2.2),(129,tb N)] [] o<|aH 3 [(13,ti W.2.2),(132,tb (N&&(W.1==0)))] [Res.cls (bZ (aK c 0)) (aK V 0) f.1.2,Res.disk PP dI (aK c 0) f.2.2,Res.var a4 30 Y30 W.2.1,Res.cls (bZ (aK c 0)) (aK u 0) R.2.1] (?_) ?_
 ·clear h
  cases N
  ·exact zA o<|ap () o o
  exact zA o<|ap () o o
 refine q 1 [(13,ti W.2.2),(133,tb (N&&(W.1==0)))] [] o ?_
 obtain⟨b0,e,h⟩:=aj h;rw[e]
 refine aH 3 [(136,tb (b0&&(W.2.2==210)))] [Res.cls (bZ (aK c 0)) (aK V 0) f.1.2,Res.disk PP dI (aK c 0) f.2.2,Res.var a4 30 Y30 W.2.1,Res.cls (bZ (aK c 0)) (aK u 0) R.2.1] (?_) ?_
 ·clear h
  cases b0
  ·exact zA o<|ap () o o
  exact zA o<|ap () o o
 refine zE o ?_
 cases h
 exact ax o (.tmp o)
theorem qg(Z c a2 r)(h:gB Z c a2=some r):FnT PP bN 3 [ti Z,.one Y30 c,ts a2] [] (λ_=>tb r) (λ_=>[]):=by
 unfold gB at h
 refine iM Tryz.func3 o 86 o o λF hT=>?_
 refine zu<|bI o o λM=>zm 1 o<|zz<|yl 0 .here bR o o o tr o<|aB (t:=Y30) o gU o λV=>st 0 .here bR o o o o tr<|zZ 1 o<|yl 1 f4 jA o o o tr o<|bH (.slice none 0 0) o 52 Y52 ?_
 refine iE h λhc h=>aW (B:=72) af 0 o o (py o) o jB o o hc o λv6=>?_
 refine nL o<|zm 1 o<|gE (t:=Y30) (v:=W69) 1 f4 o o o o o o tx0 ?_
 refine zZ 1 o<|yl 2 f5 jA o o o tr o<|bH (.slice none 0 0) o 52 Y52 ?_
 refine iE h λhc h=>aW (B:=72) af 0 o o (py o) o jB o o hc o λd=>?_
 refine nL o<|zm 1 o<|gE (t:=W5) (v:=W69) 2 f5 o o o o o o tx0 ?_
 refine zZ 1 o<|yl 3 f15 qF o o o tr o<|bH (.slice none 0 0) o 56 Y56 ?_
 refine iE h λhc h=>aW (B:=48) af 0 o o (py o) o uV o o hc o λC=>?_
 refine nL o<|zm 1 o<|gE (t:=(.pair (.int .i64) (.pair (.int .i64) (.pair (.int .i64) (.pair (.int .i64) (.pair W69 (.pair W69 W29))))))) (v:=W69) 3 f15 o o o o o o tx1 ?_
 refine za<|zs<|pk [2,2,0,0,0] o<|dw (v:=v6) (T0:=W0) (x0:=((c).1,(c).2.1,(c).2.2.1,(c).2.2.2.1,v6,d,(((c).2.2.2.2.2).2).1,(((c).2.2.2.2.2).2).2.1,(((c).2.2.2.2.2).2).2.2.1,(((c).2.2.2.2.2).2).2.2.2.1,(((c).2.2.2.2.2).2).2.2.2.2.1,(((c).2.2.2.2.2).2).2.2.2.2.2.1,(((c).2.2.2.2.2).2).2.2.2.2.2.2.1,(((c).2.2.2.2.2).2).2.2.2.2.2.2.2.1,(((c).2.2.2.2.2).2).2.2.2.2.2.2.2.2.1,C,(((c).2.2.2.2.2).2).2.2.2.2.2.2.2.2.2.2)) (t:=Y52) f4 o o ?_
 refine pk [2,0,0,0] o<|dw (v:=d) (T0:=W2) (x0:=((c).1,(c).2.1,(c).2.2.1,(c).2.2.2.1,([]++c.2.2.2.2.1),d,(((c).2.2.2.2.2).2).1,(((c).2.2.2.2.2).2).2.1,(((c).2.2.2.2.2).2).2.2.1,(((c).2.2.2.2.2).2).2.2.2.1,(((c).2.2.2.2.2).2).2.2.2.2.1,(((c).2.2.2.2.2).2).2.2.2.2.2.1,(((c).2.2.2.2.2).2).2.2.2.2.2.2.1,(((c).2.2.2.2.2).2).2.2.2.2.2.2.2.1,(((c).2.2.2.2.2).2).2.2.2.2.2.2.2.2.1,C,(((c).2.2.2.2.2).2).2.2.2.2.2.2.2.2.2.2)) (t:=Y52) f5 o o ?_
 refine pk [1,0,0] o<|dw (v:=C) (T0:=W4) (x0:=((c).1,(c).2.1,(c).2.2.1,(c).2.2.2.1,([]++c.2.2.2.2.1),([]++c.2.2.2.2.2.1),(((c).2.2.2.2.2).2).1,(((c).2.2.2.2.2).2).2.1,(((c).2.2.2.2.2).2).2.2.1,(((c).2.2.2.2.2).2).2.2.2.1,(((c).2.2.2.2.2).2).2.2.2.2.1,(((c).2.2.2.2.2).2).2.2.2.2.2.1,(((c).2.2.2.2.2).2).2.2.2.2.2.2.1,(((c).2.2.2.2.2).2).2.2.2.2.2.2.2.1,(((c).2.2.2.2.2).2).2.2.2.2.2.2.2.2.1,C,(((c).2.2.2.2.2).2).2.2.2.2.2.2.2.2.2.2)) (t:=Y56) f15 o o ?_
 refine zr<|zm 1 o<|yl 0 .here bR o o o tr o<|cB h λH a4 h=>au (oW _ _ _ a4) kr o o<|zm 5 o<|zZ 1 o<|yl 1 .here bR o o o tr o<|cB h λG a5 h=>au (oq _ _ _ a5) kr o o<|zm 5 o<|zZ 1 o<|cB h λf a6 h=>au (pQ _ _ a6) kr o o ?_
 refine zm 4 o<|aB (t:=Y30) o gU o λR=>zm 1 o<|st 0 .here bR o o o o tr<|nL o<|zm 1 o<|zZ 1 o<|cB h λu a7 h=>au (um _ _ a7) kr o o<|zm 4 o<|aB (t:=Y30) o gU o λW=>zm 1 o<|st 0 .here bR o o o o tr<|zm 1 o ?_
 refine zz<|q 4 [(4,ptr M 0),(7,ptr V 0),(9,ti H.2),(11,ti G.2),(12,ti f.1),(13,ptr R 0),(14,ti f.2.2),(15,ti u.1),(16,ptr W 0),(17,ti u.2.2),(58,tb (H.1==G.1))] [] o ?_
 obtain⟨m,e,h⟩:=aj h;rw[e]
 refine aH 4 [(4,ptr M 0),(7,ptr V 0),(12,ti f.1),(13,ptr R 0),(14,ti f.2.2),(15,ti u.1),(16,ptr W 0),(17,ti u.2.2),(62,tb (m&&(H.2==G.2)))] [Res.var W 30 Y30 u.2.1,Res.var R 30 Y30 f.2.1,Res.var V 30 Y30 ((c).1,(c).2.1,(c).2.2.1,(c).2.2.2.1,([]++c.2.2.2.2.1),([]++c.2.2.2.2.2.1),(((c).2.2.2.2.2).2).1,(((c).2.2.2.2.2).2).2.1,(((c).2.2.2.2.2).2).2.2.1,(((c).2.2.2.2.2).2).2.2.2.1,(((c).2.2.2.2.2).2).2.2.2.2.1,(((c).2.2.2.2.2).2).2.2.2.2.2.1,(((c).2.2.2.2.2).2).2.2.2.2.2.2.1,(((c).2.2.2.2.2).2).2.2.2.2.2.2.2.1,(((c).2.2.2.2.2).2).2.2.2.2.2.2.2.2.1,([]++c.2.2.2.2.2.2.2.2.2.2.2.2.2.2.2.1),(((c).2.2.2.2.2).2).2.2.2.2.2.2.2.2.2.2),Res.var M 30 Y30 c] (?_) ?_
 ·clear h
  cases m
  ·exact zA o<|ap () o o
  exact zA o<|ap () o o
 refine q 1 [(4,ptr M 0),(7,ptr V 0),(12,ti f.1),(13,ptr R 0),(14,ti f.2.2),(15,ti u.1),(16,ptr W 0),(17,ti u.2.2),(63,tb (m&&(H.2==G.2)))] [] o ?_
 obtain⟨O,e,h⟩:=aj h;rw[e]
 refine aH 4 [(4,ptr M 0),(7,ptr V 0),(13,ptr R 0),(14,ti f.2.2),(16,ptr W 0),(17,ti u.2.2),(67,tb (O&&(f.1==u.1)))] [Res.var W 30 Y30 u.2.1,Res.var R 30 Y30 f.2.1,Res.var V 30 Y30 ((c).1,(c).2.1,(c).2.2.1,(c).2.2.2.1,([]++c.2.2.2.2.1),([]++c.2.2.2.2.2.1),(((c).2.2.2.2.2).2).1,(((c).2.2.2.2.2).2).2.1,(((c).2.2.2.2.2).2).2.2.1,(((c).2.2.2.2.2).2).2.2.2.1,(((c).2.2.2.2.2).2).2.2.2.2.1,(((c).2.2.2.2.2).2).2.2.2.2.2.1,(((c).2.2.2.2.2).2).2.2.2.2.2.2.1,(((c).2.2.2.2.2).2).2.2.2.2.2.2.2.1,(((c).2.2.2.2.2).2).2.2.2.2.2.2.2.2.1,([]++c.2.2.2.2.2.2.2.2.2.2.2.2.2.2.2.1),(((c).2.2.2.2.2).2).2.2.2.2.2.2.2.2.2.2),Res.var M 30 Y30 c] (?_) ?_
 ·clear h
  cases O
  ·exact zA o<|ap () o o
  exact zA o<|ap () o o
 refine q 1 [(4,ptr M 0),(7,ptr V 0),(13,ptr R 0),(14,ti f.2.2),(16,ptr W 0),(17,ti u.2.2),(68,tb (O&&(f.1==u.1)))] [] o ?_
 obtain⟨w,e,h⟩:=aj h;rw[e]
 refine aH 4 [(4,ptr M 0),(7,ptr V 0),(13,ptr R 0),(16,ptr W 0),(72,tb (w&&(f.2.2==u.2.2)))] [Res.var W 30 Y30 u.2.1,Res.var R 30 Y30 f.2.1,Res.var V 30 Y30 ((c).1,(c).2.1,(c).2.2.1,(c).2.2.2.1,([]++c.2.2.2.2.1),([]++c.2.2.2.2.2.1),(((c).2.2.2.2.2).2).1,(((c).2.2.2.2.2).2).2.1,(((c).2.2.2.2.2).2).2.2.1,(((c).2.2.2.2.2).2).2.2.2.1,(((c).2.2.2.2.2).2).2.2.2.2.1,(((c).2.2.2.2.2).2).2.2.2.2.2.1,(((c).2.2.2.2.2).2).2.2.2.2.2.2.1,(((c).2.2.2.2.2).2).2.2.2.2.2.2.2.1,(((c).2.2.2.2.2).2).2.2.2.2.2.2.2.2.1,([]++c.2.2.2.2.2.2.2.2.2.2.2.2.2.2.2.1),(((c).2.2.2.2.2).2).2.2.2.2.2.2.2.2.2.2),Res.var M 30 Y30 c] (?_) ?_
 ·clear h
  cases w
  ·exact zA o<|ap () o o
  exact zA o<|ap () o o
 refine q 1 [(4,ptr M 0),(7,ptr V 0),(13,ptr R 0),(16,ptr W 0),(73,tb (w&&(f.2.2==u.2.2)))] [] o ?_
 obtain⟨a8,e,h⟩:=aj h;rw[e]
 refine bL h 4 (λN=>[(4,ptr M 0),(7,ptr V 0),(77,tb N)]) (λ_=>[Res.var W 30 Y30 u.2.1,Res.var R 30 Y30 f.2.1,Res.var V 30 Y30 ((c).1,(c).2.1,(c).2.2.1,(c).2.2.2.1,([]++c.2.2.2.2.1),([]++c.2.2.2.2.2.1),(((c).2.2.2.2.2).2).1,(((c).2.2.2.2.2).2).2.1,(((c).2.2.2.2.2).2).2.2.1,(((c).2.2.2.2.2).2).2.2.2.1,(((c).2.2.2.2.2).2).2.2.2.2.1,(((c).2.2.2.2.2).2).2.2.2.2.2.1,(((c).2.2.2.2.2).2).2.2.2.2.2.2.1,(((c).2.2.2.2.2).2).2.2.2.2.2.2.2.1,(((c).2.2.2.2.2).2).2.2.2.2.2.2.2.2.1,([]++c.2.2.2.2.2.2.2.2.2.2.2.2.2.2.2.1),(((c).2.2.2.2.2).2).2.2.2.2.2.2.2.2.2.2),Res.var M 30 Y30 c]) (λb7 h=>?_) λN h=>?_
 ·cases a8
  ·replace h:=ifF h
   exact zN o<|zt<|ah false () h o o
  replace h:=ifT h
  refine al dl o ?_
  refine yl 1 .here bR o o o tr o<|al dl o ?_
  refine yl 0 .here bR o o o tr o<|al dl o ?_
  exact cB h λa9 b0 h=>au (mc _ _ _ b0) kr o o<|zN o<|zt<|ah a9 () h o o
 refine q 1 [(4,ptr M 0),(7,ptr V 0),(78,tb N)] [] o<|bL h 4 (λJ=>[(82,tb J)]) (λ_=>[Res.var W 30 Y30 u.2.1,Res.var R 30 Y30 f.2.1,Res.var V 30 Y30 ((c).1,(c).2.1,(c).2.2.1,(c).2.2.2.1,([]++c.2.2.2.2.1),([]++c.2.2.2.2.2.1),(((c).2.2.2.2.2).2).1,(((c).2.2.2.2.2).2).2.1,(((c).2.2.2.2.2).2).2.2.1,(((c).2.2.2.2.2).2).2.2.2.1,(((c).2.2.2.2.2).2).2.2.2.2.1,(((c).2.2.2.2.2).2).2.2.2.2.2.1,(((c).2.2.2.2.2).2).2.2.2.2.2.2.1,(((c).2.2.2.2.2).2).2.2.2.2.2.2.2.1,(((c).2.2.2.2.2).2).2.2.2.2.2.2.2.2.1,([]++c.2.2.2.2.2.2.2.2.2.2.2.2.2.2.2.1),(((c).2.2.2.2.2).2).2.2.2.2.2.2.2.2.2.2),Res.var M 30 Y30 c]) (λb8 h=>?_) λJ h=>?_
 ·cases N
  ·replace h:=ifF h
   exact zN o<|zt<|ah false () h o o
  replace h:=ifT h
  refine al dl o ?_
  refine yl 2 .here bR o o o tr o<|al dl o ?_
  refine yl 3 .here bR o o o tr o<|al dl o ?_
  exact cB h λb1 b2 h=>au (mc _ _ _ b2) kr o o<|zN o<|zt<|ah b1 () h o o
 refine q 1 [(83,tb J)] [] o<|bL h 2 (λa3=>[(85,tb a3)]) (λ_=>[Res.var W 30 Y30 u.2.1,Res.var R 30 Y30 f.2.1,Res.var V 30 Y30 ((c).1,(c).2.1,(c).2.2.1,(c).2.2.2.1,([]++c.2.2.2.2.1),([]++c.2.2.2.2.2.1),(((c).2.2.2.2.2).2).1,(((c).2.2.2.2.2).2).2.1,(((c).2.2.2.2.2).2).2.2.1,(((c).2.2.2.2.2).2).2.2.2.1,(((c).2.2.2.2.2).2).2.2.2.2.1,(((c).2.2.2.2.2).2).2.2.2.2.2.1,(((c).2.2.2.2.2).2).2.2.2.2.2.2.1,(((c).2.2.2.2.2).2).2.2.2.2.2.2.2.1,(((c).2.2.2.2.2).2).2.2.2.2.2.2.2.2.1,([]++c.2.2.2.2.2.2.2.2.2.2.2.2.2.2.2.1),(((c).2.2.2.2.2).2).2.2.2.2.2.2.2.2.2.2),Res.var M 30 Y30 c]) (λb9 h=>?_) λa3 h=>?_
 ·cases J
  ·replace h:=ifF h
   exact zN o<|zt<|ah false () h o o
  replace h:=ifT h
  refine al dl o ?_
  exact cB h λb3 b6 h=>rcT hT [] (tY _ b6) kr o o o λ_=>zN o<|zt<|ah b3 () h o o
 refine zE o ?_
 cases h
 exact ax o (.tmp o)
end Sx
