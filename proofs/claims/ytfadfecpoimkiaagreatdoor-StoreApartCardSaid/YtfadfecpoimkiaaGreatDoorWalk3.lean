/-
  Own work, printed by a program of the same hand. Each function of the code answers what its plain twin reckons.
-/
import Derived.Test.YtfadfecpoimkiaaGreatDoorWalk2
namespace Sx
open Go Go.Proofs Go.IntKind
set_option maxRecDepth 10000
set_option maxHeartbeats 1000000
attribute [local irreducible] wpList
theorem qn(N:Value)(u c r)(h:gz u c=some r):FnT PP bD 285 [.one Y282 u,tp N] [Res.cls cN N c] (λ_=>tb r.1) (λ_=>[Res.clsor cN N r.2 r.1]):=by
 unfold gz at h
 refine ik Tryz.func285 o 70 o o λF hT=>?_
 refine mc λf m O Z hp=>?_
 subst hp
 refine gA (x:=c) ?_
 refine zu<|bA o o λM=>q 1 [(1,ptr f 0),(2,ptr M 0)] [] o<|za<|zs<|zs<|pk [1,0] o<|jL λR W G=>?_
 refine eL kr kr ?_
 refine ay ag 3 [1,2,9] (E':=[(1,ptr f 0),(2,ptr M 0),(9,ptr f 7)]) o ?_
 refine q_y (aL 0 f7 o o o (ab (ab (ab (ab (ab (ab (ab (aq aa)))))))) ty2) o ?_
 refine ay ag 3 [1,2,10,13] (E':=[(1,ptr f 0),(2,ptr M 0),(10,ti c.2.2.2.2.2.2.2.1),(13,ptr f 8)]) o ?_
 refine q_y (aL 0 f8 o o o (ab (ab (ab (ab (ab (ab (ab (ab (aq aa))))))))) ty2) o ?_
 refine ay ag 3 [1,2,17] (E':=[(1,ptr f 0),(2,ptr M 0),(17,tb (c.2.2.2.2.2.2.2.1 !=(wrap .i64 (c.2.2.2.2.2.2.2.2.1+1))))]) o ?_
 obtain⟨J,e,h⟩:=al h;rw[e]
 refine lE 8 [(1,ptr f 0),(2,ptr M 0),(25,tb (J||(u.1 !=c.2.2.2.2.2.2.2.2.1)))] ?_ ?_
 ·clear h
  cases J
  ·refine ay ag 1 [1,2,17,18] (E':=[(1,ptr f 0),(2,ptr M 0),(17,tb false),(18,ptr M 0)]) o ?_
   refine dH dl o ?_
   refine q_y (aL 4 f0 o o o (aq aa) ty2) o ?_
   refine ay ag 3 [1,2,17,19,22] (E':=[(1,ptr f 0),(2,ptr M 0),(17,tb false),(19,ti u.1),(22,ptr f 8)]) o ?_
   refine dH dl o ?_
   refine q_y (aL 0 f8 o o o (ab (ab (ab (ab (ab (ab (ab (ab (aq aa))))))))) ty2) o ?_
   refine ay ag 2 [1,2,25] (E':=[(1,ptr f 0),(2,ptr M 0),(25,tb (u.1 !=c.2.2.2.2.2.2.2.2.1))]) o ?_
   refine fZ ?_
   exact iF o
  refine ay ag 8 [1,2,25] (E':=[(1,ptr f 0),(2,ptr M 0),(25,tb true)]) o ?_
  refine fZ ?_
  exact iF o
 refine fa ?_
 refine zt<|rI h o (λhc h=>zU 1 o<|zf<|zT<|aw (R':=Res.clsor cN (.pointer (some ⟨f,0,none⟩)) c false) 0 o m6<|by cases h;exact aS o (.tmp o) (λ_ _ g=>g) (λ_ _ _=>(.cons_cons _ (.cons _ (.cons _ (.cons _ (.cons _ .slnil))))))) λhc h=>zk<|zt<|zs<|gE (S:=bC [aV f 30 W0 (cQ c R W G),aV M 282 Y282 u]) kr ?_
 refine zH 3 [0,1,2] (ae (ak 0 o) (ae (ak 4 o) aj)) kr o o λs=>bl 3 (.one W62 G) s o kr (cq (S:=λw=>bC [aV f 30 W0 (cQ c R W G),aV M 282 Y282 u] w) (bn 0 o) 0 f15 o o o o (ab (ab (ab (ab (ab (ab (ab (ab (ab (ab (ab (ab (ab (ab (ab (aq aa)))))))))))))))) tx2) λs=>zH 1 [4] s kr o o λs=>bl 5 (ti u.1) s o kr (cq (S:=λw=>bC [aV f 30 W0 (cQ c R W G),aV M 282 Y282 u] w) (bn 1 o) 4 f0 o o o o (aq aa) ty2) λs=>zH 1 [6] s kr o o λs=>bl 7 (.one W66 u.2.1) s o kr (cq (S:=λw=>bC [aV f 30 W0 (cQ c R W G),aV M 282 Y282 u] w) (bn 1 o) 4 f1 o o o o (ab (aq aa)) bH) λs=>az 8 kr o<|cB h λC d h=>Cv hT (zg c.2.2.2.2.2.2.2.2.2.2.2.2.2.2.2.1 u.1 u.2.1 _ d) kr (λ_=>o) (λ_ r hr=>by rcases List.mem_singleton.1 hr with rfl;exact Res.free_own o) (.sub o (eM 3 o) (.val o (.val o .nil))) o λH=>?_
 refine za<|aR (ae (ak 1 o) (ae (ak 5 o) aj)) ?_
 refine ah [1,2,35] o<|zH 5 [9,10,11,12,13] (ae (ak 1 o) (ae (ak 5 o) aj)) kr o o λs=>dF kr<|zt<|zs<|zW o<|rI h o (λhc h=>zU 1 o<|zf<|zT<|aw (R':=Res.clsor cN (.pointer (some ⟨f,0,none⟩)) c false) 1 o m6<|by cases h;exact aS o (.tmp o) (λ_ _ g=>g) (λ_ _ _=>(.cons _ (.cons_cons _ (.cons _ (.cons _ (.cons _ (.cons _ .slnil)))))))) λhc h=>zk<|zt<|jK h (γ:=Value) (λV g16=>[(1,ptr f 0),(2,ptr M 0)]) (λV g16=>[Res.own g16 56 Y56 V.1,Res.var f 30 W0 (cQ V.2 R W g16),Res.own R 52 Y52 c.2.2.2.2.1,Res.own W 52 Y52 c.2.2.2.2.2.1,Res.var M 282 Y282 u]) (λa2 h=>?_) λV g16 h=>?_
 ·refine dS kr<|zF 6 [0,1,2,3,4,9] kr o o ?_
  refine br (i:=5) (j:=10) kr o o ?_ ?_
  ·refine zA o<|ah [1,2,40,41,42,43,45,49] o<|zF 1 [6] kr o o ?_
   refine br (i:=7) (j:=10) kr o o ?_ ?_
   ·refine yl 1 f8 ty2 o o o tr o<|zL [1,2,40,41,42,43,47,49] o<|zF 1 [8] kr o o<|af 10 kr o<|zA o<|ah [1,2,40,41,42,43,48,50] o<|zF 1 [11] kr o o<|af 12 kr o<|yl 1 f10 fj o o o tr o<|zL [1,2,40,41,42,43,48,52] o<|af 13 kr o<|zA o<|ah [1,2,41,42,43,48,52,53] o<|zF 1 [14] kr o o ?_
    refine af 15 kr o<|st 1 f15 tx2 o o o o tr<|pk [0,0,0,0,1] o<|zL [1,2,41,42,48,52] o<|af 16 kr o<|zA o<|ah [1,2,42,48,52,55] o<|zF 1 [17] kr o o<|af 18 kr o<|st 1 f8 ty2 o o o o tr<|nL o<|zL [1,2,42,52] o<|af 19 kr o<|zA o ?_
    exact ah [1,2,52,57] o<|zF 1 [20] kr o o<|af 21 kr o<|st 1 f11 fj o o o o tr<|zL [1,2] o<|aN kr<|zt<|ai (C.1,(pR c () () (wrap .i64 (c.2.2.2.2.2.2.2.2.1+1)) c.2.2.2.2.2.2.2.2.2.2.1 ())) (au H 0) h o o
   refine zA o<|ah [1,2,40,41,42,43,46,50] o<|zF 1 [11] kr o o ?_
   refine br (i:=7) (j:=12) kr o o ?_ ?_
   ·refine yl 1 f8 ty2 o o o tr o<|zL [1,2,40,41,42,43,47,51] o<|zF 1 [8] kr o o<|af 12 kr o<|yl 1 f10 fj o o o tr o<|zL [1,2,40,41,42,43,48,52] o<|af 13 kr o<|zA o<|ah [1,2,41,42,43,48,52,53] o<|zF 1 [14] kr o o<|af 15 kr o<|st 1 f15 tx2 o o o o tr<|pk [0,0,0,0,1] o<|zL [1,2,41,42,48,52] o ?_
    refine af 16 kr o<|zA o<|ah [1,2,42,48,52,55] o<|zF 1 [17] kr o o<|af 18 kr o<|st 1 f8 ty2 o o o o tr<|nL o<|zL [1,2,42,52] o<|af 19 kr o<|zA o<|ah [1,2,52,57] o<|zF 1 [20] kr o o<|af 21 kr o<|st 1 f11 fj o o o o tr ?_
    exact zL [1,2] o<|aN kr<|zt<|ai (C.1,(pR c () () (wrap .i64 (c.2.2.2.2.2.2.2.2.1+1)) c.2.2.2.2.2.2.2.2.2.2.1 ())) (au H 0) h o o
   refine yl 1 f10 fj o o o tr o<|zL [1,2,40,41,42,43,46,52] o<|af 7 kr o<|yl 1 f8 ty2 o o o tr o<|zL [1,2,40,41,42,43,47,52] o<|zF 1 [8] kr o o<|af 13 kr o<|zA o<|ah [1,2,41,42,43,48,52,53] o<|zF 1 [14] kr o o<|af 15 kr o<|st 1 f15 tx2 o o o o tr<|pk [0,0,0,0,1] o<|zL [1,2,41,42,48,52] o ?_
   refine af 16 kr o<|zA o<|ah [1,2,42,48,52,55] o<|zF 1 [17] kr o o<|af 18 kr o<|st 1 f8 ty2 o o o o tr<|nL o<|zL [1,2,42,52] o<|af 19 kr o<|zA o<|ah [1,2,52,57] o<|zF 1 [20] kr o o<|af 21 kr o<|st 1 f11 fj o o o o tr ?_
   exact zL [1,2] o<|aN kr<|zt<|ai (C.1,(pR c () () (wrap .i64 (c.2.2.2.2.2.2.2.2.1+1)) c.2.2.2.2.2.2.2.2.2.2.1 ())) (au H 0) h o o
  refine zA o<|ah [1,2,40,41,42,43,44,50] o<|zF 1 [11] kr o o ?_
  refine br (i:=5) (j:=12) kr o o ?_ ?_
  ·refine zA o<|ah [1,2,40,41,42,43,45,51] o<|zF 1 [6] kr o o ?_
   refine br (i:=7) (j:=12) kr o o ?_ ?_
   ·refine yl 1 f8 ty2 o o o tr o<|zL [1,2,40,41,42,43,47,51] o<|zF 1 [8] kr o o<|af 12 kr o<|yl 1 f10 fj o o o tr o<|zL [1,2,40,41,42,43,48,52] o<|af 13 kr o<|zA o<|ah [1,2,41,42,43,48,52,53] o<|zF 1 [14] kr o o<|af 15 kr o<|st 1 f15 tx2 o o o o tr<|pk [0,0,0,0,1] o<|zL [1,2,41,42,48,52] o ?_
    refine af 16 kr o<|zA o<|ah [1,2,42,48,52,55] o<|zF 1 [17] kr o o<|af 18 kr o<|st 1 f8 ty2 o o o o tr<|nL o<|zL [1,2,42,52] o<|af 19 kr o<|zA o<|ah [1,2,52,57] o<|zF 1 [20] kr o o<|af 21 kr o<|st 1 f11 fj o o o o tr ?_
    exact zL [1,2] o<|aN kr<|zt<|ai (C.1,(pR c () () (wrap .i64 (c.2.2.2.2.2.2.2.2.1+1)) c.2.2.2.2.2.2.2.2.2.2.1 ())) (au H 0) h o o
   refine yl 1 f10 fj o o o tr o<|zL [1,2,40,41,42,43,46,52] o<|af 7 kr o<|yl 1 f8 ty2 o o o tr o<|zL [1,2,40,41,42,43,47,52] o<|zF 1 [8] kr o o<|af 13 kr o<|zA o<|ah [1,2,41,42,43,48,52,53] o<|zF 1 [14] kr o o<|af 15 kr o<|st 1 f15 tx2 o o o o tr<|pk [0,0,0,0,1] o<|zL [1,2,41,42,48,52] o ?_
   refine af 16 kr o<|zA o<|ah [1,2,42,48,52,55] o<|zF 1 [17] kr o o<|af 18 kr o<|st 1 f8 ty2 o o o o tr<|nL o<|zL [1,2,42,52] o<|af 19 kr o<|zA o<|ah [1,2,52,57] o<|zF 1 [20] kr o o<|af 21 kr o<|st 1 f11 fj o o o o tr ?_
   exact zL [1,2] o<|aN kr<|zt<|ai (C.1,(pR c () () (wrap .i64 (c.2.2.2.2.2.2.2.2.1+1)) c.2.2.2.2.2.2.2.2.2.2.1 ())) (au H 0) h o o
  refine yl 1 f10 fj o o o tr o<|zL [1,2,40,41,42,43,44,52] o<|af 5 kr o<|zA o<|ah [1,2,40,41,42,43,45,52] o<|zF 1 [6] kr o o<|af 7 kr o<|yl 1 f8 ty2 o o o tr o<|zL [1,2,40,41,42,43,47,52] o<|zF 1 [8] kr o o<|af 13 kr o<|zA o<|ah [1,2,41,42,43,48,52,53] o<|zF 1 [14] kr o o ?_
  refine af 15 kr o<|st 1 f15 tx2 o o o o tr<|pk [0,0,0,0,1] o<|zL [1,2,41,42,48,52] o<|af 16 kr o<|zA o<|ah [1,2,42,48,52,55] o<|zF 1 [17] kr o o<|af 18 kr o<|st 1 f8 ty2 o o o o tr<|nL o<|zL [1,2,42,52] o<|af 19 kr o<|zA o ?_
  exact ah [1,2,52,57] o<|zF 1 [20] kr o o<|af 21 kr o<|st 1 f11 fj o o o o tr<|zL [1,2] o<|aN kr<|zt<|ai (C.1,(pR c () () (wrap .i64 (c.2.2.2.2.2.2.2.2.1+1)) c.2.2.2.2.2.2.2.2.2.2.1 ())) (au H 0) h o o
 refine zs<|dS kr<|zF 3 [0,1,6] kr o o<|o4 (fuel:=2) [2,3,4,5,7,8,9] #[true,true,true,true,true,true,true,true,true,true,false,false] kr ?_
 refine ay ag 2 [59,62,65] (E':=[(59,ptr f 0),(62,ptr f 16),(65,ptr M 33)]) o ?_
 refine iE h λhc h=>q_y (bY o o hc.1 hc.2 y6 bH) o ?_
 refine q_y (aL 1 ((g13 (.fst (.elem 1 .here)))) o o pof (ab (ab (ab (ab (ab (ab (ab (ab (ab (ab (ab (ab (ab (aq (av (by omega) aa))))))))))))))) bH) o ?_
 refine q_y (aL 4 f2 o o o (ab (ab (aq aa))) bH) o ?_
 refine q_y (aY o HA o o (.cons (.elem 0 .here) o o (av (by omega) aa) (.cons (.elem 1 .here) o o (av (by omega) aa) .nil))) o ?_
 refine ay ag 1 [67,68] (E':=[(67,.one W60 [(List.getD V.2.2.2.2.2.2.2.2.2.2.2.2.2.2.1 1 z32),u.2.2.1]),(68,ptr f 0)]) o ?_
 refine fa ?_
 refine ah [67,68] o<|zF 1 [10] kr o o<|af 11 kr o<|st 1 f13 y4 o o o o tr<|zL [] o<|aN kr<|zt<|zU 1 o<|zf<|pk [1,1,1,0,0] o<|gA (x:=(AR V.2 c.2.2.2.2.1 c.2.2.2.2.2.1 ([(List.getD V.2.2.2.2.2.2.2.2.2.2.2.2.2.2.1 1 z32),u.2.2.1]) V.1)) ?_
 refine aw (R':=Res.clsor cN (.pointer (some ⟨f,0,none⟩)) (AR V.2 c.2.2.2.2.1 c.2.2.2.2.2.1 ([(List.getD V.2.2.2.2.2.2.2.2.2.2.2.2.2.2.1 1 z32),u.2.2.1]) V.1) true) 0 o ou<|nL o ?_
 cases h
 exact bc o (.tmp o) (.cons_cons _ (.cons _ .slnil))
theorem q6(M:Value)(f c r)(h:gN f c=some r):Fn PP 296 [.one W61 f,tp M] [Res.cls cN M c] (λ_=>tb r.1) (λ_=>[Res.clsor cN M r.2 r.1]):=by
 unfold gN at h
 refine enter Tryz.func296 o 15 o o λF=>?_
 refine mc λV W C H hp=>?_
 subst hp
 refine gA (x:=c) ?_
 refine zu<|bA o o λR=>q 1 [(1,ptr V 0),(2,ptr R 0)] [] o<|za<|bv h (λu=>[]) (λu=>[Res.cls cN (.pointer (some ⟨V,0,none⟩)) u,Res.var R 284 W61 f]) (λG h=>?_) λu h=>?_
 ·refine zs<|pk [1,0] o<|jL λN J d=>?_
  refine zr<|zm 3 o<|yl 0 f16 ty3 o o o tr o<|zA o<|rI h o (λhc h=>?_) λhc h=>?_
  ·refine zr<|zm 2 o<|yl 4 f0 ty3 o o o tr o<|zm 2 o<|st 0 f16 ty3 o o o o tr<|za<|gA (x:=(AU c f.1)) ?_
   exact ai (AU c f.1) () h o o
  refine zk<|zt<|gA (x:=c) ?_
  exact ai c () h o o
 refine zU 1 o<|zf<|aw (R':=Res.clsor cN (.pointer (some ⟨V,0,none⟩)) u true) 0 o ou ?_
 cases h
 exact bc o (.tmp o) (.cons_cons _ (.cons _ .slnil))
theorem q7(V:Value)(f c r)(h:gO f c=some r):Fn PP 300 [.one W61 f,tp V] [Res.cls cN V c] (λ_=>tb r.1) (λ_=>[Res.clsor cN V r.2 r.1]):=by
 unfold gO at h
 refine enter Tryz.func300 o 17 o o λF=>?_
 refine mc λu R W C hp=>?_
 subst hp
 refine gA (x:=c) ?_
 refine zu<|bA o o λM=>zA o<|zs<|zs<|pk [1,0] o<|jL λH G N=>?_
 refine eL kr kr ?_
 refine ay ag 1 [1,2,5] (E':=[(1,ptr u 0),(2,ptr M 0),(5,ptr M 0)]) o ?_
 refine q_y (aL 4 f0 o o o (aq aa) ty2) o ?_
 refine ay ag 3 [1,2,6,9] (E':=[(1,ptr u 0),(2,ptr M 0),(6,ti f.1),(9,ptr u 6)]) o ?_
 refine q_y (aL 0 f6 o o o (ab (ab (ab (ab (ab (ab (aq aa))))))) ty2) o ?_
 refine ay ag 1 [1,2,11] (E':=[(1,ptr u 0),(2,ptr M 0),(11,tb (f.1 !=c.2.2.2.2.2.2.1))]) o ?_
 refine fa ?_
 refine zt<|rI h o (λhc h=>zU 1 o<|zf<|zT<|aw (R':=Res.clsor cN (.pointer (some ⟨u,0,none⟩)) c false) 0 o m6<|by cases h;exact aS o (.tmp o) (λ_ _ g=>g) (λ_ _ _=>(.cons_cons _ (.cons _ (.cons _ (.cons _ (.cons _ .slnil))))))) λhc h=>zy<|zm 2 o<|yl 4 f0 ty2 o o o tr o<|zm 2 o<|st 0 f17 ty2 o o o o tr<|zz<|zE o<|gA (x:=(AV c f.1)) ?_
 refine aw (R':=Res.clsor cN (.pointer (some ⟨u,0,none⟩)) (AV c f.1) true) 0 o ou<|nL o ?_
 cases h
 exact bc o (.tmp o) (.cons_cons _ (.cons _ .slnil))
theorem q8(c:Value)(u f r)(h:lj u f=some r):wv PP bD "escrow/record.apply" [.one Y212 u,.one W63 c] [Res.cls cN c f] (fun _=> .one .bool r.1) (fun _=>[Res.clsor cN c r.2 r.1]):=match u,h with
 | .inl z,h=>(Inv.tab (du (k:=258) kr (sW c z f r h)))
 | .inr (.inl z),h=>(fh o (Inv.tab (du (k:=274) kr (qZ c z f r h))))
 | .inr (.inr (.inl z)),h=>(fh o (fh o (Inv.tab (du (k:=280) kr (sX c z f r h)))))
 | .inr (.inr (.inr (.inl z))),h=>(fh o (fh o (fh o (Cy (k:=285) kr (qn c z f r h)))))
 | .inr (.inr (.inr (.inr (.inl z)))),h=>(fh o (fh o (fh o (fh o (Inv.tab (du (k:=296) kr (q6 c z f r h)))))))
 | .inr (.inr (.inr (.inr (.inr (.inl z))))),h=>(fh o (fh o (fh o (fh o (fh o (Inv.tab (du (k:=300) kr (q7 c z f r h))))))))
 | .inr (.inr (.inr (.inr (.inr (.inr (_)))))),h=>by cases h
theorem qF(f H r)(h:ko f H=some r):FnT PP bD 71 [.one Y30 f,.one Y54 H] [] (λ_=> .tup [⟨Y30,r.1⟩,⟨(.int .i64),r.2⟩]) (λ_=>[]):=by
 unfold ko at h
 refine ik Tryz.func71 o 29 o o λF hT=>?_
 refine zu<|bA o o λu=>bA o o λb4=>aC (t:=Y30) o fO o λb5=>zm 1 o<|zz<|yl 1 .here eX o o o tr o<|cB h λG O h=>ar (mq _ _ O) kr o o<|zA o<|zs<|zU 1 o<|y (ug (.next (.next (.next (.next (.next (.next .here)))))) o o xF (jd G)) o ?_
 refine za<|rI h o (λhc h=>?_) λhc h=>?_
 ·refine zu<|y (aY o fO o o .nil) o ?_
  refine st 0 .here bE o o o o tr<|zE o<|zT ?_
  cases h
  exact aE (rs:=[.cell 4 30,.tmp 5]) o (.cons (.cell 0 .here o o o aa bE) (.cons (.tmp o) (.nil))) o (λ_ vs g=>aI vs g) (λ_ _ _=>List.nil_sublist _)
 refine zk<|zt<|zs<|pk [2,0,0] o<|nG (z:=(.slice none 0 0)) f4 o λM=>?_
 refine pk [1,0,0,0] o<|nG (z:=(.slice none 0 0)) f5 o λV=>?_
 refine pk [1,0,0,0,0] o<|nG (z:=(.slice none 0 0)) f15 o λR=>?_
 refine Bj (bC [aV u 30 W0 (gU f M V R)]) 2 #[false,false,false,false,false,false,false,false,false,true,true,true,true,true,true] #[true,true,true,true,true,true,true,true,true,false,false,false,false,false,false] 9 6 kr kr kr o ?_
 refine zH 1 [0] (ae (ak 1 o) aj) kr o o λs=>bl 1 (.one W62 M) s o kr (cq (S:=λw=>bC [aV u 30 W0 (gU f M V R)] w) (bn 0 o) 1 f4 o o o o (ab (ab (ab (ab (aq aa))))) tx1) λs=>zH 1 [3] s kr o o λs=>bl 4 (.one W62 V) s o kr (cq (S:=λw=>bC [aV u 30 W0 (gU f M V R)] w) (bn 0 o) 1 f5 o o o o (ab (ab (ab (ab (ab (aq aa)))))) tx1) λs=>zH 1 [6] s kr o o λs=>bl 7 (.one W62 R) s o kr (cq (S:=λw=>bC [aV u 30 W0 (gU f M V R)] w) (bn 0 o) 1 f15 o o o o (ab (ab (ab (ab (ab (ab (ab (ab (ab (ab (ab (ab (ab (ab (ab (aq aa)))))))))))))))) tx2) λs=>az 2 kr o<|nH 13 3 o o ?_
 refine cB h λN Z h=>rc [] (co _ _ Z) kr o o o λa6=>za<|aR (ae (ak 2 o) aj) ?_
 refine ah [2,4,6,14,16,19] o<|az 5 kr o<|nH 16 3 o o ?_
 refine cB h λJ a2 h=>rc [] (co _ _ a2) kr o o o λa7=>za<|aR (ae (ak 3 o) aj) ?_
 refine ah [2,4,6,14,17,19] o<|az 8 kr o<|nH 19 2 o o ?_
 refine cB h λd a3 h=>rc [] (fE _ _ a3) kr o o o λa8=>za<|aR (ae (ak 4 o) aj) ?_
 refine ah [2,4,6,14,17,20] o<|dF kr<|yD ?_
 refine zF 1 [9] kr o o<|af 10 kr o<|st 4 f4 tx1 o o o o tr<|pk [0,0,0,0,0,0,1,1] o<|zL [2,4,6,17,20] o<|zF 1 [11] kr o o<|af 12 kr o<|st 4 f5 tx1 o o o o tr<|nL o<|pk [0,0,0,0,0,1,1] o<|zL [2,4,6,20] o<|zF 1 [13] kr o o<|af 14 kr o<|st 4 f15 tx2 o o o o tr ?_
 refine pk [0,0,0,1,1,1] o<|zL [2,4,6] o<|aN kr<|zt<|zs<|zU 1 o<|pk [3,2,1,0,0,0] o<|gA (x:=(cQ f N J d)) ?_
 refine cB h λc a4 h=>riT hT dl [0] (q8 (.pointer (some ⟨u,0,none⟩)) G (cQ f N J d) _ a4) o o o λ_=>?_
 refine zA o<|rI h o (λhc h=>?_) λhc h=>?_
 ·refine zu<|y (aY o fO o o .nil) o ?_
  refine st 1 .here bE o o o o tr<|zE o<|zT ?_
  cases h
  exact aE (rs:=[.cell 4 30,.tmp 5]) o (.cons (.cell 1 .here o o o aa bE) (.cons (.tmp o) (.nil))) o (λ_ vs g=>aI vs g) (λ_ _ _=>List.nil_sublist _)
 refine zk<|zt<|zs ?_
 obtain⟨a5,h⟩:=cj h
 refine aw (R':=Res.cls cN (.pointer (some ⟨u,0,none⟩)) c.2) 0 o (Cw a5)<|jL λm C W=>?_
 refine pk [1,0,0,0,0,0] o<|ep (v:=m) (T0:=W0) (x0:=(cQ c.2 m C W)) (t:=Y52) f4 o o ?_
 refine pk [1,0,0,0,0] o<|ep (v:=C) (T0:=W2) (x0:=(c.2.1,c.2.2.1,c.2.2.2.1,c.2.2.2.2.1,c.2.2.2.2.2.1,C,c.2.2.2.2.2.2.2.1,c.2.2.2.2.2.2.2.2.1,c.2.2.2.2.2.2.2.2.2.1,c.2.2.2.2.2.2.2.2.2.2.1,c.2.2.2.2.2.2.2.2.2.2.2.1,c.2.2.2.2.2.2.2.2.2.2.2.2.1,c.2.2.2.2.2.2.2.2.2.2.2.2.2.1,c.2.2.2.2.2.2.2.2.2.2.2.2.2.2.1,c.2.2.2.2.2.2.2.2.2.2.2.2.2.2.2.1,W,c.2.2.2.2.2.2.2.2.2.2.2.2.2.2.2.2.2.1,c.2.2.2.2.2.2.2.2.2.2.2.2.2.2.2.2.2.2.1,c.2.2.2.2.2.2.2.2.2.2.2.2.2.2.2.2.2.2.2)) (t:=Y52) f5 o o ?_
 refine pk [1,0,0,0] o<|ep (v:=W) (T0:=W4) (x0:=(c.2.1,c.2.2.1,c.2.2.2.1,c.2.2.2.2.1,c.2.2.2.2.2.1,c.2.2.2.2.2.2.1,c.2.2.2.2.2.2.2.1,c.2.2.2.2.2.2.2.2.1,c.2.2.2.2.2.2.2.2.2.1,c.2.2.2.2.2.2.2.2.2.2.1,c.2.2.2.2.2.2.2.2.2.2.2.1,c.2.2.2.2.2.2.2.2.2.2.2.2.1,c.2.2.2.2.2.2.2.2.2.2.2.2.2.1,c.2.2.2.2.2.2.2.2.2.2.2.2.2.2.1,c.2.2.2.2.2.2.2.2.2.2.2.2.2.2.2.1,W,c.2.2.2.2.2.2.2.2.2.2.2.2.2.2.2.2.2.1,c.2.2.2.2.2.2.2.2.2.2.2.2.2.2.2.2.2.2.1,c.2.2.2.2.2.2.2.2.2.2.2.2.2.2.2.2.2.2.2)) (t:=Y56) f15 o o ?_
 refine zr<|yl 0 .here bE o o o tr o<|st 1 .here bE o o o o tr<|nL o<|zE o ?_
 cases h
 exact aE (rs:=[.cell 4 30,.tmp 5]) o (.cons (.cell 1 .here o o o aa bE) (.cons (.tmp o) (.nil))) o (λ_ vs g=>aI vs g) (λ_ _ _=>List.nil_sublist _)
theorem wG(M V r)(h:qQ M V=some r):FnT PP bD 66 [.one Y30 M,ts V] [] (λ_=> .tup [⟨Y30,r.1⟩,⟨(.int .i64),r.2⟩]) (λ_=>[]):=by
 unfold qQ at h
 refine ik Tryz.func66 o 36 o o λF hT=>?_
 refine zu<|bA o o λf=>aC (t:=Y30) o fO o λu=>zA o<|zs<|zW o<|rI h o (λhc h=>?_) λhc h=>?_
 ·refine zu<|y (aY o fO o o .nil) o ?_
  refine st 0 .here bE o o o o tr<|zE o<|zT ?_
  cases h
  exact aE (rs:=[.cell 4 30,.tmp 5]) o (.cons (.cell 0 .here o o o aa bE) (.cons (.tmp o) (.nil))) o (λ_ vs g=>aI vs g) (λ_ _ _=>List.nil_sublist _)
 refine zk<|zt<|bv h (λR=>[(2,ptr f 0),(4,ptr u 0)]) (λR=>[Res.var u 30 Y30 (0,0,0,0,[],[],0,0,0,(0,0,()),(0,0,()),(0,0,()),false,(List.replicate 2 (z32:List (Int))),z32,[],0,0,()),Res.var f 30 Y30 R]) (λH h=>?_) λR h=>?_
 ·refine zb<|ah [1,2,4] o<|bg (γ:=Unit) (λ(c:List Int×Z29) _=>[(1,ts c.1),(2,ptr f 0),(4,ptr u 0)]) (λ(c:List Int×Z29) _=>[Res.var u 30 Y30 (0,0,0,0,[],[],0,0,0,(0,0,()),(0,0,()),(0,0,()),false,(List.replicate 2 (z32:List (Int))),z32,[],0,0,()),Res.var f 30 Y30 c.2]) (l9 H) (V,M) () h o o ?_
  clear h
  intro W c gg h
  cases W with
  |zero=>cases h
  |succ W=>
  simp only[l9]at h
  refine zs<|zW o<|rI h o (λhc h=>?_) λhc h=>?_
  ·refine zk<|zt<|zb<|zU 1 o<|cB h λC G h=>ar (wC _ _ G) kr o o<|zm 4 o<|aC (t:=Y54) o kq o λm=>st 0 .here eX o o o o tr<|zA o<|zs<|zW o<|rI h o (λhc h=>?_) λhc h=>?_
   ·refine zu<|y (aY o fO o o .nil) o ?_
    refine st 1 .here bE o o o o tr<|zE o<|zT<|zB<|zT<|zB<|zT ?_
    cases h
    exact aE (rs:=[.cell 4 30,.tmp 5]) o (.cons (.cell 1 .here o o o aa bE) (.cons (.tmp o) (.nil))) o (λ_ vs g=>aI vs g) (λ_ _ _=>List.nil_sublist _)
   refine zk<|zt<|zs<|zu<|yl 2 .here bE o o o tr o<|yl 0 .here eX o o o tr o<|cB h λN J h=>rcT hT [] (qF _ _ _ J) kr o o o λ_=>zm 3 o<|st 2 .here bE o o o o tr<|zm 1 o<|zz<|zA o<|rI h o (λhc h=>?_) λhc h=>?_
   ·refine zu<|y (aY o fO o o .nil) o ?_
    refine st 1 .here bE o o o o tr<|zE o<|zT<|zB<|zT<|zB<|zT ?_
    cases h
    exact aE (rs:=[.cell 4 30,.tmp 5]) o (.cons (.cell 1 .here o o o aa bE) (.cons (.tmp o) (.nil))) o (λ_ vs g=>aI vs g) (λ_ _ _=>List.nil_sublist _)
   refine zk<|zt<|zr<|zm 2 o<|iE h λhc h=>y (jB (i:=C.2.1) (j:=(List.length c.1:Int)) ag o o o hc.1 hc.2.1 hc.2.2 o) o ?_
   refine q 1 [(1,ts (List.drop (Int.toNat C.2.1) (List.take (Int.toNat (List.length c.1:Int)) c.1))),(2,ptr f 0),(4,ptr u 0)] [] o ?_
   obtain⟨d,e,h⟩:=al h;rw[e]
   exact zn<|zi<|zt<|pk [1,1] o<|aX (d,N.1) () (Nat.lt_succ_self _) h o o
  exact zx<|ze<|ze<|zq<|zt<|ai c.2 () h o o
 refine zu<|yl 1 .here bE o o o tr o<|st 0 .here bE o o o o tr<|zE o ?_
 cases h
 exact aE (rs:=[.cell 4 30,.tmp 5]) o (.cons (.cell 0 .here o o o aa bE) (.cons (.tmp o) (.nil))) o (λ_ vs g=>aI vs g) (λ_ _ _=>List.nil_sublist _)
theorem aK(u:Value)(c f r)(h:eE c f=some r):Fn PP 134 [tp u,ts f] [Res.disk PP dI u c] (λ_=>ti r.1) (λ_=>[Res.disk PP dI u r.2]):=by
 unfold eE at h
 refine enter Tryz.func134 o 21 o o λF=>?_
 refine gT λV M hp=>?_
 subst hp
 refine zW o<|zs<|zU 2 o<|cB h λW R h=>gp (Lo:=[]) (gj V M c f _ R) kr (List.Perm.refl _) o o λC=>?_
 refine zm 5 o<|zz<|zA o<|rI h o (λhc h=>zU 2 o<|zf<|zT<|aw (R':=Res.dfiles PP dI M c.2.1) 1 o fp<|ct (P:=PP) (I:=dI) (D:=c)<|by cases h;exact aS o (.tmp o) (λ_ _ g=>g) (λ_ _ _=>(.cons_cons _ .slnil))) λhc h=>zy<|zm 3 o<|yl 0 f1 mX o o o tr o<|zm 1 o<|aw (R':=Res.dfiles PP dI M c.2.1) 1 o fp<|pk [1,0] o<|B6 dW o o Tryz.underlying121 o ?_
 refine zz<|zE o<|pk [1,0] o<|ct (P:=PP) (I:=dI) (D:=(kg c (cn .str f c.2.1))) ?_
 cases h
 exact bc o (.tmp o) (.cons_cons _ .slnil)
theorem tX(c r)(h:qz c=some r):bm PP 168 [ti c] (ts r):=by
 unfold qz at h
 refine enter Tryz.func168 o 27 o o λF=>?_
 refine zU 1 o<|zz<|cB h λH f h=>rc [] (m1 _ f) kr o o o λG=>zm 1 o<|zZ 2 o<|cB h λN u h=>rc [0] (cC _ _ _ _ u) kr o o o λ_=>zZ 1 o<|cB h λJ M h=>rc [0] (gC _ _ _ M) kr o o o λ_=>zm 5 o<|zZ 2 o<|cB h λd V h=>?_
 refine ar (sN _ _ V) kr o o<|cB h λm R h=>rc [0] (nZ _ _ _ _ R) kr o o o λ_=>zZ 1 o<|cB h λO W h=>rc [0] (gC _ _ _ W) kr o o o λ_=>zm 4 o<|zZ 1 o<|cB h λw C h=>ar (mp _ _ _ C) kr o o<|iE h λhc h=>y (jN o o hc) o ?_
 refine zE o ?_
 cases h
 exact ax o (.tmp o)
theorem rS(c r)(h:gl c=some r):bm PP 176 [ts c] (tb r):=by
 unfold gl at h
 refine enter Tryz.func176 o 27 o o λF=>?_
 refine zu<|q 1 [(0,ts c)] [] o<|za<|bv h (λu=>[(0,ts c)]) (λu=>[]) (λW h=>?_) λu h=>?_
 ·refine zW o<|zb<|ah [0,5,6] o<|bg (γ:=Unit) (λ(f:Int) _=>[(0,ts c),(5,ti (List.length c:Int)),(6,ti f)]) (λ(f:Int) _=>[]) (hJ c W) 0 () h o o ?_
  clear h
  intro M f gg h
  cases M with
  |zero=>cases h
  |succ M=>
  simp only[hJ]at h
  refine zW o<|zs<|rI h o (λhc h=>?_) λhc h=>?_
  ·refine zk<|zt<|zs<|zb<|zU 2 o<|zZ 2 o<|iE h λhc h=>y (gq ag o o hc.1 hc.2 o) o ?_
   refine q 2 [(3,ti f),(5,ti (List.length c:Int)),(6,ti f),(13,tb (decide ((List.getD c (Int.toNat f) 0)<33)))] [0] o ?_
   obtain⟨C,e,h⟩:=al h;rw[e]
   refine bQ h 5 (λV=>[(0,ts c),(5,ti (List.length c:Int)),(6,ti f),(18,tb V)]) (λ_=>[]) (λH h=>?_) λV h=>?_
   ·cases C
    ·replace h:=ifF h
     refine zm 2 o<|am dl o ?_
     refine iE h λhc h=>y (gq ag o o hc.1 hc.2 o) o ?_
     exact zN o<|zt<|ai (decide ((List.getD c (Int.toNat f) 0)>126)) () h o o
    replace h:=ifT h
    exact zN o<|zt<|ai true () h o o
   exact za<|rI h o (λhc h=>zU 1 o<|zf<|zB<|zT<|zT<|zB<|zT<|by cases h;exact ax o (.tmp o)) λhc h=>zk<|zi<|zt<|zr<|zA o<|aX (wrap .i64 (f+1)) () (Nat.lt_succ_self _) h o o
  exact zx<|ze<|ze<|zq<|zt<|ai () () h o o
 refine zu<|q 3 [(0,ts c),(22,tb (c !=[]))] [] o ?_
 obtain⟨R,e,h⟩:=al h;rw[e]
 refine aM 4 [(26,tb (R&&(decide ((List.length c:Int)≤32))))] [] (?_) ?_
 ·clear h
  cases R
  ·exact zA o<|ap () o o
  exact zA o<|ap () o o
 refine zE o ?_
 cases h
 exact ax o (.tmp o)
theorem mr(u:Nat)(f:Value)(M:List Int)(V:Value)(c r)(h:gc c=some r):Fn PP 177 [ptr u 0] [Res.var u 123 DT (cy c f c.2.2.2.2.2.2 ()),Res.dat PP dI f c.2.1 M V] (λ_=>ti r) (λ_=>[Res.var u 123 DT (cy c f c.2.2.2.2.2.2 ()),Res.dat PP dI f c.2.1 M V]):=by
 unfold gc at h
 refine enter Tryz.func177 o 23 o o λF=>?_
 refine zU 1 o<|zz<|q 1 [(0,ptr u 0),(3,ti 0)] [] o<|za<|bv h (λC=>[(3,ti C)]) (λC=>[Res.dat PP dI f c.2.1 M V,Res.var u 123 DT (cy c f c.2.2.2.2.2.2 ())]) (λO h=>?_) λC h=>?_
 ·refine zU 3 o<|yl 0 f1 mX o o o tr o<|pk [1,0] o<|Cf dW o Tryz.underlying121 o λW d=>?_
  refine za<|zb<|cB h λrr hall h=>ah [3,10] o<|qJ (step:=dY c) (λ_ _=>True) (rj c) d tr hall (γ:=Unit) (λ(R:Int) _=>[(3,ti R),(10,tp W)]) (λH (R:Int) _=>[Res.diter PP dI f W c.2.1 H none (some (M,V)),Res.var u 123 DT (cy c f c.2.2.2.2.2.2 ())]) () o o λH R gg hend hone=>?_
  refine zu ?_
  refine wq dW o o (λht=>?_) (λA9 m B11 w G hk=>?_)
  ·obtain rfl:=hend ht
   refine zM ?_
   refine zA o<|zs ?_
   refine ii (b:=false) o (λhc=>?_) (λhc=>?_)
   ·cases hc
   exact zx<|ze<|ze<|zq<|zt<|ai R () h o o
  obtain⟨Z,N⟩:=hone A9 m B11 G
  clear h
  have h:=N
  unfold dY at h
  refine zA o<|zs ?_
  refine ii (b:=true) o (λhc=>?_) (λhc=>?_)
  ·refine zk<|zt<|zb<|zu<|y (uZ o 0 o) o ?_
   refine zA o<|cB h λf14 J h=>wW J λa1 a2 a3 a4 hq=>?_
   rw[hq]
   clear hq
   refine zr<|zm 4 o<|yl 0 f0 tx0 o o o tr o<|y (bW ag 1 o o o) o ?_
   refine q 2 [(3,ti (wrap .i64 (R+(List.length f14.1:Int)))),(10,tp W)] [] o ?_
   obtain⟨n19,e,h⟩:=al h;rw[e]
   refine zn<|zi<|zt<|u0 (P:=PP) (I:=dI) J ?_
   refine aw (R':=Res.diter PP dI f W c.2.1 (A9++B11) none (some (M,V))) 0 o sr<|ah [3,10] o ?_
   obtain rfl:=Option.some.inj h
   exact uf () G N o o
  cases hc
 refine zU 2 o<|zf ?_
 cases h
 exact pk [1,0] o<|bc o (.tmp o) (.cons_cons _ (.cons_cons _ .slnil))
theorem lQ(p0:Value)(M V c f r)(h:bG M V c f=some r):Fn PP 130 [tp p0,ts V,ti c,ts f] [Res.disk PP dI p0 M] (λ_=>ti r.1) (λ_=>[Res.disk PP dI p0 r.2]):=by
 unfold bG at h
 refine enter Tryz.func130 o 144 o o λF=>?_
 refine gT λC u hp=>?_
 subst hp
 refine zW o<|zs<|zU 3 o<|yl 0 f5 ty4 o o o tr o<|za<|rI h o (λhc h=>zU 1 o<|zf<|zT<|ct (P:=PP) (I:=dI) (D:=M)<|by cases h;exact aS o (.tmp o) (λ_ _ g=>g) (λ_ _ _=>(.cons_cons _ .slnil))) λhc h=>zy<|zm 3 o<|yl 0 f1 mX o o o tr o<|zm 1 o<|pk [1,0] o<|As dW o o Tryz.underlying121 zNV o λq3=>?_
 refine q 5 [(0,ptr C 0),(1,ts V),(2,ti c),(3,ts f),(9,tp q3),(10,tb (Option.isSome (aA .str V M.2.1)))] [] o ?_
 obtain⟨a5,e,h⟩:=al h;rw[e]
 refine zz<|p 1 [0,1,2,3,9,10,11] o<|za<|jK h (γ:=Value) (λJ g7=>[(0,ptr C 0),(1,ts V),(2,ti c),(3,ts f),(9,tp g7),(10,tb a5),(11,ti J)]) (λJ g7=>[Res.dat PP dI u M.2.1 V g7,Res.var C 123 DT (cy M u M.2.2.2.2.2.2 ())]) (λk5 h=>?_) λJ g7 h=>?_
 ·refine zW o<|rI h o (λhc h=>?_) λhc h=>?_
  ·refine cB h λd5 c1 h=>iB dW c1 λc2 d9 e0 e1 hq=>?_
   rw[hq]
   clear hq
   refine zr<|zm 3 o<|yl 0 f0 tx0 o o o tr o<|y (bW ag 1 o o o) o ?_
   refine q 1 [(9,ptr c2 0),(11,ti (List.length d5.1:Int))] [0,1,2,3,10] o ?_
   obtain⟨d6,e,h⟩:=al h;rw[e]
   refine za<|jC (P:=PP) (I:=dI) dW c1 ?_
   exact ai d6 (.pointer (some ⟨c2,0,none⟩)) h o o
  exact zk<|zt<|ai 0 q3 h o o
 refine zs<|zb<|zU 1 o<|cB h λr8 d7 h=>ar (rS _ _ d7) kr o o<|q 2 [(0,ptr C 0),(1,ts V),(2,ti c),(3,ts f),(9,tp g7),(10,tb a5),(11,ti J),(38,tb (!r8))] [] o ?_
 obtain⟨b9,e,h⟩:=al h;rw[e]
 refine aM 3 [(0,ptr C 0),(1,ts V),(2,ti c),(3,ts f),(9,tp g7),(10,tb a5),(11,ti J),(41,tb (b9||(decide (c<0))))] [Res.dat PP dI u M.2.1 V g7,Res.var C 123 DT (cy M u M.2.2.2.2.2.2 ())] (?_) ?_
 ·clear h
  cases b9
  ·exact zA o<|ap () o o
  exact zA o<|ap () o o
 refine q 1 [(0,ptr C 0),(1,ts V),(2,ti c),(3,ts f),(9,tp g7),(10,tb a5),(11,ti J),(42,tb (b9||(decide (c<0))))] [] o ?_
 obtain⟨c3,e,h⟩:=al h;rw[e]
 refine aM 4 [(0,ptr C 0),(1,ts V),(2,ti c),(3,ts f),(9,tp g7),(10,tb a5),(11,ti J),(46,tb (c3||(decide (c>J))))] [Res.dat PP dI u M.2.1 V g7,Res.var C 123 DT (cy M u M.2.2.2.2.2.2 ())] (?_) ?_
 ·clear h
  cases c3
  ·exact zA o<|ap () o o
  exact zA o<|ap () o o
 refine zA o<|rI h o (λhc h=>zU 1 o<|zf<|zB<|zT<|aw (R':=Res.dfiles PP dI u M.2.1) 0 o cp<|pk [1,0] o<|ct (P:=PP) (I:=dI) (D:=M)<|by cases h;exact aS o (.tmp o) (λ_ _ g=>g) (λ_ _ _=>(.cons_cons _ .slnil))) λhc h=>zW o<|rI h o (λhc h=>zU 1 o<|zf<|zB<|zT<|aw (R':=Res.dfiles PP dI u M.2.1) 0 o cp<|pk [1,0] o<|ct (P:=PP) (I:=dI) (D:=M)<|by cases h;exact aS o (.tmp o) (λ_ _ g=>g) (λ_ _ _=>(.cons_cons _ .slnil))) λhc h=>zu<|q 3 [(0,ptr C 0),(1,ts V),(2,ti c),(3,ts f),(9,tp g7),(10,tb a5),(11,ti J),(56,tb (!a5))] [] o ?_
 obtain⟨d8,e,h⟩:=al h;rw[e]
 refine bQ h 7 (λc4=>[(0,ptr C 0),(1,ts V),(2,ti c),(3,ts f),(9,tp g7),(10,tb a5),(11,ti J),(63,tb c4)]) (λ_=>[Res.dat PP dI u M.2.1 V g7,Res.var C 123 DT (cy M u M.2.2.2.2.2.2 ())]) (λe2 h=>?_) λc4 h=>?_
 ·cases d8
  ·replace h:=ifF h
   exact zN o<|zt<|ai false () h o o
  replace h:=ifT h
  refine zm 3 o<|am dl o ?_
  refine yl 1 f1 mX o o o tr o<|am dl o ?_
  refine iE h λhc h=>y (FD dW 0 o o Tryz.underlying121 hc) o ?_
  exact zN o<|zt<|ai (decide ((List.length M.2.1:Int)≥16)) () h o o
 refine zA o<|rI h o (λhc h=>zU 1 o<|zf<|zB<|zT<|aw (R':=Res.dfiles PP dI u M.2.1) 0 o cp<|pk [1,0] o<|ct (P:=PP) (I:=dI) (D:=M)<|by cases h;exact aS o (.tmp o) (λ_ _ g=>g) (λ_ _ _=>(.cons_cons _ .slnil))) λhc h=>zs<|dS kr<|zF 7 [0,2,3,4,5,6,7] kr o o<|ga 8 (ti (max 0 (wrap .i64 ((wrap .i64 (c+(List.length f:Int))) - J)))) o kr (A6 o o)<|zF 1 [10] kr o o ?_
 refine br (i:=1) (j:=11) kr o o ?_ ?_
 ·refine pk [1,0] o<|cB h λc5 a9 h=>gp (Lo:=[]) (mr C u V g7 M _ a9) kr (List.Perm.refl _) o o λ_=>?_
  refine zL [0,1,2,3,9,10,11,66,73,75] o<|zF 1 [9] kr o o<|af 11 kr o<|zA o<|ah [0,1,2,3,9,10,11,74,76] o<|zF 1 [12] kr o o<|af 13 kr o<|yl 0 f0 ty3 o o o tr o<|zL [0,1,2,3,9,10,11,74,78] o<|zF 2 [14,15] kr o o<|aN kr<|zt<|rI h o (λhc h=>zU 1 o<|zf<|zB<|zT<|aw (R':=Res.dfiles PP dI u M.2.1) 1 o cp<|ct (P:=PP) (I:=dI) (D:=M)<|by cases h;exact aS o (.tmp o) (λ_ _ g=>g) (λ_ _ _=>(.cons_cons _ .slnil))) λhc h=>?_
  refine zk<|zi<|zt<|zs<|zU 1 o<|cB h λW b0 h=>gp (Lo:=[Res.dat PP dI u M.2.1 V g7]) (jc C u M 1 _ b0) kr (List.Perm.refl _) o o λ_=>?_
  refine zm 1 o<|zz<|zA o<|rI h o (λhc h=>zU 2 o<|zf<|zT<|aw (R':=Res.dfiles PP dI u M.2.1) 1 o cp<|ct (P:=PP) (I:=dI) (D:=(kg W.2 M.2.1))<|by cases h;exact aS o (.tmp o) (λ_ _ g=>g) (λ_ _ _=>(.cons_cons _ .slnil))) λhc h=>zk<|zt<|jK h (γ:=Value) (λO g18=>[(2,ti c),(3,ts f),(9,tp g18),(11,ti J)]) (λO g18=>[Res.dat PP dI u O V g18,Res.var C 123 DT (cy W.2 u W.2.2.2.2.2.2.2 ())]) (λc6 h=>?_) λO g18 h=>?_
  ·refine zW o<|rI h o (λhc h=>?_) λhc h=>?_
   ·refine zu<|o1 3 (.int .i64) (.int .i64) o λc7=>?_
    refine jg (P:=PP) (I:=dI) (keys:=[]) 0 o o ?_
    refine y (aY o BE o o (.cons f2 o o (ab (ab (aq aa))) .nil)) o ?_
    refine bA o o λb1=>bT (.slice none 0 0) o 5 (.int .u8) ?_
    refine bT (.slice none 0 0) o 5 (.int .u8) ?_
    refine zA o<|zr<|zm 3 o<|yl 4 f1 mX o o o tr o<|zm 2 o<|aw (R':=Res.dfiles PP dI u M.2.1) 5 o cp<|iE h λhc h=>pk [2,0,0,0,1,0] o<|qv (P:=PP) (I:=dI) dW o o o Tryz.underlying121 hc ?_
    exact za<|ai (dn .str V ([],[],[]) M.2.1) (.pointer (some ⟨b1,0,none⟩)) h o o
   exact zk<|zt<|pk [1,0] o<|ai M.2.1 g7 h o o
  refine jK h (γ:=Value) (λG g21=>[(2,ti c),(3,ts f),(9,tp g21)]) (λG g21=>[Res.dat PP dI u G V g21,Res.var C 123 DT (cy W.2 u W.2.2.2.2.2.2.2 ())]) (λc8 h=>?_) λG g21 h=>?_
  ·refine zu<|q 5 [(2,ti c),(3,ts f),(9,tp g18),(11,ti J),(13,ti (wrap .i64 (c+(List.length f:Int))))] [] o ?_
   obtain⟨b3,e,h⟩:=al h;rw[e]
   refine zz<|zA o<|rI h o (λhc h=>?_) λhc h=>?_
   ·refine cB h λa4 b4 h=>iB dW b4 λb5 c9 d0 d1 hq=>?_
    rw[hq]
    clear hq
    refine zr<|zm 4 o<|yl 0 f0 tx0 o o o tr o<|zm 3 o<|iE h λhc h=>tD ag zf5 1 o o o hc.1 o el5 Tryz.underlying3 hc.2 o λd2=>?_
    refine zm 2 o<|st 0 f0 tx0 o o o o tr<|za<|ia (P:=PP) (I:=dI) dW ?_
    exact ai (cm .str V ((a4.1++List.replicate (Int.toNat (wrap .i64 (b3 - J))) 0),a4.2.1,a4.2.2) O) (.pointer (some ⟨b5,0,none⟩)) h o o
   exact zk<|zt<|ai O g18 h o o
  refine zs<|cB h λf22 b6 h=>iB dW b6 λH N d m hq=>?_
  rw[hq]
  clear hq
  refine zr<|zm 3 o<|yl 0 f0 tx0 o o o tr o<|zm 1 o ?_
  obtain⟨Z,h⟩:=cj h
  refine y (kb ag (i:=c) (j:=(List.length f22.1:Int)) o (eM 1 o) o o Z.1 Z.2.1 Z.2.2 o ty5) o ?_
  refine q 1 [(2,ti c),(3,ts f),(9,ptr H 0),(119,.one W62 (ij (T.size (.int .u8)) N (Int.toNat c) (Int.toNat (List.length f22.1:Int)))),(120,ts f)] [] o<|wn ag 1 (i:=(Int.toNat c)) o o o (by have:=Z.2.1;omega) o ty5 o λd3=>?_
  refine za<|bv h (λw=>[]) (λw=>[Res.var H 237 FT (N,d,m,()),Res.own N 5 (.int .u8) (bq f22.1 (Int.toNat c) f),Res.own d 5 (.int .u8) f22.2.1,Res.dirty PP dI m w,Res.dhole PP dI u G V (.pointer (some ⟨H,0,none⟩)),Res.var C 123 DT (cy W.2 u W.2.2.2.2.2.2.2 ())]) (λb7 h=>?_) λw h=>?_
  ·refine zu<|p 3 [2,3,9,14] o ?_
   obtain⟨b8,e,h⟩:=al h;rw[e]
   refine za<|zb<|ah [2,3,9,14] o<|bg (γ:=Unit) (λ(R:Int×List Int) _=>[(2,ti c),(3,ts f),(9,ptr H 0),(14,ti R.1)]) (λ(R:Int×List Int) _=>[Res.var H 237 FT (N,d,m,()),Res.own N 5 (.int .u8) (bq f22.1 (Int.toNat c) f),Res.own d 5 (.int .u8) f22.2.1,Res.dirty PP dI m R.2,Res.dhole PP dI u G V (.pointer (some ⟨H,0,none⟩)),Res.var C 123 DT (cy W.2 u W.2.2.2.2.2.2.2 ())]) (cF c f b7) (b8,f22.2.2) () h o o ?_
   clear h
   intro a6 R gg h
   cases a6 with
   |zero=>cases h
   |succ a6=>
   simp only[cF]at h
   refine zs<|zu<|q 7 [(14,ti R.1),(130,tb (decide ((wrap .i64 (R.1*64))<(wrap .i64 (c+(List.length f:Int))))))] [2,3,9] o ?_
   obtain⟨a7,e,h⟩:=al h;rw[e]
   refine p 1 [2,3,9,14,131] o<|aM 3 [(2,ti c),(3,ts f),(9,ptr H 0),(14,ti R.1),(134,tb (a7&&(f !=[])))] [Res.var H 237 FT (N,d,m,()),Res.own N 5 (.int .u8) (bq f22.1 (Int.toNat c) f),Res.own d 5 (.int .u8) f22.2.1,Res.dirty PP dI m R.2,Res.dhole PP dI u G V (.pointer (some ⟨H,0,none⟩)),Res.var C 123 DT (cy W.2 u W.2.2.2.2.2.2.2 ())] (?_) ?_
   ·clear h
    cases a7
    ·exact zA o<|ap () o o
    exact zA o<|ap () o o
   refine za<|rI h o (λhc h=>?_) λhc h=>?_
   ·refine zk<|zt<|zs<|zb<|zr<|zm 3 o<|yl 0 f2 qA o o o tr o<|zm 1 o<|nj 3 o λd4 a8=>?_
    refine y (xZ 3 o o o tU Tryz.underlying235 zf3 o) o ?_
    refine zm 1 o<|iE h λhc h=>my 3 o o o o tU Tryz.underlying235 (by rw[←a8,List.length_map]at hc;exact hc) ?_
    refine jg (P:=PP) (I:=dI) (keys:=nB R.1 R.2) 3 o (by rw[tE,a8]) ?_
    refine zn<|zi<|zt<|zr<|q 3 [(2,ti c),(3,ts f),(9,ptr H 0),(14,ti (wrap .i64 (R.1+1)))] [] o ?_
    obtain⟨c0,e,h⟩:=al h;rw[e]
    exact za<|aX (c0,(nB R.1 R.2)) () (Nat.lt_succ_self _) h o o
   exact zx<|ze<|ze<|zq<|zt<|ai R.2 () h o o
  refine zU 1 o<|zf<|ia (P:=PP) (I:=dI) dW ?_
  refine aw (R':=Res.dfiles PP dI u (cm .str V ((bq f22.1 (Int.toNat c) f),f22.2.1,w) G)) 0 o cp<|pk [1,0] o<|ct (P:=PP) (I:=dI) (D:=(kg W.2 (cm .str V ((bq f22.1 (Int.toNat c) f),f22.2.1,w) G))) ?_
  cases h
  exact bc o (.tmp o) (.cons_cons _ .slnil)
 refine zA o<|ah [0,1,2,3,9,10,11,65,73,76] o<|zF 1 [12] kr o o ?_
 refine br (i:=1) (j:=13) kr o o ?_ ?_
 ·refine pk [1,0] o<|cB h λc5 a9 h=>gp (Lo:=[]) (mr C u V g7 M _ a9) kr (List.Perm.refl _) o o λ_=>?_
  refine zL [0,1,2,3,9,10,11,66,73,77] o<|zF 1 [9] kr o o<|af 13 kr o<|yl 0 f0 ty3 o o o tr o<|zL [0,1,2,3,9,10,11,74,78] o<|zF 2 [14,15] kr o o<|aN kr<|zt<|rI h o (λhc h=>zU 1 o<|zf<|zB<|zT<|aw (R':=Res.dfiles PP dI u M.2.1) 1 o cp<|ct (P:=PP) (I:=dI) (D:=M)<|by cases h;exact aS o (.tmp o) (λ_ _ g=>g) (λ_ _ _=>(.cons_cons _ .slnil))) λhc h=>zk<|zi<|zt<|zs<|zU 1 o ?_
  refine cB h λW b0 h=>gp (Lo:=[Res.dat PP dI u M.2.1 V g7]) (jc C u M 1 _ b0) kr (List.Perm.refl _) o o λ_=>?_
  refine zm 1 o<|zz<|zA o<|rI h o (λhc h=>zU 2 o<|zf<|zT<|aw (R':=Res.dfiles PP dI u M.2.1) 1 o cp<|ct (P:=PP) (I:=dI) (D:=(kg W.2 M.2.1))<|by cases h;exact aS o (.tmp o) (λ_ _ g=>g) (λ_ _ _=>(.cons_cons _ .slnil))) λhc h=>zk<|zt<|jK h (γ:=Value) (λO g18=>[(2,ti c),(3,ts f),(9,tp g18),(11,ti J)]) (λO g18=>[Res.dat PP dI u O V g18,Res.var C 123 DT (cy W.2 u W.2.2.2.2.2.2.2 ())]) (λc6 h=>?_) λO g18 h=>?_
  ·refine zW o<|rI h o (λhc h=>?_) λhc h=>?_
   ·refine zu<|o1 3 (.int .i64) (.int .i64) o λc7=>?_
    refine jg (P:=PP) (I:=dI) (keys:=[]) 0 o o ?_
    refine y (aY o BE o o (.cons f2 o o (ab (ab (aq aa))) .nil)) o ?_
    refine bA o o λb1=>bT (.slice none 0 0) o 5 (.int .u8) ?_
    refine bT (.slice none 0 0) o 5 (.int .u8) ?_
    refine zA o<|zr<|zm 3 o<|yl 4 f1 mX o o o tr o<|zm 2 o<|aw (R':=Res.dfiles PP dI u M.2.1) 5 o cp<|iE h λhc h=>pk [2,0,0,0,1,0] o<|qv (P:=PP) (I:=dI) dW o o o Tryz.underlying121 hc ?_
    exact za<|ai (dn .str V ([],[],[]) M.2.1) (.pointer (some ⟨b1,0,none⟩)) h o o
   exact zk<|zt<|pk [1,0] o<|ai M.2.1 g7 h o o
  refine jK h (γ:=Value) (λG g21=>[(2,ti c),(3,ts f),(9,tp g21)]) (λG g21=>[Res.dat PP dI u G V g21,Res.var C 123 DT (cy W.2 u W.2.2.2.2.2.2.2 ())]) (λc8 h=>?_) λG g21 h=>?_
  ·refine zu<|q 5 [(2,ti c),(3,ts f),(9,tp g18),(11,ti J),(13,ti (wrap .i64 (c+(List.length f:Int))))] [] o ?_
   obtain⟨b3,e,h⟩:=al h;rw[e]
   refine zz<|zA o<|rI h o (λhc h=>?_) λhc h=>?_
   ·refine cB h λa4 b4 h=>iB dW b4 λb5 c9 d0 d1 hq=>?_
    rw[hq]
    clear hq
    refine zr<|zm 4 o<|yl 0 f0 tx0 o o o tr o<|zm 3 o<|iE h λhc h=>tD ag zf5 1 o o o hc.1 o el5 Tryz.underlying3 hc.2 o λd2=>?_
    refine zm 2 o<|st 0 f0 tx0 o o o o tr<|za<|ia (P:=PP) (I:=dI) dW ?_
    exact ai (cm .str V ((a4.1++List.replicate (Int.toNat (wrap .i64 (b3 - J))) 0),a4.2.1,a4.2.2) O) (.pointer (some ⟨b5,0,none⟩)) h o o
   exact zk<|zt<|ai O g18 h o o
  refine zs<|cB h λf22 b6 h=>iB dW b6 λH N d m hq=>?_
  rw[hq]
  clear hq
  refine zr<|zm 3 o<|yl 0 f0 tx0 o o o tr o<|zm 1 o ?_
  obtain⟨Z,h⟩:=cj h
  refine y (kb ag (i:=c) (j:=(List.length f22.1:Int)) o (eM 1 o) o o Z.1 Z.2.1 Z.2.2 o ty5) o ?_
  refine q 1 [(2,ti c),(3,ts f),(9,ptr H 0),(119,.one W62 (ij (T.size (.int .u8)) N (Int.toNat c) (Int.toNat (List.length f22.1:Int)))),(120,ts f)] [] o<|wn ag 1 (i:=(Int.toNat c)) o o o (by have:=Z.2.1;omega) o ty5 o λd3=>?_
  refine za<|bv h (λw=>[]) (λw=>[Res.var H 237 FT (N,d,m,()),Res.own N 5 (.int .u8) (bq f22.1 (Int.toNat c) f),Res.own d 5 (.int .u8) f22.2.1,Res.dirty PP dI m w,Res.dhole PP dI u G V (.pointer (some ⟨H,0,none⟩)),Res.var C 123 DT (cy W.2 u W.2.2.2.2.2.2.2 ())]) (λb7 h=>?_) λw h=>?_
  ·refine zu<|p 3 [2,3,9,14] o ?_
   obtain⟨b8,e,h⟩:=al h;rw[e]
   refine za<|zb<|ah [2,3,9,14] o<|bg (γ:=Unit) (λ(R:Int×List Int) _=>[(2,ti c),(3,ts f),(9,ptr H 0),(14,ti R.1)]) (λ(R:Int×List Int) _=>[Res.var H 237 FT (N,d,m,()),Res.own N 5 (.int .u8) (bq f22.1 (Int.toNat c) f),Res.own d 5 (.int .u8) f22.2.1,Res.dirty PP dI m R.2,Res.dhole PP dI u G V (.pointer (some ⟨H,0,none⟩)),Res.var C 123 DT (cy W.2 u W.2.2.2.2.2.2.2 ())]) (cF c f b7) (b8,f22.2.2) () h o o ?_
   clear h
   intro a6 R gg h
   cases a6 with
   |zero=>cases h
   |succ a6=>
   simp only[cF]at h
   refine zs<|zu<|q 7 [(14,ti R.1),(130,tb (decide ((wrap .i64 (R.1*64))<(wrap .i64 (c+(List.length f:Int))))))] [2,3,9] o ?_
   obtain⟨a7,e,h⟩:=al h;rw[e]
   refine p 1 [2,3,9,14,131] o<|aM 3 [(2,ti c),(3,ts f),(9,ptr H 0),(14,ti R.1),(134,tb (a7&&(f !=[])))] [Res.var H 237 FT (N,d,m,()),Res.own N 5 (.int .u8) (bq f22.1 (Int.toNat c) f),Res.own d 5 (.int .u8) f22.2.1,Res.dirty PP dI m R.2,Res.dhole PP dI u G V (.pointer (some ⟨H,0,none⟩)),Res.var C 123 DT (cy W.2 u W.2.2.2.2.2.2.2 ())] (?_) ?_
   ·clear h
    cases a7
    ·exact zA o<|ap () o o
    exact zA o<|ap () o o
   refine za<|rI h o (λhc h=>?_) λhc h=>?_
   ·refine zk<|zt<|zs<|zb<|zr<|zm 3 o<|yl 0 f2 qA o o o tr o<|zm 1 o<|nj 3 o λd4 a8=>?_
    refine y (xZ 3 o o o tU Tryz.underlying235 zf3 o) o ?_
    refine zm 1 o<|iE h λhc h=>my 3 o o o o tU Tryz.underlying235 (by rw[←a8,List.length_map]at hc;exact hc) ?_
    refine jg (P:=PP) (I:=dI) (keys:=nB R.1 R.2) 3 o (by rw[tE,a8]) ?_
    refine zn<|zi<|zt<|zr<|q 3 [(2,ti c),(3,ts f),(9,ptr H 0),(14,ti (wrap .i64 (R.1+1)))] [] o ?_
    obtain⟨c0,e,h⟩:=al h;rw[e]
    exact za<|aX (c0,(nB R.1 R.2)) () (Nat.lt_succ_self _) h o o
   exact zx<|ze<|ze<|zq<|zt<|ai R.2 () h o o
  refine zU 1 o<|zf<|ia (P:=PP) (I:=dI) dW ?_
  refine aw (R':=Res.dfiles PP dI u (cm .str V ((bq f22.1 (Int.toNat c) f),f22.2.1,w) G)) 0 o cp<|pk [1,0] o<|ct (P:=PP) (I:=dI) (D:=(kg W.2 (cm .str V ((bq f22.1 (Int.toNat c) f),f22.2.1,w) G))) ?_
  cases h
  exact bc o (.tmp o) (.cons_cons _ .slnil)
 refine yl 1 f0 ty3 o o o tr o<|zL [0,1,2,3,9,10,11,65,73,78] o<|af 1 kr o<|pk [1,0] o<|cB h λc5 a9 h=>gp (Lo:=[]) (mr C u V g7 M _ a9) kr (List.Perm.refl _) o o λ_=>?_
 refine zL [0,1,2,3,9,10,11,66,73,78] o<|zF 3 [9,14,15] kr o o<|aN kr<|zt<|rI h o (λhc h=>zU 1 o<|zf<|zB<|zT<|aw (R':=Res.dfiles PP dI u M.2.1) 1 o cp<|ct (P:=PP) (I:=dI) (D:=M)<|by cases h;exact aS o (.tmp o) (λ_ _ g=>g) (λ_ _ _=>(.cons_cons _ .slnil))) λhc h=>zk<|zi<|zt<|zs<|zU 1 o<|cB h λW b0 h=>gp (Lo:=[Res.dat PP dI u M.2.1 V g7]) (jc C u M 1 _ b0) kr (List.Perm.refl _) o o λ_=>?_
 refine zm 1 o<|zz<|zA o<|rI h o (λhc h=>zU 2 o<|zf<|zT<|aw (R':=Res.dfiles PP dI u M.2.1) 1 o cp<|ct (P:=PP) (I:=dI) (D:=(kg W.2 M.2.1))<|by cases h;exact aS o (.tmp o) (λ_ _ g=>g) (λ_ _ _=>(.cons_cons _ .slnil))) λhc h=>zk<|zt<|jK h (γ:=Value) (λO g18=>[(2,ti c),(3,ts f),(9,tp g18),(11,ti J)]) (λO g18=>[Res.dat PP dI u O V g18,Res.var C 123 DT (cy W.2 u W.2.2.2.2.2.2.2 ())]) (λc6 h=>?_) λO g18 h=>?_
 ·refine zW o<|rI h o (λhc h=>?_) λhc h=>?_
  ·refine zu<|o1 3 (.int .i64) (.int .i64) o λc7=>?_
   refine jg (P:=PP) (I:=dI) (keys:=[]) 0 o o ?_
   refine y (aY o BE o o (.cons f2 o o (ab (ab (aq aa))) .nil)) o ?_
   refine bA o o λb1=>bT (.slice none 0 0) o 5 (.int .u8) ?_
   refine bT (.slice none 0 0) o 5 (.int .u8) ?_
   refine zA o<|zr<|zm 3 o<|yl 4 f1 mX o o o tr o<|zm 2 o<|aw (R':=Res.dfiles PP dI u M.2.1) 5 o cp<|iE h λhc h=>pk [2,0,0,0,1,0] o<|qv (P:=PP) (I:=dI) dW o o o Tryz.underlying121 hc ?_
   exact za<|ai (dn .str V ([],[],[]) M.2.1) (.pointer (some ⟨b1,0,none⟩)) h o o
  exact zk<|zt<|pk [1,0] o<|ai M.2.1 g7 h o o
 refine jK h (γ:=Value) (λG g21=>[(2,ti c),(3,ts f),(9,tp g21)]) (λG g21=>[Res.dat PP dI u G V g21,Res.var C 123 DT (cy W.2 u W.2.2.2.2.2.2.2 ())]) (λc8 h=>?_) λG g21 h=>?_
 ·refine zu<|q 5 [(2,ti c),(3,ts f),(9,tp g18),(11,ti J),(13,ti (wrap .i64 (c+(List.length f:Int))))] [] o ?_
  obtain⟨b3,e,h⟩:=al h;rw[e]
  refine zz<|zA o<|rI h o (λhc h=>?_) λhc h=>?_
  ·refine cB h λa4 b4 h=>iB dW b4 λb5 c9 d0 d1 hq=>?_
   rw[hq]
   clear hq
   refine zr<|zm 4 o<|yl 0 f0 tx0 o o o tr o<|zm 3 o<|iE h λhc h=>tD ag zf5 1 o o o hc.1 o el5 Tryz.underlying3 hc.2 o λd2=>?_
   refine zm 2 o<|st 0 f0 tx0 o o o o tr<|za<|ia (P:=PP) (I:=dI) dW ?_
   exact ai (cm .str V ((a4.1++List.replicate (Int.toNat (wrap .i64 (b3 - J))) 0),a4.2.1,a4.2.2) O) (.pointer (some ⟨b5,0,none⟩)) h o o
  exact zk<|zt<|ai O g18 h o o
 refine zs<|cB h λf22 b6 h=>iB dW b6 λH N d m hq=>?_
 rw[hq]
 clear hq
 refine zr<|zm 3 o<|yl 0 f0 tx0 o o o tr o<|zm 1 o ?_
 obtain⟨Z,h⟩:=cj h
 refine y (kb ag (i:=c) (j:=(List.length f22.1:Int)) o (eM 1 o) o o Z.1 Z.2.1 Z.2.2 o ty5) o ?_
 refine q 1 [(2,ti c),(3,ts f),(9,ptr H 0),(119,.one W62 (ij (T.size (.int .u8)) N (Int.toNat c) (Int.toNat (List.length f22.1:Int)))),(120,ts f)] [] o<|wn ag 1 (i:=(Int.toNat c)) o o o (by have:=Z.2.1;omega) o ty5 o λd3=>?_
 refine za<|bv h (λw=>[]) (λw=>[Res.var H 237 FT (N,d,m,()),Res.own N 5 (.int .u8) (bq f22.1 (Int.toNat c) f),Res.own d 5 (.int .u8) f22.2.1,Res.dirty PP dI m w,Res.dhole PP dI u G V (.pointer (some ⟨H,0,none⟩)),Res.var C 123 DT (cy W.2 u W.2.2.2.2.2.2.2 ())]) (λb7 h=>?_) λw h=>?_
 ·refine zu<|p 3 [2,3,9,14] o ?_
  obtain⟨b8,e,h⟩:=al h;rw[e]
  refine za<|zb<|ah [2,3,9,14] o<|bg (γ:=Unit) (λ(R:Int×List Int) _=>[(2,ti c),(3,ts f),(9,ptr H 0),(14,ti R.1)]) (λ(R:Int×List Int) _=>[Res.var H 237 FT (N,d,m,()),Res.own N 5 (.int .u8) (bq f22.1 (Int.toNat c) f),Res.own d 5 (.int .u8) f22.2.1,Res.dirty PP dI m R.2,Res.dhole PP dI u G V (.pointer (some ⟨H,0,none⟩)),Res.var C 123 DT (cy W.2 u W.2.2.2.2.2.2.2 ())]) (cF c f b7) (b8,f22.2.2) () h o o ?_
  clear h
  intro a6 R gg h
  cases a6 with
  |zero=>cases h
  |succ a6=>
  simp only[cF]at h
  refine zs<|zu<|q 7 [(14,ti R.1),(130,tb (decide ((wrap .i64 (R.1*64))<(wrap .i64 (c+(List.length f:Int))))))] [2,3,9] o ?_
  obtain⟨a7,e,h⟩:=al h;rw[e]
  refine p 1 [2,3,9,14,131] o<|aM 3 [(2,ti c),(3,ts f),(9,ptr H 0),(14,ti R.1),(134,tb (a7&&(f !=[])))] [Res.var H 237 FT (N,d,m,()),Res.own N 5 (.int .u8) (bq f22.1 (Int.toNat c) f),Res.own d 5 (.int .u8) f22.2.1,Res.dirty PP dI m R.2,Res.dhole PP dI u G V (.pointer (some ⟨H,0,none⟩)),Res.var C 123 DT (cy W.2 u W.2.2.2.2.2.2.2 ())] (?_) ?_
  ·clear h
   cases a7
   ·exact zA o<|ap () o o
   exact zA o<|ap () o o
  refine za<|rI h o (λhc h=>?_) λhc h=>?_
  ·refine zk<|zt<|zs<|zb<|zr<|zm 3 o<|yl 0 f2 qA o o o tr o<|zm 1 o<|nj 3 o λd4 a8=>?_
   refine y (xZ 3 o o o tU Tryz.underlying235 zf3 o) o ?_
   refine zm 1 o<|iE h λhc h=>my 3 o o o o tU Tryz.underlying235 (by rw[←a8,List.length_map]at hc;exact hc) ?_
   refine jg (P:=PP) (I:=dI) (keys:=nB R.1 R.2) 3 o (by rw[tE,a8]) ?_
   refine zn<|zi<|zt<|zr<|q 3 [(2,ti c),(3,ts f),(9,ptr H 0),(14,ti (wrap .i64 (R.1+1)))] [] o ?_
   obtain⟨c0,e,h⟩:=al h;rw[e]
   exact za<|aX (c0,(nB R.1 R.2)) () (Nat.lt_succ_self _) h o o
  exact zx<|ze<|ze<|zq<|zt<|ai R.2 () h o o
 refine zU 1 o<|zf<|ia (P:=PP) (I:=dI) dW ?_
 refine aw (R':=Res.dfiles PP dI u (cm .str V ((bq f22.1 (Int.toNat c) f),f22.2.1,w) G)) 0 o cp<|pk [1,0] o<|ct (P:=PP) (I:=dI) (D:=(kg W.2 (cm .str V ((bq f22.1 (Int.toNat c) f),f22.2.1,w) G))) ?_
 cases h
 exact bc o (.tmp o) (.cons_cons _ .slnil)
theorem n3(V:Value)(c f M r)(h:kJ c f M=some r):Fn PP 136 [tp V,ts f,ts M] [Res.disk PP dI V c] (λ_=>ti r.1) (λ_=>[Res.disk PP dI V r.2]):=by
 unfold kJ at h
 refine enter Tryz.func136 o 32 o o λF=>?_
 refine gT λR u hp=>?_
 subst hp
 refine zU 1 o<|zZ 2 o<|cB h λN W h=>gp (Lo:=[]) (gj R u c f _ W) kr (List.Perm.refl _) o o λC=>?_
 refine zA o<|zs<|zW o<|rI h o (λhc h=>zU 2 o<|zf<|zT<|aw (R':=Res.dfiles PP dI u c.2.1) 1 o fp<|ct (P:=PP) (I:=dI) (D:=c)<|by cases h;exact aS o (.tmp o) (λ_ _ g=>g) (λ_ _ _=>(.cons_cons _ .slnil))) λhc h=>zk<|zt<|zs<|zU 1 o<|cB h λJ H h=>ar (rS _ _ H) kr o o<|zA o<|rI h o (λhc h=>zU 1 o<|zf<|zT<|aw (R':=Res.dfiles PP dI u c.2.1) 1 o fp<|ct (P:=PP) (I:=dI) (D:=c)<|by cases h;exact aS o (.tmp o) (λ_ _ g=>g) (λ_ _ _=>(.cons_cons _ .slnil))) λhc h=>?_
 refine zy<|zm 3 o<|yl 0 f1 mX o o o tr o<|zm 1 o<|iE h λhc h=>aw (R':=Res.dat PP dI u c.2.1 f (au C 0)) 1 o (nC hc)<|cB h λf6 G h=>pk [1,0] o<|iB dW G λd m O w hq=>?_
 rw[hq]
 clear hq
 refine pk [4,0,0,0,0,0] o<|wm dW o o Tryz.underlying121 o ?_
 refine zZ 3 o<|yl 5 f1 mX o o o tr o<|zm 2 o<|iE h λhc h=>pk [1,1,1,1,0,0] o<|qv (P:=PP) (I:=dI) dW o o o Tryz.underlying121 hc ?_
 refine zz<|zE o<|aw (R':=Res.dfiles PP dI u (dn .str M (f6.1,f6.2.1,f6.2.2) (cn .str f c.2.1))) 0 o cp<|nL o<|pk [1,0] o<|ct (P:=PP) (I:=dI) (D:=(kg c (dn .str M (f6.1,f6.2.1,f6.2.2) (cn .str f c.2.1)))) ?_
 cases h
 exact bc o (.tmp o) (.cons_cons _ .slnil)
theorem zh(u:Value)(R M r)(h:tR R M=some r):Fn PP 121 [tp u,ts M] [Res.disk PP dI u R] (λv=> .tup [⟨.raw (.pointer none),au v 0⟩,⟨(.int .i64),r.2.1⟩]) (λv=>[Res.disk PP dI u r.2.2,Res.clsif (eK u) (au v 0) r.1.2 r.1.1]):=by
 unfold tR at h
 refine enter Tryz.func121 o 49 o o λF=>?_
 refine zW o<|zs<|zU 2 o<|iE h λhc h=>y (jN o o hc) o ?_
 refine cB h λV C h=>rc [0] (aK _ _ _ _ C) kr o o o λ_=>zm 1 o<|zz<|q 3 [(0,tp u),(1,ts M),(6,ti V.1),(16,tb (V.1 !=0))] [] o ?_
 obtain⟨W,e,h⟩:=al h;rw[e]
 refine aM 3 [(0,tp u),(1,ts M),(6,ti V.1),(19,tb (W&&(V.1 !=5)))] [Res.disk PP dI u V.2] (?_) ?_
 ·clear h
  cases W
  ·exact zA o<|ap () o o
  exact zA o<|ap () o o
 refine za<|rI h o (λhc h=>?_) λhc h=>?_
 ·refine zU 3 o<|zf<|zT<|eN (K:=(eK u)) (x:=((),[],0,0,())) (e:=1) (by decide) ?_
  cases h
  exact pk [1,0] o<|aE (rs:=[.tmp 4,.tmp 5]) o (.cons (.tmp o) (.cons (.tmp o) (.nil))) o (λ_ vs g=>by cases g with|cons c g=>cases g with|cons f g=>cases g;exact⟨_,o,.cons (bf c) (.cons f (.nil))⟩) (λ_ vs g=>by cases g with|cons c g=>cases g with|cons f g=>cases g;rw[bP c];exact List.Sublist.refl _)
 refine zk<|zt<|zs<|zU 2 o<|iE h λhc h=>y (jN o o hc) o ?_
 refine cB h λO H h=>ar (tX _ _ H) kr o o<|cB h λw G h=>ar (mp _ _ _ G) kr o o<|cB h λZ N h=>rc [0] (lQ _ _ _ _ _ _ N) kr o o o λ_=>zm 1 o<|zz<|zA o<|rI h o (λhc h=>?_) λhc h=>?_
 ·refine zU 3 o<|zf<|zT<|eN (K:=(eK u)) (x:=((),[],0,0,())) (e:=1) (by decide) ?_
  cases h
  exact pk [1,0] o<|aE (rs:=[.tmp 4,.tmp 5]) o (.cons (.tmp o) (.cons (.tmp o) (.nil))) o (λ_ vs g=>by cases g with|cons c g=>cases g with|cons f g=>cases g;exact⟨_,o,.cons (bf c) (.cons f (.nil))⟩) (λ_ vs g=>by cases g with|cons c g=>cases g with|cons f g=>cases g;rw[bP c];exact List.Sublist.refl _)
 refine zk<|zt<|zs<|zU 2 o<|iE h λhc h=>y (jN o o hc) o ?_
 refine cB h λr6 J h=>rc [0] (dD _ _ _ _ J) kr o o o λ_=>zm 1 o<|zz<|zA o<|rI h o (λhc h=>?_) λhc h=>?_
 ·refine zU 3 o<|zf<|zT<|eN (K:=(eK u)) (x:=((),[],0,0,())) (e:=1) (by decide) ?_
  cases h
  exact pk [1,0] o<|aE (rs:=[.tmp 4,.tmp 5]) o (.cons (.tmp o) (.cons (.tmp o) (.nil))) o (λ_ vs g=>by cases g with|cons c g=>cases g with|cons f g=>cases g;exact⟨_,o,.cons (bf c) (.cons f (.nil))⟩) (λ_ vs g=>by cases g with|cons c g=>cases g with|cons f g=>cases g;rw[bP c];exact List.Sublist.refl _)
 refine zk<|zt<|zs<|zU 2 o<|iE h λhc h=>y (jN o o hc) o ?_
 refine zm 1 o<|cB h λr7 d h=>rc [0] (n3 _ _ _ _ _ d) kr o o o λ_=>zm 1 o<|zz<|zA o<|rI h o (λhc h=>?_) λhc h=>?_
 ·refine zU 3 o<|zf<|zT<|eN (K:=(eK u)) (x:=((),[],0,0,())) (e:=1) (by decide) ?_
  cases h
  exact pk [1,0] o<|aE (rs:=[.tmp 4,.tmp 5]) o (.cons (.tmp o) (.cons (.tmp o) (.nil))) o (λ_ vs g=>by cases g with|cons c g=>cases g with|cons f g=>cases g;exact⟨_,o,.cons (bf c) (.cons f (.nil))⟩) (λ_ vs g=>by cases g with|cons c g=>cases g with|cons f g=>cases g;rw[bP c];exact List.Sublist.refl _)
 refine zy<|zm 2 o<|y (aY o EB o o (.cons f0 o o (aq aa) (.cons f1 o o (ab (aq aa)) (.cons f2 o o (ab (ab (aq aa))) (.cons f3 o o (ab (ab (ab (aq aa)))) .nil))))) o ?_
 refine bA o o λm=>zE o<|uv (x:=((),M,(-1),1,())) (q:=u) ?_
 refine aw (R':=Res.clsif (eK u) (.pointer (some ⟨m,0,none⟩)) ((),M,(-1),1,()) 0) 0 o (cT o) ?_
 cases h
 exact pk [1,0] o<|aE (rs:=[.tmp 4,.tmp 5]) o (.cons (.tmp o) (.cons (.tmp o) (.nil))) o (λ_ vs g=>by cases g with|cons c g=>cases g with|cons f g=>cases g;exact⟨_,o,.cons (bf c) (.cons f (.nil))⟩) (λ_ vs g=>by cases g with|cons c g=>cases g with|cons f g=>cases g;rw[bP c];exact List.Sublist.refl _)
theorem xo(c r)(h:sL c=some r):bm PP 169 [ti c] (tb r):=by
 unfold sL at h
 refine enter Tryz.func169 o 9 o o λF=>?_
 refine zU 1 o<|zz<|q 3 [(0,ti c),(5,tb (decide (c≥(-1))))] [] o ?_
 obtain⟨f,e,h⟩:=al h;rw[e]
 refine aM 3 [(8,tb (f&&(decide (c≤281474976710655))))] [] (?_) ?_
 ·clear h
  cases f
  ·exact zA o<|ap () o o
  exact zA o<|ap () o o
 refine zE o ?_
 cases h
 exact ax o (.tmp o)
theorem zj(c f r)(h:tS c f=some r):bm PP 123 [ts c,ti f] (.one W56 r):=by
 unfold tS at h
 refine enter Tryz.func123 o 25 o o λF=>?_
 refine zu<|aC (t:=W56) o EA o λM=>zZ 3 o<|iE h λhc h=>y (jB (i:=(wrap .i64 (64*f))) (j:=(List.length c:Int)) ag o o o hc.1 hc.2.1 hc.2.2 o) o ?_
 refine iE h λhc h=>y (jB (i:=(0:Int)) (j:=12) ag o o o hc.1 hc.2.1 hc.2.2 o) o ?_
 refine q 1 [(0,ts (List.drop 0 (List.take 12 (List.drop (Int.toNat (wrap .i64 (64*f))) (List.take (Int.toNat (List.length c:Int)) c))))),(4,ptr M 0)] [] o ?_
 obtain⟨V,e,h⟩:=al h;rw[e]
 refine zZ 1 o<|cB h λm C h=>rc [] (hY _ _ C) kr o o o λO=>eP λH hp=>?_
 subst hp
 refine cB h λu G h=>rc [0] (bJ _ _ _ G) kr o o o λ_=>zm 1 o<|zZ 2 o<|cB h λR N h=>ar (xo _ _ N) kr o o<|q 1 [(0,ts V),(5,ti u.1),(14,ti u.1),(17,tb R)] [4] o<|bQ h 6 (λW=>[(4,ptr M 0),(14,ti u.1),(23,tb W)]) (λ_=>[Res.var H 171 W57 u.2,Res.var M 204 W56 (0,false,())]) (λw h=>?_) λW h=>?_
 ·cases R
  ·replace h:=ifF h
   exact zN o<|zt<|ai false () h o o
  replace h:=ifT h
  refine zm 1 o<|am dl o ?_
  refine cB h λJ d h=>ar (tX _ _ d) kr o o<|am dl o ?_
  refine iE h λhc h=>y (jB (i:=(0:Int)) (j:=12) ag o o o hc.1 hc.2.1 hc.2.2 o) o ?_
  exact zN o<|zt<|ai ((List.drop 0 (List.take 12 J))==V) () h o o
 refine y (aY o EA o o (.cons f0 o o aa (.cons f1 o o aa .nil))) o ?_
 refine st 1 .here mY o o o o tr<|zf ?_
 cases h
 exact aS o (.cell 1 .here o o o aa mY) (λ_ _ g=>g) (λ_ _ _=>List.nil_sublist _)
theorem zl(c:Value)(H M r)(h:nq H M=some r):Fn PP 67 [tp c,ts M] [Res.disk PP dI c H] (λv=> .tup [⟨.raw (.pointer none),au v 0⟩,⟨(.int .i64),r.2.1⟩]) (λv=>[Res.disk PP dI c r.2.2,Res.clsif (eK c) (au v 0) r.1.2 r.1.1]):=by
 unfold nq at h
 refine enter Tryz.func67 o 108 o o λF=>?_
 refine zU 2 o<|zZ 2 o<|cB h λr1 w h=>rc [0] (jW _ _ _ _ w) kr o o o λ_=>zA o<|zs<|zb<|zW o<|rI h o (λhc h=>zU 2 o<|cB h λr2 Z h=>rc [0] (zh _ _ _ _ Z) kr o o o λv3=>zE o<|zB<|zT<|by cases h;exact pk [0,0] o<|aE (rs:=[.tmp 4,.tmp 5]) o (.cons (.tmp o) (.cons (.tmp o) (.nil))) o (λ_ vs g=>by cases g with|cons f g=>cases g with|cons u g=>cases g;exact⟨_,o,.cons (bf f) (.cons u (.nil))⟩) (λ_ vs g=>by cases g with|cons f g=>cases g with|cons u g=>cases g;rw[bP f];exact List.Sublist.refl _)) λhc h=>zW o<|rI h o (λhc h=>?_) λhc h=>?_
 ·refine zU 3 o<|zf<|zB<|zT<|eN (K:=(eK c)) (x:=((),[],0,0,())) (e:=1) (by decide) ?_
  cases h
  exact pk [1,0] o<|aE (rs:=[.tmp 4,.tmp 5]) o (.cons (.tmp o) (.cons (.tmp o) (.nil))) o (λ_ vs g=>by cases g with|cons f g=>cases g with|cons u g=>cases g;exact⟨_,o,.cons (bf f) (.cons u (.nil))⟩) (λ_ vs g=>by cases g with|cons f g=>cases g with|cons u g=>cases g;rw[bP f];exact List.Sublist.refl _)
 refine zW o<|rI h o (λhc h=>?_) λhc h=>?_
 ·refine zU 2 o<|zf<|zB<|zT<|eN (K:=(eK c)) (x:=((),[],0,0,())) (e:=1) (by decide) ?_
  cases h
  exact pk [1,0] o<|aE (rs:=[.tmp 4,.tmp 5]) o (.cons (.tmp o) (.cons (.tmp o) (.nil))) o (λ_ vs g=>by cases g with|cons f g=>cases g with|cons u g=>cases g;exact⟨_,o,.cons (bf f) (.cons u (.nil))⟩) (λ_ vs g=>by cases g with|cons f g=>cases g with|cons u g=>cases g;rw[bP f];exact List.Sublist.refl _)
 refine zk<|zi<|zt<|zU 2 o<|cB h λJ a2 h=>rc [0] (iN _ _ _ _ _ _ a2) kr o o o λ_=>zA o<|zs<|zW o<|rI h o (λhc h=>?_) λhc h=>?_
 ·refine zU 3 o<|zf<|zT<|eN (K:=(eK c)) (x:=((),[],0,0,())) (e:=1) (by decide) ?_
  cases h
  exact pk [1,0] o<|aE (rs:=[.tmp 4,.tmp 5]) o (.cons (.tmp o) (.cons (.tmp o) (.nil))) o (λ_ vs g=>by cases g with|cons f g=>cases g with|cons u g=>cases g;exact⟨_,o,.cons (bf f) (.cons u (.nil))⟩) (λ_ vs g=>by cases g with|cons f g=>cases g with|cons u g=>cases g;rw[bP f];exact List.Sublist.refl _)
 refine zy<|aC (t:=Y205) o Ha o λR=>za<|bv h (λV=>[(0,tp c),(1,ts M),(9,ptr R 0)]) (λV=>[Res.var R 205 Y205 V,Res.disk PP dI c H]) (λk6 h=>?_) λV h=>?_
 ·refine zW o<|zb<|ah [0,1,8,9,43] o<|bg (γ:=Unit) (λ(C:Int×(List cb)) _=>[(0,tp c),(1,ts M),(8,ts J.1),(9,ptr R 0),(43,ti C.1)]) (λ(C:Int×(List cb)) _=>[Res.var R 205 Y205 C.2,Res.disk PP dI c H]) (nS J k6) (0,(List.replicate 2 ((0,false,()):cb))) () h o o ?_
  clear h
  intro d C gg h
  cases d with
  |zero=>cases h
  |succ d=>
  simp only[nS]at h
  refine zW o<|zs<|rI h o (λhc h=>?_) λhc h=>?_
  ·refine zk<|zt<|zs<|zb<|zW o<|zr<|zm 3 o<|cB h λa3 a4 h=>ar (zj _ _ _ a4) kr o o<|iE h λhc h=>y (bY o o hc.1 hc.2 pK mY) o ?_
   exact kV 0 (.elem (Int.toNat C.1) .here) o o o pof (av pix aa) mY<|zn<|zi<|zt<|zr<|zA o<|aX ((wrap .i64 (C.1+1)),(List.set C.2 (Int.toNat C.1) a3)) () (Nat.lt_succ_self _) h o o
  exact zx<|ze<|ze<|zq<|zt<|ai C.2 () h o o
 refine zU 2 o<|y (aY o EB o o (.cons f0 o o (aq aa) (.cons f1 o o (ab (aq aa)) (.cons f3 o o (ab (ab (ab (aq aa)))) .nil)))) o ?_
 refine bA o o λW=>q 1 [(0,tp c),(1,ts M),(9,ptr R 0),(11,ptr W 0)] [] o<|za<|bv h (λG=>[(0,tp c),(1,ts M),(11,ptr W 0)]) (λG=>[Res.var W 208 W44 (fB G c),Res.var R 205 Y205 V,Res.disk PP dI c H]) (λk9 h=>?_) λG h=>?_
 ·refine zb<|zu<|iE h λhc h=>y (bY o o hc.1 hc.2 pK mY) o ?_
  refine zm 1 o<|y (aL 1 (.elem 0 f1) o o pof (av pix (ab (aq aa))) ty4) o ?_
  refine q 2 [(67,tb (!((List.getD V 0 (0,false,())).2.1)))] [0,1,9,11] o ?_
  obtain⟨a5,e,h⟩:=al h;rw[e]
  refine bQ h 5 (λm=>[(0,tp c),(1,ts M),(9,ptr R 0),(11,ptr W 0),(72,tb m)]) (λ_=>[Res.var W 208 W44 (c,M,0,1,()),Res.var R 205 Y205 V,Res.disk PP dI c H]) (λa9 h=>?_) λm h=>?_
  ·cases a5
   ·replace h:=ifF h
    exact zN o<|zt<|ai false () h o o
   replace h:=ifT h
   refine am dl o ?_
   refine iE h λhc h=>y (bY o o hc.1 hc.2 pK mY) o ?_
   refine zm 1 o<|am dl o ?_
   refine y (aL 1 (.elem 1 f1) o o pof (av pix (ab (aq aa))) ty4) o ?_
   exact zN o<|zt<|ai (!((List.getD V 1 (0,false,())).2.1)) () h o o
  refine zA o<|rI h o (λhc h=>?_) λhc h=>?_
  ·refine zU 2 o<|zf<|zB<|zT<|eN (K:=(eK c)) (x:=((),[],0,0,())) (e:=1) (by decide) ?_
   cases h
   exact pk [0,2] o<|pk [1,0] o<|aE (rs:=[.tmp 4,.tmp 5]) o (.cons (.tmp o) (.cons (.tmp o) (.nil))) o (λ_ vs g=>by cases g with|cons f g=>cases g with|cons u g=>cases g;exact⟨_,o,.cons (bf f) (.cons u (.nil))⟩) (λ_ vs g=>by cases g with|cons f g=>cases g with|cons u g=>cases g;rw[bP f];exact List.Sublist.refl _)
  refine zu<|iE h λhc h=>y (bY o o hc.1 hc.2 pK mY) o ?_
  refine zm 1 o<|y (aL 1 (.elem 1 f1) o o pof (av pix (ab (aq aa))) ty4) o ?_
  refine q 1 [(0,tp c),(1,ts M),(9,ptr R 0),(11,ptr W 0),(77,tb ((List.getD V 1 (0,false,())).2.1))] [] o ?_
  obtain⟨a6,e,h⟩:=al h;rw[e]
  refine bQ h 14 (λO=>[(0,tp c),(1,ts M),(9,ptr R 0),(11,ptr W 0),(91,tb O)]) (λ_=>[Res.var W 208 W44 (c,M,0,1,()),Res.var R 205 Y205 V,Res.disk PP dI c H]) (λb0 h=>?_) λO h=>?_
  ·rcases Bool.eq_false_or_eq_true a6 with hh|hh
   ·rw[hh]at h⊢
    rw[if_pos o]at h
    refine am dl o ?_
    refine iE h λhc h=>y (bY o o hc.1 hc.2 pK mY) o ?_
    refine zm 1 o<|am dl o ?_
    refine y (aL 1 (.elem 0 f1) o o pof (av pix (ab (aq aa))) ty4) o ?_
    refine q 2 [(77,tb true),(82,tb (!((List.getD V 0 (0,false,())).2.1)))] [0,1,9,11] o ?_
    obtain⟨a7,e,h⟩:=al h;rw[e]
    refine bQ h 8 (λN=>[(0,tp c),(1,ts M),(9,ptr R 0),(11,ptr W 0),(77,tb true),(90,tb N)]) (λ_=>[Res.var W 208 W44 (c,M,0,1,()),Res.var R 205 Y205 V,Res.disk PP dI c H]) (λb1 h=>?_) λN h=>?_
    ·cases a7
     ·replace h:=ifF h
      refine am dl o ?_
      refine iE h λhc h=>y (bY o o hc.1 hc.2 pK mY) o ?_
      refine zm 1 o<|am dl o ?_
      refine y (aL 1 (.elem 0 f0) o o pof (av pix (aq aa)) ty2) o ?_
      refine am dl o ?_
      refine iE h λhc h=>y (bY o o hc.1 hc.2 pK mY) o ?_
      refine zm 1 o<|am dl o ?_
      refine y (aL 1 (.elem 1 f0) o o pof (av pix (aq aa)) ty2) o ?_
      exact zN o<|zt<|ai (decide (((List.getD V 0 (0,false,())).1)<((List.getD V 1 (0,false,())).1))) () h o o
     replace h:=ifT h
     exact zN o<|zt<|ai true () h o o
    exact zN o<|zt<|ai N () h o o
   rw[hh]at h⊢
   rw[if_neg (by decide)]at h
   exact zN o<|zt<|ai false () h o o
  refine zA o<|rI h o (λhc h=>?_) λhc h=>?_
  ·refine zr<|zm 2 o<|iE h λhc h=>y (bY o o hc.1 hc.2 pK mY) o ?_
   refine zm 1 o<|y (aL 1 (.elem 1 f0) o o pof (av pix (aq aa)) ty2) o ?_
   exact zm 2 o<|st 0 f2 ty2 o o o o tr<|zm 2 o<|st 0 f3 ty3 o o o o tr<|nL o<|zn<|zi<|zt<|ai ((),M,(List.getD V 1 (0,false,())).1,0,()) () h o o
  refine zr<|zm 1 o<|iE h λhc h=>y (bY o o hc.1 hc.2 pK mY) o ?_
  refine zm 1 o<|y (aL 1 (.elem 0 f0) o o pof (av pix (aq aa)) ty2) o ?_
  exact zm 2 o<|st 0 f2 ty2 o o o o tr<|zn<|zi<|zt<|ai ((),M,(List.getD V 0 (0,false,())).1,1,()) () h o o
 refine zs<|zU 2 o<|cB h λb2 a8 h=>rc [2] (dD _ _ _ _ a8) kr o o o λ_=>zm 1 o<|zz<|zA o<|rI h o (λhc h=>?_) λhc h=>?_
 ·refine zU 3 o<|zf<|zT<|eN (K:=(eK c)) (x:=((),[],0,0,())) (e:=1) (by decide) ?_
  cases h
  exact pk [0,0] o<|pk [1,0] o<|aE (rs:=[.tmp 4,.tmp 5]) o (.cons (.tmp o) (.cons (.tmp o) (.nil))) o (λ_ vs g=>by cases g with|cons f g=>cases g with|cons u g=>cases g;exact⟨_,o,.cons (bf f) (.cons u (.nil))⟩) (λ_ vs g=>by cases g with|cons f g=>cases g with|cons u g=>cases g;rw[bP f];exact List.Sublist.refl _)
 refine zy<|zE o<|pk [1,0,0] o<|uv (x:=G) (q:=c) ?_
 refine aw (R':=Res.clsif (eK c) (.pointer (some ⟨W,0,none⟩)) G 0) 0 o (cT o) ?_
 cases h
 exact pk [0,0] o<|pk [1,0] o<|aE (rs:=[.tmp 4,.tmp 5]) o (.cons (.tmp o) (.cons (.tmp o) (.nil))) o (λ_ vs g=>by cases g with|cons f g=>cases g with|cons u g=>cases g;exact⟨_,o,.cons (bf f) (.cons u (.nil))⟩) (λ_ vs g=>by cases g with|cons f g=>cases g with|cons u g=>cases g;rw[bP f];exact List.Sublist.refl _)
theorem pq(f:Value)(G H r)(h:kK G H=some r):FnT PP bD 14 [tp f,.one Y40 H] [Res.disk PP dI f G] (λv=> .tup [⟨.raw (.pointer none),au v 0⟩,⟨(.int .i64),r.2.1⟩]) (λv=>[Res.disk PP dI f r.2.2,Res.clsif (aZ f) (au v 0) r.1.2 r.1.1]):=by
 unfold kK at h
 refine ik Tryz.func14 o 75 o o λF hT=>?_
 refine zu<|bA o o λN=>zm 2 o<|zz<|yl 0 .here BD o o o tr o<|cB h λJ a3 h=>ar (wA _ _ a3) kr o o<|zm 3 o<|aC (t:=Y30) o fO o λd=>st 0 .here bE o o o o tr<|zA o<|zs<|zW o<|rI h o (λhc h=>?_) λhc h=>?_
 ·refine zU 3 o<|zf<|zT<|eN (K:=(aZ f)) (x:=((),(1,((),[],0,[],0,false,())),(1,((),[],0,0,())),(0,0,0,0,[],[],0,0,0,(0,0,()),(0,0,()),(0,0,()),false,(List.replicate 2 ((List.replicate 32 (0:Int)):List (Int))),(List.replicate 32 (0:Int)),[],0,0,()),())) (e:=1) (by decide) ?_
  cases h
  exact pk [0,2] o<|pk [1,0] o<|aE (rs:=[.tmp 4,.tmp 5]) o (.cons (.tmp o) (.cons (.tmp o) (.nil))) o (λ_ vs g=>by cases g with|cons c g=>cases g with|cons u g=>cases g;exact⟨_,o,.cons (bf c) (.cons u (.nil))⟩) (λ_ vs g=>by cases g with|cons c g=>cases g with|cons u g=>cases g;rw[bP c];exact List.Sublist.refl _)
 refine zy<|zm 1 o<|yl 0 .here bE o o o tr o<|cB h λr6 a4 h=>rc [2] (wB _ _ _ _ a4) kr o o o λ_=>zm 4 o<|aC (t:=Y30) o fO o λW=>zm 1 o<|st 0 .here bE o o o o tr<|zA o<|zs<|zW o<|rI h o (λhc h=>?_) λhc h=>?_
 ·refine zU 3 o<|zf<|zT<|eN (K:=(aZ f)) (x:=((),(1,((),[],0,[],0,false,())),(1,((),[],0,0,())),(0,0,0,0,[],[],0,0,0,(0,0,()),(0,0,()),(0,0,()),false,(List.replicate 2 ((List.replicate 32 (0:Int)):List (Int))),(List.replicate 32 (0:Int)),[],0,0,()),())) (e:=1) (by decide) ?_
  cases h
  exact pk [0,1] o<|pk [1,0] o<|aE (rs:=[.tmp 4,.tmp 5]) o (.cons (.tmp o) (.cons (.tmp o) (.nil))) o (λ_ vs g=>by cases g with|cons c g=>cases g with|cons u g=>cases g;exact⟨_,o,.cons (bf c) (.cons u (.nil))⟩) (λ_ vs g=>by cases g with|cons c g=>cases g with|cons u g=>cases g;rw[bP c];exact List.Sublist.refl _)
 refine zy<|zm 2 o<|yl 3 f7 ty3 o o o tr o<|zm 1 o<|cB h λM a5 h=>rcT hT [1] (z6 _ _ _ _ _ _ a5) kr o o o λR=>zA o<|zs<|zW o<|rI h o (λhc h=>?_) λhc h=>?_
 ·refine zU 3 o<|zf<|zT<|eN (K:=(aZ f)) (x:=((),(1,((),[],0,[],0,false,())),(1,((),[],0,0,())),(0,0,0,0,[],[],0,0,0,(0,0,()),(0,0,()),(0,0,()),false,(List.replicate 2 ((List.replicate 32 (0:Int)):List (Int))),(List.replicate 32 (0:Int)),[],0,0,()),())) (e:=1) (by decide) ?_
  cases h
  exact pk [0,0] o<|pk [1,0] o<|aE (rs:=[.tmp 4,.tmp 5]) o (.cons (.tmp o) (.cons (.tmp o) (.nil))) o (λ_ vs g=>by cases g with|cons c g=>cases g with|cons u g=>cases g;exact⟨_,o,.cons (bf c) (.cons u (.nil))⟩) (λ_ vs g=>by cases g with|cons c g=>cases g with|cons u g=>cases g;rw[bP c];exact List.Sublist.refl _)
 refine zk<|zt<|jK h (γ:=Value) (λC g12=>[(0,tp f),(9,ptr W 0),(10,tp (au R 0))]) (λC g12=>[Res.disk PP dI f M.2.2.2,Res.clsif (cd f) (au R 0) M.1.2 M.1.1,Res.own g12 9 .str M.2.1,Res.var W 30 Y30 C,Res.var d 30 Y30 J.1,Res.var N 40 Y40 H]) (λa6 h=>?_) λC g12 h=>?_
 ·refine zU 1 o<|y (bW ag 2 o o o) o ?_
  refine zA o<|zb<|ah [0,9,10,45,46,47] o<|bg (γ:=Value) (λ(V:Int×Z29) g21=>[(0,tp f),(9,ptr W 0),(10,tp (au R 0)),(45,.one W62 g21),(46,ti (List.length M.2.1:Int)),(47,ti V.1)]) (λ(V:Int×Z29) g21=>[Res.disk PP dI f M.2.2.2,Res.clsif (cd f) (au R 0) M.1.2 M.1.1,Res.own g21 9 .str M.2.1,Res.var W 30 Y30 V.2,Res.var d 30 Y30 J.1,Res.var N 40 Y40 H]) (kR M a6) (0,r6.2.1) (au R 1) h o o ?_
  clear h
  intro m V g21 h
  cases m with
  |zero=>cases h
  |succ m=>
  simp only[kR]at h
  refine zW o<|zs<|rI h o (λhc h=>?_) λhc h=>?_
  ·refine zk<|zt<|zs<|zb<|zu<|iE h λhc h=>ce 2 o (by omega) λO w Z hv=>?_
   rw[hv]
   try clear hv
   refine y (cx ag o o hc.1 (by first|exact hc.2|simpa using hc.2) o ty9) o ?_
   refine y (dE 2 (Int.toNat V.1) .here o o (by omega) pof aa ty9) o ?_
   refine q 1 [(0,tp f),(9,ptr W 0),(10,tp (au R 0)),(13,ts (List.getD M.2.1 (Int.toNat V.1) [])),(45,.one W62 (.slice (some ⟨O,w,none⟩) (List.length M.2.1) Z)),(46,ti (List.length M.2.1:Int)),(47,ti V.1)] [] o ?_
   obtain⟨b1,e,h⟩:=al h;rw[e]
   refine zz<|yl 3 .here bE o o o tr o<|zm 1 o<|cB h λa7 a8 h=>rcT hT [] (wG _ _ _ a8) kr o o o λ_=>zm 3 o<|st 3 .here bE o o o o tr<|zm 1 o<|zz<|zA o<|rI h o (λhc h=>?_) λhc h=>?_
   ·refine zU 3 o<|zf<|zB<|zT<|zT<|zB<|zT<|eN (K:=(aZ f)) (x:=((),(1,((),[],0,[],0,false,())),(1,((),[],0,0,())),(0,0,0,0,[],[],0,0,0,(0,0,()),(0,0,()),(0,0,()),false,(List.replicate 2 ((List.replicate 32 (0:Int)):List (Int))),(List.replicate 32 (0:Int)),[],0,0,()),())) (e:=1) (by decide) ?_
    cases h
    exact pk [0,0] o<|pk [1,0] o<|aE (rs:=[.tmp 4,.tmp 5]) o (.cons (.tmp o) (.cons (.tmp o) (.nil))) o (λ_ vs g=>by cases g with|cons c g=>cases g with|cons u g=>cases g;exact⟨_,o,.cons (bf c) (.cons u (.nil))⟩) (λ_ vs g=>by cases g with|cons c g=>cases g with|cons u g=>cases g;rw[bP c];exact List.Sublist.refl _)
   exact zk<|zi<|zt<|zr<|zA o<|aX ((wrap .i64 (V.1+1)),a7.1) (.slice (some ⟨O,w,none⟩) (List.length M.2.1) Z) (Nat.lt_succ_self _) h o o
  exact zx<|ze<|ze<|zq<|zt<|ai V.2 g21 h o o
 refine zU 1 o<|cB h λa2 a9 h=>rc [0] (zl _ _ _ _ a9) kr o o o λb2=>zA o<|zs<|zW o<|rI h o (λhc h=>?_) λhc h=>?_
 ·refine zU 3 o<|zf<|zT<|eN (K:=(aZ f)) (x:=((),(1,((),[],0,[],0,false,())),(1,((),[],0,0,())),(0,0,0,0,[],[],0,0,0,(0,0,()),(0,0,()),(0,0,()),false,(List.replicate 2 ((List.replicate 32 (0:Int)):List (Int))),(List.replicate 32 (0:Int)),[],0,0,()),())) (e:=1) (by decide) ?_
  cases h
  exact pk [0,0] o<|pk [1,0] o<|aE (rs:=[.tmp 4,.tmp 5]) o (.cons (.tmp o) (.cons (.tmp o) (.nil))) o (λ_ vs g=>by cases g with|cons c g=>cases g with|cons u g=>cases g;exact⟨_,o,.cons (bf c) (.cons u (.nil))⟩) (λ_ vs g=>by cases g with|cons c g=>cases g with|cons u g=>cases g;rw[bP c];exact List.Sublist.refl _)
 refine zy<|zm 3 o<|yl 4 .here bE o o o tr o<|y (aY o G4 o o (.cons f0 o o (aq aa) (.cons f1 o o (ab (aq aa)) (.cons f2 o o (ab (ab (aq aa))) (.cons f3 o o (ab (ab (ab (aq aa)))) .nil))))) o ?_
 refine bA o o λb0=>zE o<|pk [0,2,1,0,0,0,0,0] o<|fo (x:=((),M.1,a2.1,C,())) (q:=f) ?_
 refine aw (R':=Res.clsif (aZ f) (.pointer (some ⟨b0,0,none⟩)) ((),M.1,a2.1,C,()) 0) 0 o (cT o) ?_
 cases h
 exact pk [0,0] o<|pk [1,0] o<|aE (rs:=[.tmp 4,.tmp 5]) o (.cons (.tmp o) (.cons (.tmp o) (.nil))) o (λ_ vs g=>by cases g with|cons c g=>cases g with|cons u g=>cases g;exact⟨_,o,.cons (bf c) (.cons u (.nil))⟩) (λ_ vs g=>by cases g with|cons c g=>cases g with|cons u g=>cases g;rw[bP c];exact List.Sublist.refl _)
theorem tY(u:Value)(c:Value)(f M r)(h:nT f M=some r):Fn PP 75 [tp u] [Res.cls (eK c) u f,Res.disk PP dI c M] (λ_=>ti r) (λ_=>[Res.cls (eK c) u f,Res.disk PP dI c M]):=by
 unfold nT at h
 refine enter Tryz.func75 o 7 o o λF=>?_
 refine C5 λV hp=>?_
 subst hp
 refine uv (x:=f) (q:=c) ?_
 refine zW o<|zs<|BK ?_
 refine zr<|zm 3 o<|yl 0 f2 ty2 o o o tr o<|zE o<|uv (x:=f) (q:=c) ?_
 cases h
 exact bc o (.tmp o) (.cons_cons _ (.cons_cons _ .slnil))
theorem tl(u:Value)(c:Value)(f M r)(h:m9 f M=some r):Fn PP 18 [tp u] [Res.cls (aZ c) u f,Res.disk PP dI c M] (λ_=>ti r) (λ_=>[Res.cls (aZ c) u f,Res.disk PP dI c M]):=by
 unfold m9 at h
 refine enter Tryz.func18 o 8 o o λF=>?_
 refine nV λC H G hp=>?_
 subst hp
 refine fo (x:=f) (q:=c) ?_
 refine zW o<|zs<|mK λN V=>?_
 refine zr<|zm 3 o<|yl 0 f2 G0 o o o tr o ?_
 obtain⟨R,h⟩:=cj h
 refine aw (R':=Res.cls (eK c) V f.2.2.1.2) 2 o (dM R)<|cB h λJ W h=>rc [2,2] (tY _ _ _ _ _ W) kr o o o λ_=>zE o<|aw (R':=Res.clsif (eK c) V f.2.2.1.2 f.2.2.1.1) 0 o (cT R)<|nL o<|pk [2,2,0,0] o<|fo (x:=f) (q:=c) ?_
 cases h
 exact bc o (.tmp o) (.cons_cons _ (.cons_cons _ .slnil))
theorem zo(c r)(h:pg c=some r):bm PP 68 [.one Y30 c] (.one Y30 r):=by
 unfold pg at h
 refine enter Tryz.func68 o 16 o o λF=>?_
 refine zu<|bA o o λV=>aC (t:=Y30) o fO o λm=>za<|zs<|pk [1,0] o<|nG (z:=(.slice none 0 0)) f4 o λf=>?_
 refine pk [1,0,0] o<|nG (z:=(.slice none 0 0)) f5 o λu=>?_
 refine pk [1,0,0,0] o<|nG (z:=(.slice none 0 0)) f15 o λM=>?_
 refine Bj (bC [aV V 30 W0 (gU c f u M)]) 2 #[false,false,false,false,false,false,false,false,false,false,true,true,true,true,true] #[true,true,true,true,true,true,true,true,true,true,false,false,false,false,false] 10 5 kr kr kr o ?_
 refine zH 1 [0] (ae (ak 1 o) aj) kr o o λs=>bl 1 (.one W62 f) s o kr (cq (S:=λw=>bC [aV V 30 W0 (gU c f u M)] w) (bn 0 o) 1 f4 o o o o (ab (ab (ab (ab (aq aa))))) tx1) λs=>zH 1 [3] s kr o o λs=>bl 4 (.one W62 u) s o kr (cq (S:=λw=>bC [aV V 30 W0 (gU c f u M)] w) (bn 0 o) 1 f5 o o o o (ab (ab (ab (ab (ab (aq aa)))))) tx1) λs=>zH 1 [6] s kr o o λs=>bl 7 (.one W62 M) s o kr (cq (S:=λw=>bC [aV V 30 W0 (gU c f u M)] w) (bn 0 o) 1 f15 o o o o (ab (ab (ab (ab (ab (ab (ab (ab (ab (ab (ab (ab (ab (ab (ab (aq aa)))))))))))))))) tx2) λs=>az 2 kr o<|nH 4 3 o o ?_
 refine cB h λC G h=>rc [] (co _ _ G) kr o o o λH=>za<|aR (ae (ak 2 o) aj) ?_
 refine ah [1,2,5,7,10] o<|zH 1 [9] (ae (ak 2 o) aj) kr o o λs=>az 5 kr o<|nH 7 3 o o ?_
 refine cB h λN J h=>rc [] (co _ _ J) kr o o o λW=>za<|aR (ae (ak 3 o) aj) ?_
 refine ah [1,2,5,8,10,12] o<|az 8 kr o<|nH 10 2 o o ?_
 refine cB h λO d h=>rc [] (fE _ _ d) kr o o o λR=>za<|aR (ae (ak 4 o) aj) ?_
 refine ah [1,2,5,8,11,12] o<|dF kr<|yD ?_
 refine af 10 kr o<|st 4 f4 tx1 o o o o tr<|pk [0,0,0,0,0,0,1] o<|zL [1,2,8,11] o<|zF 1 [11] kr o o<|af 12 kr o<|st 4 f5 tx1 o o o o tr<|nL o<|pk [0,0,0,0,0,1] o<|zL [1,2,11] o<|zF 1 [13] kr o o<|af 14 kr o<|st 4 f15 tx2 o o o o tr<|pk [0,0,0,1,1] o ?_
 refine zL [1,2] o<|aN kr<|zt<|zs<|pk [2,2,0,0,0] o<|ep (v:=H) (T0:=W0) (x0:=(gU c H W R)) (t:=Y52) f4 o o ?_
 refine pk [2,0,0,0] o<|ep (v:=W) (T0:=W2) (x0:=(gU c C W R)) (t:=Y52) f5 o o ?_
 refine pk [1,0,0] o<|ep (v:=R) (T0:=W4) (x0:=(gU c C N R)) (t:=Y56) f15 o o ?_
 refine zr<|yl 0 .here bE o o o tr o<|st 1 .here bE o o o o tr<|nL o<|zf ?_
 cases h
 exact aS o (.cell 1 .here o o o aa bE) (λ_ _ g=>g) (λ_ _ _=>List.nil_sublist _)
theorem cK(u:Value)(c:Value)(f M r)(h:cZ f M=some r):Fn PP 15 [tp u] [Res.cls (aZ c) u f,Res.disk PP dI c M] (λ_=> .one Y30 r) (λ_=>[Res.cls (aZ c) u f,Res.disk PP dI c M]):=by
 unfold cZ at h
 refine enter Tryz.func15 o 8 o o λF=>?_
 refine nV λR W C hp=>?_
 subst hp
 refine fo (x:=f) (q:=c) ?_
 refine zu<|aC (t:=Y30) o fO o λH=>za<|zs<|pk [1,0,0] o<|mK λG N=>?_
 refine zr<|zm 3 o<|yl 0 f3 bE o o o tr o<|cB h λJ V h=>ar (zo _ _ V) kr o o<|st 3 .here bE o o o o tr<|zf<|fo (x:=f) (q:=c) ?_
 cases h
 exact aS o (.cell 1 .here o o o aa bE) (λ_ _ g=>g) (λ_ _ _=>(.cons_cons _ (.cons _ (.cons_cons _ .slnil))))
theorem jG(c r)(h:iw c=some r):bm PP 60 [ti c] (.one Y54 r):=by
 unfold iw at h
 refine enter Tryz.func60 o 6 o o λF=>?_
 refine zu<|aC (t:=Y54) o kq o λf=>zZ 1 o<|y (aY o ja o o (.cons f0 o o aa (.cons f1 o o aa (.cons f2 o o aa .nil)))) o ?_
 refine y (aY o kq o o (.cons f0 o o aa (.cons f1 o o aa .nil))) o ?_
 refine st 0 .here eX o o o o tr<|zf ?_
 cases h
 exact aS o (.cell 0 .here o o o aa eX) (λ_ _ g=>g) (λ_ _ _=>List.nil_sublist _)
theorem th(c:Value)(f u r)(h:ma f u=some r):Fn PP 263 [tp c,.one Y52 u] [Res.cls aU c f] (λ_=> .tup []) (λ_=>[Res.cls aU c r]):=by
 unfold ma at h
 refine enter Tryz.func263 o 14 o o λF=>?_
 refine cw λR W hp=>?_
 subst hp
 refine bF (x:=f) ?_
 refine zu<|bA o o λC=>zz<|yl 0 .here bB o o o tr o<|cB h λH M h=>ar (qD _ _ M) kr o o<|zA o<|zr<|zm 2 o<|cB h λG V h=>rc [1] (jb _ _ _ _ V) kr o o o λ_=>zn ?_
 cases h
 exact et o (λ_=>aI [] .nil) ((.cons_cons _ (.cons _ .slnil)))
theorem sY(c:Value)(u f r)(h:mn u f=some r):Fn PP 261 [.one W72 u,tp c] [Res.cls aU c f] (λ_=> .tup []) (λ_=>[Res.cls aU c r]):=by
 unfold mn at h
 refine enter Tryz.func261 o 8 o o λF=>?_
 refine cw λV R hp=>?_
 subst hp
 refine bF (x:=f) ?_
 refine zu<|bA o o λW=>za<|zr<|zm 2 o<|yl 0 f0 bB o o o tr o<|cB h λC M h=>rc [1] (th _ _ _ _ M) kr o o o λ_=>zn ?_
 cases h
 exact et o (λ_=>aI [] .nil) ((.cons_cons _ (.cons _ .slnil)))
theorem q9(c:Value)(u f r)(h:ll u f=some r):Fn PP 277 [.one W58 u,tp c] [Res.cls aU c f] (λ_=> .tup []) (λ_=>[Res.cls aU c r]):=by
 unfold ll at h
 refine enter Tryz.func277 o 20 o o λF=>?_
 refine cw λW C hp=>?_
 subst hp
 refine bF (x:=f) ?_
 refine zu<|bA o o λH=>zZ 2 o<|yl 0 f0 ty2 o o o tr o<|cB h λG M h=>rc [1] (cC _ _ _ _ M) kr o o o λ_=>zZ 3 o<|yl 1 ((.snd (.fst f0))) ty3 o o o tr o<|zm 1 o<|cB h λN V h=>rc [0] (eG _ _ _ _ V) kr o o o λ_=>za<|zr<|zm 3 o ?_
 refine yl 1 ((.snd (.fst f1))) ty3 o o o tr o<|zm 1 o<|cB h λJ R h=>rc [0] (eG _ _ _ _ R) kr o o o λ_=>zn ?_
 cases h
 exact et o (λ_=>aI [] .nil) ((.cons_cons _ (.cons _ .slnil)))
theorem sZ(V:Value)(c R r)(h:iK c R=some r):Fn PP 283 [.one Y280 c,tp V] [Res.cls aU V R] (λ_=> .tup []) (λ_=>[Res.cls aU V r]):=by
 unfold iK at h
 refine enter Tryz.func283 o 31 o o λF=>?_
 refine cw λf w hp=>?_
 subst hp
 refine bF (x:=R) ?_
 refine zu<|bA o o λM=>zZ 2 o<|yl 0 f0 ty2 o o o tr o<|cB h λZ H h=>rc [1] (cC _ _ _ _ H) kr o o o λ_=>zZ 2 o<|yl 1 f1 iY o o o tr o<|q 2 [(1,ptr f 0),(2,ptr M 0),(10,ptr f 0),(14,.one (.int .u16) (wrap .u16 (List.length c.2.1:Int)))] [] o<|cB h λG N h=>rc [0] (eG _ _ _ _ N) kr o o o λ_=>za<|bv h (λW=>[(1,ptr f 0),(2,ptr M 0)]) (λW=>[Res.cls aU (.pointer (some ⟨f,0,none⟩)) W,Res.var M 280 Y280 c]) (λJ h=>?_) λW h=>?_
 ·refine zU 1 o<|yl 1 f1 iY o o o tr o<|zA o<|zb<|ah [1,2,17,18,19] o<|bg (γ:=Unit) (λ(u:Int×bi) _=>[(1,ptr f 0),(2,ptr M 0),(17,.one W76 c.2.1),(18,ti (List.length c.2.1:Int)),(19,ti u.1)]) (λ(u:Int×bi) _=>[Res.cls aU (.pointer (some ⟨f,0,none⟩)) u.2,Res.var M 280 Y280 c]) (eF c J) (0,G) () h o o ?_
  clear h
  intro C u gg h
  cases C with
  |zero=>cases h
  |succ C=>
  simp only[eF]at h
  refine zW o<|zs<|rI h o (λhc h=>?_) λhc h=>?_
  ·refine zk<|zt<|zs<|zb<|zu<|iE h λhc h=>y (eZ ag o o hc.1 hc.2 o bB) o ?_
   refine y (fP o bB) o ?_
   refine aC (t:=Y52) o ja o λa2=>st 0 .here bB o o o o tr<|za<|zr<|zm 1 o<|yl 0 .here bB o o o tr o<|cB h λd m h=>rc [1] (th _ _ _ _ m) kr o o o λ_=>zn<|zi<|zt<|zr<|zA o<|pk [0,1] o ?_
   exact aX ((wrap .i64 (u.1+1)),d) () (Nat.lt_succ_self _) h o o
  exact zx<|ze<|ze<|zq<|zt<|ai u.2 () h o o
 refine zr<|zm 2 o<|yl 1 f2 bH o o o tr o<|cB h λa3 O h=>rc [0] (eo _ _ _ _ O) kr o o o λ_=>zn ?_
 cases h
 exact et o (λ_=>aI [] .nil) ((.cons_cons _ (.cons _ .slnil)))
theorem qo(c:Value)(u f r)(h:kL u f=some r):Fn PP 288 [.one Y282 u,tp c] [Res.cls aU c f] (λ_=> .tup []) (λ_=>[Res.cls aU c r]):=by
 unfold kL at h
 refine enter Tryz.func288 o 16 o o λF=>?_
 refine cw λW C hp=>?_
 subst hp
 refine bF (x:=f) ?_
 refine zu<|bA o o λH=>zZ 2 o<|yl 0 f0 ty2 o o o tr o<|cB h λG M h=>rc [1] (cC _ _ _ _ M) kr o o o λ_=>zZ 2 o<|yl 1 f1 bH o o o tr o<|cB h λN V h=>rc [0] (eo _ _ _ _ V) kr o o o λ_=>za<|zr<|zm 2 o<|yl 1 f2 bH o o o tr o ?_
 refine cB h λJ R h=>rc [0] (eo _ _ _ _ R) kr o o o λ_=>zn ?_
 cases h
 exact et o (λ_=>aI [] .nil) ((.cons_cons _ (.cons _ .slnil)))
theorem rd(c:Value)(u f r)(h:lm u f=some r):Fn PP 299 [.one W61 u,tp c] [Res.cls aU c f] (λ_=> .tup []) (λ_=>[Res.cls aU c r]):=by
 unfold lm at h
 refine enter Tryz.func299 o 9 o o λF=>?_
 refine cw λV R hp=>?_
 subst hp
 refine bF (x:=f) ?_
 refine zu<|bA o o λW=>za<|zr<|zm 2 o<|yl 0 f0 ty3 o o o tr o<|zm 1 o<|cB h λC M h=>rc [1] (eG _ _ _ _ M) kr o o o λ_=>zn ?_
 cases h
 exact et o (λ_=>aI [] .nil) ((.cons_cons _ (.cons _ .slnil)))
theorem re(c:Value)(u f r)(h:lp u f=some r):Fn PP 303 [.one W61 u,tp c] [Res.cls aU c f] (λ_=> .tup []) (λ_=>[Res.cls aU c r]):=by
 unfold lp at h
 refine enter Tryz.func303 o 8 o o λF=>?_
 refine cw λV R hp=>?_
 subst hp
 refine bF (x:=f) ?_
 refine zu<|bA o o λW=>za<|zr<|zm 2 o<|yl 0 f0 ty2 o o o tr o<|cB h λC M h=>rc [1] (cC _ _ _ _ M) kr o o o λ_=>zn ?_
 cases h
 exact et o (λ_=>aI [] .nil) ((.cons_cons _ (.cons _ .slnil)))
theorem rf(c:Value)(u f r)(h:lq u f=some r):Inv PP "escrow/record.write" [.one Y212 u,.one W63 c] [Res.cls aU c f] (fun _=> .tup []) (fun _=>[Res.cls aU c r]):=match u,h with
 | .inl z,h=>(du (k:=261) kr (sY c z f r h))
 | .inr (.inl z),h=>(bw o (du (k:=277) kr (q9 c z f r h)))
 | .inr (.inr (.inl z)),h=>(bw o (bw o (du (k:=283) kr (sZ c z f r h))))
 | .inr (.inr (.inr (.inl z))),h=>(bw o (bw o (bw o (du (k:=288) kr (qo c z f r h)))))
 | .inr (.inr (.inr (.inr (.inl z)))),h=>(bw o (bw o (bw o (bw o (du (k:=299) kr (rd c z f r h))))))
 | .inr (.inr (.inr (.inr (.inr (.inl z))))),h=>(bw o (bw o (bw o (bw o (bw o (du (k:=303) kr (re c z f r h)))))))
 | .inr (.inr (.inr (.inr (.inr (.inr (_)))))),h=>by cases h
theorem wb(c r)(h:lO c=some r):bm PP 69 [.one Y54 c] (.tup [⟨.str,r.1⟩,⟨(.int .i64),r.2⟩]):=by
 unfold lO at h
 refine enter Tryz.func69 o 23 o o λF=>?_
 refine zu<|bA o o λG=>zm 2 o<|zz<|yl 0 .here eX o o o tr o<|cB h λf u h=>ar (mq _ _ u) kr o o<|zA o<|zs<|zU 1 o<|y (ug (.next (.next (.next (.next (.next (.next .here)))))) o o xF (jd f)) o ?_
 refine za<|rI h o (λhc h=>zU 2 o<|zf<|zT<|by cases h;exact aE (rs:=[.tmp 2,.tmp 3]) o (.cons (.tmp o) (.cons (.tmp o) (.nil))) o (λ_ vs g=>aI vs g) (λ_ _ _=>List.nil_sublist _)) λhc h=>zy<|cB h λN M h=>rc [] (m1 _ M) kr o o o λV=>zm 1 o<|zZ 2 o<|yl 1 f0 ty3 o o o tr o<|zm 1 o<|cB h λR W h=>rc [0] (fJ _ _ _ _ W) kr o o o λ_=>zZ 2 o<|cB h λJ C h=>ri [0] (rf V f R _ C) o o o λ_=>?_
 refine zZ 1 o<|cB h λd H h=>rc [0] (gC _ _ _ H) kr o o o λ_=>zE o ?_
 cases h
 exact aE (rs:=[.tmp 2,.tmp 3]) o (.cons (.tmp o) (.cons (.tmp o) (.nil))) o (λ_ vs g=>aI vs g) (λ_ _ _=>List.nil_sublist _)
theorem n2(c:Value)(f u r)(h:eu f u=some r):Fn PP 70 [tp c,ts u] [Res.cls (lH 139 5) c f] (λ_=> .tup [⟨.int .i64,r.1⟩,⟨.raw .nilIface,r.2.1⟩]) (λ_=>[Res.cls (lH 139 5) c r.2.2]):=by
 unfold eu at h
 obtain⟨⟨hne,hc⟩,h⟩:=cj h;cases h
 refine enter Tryz.func70 o 19 o o λF=>EW λb q sv hp hq ho=>?_
 subst hp
 repeat (first|refine zs ?_|refine zr ?_)
 refine p 2 [0,1] o<|za ?_
 repeat (first|refine zs ?_|refine zr ?_)
 refine p 1 [0,1,6] o<|rc [0] (GB Go.Proofs.Tryz.cc_used Go.Proofs.Tryz.cc_fresh hq) kr o o o λ_=>za ?_
 repeat (first|refine zs ?_|refine zr ?_)
 refine p 4 [0,1,8,11] o ?_
 refine y (aL 0 f1 o o o (ab (aq aa)) tx0) o ?_
 refine p 1 [0,1,8,12,13] o ?_
 refine wN (B:=1) ag 1 o o (Ae o) o el5 o o (by omega) o λV M=>?_
 refine p 2 [1,14,16] o ?_
 refine iS 0 f1 o o o o o o tx0 ?_
 refine za ?_
 repeat (first|refine zs ?_|refine zr ?_)
 refine p 4 [4,5] o<|zf<|GA (.inr o) (M ho) (by intro hx;exact hne (List.append_eq_nil_iff.1 hx).2) ?_
 exact aE (rs:=[.tmp 4,.tmp 5]) o (.cons (.tmp o) (.cons (.tmp o) .nil)) o (λ_ vs g=>aI vs g) (λ_ _ _=>(.cons_cons _ .slnil))
theorem rh(c:Value)(f r)(h:ld f=some r):Fn PP 72 [tp c] [Res.cls (lH 139 5) c f] (λ_=>ti r) (λ_=>[Res.cls (lH 139 5) c f]):=by
 obtain rfl:=Option.some.inj h
 refine enter Tryz.func72 o 8 o o λF=>DD λb q sv hp hf=>?_
 subst hp
 repeat (first|refine zs ?_|refine zr ?_)
 refine p 1 [0] o<|za ?_
 repeat (first|refine zs ?_|refine zr ?_)
 refine p 3 [5] o ?_
 refine y (aL 0 f1 o o o (ab (aq aa)) tx0) o ?_
 refine y (bW ag 1 o o o) o ?_
 refine p 1 [2] o<|zf<|FN hf ?_
 exact bc o (.tmp o) (.cons_cons _ .slnil)
theorem je(c:Value)(f:List Int):Fn PP 74 [tp c] [Res.cls (oM 139 5) c f] (λ_=>ts f) (λ_=>[Res.cls (oM 139 5) c f]):=FJ Go.Proofs.Tryz.bstr Go.Proofs.Tryz.bstr0
theorem vo(G:Value)(f:Value)(c C N r)(h:kS c C N=some r):Fn PP 129 [tp G,ti C] [Res.cls (cd f) G c,Res.disk PP dI f N] (λ_=> .tup [⟨Y195,r.1⟩,⟨.bool,r.2⟩]) (λ_=>[Res.cls (cd f) G c,Res.disk PP dI f N]):=by
 unfold kS at h
 refine enter Tryz.func129 o 45 o o λF=>?_
 refine na λR a3 hp=>?_
 subst hp
 refine bM (x:=c) (q:=f) ?_
 refine zu<|aC (t:=Y195) o pI o λW=>zA o<|zs<|zs<|pk [1,0,0] o<|fm λa4=>?_
 refine zr<|zm 3 o<|yl 0 f3 tx5 o o o tr o<|y (bW ag 1 o o o) o ?_
 refine zA o<|rI h o (λhc h=>?_) λhc h=>?_
 ·refine zu<|y (aY o pI o o .nil) o ?_
  refine st 2 .here dq o o o o tr<|zE o<|zT<|bM (x:=c) (q:=f) ?_
  cases h
  exact aE (rs:=[.cell 4 195,.tmp 5]) o (.cons (.cell 1 .here o o o aa dq) (.cons (.tmp o) (.nil))) o (λ_ vs g=>aI vs g) (λ_ _ _=>(.cons_cons _ (.cons _ (.cons_cons _ .slnil))))
 refine zk<|zt<|zs ?_
 obtain⟨d,h⟩:=cj h
 refine ce 1 o (by omega) λu M H hv=>?_
 rw[hv]
 try clear hv
 refine gE (S:=bC [jP u M 195 Y195 c.2.2.2.1,aV R 186 W37 (bI c f (.slice (some ⟨u,M,none⟩) (List.length c.2.2.2.1) H))]) kr ?_
 refine zH 3 [0,1,2] (ae (lG 1 o (by omega)) (ae (ak 0 o) aj)) kr o o λs=>bl 3 (.one W62 (.slice (some ⟨u,M,none⟩) (List.length c.2.2.2.1) H)) s o kr (cq (S:=λw=>bC [jP u M 195 Y195 c.2.2.2.1,aV R 186 W37 (bI c f (.slice (some ⟨u,M,none⟩) (List.length c.2.2.2.1) H))] w) (bn 1 o) 0 f3 o o o o (ab (ab (ab (aq aa)))) tx5) λs=>zH 3 [4,5,6] s kr o o λs=>bl 7 (.one W62 (.slice (some ⟨u,M,none⟩) (List.length c.2.2.2.1) H)) s o kr (cq (S:=λw=>bC [jP u M 195 Y195 c.2.2.2.1,aV R 186 W37 (bI c f (.slice (some ⟨u,M,none⟩) (List.length c.2.2.2.1) H))] w) (bn 1 o) 0 f3 o o o o (ab (ab (ab (aq aa)))) tx5) λs=>bl 8 (ti (List.length c.2.2.2.1:Int)) s o kr (bW (t:=Y195) ag 1 o o o) λs=>zH 1 [9] s kr o o λs=>bl 10 (ptr u (M+(Int.toNat (wrap .i64 ((List.length c.2.2.2.1:Int) - 1)))*3)) s o kr (cx ag o o d.1 d.2 o dq) λs=>bl 11 (.one Y195 (List.getD c.2.2.2.1 (Int.toNat (wrap .i64 ((List.length c.2.2.2.1:Int) - 1))) (0,0,0,()))) s o kr (tG (S:=λw=>bC [jP u M 195 Y195 c.2.2.2.1,aV R 186 W37 (bI c f (.slice (some ⟨u,M,none⟩) (List.length c.2.2.2.1) H))] w) (bn 0 o) 1 (Int.toNat (wrap .i64 ((List.length c.2.2.2.1:Int) - 1))) .here o o o (by omega) pof aa dq) λs=>az 12 kr o<|aC (t:=Y195) o pI o λV=>za<|aR (ae (lG 2 o (by omega)) (ae (ak 1 o) aj)) ?_
 refine ah [0,1,4,6,25] o<|az 13 kr o<|st 0 .here dq o o o o tr<|za<|aR (ae (lG 2 o (by omega)) (ae (ak 1 o) aj)) ?_
 refine ah [0,1,4,6] o<|dF kr<|zt<|zs<|zs<|eL kr kr ?_
 refine ay ag 1 [0,1,4,6,26] (E':=[(0,ptr R 0),(1,ti C),(4,ptr W 0),(6,ptr V 0),(26,ptr V 1)]) o ?_
 refine q_y (aL 0 f1 o o o (ab (aq aa)) ty3) o ?_
 refine ay ag 1 [0,1,4,6,28] (E':=[(0,ptr R 0),(1,ti C),(4,ptr W 0),(6,ptr V 0),(28,tb (decide (((List.getD c.2.2.2.1 (Int.toNat (wrap .i64 ((List.length c.2.2.2.1:Int) - 1))) (0,0,0,())).2.1)>0)))]) o ?_
 obtain⟨m,e,h⟩:=al h;rw[e]
 refine ay ag 1 [0,1,4,6,29] (E':=[(0,ptr R 0),(1,ti C),(4,ptr W 0),(6,ptr V 0),(29,tb m)]) o ?_
 refine bX h λZ a2 h=>?_
 refine wJ 10 (λ(O:Bool)=>[(4,ptr W 0),(6,ptr V 0),(39,tb O)]) Z r ?_ ?_
 ·cases m
  ·replace h:=ifF h
   refine ay ag 10 [4,6,39] (E':=[(4,ptr W 0),(6,ptr V 0),(39,tb false)]) o ?_
   refine fZ ?_
   exact t8 false [4,6,39] h o
  replace h:=ifT h
  refine ay ag 1 [0,1,4,6,29,30] (E':=[(0,ptr R 0),(1,ti C),(4,ptr W 0),(6,ptr V 0),(29,tb true),(30,ptr V 1)]) o ?_
  refine dH dl o ?_
  refine q_y (aL 0 f1 o o o (ab (aq aa)) ty3) o ?_
  refine ay ag 2 [0,4,6,29,33] (E':=[(0,ptr R 0),(4,ptr W 0),(6,ptr V 0),(29,tb true),(33,ti (wrap .i64 (((List.getD c.2.2.2.1 (Int.toNat (wrap .i64 ((List.length c.2.2.2.1:Int) - 1))) (0,0,0,())).2.1)+C)))]) o ?_
  obtain⟨J,e,h⟩:=al h;rw[e]
  refine ay ag 3 [4,6,29,33,36] (E':=[(4,ptr W 0),(6,ptr V 0),(29,tb true),(33,ti J),(36,ptr R 2)]) o ?_
  refine dH dl o ?_
  refine q_y (aL 1 f2 o o o (ab (ab (aq aa))) ty3) o ?_
  refine ay ag 2 [4,6,39] (E':=[(4,ptr W 0),(6,ptr V 0),(39,tb (decide (J>c.2.2.1)))]) o ?_
  refine fZ ?_
  exact t8 (decide (J>c.2.2.1)) [4,6,39] h o
 intro O h
 rw[←a2]at h
 try dsimp only at h
 refine fa ?_
 refine zt<|rI h o (λhc h=>?_) λhc h=>?_
 ·refine zU 1 o<|yl 0 f0 ty3 o o o tr o<|q 1 [(4,ptr W 0),(42,ti (wrap .i64 (((List.getD c.2.2.2.1 (Int.toNat (wrap .i64 ((List.length c.2.2.2.1:Int) - 1))) (0,0,0,())).1)+1)))] [] o ?_
  obtain⟨a5,e,h⟩:=al h;rw[e]
  refine y (aY o pI o o (.cons f0 o o aa .nil)) o ?_
  refine st 3 .here dq o o o o tr<|zE o<|zT<|pk [1,1,0,0,0] o<|bM (x:=c) (q:=f) ?_
  cases h
  exact aE (rs:=[.cell 4 195,.tmp 5]) o (.cons (.cell 2 .here o o o aa dq) (.cons (.tmp o) (.nil))) o (λ_ vs g=>aI vs g) (λ_ _ _=>(.cons_cons _ (.cons _ (.cons _ (.cons_cons _ .slnil)))))
 refine zy<|yl 0 .here dq o o o tr o<|st 3 .here dq o o o o tr<|zE o<|pk [1,1,0,0,0] o<|bM (x:=c) (q:=f) ?_
 cases h
 exact aE (rs:=[.cell 4 195,.tmp 5]) o (.cons (.cell 2 .here o o o aa dq) (.cons (.tmp o) (.nil))) o (λ_ vs g=>aI vs g) (λ_ _ _=>(.cons_cons _ (.cons _ (.cons _ (.cons_cons _ .slnil)))))
theorem wc(J:Value)(c:Value)(u R d m r)(h:lP u R d m=some r):FnT PP bD 131 [tp J,.one Y195 R,tb d] [Res.cls (cd c) J u,Res.disk PP dI c m] (λ_=>ti r.1) (λ_=>[Res.cls (cd c) J u,Res.disk PP dI c r.2]):=by
 unfold lP at h
 refine ik Tryz.func131 o 28 o o λF hT=>?_
 refine na λW a3 hp=>?_
 subst hp
 refine bM (x:=u) (q:=c) ?_
 refine zu<|bA o o λC=>zA o<|zs<|zW o<|rI h o (λhc h=>?_) λhc h=>?_
 ·refine bv h (λG=>[(6,ti G.1)]) (λG=>[Res.cls (cd c) (.pointer (some ⟨W,0,none⟩)) u,Res.disk PP dI c G.2,Res.var C 195 Y195 R]) (λk4 h=>?_) λG h=>?_
  ·refine pk [1,0,0] o<|fm λa4=>?_
   refine dS kr<|zF 3 [0,4,5] kr o o ?_
   refine br (i:=1) (j:=6) kr o o ?_ ?_
   ·refine zA o<|ah [9,12,13] o<|zF 1 [2] kr o o ?_
    refine br (i:=3) (j:=6) kr o o ?_ ?_
    ·refine yl 0 f0 dR o o o tr o<|zL [11,12,13] o<|af 6 kr o<|yl 2 f0 ty3 o o o tr o<|zL [11,12,14] o<|af 7 kr o<|cB h λH M h=>rcT hT [0] (aD _ _ _ _ _ _ M) kr o o o λ_=>zL [11,15] o<|af 8 kr o<|cB h λf V h=>rc [3] (aK _ _ _ _ V) kr o o o λ_=>zL [16] o<|zF 1 [9] kr o o ?_
     refine aN kr<|zt<|pk [1,1,0,0] o<|bM (x:=u) (q:=c) ?_
     exact ai (f.1,f.2) () h o o
    refine yl 2 f0 ty3 o o o tr o<|zL [10,12,14] o ?_
    refine br (i:=3) (j:=7) kr o o ?_ ?_
    ·refine yl 0 f0 dR o o o tr o<|zL [11,12,14] o<|af 7 kr o<|cB h λH M h=>rcT hT [0] (aD _ _ _ _ _ _ M) kr o o o λ_=>zL [11,15] o<|af 8 kr o<|cB h λf V h=>rc [3] (aK _ _ _ _ V) kr o o o λ_=>zL [16] o<|zF 1 [9] kr o o<|aN kr<|zt<|pk [1,1,0,0] o ?_
     refine bM (x:=u) (q:=c) ?_
     exact ai (f.1,f.2) () h o o
    refine cB h λH M h=>rcT hT [0] (aD _ _ _ _ _ _ M) kr o o o λ_=>zL [10,15] o<|af 3 kr o<|yl 0 f0 dR o o o tr o<|zL [11,15] o<|af 8 kr o<|cB h λf V h=>rc [3] (aK _ _ _ _ V) kr o o o λ_=>zL [16] o<|zF 1 [9] kr o o<|aN kr<|zt<|pk [1,1,0,0] o ?_
    refine bM (x:=u) (q:=c) ?_
    exact ai (f.1,f.2) () h o o
   refine yl 2 f0 ty3 o o o tr o<|zL [8,12,14] o ?_
   refine br (i:=1) (j:=7) kr o o ?_ ?_
   ·refine zA o<|ah [9,12,14] o<|zF 1 [2] kr o o ?_
    refine br (i:=3) (j:=7) kr o o ?_ ?_
    ·refine yl 0 f0 dR o o o tr o<|zL [11,12,14] o<|af 7 kr o<|cB h λH M h=>rcT hT [0] (aD _ _ _ _ _ _ M) kr o o o λ_=>zL [11,15] o<|af 8 kr o<|cB h λf V h=>rc [3] (aK _ _ _ _ V) kr o o o λ_=>zL [16] o<|zF 1 [9] kr o o<|aN kr<|zt<|pk [1,1,0,0] o ?_
     refine bM (x:=u) (q:=c) ?_
     exact ai (f.1,f.2) () h o o
    refine cB h λH M h=>rcT hT [0] (aD _ _ _ _ _ _ M) kr o o o λ_=>zL [10,15] o<|af 3 kr o<|yl 0 f0 dR o o o tr o<|zL [11,15] o<|af 8 kr o<|cB h λf V h=>rc [3] (aK _ _ _ _ V) kr o o o λ_=>zL [16] o<|zF 1 [9] kr o o<|aN kr<|zt<|pk [1,1,0,0] o ?_
    refine bM (x:=u) (q:=c) ?_
    exact ai (f.1,f.2) () h o o
   refine cB h λH M h=>rcT hT [0] (aD _ _ _ _ _ _ M) kr o o o λ_=>zL [8,15] o<|af 1 kr o<|zA o<|ah [9,15] o<|zF 1 [2] kr o o<|af 3 kr o<|yl 0 f0 dR o o o tr o<|zL [11,15] o<|af 8 kr o<|cB h λf V h=>rc [3] (aK _ _ _ _ V) kr o o o λ_=>zL [16] o ?_
   refine zF 1 [9] kr o o<|aN kr<|zt<|pk [1,1,0,0] o<|bM (x:=u) (q:=c) ?_
   exact ai (f.1,f.2) () h o o
  refine zR<|zT ?_
  cases h
  exact bc o (.tmp o) (.cons_cons _ (.cons_cons _ (.cons _ .slnil)))
 refine zk<|zt<|zs<|pk [1,0,0] o<|fm λN=>?_
 refine gE (S:=bC [aV W 186 W37 (bI u c N),aV C 195 Y195 R]) kr ?_
 refine zH 3 [0,1,2] (ae (ak 0 o) (ae (ak 2 o) aj)) kr o o λs=>bl 3 (tp c) s o kr (cq (S:=λw=>bC [aV W 186 W37 (bI u c N),aV C 195 Y195 R] w) (bn 0 o) 0 f0 o o o o (aq aa) dR) λs=>zH 2 [4,5] s kr o o λs=>bl 6 (ti R.1) s o kr (cq (S:=λw=>bC [aV W 186 W37 (bI u c N),aV C 195 Y195 R] w) (bn 1 o) 2 f0 o o o o (aq aa) ty3) λs=>zH 1 [8] s kr o o λs=>bl 9 (ti R.2.1) s o kr (cq (S:=λw=>bC [aV W 186 W37 (bI u c N),aV C 195 Y195 R] w) (bn 1 o) 2 f1 o o o o (ab (aq aa)) ty3) λs=>az 7 kr o<|cB h λa5 O h=>rcT hT [0] (aD _ _ _ _ _ _ O) kr o o o λ_=>za<|aR (ae (ak 0 o) (ae (ak 2 o) aj)) ?_
 refine ah [20,24,26] o<|az 10 kr o<|cB h λa6 Z h=>rc [3] (ns _ _ _ _ _ Z) kr o o o λ_=>za<|aR (ae (ak 1 o) (ae (ak 3 o) aj)) ?_
 refine ah [27] o<|zH 1 [11] (ae (ak 1 o) (ae (ak 3 o) aj)) kr o o λs=>dF kr<|zt<|zR<|pk [1,1,0,0] o<|bM (x:=u) (q:=c) ?_
 cases h
 exact bc o (.tmp o) (.cons_cons _ (.cons_cons _ (.cons _ .slnil)))
theorem mu(p0:Value)(u:Value)(c a1 a4 r)(h:kp c a1 a4=some r):FnT PP bD 73 [tp p0,ts a1] [Res.cls (cd u) p0 c,Res.disk PP dI u a4] (λ_=>ti r.1) (λ_=>[Res.cls (cd u) p0 r.2.1,Res.disk PP dI u r.2.2]):=by
 unfold kp at h
 refine ik Tryz.func73 o 133 o o λF hT=>?_
 refine na λM b3 hp=>?_
 subst hp
 refine bM (x:=c) (q:=u) ?_
 refine zW o<|zs<|zs<|fm λb4=>?_
 refine zr<|zm 3 o<|yl 0 f5 ty4 o o o tr o<|za<|rI h o (λhc h=>?_) λhc h=>?_
 ·refine zU 1 o<|zf<|zT<|bM (x:=c) (q:=u) ?_
  cases h
  exact bc o (.tmp o) (.cons_cons _ (.cons_cons _ .slnil))
 refine zk<|zt<|zs<|zW o<|rI h o (λhc h=>?_) λhc h=>?_
 ·refine zU 1 o<|zf<|zT<|bM (x:=c) (q:=u) ?_
  cases h
  exact bc o (.tmp o) (.cons_cons _ (.cons_cons _ .slnil))
 refine zk<|zt<|zs<|zU 3 o<|yl 0 f4 ty2 o o o tr o<|zA o<|rI h o (λhc h=>?_) λhc h=>?_
 ·refine zU 1 o<|zf<|zT<|bM (x:=c) (q:=u) ?_
  cases h
  exact bc o (.tmp o) (.cons_cons _ (.cons_cons _ .slnil))
 refine zy<|zm 3 o<|yl 0 f4 ty2 o o o tr o<|zm 1 o<|cB h λJ a6 h=>ar (rM _ _ _ a6) kr o o<|zA o<|zs<|zW o<|rI h o (λhc h=>?_) λhc h=>?_
 ·refine zU 2 o<|zf<|zT<|bM (x:=c) (q:=u) ?_
  cases h
  exact bc o (.tmp o) (.cons_cons _ (.cons_cons _ .slnil))
 refine zy<|zm 3 o<|bM (x:=c) (q:=u) ?_
 refine cB h λf a7 h=>rc [0,0] (vo _ _ _ _ _ _ a7) kr o o o λ_=>zm 3 o<|aC (t:=Y195) o pI o λV=>st 0 .here dq o o o o tr<|zA o<|zs<|zU 1 o<|yl 0 f0 ty3 o o o tr o<|zA o<|rI h o (λhc h=>zU 1 o<|zf<|zT<|by cases h;exact aS o (.tmp o) (λ_ _ g=>g) (λ_ _ _=>(.cons _ (.cons_cons _ (.cons_cons _ .slnil))))) λhc h=>?_
 refine zk<|zt<|zs<|zs<|pk [1,0,0] o<|fm λW=>?_
 refine gE (S:=bC [aV M 186 W37 (bI c u W),aV V 195 Y195 f.1]) kr ?_
 refine zH 3 [0,1,2] (ae (ak 0 o) (ae (ak 2 o) aj)) kr o o λs=>bl 3 (tp u) s o kr (cq (S:=λw=>bC [aV M 186 W37 (bI c u W),aV V 195 Y195 f.1] w) (bn 0 o) 0 f0 o o o o (aq aa) dR) λs=>zH 2 [4,5] s kr o o λs=>bl 6 (ti f.1.1) s o kr (cq (S:=λw=>bC [aV M 186 W37 (bI c u W),aV V 195 Y195 f.1] w) (bn 1 o) 2 f0 o o o o (aq aa) ty3) λs=>zH 1 [8] s kr o o λs=>bl 9 (ti f.1.2.1) s o kr (cq (S:=λw=>bC [aV M 186 W37 (bI c u W),aV V 195 Y195 f.1] w) (bn 1 o) 2 f1 o o o o (ab (aq aa)) ty3) λs=>zH 1 [10] s kr o o λs=>az 7 kr o<|cB h λr8 a8 h=>rcT hT [0] (aD _ _ _ _ _ _ a8) kr o o o λ_=>za<|aR (ae (ak 0 o) (ae (ak 2 o) aj)) ?_
 refine ah [0,5,7,8,48,52,54,55] o<|az 11 kr o<|cB h λr9 a9 h=>rc [3] (lQ _ _ _ _ _ _ a9) kr o o o λ_=>za<|aR (ae (ak 1 o) (ae (ak 3 o) aj)) ?_
 refine ah [0,5,7,8,56] o<|zH 1 [12] (ae (ak 1 o) (ae (ak 3 o) aj)) kr o o λs=>dF kr<|zt<|zW o<|rI h o (λhc h=>?_) λhc h=>?_
 ·refine zU 5 o<|st 1 f5 ty4 o o o o tr<|zz<|zE o<|zT<|pk [1,1,0,0] o<|bM (x:=((),c.2.1,c.2.2.1,c.2.2.2.1,c.2.2.2.2.1,(r9.1==9),c.2.2.2.2.2.2)) (q:=u) ?_
  cases h
  exact bc o (.tmp o) (.cons_cons _ (.cons_cons _ (.cons _ .slnil)))
 refine zk<|zt<|zs<|bv h (λN=>[(0,ptr M 0),(5,ts J.1),(7,ptr V 0),(8,tb f.2),(10,ti N.1)]) (λN=>[Res.disk PP dI u N.2,Res.var M 186 W37 (bI c u W),Res.own W 195 Y195 c.2.2.2.1,Res.var V 195 Y195 f.1]) (λb5 h=>?_) λN h=>?_
 ·refine dS kr<|zF 3 [0,4,5] kr o o ?_
  refine br (i:=1) (j:=6) kr o o ?_ ?_
  ·refine zA o<|ah [0,5,7,8,66,69,70] o<|zF 1 [2] kr o o ?_
   refine br (i:=3) (j:=6) kr o o ?_ ?_
   ·refine yl 1 f0 dR o o o tr o<|zL [0,5,7,8,68,69,70] o<|af 6 kr o<|yl 3 f0 ty3 o o o tr o<|zL [0,5,7,8,68,69,71] o<|af 7 kr o<|cB h λm C h=>rcT hT [1] (aD _ _ _ _ _ _ C) kr o o o λ_=>zL [0,5,7,8,68,72] o<|af 8 kr o<|cB h λR H h=>rc [1] (dD _ _ _ _ H) kr o o o λ_=>zL [0,5,7,8,73] o<|zF 1 [9] kr o o ?_
    exact aN kr<|zt<|ai (R.1,R.2) () h o o
   refine yl 3 f0 ty3 o o o tr o<|zL [0,5,7,8,67,69,71] o ?_
   refine br (i:=3) (j:=7) kr o o ?_ ?_
   ·exact yl 1 f0 dR o o o tr o<|zL [0,5,7,8,68,69,71] o<|af 7 kr o<|cB h λm C h=>rcT hT [1] (aD _ _ _ _ _ _ C) kr o o o λ_=>zL [0,5,7,8,68,72] o<|af 8 kr o<|cB h λR H h=>rc [1] (dD _ _ _ _ H) kr o o o λ_=>zL [0,5,7,8,73] o<|zF 1 [9] kr o o<|aN kr<|zt<|ai (R.1,R.2) () h o o
   exact cB h λm C h=>rcT hT [1] (aD _ _ _ _ _ _ C) kr o o o λ_=>zL [0,5,7,8,67,72] o<|af 3 kr o<|yl 0 f0 dR o o o tr o<|zL [0,5,7,8,68,72] o<|af 8 kr o<|cB h λR H h=>rc [1] (dD _ _ _ _ H) kr o o o λ_=>zL [0,5,7,8,73] o<|zF 1 [9] kr o o<|aN kr<|zt<|ai (R.1,R.2) () h o o
  refine yl 3 f0 ty3 o o o tr o<|zL [0,5,7,8,65,69,71] o ?_
  refine br (i:=1) (j:=7) kr o o ?_ ?_
  ·refine zA o<|ah [0,5,7,8,66,69,71] o<|zF 1 [2] kr o o ?_
   refine br (i:=3) (j:=7) kr o o ?_ ?_
   ·exact yl 1 f0 dR o o o tr o<|zL [0,5,7,8,68,69,71] o<|af 7 kr o<|cB h λm C h=>rcT hT [1] (aD _ _ _ _ _ _ C) kr o o o λ_=>zL [0,5,7,8,68,72] o<|af 8 kr o<|cB h λR H h=>rc [1] (dD _ _ _ _ H) kr o o o λ_=>zL [0,5,7,8,73] o<|zF 1 [9] kr o o<|aN kr<|zt<|ai (R.1,R.2) () h o o
   exact cB h λm C h=>rcT hT [1] (aD _ _ _ _ _ _ C) kr o o o λ_=>zL [0,5,7,8,67,72] o<|af 3 kr o<|yl 0 f0 dR o o o tr o<|zL [0,5,7,8,68,72] o<|af 8 kr o<|cB h λR H h=>rc [1] (dD _ _ _ _ H) kr o o o λ_=>zL [0,5,7,8,73] o<|zF 1 [9] kr o o<|aN kr<|zt<|ai (R.1,R.2) () h o o
  refine cB h λm C h=>rcT hT [1] (aD _ _ _ _ _ _ C) kr o o o λ_=>zL [0,5,7,8,65,72] o<|af 1 kr o<|zA o<|ah [0,5,7,8,66,72] o<|zF 1 [2] kr o o<|af 3 kr o<|yl 0 f0 dR o o o tr o<|zL [0,5,7,8,68,72] o<|af 8 kr o<|cB h λR H h=>rc [1] (dD _ _ _ _ H) kr o o o λ_=>zL [0,5,7,8,73] o ?_
  exact zF 1 [9] kr o o<|aN kr<|zt<|ai (R.1,R.2) () h o o
 refine zW o<|rI h o (λhc h=>?_) λhc h=>?_
 ·refine zu<|q 4 [(0,ptr M 0),(7,ptr V 0),(8,tb f.2),(10,ti N.1),(76,ptr M 0),(79,tb (N.1 !=40))] [] o<|pk [1,1,0,0] o<|bM (x:=c) (q:=u) ?_
  obtain⟨b0,e,h⟩:=al h;rw[e]
  refine bQ h 6 (λO=>[(10,ti N.1),(76,ptr M 0),(85,tb O.1)]) (λO=>[Res.cls (cd u) (.pointer (some ⟨M,0,none⟩)) c,Res.disk PP dI u O.2,Res.var V 195 Y195 f.1]) (λb7 h=>?_) λO h=>?_
  ·cases b0
   ·replace h:=ifF h
    refine zm 1 o<|am dl o ?_
    refine yl 2 .here dq o o o tr o<|zm 1 o<|am dl o ?_
    exact cB h λa5 b1 h=>rcT hT [0,0] (wc _ _ _ _ _ _ _ b1) kr o o o λ_=>zN o<|zt<|ai ((a5.1 !=0),a5.2) () h o o
   replace h:=ifT h
   exact zN o<|zt<|ai (true,N.2) () h o o
  refine fm λb8=>?_
  refine zm 2 o<|st 0 f5 ty4 o o o o tr<|zz<|zE o<|zT<|bM (x:=((),c.2.1,c.2.2.1,c.2.2.2.1,c.2.2.2.2.1,O.1,c.2.2.2.2.2.2)) (q:=u) ?_
  cases h
  exact bc o (.tmp o) (.cons_cons _ (.cons_cons _ (.cons _ .slnil)))
 refine zy<|zm 3 o<|yl 1 f4 ty2 o o o tr o<|zm 3 o<|st 1 f4 ty2 o o o o tr<|zZ 1 o<|yl 3 f1 ty3 o o o tr o<|zm 4 o<|st 3 f1 ty3 o o o o tr<|nL o<|zZ 3 o<|yl 1 f4 ty2 o o o tr o<|q 1 [(0,ptr M 0),(7,ptr V 0),(8,tb f.2),(105,ti (wrap .i64 (c.2.2.2.2.1+1))),(106,ptr V 2)] [] o<|st 3 f2 ty2 o o o o tr ?_
 refine za<|jK h (γ:=Value) (λd g20=>[(0,ptr M 0),(7,ptr V 0)]) (λd g20=>[Res.disk PP dI u N.2,Res.var M 186 W37 (wz c u g20 (wrap .i64 (c.2.2.2.2.1+1))),Res.own g20 195 Y195 d,Res.var V 195 Y195 (f.1.1,(wrap .i64 (f.1.2.1+(List.length J.1:Int))),(wrap .i64 (c.2.2.2.2.1+1)),f.1.2.2.2)]) (λb9 h=>?_) λd g20 h=>?_
 ·refine zW o<|rI h o (λhc h=>?_) λhc h=>?_
  ·refine dS kr<|zF 3 [0,1,5] kr o o<|o4 (fuel:=2) [2,3,4,6,7,8,9,10,11,12] #[true,true,true,true,true,true,true,true,true,true,true,true,true,false,false] kr ?_
   refine ay ag 2 [0,7,109,112,114] (E':=[(0,ptr M 0),(7,ptr V 0),(109,ptr M 0),(112,ptr M 3),(114,ptr M 0)]) o ?_
   refine q_y (aL 1 f3 o o o (ab (ab (ab (aq aa)))) tx5) o ?_
   refine ay ag 2 [0,7,109,113,116] (E':=[(0,ptr M 0),(7,ptr V 0),(109,ptr M 0),(113,.one W62 W),(116,ptr M 3)]) o ?_
   refine q_y (aL 1 f3 o o o (ab (ab (ab (aq aa)))) tx5) o ?_
   refine q_y (bW ag 2 o o o) o ?_
   refine ay ag 1 [0,7,109,113,119] (E':=[(0,ptr M 0),(7,ptr V 0),(109,ptr M 0),(113,.one W62 W),(119,ti (wrap .i64 ((List.length c.2.2.2.1:Int) - 1)))]) o ?_
   obtain⟨a2,h⟩:=cj h
   refine q_y (kb ag (i:=(0:Int)) (j:=(wrap .i64 ((List.length c.2.2.2.1:Int) - 1))) o (eM 2 o) o o a2.1 a2.2.1 a2.2.2 o dq) o ?_
   refine ay ag 1 [0,7,120,121] (E':=[(0,ptr M 0),(7,ptr V 0),(120,.one W62 (ij (T.size Y195) W (Int.toNat (0:Int)) (Int.toNat (wrap .i64 ((List.length c.2.2.2.1:Int) - 1))))),(121,ptr M 0)]) o ?_
   refine fa ?_
   refine ah [0,7,120,121] o<|zF 1 [13] kr o o<|af 14 kr o<|so (j:=(Int.toNat (wrap .i64 ((List.length c.2.2.2.1:Int) - 1)))) 2 o (by have:=a2.2.2;omega) ?_
   exact st 1 f3 tx5 o o o o tr<|nL o<|zL [0,7] o<|aN kr<|zt<|ai (List.take (Int.toNat (wrap .i64 ((List.length c.2.2.2.1:Int) - 1))) c.2.2.2.1) (ij (T.size Y195) W 0 (Int.toNat (wrap .i64 ((List.length c.2.2.2.1:Int) - 1)))) h o o
  exact zk<|zt<|ai c.2.2.2.1 W h o o
 refine jK h (γ:=Value) (λa3 g23=>[]) (λa3 g23=>[Res.disk PP dI u N.2,Res.var M 186 W37 (wz c u g23 (wrap .i64 (c.2.2.2.2.1+1))),Res.own g23 195 Y195 a3,Res.var V 195 Y195 (f.1.1,(wrap .i64 (f.1.2.1+(List.length J.1:Int))),(wrap .i64 (c.2.2.2.2.1+1)),f.1.2.2.2)]) (λc0 h=>?_) λa3 g23 h=>?_
 ·refine dS kr<|zF 2 [0,1] kr o o ?_
  refine br (i:=2) (j:=5) kr o o ?_ ?_
  ·refine zA o<|ah [7,123,125] o<|zF 1 [3] kr o o ?_
   refine br (i:=4) (j:=5) kr o o ?_ ?_
   ·refine yl 1 f3 tx5 o o o tr o<|zL [7,123,127] o<|af 5 kr o<|yl 3 .here dq o o o tr o<|zL [123,127,128] o<|af 6 kr o<|bu (B:=24) ag o gk o o o (.cons o .nil) o λZ=>?_
    refine zL [123,127,129] o<|af 7 kr o<|iE h λhc h=>bd (B:=24) ag 3 o o (bL 0 o o) o gk o o hc o λG=>?_
    exact pk [1,1,1,1] o<|zL [123,130] o<|af 8 kr o<|zA o<|ah [130,131] o<|zF 1 [9] kr o o<|af 10 kr o<|st 1 f3 tx5 o o o o tr<|nL o<|zL [] o<|aN kr<|zt<|ai (d++[(f.1.1,(wrap .i64 (f.1.2.1+(List.length J.1:Int))),(wrap .i64 (c.2.2.2.2.1+1)),f.1.2.2.2)]) G h o o
   refine yl 3 .here dq o o o tr o<|zL [123,126,128] o ?_
   refine br (i:=4) (j:=6) kr o o ?_ ?_
   ·refine yl 1 f3 tx5 o o o tr o<|zL [123,127,128] o<|af 6 kr o<|bu (B:=24) ag o gk o o o (.cons o .nil) o λZ=>?_
    refine zL [123,127,129] o<|af 7 kr o<|iE h λhc h=>bd (B:=24) ag 3 o o (bL 0 o o) o gk o o hc o λG=>?_
    exact pk [1,1,1,1] o<|zL [123,130] o<|af 8 kr o<|zA o<|ah [130,131] o<|zF 1 [9] kr o o<|af 10 kr o<|st 1 f3 tx5 o o o o tr<|nL o<|zL [] o<|aN kr<|zt<|ai (d++[(f.1.1,(wrap .i64 (f.1.2.1+(List.length J.1:Int))),(wrap .i64 (c.2.2.2.2.1+1)),f.1.2.2.2)]) G h o o
   refine bu (B:=24) ag o gk o o o (.cons o .nil) o λZ=>?_
   refine zL [123,126,129] o<|af 4 kr o<|yl 2 f3 tx5 o o o tr o<|zL [123,127,129] o<|af 7 kr o<|iE h λhc h=>bd (B:=24) ag 3 o o (bL 0 o o) o gk o o hc o λG=>?_
   exact pk [1,1,1,1] o<|zL [123,130] o<|af 8 kr o<|zA o<|ah [130,131] o<|zF 1 [9] kr o o<|af 10 kr o<|st 1 f3 tx5 o o o o tr<|nL o<|zL [] o<|aN kr<|zt<|ai (d++[(f.1.1,(wrap .i64 (f.1.2.1+(List.length J.1:Int))),(wrap .i64 (c.2.2.2.2.1+1)),f.1.2.2.2)]) G h o o
  refine yl 3 .here dq o o o tr o<|zL [123,124,128] o ?_
  refine br (i:=2) (j:=6) kr o o ?_ ?_
  ·refine zA o<|ah [123,125,128] o<|zF 1 [3] kr o o ?_
   refine br (i:=4) (j:=6) kr o o ?_ ?_
   ·refine yl 1 f3 tx5 o o o tr o<|zL [123,127,128] o<|af 6 kr o<|bu (B:=24) ag o gk o o o (.cons o .nil) o λZ=>?_
    refine zL [123,127,129] o<|af 7 kr o<|iE h λhc h=>bd (B:=24) ag 3 o o (bL 0 o o) o gk o o hc o λG=>?_
    exact pk [1,1,1,1] o<|zL [123,130] o<|af 8 kr o<|zA o<|ah [130,131] o<|zF 1 [9] kr o o<|af 10 kr o<|st 1 f3 tx5 o o o o tr<|nL o<|zL [] o<|aN kr<|zt<|ai (d++[(f.1.1,(wrap .i64 (f.1.2.1+(List.length J.1:Int))),(wrap .i64 (c.2.2.2.2.1+1)),f.1.2.2.2)]) G h o o
   refine bu (B:=24) ag o gk o o o (.cons o .nil) o λZ=>?_
   refine zL [123,126,129] o<|af 4 kr o<|yl 2 f3 tx5 o o o tr o<|zL [123,127,129] o<|af 7 kr o<|iE h λhc h=>bd (B:=24) ag 3 o o (bL 0 o o) o gk o o hc o λG=>?_
   exact pk [1,1,1,1] o<|zL [123,130] o<|af 8 kr o<|zA o<|ah [130,131] o<|zF 1 [9] kr o o<|af 10 kr o<|st 1 f3 tx5 o o o o tr<|nL o<|zL [] o<|aN kr<|zt<|ai (d++[(f.1.1,(wrap .i64 (f.1.2.1+(List.length J.1:Int))),(wrap .i64 (c.2.2.2.2.1+1)),f.1.2.2.2)]) G h o o
  refine bu (B:=24) ag o gk o o o (.cons o .nil) o λZ=>?_
  refine zL [123,124,129] o<|af 2 kr o<|zA o<|ah [123,125,129] o<|zF 1 [3] kr o o<|af 4 kr o<|yl 2 f3 tx5 o o o tr o<|zL [123,127,129] o<|af 7 kr o<|iE h λhc h=>bd (B:=24) ag 3 o o (bL 0 o o) o gk o o hc o λG=>?_
  exact pk [1,1,1,1] o<|zL [123,130] o<|af 8 kr o<|zA o<|ah [130,131] o<|zF 1 [9] kr o o<|af 10 kr o<|st 1 f3 tx5 o o o o tr<|nL o<|zL [] o<|aN kr<|zt<|ai (d++[(f.1.1,(wrap .i64 (f.1.2.1+(List.length J.1:Int))),(wrap .i64 (c.2.2.2.2.1+1)),f.1.2.2.2)]) G h o o
 refine zU 1 o<|zf<|pk [1,1,0,0] o<|bM (x:=(wz c () a3 (wrap .i64 (c.2.2.2.2.1+1)))) (q:=u) ?_
 cases h
 exact bc o (.tmp o) (.cons_cons _ (.cons_cons _ (.cons _ .slnil)))
theorem iQ(w:Value)(f:Value)(c N m r)(h:fy c N m=some r):FnT PP bD 17 [tp w,.one W79 N] [Res.cls (aZ f) w c,Res.disk PP dI f m] (λ_=>ti r.1) (λ_=>[Res.cls (aZ f) w r.2.1,Res.disk PP dI f r.2.2]):=by
 unfold fy at h
 refine ik Tryz.func17 o 58 o o λF hT=>?_
 refine nV λW a9 b0 hp=>?_
 subst hp
 refine fo (x:=c) (q:=f) ?_
 refine zW o<|zs<|zW o<|rI h o (λhc h=>zU 1 o<|zf<|zT<|by cases h;exact aS o (.tmp o) (λ_ _ g=>g) (λ_ _ _=>(.cons_cons _ (.cons_cons _ .slnil)))) λhc h=>zy<|aC (t:=BT) o G5 o λR=>Dx (e:=5) ?_
 refine za<|zs<|pk [1,0,0] o<|mK λM J=>?_
 refine zr<|q 3 [(0,ptr W 0),(1,.one W79 N),(5,tp (.pointer (some ⟨R,0,none⟩))),(17,ptr W 3)] [] o<|yl 0 f3 bE o o o tr o<|aC (t:=Y30) o fO o λd=>st 0 .here bE o o o o tr<|za<|bv h (λV=>[(0,ptr W 0),(5,tp (.pointer (some ⟨R,0,none⟩))),(6,ptr d 0)]) (λV=>[Res.var d 30 Y30 V.1,Res.var W 136 W39 (f,M,J,c.2.2.2.1,c.2.2.2.2),Res.clsif (cd f) M c.2.1.2 c.2.1.1,Res.clsif (eK f) J c.2.2.1.2 c.2.2.1.1,Res.cls (lH 139 5) (.pointer (some ⟨R,0,none⟩)) V.2,Res.disk PP dI f m]) (λa2 h=>?_) λV h=>?_
 ·refine zW o<|zb<|ah [0,5,6,19,20,21] o<|bg (γ:=Unit) (λ(C:Int×List Int×Z29) _=>[(0,ptr W 0),(5,tp (.pointer (some ⟨R,0,none⟩))),(6,ptr d 0),(19,.one W79 N),(20,ti (List.length N:Int)),(21,ti C.1)]) (λ(C:Int×List Int×Z29) _=>[Res.var d 30 Y30 C.2.2,Res.var W 136 W39 (f,M,J,c.2.2.2.1,c.2.2.2.2),Res.clsif (cd f) M c.2.1.2 c.2.1.1,Res.clsif (eK f) J c.2.2.1.2 c.2.2.1.1,Res.cls (lH 139 5) (.pointer (some ⟨R,0,none⟩)) C.2.1,Res.disk PP dI f m]) (gG c N m a2) (0,[],c.2.2.2.1) () h o o ?_
  clear h
  intro Z C gg h
  cases Z with
  |zero=>cases h
  |succ Z=>
  simp only[gG]at h
  refine zW o<|zs<|rI h o (λhc h=>?_) λhc h=>?_
  ·refine zk<|zt<|zs<|zb<|zu<|iE h λhc h=>y (eZ ag o o hc.1 hc.2 o eX) o ?_
   refine y (fP o eX) o ?_
   refine aC (t:=Y54) o kq o λb1=>st 0 .here eX o o o o tr<|zz<|yl 0 .here eX o o o tr o<|cB h λb2 a3 h=>ar (wb _ _ a3) kr o o<|zA o<|zs<|zW o<|rI h o (λhc h=>?_) λhc h=>?_
   ·refine zU 1 o<|zf<|zT<|zB<|zT<|zT<|zB<|zT<|pk [2,2,2,0,0,0,0] o<|fo (x:=c) (q:=f) ?_
    cases h
    exact bc o (.tmp o) (.cons_cons _ (.cons _ (.cons _ (.cons _ (.cons_cons _ .slnil)))))
   refine zy<|zm 1 o<|cB h λa4 a5 h=>rc [5] (n2 _ _ _ _ a5) kr o o o λ_=>zz<|yl 2 .here bE o o o tr o<|yl 1 .here eX o o o tr o<|cB h λa6 a7 h=>rcT hT [] (qF _ _ _ a7) kr o o o λ_=>zm 3 o<|st 2 .here bE o o o o tr<|zm 1 o<|zz<|zA o ?_
   refine rI h o (λhc h=>?_) λhc h=>?_
   ·refine zU 1 o<|zf<|zB<|zT<|zT<|zB<|zT<|pk [3,3,3,0,0,0,0] o<|fo (x:=c) (q:=f) ?_
    cases h
    exact bc o (.tmp o) (.cons_cons _ (.cons _ (.cons _ (.cons _ (.cons_cons _ .slnil)))))
   exact zk<|zi<|zt<|zr<|zA o<|pk [0,1,1,1,1,1] o<|pk [1,1,1,1,0,0] o<|aX ((wrap .i64 (C.1+1)),a4.2.2,a6.1) () (Nat.lt_succ_self _) h o o
  exact zx<|ze<|ze<|zq<|zt<|ai (C.2.2,C.2.1) () h o o
 refine zs<|zu<|cB h λb3 a8 h=>rc [4] (rh _ _ _ a8) kr o o o λ_=>zA o<|rI h o (λhc h=>?_) λhc h=>?_
 ·refine zU 1 o<|zf<|zT<|pk [2,2,2,0,0,0] o<|fo (x:=c) (q:=f) ?_
  cases h
  exact bc o (.tmp o) (.cons_cons _ (.cons _ (.cons _ (.cons_cons _ .slnil))))
 refine zk<|zt<|zs<|bv h (λH=>[(0,ptr W 0),(6,ptr d 0),(11,ti H.1)]) (λH=>[Res.clsif (cd f) M H.2.1.2 H.2.1.1,Res.disk PP dI f H.2.2,Res.cls (oM 139 5) (.pointer (some ⟨R,0,none⟩)) V.2,Res.var d 30 Y30 V.1,Res.var W 136 W39 (f,M,J,c.2.2.2.1,c.2.2.2.2),Res.clsif (eK f) J c.2.2.1.2 c.2.2.1.1]) (λb4 h=>?_) λH h=>?_
 ·refine dS kr<|zF 1 [0] kr o o ?_
  refine br (i:=1) (j:=4) kr o o ?_ ?_
  ·refine zA o<|ah [0,5,6,46] o<|zF 1 [2] kr o o ?_
   refine br (i:=3) (j:=4) kr o o ?_ ?_
   ·refine yl 2 f1 cV o o o tr o<|zL [0,5,6,48] o<|af 4 kr o<|aw (R':=Res.cls (oM 139 5) (.pointer (some ⟨R,0,none⟩)) V.2) 0 o u1<|rc [0] (je _ _) kr o o o λ_=>zL [0,6,48,49] o<|af 5 kr o ?_
    obtain⟨G,h⟩:=cj h
    exact aw (R':=Res.cls (cd f) M c.2.1.2) 3 o (dM G)<|nL o<|cB h λu O h=>rcT hT [3,4] (mu _ _ _ _ _ _ O) kr o o o λ_=>zL [0,6,50] o<|zF 1 [6] kr o o<|aN kr<|zt<|aw (R':=Res.clsif (cd f) M u.2.1 c.2.1.1) 0 o (cT G)<|ai (u.1,(c.2.1.1,u.2.1),u.2.2) () h o o
   refine aw (R':=Res.cls (oM 139 5) (.pointer (some ⟨R,0,none⟩)) V.2) 0 o u1<|rc [0] (je _ _) kr o o o λ_=>zL [0,6,47,49] o<|af 3 kr o<|yl 2 f1 cV o o o tr o<|zL [0,6,48,49] o<|af 5 kr o ?_
   obtain⟨G,h⟩:=cj h
   exact aw (R':=Res.cls (cd f) M c.2.1.2) 3 o (dM G)<|nL o<|cB h λu O h=>rcT hT [3,4] (mu _ _ _ _ _ _ O) kr o o o λ_=>zL [0,6,50] o<|zF 1 [6] kr o o<|aN kr<|zt<|aw (R':=Res.clsif (cd f) M u.2.1 c.2.1.1) 0 o (cT G)<|ai (u.1,(c.2.1.1,u.2.1),u.2.2) () h o o
  refine aw (R':=Res.cls (oM 139 5) (.pointer (some ⟨R,0,none⟩)) V.2) 0 o u1<|rc [0] (je _ _) kr o o o λ_=>zL [0,6,45,49] o<|af 1 kr o<|zA o<|ah [0,6,46,49] o<|zF 1 [2] kr o o<|af 3 kr o<|yl 2 f1 cV o o o tr o<|zL [0,6,48,49] o<|af 5 kr o ?_
  obtain⟨G,h⟩:=cj h
  exact aw (R':=Res.cls (cd f) M c.2.1.2) 3 o (dM G)<|nL o<|cB h λu O h=>rcT hT [3,4] (mu _ _ _ _ _ _ O) kr o o o λ_=>zL [0,6,50] o<|zF 1 [6] kr o o<|aN kr<|zt<|aw (R':=Res.clsif (cd f) M u.2.1 c.2.1.1) 0 o (cT G)<|ai (u.1,(c.2.1.1,u.2.1),u.2.2) () h o o
 refine zW o<|rI h o (λhc h=>?_) λhc h=>?_
 ·refine zU 2 o<|zf<|zT<|pk [4,0,3,0,0,0] o<|fo (x:=((),H.2.1,c.2.2.1,c.2.2.2.1,c.2.2.2.2)) (q:=f) ?_
  cases h
  exact bc o (.tmp o) (.cons_cons _ (.cons_cons _ (.cons _ (.cons _ .slnil))))
 refine zy<|zm 1 o<|yl 3 .here bE o o o tr o<|zm 2 o<|st 4 f3 bE o o o o tr<|zz<|zE o<|pk [4,0,3,0,0,0] o<|fo (x:=((),H.2.1,c.2.2.1,V.1,c.2.2.2.2)) (q:=f) ?_
 cases h
 exact bc o (.tmp o) (.cons_cons _ (.cons_cons _ (.cons _ (.cons _ .slnil))))
theorem wd(u:Value)(c:Value)(f M r)(h:qb f M=some r):Fn PP 78 [tp u] [Res.cls (cd c) u f,Res.disk PP dI c M] (λ_=>ti r) (λ_=>[Res.cls (cd c) u f,Res.disk PP dI c M]):=by
 unfold qb at h
 refine enter Tryz.func78 o 7 o o λF=>?_
 refine na λV R hp=>?_
 subst hp
 refine bM (x:=f) (q:=c) ?_
 refine zW o<|zs<|fm λW=>?_
 refine zr<|zm 3 o<|yl 0 f4 ty2 o o o tr o<|zE o<|bM (x:=f) (q:=c) ?_
 cases h
 exact bc o (.tmp o) (.cons_cons _ (.cons_cons _ .slnil))
theorem xp(c:Value)(V f M r)(h:sM V f M=some r):Fn PP 79 [tp c,ts f,ts M] [Res.disk PP dI c V] (λ_=>ti r.1) (λ_=>[Res.disk PP dI c r.2]):=by
 unfold sM at h
 refine enter Tryz.func79 o 50 o o λF=>?_
 refine zW o<|zs<|zU 1 o<|cB h λO C h=>ar (qB _ _ C) kr o o<|zA o<|rI h o (λhc h=>zU 1 o<|zf<|zT<|by cases h;exact aS o (.tmp o) (λ_ _ g=>g) (λ_ _ _=>(.cons_cons _ .slnil))) λhc h=>zk<|zt<|zs<|zW o<|rI h o (λhc h=>zU 1 o<|zf<|zT<|by cases h;exact aS o (.tmp o) (λ_ _ g=>g) (λ_ _ _=>(.cons_cons _ .slnil))) λhc h=>?_
 refine zy<|zm 1 o<|iE h λhc h=>y (jN o o hc) o ?_
 refine q 1 [(0,tp c),(1,ts f),(2,ts M),(7,ts (f++[46,116,109,112]))] [] o ?_
 obtain⟨R,e,h⟩:=al h;rw[e]
 refine za<|zs<|zU 2 o<|cB h λu H h=>rc [0] (aK _ _ _ _ H) kr o o o λ_=>zm 1 o<|zz<|q 3 [(7,ts R),(8,ti u.1),(24,tb (u.1 !=0))] [0,1,2] o ?_
 obtain⟨W,e,h⟩:=al h;rw[e]
 refine aM 3 [(0,tp c),(1,ts f),(2,ts M),(7,ts R),(8,ti u.1),(27,tb (W&&(u.1 !=5)))] [Res.disk PP dI c u.2] (?_) ?_
 ·clear h
  cases W
  ·exact zA o<|ap () o o
  exact zA o<|ap () o o
 refine za<|rI h o (λhc h=>zU 2 o<|zf<|zT<|by cases h;exact aS o (.tmp o) (λ_ _ g=>g) (λ_ _ _=>(.cons_cons _ .slnil))) λhc h=>zk<|zt<|zs<|zU 3 o<|cB h λw G h=>ar (rE _ _ G) kr o o<|cB h λZ N h=>rc [0] (lQ _ _ _ _ _ _ N) kr o o o λ_=>zm 1 o<|zz<|zA o<|rI h o (λhc h=>zU 2 o<|zf<|zT<|by cases h;exact aS o (.tmp o) (λ_ _ g=>g) (λ_ _ _=>(.cons_cons _ .slnil))) λhc h=>?_
 refine zk<|zt<|zs<|zU 2 o<|cB h λr7 J h=>rc [0] (dD _ _ _ _ J) kr o o o λ_=>zm 1 o<|zz<|zA o<|rI h o (λhc h=>zU 2 o<|cB h λr8 d h=>rc [0] (aK _ _ _ _ d) kr o o o λ_=>zz<|zE o<|zT<|by cases h;exact aS o (.tmp o) (λ_ _ g=>g) (λ_ _ _=>(.cons_cons _ .slnil))) λhc h=>?_
 refine zy<|zm 3 o<|cB h λr9 m h=>rc [0] (n3 _ _ _ _ _ m) kr o o o λ_=>zE o ?_
 cases h
 exact bc o (.tmp o) (.cons_cons _ .slnil)
theorem vp(Z:Value)(H:Value)(G N w r)(h:po G N w=some r):FnT PP bD 80 [tp Z,ti N] [Res.cls (cd H) Z G,Res.disk PP dI H w] (λ_=>ti r.1) (λ_=>[Res.cls (cd H) Z r.2.1,Res.disk PP dI H r.2.2]):=by
 unfold po at h
 refine ik Tryz.func80 o 65 o o λF hT=>?_
 refine na λJ a6 hp=>?_
 subst hp
 refine bM (x:=G) (q:=H) ?_
 refine zW o<|zs<|zs<|fm λa2=>?_
 refine zr<|zm 3 o<|yl 0 f5 ty4 o o o tr o<|za<|rI h o (λhc h=>?_) λhc h=>?_
 ·refine zU 1 o<|zf<|zT<|bM (x:=G) (q:=H) ?_
  cases h
  exact bc o (.tmp o) (.cons_cons _ (.cons_cons _ .slnil))
 refine zk<|zt<|zs<|zu<|q 3 [(0,ptr J 0),(1,ti N),(12,tb (decide (N<0)))] [] o ?_
 obtain⟨b4,e,h⟩:=al h;rw[e]
 refine aM 7 [(0,ptr J 0),(1,ti N),(19,tb (b4||(decide (N>G.2.2.2.2.1))))] [Res.var J 186 W37 (bI G H a2),Res.own a2 195 Y195 G.2.2.2.1,Res.disk PP dI H w] (?_) ?_
 ·clear h
  cases b4
  ·refine zm 4 o<|am dl o ?_
   exact yl 0 f4 ty2 o o o tr o<|zA o<|ap () o o
  exact zA o<|ap () o o
 refine za<|rI h o (λhc h=>?_) λhc h=>?_
 ·refine zU 1 o<|zf<|zT<|bM (x:=G) (q:=H) ?_
  cases h
  exact bc o (.tmp o) (.cons_cons _ (.cons_cons _ .slnil))
 refine zk<|zt<|jK h (γ:=Value) (λd g7=>[]) (λd g7=>[Res.var J 186 W37 (bI G H g7),Res.own g7 195 Y195 d.1,Res.disk PP dI H d.2]) (λk5 h=>?_) λd g7 h=>?_
 ·refine zb<|ah [0,1] o<|bg (γ:=Value) (λ(M:aB×(List bN)) g12=>[(0,ptr J 0),(1,ti N)]) (λ(M:aB×(List bN)) g12=>[Res.var J 186 W37 (bI G H g12),Res.own g12 195 Y195 M.2,Res.disk PP dI H M.1]) (kM G N k5) (w,G.2.2.2.1) a2 h o o ?_
  clear h
  intro a3 M g12 h
  cases a3 with
  |zero=>cases h
  |succ a3=>
  simp only[kM]at h
  refine zs<|zU 3 o<|yl 0 f3 tx5 o o o tr o<|y (bW ag 1 o o o) o ?_
  refine q 2 [(0,ptr J 0),(1,ti N),(26,tb (decide ((List.length M.2:Int)>0)))] [] o ?_
  obtain⟨a5,e,h⟩:=al h;rw[e]
  refine bQ h 10 (λa4=>[(0,ptr J 0),(1,ti N),(36,tb a4)]) (λ_=>[Res.var J 186 W37 (bI G H g12),Res.own g12 195 Y195 M.2,Res.disk PP dI H M.1]) (λa7 h=>?_) λa4 h=>?_
  ·cases a5
   ·replace h:=ifF h
    exact zN o<|zt<|ai false () h o o
   replace h:=ifT h
   refine zm 3 o<|am dl o ?_
   refine yl 0 f3 tx5 o o o tr o<|am dl o ?_
   refine iE h λhc h=>ce 1 o (by omega) λa8 a9 b0 hv=>?_
   rw[hv]
   try clear hv
   refine y (cx ag o o hc.1 (by first|exact hc.2|simpa using hc.2) o dq) o ?_
   refine zm 1 o<|am dl o ?_
   refine y (dE 1 0 f2 o o (by omega) o (ab (ab (aq aa))) ty2) o ?_
   exact zN o<|zt<|ai (decide (((List.getD M.2 0 (0,0,0,())).2.2.1)≤N)) () h o o
  refine za<|rI h o (λhc h=>?_) λhc h=>?_
  ·refine zk<|zt<|zb<|zs<|jK h (γ:=Value) (λm g22=>[(0,ptr J 0),(1,ti N),(5,ti m.1)]) (λm g22=>[Res.disk PP dI H m.2,Res.var J 186 W37 (bI G H g22),Res.own g22 195 Y195 M.2]) (λb1 h=>?_) λm g22 h=>?_
   ·refine dS kr<|zF 3 [0,4,5] kr o o ?_
    refine br (i:=1) (j:=6) kr o o ?_ ?_
    ·refine zA o<|ah [0,1,38,41,42] o<|zF 1 [2] kr o o ?_
     refine br (i:=3) (j:=6) kr o o ?_ ?_
     ·refine yl 0 f0 dR o o o tr o<|zL [0,1,40,41,42] o<|af 6 kr o<|zA o<|ah [0,1,40,41,43] o<|zF 1 [7] kr o o<|af 8 kr o<|yl 0 f3 tx5 o o o tr o<|zL [0,1,40,41,45] o<|af 9 kr o<|iE h λhc h=>ce 1 o (by omega) λV R W hv=>?_
      rw[hv]
      try clear hv
      refine y (cx ag o o hc.1 (by first|exact hc.2|simpa using hc.2) o dq) o ?_
      refine zL [0,1,40,41,46] o<|zF 1 [10] kr o o<|af 11 kr o<|y (dE 1 0 f0 o o (by omega) o (aq aa) ty3) o ?_
      exact zL [0,1,40,41,48] o<|af 12 kr o<|cB h λC f h=>rcT hT [0] (aD _ _ _ _ _ _ f) kr o o o λ_=>zL [0,1,40,49] o<|af 13 kr o<|cB h λc u h=>rc [2] (aK _ _ _ _ u) kr o o o λ_=>zL [0,1,50] o<|zF 1 [14] kr o o<|aN kr<|zt<|ai (c.1,c.2) (.slice (some ⟨V,R,none⟩) (List.length M.2) W) h o o
     refine zA o<|ah [0,1,39,41,43] o<|zF 1 [7] kr o o ?_
     refine br (i:=3) (j:=8) kr o o ?_ ?_
     ·refine yl 0 f0 dR o o o tr o<|zL [0,1,40,41,44] o<|af 8 kr o<|yl 0 f3 tx5 o o o tr o<|zL [0,1,40,41,45] o<|af 9 kr o<|iE h λhc h=>ce 1 o (by omega) λV R W hv=>?_
      rw[hv]
      try clear hv
      refine y (cx ag o o hc.1 (by first|exact hc.2|simpa using hc.2) o dq) o ?_
      refine zL [0,1,40,41,46] o<|zF 1 [10] kr o o<|af 11 kr o<|y (dE 1 0 f0 o o (by omega) o (aq aa) ty3) o ?_
      exact zL [0,1,40,41,48] o<|af 12 kr o<|cB h λC f h=>rcT hT [0] (aD _ _ _ _ _ _ f) kr o o o λ_=>zL [0,1,40,49] o<|af 13 kr o<|cB h λc u h=>rc [2] (aK _ _ _ _ u) kr o o o λ_=>zL [0,1,50] o<|zF 1 [14] kr o o<|aN kr<|zt<|ai (c.1,c.2) (.slice (some ⟨V,R,none⟩) (List.length M.2) W) h o o
     refine yl 0 f3 tx5 o o o tr o<|zL [0,1,39,41,45] o ?_
     refine br (i:=3) (j:=9) kr o o ?_ ?_
     ·refine yl 0 f0 dR o o o tr o<|zL [0,1,40,41,45] o<|af 9 kr o<|iE h λhc h=>ce 1 o (by omega) λV R W hv=>?_
      rw[hv]
      try clear hv
      refine y (cx ag o o hc.1 (by first|exact hc.2|simpa using hc.2) o dq) o ?_
      refine zL [0,1,40,41,46] o<|zF 1 [10] kr o o<|af 11 kr o<|y (dE 1 0 f0 o o (by omega) o (aq aa) ty3) o ?_
      exact zL [0,1,40,41,48] o<|af 12 kr o<|cB h λC f h=>rcT hT [0] (aD _ _ _ _ _ _ f) kr o o o λ_=>zL [0,1,40,49] o<|af 13 kr o<|cB h λc u h=>rc [2] (aK _ _ _ _ u) kr o o o λ_=>zL [0,1,50] o<|zF 1 [14] kr o o<|aN kr<|zt<|ai (c.1,c.2) (.slice (some ⟨V,R,none⟩) (List.length M.2) W) h o o
     refine iE h λhc h=>ce 1 o (by omega) λV R W hv=>?_
     rw[hv]
     try clear hv
     refine y (cx ag o o hc.1 (by first|exact hc.2|simpa using hc.2) o dq) o ?_
     refine zL [0,1,39,41,46] o<|zF 1 [10] kr o o ?_
     refine br (i:=3) (j:=11) kr o o ?_ ?_
     ·refine yl 0 f0 dR o o o tr o<|zL [0,1,40,41,47] o<|af 11 kr o<|y (dE 1 0 f0 o o (by omega) o (aq aa) ty3) o ?_
      exact zL [0,1,40,41,48] o<|af 12 kr o<|cB h λC f h=>rcT hT [0] (aD _ _ _ _ _ _ f) kr o o o λ_=>zL [0,1,40,49] o<|af 13 kr o<|cB h λc u h=>rc [2] (aK _ _ _ _ u) kr o o o λ_=>zL [0,1,50] o<|zF 1 [14] kr o o<|aN kr<|zt<|ai (c.1,c.2) (.slice (some ⟨V,R,none⟩) (List.length M.2) W) h o o
     refine y (dE 1 0 f0 o o (by omega) o (aq aa) ty3) o ?_
     refine zL [0,1,39,41,48] o ?_
     refine br (i:=3) (j:=12) kr o o ?_ ?_
     ·exact yl 0 f0 dR o o o tr o<|zL [0,1,40,41,48] o<|af 12 kr o<|cB h λC f h=>rcT hT [0] (aD _ _ _ _ _ _ f) kr o o o λ_=>zL [0,1,40,49] o<|af 13 kr o<|cB h λc u h=>rc [2] (aK _ _ _ _ u) kr o o o λ_=>zL [0,1,50] o<|zF 1 [14] kr o o<|aN kr<|zt<|ai (c.1,c.2) (.slice (some ⟨V,R,none⟩) (List.length M.2) W) h o o
     exact cB h λC f h=>rcT hT [0] (aD _ _ _ _ _ _ f) kr o o o λ_=>zL [0,1,39,49] o<|af 3 kr o<|yl 0 f0 dR o o o tr o<|zL [0,1,40,49] o<|af 13 kr o<|cB h λc u h=>rc [2] (aK _ _ _ _ u) kr o o o λ_=>zL [0,1,50] o<|zF 1 [14] kr o o<|aN kr<|zt<|ai (c.1,c.2) (.slice (some ⟨V,R,none⟩) (List.length M.2) W) h o o
    refine zA o<|ah [0,1,37,41,43] o<|zF 1 [7] kr o o ?_
    refine br (i:=1) (j:=8) kr o o ?_ ?_
    ·refine zA o<|ah [0,1,38,41,44] o<|zF 1 [2] kr o o ?_
     refine br (i:=3) (j:=8) kr o o ?_ ?_
     ·refine yl 0 f0 dR o o o tr o<|zL [0,1,40,41,44] o<|af 8 kr o<|yl 0 f3 tx5 o o o tr o<|zL [0,1,40,41,45] o<|af 9 kr o<|iE h λhc h=>ce 1 o (by omega) λV R W hv=>?_
      rw[hv]
      try clear hv
      refine y (cx ag o o hc.1 (by first|exact hc.2|simpa using hc.2) o dq) o ?_
      refine zL [0,1,40,41,46] o<|zF 1 [10] kr o o<|af 11 kr o<|y (dE 1 0 f0 o o (by omega) o (aq aa) ty3) o ?_
      exact zL [0,1,40,41,48] o<|af 12 kr o<|cB h λC f h=>rcT hT [0] (aD _ _ _ _ _ _ f) kr o o o λ_=>zL [0,1,40,49] o<|af 13 kr o<|cB h λc u h=>rc [2] (aK _ _ _ _ u) kr o o o λ_=>zL [0,1,50] o<|zF 1 [14] kr o o<|aN kr<|zt<|ai (c.1,c.2) (.slice (some ⟨V,R,none⟩) (List.length M.2) W) h o o
     refine yl 0 f3 tx5 o o o tr o<|zL [0,1,39,41,45] o ?_
     refine br (i:=3) (j:=9) kr o o ?_ ?_
     ·refine yl 0 f0 dR o o o tr o<|zL [0,1,40,41,45] o<|af 9 kr o<|iE h λhc h=>ce 1 o (by omega) λV R W hv=>?_
      rw[hv]
      try clear hv
      refine y (cx ag o o hc.1 (by first|exact hc.2|simpa using hc.2) o dq) o ?_
      refine zL [0,1,40,41,46] o<|zF 1 [10] kr o o<|af 11 kr o<|y (dE 1 0 f0 o o (by omega) o (aq aa) ty3) o ?_
      exact zL [0,1,40,41,48] o<|af 12 kr o<|cB h λC f h=>rcT hT [0] (aD _ _ _ _ _ _ f) kr o o o λ_=>zL [0,1,40,49] o<|af 13 kr o<|cB h λc u h=>rc [2] (aK _ _ _ _ u) kr o o o λ_=>zL [0,1,50] o<|zF 1 [14] kr o o<|aN kr<|zt<|ai (c.1,c.2) (.slice (some ⟨V,R,none⟩) (List.length M.2) W) h o o
     refine iE h λhc h=>ce 1 o (by omega) λV R W hv=>?_
     rw[hv]
     try clear hv
     refine y (cx ag o o hc.1 (by first|exact hc.2|simpa using hc.2) o dq) o ?_
     refine zL [0,1,39,41,46] o<|zF 1 [10] kr o o ?_
     refine br (i:=3) (j:=11) kr o o ?_ ?_
     ·refine yl 0 f0 dR o o o tr o<|zL [0,1,40,41,47] o<|af 11 kr o<|y (dE 1 0 f0 o o (by omega) o (aq aa) ty3) o ?_
      exact zL [0,1,40,41,48] o<|af 12 kr o<|cB h λC f h=>rcT hT [0] (aD _ _ _ _ _ _ f) kr o o o λ_=>zL [0,1,40,49] o<|af 13 kr o<|cB h λc u h=>rc [2] (aK _ _ _ _ u) kr o o o λ_=>zL [0,1,50] o<|zF 1 [14] kr o o<|aN kr<|zt<|ai (c.1,c.2) (.slice (some ⟨V,R,none⟩) (List.length M.2) W) h o o
     refine y (dE 1 0 f0 o o (by omega) o (aq aa) ty3) o ?_
     refine zL [0,1,39,41,48] o ?_
     refine br (i:=3) (j:=12) kr o o ?_ ?_
     ·exact yl 0 f0 dR o o o tr o<|zL [0,1,40,41,48] o<|af 12 kr o<|cB h λC f h=>rcT hT [0] (aD _ _ _ _ _ _ f) kr o o o λ_=>zL [0,1,40,49] o<|af 13 kr o<|cB h λc u h=>rc [2] (aK _ _ _ _ u) kr o o o λ_=>zL [0,1,50] o<|zF 1 [14] kr o o<|aN kr<|zt<|ai (c.1,c.2) (.slice (some ⟨V,R,none⟩) (List.length M.2) W) h o o
     exact cB h λC f h=>rcT hT [0] (aD _ _ _ _ _ _ f) kr o o o λ_=>zL [0,1,39,49] o<|af 3 kr o<|yl 0 f0 dR o o o tr o<|zL [0,1,40,49] o<|af 13 kr o<|cB h λc u h=>rc [2] (aK _ _ _ _ u) kr o o o λ_=>zL [0,1,50] o<|zF 1 [14] kr o o<|aN kr<|zt<|ai (c.1,c.2) (.slice (some ⟨V,R,none⟩) (List.length M.2) W) h o o
    refine yl 0 f3 tx5 o o o tr o<|zL [0,1,37,41,45] o ?_
    refine br (i:=1) (j:=9) kr o o ?_ ?_
    ·refine zA o<|ah [0,1,38,41,45] o<|zF 1 [2] kr o o ?_
     refine br (i:=3) (j:=9) kr o o ?_ ?_
     ·refine yl 0 f0 dR o o o tr o<|zL [0,1,40,41,45] o<|af 9 kr o<|iE h λhc h=>ce 1 o (by omega) λV R W hv=>?_
      rw[hv]
      try clear hv
      refine y (cx ag o o hc.1 (by first|exact hc.2|simpa using hc.2) o dq) o ?_
      refine zL [0,1,40,41,46] o<|zF 1 [10] kr o o<|af 11 kr o<|y (dE 1 0 f0 o o (by omega) o (aq aa) ty3) o ?_
      exact zL [0,1,40,41,48] o<|af 12 kr o<|cB h λC f h=>rcT hT [0] (aD _ _ _ _ _ _ f) kr o o o λ_=>zL [0,1,40,49] o<|af 13 kr o<|cB h λc u h=>rc [2] (aK _ _ _ _ u) kr o o o λ_=>zL [0,1,50] o<|zF 1 [14] kr o o<|aN kr<|zt<|ai (c.1,c.2) (.slice (some ⟨V,R,none⟩) (List.length M.2) W) h o o
     refine iE h λhc h=>ce 1 o (by omega) λV R W hv=>?_
     rw[hv]
     try clear hv
     refine y (cx ag o o hc.1 (by first|exact hc.2|simpa using hc.2) o dq) o ?_
     refine zL [0,1,39,41,46] o<|zF 1 [10] kr o o ?_
     refine br (i:=3) (j:=11) kr o o ?_ ?_
     ·refine yl 0 f0 dR o o o tr o<|zL [0,1,40,41,47] o<|af 11 kr o<|y (dE 1 0 f0 o o (by omega) o (aq aa) ty3) o ?_
      exact zL [0,1,40,41,48] o<|af 12 kr o<|cB h λC f h=>rcT hT [0] (aD _ _ _ _ _ _ f) kr o o o λ_=>zL [0,1,40,49] o<|af 13 kr o<|cB h λc u h=>rc [2] (aK _ _ _ _ u) kr o o o λ_=>zL [0,1,50] o<|zF 1 [14] kr o o<|aN kr<|zt<|ai (c.1,c.2) (.slice (some ⟨V,R,none⟩) (List.length M.2) W) h o o
     refine y (dE 1 0 f0 o o (by omega) o (aq aa) ty3) o ?_
     refine zL [0,1,39,41,48] o ?_
     refine br (i:=3) (j:=12) kr o o ?_ ?_
     ·exact yl 0 f0 dR o o o tr o<|zL [0,1,40,41,48] o<|af 12 kr o<|cB h λC f h=>rcT hT [0] (aD _ _ _ _ _ _ f) kr o o o λ_=>zL [0,1,40,49] o<|af 13 kr o<|cB h λc u h=>rc [2] (aK _ _ _ _ u) kr o o o λ_=>zL [0,1,50] o<|zF 1 [14] kr o o<|aN kr<|zt<|ai (c.1,c.2) (.slice (some ⟨V,R,none⟩) (List.length M.2) W) h o o
     exact cB h λC f h=>rcT hT [0] (aD _ _ _ _ _ _ f) kr o o o λ_=>zL [0,1,39,49] o<|af 3 kr o<|yl 0 f0 dR o o o tr o<|zL [0,1,40,49] o<|af 13 kr o<|cB h λc u h=>rc [2] (aK _ _ _ _ u) kr o o o λ_=>zL [0,1,50] o<|zF 1 [14] kr o o<|aN kr<|zt<|ai (c.1,c.2) (.slice (some ⟨V,R,none⟩) (List.length M.2) W) h o o
    refine iE h λhc h=>ce 1 o (by omega) λV R W hv=>?_
    rw[hv]
    try clear hv
    refine y (cx ag o o hc.1 (by first|exact hc.2|simpa using hc.2) o dq) o ?_
    refine zL [0,1,37,41,46] o<|zF 1 [10] kr o o ?_
    refine br (i:=1) (j:=11) kr o o ?_ ?_
    ·refine zA o<|ah [0,1,38,41,47] o<|zF 1 [2] kr o o ?_
     refine br (i:=3) (j:=11) kr o o ?_ ?_
     ·refine yl 0 f0 dR o o o tr o<|zL [0,1,40,41,47] o<|af 11 kr o<|y (dE 1 0 f0 o o (by omega) o (aq aa) ty3) o ?_
      exact zL [0,1,40,41,48] o<|af 12 kr o<|cB h λC f h=>rcT hT [0] (aD _ _ _ _ _ _ f) kr o o o λ_=>zL [0,1,40,49] o<|af 13 kr o<|cB h λc u h=>rc [2] (aK _ _ _ _ u) kr o o o λ_=>zL [0,1,50] o<|zF 1 [14] kr o o<|aN kr<|zt<|ai (c.1,c.2) (.slice (some ⟨V,R,none⟩) (List.length M.2) W) h o o
     refine y (dE 1 0 f0 o o (by omega) o (aq aa) ty3) o ?_
     refine zL [0,1,39,41,48] o ?_
     refine br (i:=3) (j:=12) kr o o ?_ ?_
     ·exact yl 0 f0 dR o o o tr o<|zL [0,1,40,41,48] o<|af 12 kr o<|cB h λC f h=>rcT hT [0] (aD _ _ _ _ _ _ f) kr o o o λ_=>zL [0,1,40,49] o<|af 13 kr o<|cB h λc u h=>rc [2] (aK _ _ _ _ u) kr o o o λ_=>zL [0,1,50] o<|zF 1 [14] kr o o<|aN kr<|zt<|ai (c.1,c.2) (.slice (some ⟨V,R,none⟩) (List.length M.2) W) h o o
     exact cB h λC f h=>rcT hT [0] (aD _ _ _ _ _ _ f) kr o o o λ_=>zL [0,1,39,49] o<|af 3 kr o<|yl 0 f0 dR o o o tr o<|zL [0,1,40,49] o<|af 13 kr o<|cB h λc u h=>rc [2] (aK _ _ _ _ u) kr o o o λ_=>zL [0,1,50] o<|zF 1 [14] kr o o<|aN kr<|zt<|ai (c.1,c.2) (.slice (some ⟨V,R,none⟩) (List.length M.2) W) h o o
    refine y (dE 1 0 f0 o o (by omega) o (aq aa) ty3) o ?_
    refine zL [0,1,37,41,48] o ?_
    refine br (i:=1) (j:=12) kr o o ?_ ?_
    ·refine zA o<|ah [0,1,38,41,48] o<|zF 1 [2] kr o o ?_
     refine br (i:=3) (j:=12) kr o o ?_ ?_
     ·exact yl 0 f0 dR o o o tr o<|zL [0,1,40,41,48] o<|af 12 kr o<|cB h λC f h=>rcT hT [0] (aD _ _ _ _ _ _ f) kr o o o λ_=>zL [0,1,40,49] o<|af 13 kr o<|cB h λc u h=>rc [2] (aK _ _ _ _ u) kr o o o λ_=>zL [0,1,50] o<|zF 1 [14] kr o o<|aN kr<|zt<|ai (c.1,c.2) (.slice (some ⟨V,R,none⟩) (List.length M.2) W) h o o
     exact cB h λC f h=>rcT hT [0] (aD _ _ _ _ _ _ f) kr o o o λ_=>zL [0,1,39,49] o<|af 3 kr o<|yl 0 f0 dR o o o tr o<|zL [0,1,40,49] o<|af 13 kr o<|cB h λc u h=>rc [2] (aK _ _ _ _ u) kr o o o λ_=>zL [0,1,50] o<|zF 1 [14] kr o o<|aN kr<|zt<|ai (c.1,c.2) (.slice (some ⟨V,R,none⟩) (List.length M.2) W) h o o
    refine cB h λC f h=>rcT hT [0] (aD _ _ _ _ _ _ f) kr o o o λ_=>zL [0,1,37,49] o<|af 1 kr o<|zA o<|ah [0,1,38,49] o<|zF 1 [2] kr o o<|af 3 kr o<|yl 0 f0 dR o o o tr o<|zL [0,1,40,49] o<|af 13 kr o<|cB h λc u h=>rc [2] (aK _ _ _ _ u) kr o o o λ_=>zL [0,1,50] o ?_
    exact zF 1 [14] kr o o<|aN kr<|zt<|ai (c.1,c.2) (.slice (some ⟨V,R,none⟩) (List.length M.2) W) h o o
   refine zW o<|rI h o (λhc h=>?_) λhc h=>?_
   ·refine zU 3 o<|st 1 f5 ty4 o o o o tr<|zz<|zE o<|zT<|zB<|zT<|zB<|zT<|pk [1,1,0] o<|bM (x:=((),G.2.1,G.2.2.1,M.2,G.2.2.2.2.1,true,G.2.2.2.2.2.2)) (q:=H) ?_
    cases h
    exact bc o (.tmp o) (.cons_cons _ (.cons_cons _ .slnil))
   refine zk<|zt<|zr<|zm 4 o<|yl 1 f3 tx5 o o o tr o ?_
   obtain⟨O,h⟩:=cj h
   refine y (kb ag (i:=1) (j:=(List.length M.2:Int)) o (eM 2 o) o o O.1 O.2.1 O.2.2 o dq) o ?_
   refine zm 2 o<|vB (k:=1) (j:=(Int.toNat (List.length M.2:Int))) 2 o (by have:=O.2.1;omega) (by have:=O.2.2;omega) ?_
   exact st 1 f3 tx5 o o o o tr<|nL o<|zn<|zi<|zt<|pk [1,1,0] o<|aX (m.2,(List.drop 1 (List.take (Int.toNat (List.length M.2:Int)) M.2))) (ij (T.size Y195) g22 1 (Int.toNat (List.length M.2:Int))) (Nat.lt_succ_self _) h o o
  exact zx<|ze<|ze<|zq<|zt<|ai (M.2,M.1) g12 h o o
 refine zU 1 o<|zf<|bM (x:=(bI G () d.1)) (q:=H) ?_
 cases h
 exact bc o (.tmp o) (.cons_cons _ (.cons_cons _ .slnil))
theorem pM(V:Value)(f:Value)(c R r)(h:jJ c R=some r):FnT PP bD 22 [tp V] [Res.cls (aZ f) V c,Res.disk PP dI f R] (λ_=>ti r.1) (λ_=>[Res.cls (aZ f) V r.2.1,Res.disk PP dI f r.2.2]):=by
 unfold jJ at h
 refine ik Tryz.func22 o 39 o o λF hT=>?_
 refine nV λJ d m hp=>?_
 subst hp
 refine fo (x:=c) (q:=f) ?_
 refine zW o<|zs<|mK λu O=>?_
 refine zr<|zm 3 o<|yl 0 f1 cV o o o tr o ?_
 obtain⟨M,h⟩:=cj h
 refine aw (R':=Res.cls (cd f) u c.2.1.2) 1 o (dM M)<|cB h λw C h=>rc [1,2] (wd _ _ _ _ _ C) kr o o o λ_=>zm 1 o<|zZ 4 o<|yl 2 f3 bE o o o tr o<|cB h λZ H h=>ar (rK _ _ _ H) kr o o<|zA o<|zs<|zW o<|rI h o (λhc h=>?_) λhc h=>?_
 ·refine zU 2 o<|zf<|zT<|aw (R':=Res.clsif (cd f) u c.2.1.2 c.2.1.1) 0 o (cT M)<|pk [2,0,1,0] o<|fo (x:=c) (q:=f) ?_
  cases h
  exact bc o (.tmp o) (.cons_cons _ (.cons_cons _ .slnil))
 refine zk<|zt<|zs<|zU 3 o<|yl 2 f0 dR o o o tr o<|zm 1 o<|cB h λa1 G h=>rc [1] (xp _ _ _ _ _ G) kr o o o λ_=>zm 1 o<|zz<|zA o<|rI h o (λhc h=>?_) λhc h=>?_
 ·refine zU 2 o<|zf<|zT<|aw (R':=Res.clsif (cd f) u c.2.1.2 c.2.1.1) 1 o (cT M)<|pk [2,1,1,0] o<|fo (x:=c) (q:=f) ?_
  cases h
  exact bc o (.tmp o) (.cons_cons _ (.cons_cons _ .slnil))
 refine zy<|zm 3 o<|yl 2 f1 cV o o o tr o<|zm 1 o<|cB h λW N h=>rcT hT [1,0] (vp _ _ _ _ _ _ N) kr o o o λ_=>zE o<|aw (R':=Res.clsif (cd f) u W.2.1 c.2.1.1) 0 o (cT M)<|pk [2,0,1,0] o<|fo (x:=((),(c.2.1.1,W.2.1),c.2.2.1,c.2.2.2.1,c.2.2.2.2)) (q:=f) ?_
 cases h
 exact bc o (.tmp o) (.cons_cons _ (.cons_cons _ .slnil))
theorem uC(f:Value)(c u r)(h:oA c u=some r):Fn PP 24 [tp f,ti u] [Res.disk PP dI f c] (λ_=> .tup []) (λ_=>[Res.disk PP dI f r]):=by
 unfold oA at h
 refine enter Tryz.func24 o 9 o o λF=>?_
 refine gT λM V hp=>?_
 subst hp
 refine zr<|zm 2 o<|y (A6 o o) o ?_
 refine zm 2 o<|st 0 f4 ty3 o o o o tr<|zn<|ct (P:=PP) (I:=dI) (D:=(c.1,c.2.1,c.2.2.1,c.2.2.2.1,(max u 0),c.2.2.2.2.2.1,c.2.2.2.2.2.2)) ?_
 cases h
 exact et o (λ_=>aI [] .nil) ((.cons_cons _ .slnil))
theorem wH(c u M r)(h:eO c u M=some r):bm PP 152 [.one W75 c,ts u,ti M] (.one Y152 r):=by
 unfold eO at h
 refine enter Tryz.func152 o 28 o o λF=>?_
 refine zu<|aC (t:=Y152) o uu o λV=>za<|bv h (λW=>[(6,ptr V 0)]) (λW=>[Res.var V 152 Y152 ([],0,0,[],())]) (λG h=>?_) λW h=>?_
 ·refine zW o<|zb<|ah [1,2,6,9,10,11] o<|bg (γ:=Unit) (λ(f:Int) _=>[(1,ts u),(2,ti M),(6,ptr V 0),(9,.one W75 c),(10,ti (List.length c:Int)),(11,ti f)]) (λ(f:Int) _=>[Res.var V 152 Y152 ([],0,0,[],())]) (mb c u M G) 0 () h o o ?_
  clear h
  intro C f gg h
  cases C with
  |zero=>cases h
  |succ C=>
  simp only[mb]at h
  refine zW o<|zs<|rI h o (λhc h=>?_) λhc h=>?_
  ·refine zk<|zt<|zs<|zb<|zu<|iE h λhc h=>y (eZ ag o o hc.1 hc.2 o nU) o ?_
   refine y (fP o nU) o ?_
   refine aC (t:=Y152) o uu o λR=>st 0 .here nU o o o o tr<|zZ 1 o<|yl 0 f0 ty9 o o o tr o<|q 3 [(1,ts u),(2,ti M),(6,ptr V 0),(8,ptr R 0),(9,.one W75 c),(10,ti (List.length c:Int)),(11,ti f),(19,tb (((List.getD c (Int.toNat f) ([],0,0,[],())).1)==u))] [] o ?_
   obtain⟨H,e,h⟩:=al h;rw[e]
   refine aM 5 [(1,ts u),(2,ti M),(6,ptr V 0),(8,ptr R 0),(9,.one W75 c),(10,ti (List.length c:Int)),(11,ti f),(24,tb (H&&(((List.getD c (Int.toNat f) ([],0,0,[],())).2.1)==M)))] [Res.var R 152 Y152 (List.getD c (Int.toNat f) ([],0,0,[],())),Res.var V 152 Y152 ([],0,0,[],())] (?_) ?_
   ·clear h
    cases H
    ·exact zA o<|ap () o o
    refine zm 1 o<|am dl o ?_
    exact yl 0 f1 ty3 o o o tr o<|zA o<|ap () o o
   exact za<|rI h o (λhc h=>zu<|yl 0 .here nU o o o tr o<|st 1 .here nU o o o o tr<|zf<|zB<|zT<|zT<|zB<|zT<|by cases h;exact aS o (.cell 1 .here o o o aa nU) (λ_ _ g=>g) (λ_ _ _=>List.nil_sublist _)) λhc h=>zk<|zi<|zt<|zr<|zA o<|pk [1] o<|aX (wrap .i64 (f+1)) () (Nat.lt_succ_self _) h o o
  exact zx<|ze<|ze<|zq<|zt<|ai () () h o o
 refine zu<|y (aY o uu o o .nil) o ?_
 refine st 0 .here nU o o o o tr<|zf ?_
 cases h
 exact aS o (.cell 0 .here o o o aa nU) (λ_ _ g=>g) (λ_ _ _=>List.nil_sublist _)
theorem uD(p0:Value)(f H G r)(h:hO f H G=some r):Fn PP 109 [tp p0,ts H,.one W75 G] [Res.file PP dI p0 f] (λ_=> .tup []) (λ_=>[Res.file PP dI p0 r]):=by
 unfold hO at h
 refine enter Tryz.func109 o 142 o o λF=>?_
 refine yo λu W m M hp=>?_
 subst hp
 refine zU 3 o<|yl 0 f1 tx0 o o o tr o<|y (bW ag 2 o o o) o ?_
 refine q 1 [(0,ptr u 0),(1,ts H),(2,.one W75 G),(6,ti (List.length f.2.1:Int))] [] o ?_
 obtain⟨d1,e,h⟩:=al h;rw[e]
 refine zz<|o1 3 (.int .i64) Y152 o λV=>?_
 refine p 1 [0,1,2,6,7] o<|za<|bv h (λR=>[(0,ptr u 0),(6,ti R.1),(7,.one W70 V)]) (λR=>[Res.dirty PP dI M f.2.2,Res.map PP 3 (.int .i64) Y152 V R.2,Res.var u 237 FT (W,m,M,()),Res.own W 5 (.int .u8) f.1,Res.own m 5 (.int .u8) f.2.1]) (λk7 h=>?_) λR h=>?_
 ·refine zU 3 o<|yl 1 f2 qA o o o tr o<|pk [4,0,0,0,0] o<|Dj (P:=PP) (I:=dI) tU o Tryz.underlying235 o λN b3=>?_
  refine za<|zb<|cB h λrr hall h=>ah [0,1,2,6,7,26] o<|qJ (step:=eS f H G) (λs l=>l.Nodup∧∀k∈l,aA (.int .i64) k s.2=none) (rk f H G) b3 ⟨b3,λ_ _=>o⟩ hall (γ:=Unit) (λ(C:Int×(List (Int×m7))) _=>[(0,ptr u 0),(1,ts H),(2,.one W75 G),(6,ti C.1),(7,.one W70 V),(26,tp N)]) (λb5 (C:Int×(List (Int×m7))) _=>[Res.kiter PP dI M N f.2.2 b5 none,Res.map PP 3 (.int .i64) Y152 V C.2,Res.var u 237 FT (W,m,M,()),Res.own W 5 (.int .u8) f.1,Res.own m 5 (.int .u8) f.2.1]) () o o λb5 C gg hend hone=>?_
  refine zu ?_
  refine ER (P:=PP) (I:=dI) tU o o (λht=>?_) (λA61 w B63 d2 a7 hk=>?_)
  ·obtain rfl:=hend ht
   refine Bc ?_
   refine zA o<|zs ?_
   refine ii (b:=false) o (λhc=>?_) (λhc=>?_)
   ·cases hc
   exact zx<|ze<|ze<|zq<|zt<|ai (C.1,C.2) () h o o
  obtain⟨d3,a8⟩:=hone A61 w B63 a7
  clear h
  have h:=a8
  unfold eS at h
  refine zA o<|zs ?_
  refine ii (b:=true) o (λhc=>?_) (λhc=>?_)
  ·refine zk<|zt<|zb<|zu<|Dk (P:=PP) (I:=dI) o 0 o o λd4=>?_
   refine zm 2 o<|zZ 3 o<|cB h λa3 c4 h=>ar (wH _ _ _ _ c4) kr o o<|aC (t:=Y152) o uu o λb6=>st 0 .here nU o o o o tr<|zZ 2 o<|yl 0 .here nU o o o tr o<|iE h λhc h=>my 2 o o o o Gp Tryz.underlying238 hc ?_
   refine zZ 1 o<|yl 0 f2 ty3 o o o tr o<|q 2 [(6,ti C.1),(8,ti w),(9,ptr b6 0),(26,tp N),(41,tb (a3.2.2.1==1))] [0,1,2,7] o ?_
   obtain⟨b7,e,h⟩:=al h;rw[e]
   refine aM 4 [(0,ptr u 0),(1,ts H),(2,.one W75 G),(6,ti C.1),(7,.one W70 V),(8,ti w),(26,tp N),(45,tb (b7||(a3.2.2.1==2)))] [Res.var b6 152 Y152 a3,Res.kiter PP dI M N f.2.2 (A61++B63) (some w),Res.map PP 3 (.int .i64) Y152 V (dn (.int .i64) w a3 C.2),Res.var u 237 FT (W,m,M,()),Res.own W 5 (.int .u8) f.1,Res.own m 5 (.int .u8) f.2.1] (?_) ?_
   ·clear h
    cases b7
    ·refine zm 1 o<|am dl o ?_
     exact yl 0 f2 ty3 o o o tr o<|zA o<|ap () o o
    exact zA o<|ap () o o
   refine za<|rI h o (λhc h=>?_) λhc h=>?_
   ·refine zr<|zm 7 o<|yl 3 f0 tx0 o o o tr o<|y (bW ag 4 o o o) o ?_
    refine y (vy o o) o ?_
    refine y (A6 o o) o ?_
    refine q 1 [(0,ptr u 0),(1,ts H),(2,.one W75 G),(6,ti (max C.1 (min (wrap .i64 ((wrap .i64 (w+1))*64)) (List.length f.1:Int)))),(7,.one W70 V),(26,tp N)] [] o ?_
    obtain⟨d5,e,h⟩:=al h;rw[e]
    refine zn<|zi<|zt<|pk [1,1,1,1,1] o<|aw (R':=Res.kiter PP dI M N f.2.2 (A61++B63) none) 0 o vK<|ah [0,1,2,6,7,26] o ?_
    obtain rfl:=Option.some.inj h
    exact uf () a7 a8 o o
   refine zk<|zi<|zt<|pk [1,1,1,1,1] o<|aw (R':=Res.kiter PP dI M N f.2.2 (A61++B63) none) 0 o vK<|ah [0,1,2,6,7,26] o ?_
   obtain rfl:=Option.some.inj h
   exact uf () a7 a8 o o
  cases hc
 refine zU 3 o<|yl 2 f0 tx0 o o o tr o<|zm 1 o ?_
 obtain⟨Z,h⟩:=cj h
 refine y (kb ag (i:=(0:Int)) (j:=R.1) o (eM 3 o) o o Z.1 Z.2.1 Z.2.2 o ty5) o ?_
 refine cB h λO c5 h=>pX (eJ (List.take (Int.toNat R.1) f.1) _ c5) kr (λ_=>o) (λ_ r hr=>by rcases List.mem_singleton.1 hr with rfl;exact Res.free_own o) (.sub o (oe (eM 3 o) Z.1 Z.2.1 Z.2.2) .nil) o λb8=>?_
 refine q 1 [(0,ptr u 0),(7,.one W70 V),(10,.one W62 b8)] [] o<|za<|jK h (γ:=Value×Value) (λ(a4:List (Int)) g16=>[(0,ptr u 0),(10,.one W62 g16.1)]) (λ(a4:List (Int)) g16=>[Res.own g16.1 5 (.int .u8) a4,Res.dirty PP dI M f.2.2,Res.map PP 3 (.int .i64) Y152 V R.2,Res.var u 237 FT (W,g16.2,M,()),Res.own W 5 (.int .u8) f.1,Res.own g16.2 5 (.int .u8) f.2.1]) (λc6 h=>?_) λa4 g16 h=>?_
 ·refine zU 1 o<|y (bW ag 0 o o o) o ?_
  refine zA o<|zb<|ah [0,7,10,65,66] o<|bg (γ:=Value×Value) (λ(c:Int×List (Int)) g28=>[(0,ptr u 0),(7,.one W70 V),(10,.one W62 g28.1),(65,ti (List.length O:Int)),(66,ti c.1)]) (λ(c:Int×List (Int)) g28=>[Res.own g28.1 5 (.int .u8) c.2,Res.dirty PP dI M f.2.2,Res.map PP 3 (.int .i64) Y152 V R.2,Res.var u 237 FT (W,g28.2,M,()),Res.own W 5 (.int .u8) f.1,Res.own g28.2 5 (.int .u8) f.2.1]) (jV f R O c6) (0,O) (b8,m) h o o ?_
  clear h
  intro b9 c g28 h
  cases b9 with
  |zero=>cases h
  |succ b9=>
  simp only[jV]at h
  refine zW o<|zs<|rI h o (λhc h=>?_) λhc h=>?_
  ·refine zk<|zt<|jK h (γ:=Value×Value) (λ(a5:List (Int)) J=>[(0,ptr u 0),(7,.one W70 V),(10,.one W62 J.1),(65,ti (List.length O:Int)),(66,ti c.1)]) (λ(a5:List (Int)) J=>[Res.own J.1 5 (.int .u8) a5,Res.dirty PP dI M f.2.2,Res.map PP 3 (.int .i64) Y152 V R.2,Res.var u 237 FT (W,J.2,M,()),Res.own W 5 (.int .u8) f.1,Res.own J.2 5 (.int .u8) f.2.1]) (λd6 h=>?_) λa5 J h=>?_
   ·refine zb<|zU 2 o<|zz<|q 3 [(10,.one W62 g28.1),(11,ti c.1),(12,ti (wrap .i64 (Int.tdiv c.1 64))),(65,ti (List.length O:Int)),(66,ti c.1)] [0,7] o ?_
    obtain⟨d,e,h⟩:=al h;rw[e]
    refine zZ 2 o<|y (xY 2 o o o Gp Tryz.underlying238 uu o) o ?_
    refine zm 3 o<|aC (t:=Y152) o uu o λa6=>st 0 .here nU o o o o tr<|q 1 [(12,ti d),(13,ptr a6 0),(14,tb (Option.isSome (aA (.int .i64) d R.2)))] [0,7,10,11,65,66] o ?_
    obtain⟨d7,e,h⟩:=al h;rw[e]
    refine za<|zb<|zu<|p 3 [0,7,10,11,12,13,65,66,100] o ?_
    obtain⟨c0,e,h⟩:=al h;rw[e]
    refine aM 4 [(0,ptr u 0),(7,.one W70 V),(10,.one W62 g28.1),(11,ti c.1),(12,ti d),(13,ptr a6 0),(65,ti (List.length O:Int)),(66,ti c.1),(104,tb (c0||(((Option.getD (aA (.int .i64) d R.2) ([],0,0,[],())).2.2.1)==1)))] [Res.var a6 152 Y152 (Option.getD (aA (.int .i64) d R.2) ([],0,0,[],())),Res.own g28.1 5 (.int .u8) c.2,Res.dirty PP dI M f.2.2,Res.map PP 3 (.int .i64) Y152 V R.2,Res.var u 237 FT (W,g28.2,M,()),Res.own W 5 (.int .u8) f.1,Res.own g28.2 5 (.int .u8) f.2.1] (?_) ?_
    ·clear h
     cases c0
     ·refine zm 1 o<|am dl o ?_
      exact yl 0 f2 ty3 o o o tr o<|zA o<|ap () o o
     exact zA o<|ap () o o
    refine zA o<|rI h o (λhc h=>zk<|zi<|zi<|zt<|pk [1,1,1,1,1,1] o<|ai c.2 (g28.1,g28.2) h o o) λhc h=>zU 1 o<|yl 0 f2 ty3 o o o tr o<|zA o<|rI h o (λhc h=>?_) λhc h=>?_
    ·refine zU 2 o<|iE h λhc h=>ce 1 o pix λa9 b0 b1 hv=>?_
     rw[hv]
     try clear hv
     refine y (cx ag o o hc.1 (by first|exact hc.2|simpa using hc.2) o ty5) o ?_
     refine mw 1 (Int.toNat c.1) .here o o o pix pof aa ty5 ?_
     refine zz<|q 5 [(0,ptr u 0),(7,.one W70 V),(10,.one W62 (.slice (some ⟨a9,b0,none⟩) (List.length c.2) b1)),(11,ti c.1),(13,ptr a6 0),(15,ti (wrap .i64 (c.1 - (wrap .i64 (d*64))))),(65,ti (List.length O:Int)),(66,ti c.1)] [] o ?_
     obtain⟨b2,e,h⟩:=al h;rw[e]
     refine zZ 2 o<|yl 0 f3 ty9 o o o tr o<|q 2 [(15,ti b2),(120,tb (decide (b2<(List.length ((Option.getD (aA (.int .i64) d R.2) ([],0,0,[],())).2.2.2.1):Int))))] [0,7,10,11,13,65,66] o ?_
     obtain⟨d8,e,h⟩:=al h;rw[e]
     refine za<|rI h o (λhc h=>?_) λhc h=>?_
     ·refine zr<|zm 3 o<|yl 0 f3 ty9 o o o tr o<|zm 1 o<|iE h λhc h=>y (gq ag o o hc.1 hc.2 o) o ?_
      refine iE h λhc h=>y (cx ag o o hc.1 (by first|exact hc.2|simpa using hc.2) o ty5) o ?_
      refine mw 1 (Int.toNat c.1) .here o o o pix pof aa ty5 ?_
      exact zn<|zi<|zi<|zt<|pk [1,1,1,1,1,1] o<|ai (List.set (List.set c.2 (Int.toNat c.1) 0) (Int.toNat c.1) (List.getD ((Option.getD (aA (.int .i64) d R.2) ([],0,0,[],())).2.2.2.1) (Int.toNat b2) 0)) ((.slice (some ⟨a9,b0,none⟩) (List.length c.2) b1),g28.2) h o o
     exact zk<|zi<|zi<|zt<|pk [1,1,1,1,1,1] o<|ai (List.set c.2 (Int.toNat c.1) 0) ((.slice (some ⟨a9,b0,none⟩) (List.length c.2) b1),g28.2) h o o
    refine zU 2 o<|iE h λhc h=>ce 1 o pix λc1 c2 c3 hv=>?_
    rw[hv]
    try clear hv
    refine y (cx ag o o hc.1 (by first|exact hc.2|simpa using hc.2) o ty5) o ?_
    refine mw 1 (Int.toNat c.1) .here o o o pix pof aa ty5 ?_
    refine zZ 4 o<|yl 4 f1 tx0 o o o tr o<|y (bW ag 6 o o o) o ?_
    refine zA o<|rI h o (λhc h=>?_) λhc h=>?_
    ·refine zr<|zm 5 o<|yl 4 f1 tx0 o o o tr o<|zm 1 o<|iE h λhc h=>ce 6 o pix λc7 c8 c9 hv=>?_
     rw[hv]
     try clear hv
     refine y (cx ag o o hc.1 (by first|exact hc.2|simpa using hc.2) o ty5) o ?_
     refine y (dE 6 (Int.toNat c.1) .here o o pix pof aa ty5) o ?_
     refine iE h λhc h=>y (cx ag o o hc.1 (by first|exact hc.2|simpa using hc.2) o ty5) o ?_
     refine mw 1 (Int.toNat c.1) .here o o o pix pof aa ty5 ?_
     exact zn<|zi<|zi<|zt<|pk [1,1,1,1,1,1] o<|ai (List.set (List.set c.2 (Int.toNat c.1) 0) (Int.toNat c.1) (List.getD f.2.1 (Int.toNat c.1) 0)) ((.slice (some ⟨c1,c2,none⟩) (List.length c.2) c3),(.slice (some ⟨c7,c8,none⟩) (List.length f.2.1) c9)) h o o
    exact zk<|zi<|zi<|zt<|pk [1,1,1,1,1,1] o<|ai (List.set c.2 (Int.toNat c.1) 0) ((.slice (some ⟨c1,c2,none⟩) (List.length c.2) c3),g28.2) h o o
   exact zr<|zA o<|aX ((wrap .i64 (c.1+1)),a5) (J.1,J.2) (Nat.lt_succ_self _) h o o
  exact zx<|ze<|ze<|zq<|zt<|ai c.2 (g28.1,g28.2) h o o
 refine zU 4 o<|cB h λd9 d0 h=>pX (eJ a4 _ d0) kr (λ_=>o) (λ_ r hr=>by rcases List.mem_singleton.1 hr with rfl;exact Res.free_own o) (.sub o (eM 0 o) .nil) o λe0=>?_
 refine zm 2 o<|st 4 f0 tx0 o o o o tr<|pk [0,0,0,0,0,1] o<|zm 2 o<|st 4 f1 tx0 o o o o tr<|nL o<|pk [0,0,0,0,0] o<|za<|zr<|zm 3 o<|yl 4 f2 qA o o o tr o<|nj 2 o λe1 e2=>?_
 refine Ap 2 o o Tryz.underlying235 ?_
 refine jg (P:=PP) (I:=dI) (keys:=[]) 2 o o ?_
 refine zn<|pk [4,1,0,0,0] o<|Ch (P:=PP) (I:=dI) ?_
 cases h
 exact et o (λ_=>aI [] .nil) ((.cons_cons _ (.cons _ .slnil)))
theorem pi(W:Value)(c f r)(h:lA c f=some r):Fn PP 61 [tp W,.one W75 f] [Res.disk PP dI W c] (λ_=> .tup []) (λ_=>[Res.disk PP dI W r]):=by
 unfold lA at h
 refine enter Tryz.func61 o 43 o o λF=>?_
 refine gT λu M hp=>?_
 subst hp
 refine zs<|zU 3 o<|yl 0 f5 ty4 o o o tr o<|q 1 [(0,ptr u 0),(1,.one W75 f),(10,tb c.2.2.2.2.2.1)] [] o<|aM 6 [(0,ptr u 0),(1,.one W75 f),(16,tb (c.2.2.2.2.2.1&&(!c.2.2.2.2.2.2)))] [Res.var u 123 DT (cy c M c.2.2.2.2.2.2 ()),Res.dfiles PP dI M c.2.1] (?_) ?_
 ·clear h
  rcases Bool.eq_false_or_eq_true c.2.2.2.2.2.1 with hh|hh
  ·refine o5 10 hh o ?_
   refine zm 3 o<|am dl o ?_
   exact yl 0 f6 ty4 o o o tr o<|zA o<|ap () (by first|rfl|(rw[hh];done)|(rw[hh];rfl)) o
  refine o5 10 hh o ?_
  exact zA o<|ap () (by first|rfl|(rw[hh];done)|(rw[hh];rfl)) o
 refine za<|rI h o (λhc h=>zR<|zT<|ct (P:=PP) (I:=dI) (D:=c)<|by cases h;exact rp o (λ_=>aI [] .nil) ((.cons_cons _ .slnil))) λhc h=>zk<|zt<|bv h (λR=>[(0,ptr u 0)]) (λR=>[Res.dfiles PP dI M R,Res.var u 123 DT (cy c M c.2.2.2.2.2.2 ())]) (λZ h=>?_) λR h=>?_
 ·refine zU 3 o<|yl 0 f1 mX o o o tr o<|pk [1,0] o<|yn dW o Tryz.underlying121 o λC d=>?_
  refine za<|zb<|cB h λrr hall h=>ah [0,1,21] o<|qJ (step:=ip f) (λ_ _=>True) (qp f) d tr hall (γ:=Unit) (λ(V:(List (List Int×aF))) _=>[(0,ptr u 0),(1,.one W75 f),(21,tp C)]) (λH (V:(List (List Int×aF))) _=>[Res.diter PP dI M C V H none none,Res.var u 123 DT (cy c M c.2.2.2.2.2.2 ())]) () o o λH V gg hend hone=>?_
  refine zu ?_
  refine wq dW o o (λht=>?_) (λA13 G B15 a2 N hk=>?_)
  ·obtain rfl:=hend ht
   refine vJ ?_
   refine zA o<|zs ?_
   refine ii (b:=false) o (λhc=>?_) (λhc=>?_)
   ·cases hc
   exact zx<|ze<|ze<|zq<|zt<|ai V () h o o
  obtain⟨a3,J⟩:=hone A13 G B15 N
  clear h
  have h:=J
  unfold ip at h
  refine zA o<|zs ?_
  refine ii (b:=true) o (λhc=>?_) (λhc=>?_)
  ·refine zk<|zt<|zb<|zu<|y (uZ o 0 o) o ?_
   refine zA o<|zr<|zm 3 o<|cB h λf18 m h=>wW m λa4 a5 a6 a7 hq=>?_
   rw[hq]
   clear hq
   refine Ch (P:=PP) (I:=dI) ?_
   refine cB h λO w h=>rc [0] (uD _ _ _ _ _ w) kr o o o λ_=>zn<|zi<|zt<|Cg λa8 a9 b0=>?_
   refine zK (P:=PP) (I:=dI) ?_
   refine aw (R':=Res.diter PP dI M C (cm .str G O V) (A13++B15) none none) 0 o sr<|ah [0,1,21] o ?_
   obtain rfl:=Option.some.inj h
   exact uf () N J o o
  cases hc
 refine zr<|zm 6 o<|st 1 f5 ty4 o o o o tr<|zm 2 o<|st 1 f6 ty4 o o o o tr<|nL o<|zm 2 o<|st 1 f2 ty3 o o o o tr<|zm 2 o<|st 1 f4 ty3 o o o o tr<|nL o<|zn<|pk [1,0] o<|ct (P:=PP) (I:=dI) (D:=(c.1,R,0,c.2.2.2.1,0,true,false)) ?_
 cases h
 exact et o (λ_=>aI [] .nil) ((.cons_cons _ .slnil))
theorem we(u:Value)(f r)(h:qc f=some r):Fn PP 62 [tp u] [Res.disk PP dI u f] (λ_=> .tup []) (λ_=>[Res.disk PP dI u r]):=by
 unfold qc at h
 refine enter Tryz.func62 o 11 o o λF=>?_
 refine gT λM W hp=>?_
 subst hp
 refine bv h (λc=>[(0,ptr M 0)]) (λc=>[Res.disk PP dI (.pointer (some ⟨M,0,none⟩)) c]) (λC h=>?_) λc h=>?_
 ·refine zU 3 o<|yl 0 f6 ty4 o o o tr o<|za<|rI h o (λhc h=>?_) λhc h=>?_
  ·refine zr<|zm 1 o<|ct (P:=PP) (I:=dI) (D:=f)<|cB h λV R h=>AA (Lo:=[]) (pi (.pointer (some ⟨M,0,none⟩)) f [] _ R) kr (fQ (is:=[0]) o) (.val o (.nilsl .nil)) o λ_=>?_
   exact za<|ai V () h o o
  exact zk<|zt<|ct (P:=PP) (I:=dI) (D:=f)<|ai f () h o o
 refine Ca λH=>?_
 refine zr<|zm 3 o<|st 0 f5 ty4 o o o o tr<|zn<|ct (P:=PP) (I:=dI) (D:=(c.1,c.2.1,c.2.2.1,c.2.2.2.1,c.2.2.2.2.1,false,c.2.2.2.2.2.2)) ?_
 cases h
 exact et o (λ_=>aI [] .nil) ((.cons_cons _ .slnil))
theorem s3(r)(h:iL=some r):FnT PP bD 12 [] [] (λ_=>tb r) (λ_=>[]):=by
 unfold iL at h
 refine ik Tryz.func12 o 137 o o λF hT=>?_
 refine zU 1 o<|zz<|cB h λG b1 h=>gp (Lo:=[]) (uO 100000 _ b1) kr (List.Perm.refl _) o o λc=>?_
 refine zA o<|zs<|zU 1 o<|y (Cj 0 o o Tryz.underlying42) o ?_
 refine q 1 [(1,tp (au c 0)),(2,ti G.1),(20,tb (G.1 !=0))] [] o ?_
 obtain⟨b3,e,h⟩:=al h;rw[e]
 refine aM 3 [(1,tp (au c 0)),(23,tb (b3||(G.1 !=0)))] [Res.diskif PP dI (au c 0) G.2 G.1] (?_) ?_
 ·clear h
  cases b3
  ·exact zA o<|ap () o o
  exact zA o<|ap () o o
 refine za<|rI h o (λhc h=>zU 1 o<|zf<|zT<|by cases h;exact ax o (.tmp o)) λhc h=>zy<|zm 1 o<|cB h λr4 b2 h=>ar (nr _ b2) kr o o ?_
 obtain⟨b4,h⟩:=cj h
 refine aw (R':=Res.disk PP dI (au c 0) G.2) 0 o (uH b4)<|cB h λM b5 h=>rcT hT [0] (pq _ _ _ _ b5) kr o o o λu=>zA o<|zs<|zU 1 o<|y (yz 1 o o Tryz.underlying45) o ?_
 refine q 1 [(1,tp (au c 0)),(2,ti M.2.1),(3,tp (au u 0)),(32,tb (M.1.1 !=0))] [] o ?_
 obtain⟨O,e,h⟩:=al h;rw[e]
 refine aM 3 [(1,tp (au c 0)),(3,tp (au u 0)),(35,tb (O||(M.2.1 !=0)))] [Res.disk PP dI (au c 0) M.2.2,Res.clsif (aZ (au c 0)) (au u 0) M.1.2 M.1.1] (?_) ?_
 ·clear h
  cases O
  ·exact zA o<|ap () o o
  exact zA o<|ap () o o
 refine q 1 [(1,tp (au c 0)),(3,tp (au u 0)),(36,tb (O||(M.2.1 !=0)))] [] o ?_
 obtain⟨b9,e,h⟩:=al h;rw[e]
 refine bQ h 4 (λd=>[(1,tp (au c 0)),(3,tp (au u 0)),(40,tb d)]) (λ_=>[Res.disk PP dI (au c 0) M.2.2,Res.clsif (aZ (au c 0)) (au u 0) M.1.2 M.1.1]) (λe6 h=>?_) λd h=>?_
 ·cases b9
  ·replace h:=ifF h
   refine zm 1 o<|am dl o ?_
   obtain⟨a5,h⟩:=cj h
   exact aw (R':=Res.cls (aZ (au c 0)) (au u 0) M.1.2) 1 o (dM a5)<|cB h λb6 b7 h=>rc [1,0] (tl _ _ _ _ _ b7) kr o o o λ_=>zN o<|ah [1,3,40] o<|aw (R':=Res.clsif (aZ (au c 0)) (au u 0) M.1.2 M.1.1) 0 o (cT a5)<|nL o<|pk [1,0] o<|zt<|ai (b6 !=(-1)) () h o o
  replace h:=ifT h
  exact zN o<|zt<|ai true () h o o
 refine q 1 [(1,tp (au c 0)),(3,tp (au u 0)),(41,tb d)] [] o<|bQ h 5 (λm=>[(1,tp (au c 0)),(3,tp (au u 0)),(46,tb m)]) (λ_=>[Res.disk PP dI (au c 0) M.2.2,Res.clsif (aZ (au c 0)) (au u 0) M.1.2 M.1.1]) (λe7 h=>?_) λm h=>?_
 ·cases d
  ·replace h:=ifF h
   refine zm 1 o<|am dl o ?_
   obtain⟨a6,h⟩:=cj h
   refine aw (R':=Res.cls (aZ (au c 0)) (au u 0) M.1.2) 1 o (dM a6)<|cB h λc0 c1 h=>rc [1,0] (cK _ _ _ _ _ c1) kr o o o λ_=>am dl o ?_
   refine y (t7 f2 o o (ab (ab (aq aa))) BG o o ty2) o ?_
   exact zN o<|ah [1,3,46] o<|aw (R':=Res.clsif (aZ (au c 0)) (au u 0) M.1.2 M.1.1) 0 o (cT a6)<|nL o<|pk [1,0] o<|zt<|ai (c0.2.2.1 !=700) () h o o
  replace h:=ifT h
  exact zN o<|zt<|ai true () h o o
 refine q 1 [(1,tp (au c 0)),(3,tp (au u 0)),(47,tb m)] [] o<|bQ h 6 (λa7=>[(1,tp (au c 0)),(3,tp (au u 0)),(53,tb a7)]) (λ_=>[Res.disk PP dI (au c 0) M.2.2,Res.clsif (aZ (au c 0)) (au u 0) M.1.2 M.1.1]) (λe8 h=>?_) λa7 h=>?_
 ·cases m
  ·replace h:=ifF h
   refine zm 1 o<|am dl o ?_
   obtain⟨a8,h⟩:=cj h
   refine aw (R':=Res.cls (aZ (au c 0)) (au u 0) M.1.2) 1 o (dM a8)<|cB h λc2 c3 h=>rc [1,0] (cK _ _ _ _ _ c3) kr o o o λ_=>am dl o ?_
   refine y (t7 f4 o o (ab (ab (ab (ab (aq aa))))) BG o o iY) o ?_
   exact zN o<|ah [1,3,53] o<|aw (R':=Res.clsif (aZ (au c 0)) (au u 0) M.1.2 M.1.1) 0 o (cT a8)<|nL o<|pk [1,0] o<|zt<|ai ((List.length c2.2.2.2.2.1:Int) !=0) () h o o
  replace h:=ifT h
  exact zN o<|zt<|ai true () h o o
 refine za<|rI h o (λhc h=>zU 1 o<|zf<|zT<|by cases h;exact ax o (.tmp o)) λhc h=>zy<|zm 1 o<|cB h λe9 c4 h=>ar (jG _ _ c4) kr o o<|bu (B:=232) ag o y5 o o o (.cons o .nil) o λf0=>?_
 obtain⟨c5,h⟩:=cj h
 refine aw (R':=Res.cls (aZ (au c 0)) (au u 0) M.1.2) 2 o (dM c5)<|kB (i:=0) (k:=56) o o ?_
 refine cB h λw c6 h=>rcT hT [1,0] (iQ _ _ _ _ _ _ c6) kr o o o λ_=>zm 1 o<|zZ 1 o<|cB h λf3 c7 h=>ar (jG _ _ c7) kr o o<|bu (B:=232) ag o y5 o o o (.cons o .nil) o λf5=>?_
 refine kB (i:=0) (k:=60) o o ?_
 refine cB h λJ c8 h=>rcT hT [0,0] (iQ _ _ _ _ _ _ c8) kr o o o λ_=>zm 1 o<|zZ 1 o<|cB h λH c9 h=>rcT hT [0,0] (pM _ _ _ _ _ c9) kr o o o λ_=>zm 1 o<|zZ 1 o<|cB h λf6 d0 h=>ar (jG _ _ d0) kr o o<|bu (B:=232) ag o y5 o o o (.cons o .nil) o λf7=>?_
 refine kB (i:=0) (k:=66) o o ?_
 refine cB h λC d1 h=>rcT hT [0,0] (iQ _ _ _ _ _ _ d1) kr o o o λ_=>zm 1 o<|zZ 1 o<|cB h λf8 d2 h=>rc [1] (uC _ _ _ _ d2) kr o o o λ_=>zZ 1 o<|cB h λf9 d3 h=>ar (jG _ _ d3) kr o o<|bu (B:=232) ag o y5 o o o (.cons o .nil) o λg0=>?_
 refine kB (i:=0) (k:=72) o o ?_
 refine cB h λR d4 h=>rcT hT [1,0] (iQ _ _ _ _ _ _ d4) kr o o o λ_=>zm 1 o<|zZ 1 o<|cB h λg1 d5 h=>AA (Lo:=[Res.cls (aZ (au c 0)) (au u 0) R.2.1]) (pi (au c 0) R.2.2 [] _ d5) kr (fQ (is:=[1]) o) (.val o (.nilsl .nil)) o λ_=>?_
 refine zZ 1 o<|cB h λg2 d6 h=>rc [0] (we _ _ _ d6) kr o o o λ_=>zZ 1 o<|cB h λg3 d7 h=>ar (nr _ d7) kr o o<|cB h λf d8 h=>rcT hT [0] (pq _ _ _ _ d8) kr o o o λV=>zA o<|zs<|zU 1 o<|y (yz 1 o o Tryz.underlying45) o ?_
 refine q 1 [(4,ti w.1),(5,ti J.1),(6,ti H.1),(7,ti C.1),(8,ti R.1),(9,tp (au V 0)),(10,ti f.2.1),(86,tb (f.1.1 !=0))] [] o ?_
 obtain⟨Z,e,h⟩:=al h;rw[e]
 refine aM 3 [(5,ti J.1),(6,ti H.1),(7,ti C.1),(8,ti R.1),(9,tp (au V 0)),(10,ti f.2.1),(89,tb (Z||(w.1 !=0)))] [Res.disk PP dI (au c 0) f.2.2,Res.clsif (aZ (au c 0)) (au V 0) f.1.2 f.1.1,Res.cls (aZ (au c 0)) (au u 0) R.2.1] (?_) ?_
 ·clear h
  cases Z
  ·exact zA o<|ap () o o
  exact zA o<|ap () o o
 refine q 1 [(5,ti J.1),(6,ti H.1),(7,ti C.1),(8,ti R.1),(9,tp (au V 0)),(10,ti f.2.1),(90,tb (Z||(w.1 !=0)))] [] o ?_
 obtain⟨a0,e,h⟩:=al h;rw[e]
 refine aM 3 [(6,ti H.1),(7,ti C.1),(8,ti R.1),(9,tp (au V 0)),(10,ti f.2.1),(93,tb (a0||(J.1 !=170)))] [Res.disk PP dI (au c 0) f.2.2,Res.clsif (aZ (au c 0)) (au V 0) f.1.2 f.1.1,Res.cls (aZ (au c 0)) (au u 0) R.2.1] (?_) ?_
 ·clear h
  cases a0
  ·exact zA o<|ap () o o
  exact zA o<|ap () o o
 refine q 1 [(6,ti H.1),(7,ti C.1),(8,ti R.1),(9,tp (au V 0)),(10,ti f.2.1),(94,tb (a0||(J.1 !=170)))] [] o ?_
 obtain⟨a1,e,h⟩:=al h;rw[e]
 refine aM 3 [(7,ti C.1),(8,ti R.1),(9,tp (au V 0)),(10,ti f.2.1),(97,tb (a1||(H.1 !=0)))] [Res.disk PP dI (au c 0) f.2.2,Res.clsif (aZ (au c 0)) (au V 0) f.1.2 f.1.1,Res.cls (aZ (au c 0)) (au u 0) R.2.1] (?_) ?_
 ·clear h
  cases a1
  ·exact zA o<|ap () o o
  exact zA o<|ap () o o
 refine q 1 [(7,ti C.1),(8,ti R.1),(9,tp (au V 0)),(10,ti f.2.1),(98,tb (a1||(H.1 !=0)))] [] o ?_
 obtain⟨a2,e,h⟩:=al h;rw[e]
 refine aM 3 [(8,ti R.1),(9,tp (au V 0)),(10,ti f.2.1),(101,tb (a2||(C.1 !=0)))] [Res.disk PP dI (au c 0) f.2.2,Res.clsif (aZ (au c 0)) (au V 0) f.1.2 f.1.1,Res.cls (aZ (au c 0)) (au u 0) R.2.1] (?_) ?_
 ·clear h
  cases a2
  ·exact zA o<|ap () o o
  exact zA o<|ap () o o
 refine q 1 [(8,ti R.1),(9,tp (au V 0)),(10,ti f.2.1),(102,tb (a2||(C.1 !=0)))] [] o ?_
 obtain⟨a3,e,h⟩:=al h;rw[e]
 refine aM 3 [(9,tp (au V 0)),(10,ti f.2.1),(105,tb (a3||(R.1 !=9)))] [Res.disk PP dI (au c 0) f.2.2,Res.clsif (aZ (au c 0)) (au V 0) f.1.2 f.1.1,Res.cls (aZ (au c 0)) (au u 0) R.2.1] (?_) ?_
 ·clear h
  cases a3
  ·exact zA o<|ap () o o
  exact zA o<|ap () o o
 refine q 1 [(9,tp (au V 0)),(10,ti f.2.1),(106,tb (a3||(R.1 !=9)))] [] o ?_
 obtain⟨a9,e,h⟩:=al h;rw[e]
 refine aM 3 [(9,tp (au V 0)),(109,tb (a9||(f.2.1 !=0)))] [Res.disk PP dI (au c 0) f.2.2,Res.clsif (aZ (au c 0)) (au V 0) f.1.2 f.1.1,Res.cls (aZ (au c 0)) (au u 0) R.2.1] (?_) ?_
 ·clear h
  cases a9
  ·exact zA o<|ap () o o
  exact zA o<|ap () o o
 refine za<|rI h o (λhc h=>zU 1 o<|zf<|zT<|by cases h;exact ax o (.tmp o)) λhc h=>zy<|cB h λW d9 h=>ar (td _ _ d9) kr o o<|zm 4 o<|aC (t:=Y30) o fO o λa4=>zm 1 o<|st 0 .here bE o o o o tr<|zm 1 o<|zZ 1 o ?_
 obtain⟨e0,h⟩:=cj h
 refine aw (R':=Res.cls (aZ (au c 0)) (au V 0) f.1.2) 2 o (dM e0)<|nL o<|cB h λe1 e2 h=>rc [2,1] (cK _ _ _ _ _ e2) kr o o o λ_=>y (t7 f4 o o (ab (ab (ab (ab (aq aa))))) BG o o iY) o ?_
 refine q 3 [(9,tp (au V 0)),(11,ti W.1),(13,ti W.2.2),(120,tb ((List.length e1.2.2.2.2.1:Int)==2))] [] o ?_
 obtain⟨e3,e,h⟩:=al h;rw[e]
 refine bQ h 8 (λN=>[(11,ti W.1),(13,ti W.2.2),(128,tb N)]) (λ_=>[Res.cls (aZ (au c 0)) (au V 0) f.1.2,Res.disk PP dI (au c 0) f.2.2,Res.var a4 30 Y30 W.2.1,Res.cls (aZ (au c 0)) (au u 0) R.2.1]) (λg4 h=>?_) λN h=>?_
 ·cases e3
  ·replace h:=ifF h
   exact zN o<|zt<|ai false () h o o
  replace h:=ifT h
  refine zm 1 o<|am dl o ?_
  refine cB h λe4 e5 h=>rc [0,0] (cK _ _ _ _ _ e5) kr o o o λ_=>am dl o ?_
  refine y (t7 f4 o o (ab (ab (ab (ab (aq aa))))) BG o o iY) o ?_
  refine am dl o ?_
  refine iE h λhc h=>y (eZ ag o o hc.1 hc.2 o bB) o ?_
  refine am dl o ?_
  refine y (xN ag f1 o o o o (ab (aq aa))) o ?_
  refine am dl o ?_
  refine y (fP o ty2) o ?_
  exact zN o<|zt<|ai (((List.getD e4.2.2.2.2.1 1 (0,0,0,z32,[],())).2.1)==1) () h o o
 refine q 1 [(11,ti W.1),(13,ti W.2.2),(129,tb N)] [] o<|aM 3 [(13,ti W.2.2),(132,tb (N&&(W.1==0)))] [Res.cls (aZ (au c 0)) (au V 0) f.1.2,Res.disk PP dI (au c 0) f.2.2,Res.var a4 30 Y30 W.2.1,Res.cls (aZ (au c 0)) (au u 0) R.2.1] (?_) ?_
 ·clear h
  cases N
  ·exact zA o<|ap () o o
  exact zA o<|ap () o o
 refine q 1 [(13,ti W.2.2),(133,tb (N&&(W.1==0)))] [] o ?_
 obtain⟨b0,e,h⟩:=al h;rw[e]
 refine aM 3 [(136,tb (b0&&(W.2.2==210)))] [Res.cls (aZ (au c 0)) (au V 0) f.1.2,Res.disk PP dI (au c 0) f.2.2,Res.var a4 30 Y30 W.2.1,Res.cls (aZ (au c 0)) (au u 0) R.2.1] (?_) ?_
 ·clear h
  cases b0
  ·exact zA o<|ap () o o
  exact zA o<|ap () o o
 refine zE o ?_
 cases h
 exact ax o (.tmp o)
theorem nt(c r)(h:ge c=some r):bm PP 16 [.one Y30 c] (.one Y30 r):=by
 unfold ge at h
 refine enter Tryz.func16 o 16 o o λF=>?_
 refine zu<|bA o o λV=>aC (t:=Y30) o fO o λR=>zZ 1 o<|yl 1 f4 iY o o o tr o<|bT (.slice none 0 0) o 52 Y52 ?_
 refine iE h λhc h=>bd (B:=72) ag 0 o o (pV o) o iq o o hc o λM=>?_
 refine zm 1 o<|iS (t:=Y30) (v:=W62) 2 f4 o o o o o o tx1 ?_
 refine nL o<|zZ 1 o<|yl 2 f5 iY o o o tr o<|bT (.slice none 0 0) o 52 Y52 ?_
 refine iE h λhc h=>bd (B:=72) ag 0 o o (pV o) o iq o o hc o λu=>?_
 refine zm 1 o<|iS (t:=(.pair (.int .i64) (.pair (.int .i64) (.pair (.int .i64) (.pair (.int .i64) (.pair W62 (.pair W76 W23))))))) (v:=W62) 3 f5 o o o o o o tx1 ?_
 refine nL o<|zZ 1 o<|yl 3 f15 qd o o o tr o<|bT (.slice none 0 0) o 56 Y56 ?_
 refine iE h λhc h=>bd (B:=48) ag 0 o o (pV o) o tT o o hc o λf=>?_
 refine zm 1 o<|iS (t:=(.pair (.int .i64) (.pair (.int .i64) (.pair (.int .i64) (.pair (.int .i64) (.pair W62 (.pair W62 W23))))))) (v:=W62) 4 f15 o o o o o o tx2 ?_
 refine nL o<|za<|zs<|pk [2,3,0,0,0] o<|ep (v:=M) (T0:=W0) (x0:=((c).1,(c).2.1,(c).2.2.1,(c).2.2.2.1,M,u,(((c).2.2.2.2.2).2).1,(((c).2.2.2.2.2).2).2.1,(((c).2.2.2.2.2).2).2.2.1,(((c).2.2.2.2.2).2).2.2.2.1,(((c).2.2.2.2.2).2).2.2.2.2.1,(((c).2.2.2.2.2).2).2.2.2.2.2.1,(((c).2.2.2.2.2).2).2.2.2.2.2.2.1,(((c).2.2.2.2.2).2).2.2.2.2.2.2.2.1,(((c).2.2.2.2.2).2).2.2.2.2.2.2.2.2.1,f,(((c).2.2.2.2.2).2).2.2.2.2.2.2.2.2.2.2)) (t:=Y52) f4 o o ?_
 refine pk [2,0,0,0] o<|ep (v:=u) (T0:=W2) (x0:=((c).1,(c).2.1,(c).2.2.1,(c).2.2.2.1,([]++c.2.2.2.2.1),u,(((c).2.2.2.2.2).2).1,(((c).2.2.2.2.2).2).2.1,(((c).2.2.2.2.2).2).2.2.1,(((c).2.2.2.2.2).2).2.2.2.1,(((c).2.2.2.2.2).2).2.2.2.2.1,(((c).2.2.2.2.2).2).2.2.2.2.2.1,(((c).2.2.2.2.2).2).2.2.2.2.2.2.1,(((c).2.2.2.2.2).2).2.2.2.2.2.2.2.1,(((c).2.2.2.2.2).2).2.2.2.2.2.2.2.2.1,f,(((c).2.2.2.2.2).2).2.2.2.2.2.2.2.2.2.2)) (t:=Y52) f5 o o ?_
 refine pk [1,0,0] o<|ep (v:=f) (T0:=W4) (x0:=((c).1,(c).2.1,(c).2.2.1,(c).2.2.2.1,([]++c.2.2.2.2.1),([]++(((c).2.2.2.2.2).1)),(((c).2.2.2.2.2).2).1,(((c).2.2.2.2.2).2).2.1,(((c).2.2.2.2.2).2).2.2.1,(((c).2.2.2.2.2).2).2.2.2.1,(((c).2.2.2.2.2).2).2.2.2.2.1,(((c).2.2.2.2.2).2).2.2.2.2.2.1,(((c).2.2.2.2.2).2).2.2.2.2.2.2.1,(((c).2.2.2.2.2).2).2.2.2.2.2.2.2.1,(((c).2.2.2.2.2).2).2.2.2.2.2.2.2.2.1,f,(((c).2.2.2.2.2).2).2.2.2.2.2.2.2.2.2.2)) (t:=Y56) f15 o o ?_
 refine zr<|yl 0 .here bE o o o tr o<|st 1 .here bE o o o o tr<|zf ?_
 cases h
 exact aS o (.cell 1 .here o o o aa bE) (λ_ _ g=>g) (λ_ _ _=>List.nil_sublist _)
theorem n6(c u r)(h:hP c u=some r):bm PP 58 [.one W76 c,.one W76 u] (tb r):=by
 unfold hP at h
 refine enter Tryz.func58 o 26 o o λF=>?_
 refine zW o<|zs<|zW o<|rI h o (λhc h=>zU 1 o<|zf<|zT<|by cases h;exact ax o (.tmp o)) λhc h=>zk<|zt<|bv h (λM=>[]) (λM=>[]) (λR h=>?_) λM h=>?_
 ·refine zW o<|zb<|ah [0,1,5] o<|bg (γ:=Unit) (λ(f:Int) _=>[(0,.one W76 c),(1,.one W76 u),(5,ti f)]) (λ(f:Int) _=>[]) (eW c u R) 0 () h o o ?_
  clear h
  intro V f gg h
  cases V with
  |zero=>cases h
  |succ V=>
  simp only[eW]at h
  refine zs<|zW o<|rI h o (λhc h=>?_) λhc h=>?_
  ·refine zk<|zt<|zs<|zb<|zs<|eL kr kr ?_
   refine ay ag 2 [0,1,5,17,18] (E':=[(0,.one W76 c),(1,.one W76 u),(5,ti f),(17,.one W76 c),(18,ti f)]) o ?_
   refine iE h λhc h=>q_y (eZ ag o o hc.1 hc.2 o bB) o ?_
   refine q_y (fP o bB) o ?_
   refine ay ag 2 [0,1,5,20,21,22] (E':=[(0,.one W76 c),(1,.one W76 u),(5,ti f),(20,.one Y52 (List.getD c (Int.toNat f) (0,0,0,z32,[],()))),(21,.one W76 u),(22,ti f)]) o ?_
   refine iE h λhc h=>q_y (eZ ag o o hc.1 hc.2 o bB) o ?_
   refine q_y (fP o bB) o ?_
   refine q_y (oH 20 o o o o bB o Ea Eb) o ?_
   refine fa ?_
   refine zt<|rI h o (λhc h=>zU 1 o<|zf<|zB<|zT<|zT<|zB<|zT<|by cases h;exact ax o (.tmp o)) λhc h=>zk<|zi<|zt<|zr<|q 3 [(0,.one W76 c),(1,.one W76 u),(5,ti (wrap .i64 (f+1)))] [] o ?_
   obtain⟨W,e,h⟩:=al h;rw[e]
   exact za<|aX W () (Nat.lt_succ_self _) h o o
  exact zx<|ze<|ze<|zq<|zt<|ai () () h o o
 refine zU 1 o<|zf ?_
 cases h
 exact ax o (.tmp o)
theorem dA(u M r)(h:dC u M=some r):bm PP 11 [.one Y30 u,.one Y30 M] (tb r):=by
 unfold dC at h
 refine enter Tryz.func11 o 148 o o λF=>?_
 refine zu<|bA o o λc=>bA o o λf=>zA o<|zs<|zU 1 o<|yl 1 f0 ty3 o o o tr o<|zm 1 o<|yl 0 f0 ty3 o o o tr o<|q 2 [(2,ptr c 0),(3,ptr f 0),(11,tb (u.1 !=M.1))] [] o ?_
 obtain⟨R,e,h⟩:=al h;rw[e]
 refine aM 6 [(2,ptr c 0),(3,ptr f 0),(17,tb (R||(u.2.1 !=M.2.1)))] [Res.var f 30 Y30 M,Res.var c 30 Y30 u] (?_) ?_
 ·clear h
  cases R
  ·refine zm 1 o<|am dl o ?_
   refine yl 1 f1 ty2 o o o tr o<|zm 1 o<|am dl o ?_
   exact yl 0 f1 ty2 o o o tr o<|zA o<|ap () o o
  exact zA o<|ap () o o
 refine q 1 [(2,ptr c 0),(3,ptr f 0),(18,tb (R||(u.2.1 !=M.2.1)))] [] o ?_
 obtain⟨W,e,h⟩:=al h;rw[e]
 refine aM 6 [(2,ptr c 0),(3,ptr f 0),(24,tb (W||(u.2.2.1 !=M.2.2.1)))] [Res.var f 30 Y30 M,Res.var c 30 Y30 u] (?_) ?_
 ·clear h
  cases W
  ·refine zm 1 o<|am dl o ?_
   refine yl 1 f2 ty2 o o o tr o<|zm 1 o<|am dl o ?_
   exact yl 0 f2 ty2 o o o tr o<|zA o<|ap () o o
  exact zA o<|ap () o o
 refine q 1 [(2,ptr c 0),(3,ptr f 0),(25,tb (W||(u.2.2.1 !=M.2.2.1)))] [] o ?_
 obtain⟨C,e,h⟩:=al h;rw[e]
 refine aM 6 [(2,ptr c 0),(3,ptr f 0),(31,tb (C||(u.2.2.2.1 !=M.2.2.2.1)))] [Res.var f 30 Y30 M,Res.var c 30 Y30 u] (?_) ?_
 ·clear h
  cases C
  ·refine zm 1 o<|am dl o ?_
   refine yl 1 f3 ty2 o o o tr o<|zm 1 o<|am dl o ?_
   exact yl 0 f3 ty2 o o o tr o<|zA o<|ap () o o
  exact zA o<|ap () o o
 refine q 1 [(2,ptr c 0),(3,ptr f 0),(32,tb (C||(u.2.2.2.1 !=M.2.2.2.1)))] [] o ?_
 obtain⟨H,e,h⟩:=al h;rw[e]
 refine aM 6 [(2,ptr c 0),(3,ptr f 0),(38,tb (H||(u.2.2.2.2.2.2.1 !=M.2.2.2.2.2.2.1)))] [Res.var f 30 Y30 M,Res.var c 30 Y30 u] (?_) ?_
 ·clear h
  cases H
  ·refine zm 1 o<|am dl o ?_
   refine yl 1 f6 ty2 o o o tr o<|zm 1 o<|am dl o ?_
   exact yl 0 f6 ty2 o o o tr o<|zA o<|ap () o o
  exact zA o<|ap () o o
 refine q 1 [(2,ptr c 0),(3,ptr f 0),(39,tb (H||(u.2.2.2.2.2.2.1 !=M.2.2.2.2.2.2.1)))] [] o ?_
 obtain⟨G,e,h⟩:=al h;rw[e]
 refine aM 6 [(2,ptr c 0),(3,ptr f 0),(45,tb (G||(u.2.2.2.2.2.2.2.1 !=M.2.2.2.2.2.2.2.1)))] [Res.var f 30 Y30 M,Res.var c 30 Y30 u] (?_) ?_
 ·clear h
  cases G
  ·refine zm 1 o<|am dl o ?_
   refine yl 1 f7 ty2 o o o tr o<|zm 1 o<|am dl o ?_
   exact yl 0 f7 ty2 o o o tr o<|zA o<|ap () o o
  exact zA o<|ap () o o
 refine q 1 [(2,ptr c 0),(3,ptr f 0),(46,tb (G||(u.2.2.2.2.2.2.2.1 !=M.2.2.2.2.2.2.2.1)))] [] o ?_
 obtain⟨N,e,h⟩:=al h;rw[e]
 refine aM 6 [(2,ptr c 0),(3,ptr f 0),(52,tb (N||(u.2.2.2.2.2.2.2.2.1 !=M.2.2.2.2.2.2.2.2.1)))] [Res.var f 30 Y30 M,Res.var c 30 Y30 u] (?_) ?_
 ·clear h
  cases N
  ·refine zm 1 o<|am dl o ?_
   refine yl 1 f8 ty2 o o o tr o<|zm 1 o<|am dl o ?_
   exact yl 0 f8 ty2 o o o tr o<|zA o<|ap () o o
  exact zA o<|ap () o o
 refine q 1 [(2,ptr c 0),(3,ptr f 0),(53,tb (N||(u.2.2.2.2.2.2.2.2.1 !=M.2.2.2.2.2.2.2.2.1)))] [] o ?_
 obtain⟨J,e,h⟩:=al h;rw[e]
 refine aM 6 [(2,ptr c 0),(3,ptr f 0),(59,tb (J||(!eqD W55 u.2.2.2.2.2.2.2.2.2.1 M.2.2.2.2.2.2.2.2.2.1)))] [Res.var f 30 Y30 M,Res.var c 30 Y30 u] (?_) ?_
 ·clear h
  cases J
  ·refine zm 1 o<|am dl o ?_
   refine yl 1 f9 fj o o o tr o<|zm 1 o<|am dl o ?_
   refine yl 0 f9 fj o o o tr o<|am dl o ?_
   refine y (oH 20 o o o o fj o BI BJ) o ?_
   exact zA o<|ap () o o
  exact zA o<|ap () o o
 refine q 1 [(2,ptr c 0),(3,ptr f 0),(60,tb (J||(!eqD W55 u.2.2.2.2.2.2.2.2.2.1 M.2.2.2.2.2.2.2.2.2.1)))] [] o ?_
 obtain⟨d,e,h⟩:=al h;rw[e]
 refine aM 6 [(2,ptr c 0),(3,ptr f 0),(66,tb (d||(!eqD W55 u.2.2.2.2.2.2.2.2.2.2.1 M.2.2.2.2.2.2.2.2.2.2.1)))] [Res.var f 30 Y30 M,Res.var c 30 Y30 u] (?_) ?_
 ·clear h
  cases d
  ·refine zm 1 o<|am dl o ?_
   refine yl 1 f10 fj o o o tr o<|zm 1 o<|am dl o ?_
   refine yl 0 f10 fj o o o tr o<|am dl o ?_
   refine y (oH 20 o o o o fj o BI BJ) o ?_
   exact zA o<|ap () o o
  exact zA o<|ap () o o
 refine q 1 [(2,ptr c 0),(3,ptr f 0),(67,tb (d||(!eqD W55 u.2.2.2.2.2.2.2.2.2.2.1 M.2.2.2.2.2.2.2.2.2.2.1)))] [] o ?_
 obtain⟨m,e,h⟩:=al h;rw[e]
 refine aM 6 [(2,ptr c 0),(3,ptr f 0),(73,tb (m||(!eqD W55 u.2.2.2.2.2.2.2.2.2.2.2.1 M.2.2.2.2.2.2.2.2.2.2.2.1)))] [Res.var f 30 Y30 M,Res.var c 30 Y30 u] (?_) ?_
 ·clear h
  cases m
  ·refine zm 1 o<|am dl o ?_
   refine yl 1 f11 fj o o o tr o<|zm 1 o<|am dl o ?_
   refine yl 0 f11 fj o o o tr o<|am dl o ?_
   refine y (oH 20 o o o o fj o BI BJ) o ?_
   exact zA o<|ap () o o
  exact zA o<|ap () o o
 refine q 1 [(2,ptr c 0),(3,ptr f 0),(74,tb (m||(!eqD W55 u.2.2.2.2.2.2.2.2.2.2.2.1 M.2.2.2.2.2.2.2.2.2.2.2.1)))] [] o ?_
 obtain⟨O,e,h⟩:=al h;rw[e]
 refine aM 6 [(2,ptr c 0),(3,ptr f 0),(80,tb (O||(u.2.2.2.2.2.2.2.2.2.2.2.2.1 !=M.2.2.2.2.2.2.2.2.2.2.2.2.1)))] [Res.var f 30 Y30 M,Res.var c 30 Y30 u] (?_) ?_
 ·clear h
  cases O
  ·refine zm 1 o<|am dl o ?_
   refine yl 1 f12 ty4 o o o tr o<|zm 1 o<|am dl o ?_
   refine yl 0 f12 ty4 o o o tr o<|am dl o ?_
   refine y (Gw o o Tryz.underlying4) o ?_
   exact zA o<|ap () o o
  exact zA o<|ap () o o
 refine q 1 [(2,ptr c 0),(3,ptr f 0),(81,tb (O||(u.2.2.2.2.2.2.2.2.2.2.2.2.1 !=M.2.2.2.2.2.2.2.2.2.2.2.2.1)))] [] o ?_
 obtain⟨w,e,h⟩:=al h;rw[e]
 refine aM 6 [(2,ptr c 0),(3,ptr f 0),(87,tb (w||(!eqD W60 u.2.2.2.2.2.2.2.2.2.2.2.2.2.1 M.2.2.2.2.2.2.2.2.2.2.2.2.2.1)))] [Res.var f 30 Y30 M,Res.var c 30 Y30 u] (?_) ?_
 ·clear h
  cases w
  ·refine zm 1 o<|am dl o ?_
   refine yl 1 f13 y4 o o o tr o<|zm 1 o<|am dl o ?_
   refine yl 0 f13 y4 o o o tr o<|am dl o ?_
   refine y (oH 20 o o o o y4 o HE HF) o ?_
   exact zA o<|ap () o o
  exact zA o<|ap () o o
 refine q 1 [(2,ptr c 0),(3,ptr f 0),(88,tb (w||(!eqD W60 u.2.2.2.2.2.2.2.2.2.2.2.2.2.1 M.2.2.2.2.2.2.2.2.2.2.2.2.2.1)))] [] o ?_
 obtain⟨Z,e,h⟩:=al h;rw[e]
 refine aM 6 [(2,ptr c 0),(3,ptr f 0),(94,tb (Z||(!eqD W66 u.2.2.2.2.2.2.2.2.2.2.2.2.2.2.1 M.2.2.2.2.2.2.2.2.2.2.2.2.2.2.1)))] [Res.var f 30 Y30 M,Res.var c 30 Y30 u] (?_) ?_
 ·clear h
  cases Z
  ·refine zm 1 o<|am dl o ?_
   refine yl 1 f14 bH o o o tr o<|zm 1 o<|am dl o ?_
   refine yl 0 f14 bH o o o tr o<|am dl o ?_
   refine y (oH 20 o o o o bH o vl vm) o ?_
   exact zA o<|ap () o o
  exact zA o<|ap () o o
 refine q 1 [(2,ptr c 0),(3,ptr f 0),(95,tb (Z||(!eqD W66 u.2.2.2.2.2.2.2.2.2.2.2.2.2.2.1 M.2.2.2.2.2.2.2.2.2.2.2.2.2.2.1)))] [] o ?_
 obtain⟨a2,e,h⟩:=al h;rw[e]
 refine aM 6 [(2,ptr c 0),(3,ptr f 0),(101,tb (a2||(u.2.2.2.2.2.2.2.2.2.2.2.2.2.2.2.2.1 !=M.2.2.2.2.2.2.2.2.2.2.2.2.2.2.2.2.1)))] [Res.var f 30 Y30 M,Res.var c 30 Y30 u] (?_) ?_
 ·clear h
  cases a2
  ·refine zm 1 o<|am dl o ?_
   refine yl 1 f16 ty3 o o o tr o<|zm 1 o<|am dl o ?_
   exact yl 0 f16 ty3 o o o tr o<|zA o<|ap () o o
  exact zA o<|ap () o o
 refine q 1 [(2,ptr c 0),(3,ptr f 0),(102,tb (a2||(u.2.2.2.2.2.2.2.2.2.2.2.2.2.2.2.2.1 !=M.2.2.2.2.2.2.2.2.2.2.2.2.2.2.2.2.1)))] [] o ?_
 obtain⟨a3,e,h⟩:=al h;rw[e]
 refine aM 6 [(2,ptr c 0),(3,ptr f 0),(108,tb (a3||(u.2.2.2.2.2.2.2.2.2.2.2.2.2.2.2.2.2.1 !=M.2.2.2.2.2.2.2.2.2.2.2.2.2.2.2.2.2.1)))] [Res.var f 30 Y30 M,Res.var c 30 Y30 u] (?_) ?_
 ·clear h
  cases a3
  ·refine zm 1 o<|am dl o ?_
   refine yl 1 f17 ty2 o o o tr o<|zm 1 o<|am dl o ?_
   exact yl 0 f17 ty2 o o o tr o<|zA o<|ap () o o
  exact zA o<|ap () o o
 refine q 1 [(2,ptr c 0),(3,ptr f 0),(109,tb (a3||(u.2.2.2.2.2.2.2.2.2.2.2.2.2.2.2.2.2.1 !=M.2.2.2.2.2.2.2.2.2.2.2.2.2.2.2.2.2.1)))] [] o ?_
 obtain⟨a9,e,h⟩:=al h;rw[e]
 refine bQ h 8 (λa4=>[(2,ptr c 0),(3,ptr f 0),(117,tb a4)]) (λ_=>[Res.var f 30 Y30 M,Res.var c 30 Y30 u]) (λc3 h=>?_) λa4 h=>?_
 ·cases a9
  ·replace h:=ifF h
   refine zm 1 o<|am dl o ?_
   refine yl 1 f15 qd o o o tr o<|zm 2 o<|am dl o ?_
   refine yl 0 f15 qd o o o tr o<|q 2 [(109,tb false),(116,tb ((List.length u.2.2.2.2.2.2.2.2.2.2.2.2.2.2.2.1:Int) !=(List.length M.2.2.2.2.2.2.2.2.2.2.2.2.2.2.2.1:Int)))] [2,3] o ?_
   obtain⟨b0,e,h⟩:=al h;rw[e]
   exact zN o<|zt<|ai b0 () h o o
  replace h:=ifT h
  exact zN o<|zt<|ai true () h o o
 refine za<|rI h o (λhc h=>zU 1 o<|zf<|zT<|by cases h;exact ax o (.tmp o)) λhc h=>zk<|zt<|bv h (λa5=>[(2,ptr c 0),(3,ptr f 0)]) (λa5=>[Res.var f 30 Y30 M,Res.var c 30 Y30 u]) (λb1 h=>?_) λa5 h=>?_
 ·refine zW o<|zb<|ah [2,3,5] o<|bg (γ:=Unit) (λ(V:Int) _=>[(2,ptr c 0),(3,ptr f 0),(5,ti V)]) (λ(V:Int) _=>[Res.var f 30 Y30 M,Res.var c 30 Y30 u]) (dz u M b1) 0 () h o o ?_
  clear h
  intro a6 V gg h
  cases a6 with
  |zero=>cases h
  |succ a6=>
  simp only[dz]at h
  refine zs<|zU 2 o<|yl 1 f15 qd o o o tr o<|zA o<|rI h o (λhc h=>?_) λhc h=>?_
  ·refine zk<|zt<|zs<|zb<|zs<|eL kr kr ?_
   refine ay ag 1 [2,3,5,125] (E':=[(2,ptr c 0),(3,ptr f 0),(5,ti V),(125,ptr c 112)]) o ?_
   refine q_y (aL 1 f15 o o o (ab (ab (ab (ab (ab (ab (ab (ab (ab (ab (ab (ab (ab (ab (ab (aq aa)))))))))))))))) qd) o ?_
   refine ay ag 1 [2,3,5,126,127] (E':=[(2,ptr c 0),(3,ptr f 0),(5,ti V),(126,.one W77 u.2.2.2.2.2.2.2.2.2.2.2.2.2.2.2.1),(127,ti V)]) o ?_
   refine iE h λhc h=>q_y (eZ ag o o hc.1 hc.2 o iZ) o ?_
   refine q_y (fP o iZ) o ?_
   refine ay ag 1 [2,3,5,129,130] (E':=[(2,ptr c 0),(3,ptr f 0),(5,ti V),(129,.one Y56 (List.getD u.2.2.2.2.2.2.2.2.2.2.2.2.2.2.2.1 (Int.toNat V) (0,z32,false,()))),(130,ptr f 112)]) o ?_
   refine q_y (aL 0 f15 o o o (ab (ab (ab (ab (ab (ab (ab (ab (ab (ab (ab (ab (ab (ab (ab (aq aa)))))))))))))))) qd) o ?_
   refine ay ag 1 [2,3,5,129,131,132] (E':=[(2,ptr c 0),(3,ptr f 0),(5,ti V),(129,.one Y56 (List.getD u.2.2.2.2.2.2.2.2.2.2.2.2.2.2.2.1 (Int.toNat V) (0,z32,false,()))),(131,.one W77 M.2.2.2.2.2.2.2.2.2.2.2.2.2.2.2.1),(132,ti V)]) o ?_
   refine iE h λhc h=>q_y (eZ ag o o hc.1 hc.2 o iZ) o ?_
   refine q_y (fP o iZ) o ?_
   refine q_y (oH 20 o o o o iZ o HG HH) o ?_
   refine fa ?_
   refine zt<|rI h o (λhc h=>zU 1 o<|zf<|zB<|zT<|zT<|zB<|zT<|by cases h;exact ax o (.tmp o)) λhc h=>zk<|zi<|zt<|zr<|q 3 [(2,ptr c 0),(3,ptr f 0),(5,ti (wrap .i64 (V+1)))] [] o ?_
   obtain⟨b2,e,h⟩:=al h;rw[e]
   exact za<|aX b2 () (Nat.lt_succ_self _) h o o
  exact zx<|ze<|ze<|zq<|zt<|ai () () h o o
 refine zU 1 o<|yl 1 f4 iY o o o tr o<|zm 1 o<|yl 0 f4 iY o o o tr o<|cB h λa7 c0 h=>ar (n6 _ _ _ c0) kr o o<|q 1 [(2,ptr c 0),(3,ptr f 0),(141,tb a7)] [] o<|bQ h 6 (λa8=>[(147,tb a8)]) (λ_=>[Res.var f 30 Y30 M,Res.var c 30 Y30 u]) (λc4 h=>?_) λa8 h=>?_
 ·cases a7
  ·replace h:=ifF h
   exact zN o<|zt<|ai false () h o o
  replace h:=ifT h
  refine zm 1 o<|am dl o ?_
  refine yl 1 f5 iY o o o tr o<|zm 1 o<|am dl o ?_
  refine yl 0 f5 iY o o o tr o<|am dl o ?_
  exact cB h λc1 c2 h=>ar (n6 _ _ _ c2) kr o o<|zN o<|zt<|ai c1 () h o o
 refine zE o ?_
 cases h
 exact ax o (.tmp o)
theorem vq(c r)(h:kT c=some r):Fn PP 68 [.one Y30 c] [] (λv=> .one W0 (cQ r (cel v 4) (cel v 5) (cel v 112))) (λv=>[Res.own (cel v 4) 52 Y52 r.2.2.2.2.1,Res.own (cel v 5) 52 Y52 r.2.2.2.2.2.1,Res.own (cel v 112) 56 Y56 r.2.2.2.2.2.2.2.2.2.2.2.2.2.2.2.1]):=by
 unfold kT at h
 refine enter Tryz.func68 o 16 o o λF=>?_
 refine zu<|bA o o λV=>aC (t:=W0) o fO o λO=>za<|zs<|pk [1,0] o<|nG (z:=(.slice none 0 0)) f4 o λf=>?_
 refine pk [1,0,0] o<|nG (z:=(.slice none 0 0)) f5 o λu=>?_
 refine pk [1,0,0,0] o<|nG (z:=(.slice none 0 0)) f15 o λM=>?_
 refine Bj (bC [aV V 30 W0 (gU c f u M)]) 2 #[false,false,false,false,false,false,false,false,false,false,true,true,true,true,true] #[true,true,true,true,true,true,true,true,true,true,false,false,false,false,false] 10 5 kr kr kr o ?_
 refine zH 1 [0] (ae (ak 1 o) aj) kr o o λs=>bl 1 (.one W62 f) s o kr (cq (S:=λw=>bC [aV V 30 W0 (gU c f u M)] w) (bn 0 o) 1 f4 o o o o (ab (ab (ab (ab (aq aa))))) tx1) λs=>zH 1 [3] s kr o o λs=>bl 4 (.one W62 u) s o kr (cq (S:=λw=>bC [aV V 30 W0 (gU c f u M)] w) (bn 0 o) 1 f5 o o o o (ab (ab (ab (ab (ab (aq aa)))))) tx1) λs=>zH 1 [6] s kr o o λs=>bl 7 (.one W62 M) s o kr (cq (S:=λw=>bC [aV V 30 W0 (gU c f u M)] w) (bn 0 o) 1 f15 o o o o (ab (ab (ab (ab (ab (ab (ab (ab (ab (ab (ab (ab (ab (ab (ab (aq aa)))))))))))))))) tx2) λs=>az 2 kr o<|nH 4 3 o o ?_
 refine cB h λZ J h=>rc [] (co _ _ J) kr o o o λH=>za<|aR (ae (ak 2 o) aj) ?_
 refine ah [1,2,5,7,10] o<|zH 1 [9] (ae (ak 2 o) aj) kr o o λs=>az 5 kr o<|nH 7 3 o o ?_
 refine cB h λr9 d h=>rc [] (co _ _ d) kr o o o λG=>za<|aR (ae (ak 3 o) aj) ?_
 refine ah [1,2,5,8,10,12] o<|az 8 kr o<|nH 10 2 o o ?_
 refine cB h λa1 m h=>rc [] (fE _ _ m) kr o o o λN=>za<|aR (ae (ak 4 o) aj) ?_
 refine ah [1,2,5,8,11,12] o<|dF kr<|yD ?_
 refine af 10 kr o<|st 4 f4 tx1 o o o o tr<|pk [0,0,0,0,0,0,1] o<|zL [1,2,8,11] o<|zF 1 [11] kr o o<|af 12 kr o<|st 4 f5 tx1 o o o o tr<|nL o<|pk [0,0,0,0,0,1] o<|zL [1,2,11] o<|zF 1 [13] kr o o<|af 14 kr o<|st 4 f15 tx2 o o o o tr<|pk [0,0,0,1,1] o ?_
 refine zL [1,2] o<|aN kr<|zt<|zu<|yl 3 .here tx6 o o o tr o<|st 4 .here tx6 o o o o tr<|nL o<|zf ?_
 cases h
 exact pk [4,2,1,0] o<|aS o (.cell 0 .here o o o aa tx6) (λ_ v g=>by have R:cel v 4=H:=jA f4 (ab (ab (ab (ab (aq aa))))) g;have W:cel v 5=G:=jA f5 (ab (ab (ab (ab (ab (aq aa)))))) g;have C:cel v 112=N:=jA f15 (ab (ab (ab (ab (ab (ab (ab (ab (ab (ab (ab (ab (ab (ab (ab (aq aa)))))))))))))))) g;rw[R,W,C];exact g) (λ_ v g=>by have R:cel v 4=H:=jA f4 (ab (ab (ab (ab (aq aa))))) g;have W:cel v 5=G:=jA f5 (ab (ab (ab (ab (ab (aq aa)))))) g;have C:cel v 112=N:=jA f15 (ab (ab (ab (ab (ab (ab (ab (ab (ab (ab (ab (ab (ab (ab (ab (aq aa)))))))))))))))) g;rw[R,W,C];exact .cons _ (List.Sublist.refl _))
theorem qh(M:Value)(c:Value)(u V r)(h:gh u V=some r):Fn PP 15 [tp M] [Res.cls (aZ c) M u,Res.disk PP dI c V] (λv=> .one W0 (cQ r (cel v 4) (cel v 5) (cel v 112))) (λv=>[Res.cls (aZ c) M u,Res.disk PP dI c V,Res.own (cel v 4) 52 Y52 r.2.2.2.2.1,Res.own (cel v 5) 52 Y52 r.2.2.2.2.2.1,Res.own (cel v 112) 56 Y56 r.2.2.2.2.2.2.2.2.2.2.2.2.2.2.2.1]):=by
 unfold gh at h
 refine enter Tryz.func15 o 8 o o λF=>?_
 refine nV λG N J hp=>?_
 subst hp
 refine fo (x:=u) (q:=c) ?_
 refine zu<|aC (t:=W0) o fO o λd=>za<|zs<|pk [1,0,0] o<|mK λm O=>?_
 refine zr<|zm 3 o<|yl 0 f3 bE o o o tr o<|cB h λw H h=>rc [] (vq _ _ H) kr o o o λf=>st 6 .here tx6 o o o o tr<|zf<|pk [3,3,3,0,0,0,0,0] o<|fo (x:=u) (q:=c) ?_
 cases h
 exact pk [4,0,3,0,0,0] o<|aS o (.cell 0 .here o o o aa tx6) (λ_ v g=>by have R:cel v 4=(cel f 4):=jA f4 (ab (ab (ab (ab (aq aa))))) g;have W:cel v 5=(cel f 5):=jA f5 (ab (ab (ab (ab (ab (aq aa)))))) g;have C:cel v 112=(cel f 112):=jA f15 (ab (ab (ab (ab (ab (ab (ab (ab (ab (ab (ab (ab (ab (ab (ab (aq aa)))))))))))))))) g;rw[R,W,C];exact g) (λ_ v g=>by have R:cel v 4=(cel f 4):=jA f4 (ab (ab (ab (ab (aq aa))))) g;have W:cel v 5=(cel f 5):=jA f5 (ab (ab (ab (ab (ab (aq aa)))))) g;have C:cel v 112=(cel f 112):=jA f15 (ab (ab (ab (ab (ab (ab (ab (ab (ab (ab (ab (ab (ab (ab (ab (aq aa)))))))))))))))) g;rw[R,W,C];exact .cons _ (List.Sublist.refl _))
end Sx
