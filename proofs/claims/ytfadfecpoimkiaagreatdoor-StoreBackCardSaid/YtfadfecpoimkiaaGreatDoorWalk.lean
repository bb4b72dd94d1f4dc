/-
  Own work, printed by a program of the same hand. Each function of the code answers what its plain twin reckons.
-/
import Derived.Test.YtfadfecpoimkiaaGreatDoorWalk3
namespace Sx
open Go Go.Proofs Go.IntKind
set_option maxRecDepth 10000
set_option maxHeartbeats 1000000
attribute [local irreducible] wpList
theorem xC(c r)(h:sO c=some r):bn PP 68 [.one Y30 c] (.one Y30 r):=by
 unfold sO at h
 refine enter Tryz.func68 o 16 o o λF=>?_
 refine zu<|bD o o λf=>aD (t:=Y30) o gk o λm=>za<|zs<|pk [1,0] o<|qr (z:=(.slice none 0 0)) f4 o λu=>?_
 refine pk [1,0,0] o<|qr (z:=(.slice none 0 0)) f5 o λM=>?_
 refine pk [1,0,0,0] o<|qr (z:=(.slice none 0 0)) f15 o λV=>?_
 refine Cg (bJ [aX f 30 W0 (c.1,c.2.1,c.2.2.1,c.2.2.2.1,u,M,c.2.2.2.2.2.2.1,c.2.2.2.2.2.2.2.1,c.2.2.2.2.2.2.2.2.1,c.2.2.2.2.2.2.2.2.2.1,c.2.2.2.2.2.2.2.2.2.2.1,c.2.2.2.2.2.2.2.2.2.2.2.1,c.2.2.2.2.2.2.2.2.2.2.2.2.1,c.2.2.2.2.2.2.2.2.2.2.2.2.2.1,c.2.2.2.2.2.2.2.2.2.2.2.2.2.2.1,V,c.2.2.2.2.2.2.2.2.2.2.2.2.2.2.2.2)]) 2 #[false,false,false,false,false,false,false,false,false,false,true,true,true,true,true] #[true,true,true,true,true,true,true,true,true,true,false,false,false,false,false] 10 5 (by kernel_rfl) (by kernel_rfl) (by kernel_rfl) o ?_
 refine au 0 (ptr f 4) (aj (ar 1 o) al) o (by kernel_rfl) o λs=>bz 1 (.one W51 u) s o (by kernel_rfl) (cD (S:=λw=>bJ [aX f 30 W0 (c.1,c.2.1,c.2.2.1,c.2.2.2.1,u,M,c.2.2.2.2.2.2.1,c.2.2.2.2.2.2.2.1,c.2.2.2.2.2.2.2.2.1,c.2.2.2.2.2.2.2.2.2.1,c.2.2.2.2.2.2.2.2.2.2.1,c.2.2.2.2.2.2.2.2.2.2.2.1,c.2.2.2.2.2.2.2.2.2.2.2.2.1,c.2.2.2.2.2.2.2.2.2.2.2.2.2.1,c.2.2.2.2.2.2.2.2.2.2.2.2.2.2.1,V,c.2.2.2.2.2.2.2.2.2.2.2.2.2.2.2.2)] w) (bA 0 o) 1 f4 o o o o (ag (ag (ag (ag (ay ab))))) tx2) λs=>au 3 (ptr f 5) s o (by kernel_rfl) o λs=>bz 4 (.one W51 M) s o (by kernel_rfl) (cD (S:=λw=>bJ [aX f 30 W0 (c.1,c.2.1,c.2.2.1,c.2.2.2.1,u,M,c.2.2.2.2.2.2.1,c.2.2.2.2.2.2.2.1,c.2.2.2.2.2.2.2.2.1,c.2.2.2.2.2.2.2.2.2.1,c.2.2.2.2.2.2.2.2.2.2.1,c.2.2.2.2.2.2.2.2.2.2.2.1,c.2.2.2.2.2.2.2.2.2.2.2.2.1,c.2.2.2.2.2.2.2.2.2.2.2.2.2.1,c.2.2.2.2.2.2.2.2.2.2.2.2.2.2.1,V,c.2.2.2.2.2.2.2.2.2.2.2.2.2.2.2.2)] w) (bA 0 o) 1 f5 o o o o (ag (ag (ag (ag (ag (ay ab)))))) tx2) λs=>au 6 (ptr f 112) s o (by kernel_rfl) o λs=>bz 7 (.one W51 V) s o (by kernel_rfl) (cD (S:=λw=>bJ [aX f 30 W0 (c.1,c.2.1,c.2.2.1,c.2.2.2.1,u,M,c.2.2.2.2.2.2.1,c.2.2.2.2.2.2.2.1,c.2.2.2.2.2.2.2.2.1,c.2.2.2.2.2.2.2.2.2.1,c.2.2.2.2.2.2.2.2.2.2.1,c.2.2.2.2.2.2.2.2.2.2.2.1,c.2.2.2.2.2.2.2.2.2.2.2.2.1,c.2.2.2.2.2.2.2.2.2.2.2.2.2.1,c.2.2.2.2.2.2.2.2.2.2.2.2.2.2.1,V,c.2.2.2.2.2.2.2.2.2.2.2.2.2.2.2.2)] w) (bA 0 o) 1 f15 o o o o (ag (ag (ag (ag (ag (ag (ag (ag (ag (ag (ag (ag (ag (ag (ag (ay ab)))))))))))))))) tx3) λs=>aI 2 (by kernel_rfl) o<|qs 4 3 o o ?_
 refine cB h λC G h=>rc [] (dp _ _ G) (ca o) o o o λH=>za<|bj (aj (ar 2 o) al) ?_
 refine aa [1,2,5,7,10] o<|au 9 (ptr f 4) (aj (ar 2 o) al) o (by kernel_rfl) o λs=>aI 5 (by kernel_rfl) o<|qs 7 3 o o ?_
 refine cB h λN J h=>rc [] (dp _ _ J) (ca o) o o o λW=>za<|bj (aj (ar 3 o) al) ?_
 refine aa [1,2,5,8,10,12] o<|aI 8 (by kernel_rfl) o<|qs 10 2 o o ?_
 refine cB h λO d h=>rc [] (ip _ _ d) (ca o) o o o λR=>za<|bj (aj (ar 4 o) al) ?_
 refine aa [1,2,5,8,11,12] o<|eY (by kernel_rfl)<|AD ?_
 refine af 10 (by kernel_rfl) o<|st 4 f4 tx2 o o o o tr<|pk [0,0,0,0,0,0,1] o<|za<|aa [1,2,8,11] o<|ae 11 (ptr f 5) o (by kernel_rfl) o<|af 12 (by kernel_rfl) o<|st 4 f5 tx2 o o o o tr<|nL o<|pk [0,0,0,0,0,1] o<|za<|aa [1,2,11] o<|ae 13 (ptr f 112) o (by kernel_rfl) o<|af 14 (by kernel_rfl) o ?_
 refine st 4 f15 tx3 o o o o tr<|pk [0,0,0,1,1] o<|za<|aa [1,2] o<|aN (by kernel_rfl)<|zt<|zs<|pk [2,2,0,0,0] o<|fL (v:=H) (T0:=W0) (x0:=(c.1,c.2.1,c.2.2.1,c.2.2.2.1,H,W,c.2.2.2.2.2.2.1,c.2.2.2.2.2.2.2.1,c.2.2.2.2.2.2.2.2.1,c.2.2.2.2.2.2.2.2.2.1,c.2.2.2.2.2.2.2.2.2.2.1,c.2.2.2.2.2.2.2.2.2.2.2.1,c.2.2.2.2.2.2.2.2.2.2.2.2.1,c.2.2.2.2.2.2.2.2.2.2.2.2.2.1,c.2.2.2.2.2.2.2.2.2.2.2.2.2.2.1,R,c.2.2.2.2.2.2.2.2.2.2.2.2.2.2.2.2)) (t:=Y52) f4 o o ?_
 refine pk [2,0,0,0] o<|fL (v:=W) (T0:=(.pair (.int .i64) (.pair (.int .i64) (.pair (.int .i64) (.pair (.int .i64) (.pair W65 W15)))))) (x0:=(c.1,c.2.1,c.2.2.1,c.2.2.2.1,C,W,c.2.2.2.2.2.2.1,c.2.2.2.2.2.2.2.1,c.2.2.2.2.2.2.2.2.1,c.2.2.2.2.2.2.2.2.2.1,c.2.2.2.2.2.2.2.2.2.2.1,c.2.2.2.2.2.2.2.2.2.2.2.1,c.2.2.2.2.2.2.2.2.2.2.2.2.1,c.2.2.2.2.2.2.2.2.2.2.2.2.2.1,c.2.2.2.2.2.2.2.2.2.2.2.2.2.2.1,R,c.2.2.2.2.2.2.2.2.2.2.2.2.2.2.2.2)) (t:=Y52) f5 o o ?_
 refine pk [1,0,0] o<|fL (v:=R) (T0:=W3) (x0:=(c.1,c.2.1,c.2.2.1,c.2.2.2.1,C,N,c.2.2.2.2.2.2.1,c.2.2.2.2.2.2.2.1,c.2.2.2.2.2.2.2.2.1,c.2.2.2.2.2.2.2.2.2.1,c.2.2.2.2.2.2.2.2.2.2.1,c.2.2.2.2.2.2.2.2.2.2.2.1,c.2.2.2.2.2.2.2.2.2.2.2.2.1,c.2.2.2.2.2.2.2.2.2.2.2.2.2.1,c.2.2.2.2.2.2.2.2.2.2.2.2.2.2.1,R,c.2.2.2.2.2.2.2.2.2.2.2.2.2.2.2.2)) (t:=Y56) f15 o o ?_
 refine zr<|yl 0 .here bW o o o tr o<|st 1 .here bW o o o o tr<|nL o<|zf ?_
 cases h
 exact aU o (.cell 1 .here o o o ab bW) (λ_ _ g=>g) (λ_ _ _=>List.nil_sublist _)
theorem iA(u:Value)(c:Value)(f M r)(h:gr f M=some r):Fn PP 15 [tp u] [Res.cls (bP c) u f,Res.disk PP dI c M] (λ_=> .one Y30 r) (λ_=>[Res.cls (bP c) u f,Res.disk PP dI c M]):=by
 unfold gr at h
 refine enter Tryz.func15 o 8 o o λF=>?_
 refine oJ λV C H hp=>?_
 subst hp
 refine fS (x:=f) (q:=c) ?_
 refine zu<|aD (t:=Y30) o gk o λR=>za<|zs<|pk [1,0,0] o<|nS λG N=>?_
 refine zr<|q 3 [(2,ptr R 0),(5,ptr V 3)] [] o<|yl 0 f3 bW o o o tr o<|cB h λJ W h=>av (xC _ _ W) (ca o) o o<|st 3 .here bW o o o o tr<|zf<|fS (x:=f) (q:=c) ?_
 cases h
 exact aU o (.cell 1 .here o o o ab bW) (λ_ _ g=>g) (λ_ _ _=>(.cons_cons _ (.cons _ (.cons_cons _ .slnil))))
theorem jf(c r)(h:gZ c=some r):bn PP 60 [ti c] (.one Y54 r):=by
 unfold gZ at h
 refine enter Tryz.func60 o 6 o o λF=>?_
 refine zu<|aD (t:=Y54) o jL o λf=>zz<|q 1 [(2,ptr f 0),(3,ti c)] [] o<|y (bc o jJ o o (.cons f0 o o ab (.cons f1 o o ab (.cons f2 o o ab .nil)))) o ?_
 refine y (bc o jL o o (.cons f0 o o ab (.cons f1 o o ab .nil))) o ?_
 refine st 0 .here fm o o o o tr<|zf ?_
 cases h
 exact aU o (.cell 0 .here o o o ab fm) (λ_ _ g=>g) (λ_ _ _=>List.nil_sublist _)
theorem rU(c:Value)(f u r)(h:oE f u=some r):Fn PP 263 [tp c,.one Y52 u] [Res.cls aT c f] (λ_=> .tup []) (λ_=>[Res.cls aT c r]):=by
 unfold oE at h
 refine enter Tryz.func263 o 14 o o λF=>?_
 refine cC λM C hp=>?_
 subst hp
 refine bH (x:=f) ?_
 refine zu<|bD o o λH=>zz<|yl 0 .here bI o o o tr o<|cB h λV R h=>av (pC _ _ R) (ca o) o o<|q 5 [(0,ptr M 0),(4,ts V.1)] [] o<|za<|zr<|q 2 [(11,ptr M 0),(12,ts V.1)] [] o<|cB h λG W h=>rc [1] (iw _ _ _ _ W) (ca o) o o o λ_=>zn ?_
 cases h
 exact dV o (λ_=>aH [] .nil) ((.cons_cons _ (.cons _ .slnil)))
theorem rH(c:Value)(u f r)(h:lD u f=some r):Fn PP 261 [.one W61 u,tp c] [Res.cls aT c f] (λ_=> .tup []) (λ_=>[Res.cls aT c r]):=by
 unfold lD at h
 refine enter Tryz.func261 o 8 o o λF=>?_
 refine cC λM W hp=>?_
 subst hp
 refine bH (x:=f) ?_
 refine zu<|bD o o λV=>za<|zr<|q 2 [(4,ptr M 0),(5,ptr V 0)] [] o<|yl 0 f0 bI o o o tr o<|cB h λC R h=>rc [1] (rU _ _ _ _ R) (ca o) o o o λ_=>zn ?_
 cases h
 exact dV o (λ_=>aH [] .nil) ((.cons_cons _ (.cons _ .slnil)))
theorem qc(f:Value)(c u r)(h:ku c u=some r):Fn PP 277 [.one W47 c,tp f] [Res.cls aT f u] (λ_=> .tup []) (λ_=>[Res.cls aT f r]):=by
 unfold ku at h
 refine enter Tryz.func277 o 20 o o λF=>?_
 refine cC λM H hp=>?_
 subst hp
 refine bH (x:=u) ?_
 refine zu<|bD o o λV=>zz<|q 2 [(1,ptr M 0),(2,ptr V 0),(4,ptr M 0),(5,ptr V 0)] [] o<|yl 0 f0 ty2 o o o tr o<|cB h λG R h=>rc [1] (cF _ _ _ _ R) (ca o) o o o λ_=>zz<|p 3 [1,2,8,10] o<|yl 1 ((.snd (.fst f0))) ty3 o o o tr o<|q 1 [(12,.one (.int .u16) (wrap .u16 c.2.1.1))] [1,2,8] o<|cB h λN W h=>rc [0] (ep _ _ _ _ W) (ca o) o o o λ_=>za ?_
 refine zr<|q 3 [(14,ptr M 0),(16,ptr V 2)] [] o<|yl 1 ((.snd (.fst f1))) ty3 o o o tr o<|q 1 [(18,.one (.int .u16) (wrap .u16 c.2.1.2.1))] [14] o<|cB h λJ C h=>rc [0] (ep _ _ _ _ C) (ca o) o o o λ_=>zn ?_
 cases h
 exact dV o (λ_=>aH [] .nil) ((.cons_cons _ (.cons _ .slnil)))
theorem rJ(V:Value)(c R r)(h:lE c R=some r):Fn PP 283 [.one Y280 c,tp V] [Res.cls aT V R] (λ_=> .tup []) (λ_=>[Res.cls aT V r]):=by
 unfold lE at h
 refine enter Tryz.func283 o 31 o o λF=>?_
 refine cC λu w hp=>?_
 subst hp
 refine bH (x:=R) ?_
 refine zu<|bD o o λM=>zz<|q 2 [(1,ptr u 0),(2,ptr M 0),(6,ptr u 0),(7,ptr M 0)] [] o<|yl 0 f0 ty2 o o o tr o<|cB h λZ H h=>rc [1] (cF _ _ _ _ H) (ca o) o o o λ_=>zz<|p 2 [1,2,10,11] o<|yl 1 f1 jI o o o tr o<|q 2 [(14,.one (.int .u16) (wrap .u16 (List.length c.2.1:Int)))] [1,2,10] o<|cB h λG N h=>rc [0] (ep _ _ _ _ N) (ca o) o o o λ_=>za ?_
 refine bv h (λW=>[(1,ptr u 0),(2,ptr M 0)]) (λW=>[Res.cls aT (.pointer (some ⟨u,0,none⟩)) W,Res.var M 280 Y280 c]) (λJ h=>?_) λW h=>?_
 ·refine zu<|p 1 [1,2,16] o<|yl 1 f1 jI o o o tr o<|q 2 [(17,.one W65 c.2.1),(18,ti (List.length c.2.1:Int)),(19,ti 0)] [1,2] o<|za<|zb<|aa [1,2,17,18,19] o<|aY (γ:=Unit) (λ(f:Int×bm) _=>[(1,ptr u 0),(2,ptr M 0),(17,.one W65 c.2.1),(18,ti (List.length c.2.1:Int)),(19,ti f.1)]) (λ(f:Int×bm) _=>[Res.cls aT (.pointer (some ⟨u,0,none⟩)) f.2,Res.var M 280 Y280 c]) (iv c J) (0,G) () h o o ?_
  clear h
  intro C f gg h
  cases C with
  |zero=>cases h
  |succ C=>
  simp only[iv]at h
  refine zu<|q 1 [(19,ti f.1),(20,tb (decide (f.1<(List.length c.2.1:Int))))] [1,2,17,18] o<|za<|zs<|rI h o (λhc h=>?_) λhc h=>?_
  ·refine zk<|zt<|zs<|zb<|zu<|iE h λhc h=>y (ff ai o o hc.1 hc.2 o bI) o ?_
   refine y (ga o bI) o ?_
   refine aD (t:=Y52) o jJ o λa2=>st 0 .here bI o o o o tr<|za<|zr<|p 1 [1,2,5,17,18,19,23] o<|yl 0 .here bI o o o tr o<|cB h λd m h=>rc [1] (rU _ _ _ _ m) (ca o) o o o λ_=>zn<|zi<|zt<|zr<|q 2 [(19,ti (wrap .i64 (f.1+1)))] [1,2,17,18] o<|za ?_
   exact pk [0,1] o<|aa [1,2,17,18,19] o<|aR ((wrap .i64 (f.1+1)),d) () (Nat.lt_succ_self _) h o o
  exact zx<|ze<|ze<|zq<|zt<|aa [1,2] o<|ah f.2 () h o o
 refine zr<|q 2 [(27,ptr u 0),(28,ptr M 2)] [] o<|yl 1 f2 bK o o o tr o<|cB h λa3 O h=>rc [0] (dP _ _ _ _ O) (ca o) o o o λ_=>zn ?_
 cases h
 exact dV o (λ_=>aH [] .nil) ((.cons_cons _ (.cons _ .slnil)))
theorem pm(c:Value)(V f r)(h:j8 V f=some r):Fn PP 288 [.one Y282 V,tp c] [Res.cls aT c f] (λ_=> .tup []) (λ_=>[Res.cls aT c r]):=by
 unfold j8 at h
 refine enter Tryz.func288 o 16 o o λF=>?_
 refine cC λu H hp=>?_
 subst hp
 refine bH (x:=f) ?_
 refine zu<|bD o o λM=>zz<|q 2 [(1,ptr u 0),(2,ptr M 0),(4,ptr u 0),(5,ptr M 0)] [] o<|yl 0 f0 ty2 o o o tr o<|cB h λG R h=>rc [1] (cF _ _ _ _ R) (ca o) o o o λ_=>zz<|p 2 [1,2,8,9] o<|yl 1 f1 bK o o o tr o<|cB h λN W h=>rc [0] (dP _ _ _ _ W) (ca o) o o o λ_=>za<|zr ?_
 refine q 2 [(12,ptr u 0),(13,ptr M 33)] [] o<|yl 1 f2 bK o o o tr o<|cB h λJ C h=>rc [0] (dP _ _ _ _ C) (ca o) o o o λ_=>zn ?_
 cases h
 exact dV o (λ_=>aH [] .nil) ((.cons_cons _ (.cons _ .slnil)))
theorem qd(c:Value)(f u r)(h:kw f u=some r):Fn PP 299 [.one W50 f,tp c] [Res.cls aT c u] (λ_=> .tup []) (λ_=>[Res.cls aT c r]):=by
 unfold kw at h
 refine enter Tryz.func299 o 9 o o λF=>?_
 refine cC λM W hp=>?_
 subst hp
 refine bH (x:=u) ?_
 refine zu<|bD o o λV=>za<|zr<|q 2 [(4,ptr M 0),(5,ptr V 0)] [] o<|yl 0 f0 ty3 o o o tr o<|q 1 [(7,.one (.int .u16) (wrap .u16 f.1))] [4] o<|cB h λC R h=>rc [1] (ep _ _ _ _ R) (ca o) o o o λ_=>zn ?_
 cases h
 exact dV o (λ_=>aH [] .nil) ((.cons_cons _ (.cons _ .slnil)))
theorem qe(c:Value)(u f r)(h:ky u f=some r):Fn PP 303 [.one W50 u,tp c] [Res.cls aT c f] (λ_=> .tup []) (λ_=>[Res.cls aT c r]):=by
 unfold ky at h
 refine enter Tryz.func303 o 8 o o λF=>?_
 refine cC λM W hp=>?_
 subst hp
 refine bH (x:=f) ?_
 refine zu<|bD o o λV=>za<|zr<|q 2 [(4,ptr M 0),(5,ptr V 0)] [] o<|yl 0 f0 ty2 o o o tr o<|cB h λC R h=>rc [1] (cF _ _ _ _ R) (ca o) o o o λ_=>zn ?_
 cases h
 exact dV o (λ_=>aH [] .nil) ((.cons_cons _ (.cons _ .slnil)))
theorem qf(c:Value)(u f r)(h:m4 u f=some r):Inv PP "escrow/record.write" [.one Y212 u,.one W52 c] [Res.cls aT c f] (fun _=> .tup []) (fun _=>[Res.cls aT c r]):=match u,h with
 | .inl z,h=>(dk (k:=261) (by kernel_rfl) (rH c z f r h))
 | .inr (.inl z),h=>(bu o (dk (k:=277) (by kernel_rfl) (qc c z f r h)))
 | .inr (.inr (.inl z)),h=>(bu o (bu o (dk (k:=283) (by kernel_rfl) (rJ c z f r h))))
 | .inr (.inr (.inr (.inl z))),h=>(bu o (bu o (bu o (dk (k:=288) (by kernel_rfl) (pm c z f r h)))))
 | .inr (.inr (.inr (.inr (.inl z)))),h=>(bu o (bu o (bu o (bu o (dk (k:=299) (by kernel_rfl) (qd c z f r h))))))
 | .inr (.inr (.inr (.inr (.inr (.inl z))))),h=>(bu o (bu o (bu o (bu o (bu o (dk (k:=303) (by kernel_rfl) (qe c z f r h)))))))
 | .inr (.inr (.inr (.inr (.inr (.inr (_)))))),h=>by cases h
theorem u0(c r)(h:o4 c=some r):bn PP 69 [.one Y54 c] (.tup [⟨.str,r.1⟩,⟨(.int .i64),r.2⟩]):=by
 unfold o4 at h
 refine enter Tryz.func69 o 23 o o λF=>?_
 refine zu<|bD o o λV=>q 2 [(1,ptr V 0)] [] o<|zz<|yl 0 .here fm o o o tr o<|cB h λf R h=>av (lG _ _ R) (ca o) o o<|p 1 [1,4] o<|za<|zs<|zu<|p 1 [1,4,8] o<|y (s9 (.next (.next (.next (.next (.next (.next .here)))))) o o wx (iz f)) o ?_
 refine za<|rI h o (λhc h=>zu<|q 2 [(2,ts []),(3,ti 170)] [] o<|zf<|zT<|by cases h;exact aF (rs:=[.tmp 2,.tmp 3]) o (.cons (.tmp o) (.cons (.tmp o) (.nil))) o (λ_ vs g=>aH vs g) (λ_ _ _=>List.nil_sublist _)) λhc h=>zy<|cB h λJ W h=>rc [] (l5 _ W) (ca o) o o o λu=>p 1 [1,4,5] o<|zz<|p 2 [4,5,11,12] o<|yl 1 f0 ty3 o o o tr o<|q 1 [(14,.one (.int .u8) (wrap .u8 c.1))] [4,5,11] o<|cB h λC H h=>rc [0] (fJ _ _ _ _ H) (ca o) o o o λ_=>zz<|p 2 [5,16,17] o ?_
 refine cB h λd G h=>ri [0] (qf u f C _ G) o o o λ_=>?_
 refine zz<|q 1 [(19,tp u)] [] o<|cB h λM N h=>rc [0] (gm _ _ _ N) (ca o) o o o λ_=>q 4 [(2,ts M.1),(3,ti M.2)] [] o<|zf ?_
 cases h
 exact aF (rs:=[.tmp 2,.tmp 3]) o (.cons (.tmp o) (.cons (.tmp o) (.nil))) o (λ_ vs g=>aH vs g) (λ_ _ _=>List.nil_sublist _)
theorem mX(c:Value)(f u r)(h:gQ f u=some r):Fn PP 70 [tp c,ts u] [Res.cls (kN 139 5) c f] (λ_=> .tup [⟨.int .i64,r.1⟩,⟨.raw .nilIface,r.2.1⟩]) (λ_=>[Res.cls (kN 139 5) c r.2.2]):=by
 unfold gQ at h
 obtain⟨⟨hne,hc⟩,h⟩:=cr h;cases h
 refine enter Tryz.func70 o 19 o o λF=>CT λb q sv hp hq ho=>?_
 subst hp
 repeat (first|refine zs ?_|refine zr ?_)
 refine p 2 [0,1] o<|za ?_
 repeat (first|refine zs ?_|refine zr ?_)
 refine p 1 [0,1,6] o<|rc [0] (DY Go.Proofs.Tryz.cc_used Go.Proofs.Tryz.cc_fresh hq) (by kernel_rfl) o o o λ_=>za ?_
 repeat (first|refine zs ?_|refine zr ?_)
 refine p 4 [0,1,8,11] o ?_
 refine y (aM 0 f1 o o o (ag (ay ab)) tx1) o ?_
 refine p 1 [0,1,8,12,13] o ?_
 refine vG (B:=1) ai 1 o o (yb o) o el5 o o (by omega) o λV M=>?_
 refine p 2 [1,14,16] o ?_
 refine kU 0 f1 o o o o o o tx1 ?_
 refine za ?_
 repeat (first|refine zs ?_|refine zr ?_)
 refine p 4 [4,5] o<|zf<|DX (.inr o) (M ho) (by intro hx;exact hne (List.append_eq_nil_iff.1 hx).2) ?_
 exact aF (rs:=[.tmp 4,.tmp 5]) o (.cons (.tmp o) (.cons (.tmp o) .nil)) o (λ_ vs g=>aH vs g) (λ_ _ _=>(.cons_cons _ .slnil))
theorem qg(c:Value)(f r)(h:mZ f=some r):Fn PP 72 [tp c] [Res.cls (kN 139 5) c f] (λ_=>ti r) (λ_=>[Res.cls (kN 139 5) c f]):=by
 obtain rfl:=Option.some.inj h
 refine enter Tryz.func72 o 8 o o λF=>BD λb q sv hp hf=>?_
 subst hp
 repeat (first|refine zs ?_|refine zr ?_)
 refine p 1 [0] o<|za ?_
 repeat (first|refine zs ?_|refine zr ?_)
 refine p 3 [5] o ?_
 refine y (aM 0 f1 o o o (ag (ay ab)) tx1) o ?_
 refine y (cn ai 1 o o o) o ?_
 refine p 1 [2] o<|zf<|Dx hf ?_
 exact bd o (.tmp o) (.cons_cons _ .slnil)
theorem iB(c:Value)(f:List Int):Fn PP 74 [tp c] [Res.cls (nF 139 5) c f] (λ_=>ts f) (λ_=>[Res.cls (nF 139 5) c f]):=Du Go.Proofs.Tryz.bstr Go.Proofs.Tryz.bstr0
theorem ul(G:Value)(u:Value)(c C N r)(h:oe c C N=some r):Fn PP 129 [tp G,ti C] [Res.cls (cg u) G c,Res.disk PP dI u N] (λ_=> .tup [⟨Y195,r.1⟩,⟨.bool,r.2⟩]) (λ_=>[Res.cls (cg u) G c,Res.disk PP dI u N]):=by
 unfold oe at h
 refine enter Tryz.func129 o 45 o o λF=>?_
 refine mc λf a3 hp=>?_
 subst hp
 refine bS (x:=c) (q:=u) ?_
 refine zu<|aD (t:=Y195) o oF o λW=>q 1 [(0,ptr f 0),(1,ti C),(4,ptr W 0)] [] o<|za<|zs<|zs<|pk [1,0,0] o<|fo λa4=>?_
 refine zr<|p 3 [0,1,4,9] o<|yl 0 f3 tx5 o o o tr o<|y (cn ai 1 o o o) o ?_
 refine q 1 [(12,tb ((List.length c.2.2.2.1:Int)==0))] [0,1,4] o<|za<|rI h o (λhc h=>?_) λhc h=>?_
 ·refine zu<|y (bc o oF o o .nil) o ?_
  refine st 2 .here de o o o o tr<|p 1 [4,5] o<|zf<|zT<|bS (x:=c) (q:=u) ?_
  cases h
  exact aF (rs:=[.cell 4 195,.tmp 5]) o (.cons (.cell 1 .here o o o ab de) (.cons (.tmp o) (.nil))) o (λ_ vs g=>aH vs g) (λ_ _ _=>(.cons_cons _ (.cons _ (.cons_cons _ .slnil))))
 refine zk<|zt<|zs ?_
 obtain⟨d,h⟩:=cr h
 refine cJ 1 o (by omega) λM V H hv=>?_
 rw[hv]
 try clear hv
 refine gF (S:=bJ [jm M V 195 Y195 c.2.2.2.1,aX f 186 W25 (u,c.2.1,c.2.2.1,(.slice (some ⟨M,V,none⟩) (List.length c.2.2.2.1) H),c.2.2.2.2.1,c.2.2.2.2.2.1,c.2.2.2.2.2.2)]) (by kernel_rfl) ?_
 refine au 0 (ptr f 0) (aj (kM 1 o (by omega)) (aj (ar 0 o) al)) o (by kernel_rfl) o λs=>au 1 (ptr f 0) s o (by kernel_rfl) o λs=>au 2 (ptr f 3) s o (by kernel_rfl) o λs=>bz 3 (.one W51 (.slice (some ⟨M,V,none⟩) (List.length c.2.2.2.1) H)) s o (by kernel_rfl) (cD (S:=λw=>bJ [jm M V 195 Y195 c.2.2.2.1,aX f 186 W25 (u,c.2.1,c.2.2.1,(.slice (some ⟨M,V,none⟩) (List.length c.2.2.2.1) H),c.2.2.2.2.1,c.2.2.2.2.2.1,c.2.2.2.2.2.2)] w) (bA 1 o) 0 f3 o o o o (ag (ag (ag (ay ab)))) tx5) λs=>au 4 (ptr f 0) s o (by kernel_rfl) o λs=>au 5 (ptr f 0) s o (by kernel_rfl) o λs=>au 6 (ptr f 3) s o (by kernel_rfl) o λs=>bz 7 (.one W51 (.slice (some ⟨M,V,none⟩) (List.length c.2.2.2.1) H)) s o (by kernel_rfl) (cD (S:=λw=>bJ [jm M V 195 Y195 c.2.2.2.1,aX f 186 W25 (u,c.2.1,c.2.2.1,(.slice (some ⟨M,V,none⟩) (List.length c.2.2.2.1) H),c.2.2.2.2.1,c.2.2.2.2.2.1,c.2.2.2.2.2.2)] w) (bA 1 o) 0 f3 o o o o (ag (ag (ag (ay ab)))) tx5) λs=>bz 8 (ti (List.length c.2.2.2.1:Int)) s o (by kernel_rfl) (cn (t:=Y195) ai 1 o o o) λs=>au 9 (ti (wrap .i64 ((List.length c.2.2.2.1:Int) - 1))) s o (by kernel_rfl) o λs=>bz 10 (ptr M (V+(Int.toNat (wrap .i64 ((List.length c.2.2.2.1:Int) - 1)))*3)) s o (by kernel_rfl) (cU ai o o d.1 d.2 o de) λs=>bz 11 (.one Y195 (List.getD c.2.2.2.1 (Int.toNat (wrap .i64 ((List.length c.2.2.2.1:Int) - 1))) (0,0,0,()))) s o (by kernel_rfl) (sz (S:=λw=>bJ [jm M V 195 Y195 c.2.2.2.1,aX f 186 W25 (u,c.2.1,c.2.2.1,(.slice (some ⟨M,V,none⟩) (List.length c.2.2.2.1) H),c.2.2.2.2.1,c.2.2.2.2.2.1,c.2.2.2.2.2.2)] w) (bA 0 o) 1 (Int.toNat (wrap .i64 ((List.length c.2.2.2.1:Int) - 1))) .here o o o (by omega) (by first|rfl|(simp only[Pth.off,T.size];omega)) ab de) λs=>aI 12 (by kernel_rfl) o<|aD (t:=Y195) o oF o λR=>?_
 refine za<|bj (aj (kM 2 o (by omega)) (aj (ar 1 o) al)) ?_
 refine aa [0,1,4,6,25] o<|aI 13 (by kernel_rfl) o<|st 0 .here de o o o o tr<|za<|bj (aj (kM 2 o (by omega)) (aj (ar 1 o) al)) ?_
 refine aa [0,1,4,6] o<|eY (by kernel_rfl)<|zt<|zs<|zs<|eE (by kernel_rfl) (by kernel_rfl) ?_
 refine aA ai 1 [0,1,4,6,26] (E':=[(0,ptr f 0),(1,ti C),(4,ptr W 0),(6,ptr R 0),(26,ptr R 1)]) o ?_
 refine q_y (aM 0 f1 o o o (ag (ay ab)) ty3) o ?_
 refine aA ai 1 [0,1,4,6,28] (E':=[(0,ptr f 0),(1,ti C),(4,ptr W 0),(6,ptr R 0),(28,tb (decide (((List.getD c.2.2.2.1 (Int.toNat (wrap .i64 ((List.length c.2.2.2.1:Int) - 1))) (0,0,0,())).2.1)>0)))]) o ?_
 obtain⟨m,e,h⟩:=ak h;rw[e]
 refine aA ai 1 [0,1,4,6,29] (E':=[(0,ptr f 0),(1,ti C),(4,ptr W 0),(6,ptr R 0),(29,tb m)]) o ?_
 refine bX h λZ a2 h=>?_
 refine vC 10 (λ(O:Bool)=>[(4,ptr W 0),(6,ptr R 0),(39,tb O)]) Z r ?_ ?_
 ·cases m
  ·replace h:=ifF h
   refine aA ai 10 [4,6,39] (E':=[(4,ptr W 0),(6,ptr R 0),(39,tb false)]) o ?_
   refine fV ?_
   exact sY false [4,6,39] h o
  replace h:=ifT h
  refine aA ai 1 [0,1,4,6,29,30] (E':=[(0,ptr f 0),(1,ti C),(4,ptr W 0),(6,ptr R 0),(29,tb true),(30,ptr R 1)]) o ?_
  refine dx (by rfl) o ?_
  refine q_y (aM 0 f1 o o o (ag (ay ab)) ty3) o ?_
  refine aA ai 2 [0,4,6,29,33] (E':=[(0,ptr f 0),(4,ptr W 0),(6,ptr R 0),(29,tb true),(33,ti (wrap .i64 (((List.getD c.2.2.2.1 (Int.toNat (wrap .i64 ((List.length c.2.2.2.1:Int) - 1))) (0,0,0,())).2.1)+C)))]) o ?_
  obtain⟨J,e,h⟩:=ak h;rw[e]
  refine aA ai 3 [4,6,29,33,36] (E':=[(4,ptr W 0),(6,ptr R 0),(29,tb true),(33,ti J),(36,ptr f 2)]) o ?_
  refine dx (by rfl) o ?_
  refine q_y (aM 1 f2 o o o (ag (ag (ay ab))) ty3) o ?_
  refine aA ai 2 [4,6,39] (E':=[(4,ptr W 0),(6,ptr R 0),(39,tb (decide (J>c.2.2.1)))]) o ?_
  refine fV ?_
  exact sY (decide (J>c.2.2.1)) [4,6,39] h o
 intro O h
 rw[←a2]at h
 try dsimp only at h
 refine eX ?_
 refine zt<|rI h o (λhc h=>?_) λhc h=>?_
 ·refine zu<|p 1 [4,40] o<|yl 0 f0 ty3 o o o tr o<|q 1 [(42,ti (wrap .i64 (((List.getD c.2.2.2.1 (Int.toNat (wrap .i64 ((List.length c.2.2.2.1:Int) - 1))) (0,0,0,())).1)+1)))] [4] o ?_
  obtain⟨a5,e,h⟩:=ak h;rw[e]
  refine y (bc o oF o o (.cons f0 o o ab .nil)) o ?_
  refine st 3 .here de o o o o tr<|p 1 [4,5] o<|zf<|zT<|pk [1,1,0,0,0] o<|bS (x:=c) (q:=u) ?_
  cases h
  exact aF (rs:=[.cell 4 195,.tmp 5]) o (.cons (.cell 2 .here o o o ab de) (.cons (.tmp o) (.nil))) o (λ_ vs g=>aH vs g) (λ_ _ _=>(.cons_cons _ (.cons _ (.cons _ (.cons_cons _ .slnil)))))
 refine zy<|yl 0 .here de o o o tr o<|st 3 .here de o o o o tr<|p 1 [4,5] o<|zf<|pk [1,1,0,0,0] o<|bS (x:=c) (q:=u) ?_
 cases h
 exact aF (rs:=[.cell 4 195,.tmp 5]) o (.cons (.cell 2 .here o o o ab de) (.cons (.tmp o) (.nil))) o (λ_ vs g=>aH vs g) (λ_ _ _=>(.cons_cons _ (.cons _ (.cons _ (.cons_cons _ .slnil)))))
theorem u1(J:Value)(M:Value)(c W d m r)(h:o5 c W d m=some r):FnT PP bF 131 [tp J,.one Y195 W,tb d] [Res.cls (cg M) J c,Res.disk PP dI M m] (λ_=>ti r.1) (λ_=>[Res.cls (cg M) J c,Res.disk PP dI M r.2]):=by
 unfold o5 at h
 refine gP Tryz.func131 o 28 o o λF hT=>?_
 refine mc λu a4 hp=>?_
 subst hp
 refine bS (x:=c) (q:=M) ?_
 refine zu<|bD o o λC=>q 1 [(0,ptr u 0),(2,tb d),(4,ptr C 0)] [] o<|za<|zs<|zu<|p 1 [0,4,7] o<|za<|rI h o (λhc h=>?_) λhc h=>?_
 ·refine bv h (λG=>[(6,ti G.1)]) (λG=>[Res.cls (cg M) (.pointer (some ⟨u,0,none⟩)) c,Res.disk PP dI M G.2,Res.var C 195 Y195 W]) (λk4 h=>?_) λG h=>?_
  ·refine pk [1,0,0] o<|fo λa5=>?_
   refine dF (by kernel_rfl)<|ae 0 (ptr u 0) o (by kernel_rfl) o<|ae 4 (ptr u 0) o (by kernel_rfl) o<|ae 5 (ptr C 0) o (by kernel_rfl) o ?_
   refine br (i:=1) (j:=6) (by kernel_rfl) o o ?_ ?_
   ·refine q 1 [(9,ptr u 0),(12,ptr u 0),(13,ptr C 0)] [] o<|za<|aa [9,12,13] o<|ae 2 (ptr u 0) o (by kernel_rfl) o ?_
    refine br (i:=3) (j:=6) (by kernel_rfl) o o ?_ ?_
    ·refine yl 0 f0 dE o o o tr o<|za<|aa [11,12,13] o<|af 6 (by kernel_rfl) o<|yl 2 f0 ty3 o o o tr o<|za<|aa [11,12,14] o<|af 7 (by kernel_rfl) o<|cB h λH V h=>rcT hT [0] (aE _ _ _ _ _ _ V) (ca o) o o o λ_=>za<|aa [11,15] o<|af 8 (by kernel_rfl) o<|cB h λf R h=>?_
     refine rc [3] (aL _ _ _ _ R) (ca o) o o o λ_=>za<|aa [16] o<|ae 9 (ti f.1) o (by kernel_rfl) o<|aN (by kernel_rfl)<|zt<|pk [1,1,0,0] o<|bS (x:=c) (q:=M) ?_
     exact aa [6] o<|ah (f.1,f.2) () h o o
    refine yl 2 f0 ty3 o o o tr o<|za<|aa [10,12,14] o ?_
    refine br (i:=3) (j:=7) (by kernel_rfl) o o ?_ ?_
    ·refine yl 0 f0 dE o o o tr o<|za<|aa [11,12,14] o<|af 7 (by kernel_rfl) o<|cB h λH V h=>rcT hT [0] (aE _ _ _ _ _ _ V) (ca o) o o o λ_=>za<|aa [11,15] o<|af 8 (by kernel_rfl) o<|cB h λf R h=>rc [3] (aL _ _ _ _ R) (ca o) o o o λ_=>za<|aa [16] o<|ae 9 (ti f.1) o (by kernel_rfl) o ?_
     refine aN (by kernel_rfl)<|zt<|pk [1,1,0,0] o<|bS (x:=c) (q:=M) ?_
     exact aa [6] o<|ah (f.1,f.2) () h o o
    refine cB h λH V h=>rcT hT [0] (aE _ _ _ _ _ _ V) (ca o) o o o λ_=>za<|aa [10,15] o<|af 3 (by kernel_rfl) o<|yl 0 f0 dE o o o tr o<|za<|aa [11,15] o<|af 8 (by kernel_rfl) o<|cB h λf R h=>rc [3] (aL _ _ _ _ R) (ca o) o o o λ_=>za<|aa [16] o<|ae 9 (ti f.1) o (by kernel_rfl) o ?_
    refine aN (by kernel_rfl)<|zt<|pk [1,1,0,0] o<|bS (x:=c) (q:=M) ?_
    exact aa [6] o<|ah (f.1,f.2) () h o o
   refine yl 2 f0 ty3 o o o tr o<|za<|aa [8,12,14] o ?_
   refine br (i:=1) (j:=7) (by kernel_rfl) o o ?_ ?_
   ·refine q 1 [(9,ptr u 0),(12,ptr u 0),(14,ti W.1)] [] o<|za<|aa [9,12,14] o<|ae 2 (ptr u 0) o (by kernel_rfl) o ?_
    refine br (i:=3) (j:=7) (by kernel_rfl) o o ?_ ?_
    ·refine yl 0 f0 dE o o o tr o<|za<|aa [11,12,14] o<|af 7 (by kernel_rfl) o<|cB h λH V h=>rcT hT [0] (aE _ _ _ _ _ _ V) (ca o) o o o λ_=>za<|aa [11,15] o<|af 8 (by kernel_rfl) o<|cB h λf R h=>rc [3] (aL _ _ _ _ R) (ca o) o o o λ_=>za<|aa [16] o<|ae 9 (ti f.1) o (by kernel_rfl) o ?_
     refine aN (by kernel_rfl)<|zt<|pk [1,1,0,0] o<|bS (x:=c) (q:=M) ?_
     exact aa [6] o<|ah (f.1,f.2) () h o o
    refine cB h λH V h=>rcT hT [0] (aE _ _ _ _ _ _ V) (ca o) o o o λ_=>za<|aa [10,15] o<|af 3 (by kernel_rfl) o<|yl 0 f0 dE o o o tr o<|za<|aa [11,15] o<|af 8 (by kernel_rfl) o<|cB h λf R h=>rc [3] (aL _ _ _ _ R) (ca o) o o o λ_=>za<|aa [16] o<|ae 9 (ti f.1) o (by kernel_rfl) o ?_
    refine aN (by kernel_rfl)<|zt<|pk [1,1,0,0] o<|bS (x:=c) (q:=M) ?_
    exact aa [6] o<|ah (f.1,f.2) () h o o
   refine cB h λH V h=>rcT hT [0] (aE _ _ _ _ _ _ V) (ca o) o o o λ_=>za<|aa [8,15] o<|af 1 (by kernel_rfl) o<|q 1 [(9,ptr u 0),(15,ts H)] [] o<|za<|aa [9,15] o<|ae 2 (ptr u 0) o (by kernel_rfl) o<|af 3 (by kernel_rfl) o<|yl 0 f0 dE o o o tr o<|za<|aa [11,15] o<|af 8 (by kernel_rfl) o ?_
   refine cB h λf R h=>rc [3] (aL _ _ _ _ R) (ca o) o o o λ_=>za<|aa [16] o<|ae 9 (ti f.1) o (by kernel_rfl) o<|aN (by kernel_rfl)<|zt<|pk [1,1,0,0] o<|bS (x:=c) (q:=M) ?_
   exact aa [6] o<|ah (f.1,f.2) () h o o
  refine zR<|zT ?_
  cases h
  exact bd o (.tmp o) (.cons_cons _ (.cons_cons _ (.cons _ .slnil)))
 refine zk<|zt<|zs<|pk [1,0,0] o<|fo λN=>?_
 refine gF (S:=bJ [aX u 186 W25 (M,c.2.1,c.2.2.1,N,c.2.2.2.2.1,c.2.2.2.2.2.1,c.2.2.2.2.2.2),aX C 195 Y195 W]) (by kernel_rfl) ?_
 refine au 0 (ptr u 0) (aj (ar 0 o) (aj (ar 2 o) al)) o (by kernel_rfl) o λs=>au 1 (ptr u 0) s o (by kernel_rfl) o λs=>au 2 (ptr u 0) s o (by kernel_rfl) o λs=>bz 3 (tp M) s o (by kernel_rfl) (cD (S:=λw=>bJ [aX u 186 W25 (M,c.2.1,c.2.2.1,N,c.2.2.2.2.1,c.2.2.2.2.2.1,c.2.2.2.2.2.2),aX C 195 Y195 W] w) (bA 0 o) 0 f0 o o o o (ay ab) dE) λs=>au 4 (ptr u 0) s o (by kernel_rfl) o λs=>au 5 (ptr C 0) s o (by kernel_rfl) o λs=>bz 6 (ti W.1) s o (by kernel_rfl) (cD (S:=λw=>bJ [aX u 186 W25 (M,c.2.1,c.2.2.1,N,c.2.2.2.2.1,c.2.2.2.2.2.1,c.2.2.2.2.2.2),aX C 195 Y195 W] w) (bA 1 o) 2 f0 o o o o (ay ab) ty3) λs=>au 8 (ptr C 1) s o (by kernel_rfl) o λs=>bz 9 (ti W.2.1) s o (by kernel_rfl) (cD (S:=λw=>bJ [aX u 186 W25 (M,c.2.1,c.2.2.1,N,c.2.2.2.2.1,c.2.2.2.2.2.1,c.2.2.2.2.2.2),aX C 195 Y195 W] w) (bA 1 o) 2 f1 o o o o (ag (ay ab)) ty3) λs=>aI 7 (by kernel_rfl) o<|cB h λa6 O h=>rcT hT [0] (aE _ _ _ _ _ _ O) (ca o) o o o λ_=>za<|bj (aj (ar 0 o) (aj (ar 2 o) al)) ?_
 refine aa [20,24,26] o<|aI 10 (by kernel_rfl) o<|cB h λZ a3 h=>rc [3] (mq _ _ _ _ _ a3) (ca o) o o o λ_=>za<|bj (aj (ar 1 o) (aj (ar 3 o) al)) ?_
 refine aa [27] o<|au 11 (ti Z.1) (aj (ar 1 o) (aj (ar 3 o) al)) o (by kernel_rfl) o λs=>eY (by kernel_rfl)<|zt<|zR<|pk [1,1,0,0] o<|bS (x:=c) (q:=M) ?_
 cases h
 exact bd o (.tmp o) (.cons_cons _ (.cons_cons _ (.cons _ .slnil)))
theorem lI(p0:Value)(M:Value)(c a1 a6 r)(h:nq c a1 a6=some r):FnT PP bF 73 [tp p0,ts a1] [Res.cls (cg M) p0 c,Res.disk PP dI M a6] (λ_=>ti r.1) (λ_=>[Res.cls (cg M) p0 r.2.1,Res.disk PP dI M r.2.2]):=by
 unfold nq at h
 refine gP Tryz.func73 o 133 o o λF hT=>?_
 refine mc λf b4 hp=>?_
 subst hp
 refine bS (x:=c) (q:=M) ?_
 refine zu<|q 1 [(0,ptr f 0),(1,ts a1)] [] o<|za<|zs<|zs<|fo λb5=>?_
 refine zr<|p 3 [0,1,13] o<|yl 0 f5 ty4 o o o tr o<|za<|rI h o (λhc h=>?_) λhc h=>?_
 ·refine zu<|q 1 [(4,ti 60)] [] o<|zf<|zT<|bS (x:=c) (q:=M) ?_
  cases h
  exact bd o (.tmp o) (.cons_cons _ (.cons_cons _ .slnil))
 refine zk<|zt<|zs<|zu<|q 3 [(17,tb (decide ((List.length a1:Int)>65536)))] [0,1] o<|za<|rI h o (λhc h=>?_) λhc h=>?_
 ·refine zu<|q 1 [(4,ti 3)] [] o<|zf<|zT<|bS (x:=c) (q:=M) ?_
  cases h
  exact bd o (.tmp o) (.cons_cons _ (.cons_cons _ .slnil))
 refine zk<|zt<|zs<|zu<|p 3 [0,1,20] o<|yl 0 f4 ty2 o o o tr o<|q 1 [(22,tb (decide (c.2.2.2.2.1≥1152921504606846976)))] [0,1] o<|za<|rI h o (λhc h=>?_) λhc h=>?_
 ·refine zu<|q 1 [(4,ti 6)] [] o<|zf<|zT<|bS (x:=c) (q:=M) ?_
  cases h
  exact bd o (.tmp o) (.cons_cons _ (.cons_cons _ .slnil))
 refine zy<|p 3 [0,1,26] o<|yl 0 f4 ty2 o o o tr o<|q 1 [(27,ti c.2.2.2.2.1),(28,ts a1)] [0] o<|cB h λW a7 h=>av (qC _ _ _ a7) (ca o) o o<|q 5 [(5,ts W.1),(6,ti W.2)] [0] o<|za<|zs<|zu<|q 2 [(33,tb (W.2 !=0))] [0,5,6] o<|za<|rI h o (λhc h=>?_) λhc h=>?_
 ·refine zu<|q 2 [(4,ti W.2)] [] o<|zf<|zT<|bS (x:=c) (q:=M) ?_
  cases h
  exact bd o (.tmp o) (.cons_cons _ (.cons_cons _ .slnil))
 refine zy<|q 3 [(36,ptr f 0),(38,ti (List.length W.1:Int))] [0,5] o<|bS (x:=c) (q:=M) ?_
 refine cB h λu a8 h=>rc [0,0] (ul _ _ _ _ _ _ a8) (ca o) o o o λ_=>q 3 [(40,.one Y195 u.1),(41,tb u.2)] [0,5] o<|aD (t:=Y195) o oF o λV=>st 0 .here de o o o o tr<|q 1 [(7,ptr V 0),(8,tb u.2)] [0,5] o<|za<|zs<|zu<|p 1 [0,5,7,8,42] o<|yl 0 f0 ty3 o o o tr o<|q 1 [(0,ptr f 0),(5,ts W.1),(7,ptr V 0),(8,tb u.2),(44,tb (decide (u.1.1>9999999)))] [] o<|za<|rI h o (λhc h=>zu<|q 1 [(4,ti 6)] [] o<|zf<|zT<|by cases h;exact aU o (.tmp o) (λ_ _ g=>g) (λ_ _ _=>(.cons _ (.cons_cons _ (.cons_cons _ .slnil))))) λhc h=>?_
 refine zk<|zt<|zs<|zs<|pk [1,0,0] o<|fo λG=>?_
 refine gF (S:=bJ [aX f 186 W25 (M,c.2.1,c.2.2.1,G,c.2.2.2.2.1,c.2.2.2.2.2.1,c.2.2.2.2.2.2),aX V 195 Y195 u.1]) (by kernel_rfl) ?_
 refine au 0 (ptr f 0) (aj (ar 0 o) (aj (ar 2 o) al)) o (by kernel_rfl) o λs=>au 1 (ptr f 0) s o (by kernel_rfl) o λs=>au 2 (ptr f 0) s o (by kernel_rfl) o λs=>bz 3 (tp M) s o (by kernel_rfl) (cD (S:=λw=>bJ [aX f 186 W25 (M,c.2.1,c.2.2.1,G,c.2.2.2.2.1,c.2.2.2.2.2.1,c.2.2.2.2.2.2),aX V 195 Y195 u.1] w) (bA 0 o) 0 f0 o o o o (ay ab) dE) λs=>au 4 (ptr f 0) s o (by kernel_rfl) o λs=>au 5 (ptr V 0) s o (by kernel_rfl) o λs=>bz 6 (ti u.1.1) s o (by kernel_rfl) (cD (S:=λw=>bJ [aX f 186 W25 (M,c.2.1,c.2.2.1,G,c.2.2.2.2.1,c.2.2.2.2.2.1,c.2.2.2.2.2.2),aX V 195 Y195 u.1] w) (bA 1 o) 2 f0 o o o o (ay ab) ty3) λs=>au 8 (ptr V 1) s o (by kernel_rfl) o λs=>bz 9 (ti u.1.2.1) s o (by kernel_rfl) (cD (S:=λw=>bJ [aX f 186 W25 (M,c.2.1,c.2.2.1,G,c.2.2.2.2.1,c.2.2.2.2.2.1,c.2.2.2.2.2.2),aX V 195 Y195 u.1] w) (bA 1 o) 2 f1 o o o o (ag (ay ab)) ty3) λs=>au 10 (ts W.1) s o (by kernel_rfl) o λs=>aI 7 (by kernel_rfl) o<|cB h λr8 a9 h=>rcT hT [0] (aE _ _ _ _ _ _ a9) (ca o) o o o λ_=>za ?_
 refine bj (aj (ar 0 o) (aj (ar 2 o) al)) ?_
 refine aa [0,5,7,8,48,52,54,55] o<|aI 11 (by kernel_rfl) o<|cB h λm b0 h=>rc [3] (kQ _ _ _ _ _ _ b0) (ca o) o o o λ_=>za<|bj (aj (ar 1 o) (aj (ar 3 o) al)) ?_
 refine aa [0,5,7,8,56] o<|au 12 (ti m.1) (aj (ar 1 o) (aj (ar 3 o) al)) o (by kernel_rfl) o λs=>eY (by kernel_rfl)<|zt<|zu<|q 2 [(9,ti m.1),(58,tb (m.1 !=0))] [0,5,7,8] o<|za<|rI h o (λhc h=>?_) λhc h=>?_
 ·refine zu<|q 5 [(61,tb (m.1==9)),(63,ptr f 5)] [9] o<|st 1 f5 ty4 o o o o tr<|zz<|q 2 [(4,ti m.1)] [] o<|zf<|zT<|pk [1,1,0,0] o<|bS (x:=((),c.2.1,c.2.2.1,c.2.2.2.1,c.2.2.2.2.1,(m.1==9),c.2.2.2.2.2.2)) (q:=M) ?_
  cases h
  exact bd o (.tmp o) (.cons_cons _ (.cons_cons _ (.cons _ .slnil)))
 refine zk<|zt<|zs<|bv h (λH=>[(0,ptr f 0),(5,ts W.1),(7,ptr V 0),(8,tb u.2),(10,ti H.1)]) (λH=>[Res.disk PP dI M H.2,Res.var f 186 W25 (M,c.2.1,c.2.2.1,G,c.2.2.2.2.1,c.2.2.2.2.2.1,c.2.2.2.2.2.2),Res.own G 195 Y195 c.2.2.2.1,Res.var V 195 Y195 u.1]) (λb7 h=>?_) λH h=>?_
 ·refine dF (by kernel_rfl)<|ae 0 (ptr f 0) o (by kernel_rfl) o<|ae 4 (ptr f 0) o (by kernel_rfl) o<|ae 5 (ptr V 0) o (by kernel_rfl) o ?_
  refine br (i:=1) (j:=6) (by kernel_rfl) o o ?_ ?_
  ·refine p 1 [0,5,7,8,66,69,70] o<|za<|aa [0,5,7,8,66,69,70] o<|ae 2 (ptr f 0) o (by kernel_rfl) o ?_
   refine br (i:=3) (j:=6) (by kernel_rfl) o o ?_ ?_
   ·refine yl 1 f0 dE o o o tr o<|za<|aa [0,5,7,8,68,69,70] o<|af 6 (by kernel_rfl) o<|yl 3 f0 ty3 o o o tr o<|za<|aa [0,5,7,8,68,69,71] o<|af 7 (by kernel_rfl) o<|cB h λa2 N h=>rcT hT [1] (aE _ _ _ _ _ _ N) (ca o) o o o λ_=>za<|aa [0,5,7,8,68,72] o<|af 8 (by kernel_rfl) o<|cB h λR J h=>?_
    exact rc [1] (dt _ _ _ _ J) (ca o) o o o λ_=>za<|aa [0,5,7,8,73] o<|ae 9 (ti R.1) o (by kernel_rfl) o<|aN (by kernel_rfl)<|zt<|aa [0,5,7,8,10] o<|ah (R.1,R.2) () h o o
   refine yl 3 f0 ty3 o o o tr o<|za<|aa [0,5,7,8,67,69,71] o ?_
   refine br (i:=3) (j:=7) (by kernel_rfl) o o ?_ ?_
   ·refine yl 1 f0 dE o o o tr o<|za<|aa [0,5,7,8,68,69,71] o<|af 7 (by kernel_rfl) o<|cB h λa2 N h=>rcT hT [1] (aE _ _ _ _ _ _ N) (ca o) o o o λ_=>za<|aa [0,5,7,8,68,72] o<|af 8 (by kernel_rfl) o<|cB h λR J h=>rc [1] (dt _ _ _ _ J) (ca o) o o o λ_=>za<|aa [0,5,7,8,73] o<|ae 9 (ti R.1) o (by kernel_rfl) o ?_
    exact aN (by kernel_rfl)<|zt<|aa [0,5,7,8,10] o<|ah (R.1,R.2) () h o o
   refine cB h λa2 N h=>rcT hT [1] (aE _ _ _ _ _ _ N) (ca o) o o o λ_=>za<|aa [0,5,7,8,67,72] o<|af 3 (by kernel_rfl) o<|yl 0 f0 dE o o o tr o<|za<|aa [0,5,7,8,68,72] o<|af 8 (by kernel_rfl) o<|cB h λR J h=>rc [1] (dt _ _ _ _ J) (ca o) o o o λ_=>za<|aa [0,5,7,8,73] o<|ae 9 (ti R.1) o (by kernel_rfl) o ?_
   exact aN (by kernel_rfl)<|zt<|aa [0,5,7,8,10] o<|ah (R.1,R.2) () h o o
  refine yl 3 f0 ty3 o o o tr o<|za<|aa [0,5,7,8,65,69,71] o ?_
  refine br (i:=1) (j:=7) (by kernel_rfl) o o ?_ ?_
  ·refine q 1 [(66,ptr f 0),(69,ptr f 0),(71,ti u.1.1)] [0,5,7,8] o<|za<|aa [0,5,7,8,66,69,71] o<|ae 2 (ptr f 0) o (by kernel_rfl) o ?_
   refine br (i:=3) (j:=7) (by kernel_rfl) o o ?_ ?_
   ·refine yl 1 f0 dE o o o tr o<|za<|aa [0,5,7,8,68,69,71] o<|af 7 (by kernel_rfl) o<|cB h λa2 N h=>rcT hT [1] (aE _ _ _ _ _ _ N) (ca o) o o o λ_=>za<|aa [0,5,7,8,68,72] o<|af 8 (by kernel_rfl) o<|cB h λR J h=>rc [1] (dt _ _ _ _ J) (ca o) o o o λ_=>za<|aa [0,5,7,8,73] o<|ae 9 (ti R.1) o (by kernel_rfl) o ?_
    exact aN (by kernel_rfl)<|zt<|aa [0,5,7,8,10] o<|ah (R.1,R.2) () h o o
   refine cB h λa2 N h=>rcT hT [1] (aE _ _ _ _ _ _ N) (ca o) o o o λ_=>za<|aa [0,5,7,8,67,72] o<|af 3 (by kernel_rfl) o<|yl 0 f0 dE o o o tr o<|za<|aa [0,5,7,8,68,72] o<|af 8 (by kernel_rfl) o<|cB h λR J h=>rc [1] (dt _ _ _ _ J) (ca o) o o o λ_=>za<|aa [0,5,7,8,73] o<|ae 9 (ti R.1) o (by kernel_rfl) o ?_
   exact aN (by kernel_rfl)<|zt<|aa [0,5,7,8,10] o<|ah (R.1,R.2) () h o o
  refine cB h λa2 N h=>rcT hT [1] (aE _ _ _ _ _ _ N) (ca o) o o o λ_=>za<|aa [0,5,7,8,65,72] o<|af 1 (by kernel_rfl) o<|p 1 [0,5,7,8,66,72] o<|za<|aa [0,5,7,8,66,72] o<|ae 2 (ptr f 0) o (by kernel_rfl) o<|af 3 (by kernel_rfl) o<|yl 0 f0 dE o o o tr o<|za<|aa [0,5,7,8,68,72] o<|af 8 (by kernel_rfl) o ?_
  exact cB h λR J h=>rc [1] (dt _ _ _ _ J) (ca o) o o o λ_=>za<|aa [0,5,7,8,73] o<|ae 9 (ti R.1) o (by kernel_rfl) o<|aN (by kernel_rfl)<|zt<|aa [0,5,7,8,10] o<|ah (R.1,R.2) () h o o
 refine zu<|q 2 [(0,ptr f 0),(5,ts W.1),(7,ptr V 0),(8,tb u.2),(10,ti H.1),(75,tb (H.1 !=0))] [] o<|za<|rI h o (λhc h=>?_) λhc h=>?_
 ·refine zu<|q 4 [(76,ptr f 0),(79,tb (H.1 !=40))] [0,7,8,10] o<|pk [1,1,0,0] o<|bS (x:=c) (q:=M) ?_
  obtain⟨b1,e,h⟩:=ak h;rw[e]
  refine bL h 6 (λO=>[(10,ti H.1),(76,ptr f 0),(85,tb O.1)]) (λO=>[Res.cls (cg M) (.pointer (some ⟨f,0,none⟩)) c,Res.disk PP dI M O.2,Res.var V 195 Y195 u.1]) (λb8 h=>?_) λO h=>?_
  ·cases b1
   ·replace h:=ifF h
    refine p 1 [7,8,10,76,79,80] o<|ap (by rfl) o ?_
    refine yl 2 .here de o o o tr o<|q 1 [(81,.one Y195 u.1),(82,tb u.2)] [10,76,79,80] o<|ap (by rfl) o ?_
    exact cB h λa5 b3 h=>rcT hT [0,0] (u1 _ _ _ _ _ _ _ b3) (ca o) o o o λ_=>q 2 [(85,tb (a5.1 !=0))] [10,76] o<|zn<|aa [10,76,85] o<|zt<|ah ((a5.1 !=0),a5.2) () h o o
   replace h:=ifT h
   exact p 6 [10,76,85] o<|zn<|aa [10,76,85] o<|zt<|ah (true,H.2) () h o o
  refine fo λb9=>?_
  refine q 2 [(10,ti H.1),(85,tb O.1),(87,ptr f 5)] [] o<|st 0 f5 ty4 o o o o tr<|zz<|q 2 [(4,ti H.1)] [] o<|zf<|zT<|bS (x:=((),c.2.1,c.2.2.1,c.2.2.2.1,c.2.2.2.2.1,O.1,c.2.2.2.2.2.2)) (q:=M) ?_
  cases h
  exact bd o (.tmp o) (.cons_cons _ (.cons_cons _ (.cons _ .slnil)))
 refine zy<|p 3 [0,5,7,8,89,91] o<|yl 1 f4 ty2 o o o tr o<|q 3 [(93,ti (wrap .i64 (c.2.2.2.2.1+1))),(95,ptr f 4)] [0,5,7,8] o<|st 1 f4 ty2 o o o o tr<|zz<|p 1 [0,5,7,8,96] o<|yl 3 f1 ty3 o o o tr o<|q 4 [(100,ti (wrap .i64 (u.1.2.1+(List.length W.1:Int)))),(101,ptr V 1)] [0,7,8] o<|st 3 f1 ty3 o o o o tr<|nL o<|zz<|p 3 [0,7,8,104] o<|yl 1 f4 ty2 o o o tr o ?_
 refine q 1 [(105,ti (wrap .i64 (c.2.2.2.2.1+1))),(106,ptr V 2)] [0,7,8] o<|st 3 f2 ty2 o o o o tr<|za<|jK h (γ:=Value) (λd g20=>[(0,ptr f 0),(7,ptr V 0)]) (λd g20=>[Res.disk PP dI M H.2,Res.var f 186 W25 (M,c.2.1,c.2.2.1,g20,(wrap .i64 (c.2.2.2.2.1+1)),c.2.2.2.2.2.1,c.2.2.2.2.2.2),Res.own g20 195 Y195 d,Res.var V 195 Y195 (u.1.1,(wrap .i64 (u.1.2.1+(List.length W.1:Int))),(wrap .i64 (c.2.2.2.2.1+1)),u.1.2.2.2)]) (λc0 h=>?_) λd g20 h=>?_
 ·refine zu<|q 2 [(108,tb (!u.2))] [0,7] o<|za<|rI h o (λhc h=>?_) λhc h=>?_
  ·refine dF (by kernel_rfl)<|ae 0 (ptr f 0) o (by kernel_rfl) o<|ae 1 (ptr f 0) o (by kernel_rfl) o<|ae 5 (ptr f 0) o (by kernel_rfl) o<|nY (fuel:=2) [2,3,4,6,7,8,9,10,11,12] #[true,true,true,true,true,true,true,true,true,true,true,true,true,false,false] (by kernel_rfl) ?_
   refine aA ai 2 [0,7,109,112,114] (E':=[(0,ptr f 0),(7,ptr V 0),(109,ptr f 0),(112,ptr f 3),(114,ptr f 0)]) o ?_
   refine q_y (aM 1 f3 o o o (ag (ag (ag (ay ab)))) tx5) o ?_
   refine aA ai 2 [0,7,109,113,116] (E':=[(0,ptr f 0),(7,ptr V 0),(109,ptr f 0),(113,.one W51 G),(116,ptr f 3)]) o ?_
   refine q_y (aM 1 f3 o o o (ag (ag (ag (ay ab)))) tx5) o ?_
   refine q_y (cn ai 2 o o o) o ?_
   refine aA ai 1 [0,7,109,113,119] (E':=[(0,ptr f 0),(7,ptr V 0),(109,ptr f 0),(113,.one W51 G),(119,ti (wrap .i64 ((List.length c.2.2.2.1:Int) - 1)))]) o ?_
   obtain⟨a3,h⟩:=cr h
   refine q_y (jA ai (i:=(0:Int)) (j:=(wrap .i64 ((List.length c.2.2.2.1:Int) - 1))) o (eF 2 o) o o a3.1 a3.2.1 a3.2.2 o de) o ?_
   refine aA ai 1 [0,7,120,121] (E':=[(0,ptr f 0),(7,ptr V 0),(120,.one W51 (fP (T.size Y195) G (Int.toNat (0:Int)) (Int.toNat (wrap .i64 ((List.length c.2.2.2.1:Int) - 1))))),(121,ptr f 0)]) o ?_
   refine eX ?_
   refine aa [0,7,120,121] o<|ae 13 (ptr f 3) o (by kernel_rfl) o<|af 14 (by kernel_rfl) o<|qX (j:=(Int.toNat (wrap .i64 ((List.length c.2.2.2.1:Int) - 1)))) 2 o (by have:=a3.2.2;omega) ?_
   exact st 1 f3 tx5 o o o o tr<|nL o<|za<|aa [0,7] o<|aN (by kernel_rfl)<|zt<|aa [0,7] o<|ah (List.take (Int.toNat (wrap .i64 ((List.length c.2.2.2.1:Int) - 1))) c.2.2.2.1) (fP (T.size Y195) G 0 (Int.toNat (wrap .i64 ((List.length c.2.2.2.1:Int) - 1)))) h o o
  exact zk<|zt<|aa [0,7] o<|ah c.2.2.2.1 G h o o
 refine jK h (γ:=Value) (λa4 g23=>[]) (λa4 g23=>[Res.disk PP dI M H.2,Res.var f 186 W25 (M,c.2.1,c.2.2.1,g23,(wrap .i64 (c.2.2.2.2.1+1)),c.2.2.2.2.2.1,c.2.2.2.2.2.2),Res.own g23 195 Y195 a4,Res.var V 195 Y195 (u.1.1,(wrap .i64 (u.1.2.1+(List.length W.1:Int))),(wrap .i64 (c.2.2.2.2.1+1)),u.1.2.2.2)]) (λc1 h=>?_) λa4 g23 h=>?_
 ·refine dF (by kernel_rfl)<|ae 0 (ptr f 0) o (by kernel_rfl) o<|ae 1 (ptr f 0) o (by kernel_rfl) o ?_
  refine br (i:=2) (j:=5) (by kernel_rfl) o o ?_ ?_
  ·refine q 1 [(7,ptr V 0),(123,ptr f 0),(125,ptr f 0)] [] o<|za<|aa [7,123,125] o<|ae 3 (ptr f 3) o (by kernel_rfl) o ?_
   refine br (i:=4) (j:=5) (by kernel_rfl) o o ?_ ?_
   ·refine yl 1 f3 tx5 o o o tr o<|za<|aa [7,123,127] o<|af 5 (by kernel_rfl) o<|yl 3 .here de o o o tr o<|za<|aa [123,127,128] o<|af 6 (by kernel_rfl) o<|bE (B:=24) ai o gb o o o (.cons o .nil) o λZ=>?_
    refine za<|aa [123,127,129] o<|af 7 (by kernel_rfl) o<|iE h λhc h=>bq (B:=24) ai 3 o o (bZ 0 o o) o gb o o hc o λC=>?_
    refine pk [1,1,1,1] o<|za<|aa [123,130] o<|af 8 (by kernel_rfl) o<|q 1 [(130,.one W51 C),(131,ptr f 0)] [] o<|za<|aa [130,131] o<|ae 9 (ptr f 3) o (by kernel_rfl) o<|af 10 (by kernel_rfl) o<|st 1 f3 tx5 o o o o tr<|nL o<|za<|aa [] o<|aN (by kernel_rfl) ?_
    exact zt<|aa [] o<|ah (d++[(u.1.1,(wrap .i64 (u.1.2.1+(List.length W.1:Int))),(wrap .i64 (c.2.2.2.2.1+1)),u.1.2.2.2)]) C h o o
   refine yl 3 .here de o o o tr o<|za<|aa [123,126,128] o ?_
   refine br (i:=4) (j:=6) (by kernel_rfl) o o ?_ ?_
   ·refine yl 1 f3 tx5 o o o tr o<|za<|aa [123,127,128] o<|af 6 (by kernel_rfl) o<|bE (B:=24) ai o gb o o o (.cons o .nil) o λZ=>?_
    refine za<|aa [123,127,129] o<|af 7 (by kernel_rfl) o<|iE h λhc h=>bq (B:=24) ai 3 o o (bZ 0 o o) o gb o o hc o λC=>?_
    refine pk [1,1,1,1] o<|za<|aa [123,130] o<|af 8 (by kernel_rfl) o<|q 1 [(130,.one W51 C),(131,ptr f 0)] [] o<|za<|aa [130,131] o<|ae 9 (ptr f 3) o (by kernel_rfl) o<|af 10 (by kernel_rfl) o<|st 1 f3 tx5 o o o o tr<|nL o<|za<|aa [] o<|aN (by kernel_rfl) ?_
    exact zt<|aa [] o<|ah (d++[(u.1.1,(wrap .i64 (u.1.2.1+(List.length W.1:Int))),(wrap .i64 (c.2.2.2.2.1+1)),u.1.2.2.2)]) C h o o
   refine bE (B:=24) ai o gb o o o (.cons o .nil) o λZ=>?_
   refine za<|aa [123,126,129] o<|af 4 (by kernel_rfl) o<|yl 2 f3 tx5 o o o tr o<|za<|aa [123,127,129] o<|af 7 (by kernel_rfl) o<|iE h λhc h=>bq (B:=24) ai 3 o o (bZ 0 o o) o gb o o hc o λC=>?_
   refine pk [1,1,1,1] o<|za<|aa [123,130] o<|af 8 (by kernel_rfl) o<|q 1 [(130,.one W51 C),(131,ptr f 0)] [] o<|za<|aa [130,131] o<|ae 9 (ptr f 3) o (by kernel_rfl) o<|af 10 (by kernel_rfl) o<|st 1 f3 tx5 o o o o tr<|nL o<|za<|aa [] o<|aN (by kernel_rfl) ?_
   exact zt<|aa [] o<|ah (d++[(u.1.1,(wrap .i64 (u.1.2.1+(List.length W.1:Int))),(wrap .i64 (c.2.2.2.2.1+1)),u.1.2.2.2)]) C h o o
  refine yl 3 .here de o o o tr o<|za<|aa [123,124,128] o ?_
  refine br (i:=2) (j:=6) (by kernel_rfl) o o ?_ ?_
  ·refine q 1 [(123,ptr f 0),(125,ptr f 0),(128,.one Y195 (u.1.1,(wrap .i64 (u.1.2.1+(List.length W.1:Int))),(wrap .i64 (c.2.2.2.2.1+1)),u.1.2.2.2))] [] o<|za<|aa [123,125,128] o<|ae 3 (ptr f 3) o (by kernel_rfl) o ?_
   refine br (i:=4) (j:=6) (by kernel_rfl) o o ?_ ?_
   ·refine yl 1 f3 tx5 o o o tr o<|za<|aa [123,127,128] o<|af 6 (by kernel_rfl) o<|bE (B:=24) ai o gb o o o (.cons o .nil) o λZ=>?_
    refine za<|aa [123,127,129] o<|af 7 (by kernel_rfl) o<|iE h λhc h=>bq (B:=24) ai 3 o o (bZ 0 o o) o gb o o hc o λC=>?_
    refine pk [1,1,1,1] o<|za<|aa [123,130] o<|af 8 (by kernel_rfl) o<|q 1 [(130,.one W51 C),(131,ptr f 0)] [] o<|za<|aa [130,131] o<|ae 9 (ptr f 3) o (by kernel_rfl) o<|af 10 (by kernel_rfl) o<|st 1 f3 tx5 o o o o tr<|nL o<|za<|aa [] o<|aN (by kernel_rfl) ?_
    exact zt<|aa [] o<|ah (d++[(u.1.1,(wrap .i64 (u.1.2.1+(List.length W.1:Int))),(wrap .i64 (c.2.2.2.2.1+1)),u.1.2.2.2)]) C h o o
   refine bE (B:=24) ai o gb o o o (.cons o .nil) o λZ=>?_
   refine za<|aa [123,126,129] o<|af 4 (by kernel_rfl) o<|yl 2 f3 tx5 o o o tr o<|za<|aa [123,127,129] o<|af 7 (by kernel_rfl) o<|iE h λhc h=>bq (B:=24) ai 3 o o (bZ 0 o o) o gb o o hc o λC=>?_
   refine pk [1,1,1,1] o<|za<|aa [123,130] o<|af 8 (by kernel_rfl) o<|q 1 [(130,.one W51 C),(131,ptr f 0)] [] o<|za<|aa [130,131] o<|ae 9 (ptr f 3) o (by kernel_rfl) o<|af 10 (by kernel_rfl) o<|st 1 f3 tx5 o o o o tr<|nL o<|za<|aa [] o<|aN (by kernel_rfl) ?_
   exact zt<|aa [] o<|ah (d++[(u.1.1,(wrap .i64 (u.1.2.1+(List.length W.1:Int))),(wrap .i64 (c.2.2.2.2.1+1)),u.1.2.2.2)]) C h o o
  refine bE (B:=24) ai o gb o o o (.cons o .nil) o λZ=>?_
  refine za<|aa [123,124,129] o<|af 2 (by kernel_rfl) o<|q 1 [(123,ptr f 0),(125,ptr f 0),(129,.one W51 Z)] [] o<|za<|aa [123,125,129] o<|ae 3 (ptr f 3) o (by kernel_rfl) o<|af 4 (by kernel_rfl) o<|yl 2 f3 tx5 o o o tr o<|za<|aa [123,127,129] o<|af 7 (by kernel_rfl) o<|iE h λhc h=>bq (B:=24) ai 3 o o (bZ 0 o o) o gb o o hc o λC=>?_
  refine pk [1,1,1,1] o<|za<|aa [123,130] o<|af 8 (by kernel_rfl) o<|q 1 [(130,.one W51 C),(131,ptr f 0)] [] o<|za<|aa [130,131] o<|ae 9 (ptr f 3) o (by kernel_rfl) o<|af 10 (by kernel_rfl) o<|st 1 f3 tx5 o o o o tr<|nL o<|za<|aa [] o<|aN (by kernel_rfl) ?_
  exact zt<|aa [] o<|ah (d++[(u.1.1,(wrap .i64 (u.1.2.1+(List.length W.1:Int))),(wrap .i64 (c.2.2.2.2.1+1)),u.1.2.2.2)]) C h o o
 refine zu<|q 1 [(4,ti 0)] [] o<|zf<|pk [1,1,0,0] o<|bS (x:=((),c.2.1,c.2.2.1,a4,(wrap .i64 (c.2.2.2.2.1+1)),c.2.2.2.2.2.1,c.2.2.2.2.2.2)) (q:=M) ?_
 cases h
 exact bd o (.tmp o) (.cons_cons _ (.cons_cons _ (.cons _ .slnil)))
theorem jv(p0:Value)(f:Value)(c H m r)(h:iI c H m=some r):FnT PP bF 17 [tp p0,.one (.sl 54 Y54) H] [Res.cls (bP f) p0 c,Res.disk PP dI f m] (λ_=>ti r.1) (λ_=>[Res.cls (bP f) p0 r.2.1,Res.disk PP dI f r.2.2]):=by
 unfold iI at h
 refine gP Tryz.func17 o 58 o o λF hT=>?_
 refine oJ λM b1 b2 hp=>?_
 subst hp
 refine fS (x:=c) (q:=f) ?_
 refine zu<|q 1 [(0,ptr M 0),(1,.one (.sl 54 Y54) H)] [] o<|za<|zs<|zu<|q 3 [(14,tb ((List.length H:Int)==0))] [0,1] o<|za<|rI h o (λhc h=>zu<|q 1 [(4,ti 1)] [] o<|zf<|zT<|by cases h;exact aU o (.tmp o) (λ_ _ g=>g) (λ_ _ _=>(.cons_cons _ (.cons_cons _ .slnil)))) λhc h=>zy<|aD (t:=BT) o Eo o λG=>Bw (e:=5) ?_
 refine za<|zs<|pk [1,0,0] o<|nS λV d=>?_
 refine zr<|p 3 [0,1,5,17] o<|yl 0 f3 bW o o o tr o<|aD (t:=Y30) o gk o λN=>st 0 .here bW o o o o tr<|za<|bv h (λR=>[(0,ptr M 0),(5,tp (.pointer (some ⟨G,0,none⟩))),(6,ptr N 0)]) (λR=>[Res.var N 30 Y30 R.1,Res.var M 136 W26 (f,V,d,c.2.2.2.1,c.2.2.2.2),Res.clsif (cg f) V c.2.1.2 c.2.1.1,Res.clsif (eD f) d c.2.2.1.2 c.2.2.1.1,Res.cls (kN 139 5) (.pointer (some ⟨G,0,none⟩)) R.2,Res.disk PP dI f m]) (λa3 h=>?_) λR h=>?_
 ·refine zu<|q 3 [(6,ptr N 0),(19,.one (.sl 54 Y54) H),(20,ti (List.length H:Int)),(21,ti 0)] [0,5] o<|za<|zb<|aa [0,5,6,19,20,21] o<|aY (γ:=Unit) (λ(W:Int×List Int×Z29) _=>[(0,ptr M 0),(5,tp (.pointer (some ⟨G,0,none⟩))),(6,ptr N 0),(19,.one (.sl 54 Y54) H),(20,ti (List.length H:Int)),(21,ti W.1)]) (λ(W:Int×List Int×Z29) _=>[Res.var N 30 Y30 W.2.2,Res.var M 136 W26 (f,V,d,c.2.2.2.1,c.2.2.2.2),Res.clsif (cg f) V c.2.1.2 c.2.1.1,Res.clsif (eD f) d c.2.2.1.2 c.2.2.1.1,Res.cls (kN 139 5) (.pointer (some ⟨G,0,none⟩)) W.2.1,Res.disk PP dI f m]) (jq c H m a3) (0,[],c.2.2.2.1) () h o o ?_
  clear h
  intro a2 W gg h
  cases a2 with
  |zero=>cases h
  |succ a2=>
  simp only[jq]at h
  refine zu<|q 1 [(21,ti W.1),(22,tb (decide (W.1<(List.length H:Int))))] [0,5,6,19,20] o<|za<|zs<|rI h o (λhc h=>?_) λhc h=>?_
  ·refine zk<|zt<|zs<|zb<|zu<|iE h λhc h=>y (ff ai o o hc.1 hc.2 o fm) o ?_
   refine y (ga o fm) o ?_
   refine aD (t:=Y54) o jL o λa4=>st 0 .here fm o o o o tr<|zz<|yl 0 .here fm o o o tr o<|cB h λZ a5 h=>av (u0 _ _ a5) (ca o) o o<|q 5 [(8,ptr a4 0),(9,ts Z.1),(10,ti Z.2)] [0,5,6,19,20,21] o<|za<|zs<|zu<|q 2 [(31,tb (Z.2 !=0))] [0,5,6,8,9,19,20,21] o<|za<|rI h o (λhc h=>?_) λhc h=>?_
   ·refine zu<|q 1 [(4,ti 170)] [] o<|zf<|zT<|zB<|zT<|zT<|zB<|zT<|pk [2,2,2,0,0,0,0] o<|fS (x:=c) (q:=f) ?_
    cases h
    exact bd o (.tmp o) (.cons_cons _ (.cons _ (.cons _ (.cons _ (.cons_cons _ .slnil)))))
   refine zy<|q 1 [(32,ts Z.1)] [0,5,6,8,19,20,21] o<|cB h λa6 a7 h=>rc [5] (mX _ _ _ _ a7) (ca o) o o o λ_=>zz<|yl 2 .here bW o o o tr o<|yl 1 .here fm o o o tr o<|cB h λO a8 h=>rcT hT [] (pF _ _ _ a8) (ca o) o o o λ_=>q 3 [(38,.one Y30 O.1),(39,ti O.2)] [0,5,6,19,20,21] o<|st 2 .here bW o o o o tr<|q 1 [(10,ti O.2)] [0,5,6,19,20,21] o<|zz<|q 2 [(41,tb (O.2 !=0))] [0,5,6,19,20,21] o ?_
   refine za<|rI h o (λhc h=>?_) λhc h=>?_
   ·refine zu<|q 1 [(4,ti 170)] [] o<|zf<|zB<|zT<|zT<|zB<|zT<|pk [3,3,3,0,0,0,0] o<|fS (x:=c) (q:=f) ?_
    cases h
    exact bd o (.tmp o) (.cons_cons _ (.cons _ (.cons _ (.cons _ (.cons_cons _ .slnil)))))
   exact zk<|zi<|zt<|zr<|q 2 [(21,ti (wrap .i64 (W.1+1)))] [0,5,6,19,20] o<|za<|pk [0,1,1,1,1,1] o<|aa [0,5,6,19,20,21] o<|pk [1,1,1,1,0,0] o<|aR ((wrap .i64 (W.1+1)),a6.2.2,O.1) () (Nat.lt_succ_self _) h o o
  exact zx<|ze<|ze<|zq<|zt<|aa [0,5,6] o<|ah (W.2.2,W.2.1) () h o o
 refine zs<|zu<|cB h λa9 b0 h=>rc [4] (qg _ _ _ b0) (ca o) o o o λ_=>q 1 [(0,ptr M 0),(5,tp (.pointer (some ⟨G,0,none⟩))),(6,ptr N 0),(44,tb (decide (a9>65536)))] [] o<|za<|rI h o (λhc h=>?_) λhc h=>?_
 ·refine zu<|q 1 [(4,ti 3)] [] o<|zf<|zT<|pk [2,2,2,0,0,0] o<|fS (x:=c) (q:=f) ?_
  cases h
  exact bd o (.tmp o) (.cons_cons _ (.cons _ (.cons _ (.cons_cons _ .slnil))))
 refine zk<|zt<|zs<|bv h (λC=>[(0,ptr M 0),(6,ptr N 0),(11,ti C.1)]) (λC=>[Res.clsif (cg f) V C.2.1.2 C.2.1.1,Res.disk PP dI f C.2.2,Res.cls (nF 139 5) (.pointer (some ⟨G,0,none⟩)) R.2,Res.var N 30 Y30 R.1,Res.var M 136 W26 (f,V,d,c.2.2.2.1,c.2.2.2.2),Res.clsif (eD f) d c.2.2.1.2 c.2.2.1.1]) (λb3 h=>?_) λC h=>?_
 ·refine dF (by kernel_rfl)<|ae 0 (ptr M 0) o (by kernel_rfl) o ?_
  refine br (i:=1) (j:=4) (by kernel_rfl) o o ?_ ?_
  ·refine p 1 [0,5,6,46] o<|za<|aa [0,5,6,46] o<|ae 2 (ptr M 1) o (by kernel_rfl) o ?_
   refine br (i:=3) (j:=4) (by kernel_rfl) o o ?_ ?_
   ·refine yl 2 f1 cT o o o tr o<|za<|aa [0,5,6,48] o<|af 4 (by kernel_rfl) o<|az (R':=Res.cls (nF 139 5) (.pointer (some ⟨G,0,none⟩)) R.2) 0 o t7<|rc [0] (iB _ _) (ca o) o o o λ_=>za<|aa [0,6,48,49] o<|af 5 (by kernel_rfl) o ?_
    obtain⟨J,h⟩:=cr h
    exact az (R':=Res.cls (cg f) V c.2.1.2) 3 o (dW J)<|nL o<|cB h λu w h=>rcT hT [3,4] (lI _ _ _ _ _ _ w) (ca o) o o o λ_=>za<|aa [0,6,50] o<|ae 6 (ti u.1) o (by kernel_rfl) o<|aN (by kernel_rfl)<|zt<|az (R':=Res.clsif (cg f) V u.2.1 c.2.1.1) 0 o (cY J)<|aa [0,6,11] o<|ah (u.1,(c.2.1.1,u.2.1),u.2.2) () h o o
   refine az (R':=Res.cls (nF 139 5) (.pointer (some ⟨G,0,none⟩)) R.2) 0 o t7<|rc [0] (iB _ _) (ca o) o o o λ_=>za<|aa [0,6,47,49] o<|af 3 (by kernel_rfl) o<|yl 2 f1 cT o o o tr o<|za<|aa [0,6,48,49] o<|af 5 (by kernel_rfl) o ?_
   obtain⟨J,h⟩:=cr h
   exact az (R':=Res.cls (cg f) V c.2.1.2) 3 o (dW J)<|nL o<|cB h λu w h=>rcT hT [3,4] (lI _ _ _ _ _ _ w) (ca o) o o o λ_=>za<|aa [0,6,50] o<|ae 6 (ti u.1) o (by kernel_rfl) o<|aN (by kernel_rfl)<|zt<|az (R':=Res.clsif (cg f) V u.2.1 c.2.1.1) 0 o (cY J)<|aa [0,6,11] o<|ah (u.1,(c.2.1.1,u.2.1),u.2.2) () h o o
  refine az (R':=Res.cls (nF 139 5) (.pointer (some ⟨G,0,none⟩)) R.2) 0 o t7<|rc [0] (iB _ _) (ca o) o o o λ_=>za<|aa [0,6,45,49] o<|af 1 (by kernel_rfl) o<|q 1 [(46,ptr M 0),(49,ts R.2)] [0,6] o<|za<|aa [0,6,46,49] o<|ae 2 (ptr M 1) o (by kernel_rfl) o<|af 3 (by kernel_rfl) o<|yl 2 f1 cT o o o tr o<|za<|aa [0,6,48,49] o<|af 5 (by kernel_rfl) o ?_
  obtain⟨J,h⟩:=cr h
  exact az (R':=Res.cls (cg f) V c.2.1.2) 3 o (dW J)<|nL o<|cB h λu w h=>rcT hT [3,4] (lI _ _ _ _ _ _ w) (ca o) o o o λ_=>za<|aa [0,6,50] o<|ae 6 (ti u.1) o (by kernel_rfl) o<|aN (by kernel_rfl)<|zt<|az (R':=Res.clsif (cg f) V u.2.1 c.2.1.1) 0 o (cY J)<|aa [0,6,11] o<|ah (u.1,(c.2.1.1,u.2.1),u.2.2) () h o o
 refine zu<|q 2 [(0,ptr M 0),(6,ptr N 0),(11,ti C.1),(52,tb (C.1 !=0))] [] o<|za<|rI h o (λhc h=>?_) λhc h=>?_
 ·refine zu<|q 2 [(4,ti C.1)] [] o<|zf<|zT<|pk [4,0,3,0,0,0] o<|fS (x:=((),C.2.1,c.2.2.1,c.2.2.2.1,c.2.2.2.2)) (q:=f) ?_
  cases h
  exact bd o (.tmp o) (.cons_cons _ (.cons_cons _ (.cons _ (.cons _ .slnil))))
 refine zy<|p 1 [6,54] o<|yl 3 .here bW o o o tr o<|q 2 [(55,.one Y30 R.1),(57,ptr M 3)] [] o<|st 4 f3 bW o o o o tr<|zz<|q 1 [(4,ti 0)] [] o<|zf<|pk [4,0,3,0,0,0] o<|fS (x:=((),C.2.1,c.2.2.1,R.1,c.2.2.2.2)) (q:=f) ?_
 cases h
 exact bd o (.tmp o) (.cons_cons _ (.cons_cons _ (.cons _ (.cons _ .slnil))))
theorem u2(u:Value)(c:Value)(f M r)(h:o6 f M=some r):Fn PP 78 [tp u] [Res.cls (cg c) u f,Res.disk PP dI c M] (λ_=>ti r) (λ_=>[Res.cls (cg c) u f,Res.disk PP dI c M]):=by
 unfold o6 at h
 refine enter Tryz.func78 o 7 o o λF=>?_
 refine mc λV R hp=>?_
 subst hp
 refine bS (x:=f) (q:=c) ?_
 refine zu<|q 1 [(0,ptr V 0)] [] o<|za<|zs<|fo λW=>?_
 refine zr<|q 3 [(5,ptr V 4)] [] o<|yl 0 f4 ty2 o o o tr o<|q 1 [(2,ti f.2.2.2.2.1)] [] o<|zf<|bS (x:=f) (q:=c) ?_
 cases h
 exact bd o (.tmp o) (.cons_cons _ (.cons_cons _ .slnil))
theorem wn(c:Value)(C f M r)(h:rt C f M=some r):Fn PP 79 [tp c,ts f,ts M] [Res.disk PP dI c C] (λ_=>ti r.1) (λ_=>[Res.disk PP dI c r.2]):=by
 unfold rt at h
 refine enter Tryz.func79 o 50 o o λF=>?_
 refine zu<|q 1 [(0,tp c),(1,ts f),(2,ts M)] [] o<|za<|zs<|zu<|p 1 [0,1,2,11] o<|cB h λr1 G h=>av (pD _ _ G) (ca o) o o<|p 1 [0,1,2,13] o<|za<|rI h o (λhc h=>zu<|q 1 [(6,ti 1)] [] o<|zf<|zT<|by cases h;exact aU o (.tmp o) (λ_ _ g=>g) (λ_ _ _=>(.cons_cons _ .slnil))) λhc h=>?_
 refine zk<|zt<|zs<|zu<|q 3 [(16,tb (decide ((List.length M:Int)>1048448)))] [0,1,2] o<|za<|rI h o (λhc h=>zu<|q 1 [(6,ti 3)] [] o<|zf<|zT<|by cases h;exact aU o (.tmp o) (λ_ _ g=>g) (λ_ _ _=>(.cons_cons _ .slnil))) λhc h=>zy<|p 1 [0,1,2,17] o<|iE h λhc h=>y (iX o o hc) o ?_
 refine q 1 [(7,ts (f++[46,116,109,112]))] [0,1,2] o ?_
 obtain⟨V,e,h⟩:=ak h;rw[e]
 refine za<|zs<|zu<|p 2 [0,1,2,7,19,20] o<|cB h λu N h=>rc [0] (aL _ _ _ _ N) (ca o) o o o λ_=>q 1 [(8,ti u.1)] [0,1,2,7] o<|zz<|q 3 [(24,tb (u.1 !=0))] [0,1,2,7,8] o ?_
 obtain⟨H,e,h⟩:=ak h;rw[e]
 refine aJ 3 [(0,tp c),(1,ts f),(2,ts M),(7,ts V),(8,ti u.1),(27,tb (H&&(u.1 !=5)))] [Res.disk PP dI c u.2] (?_) ?_
 ·clear h
  cases H
  ·exact p 3 [0,1,2,7,8,27] o<|za<|ao () o o
  exact q 3 [(27,tb (u.1 !=5))] [0,1,2,7,8] o<|aa [0,1,2,7,8,27] o<|za<|ao () o o
 refine za<|rI h o (λhc h=>zu<|q 2 [(6,ti u.1)] [] o<|zf<|zT<|by cases h;exact aU o (.tmp o) (λ_ _ g=>g) (λ_ _ _=>(.cons_cons _ .slnil))) λhc h=>zk<|zt<|zs<|zu<|q 3 [(0,tp c),(1,ts f),(7,ts V),(29,tp c),(30,ts V),(31,ts M)] [] o<|cB h λr5 J h=>av (qx _ _ J) (ca o) o o<|cB h λR d h=>rc [0] (kQ _ _ _ _ _ _ d) (ca o) o o o λ_=>q 1 [(9,ti R.1)] [0,1,7] o<|zz<|q 2 [(35,tb (R.1 !=0))] [0,1,7,9] o ?_
 refine za<|rI h o (λhc h=>zu<|q 2 [(6,ti R.1)] [] o<|zf<|zT<|by cases h;exact aU o (.tmp o) (λ_ _ g=>g) (λ_ _ _=>(.cons_cons _ .slnil))) λhc h=>zk<|zt<|zs<|zu<|p 2 [0,1,7,37,38] o<|cB h λW m h=>rc [0] (dt _ _ _ _ m) (ca o) o o o λ_=>q 1 [(10,ti W.1)] [0,1,7] o<|zz<|q 2 [(41,tb (W.1 !=0))] [0,1,7,10] o<|za<|rI h o (λhc h=>zu<|p 2 [10,42,43] o<|cB h λr8 O h=>rc [0] (aL _ _ _ _ O) (ca o) o o o λ_=>zz<|q 2 [(6,ti W.1)] [] o<|zf<|zT<|by cases h;exact aU o (.tmp o) (λ_ _ g=>g) (λ_ _ _=>(.cons_cons _ .slnil))) λhc h=>?_
 refine zy<|q 3 [(46,tp c),(47,ts V),(48,ts f)] [] o<|cB h λw Z h=>rc [0] (m5 _ _ _ _ _ Z) (ca o) o o o λ_=>q 1 [(6,ti w.1)] [] o<|zf ?_
 cases h
 exact bd o (.tmp o) (.cons_cons _ .slnil)
theorem um(Z:Value)(N:Value)(f J w r)(h:oh f J w=some r):FnT PP bF 80 [tp Z,ti J] [Res.cls (cg N) Z f,Res.disk PP dI N w] (λ_=>ti r.1) (λ_=>[Res.cls (cg N) Z r.2.1,Res.disk PP dI N r.2.2]):=by
 unfold oh at h
 refine gP Tryz.func80 o 65 o o λF hT=>?_
 refine mc λC a6 hp=>?_
 subst hp
 refine bS (x:=f) (q:=N) ?_
 refine zu<|q 1 [(0,ptr C 0),(1,ti J)] [] o<|za<|zs<|zs<|fo λa2=>?_
 refine zr<|p 3 [0,1,8] o<|yl 0 f5 ty4 o o o tr o<|za<|rI h o (λhc h=>?_) λhc h=>?_
 ·refine zu<|q 1 [(4,ti 60)] [] o<|zf<|zT<|bS (x:=f) (q:=N) ?_
  cases h
  exact bd o (.tmp o) (.cons_cons _ (.cons_cons _ .slnil))
 refine zk<|zt<|zs<|zu<|p 3 [0,1,12] o ?_
 obtain⟨b4,e,h⟩:=ak h;rw[e]
 refine aJ 7 [(0,ptr C 0),(1,ti J),(19,tb (b4||(decide (J>f.2.2.2.2.1))))] [Res.var C 186 W25 (N,f.2.1,f.2.2.1,a2,f.2.2.2.2.1,f.2.2.2.2.2.1,f.2.2.2.2.2.2),Res.own a2 195 Y195 f.2.2.2.1,Res.disk PP dI N w] (?_) ?_
 ·clear h
  cases b4
  ·refine p 4 [0,1,12,13,16] o<|ap (by rfl) o ?_
   exact yl 0 f4 ty2 o o o tr o<|q 2 [(19,tb (decide (J>f.2.2.2.2.1)))] [0,1] o<|aa [0,1,19] o<|za<|ao () o o
  exact p 7 [0,1,19] o<|za<|ao () o o
 refine za<|rI h o (λhc h=>?_) λhc h=>?_
 ·refine zu<|q 1 [(4,ti 1)] [] o<|zf<|zT<|bS (x:=f) (q:=N) ?_
  cases h
  exact bd o (.tmp o) (.cons_cons _ (.cons_cons _ .slnil))
 refine zk<|zt<|jK h (γ:=Value) (λm g7=>[]) (λm g7=>[Res.var C 186 W25 (N,f.2.1,f.2.2.1,g7,f.2.2.2.2.1,f.2.2.2.2.2.1,f.2.2.2.2.2.2),Res.own g7 195 Y195 m.1,Res.disk PP dI N m.2]) (λk5 h=>?_) λm g7 h=>?_
 ·refine zb<|aa [0,1] o<|aY (γ:=Value) (λ(u:aO×(List ck)) g12=>[(0,ptr C 0),(1,ti J)]) (λ(u:aO×(List ck)) g12=>[Res.var C 186 W25 (N,f.2.1,f.2.2.1,g12,f.2.2.2.2.1,f.2.2.2.2.2.1,f.2.2.2.2.2.2),Res.own g12 195 Y195 u.2,Res.disk PP dI N u.1]) (j9 f J k5) (w,f.2.2.2.1) a2 h o o ?_
  clear h
  intro a3 u g12 h
  cases a3 with
  |zero=>cases h
  |succ a3=>
  simp only[j9]at h
  refine zs<|zu<|q 3 [(0,ptr C 0),(1,ti J),(22,ptr C 3)] [] o<|yl 0 f3 tx5 o o o tr o<|y (cn ai 1 o o o) o ?_
  refine q 2 [(26,tb (decide ((List.length u.2:Int)>0)))] [0,1] o ?_
  obtain⟨a5,e,h⟩:=ak h;rw[e]
  refine bL h 10 (λa4=>[(0,ptr C 0),(1,ti J),(36,tb a4)]) (λ_=>[Res.var C 186 W25 (N,f.2.1,f.2.2.1,g12,f.2.2.2.2.1,f.2.2.2.2.2.1,f.2.2.2.2.2.2),Res.own g12 195 Y195 u.2,Res.disk PP dI N u.1]) (λa7 h=>?_) λa4 h=>?_
  ·cases a5
   ·replace h:=ifF h
    exact p 10 [0,1,36] o<|zn<|aa [0,1,36] o<|zt<|ah false () h o o
   replace h:=ifT h
   refine p 3 [0,1,26,29] o<|ap (by rfl) o ?_
   refine yl 0 f3 tx5 o o o tr o<|ap (by rfl) o ?_
   refine iE h λhc h=>cJ 1 o (by omega) λa8 a9 b0 hv=>?_
   rw[hv]
   try clear hv
   refine y (cU ai o o hc.1 (by first|exact hc.2|simpa using hc.2) o de) o ?_
   refine p 1 [0,1,26,32] o<|ap (by rfl) o ?_
   refine y (dN 1 0 f2 o o (by omega) o (ag (ag (ay ab))) ty2) o ?_
   exact q 3 [(36,tb (decide (((List.getD u.2 0 (0,0,0,())).2.2.1)≤J)))] [0,1] o<|zn<|aa [0,1,36] o<|zt<|ah (decide (((List.getD u.2 0 (0,0,0,())).2.2.1)≤J)) () h o o
  refine za<|rI h o (λhc h=>?_) λhc h=>?_
  ·refine zk<|zt<|zb<|zs<|jK h (γ:=Value) (λd g22=>[(0,ptr C 0),(1,ti J),(5,ti d.1)]) (λd g22=>[Res.disk PP dI N d.2,Res.var C 186 W25 (N,f.2.1,f.2.2.1,g22,f.2.2.2.2.1,f.2.2.2.2.2.1,f.2.2.2.2.2.2),Res.own g22 195 Y195 u.2]) (λb1 h=>?_) λd g22 h=>?_
   ·refine dF (by kernel_rfl)<|ae 0 (ptr C 0) o (by kernel_rfl) o<|ae 4 (ptr C 0) o (by kernel_rfl) o<|ae 5 (ptr C 0) o (by kernel_rfl) o ?_
    refine br (i:=1) (j:=6) (by kernel_rfl) o o ?_ ?_
    ·refine q 1 [(0,ptr C 0),(1,ti J),(38,ptr C 0),(41,ptr C 0),(42,ptr C 0)] [] o<|za<|aa [0,1,38,41,42] o<|ae 2 (ptr C 0) o (by kernel_rfl) o ?_
     refine br (i:=3) (j:=6) (by kernel_rfl) o o ?_ ?_
     ·refine yl 0 f0 dE o o o tr o<|za<|aa [0,1,40,41,42] o<|af 6 (by kernel_rfl) o<|p 1 [0,1,40,41,43] o<|za<|aa [0,1,40,41,43] o<|ae 7 (ptr C 3) o (by kernel_rfl) o<|af 8 (by kernel_rfl) o<|yl 0 f3 tx5 o o o tr o<|za<|aa [0,1,40,41,45] o<|af 9 (by kernel_rfl) o<|iE h λhc h=>?_
      refine cJ 1 o (by omega) λR W H hv=>?_
      rw[hv]
      try clear hv
      refine y (cU ai o o hc.1 (by first|exact hc.2|simpa using hc.2) o de) o ?_
      refine za<|aa [0,1,40,41,46] o<|ae 10 (ptr R ((W+0*3)+0)) o (by kernel_rfl) o<|af 11 (by kernel_rfl) o<|y (dN 1 0 f0 o o (by omega) o (ay ab) ty3) o ?_
      refine za<|aa [0,1,40,41,48] o<|af 12 (by kernel_rfl) o<|cB h λG M h=>rcT hT [0] (aE _ _ _ _ _ _ M) (ca o) o o o λ_=>za<|aa [0,1,40,49] o<|af 13 (by kernel_rfl) o<|cB h λc V h=>rc [2] (aL _ _ _ _ V) (ca o) o o o λ_=>za<|aa [0,1,50] o<|ae 14 (ti c.1) o (by kernel_rfl) o<|aN (by kernel_rfl) ?_
      exact zt<|aa [0,1,5] o<|ah (c.1,c.2) (.slice (some ⟨R,W,none⟩) (List.length u.2) H) h o o
     refine p 1 [0,1,39,41,43] o<|za<|aa [0,1,39,41,43] o<|ae 7 (ptr C 3) o (by kernel_rfl) o ?_
     refine br (i:=3) (j:=8) (by kernel_rfl) o o ?_ ?_
     ·refine yl 0 f0 dE o o o tr o<|za<|aa [0,1,40,41,44] o<|af 8 (by kernel_rfl) o<|yl 0 f3 tx5 o o o tr o<|za<|aa [0,1,40,41,45] o<|af 9 (by kernel_rfl) o<|iE h λhc h=>cJ 1 o (by omega) λR W H hv=>?_
      rw[hv]
      try clear hv
      refine y (cU ai o o hc.1 (by first|exact hc.2|simpa using hc.2) o de) o ?_
      refine za<|aa [0,1,40,41,46] o<|ae 10 (ptr R ((W+0*3)+0)) o (by kernel_rfl) o<|af 11 (by kernel_rfl) o<|y (dN 1 0 f0 o o (by omega) o (ay ab) ty3) o ?_
      refine za<|aa [0,1,40,41,48] o<|af 12 (by kernel_rfl) o<|cB h λG M h=>rcT hT [0] (aE _ _ _ _ _ _ M) (ca o) o o o λ_=>za<|aa [0,1,40,49] o<|af 13 (by kernel_rfl) o<|cB h λc V h=>rc [2] (aL _ _ _ _ V) (ca o) o o o λ_=>za<|aa [0,1,50] o<|ae 14 (ti c.1) o (by kernel_rfl) o<|aN (by kernel_rfl) ?_
      exact zt<|aa [0,1,5] o<|ah (c.1,c.2) (.slice (some ⟨R,W,none⟩) (List.length u.2) H) h o o
     refine yl 0 f3 tx5 o o o tr o<|za<|aa [0,1,39,41,45] o ?_
     refine br (i:=3) (j:=9) (by kernel_rfl) o o ?_ ?_
     ·refine yl 0 f0 dE o o o tr o<|za<|aa [0,1,40,41,45] o<|af 9 (by kernel_rfl) o<|iE h λhc h=>cJ 1 o (by omega) λR W H hv=>?_
      rw[hv]
      try clear hv
      refine y (cU ai o o hc.1 (by first|exact hc.2|simpa using hc.2) o de) o ?_
      refine za<|aa [0,1,40,41,46] o<|ae 10 (ptr R ((W+0*3)+0)) o (by kernel_rfl) o<|af 11 (by kernel_rfl) o<|y (dN 1 0 f0 o o (by omega) o (ay ab) ty3) o ?_
      refine za<|aa [0,1,40,41,48] o<|af 12 (by kernel_rfl) o<|cB h λG M h=>rcT hT [0] (aE _ _ _ _ _ _ M) (ca o) o o o λ_=>za<|aa [0,1,40,49] o<|af 13 (by kernel_rfl) o<|cB h λc V h=>rc [2] (aL _ _ _ _ V) (ca o) o o o λ_=>za<|aa [0,1,50] o<|ae 14 (ti c.1) o (by kernel_rfl) o<|aN (by kernel_rfl) ?_
      exact zt<|aa [0,1,5] o<|ah (c.1,c.2) (.slice (some ⟨R,W,none⟩) (List.length u.2) H) h o o
     refine iE h λhc h=>cJ 1 o (by omega) λR W H hv=>?_
     rw[hv]
     try clear hv
     refine y (cU ai o o hc.1 (by first|exact hc.2|simpa using hc.2) o de) o ?_
     refine za<|aa [0,1,39,41,46] o<|ae 10 (ptr R ((W+0*3)+0)) o (by kernel_rfl) o ?_
     refine br (i:=3) (j:=11) (by kernel_rfl) o o ?_ ?_
     ·refine yl 0 f0 dE o o o tr o<|za<|aa [0,1,40,41,47] o<|af 11 (by kernel_rfl) o<|y (dN 1 0 f0 o o (by omega) o (ay ab) ty3) o ?_
      refine za<|aa [0,1,40,41,48] o<|af 12 (by kernel_rfl) o<|cB h λG M h=>rcT hT [0] (aE _ _ _ _ _ _ M) (ca o) o o o λ_=>za<|aa [0,1,40,49] o<|af 13 (by kernel_rfl) o<|cB h λc V h=>rc [2] (aL _ _ _ _ V) (ca o) o o o λ_=>za<|aa [0,1,50] o<|ae 14 (ti c.1) o (by kernel_rfl) o<|aN (by kernel_rfl) ?_
      exact zt<|aa [0,1,5] o<|ah (c.1,c.2) (.slice (some ⟨R,W,none⟩) (List.length u.2) H) h o o
     refine y (dN 1 0 f0 o o (by omega) o (ay ab) ty3) o ?_
     refine za<|aa [0,1,39,41,48] o ?_
     refine br (i:=3) (j:=12) (by kernel_rfl) o o ?_ ?_
     ·refine yl 0 f0 dE o o o tr o<|za<|aa [0,1,40,41,48] o<|af 12 (by kernel_rfl) o<|cB h λG M h=>rcT hT [0] (aE _ _ _ _ _ _ M) (ca o) o o o λ_=>za<|aa [0,1,40,49] o<|af 13 (by kernel_rfl) o<|cB h λc V h=>rc [2] (aL _ _ _ _ V) (ca o) o o o λ_=>za<|aa [0,1,50] o<|ae 14 (ti c.1) o (by kernel_rfl) o ?_
      exact aN (by kernel_rfl)<|zt<|aa [0,1,5] o<|ah (c.1,c.2) (.slice (some ⟨R,W,none⟩) (List.length u.2) H) h o o
     refine cB h λG M h=>rcT hT [0] (aE _ _ _ _ _ _ M) (ca o) o o o λ_=>za<|aa [0,1,39,49] o<|af 3 (by kernel_rfl) o<|yl 0 f0 dE o o o tr o<|za<|aa [0,1,40,49] o<|af 13 (by kernel_rfl) o<|cB h λc V h=>rc [2] (aL _ _ _ _ V) (ca o) o o o λ_=>za<|aa [0,1,50] o<|ae 14 (ti c.1) o (by kernel_rfl) o ?_
     exact aN (by kernel_rfl)<|zt<|aa [0,1,5] o<|ah (c.1,c.2) (.slice (some ⟨R,W,none⟩) (List.length u.2) H) h o o
    refine q 1 [(0,ptr C 0),(1,ti J),(37,ptr C 0),(41,ptr C 0),(43,ptr C 0)] [] o<|za<|aa [0,1,37,41,43] o<|ae 7 (ptr C 3) o (by kernel_rfl) o ?_
    refine br (i:=1) (j:=8) (by kernel_rfl) o o ?_ ?_
    ·refine p 1 [0,1,38,41,44] o<|za<|aa [0,1,38,41,44] o<|ae 2 (ptr C 0) o (by kernel_rfl) o ?_
     refine br (i:=3) (j:=8) (by kernel_rfl) o o ?_ ?_
     ·refine yl 0 f0 dE o o o tr o<|za<|aa [0,1,40,41,44] o<|af 8 (by kernel_rfl) o<|yl 0 f3 tx5 o o o tr o<|za<|aa [0,1,40,41,45] o<|af 9 (by kernel_rfl) o<|iE h λhc h=>cJ 1 o (by omega) λR W H hv=>?_
      rw[hv]
      try clear hv
      refine y (cU ai o o hc.1 (by first|exact hc.2|simpa using hc.2) o de) o ?_
      refine za<|aa [0,1,40,41,46] o<|ae 10 (ptr R ((W+0*3)+0)) o (by kernel_rfl) o<|af 11 (by kernel_rfl) o<|y (dN 1 0 f0 o o (by omega) o (ay ab) ty3) o ?_
      refine za<|aa [0,1,40,41,48] o<|af 12 (by kernel_rfl) o<|cB h λG M h=>rcT hT [0] (aE _ _ _ _ _ _ M) (ca o) o o o λ_=>za<|aa [0,1,40,49] o<|af 13 (by kernel_rfl) o<|cB h λc V h=>rc [2] (aL _ _ _ _ V) (ca o) o o o λ_=>za<|aa [0,1,50] o<|ae 14 (ti c.1) o (by kernel_rfl) o<|aN (by kernel_rfl) ?_
      exact zt<|aa [0,1,5] o<|ah (c.1,c.2) (.slice (some ⟨R,W,none⟩) (List.length u.2) H) h o o
     refine yl 0 f3 tx5 o o o tr o<|za<|aa [0,1,39,41,45] o ?_
     refine br (i:=3) (j:=9) (by kernel_rfl) o o ?_ ?_
     ·refine yl 0 f0 dE o o o tr o<|za<|aa [0,1,40,41,45] o<|af 9 (by kernel_rfl) o<|iE h λhc h=>cJ 1 o (by omega) λR W H hv=>?_
      rw[hv]
      try clear hv
      refine y (cU ai o o hc.1 (by first|exact hc.2|simpa using hc.2) o de) o ?_
      refine za<|aa [0,1,40,41,46] o<|ae 10 (ptr R ((W+0*3)+0)) o (by kernel_rfl) o<|af 11 (by kernel_rfl) o<|y (dN 1 0 f0 o o (by omega) o (ay ab) ty3) o ?_
      refine za<|aa [0,1,40,41,48] o<|af 12 (by kernel_rfl) o<|cB h λG M h=>rcT hT [0] (aE _ _ _ _ _ _ M) (ca o) o o o λ_=>za<|aa [0,1,40,49] o<|af 13 (by kernel_rfl) o<|cB h λc V h=>rc [2] (aL _ _ _ _ V) (ca o) o o o λ_=>za<|aa [0,1,50] o<|ae 14 (ti c.1) o (by kernel_rfl) o<|aN (by kernel_rfl) ?_
      exact zt<|aa [0,1,5] o<|ah (c.1,c.2) (.slice (some ⟨R,W,none⟩) (List.length u.2) H) h o o
     refine iE h λhc h=>cJ 1 o (by omega) λR W H hv=>?_
     rw[hv]
     try clear hv
     refine y (cU ai o o hc.1 (by first|exact hc.2|simpa using hc.2) o de) o ?_
     refine za<|aa [0,1,39,41,46] o<|ae 10 (ptr R ((W+0*3)+0)) o (by kernel_rfl) o ?_
     refine br (i:=3) (j:=11) (by kernel_rfl) o o ?_ ?_
     ·refine yl 0 f0 dE o o o tr o<|za<|aa [0,1,40,41,47] o<|af 11 (by kernel_rfl) o<|y (dN 1 0 f0 o o (by omega) o (ay ab) ty3) o ?_
      refine za<|aa [0,1,40,41,48] o<|af 12 (by kernel_rfl) o<|cB h λG M h=>rcT hT [0] (aE _ _ _ _ _ _ M) (ca o) o o o λ_=>za<|aa [0,1,40,49] o<|af 13 (by kernel_rfl) o<|cB h λc V h=>rc [2] (aL _ _ _ _ V) (ca o) o o o λ_=>za<|aa [0,1,50] o<|ae 14 (ti c.1) o (by kernel_rfl) o<|aN (by kernel_rfl) ?_
      exact zt<|aa [0,1,5] o<|ah (c.1,c.2) (.slice (some ⟨R,W,none⟩) (List.length u.2) H) h o o
     refine y (dN 1 0 f0 o o (by omega) o (ay ab) ty3) o ?_
     refine za<|aa [0,1,39,41,48] o ?_
     refine br (i:=3) (j:=12) (by kernel_rfl) o o ?_ ?_
     ·refine yl 0 f0 dE o o o tr o<|za<|aa [0,1,40,41,48] o<|af 12 (by kernel_rfl) o<|cB h λG M h=>rcT hT [0] (aE _ _ _ _ _ _ M) (ca o) o o o λ_=>za<|aa [0,1,40,49] o<|af 13 (by kernel_rfl) o<|cB h λc V h=>rc [2] (aL _ _ _ _ V) (ca o) o o o λ_=>za<|aa [0,1,50] o<|ae 14 (ti c.1) o (by kernel_rfl) o ?_
      exact aN (by kernel_rfl)<|zt<|aa [0,1,5] o<|ah (c.1,c.2) (.slice (some ⟨R,W,none⟩) (List.length u.2) H) h o o
     refine cB h λG M h=>rcT hT [0] (aE _ _ _ _ _ _ M) (ca o) o o o λ_=>za<|aa [0,1,39,49] o<|af 3 (by kernel_rfl) o<|yl 0 f0 dE o o o tr o<|za<|aa [0,1,40,49] o<|af 13 (by kernel_rfl) o<|cB h λc V h=>rc [2] (aL _ _ _ _ V) (ca o) o o o λ_=>za<|aa [0,1,50] o<|ae 14 (ti c.1) o (by kernel_rfl) o ?_
     exact aN (by kernel_rfl)<|zt<|aa [0,1,5] o<|ah (c.1,c.2) (.slice (some ⟨R,W,none⟩) (List.length u.2) H) h o o
    refine yl 0 f3 tx5 o o o tr o<|za<|aa [0,1,37,41,45] o ?_
    refine br (i:=1) (j:=9) (by kernel_rfl) o o ?_ ?_
    ·refine p 1 [0,1,38,41,45] o<|za<|aa [0,1,38,41,45] o<|ae 2 (ptr C 0) o (by kernel_rfl) o ?_
     refine br (i:=3) (j:=9) (by kernel_rfl) o o ?_ ?_
     ·refine yl 0 f0 dE o o o tr o<|za<|aa [0,1,40,41,45] o<|af 9 (by kernel_rfl) o<|iE h λhc h=>cJ 1 o (by omega) λR W H hv=>?_
      rw[hv]
      try clear hv
      refine y (cU ai o o hc.1 (by first|exact hc.2|simpa using hc.2) o de) o ?_
      refine za<|aa [0,1,40,41,46] o<|ae 10 (ptr R ((W+0*3)+0)) o (by kernel_rfl) o<|af 11 (by kernel_rfl) o<|y (dN 1 0 f0 o o (by omega) o (ay ab) ty3) o ?_
      refine za<|aa [0,1,40,41,48] o<|af 12 (by kernel_rfl) o<|cB h λG M h=>rcT hT [0] (aE _ _ _ _ _ _ M) (ca o) o o o λ_=>za<|aa [0,1,40,49] o<|af 13 (by kernel_rfl) o<|cB h λc V h=>rc [2] (aL _ _ _ _ V) (ca o) o o o λ_=>za<|aa [0,1,50] o<|ae 14 (ti c.1) o (by kernel_rfl) o<|aN (by kernel_rfl) ?_
      exact zt<|aa [0,1,5] o<|ah (c.1,c.2) (.slice (some ⟨R,W,none⟩) (List.length u.2) H) h o o
     refine iE h λhc h=>cJ 1 o (by omega) λR W H hv=>?_
     rw[hv]
     try clear hv
     refine y (cU ai o o hc.1 (by first|exact hc.2|simpa using hc.2) o de) o ?_
     refine za<|aa [0,1,39,41,46] o<|ae 10 (ptr R ((W+0*3)+0)) o (by kernel_rfl) o ?_
     refine br (i:=3) (j:=11) (by kernel_rfl) o o ?_ ?_
     ·refine yl 0 f0 dE o o o tr o<|za<|aa [0,1,40,41,47] o<|af 11 (by kernel_rfl) o<|y (dN 1 0 f0 o o (by omega) o (ay ab) ty3) o ?_
      refine za<|aa [0,1,40,41,48] o<|af 12 (by kernel_rfl) o<|cB h λG M h=>rcT hT [0] (aE _ _ _ _ _ _ M) (ca o) o o o λ_=>za<|aa [0,1,40,49] o<|af 13 (by kernel_rfl) o<|cB h λc V h=>rc [2] (aL _ _ _ _ V) (ca o) o o o λ_=>za<|aa [0,1,50] o<|ae 14 (ti c.1) o (by kernel_rfl) o<|aN (by kernel_rfl) ?_
      exact zt<|aa [0,1,5] o<|ah (c.1,c.2) (.slice (some ⟨R,W,none⟩) (List.length u.2) H) h o o
     refine y (dN 1 0 f0 o o (by omega) o (ay ab) ty3) o ?_
     refine za<|aa [0,1,39,41,48] o ?_
     refine br (i:=3) (j:=12) (by kernel_rfl) o o ?_ ?_
     ·refine yl 0 f0 dE o o o tr o<|za<|aa [0,1,40,41,48] o<|af 12 (by kernel_rfl) o<|cB h λG M h=>rcT hT [0] (aE _ _ _ _ _ _ M) (ca o) o o o λ_=>za<|aa [0,1,40,49] o<|af 13 (by kernel_rfl) o<|cB h λc V h=>rc [2] (aL _ _ _ _ V) (ca o) o o o λ_=>za<|aa [0,1,50] o<|ae 14 (ti c.1) o (by kernel_rfl) o ?_
      exact aN (by kernel_rfl)<|zt<|aa [0,1,5] o<|ah (c.1,c.2) (.slice (some ⟨R,W,none⟩) (List.length u.2) H) h o o
     refine cB h λG M h=>rcT hT [0] (aE _ _ _ _ _ _ M) (ca o) o o o λ_=>za<|aa [0,1,39,49] o<|af 3 (by kernel_rfl) o<|yl 0 f0 dE o o o tr o<|za<|aa [0,1,40,49] o<|af 13 (by kernel_rfl) o<|cB h λc V h=>rc [2] (aL _ _ _ _ V) (ca o) o o o λ_=>za<|aa [0,1,50] o<|ae 14 (ti c.1) o (by kernel_rfl) o ?_
     exact aN (by kernel_rfl)<|zt<|aa [0,1,5] o<|ah (c.1,c.2) (.slice (some ⟨R,W,none⟩) (List.length u.2) H) h o o
    refine iE h λhc h=>cJ 1 o (by omega) λR W H hv=>?_
    rw[hv]
    try clear hv
    refine y (cU ai o o hc.1 (by first|exact hc.2|simpa using hc.2) o de) o ?_
    refine za<|aa [0,1,37,41,46] o<|ae 10 (ptr R ((W+0*3)+0)) o (by kernel_rfl) o ?_
    refine br (i:=1) (j:=11) (by kernel_rfl) o o ?_ ?_
    ·refine p 1 [0,1,38,41,47] o<|za<|aa [0,1,38,41,47] o<|ae 2 (ptr C 0) o (by kernel_rfl) o ?_
     refine br (i:=3) (j:=11) (by kernel_rfl) o o ?_ ?_
     ·refine yl 0 f0 dE o o o tr o<|za<|aa [0,1,40,41,47] o<|af 11 (by kernel_rfl) o<|y (dN 1 0 f0 o o (by omega) o (ay ab) ty3) o ?_
      refine za<|aa [0,1,40,41,48] o<|af 12 (by kernel_rfl) o<|cB h λG M h=>rcT hT [0] (aE _ _ _ _ _ _ M) (ca o) o o o λ_=>za<|aa [0,1,40,49] o<|af 13 (by kernel_rfl) o<|cB h λc V h=>rc [2] (aL _ _ _ _ V) (ca o) o o o λ_=>za<|aa [0,1,50] o<|ae 14 (ti c.1) o (by kernel_rfl) o<|aN (by kernel_rfl) ?_
      exact zt<|aa [0,1,5] o<|ah (c.1,c.2) (.slice (some ⟨R,W,none⟩) (List.length u.2) H) h o o
     refine y (dN 1 0 f0 o o (by omega) o (ay ab) ty3) o ?_
     refine za<|aa [0,1,39,41,48] o ?_
     refine br (i:=3) (j:=12) (by kernel_rfl) o o ?_ ?_
     ·refine yl 0 f0 dE o o o tr o<|za<|aa [0,1,40,41,48] o<|af 12 (by kernel_rfl) o<|cB h λG M h=>rcT hT [0] (aE _ _ _ _ _ _ M) (ca o) o o o λ_=>za<|aa [0,1,40,49] o<|af 13 (by kernel_rfl) o<|cB h λc V h=>rc [2] (aL _ _ _ _ V) (ca o) o o o λ_=>za<|aa [0,1,50] o<|ae 14 (ti c.1) o (by kernel_rfl) o ?_
      exact aN (by kernel_rfl)<|zt<|aa [0,1,5] o<|ah (c.1,c.2) (.slice (some ⟨R,W,none⟩) (List.length u.2) H) h o o
     refine cB h λG M h=>rcT hT [0] (aE _ _ _ _ _ _ M) (ca o) o o o λ_=>za<|aa [0,1,39,49] o<|af 3 (by kernel_rfl) o<|yl 0 f0 dE o o o tr o<|za<|aa [0,1,40,49] o<|af 13 (by kernel_rfl) o<|cB h λc V h=>rc [2] (aL _ _ _ _ V) (ca o) o o o λ_=>za<|aa [0,1,50] o<|ae 14 (ti c.1) o (by kernel_rfl) o ?_
     exact aN (by kernel_rfl)<|zt<|aa [0,1,5] o<|ah (c.1,c.2) (.slice (some ⟨R,W,none⟩) (List.length u.2) H) h o o
    refine y (dN 1 0 f0 o o (by omega) o (ay ab) ty3) o ?_
    refine za<|aa [0,1,37,41,48] o ?_
    refine br (i:=1) (j:=12) (by kernel_rfl) o o ?_ ?_
    ·refine q 1 [(38,ptr C 0),(48,ti ((List.getD u.2 0 (0,0,0,())).1))] [0,1,41] o<|za<|aa [0,1,38,41,48] o<|ae 2 (ptr C 0) o (by kernel_rfl) o ?_
     refine br (i:=3) (j:=12) (by kernel_rfl) o o ?_ ?_
     ·refine yl 0 f0 dE o o o tr o<|za<|aa [0,1,40,41,48] o<|af 12 (by kernel_rfl) o<|cB h λG M h=>rcT hT [0] (aE _ _ _ _ _ _ M) (ca o) o o o λ_=>za<|aa [0,1,40,49] o<|af 13 (by kernel_rfl) o<|cB h λc V h=>rc [2] (aL _ _ _ _ V) (ca o) o o o λ_=>za<|aa [0,1,50] o<|ae 14 (ti c.1) o (by kernel_rfl) o ?_
      exact aN (by kernel_rfl)<|zt<|aa [0,1,5] o<|ah (c.1,c.2) (.slice (some ⟨R,W,none⟩) (List.length u.2) H) h o o
     refine cB h λG M h=>rcT hT [0] (aE _ _ _ _ _ _ M) (ca o) o o o λ_=>za<|aa [0,1,39,49] o<|af 3 (by kernel_rfl) o<|yl 0 f0 dE o o o tr o<|za<|aa [0,1,40,49] o<|af 13 (by kernel_rfl) o<|cB h λc V h=>rc [2] (aL _ _ _ _ V) (ca o) o o o λ_=>za<|aa [0,1,50] o<|ae 14 (ti c.1) o (by kernel_rfl) o ?_
     exact aN (by kernel_rfl)<|zt<|aa [0,1,5] o<|ah (c.1,c.2) (.slice (some ⟨R,W,none⟩) (List.length u.2) H) h o o
    refine cB h λG M h=>rcT hT [0] (aE _ _ _ _ _ _ M) (ca o) o o o λ_=>za<|aa [0,1,37,49] o<|af 1 (by kernel_rfl) o<|p 1 [0,1,38,49] o<|za<|aa [0,1,38,49] o<|ae 2 (ptr C 0) o (by kernel_rfl) o<|af 3 (by kernel_rfl) o<|yl 0 f0 dE o o o tr o<|za<|aa [0,1,40,49] o<|af 13 (by kernel_rfl) o ?_
    exact cB h λc V h=>rc [2] (aL _ _ _ _ V) (ca o) o o o λ_=>za<|aa [0,1,50] o<|ae 14 (ti c.1) o (by kernel_rfl) o<|aN (by kernel_rfl)<|zt<|aa [0,1,5] o<|ah (c.1,c.2) (.slice (some ⟨R,W,none⟩) (List.length u.2) H) h o o
   refine zu<|q 2 [(0,ptr C 0),(1,ti J),(5,ti d.1),(52,tb (d.1 !=0))] [] o<|za<|rI h o (λhc h=>?_) λhc h=>?_
   ·refine zu<|p 3 [5,55] o<|st 1 f5 ty4 o o o o tr<|zz<|q 2 [(4,ti d.1)] [] o<|zf<|zT<|zB<|zT<|zB<|zT<|pk [1,1,0] o<|bS (x:=((),f.2.1,f.2.2.1,u.2,f.2.2.2.2.1,true,f.2.2.2.2.2.2)) (q:=N) ?_
    cases h
    exact bd o (.tmp o) (.cons_cons _ (.cons_cons _ .slnil))
   refine zk<|zt<|zr<|p 4 [0,1,57,60] o<|yl 1 f3 tx5 o o o tr o ?_
   obtain⟨O,h⟩:=cr h
   refine y (jA ai (i:=1) (j:=(List.length u.2:Int)) o (eF 2 o) o o O.1 O.2.1 O.2.2 o de) o ?_
   refine q 2 [(62,.one W51 (fP (T.size Y195) g22 (Int.toNat 1) (Int.toNat (List.length u.2:Int)))),(64,ptr C 3)] [0,1] o<|uz (k:=1) (j:=(Int.toNat (List.length u.2:Int))) 2 o (by have:=O.2.1;omega) (by have:=O.2.2;omega) ?_
   exact st 1 f3 tx5 o o o o tr<|nL o<|zn<|zi<|zt<|aa [0,1] o<|pk [1,1,0] o<|aR (d.2,(List.drop 1 (List.take (Int.toNat (List.length u.2:Int)) u.2))) (fP (T.size Y195) g22 1 (Int.toNat (List.length u.2:Int))) (Nat.lt_succ_self _) h o o
  exact zx<|ze<|ze<|zq<|zt<|aa [] o<|ah (u.2,u.1) g12 h o o
 refine zu<|q 1 [(4,ti 0)] [] o<|zf<|bS (x:=((),f.2.1,f.2.2.1,m.1,f.2.2.2.2.1,f.2.2.2.2.2.1,f.2.2.2.2.2.2)) (q:=N) ?_
 cases h
 exact bd o (.tmp o) (.cons_cons _ (.cons_cons _ .slnil))
theorem oK(R:Value)(f:Value)(c H r)(h:jh c H=some r):FnT PP bF 22 [tp R] [Res.cls (bP f) R c,Res.disk PP dI f H] (λ_=>ti r.1) (λ_=>[Res.cls (bP f) R r.2.1,Res.disk PP dI f r.2.2]):=by
 unfold jh at h
 refine gP Tryz.func22 o 39 o o λF hT=>?_
 refine oJ λG w Z hp=>?_
 subst hp
 refine fS (x:=c) (q:=f) ?_
 refine zu<|q 1 [(0,ptr G 0)] [] o<|za<|zs<|nS λu a1=>?_
 refine zr<|p 3 [0,9] o<|yl 0 f1 cT o o o tr o ?_
 obtain⟨V,h⟩:=cr h
 refine az (R':=Res.cls (cg f) u c.2.1.2) 1 o (dW V)<|cB h λN J h=>rc [1,2] (u2 _ _ _ _ _ J) (ca o) o o o λ_=>p 1 [0,3] o<|zz<|p 4 [0,3,13,16] o<|yl 2 f3 bW o o o tr o<|cB h λM d h=>av (lm _ _ _ d) (ca o) o o<|q 5 [(4,ts M.1),(5,ti M.2)] [0,3] o<|za<|zs<|zu<|q 2 [(22,tb (M.2 !=0))] [0,3,4,5] o ?_
 refine za<|rI h o (λhc h=>?_) λhc h=>?_
 ·refine zu<|q 2 [(2,ti M.2)] [] o<|zf<|zT<|az (R':=Res.clsif (cg f) u c.2.1.2 c.2.1.1) 0 o (cY V)<|pk [2,0,1,0] o<|fS (x:=c) (q:=f) ?_
  cases h
  exact bd o (.tmp o) (.cons_cons _ (.cons_cons _ .slnil))
 refine zk<|zt<|zs<|zu<|p 3 [0,3,4,26] o<|yl 2 f0 dE o o o tr o<|q 1 [(27,tp f),(28,ts M.1)] [0,3] o<|cB h λW m h=>rc [1] (wn _ _ _ _ _ m) (ca o) o o o λ_=>q 1 [(6,ti W.1)] [0,3] o<|zz<|q 2 [(31,tb (W.1 !=0))] [0,3,6] o<|za<|rI h o (λhc h=>?_) λhc h=>?_
 ·refine zu<|q 2 [(2,ti W.1)] [] o<|zf<|zT<|az (R':=Res.clsif (cg f) u c.2.1.2 c.2.1.1) 1 o (cY V)<|pk [2,1,1,0] o<|fS (x:=c) (q:=f) ?_
  cases h
  exact bd o (.tmp o) (.cons_cons _ (.cons_cons _ .slnil))
 refine zy<|p 3 [3,35] o<|yl 2 f1 cT o o o tr o<|q 1 [(36,tp u),(37,ti N)] [] o<|cB h λC O h=>rcT hT [1,0] (um _ _ _ _ _ _ O) (ca o) o o o λ_=>q 1 [(2,ti C.1)] [] o<|zf<|az (R':=Res.clsif (cg f) u C.2.1 c.2.1.1) 0 o (cY V)<|pk [2,0,1,0] o<|fS (x:=((),(c.2.1.1,C.2.1),c.2.2.1,c.2.2.2.1,c.2.2.2.2)) (q:=f) ?_
 cases h
 exact bd o (.tmp o) (.cons_cons _ (.cons_cons _ .slnil))
theorem tF(u:Value)(c f r)(h:nr c f=some r):Fn PP 24 [tp u,ti f] [Res.disk PP dI u c] (λ_=> .tup []) (λ_=>[Res.disk PP dI u r]):=by
 unfold nr at h
 refine enter Tryz.func24 o 9 o o λF=>?_
 refine gE λM V hp=>?_
 subst hp
 refine zr<|q 2 [(4,ptr M 0),(5,ti f)] [] o<|y (yX o o) o ?_
 refine q 2 [(6,ti (max f 0)),(8,ptr M 4)] [] o<|st 0 f4 ty3 o o o o tr<|zn<|cv (P:=PP) (I:=dI) (D:=(c.1,c.2.1,c.2.2.1,c.2.2.2.1,(max f 0),c.2.2.2.2.2.1,c.2.2.2.2.2.2)) ?_
 cases h
 exact dV o (λ_=>aH [] .nil) ((.cons_cons _ .slnil))
theorem vA(c M u r)(h:eK c M u=some r):bn PP 152 [.one W64 c,ts M,ti u] (.one Y152 r):=by
 unfold eK at h
 refine enter Tryz.func152 o 28 o o λF=>?_
 refine zu<|aD (t:=Y152) o tw o λV=>za<|bv h (λR=>[(6,ptr V 0)]) (λR=>[Res.var V 152 Y152 ([],0,0,[],())]) (λG h=>?_) λR h=>?_
 ·refine zu<|q 3 [(1,ts M),(2,ti u),(6,ptr V 0),(9,.one W64 c),(10,ti (List.length c:Int)),(11,ti 0)] [] o<|za<|zb<|aa [1,2,6,9,10,11] o<|aY (γ:=Unit) (λ(f:Int) _=>[(1,ts M),(2,ti u),(6,ptr V 0),(9,.one W64 c),(10,ti (List.length c:Int)),(11,ti f)]) (λ(f:Int) _=>[Res.var V 152 Y152 ([],0,0,[],())]) (lj c M u G) 0 () h o o ?_
  clear h
  intro W f gg h
  cases W with
  |zero=>cases h
  |succ W=>
  simp only[lj]at h
  refine zu<|q 1 [(11,ti f),(12,tb (decide (f<(List.length c:Int))))] [1,2,6,9,10] o<|za<|zs<|rI h o (λhc h=>?_) λhc h=>?_
  ·refine zk<|zt<|zs<|zb<|zu<|iE h λhc h=>y (ff ai o o hc.1 hc.2 o mR) o ?_
   refine y (ga o mR) o ?_
   refine aD (t:=Y152) o tw o λC=>st 0 .here mR o o o o tr<|zz<|p 1 [1,2,6,8,9,10,11,15] o<|yl 0 f0 ty9 o o o tr o<|q 3 [(19,tb (((List.getD c (Int.toNat f) ([],0,0,[],())).1)==M))] [1,2,6,8,9,10,11] o ?_
   obtain⟨H,e,h⟩:=ak h;rw[e]
   refine aJ 5 [(1,ts M),(2,ti u),(6,ptr V 0),(8,ptr C 0),(9,.one W64 c),(10,ti (List.length c:Int)),(11,ti f),(24,tb (H&&(((List.getD c (Int.toNat f) ([],0,0,[],())).2.1)==u)))] [Res.var C 152 Y152 (List.getD c (Int.toNat f) ([],0,0,[],())),Res.var V 152 Y152 ([],0,0,[],())] (?_) ?_
   ·clear h
    cases H
    ·exact p 5 [1,2,6,8,9,10,11,24] o<|za<|ao () o o
    refine p 1 [1,2,6,8,9,10,11,19,20] o<|ap (by rfl) o ?_
    exact yl 0 f1 ty3 o o o tr o<|q 3 [(24,tb (((List.getD c (Int.toNat f) ([],0,0,[],())).2.1)==u))] [1,2,6,8,9,10,11] o<|aa [1,2,6,8,9,10,11,24] o<|za<|ao () o o
   exact za<|rI h o (λhc h=>zu<|yl 0 .here mR o o o tr o<|st 1 .here mR o o o o tr<|zf<|zB<|zT<|zT<|zB<|zT<|by cases h;exact aU o (.cell 1 .here o o o ab mR) (λ_ _ g=>g) (λ_ _ _=>List.nil_sublist _)) λhc h=>zk<|zi<|zt<|zr<|q 2 [(1,ts M),(2,ti u),(6,ptr V 0),(9,.one W64 c),(10,ti (List.length c:Int)),(11,ti (wrap .i64 (f+1)))] [] o<|za<|pk [1] o<|aa [1,2,6,9,10,11] o<|aR (wrap .i64 (f+1)) () (Nat.lt_succ_self _) h o o
  exact zx<|ze<|ze<|zq<|zt<|aa [6] o<|ah () () h o o
 refine zu<|y (bc o tw o o .nil) o ?_
 refine st 0 .here mR o o o o tr<|zf ?_
 cases h
 exact aU o (.cell 0 .here o o o ab mR) (λ_ _ g=>g) (λ_ _ _=>List.nil_sublist _)
theorem tG(p0:Value)(f J d r)(h:gJ f J d=some r):Fn PP 109 [tp p0,ts J,.one W64 d] [Res.file PP dI p0 f] (λ_=> .tup []) (λ_=>[Res.file PP dI p0 r]):=by
 unfold gJ at h
 refine enter Tryz.func109 o 142 o o λF=>?_
 refine w6 λu W O R hp=>?_
 subst hp
 refine zu<|q 3 [(0,ptr u 0),(1,ts J),(2,.one W64 d),(18,ptr u 1)] [] o<|yl 0 f1 tx1 o o o tr o<|y (cn ai 2 o o o) o ?_
 refine q 1 [(6,ti (List.length f.2.1:Int))] [0,1,2] o ?_
 obtain⟨d1,e,h⟩:=ak h;rw[e]
 refine zz<|nX 3 (.int .i64) Y152 o λV=>?_
 refine p 1 [0,1,2,6,7] o<|za<|bv h (λM=>[(0,ptr u 0),(6,ti M.1),(7,.one W59 V)]) (λM=>[Res.dirty PP dI R f.2.2,Res.map PP 3 (.int .i64) Y152 V M.2,Res.var u 237 FT (W,O,R,()),Res.own W 5 (.int .u8) f.1,Res.own O 5 (.int .u8) f.2.1]) (λk7 h=>?_) λM h=>?_
 ·refine zu<|p 3 [0,1,2,6,7,24] o<|yl 1 f2 pA o o o tr o<|pk [4,0,0,0,0] o<|Bg (P:=PP) (I:=dI) sP o Tryz.underlying235 o λm b8=>?_
  refine za<|zb<|cB h λrr hall h=>aa [0,1,2,6,7,26] o<|pH (step:=eR f J d) (λs l=>l.Nodup∧∀k∈l,aQ (.int .i64) k s.2=none) (qi f J d) b8 ⟨b8,λ_ _=>o⟩ hall (γ:=Unit) (λ(H:Int×(List (Int×ma))) _=>[(0,ptr u 0),(1,ts J),(2,.one W64 d),(6,ti H.1),(7,.one W59 V),(26,tp m)]) (λb9 (H:Int×(List (Int×ma))) _=>[Res.kiter PP dI R m f.2.2 b9 none,Res.map PP 3 (.int .i64) Y152 V H.2,Res.var u 237 FT (W,O,R,()),Res.own W 5 (.int .u8) f.1,Res.own O 5 (.int .u8) f.2.1]) () o o λb9 H gg hend hone=>?_
  refine zu ?_
  refine CL (P:=PP) (I:=dI) sP o o (λht=>?_) (λA61 w B63 d2 b3 hk=>?_)
  ·obtain rfl:=hend ht
   refine y4 ?_
   refine q 1 [(6,ti H.1),(28,tb false)] [0,1,2,7] o<|za<|zs ?_
   refine gO (b:=false) o (λhc=>?_) (λhc=>?_)
   ·cases hc
   exact zx<|ze<|ze<|zq<|zt<|aa [0,6,7] o<|ah (H.1,H.2) () h o o
  obtain⟨d3,b5⟩:=hone A61 w B63 b3
  clear h
  have h:=b5
  unfold eR at h
  refine q 1 [(6,ti H.1),(26,tp m),(28,tb true)] [0,1,2,7] o<|za<|zs ?_
  refine gO (b:=true) o (λhc=>?_) (λhc=>?_)
  ·refine zk<|zt<|zb<|zu<|Bh (P:=PP) (I:=dI) o 0 o o λd4=>?_
   refine p 2 [0,1,2,6,7,8,26] o<|zz<|p 3 [0,1,2,6,7,8,26,31,32,33] o<|cB h λa4 c2 h=>av (vA _ _ _ _ c2) (ca o) o o<|aD (t:=Y152) o tw o λc3=>st 0 .here mR o o o o tr<|zz<|p 2 [0,1,2,6,7,8,9,26,35,36] o<|yl 0 .here mR o o o tr o<|iE h λhc h=>lK 2 o o o o DK Tryz.underlying238 hc ?_
   refine zz<|p 1 [0,1,2,6,7,8,9,26,38] o<|yl 0 f2 ty3 o o o tr o<|q 2 [(41,tb (a4.2.2.1==1))] [0,1,2,6,7,8,9,26] o ?_
   obtain⟨c0,e,h⟩:=ak h;rw[e]
   refine aJ 4 [(0,ptr u 0),(1,ts J),(2,.one W64 d),(6,ti H.1),(7,.one W59 V),(8,ti w),(26,tp m),(45,tb (c0||(a4.2.2.1==2)))] [Res.var c3 152 Y152 a4,Res.kiter PP dI R m f.2.2 (A61++B63) (some w),Res.map PP 3 (.int .i64) Y152 V (fa (.int .i64) w a4 H.2),Res.var u 237 FT (W,O,R,()),Res.own W 5 (.int .u8) f.1,Res.own O 5 (.int .u8) f.2.1] (?_) ?_
   ·clear h
    cases c0
    ·refine p 1 [0,1,2,6,7,8,26,41,42] o<|ap (by rfl) o ?_
     exact yl 0 f2 ty3 o o o tr o<|q 2 [(45,tb (a4.2.2.1==2))] [0,1,2,6,7,8,26] o<|aa [0,1,2,6,7,8,26,45] o<|za<|ao () o o
    exact p 4 [0,1,2,6,7,8,26,45] o<|za<|ao () o o
   refine za<|rI h o (λhc h=>?_) λhc h=>?_
   ·refine zr<|q 7 [(0,ptr u 0),(1,ts J),(2,.one W64 d),(7,.one W59 V),(26,tp m),(46,ti H.1),(49,ti (wrap .i64 ((wrap .i64 (w+1))*64))),(52,ptr u 0)] [] o<|yl 3 f0 tx1 o o o tr o<|y (cn ai 4 o o o) o ?_
    refine y (uw o o) o ?_
    refine y (yX o o) o ?_
    refine q 1 [(6,ti (max H.1 (min (wrap .i64 ((wrap .i64 (w+1))*64)) (List.length f.1:Int))))] [0,1,2,7,26] o ?_
    obtain⟨d5,e,h⟩:=ak h;rw[e]
    refine zn<|zi<|zt<|pk [1,1,1,1,1] o<|az (R':=Res.kiter PP dI R m f.2.2 (A61++B63) none) 0 o uJ<|aa [0,1,2,6,7,26] o ?_
    obtain rfl:=Option.some.inj h
    exact s8 () b3 b5 o o
   refine zk<|zi<|zt<|pk [1,1,1,1,1] o<|az (R':=Res.kiter PP dI R m f.2.2 (A61++B63) none) 0 o uJ<|aa [0,1,2,6,7,26] o ?_
   obtain rfl:=Option.some.inj h
   exact s8 () b3 b5 o o
  cases hc
 refine zu<|q 3 [(0,ptr u 0),(6,ti M.1),(7,.one W59 V),(59,ptr u 0)] [] o<|yl 2 f0 tx1 o o o tr o<|q 1 [(60,.one W51 W),(61,ti M.1)] [0,7] o ?_
 obtain⟨Z,h⟩:=cr h
 refine y (jA ai (i:=(0:Int)) (j:=M.1) o (eF 3 o) o o Z.1 Z.2.1 Z.2.2 o ty5) o ?_
 refine cB h λG c4 h=>oU (eB (List.take (Int.toNat M.1) f.1) _ c4) (by kernel_rfl) (λ_=>o) (λ_ r hr=>by rcases List.mem_singleton.1 hr with rfl;exact Res.free_own o) (.sub o (na (eF 3 o) Z.1 Z.2.1 Z.2.2) .nil) o λc5=>?_
 refine p 1 [0,7,10] o<|za<|jK h (γ:=Value×Value) (λ(a5:List (Int)) g16=>[(0,ptr u 0),(10,.one W51 g16.1)]) (λ(a5:List (Int)) g16=>[Res.own g16.1 5 (.int .u8) a5,Res.dirty PP dI R f.2.2,Res.map PP 3 (.int .i64) Y152 V M.2,Res.var u 237 FT (W,g16.2,R,()),Res.own W 5 (.int .u8) f.1,Res.own g16.2 5 (.int .u8) f.2.1]) (λc6 h=>?_) λa5 g16 h=>?_
 ·refine zu<|p 1 [0,7,10,64] o<|y (cn ai 0 o o o) o ?_
  refine q 1 [(65,ti (List.length G:Int)),(66,ti 0)] [0,7,10] o<|za<|zb<|aa [0,7,10,65,66] o<|aY (γ:=Value×Value) (λ(c:Int×List (Int)) g28=>[(0,ptr u 0),(7,.one W59 V),(10,.one W51 g28.1),(65,ti (List.length G:Int)),(66,ti c.1)]) (λ(c:Int×List (Int)) g28=>[Res.own g28.1 5 (.int .u8) c.2,Res.dirty PP dI R f.2.2,Res.map PP 3 (.int .i64) Y152 V M.2,Res.var u 237 FT (W,g28.2,R,()),Res.own W 5 (.int .u8) f.1,Res.own g28.2 5 (.int .u8) f.2.1]) (js f M G c6) (0,G) (c5,O) h o o ?_
  clear h
  intro c1 c g28 h
  cases c1 with
  |zero=>cases h
  |succ c1=>
  simp only[js]at h
  refine zu<|q 1 [(10,.one W51 g28.1),(66,ti c.1),(67,tb (decide (c.1<(List.length G:Int))))] [0,7,65] o<|za<|zs<|rI h o (λhc h=>?_) λhc h=>?_
  ·refine zk<|zt<|jK h (γ:=Value×Value) (λ(a6:List (Int)) N=>[(0,ptr u 0),(7,.one W59 V),(10,.one W51 N.1),(65,ti (List.length G:Int)),(66,ti c.1)]) (λ(a6:List (Int)) N=>[Res.own N.1 5 (.int .u8) a6,Res.dirty PP dI R f.2.2,Res.map PP 3 (.int .i64) Y152 V M.2,Res.var u 237 FT (W,N.2,R,()),Res.own W 5 (.int .u8) f.1,Res.own N.2 5 (.int .u8) f.2.1]) (λd6 h=>?_) λa6 N h=>?_
   ·refine zb<|zu<|q 2 [(11,ti c.1)] [0,7,10,65,66] o<|zz<|q 3 [(12,ti (wrap .i64 (Int.tdiv c.1 64)))] [0,7,10,11,65,66] o ?_
    obtain⟨C,e,h⟩:=ak h;rw[e]
    refine zz<|p 2 [0,7,10,11,12,65,66,72,73] o<|y (wP 2 o o o DK Tryz.underlying238 tw o) o ?_
    refine q 3 [(75,.one Y152 (Option.getD (aQ (.int .i64) C M.2) ([],0,0,[],()))),(76,tb (Option.isSome (aQ (.int .i64) C M.2)))] [0,7,10,11,12,65,66] o<|aD (t:=Y152) o tw o λa3=>st 0 .here mR o o o o tr<|q 1 [(13,ptr a3 0),(14,tb (Option.isSome (aQ (.int .i64) C M.2)))] [0,7,10,11,12,65,66] o ?_
    obtain⟨d7,e,h⟩:=ak h;rw[e]
    refine za<|zb<|zu<|p 3 [0,7,10,11,12,13,65,66,100] o ?_
    obtain⟨b6,e,h⟩:=ak h;rw[e]
    refine aJ 4 [(0,ptr u 0),(7,.one W59 V),(10,.one W51 g28.1),(11,ti c.1),(12,ti C),(13,ptr a3 0),(65,ti (List.length G:Int)),(66,ti c.1),(104,tb (b6||(((Option.getD (aQ (.int .i64) C M.2) ([],0,0,[],())).2.2.1)==1)))] [Res.var a3 152 Y152 (Option.getD (aQ (.int .i64) C M.2) ([],0,0,[],())),Res.own g28.1 5 (.int .u8) c.2,Res.dirty PP dI R f.2.2,Res.map PP 3 (.int .i64) Y152 V M.2,Res.var u 237 FT (W,g28.2,R,()),Res.own W 5 (.int .u8) f.1,Res.own g28.2 5 (.int .u8) f.2.1] (?_) ?_
    ·clear h
     cases b6
     ·refine p 1 [0,7,10,11,12,13,65,66,100,101] o<|ap (by rfl) o ?_
      exact yl 0 f2 ty3 o o o tr o<|q 2 [(0,ptr u 0),(7,.one W59 V),(10,.one W51 g28.1),(11,ti c.1),(12,ti C),(13,ptr a3 0),(65,ti (List.length G:Int)),(66,ti c.1),(104,tb (((Option.getD (aQ (.int .i64) C M.2) ([],0,0,[],())).2.2.1)==1))] [] o<|aa [0,7,10,11,12,13,65,66,104] o<|za<|ao () o o
     exact p 4 [0,7,10,11,12,13,65,66,104] o<|za<|ao () o o
    refine q 1 [(0,ptr u 0),(7,.one W59 V),(10,.one W51 g28.1),(11,ti c.1),(12,ti C),(13,ptr a3 0),(65,ti (List.length G:Int)),(66,ti c.1),(97,tb (b6||(((Option.getD (aQ (.int .i64) C M.2) ([],0,0,[],())).2.2.1)==1)))] [] o<|za<|rI h o (λhc h=>zk<|zi<|zi<|zt<|pk [1,1,1,1,1,1] o<|aa [0,7,10,65,66] o<|ah c.2 (g28.1,g28.2) h o o) λhc h=>zu<|p 1 [0,7,10,11,12,13,65,66,106] o<|yl 0 f2 ty3 o o o tr o<|q 2 [(105,tb (((Option.getD (aQ (.int .i64) C M.2) ([],0,0,[],())).2.2.1)==2))] [0,7,10,11,12,13,65,66] o<|za<|rI h o (λhc h=>?_) λhc h=>?_
    ·refine zu<|q 2 [(109,.one W51 g28.1),(110,ti c.1)] [0,7,10,11,12,13,65,66] o<|iE h λhc h=>cJ 1 o (by first|omega|(simp only[List.length_set]at hc⊢;omega)) λa7 a8 a9 hv=>?_
     rw[hv]
     try clear hv
     refine y (cU ai o o hc.1 (by first|exact hc.2|simpa using hc.2) o ty5) o ?_
     refine oS 1 (Int.toNat c.1) .here o o o (by first|omega|(simp only[List.length_set]at hc⊢;omega)) (by first|rfl|(simp only[Pth.off,T.size];omega)) ab ty5 ?_
     refine zz<|q 5 [(10,.one W51 (.slice (some ⟨a7,a8,none⟩) (List.length c.2) a9)),(15,ti (wrap .i64 (c.1 - (wrap .i64 (C*64)))))] [0,7,11,13,65,66] o ?_
     obtain⟨b7,e,h⟩:=ak h;rw[e]
     refine zz<|p 2 [0,7,10,11,13,15,65,66,116,117] o<|yl 0 f3 ty9 o o o tr o<|q 2 [(120,tb (decide (b7<(List.length ((Option.getD (aQ (.int .i64) C M.2) ([],0,0,[],())).2.2.2.1):Int))))] [0,7,10,11,13,15,65,66] o ?_
     obtain⟨d8,e,h⟩:=ak h;rw[e]
     refine za<|rI h o (λhc h=>?_) λhc h=>?_
     ·refine zr<|q 3 [(121,.one W51 (.slice (some ⟨a7,a8,none⟩) (List.length c.2) a9)),(122,ti c.1),(123,ptr a3 3)] [0,7,10,15,65,66] o<|yl 0 f3 ty9 o o o tr o<|q 1 [(124,ts ((Option.getD (aQ (.int .i64) C M.2) ([],0,0,[],())).2.2.2.1)),(125,ti b7)] [0,7,10,65,66,121,122] o<|iE h λhc h=>y (ge ai o o hc.1 hc.2 o) o ?_
      refine iE h λhc h=>y (cU ai o o hc.1 (by first|exact hc.2|simpa using hc.2) o ty5) o ?_
      refine oS 1 (Int.toNat c.1) .here o o o (by first|omega|(simp only[List.length_set]at hc⊢;omega)) (by first|rfl|(simp only[Pth.off,T.size];omega)) ab ty5 ?_
      exact zn<|zi<|zi<|zt<|pk [1,1,1,1,1,1] o<|aa [0,7,10,65,66] o<|ah (List.set (List.set c.2 (Int.toNat c.1) 0) (Int.toNat c.1) (List.getD ((Option.getD (aQ (.int .i64) C M.2) ([],0,0,[],())).2.2.2.1) (Int.toNat b7) 0)) ((.slice (some ⟨a7,a8,none⟩) (List.length c.2) a9),g28.2) h o o
     exact zk<|zi<|zi<|zt<|pk [1,1,1,1,1,1] o<|aa [0,7,10,65,66] o<|ah (List.set c.2 (Int.toNat c.1) 0) ((.slice (some ⟨a7,a8,none⟩) (List.length c.2) a9),g28.2) h o o
    refine zu<|q 2 [(77,.one W51 g28.1),(78,ti c.1)] [0,7,10,11,65,66] o<|iE h λhc h=>cJ 1 o (by first|omega|(simp only[List.length_set]at hc⊢;omega)) λb0 b1 b2 hv=>?_
    rw[hv]
    try clear hv
    refine y (cU ai o o hc.1 (by first|exact hc.2|simpa using hc.2) o ty5) o ?_
    refine oS 1 (Int.toNat c.1) .here o o o (by first|omega|(simp only[List.length_set]at hc⊢;omega)) (by first|rfl|(simp only[Pth.off,T.size];omega)) ab ty5 ?_
    refine zz<|q 4 [(10,.one W51 (.slice (some ⟨b0,b1,none⟩) (List.length c.2) b2)),(80,ti c.1),(83,ptr u 1)] [0,7,11,65,66] o<|yl 4 f1 tx1 o o o tr o<|y (cn ai 6 o o o) o ?_
    refine q 1 [(86,tb (decide (c.1<(List.length f.2.1:Int))))] [0,7,10,11,65,66] o<|za<|rI h o (λhc h=>?_) λhc h=>?_
    ·refine zr<|q 5 [(87,.one W51 (.slice (some ⟨b0,b1,none⟩) (List.length c.2) b2)),(88,ti c.1),(91,ptr u 1)] [0,7,10,11,65,66] o<|yl 4 f1 tx1 o o o tr o<|q 1 [(92,.one W51 g28.2),(93,ti c.1)] [0,7,10,65,66,87,88] o<|iE h λhc h=>cJ 6 o (by first|omega|(simp only[List.length_set]at hc⊢;omega)) λc7 c8 c9 hv=>?_
     rw[hv]
     try clear hv
     refine y (cU ai o o hc.1 (by first|exact hc.2|simpa using hc.2) o ty5) o ?_
     refine y (dN 6 (Int.toNat c.1) .here o o (by first|omega|(simp only[List.length_set]at hc⊢;omega)) (by first|rfl|(simp only[Pth.off,T.size];omega)) ab ty5) o ?_
     refine iE h λhc h=>y (cU ai o o hc.1 (by first|exact hc.2|simpa using hc.2) o ty5) o ?_
     refine oS 1 (Int.toNat c.1) .here o o o (by first|omega|(simp only[List.length_set]at hc⊢;omega)) (by first|rfl|(simp only[Pth.off,T.size];omega)) ab ty5 ?_
     exact zn<|zi<|zi<|zt<|pk [1,1,1,1,1,1] o<|aa [0,7,10,65,66] o<|ah (List.set (List.set c.2 (Int.toNat c.1) 0) (Int.toNat c.1) (List.getD f.2.1 (Int.toNat c.1) 0)) ((.slice (some ⟨b0,b1,none⟩) (List.length c.2) b2),(.slice (some ⟨c7,c8,none⟩) (List.length f.2.1) c9)) h o o
    exact zk<|zi<|zi<|zt<|pk [1,1,1,1,1,1] o<|aa [0,7,10,65,66] o<|ah (List.set c.2 (Int.toNat c.1) 0) ((.slice (some ⟨b0,b1,none⟩) (List.length c.2) b2),g28.2) h o o
   exact zr<|q 2 [(0,ptr u 0),(7,.one W59 V),(10,.one W51 N.1),(65,ti (List.length G:Int)),(66,ti (wrap .i64 (c.1+1)))] [] o<|za<|aa [0,7,10,65,66] o<|aR ((wrap .i64 (c.1+1)),a6) (N.1,N.2) (Nat.lt_succ_self _) h o o
  exact zx<|ze<|ze<|zq<|zt<|aa [0,10] o<|ah c.2 (g28.1,g28.2) h o o
 refine zu<|q 4 [(0,ptr u 0),(129,ptr u 0),(130,ptr u 0),(131,.one W51 g16.1),(132,.one W51 g16.1)] [] o<|cB h λd9 d0 h=>oU (eB a5 _ d0) (by kernel_rfl) (λ_=>o) (λ_ r hr=>by rcases List.mem_singleton.1 hr with rfl;exact Res.free_own o) (.sub o (eF 0 o) .nil) o λe0=>?_
 refine p 2 [0,130,131,133,135] o<|st 4 f0 tx1 o o o o tr<|pk [0,0,0,0,0,1] o<|p 2 [0,133,137] o<|st 4 f1 tx1 o o o o tr<|nL o<|pk [0,0,0,0,0] o<|za<|zr<|q 3 [(140,ptr u 2)] [] o<|yl 4 f2 pA o o o tr o<|mm 2 o λe1 e2=>?_
 refine yn 2 o o Tryz.underlying235 ?_
 refine iD (P:=PP) (I:=dI) (keys:=[]) 2 o o ?_
 refine zn<|pk [4,1,0,0,0] o<|Ao (P:=PP) (I:=dI) ?_
 cases h
 exact dV o (λ_=>aH [] .nil) ((.cons_cons _ (.cons _ .slnil)))
theorem n2(W:Value)(c u r)(h:kF c u=some r):Fn PP 61 [tp W,.one W64 u] [Res.disk PP dI W c] (λ_=> .tup []) (λ_=>[Res.disk PP dI W r]):=by
 unfold kF at h
 refine enter Tryz.func61 o 43 o o λF=>?_
 refine gE λf M hp=>?_
 subst hp
 refine zs<|zu<|q 3 [(0,ptr f 0),(1,.one W64 u),(8,ptr f 5)] [] o<|yl 0 f5 ty4 o o o tr o<|q 1 [(10,tb c.2.2.2.2.2.1)] [0,1] o<|aJ 6 [(0,ptr f 0),(1,.one W64 u),(16,tb (c.2.2.2.2.2.1&&(!c.2.2.2.2.2.2)))] [Res.var f 123 DT (c.1,M,c.2.2.1,c.2.2.2.1,c.2.2.2.2.1,c.2.2.2.2.2.1,c.2.2.2.2.2.2,()),Res.dfiles PP dI M c.2.1] (?_) ?_
 ·clear h
  rcases Bool.eq_false_or_eq_true c.2.2.2.2.2.1 with hh|hh
  ·refine nZ 10 hh o ?_
   refine p 3 [0,1,10,13] o<|ap (by rfl) o ?_
   exact yl 0 f6 ty4 o o o tr o<|q 2 [(16,tb (!c.2.2.2.2.2.2))] [0,1] o<|aa [0,1,16] o<|za<|ao () (by first|rfl|(rw[hh];done)|(rw[hh];rfl)) o
  refine nZ 10 hh o ?_
  exact p 6 [0,1,16] o<|za<|ao () (by first|rfl|(rw[hh];done)|(rw[hh];rfl)) o
 refine za<|rI h o (λhc h=>zR<|zT<|cv (P:=PP) (I:=dI) (D:=c)<|by cases h;exact qn o (λ_=>aH [] .nil) ((.cons_cons _ .slnil))) λhc h=>zk<|zt<|bv h (λR=>[(0,ptr f 0)]) (λR=>[Res.dfiles PP dI M R,Res.var f 123 DT (c.1,M,c.2.2.1,c.2.2.2.1,c.2.2.2.2.1,c.2.2.2.2.2.1,c.2.2.2.2.2.2,())]) (λZ h=>?_) λR h=>?_
 ·refine zu<|q 3 [(0,ptr f 0),(1,.one W64 u),(19,ptr f 1)] [] o<|yl 0 f1 l0 o o o tr o<|pk [1,0] o<|w5 dK o Tryz.underlying121 o λC d=>?_
  refine za<|zb<|cB h λrr hall h=>aa [0,1,21] o<|pH (step:=gU u) (λ_ _=>True) (pn u) d tr hall (γ:=Unit) (λ(V:(List (List Int×aP))) _=>[(0,ptr f 0),(1,.one W64 u),(21,tp C)]) (λH (V:(List (List Int×aP))) _=>[Res.diter PP dI M C V H none none,Res.var f 123 DT (c.1,M,c.2.2.1,c.2.2.2.1,c.2.2.2.2.1,c.2.2.2.2.2.1,c.2.2.2.2.2.2,())]) () o o λH V gg hend hone=>?_
  refine zu ?_
  refine vk dK o o (λht=>?_) (λA13 G B15 a2 N hk=>?_)
  ·obtain rfl:=hend ht
   refine uI ?_
   refine p 1 [0,1,23] o<|za<|zs ?_
   refine gO (b:=false) o (λhc=>?_) (λhc=>?_)
   ·cases hc
   exact zx<|ze<|ze<|zq<|zt<|aa [0] o<|ah V () h o o
  obtain⟨a3,J⟩:=hone A13 G B15 N
  clear h
  have h:=J
  unfold gU at h
  refine p 1 [0,1,21,23] o<|za<|zs ?_
  refine gO (b:=true) o (λhc=>?_) (λhc=>?_)
  ·refine zk<|zt<|zb<|zu<|y (tZ o 0 o) o ?_
   refine p 4 [0,1,4,5,21] o<|za<|zr<|p 3 [0,1,21,27,28,29] o<|cB h λf18 m h=>vP m λa4 a5 a6 a7 hq=>?_
   rw[hq]
   clear hq
   refine Ao (P:=PP) (I:=dI) ?_
   refine cB h λO w h=>rc [0] (tG _ _ _ _ _ w) (ca o) o o o λ_=>zn<|zi<|zt<|An λa8 a9 b0=>?_
   refine xN (P:=PP) (I:=dI) ?_
   refine az (R':=Res.diter PP dI M C (di .str G O V) (A13++B15) none none) 0 o qZ<|aa [0,1,21] o ?_
   obtain rfl:=Option.some.inj h
   exact s8 () N J o o
  cases hc
 refine zr<|q 6 [(32,ptr f 0),(33,ptr f 0),(34,ptr f 0),(36,ptr f 5)] [] o<|st 1 f5 ty4 o o o o tr<|p 2 [33,34,38] o<|st 1 f6 ty4 o o o o tr<|nL o<|p 2 [34,40] o<|st 1 f2 ty3 o o o o tr<|q 2 [(42,ptr f 4)] [] o<|st 1 f4 ty3 o o o o tr<|nL o<|zn<|pk [1,0] o<|cv (P:=PP) (I:=dI) (D:=(c.1,R,0,c.2.2.2.1,0,true,false)) ?_
 cases h
 exact dV o (λ_=>aH [] .nil) ((.cons_cons _ .slnil))
theorem u6(M:Value)(f r)(h:o8 f=some r):Fn PP 62 [tp M] [Res.disk PP dI M f] (λ_=> .tup []) (λ_=>[Res.disk PP dI M r]):=by
 unfold o8 at h
 refine enter Tryz.func62 o 11 o o λF=>?_
 refine gE λu W hp=>?_
 subst hp
 refine bv h (λc=>[(0,ptr u 0)]) (λc=>[Res.disk PP dI (.pointer (some ⟨u,0,none⟩)) c]) (λC h=>?_) λc h=>?_
 ·refine zu<|q 3 [(0,ptr u 0),(4,ptr u 6)] [] o<|yl 0 f6 ty4 o o o tr o<|za<|rI h o (λhc h=>?_) λhc h=>?_
  ·refine zr<|p 1 [0,6] o<|cv (P:=PP) (I:=dI) (D:=f)<|cB h λV R h=>yC (Lo:=[]) (n2 (.pointer (some ⟨u,0,none⟩)) f [] _ R) (by kernel_rfl) (fO (is:=[0]) o) (.val o (.nilsl .nil)) o λ_=>?_
   exact za<|aa [0] o<|ah V () h o o
  exact zk<|zt<|cv (P:=PP) (I:=dI) (D:=f)<|aa [0] o<|ah f () h o o
 refine Ah λH=>?_
 refine zr<|q 3 [(10,ptr u 5)] [] o<|st 0 f5 ty4 o o o o tr<|zn<|cv (P:=PP) (I:=dI) (D:=(c.1,c.2.1,c.2.2.1,c.2.2.2.1,c.2.2.2.2.1,false,c.2.2.2.2.2.2)) ?_
 cases h
 exact dV o (λ_=>aH [] .nil) ((.cons_cons _ .slnil))
theorem rK(r)(h:ij=some r):FnT PP bF 12 [] [] (λ_=>tb r) (λ_=>[]):=by
 unfold ij at h
 refine gP Tryz.func12 o 137 o o λF hT=>?_
 refine zu<|q 1 [] [] o<|zz<|cB h λG b5 h=>gx (Lo:=[]) (xS 100000 _ b5) (by kernel_rfl) (List.Perm.refl _) o o λc=>?_
 refine q 5 [(1,tp (aC c 0)),(2,ti G.1)] [] o<|za<|zs<|zu<|p 1 [1,2,18] o<|y (Dn 0 o o Tryz.underlying42) o ?_
 refine q 1 [(20,tb (G.1 !=0))] [1,2] o ?_
 obtain⟨b3,e,h⟩:=ak h;rw[e]
 refine aJ 3 [(1,tp (aC c 0)),(23,tb (b3||(G.1 !=0)))] [Res.diskif PP dI (aC c 0) G.2 G.1] (?_) ?_
 ·clear h
  cases b3
  ·exact q 3 [(23,tb (G.1 !=0))] [1] o<|aa [1,23] o<|za<|ao () o o
  exact p 3 [1,23] o<|za<|ao () o o
 refine za<|rI h o (λhc h=>zu<|q 1 [(0,tb false)] [] o<|zf<|zT<|by cases h;exact aB o (.tmp o)) λhc h=>zy<|q 1 [(1,tp (aC c 0)),(25,tp (aC c 0))] [] o<|cB h λr4 b6 h=>av (mp _ b6) (ca o) o o ?_
 obtain⟨b7,h⟩:=cr h
 refine az (R':=Res.disk PP dI (aC c 0) G.2) 0 o (xL b7)<|cB h λM c0 h=>rcT hT [0] (rT _ _ _ _ c0) (ca o) o o o λu=>q 5 [(2,ti M.2.1),(3,tp (aC u 0))] [1] o<|za<|zs<|zu<|p 1 [1,2,3,30] o<|y (Av 1 o o Tryz.underlying45) o ?_
 refine q 1 [(32,tb (M.1.1 !=0))] [1,2,3] o ?_
 obtain⟨Z,e,h⟩:=ak h;rw[e]
 refine aJ 3 [(1,tp (aC c 0)),(3,tp (aC u 0)),(35,tb (Z||(M.2.1 !=0)))] [Res.disk PP dI (aC c 0) M.2.2,Res.clsif (bP (aC c 0)) (aC u 0) M.1.2 M.1.1] (?_) ?_
 ·clear h
  cases Z
  ·exact q 3 [(35,tb (M.2.1 !=0))] [1,3] o<|aa [1,3,35] o<|za<|ao () o o
  exact p 3 [1,3,35] o<|za<|ao () o o
 refine q 1 [(1,tp (aC c 0)),(3,tp (aC u 0)),(36,tb (Z||(M.2.1 !=0)))] [] o ?_
 obtain⟨b9,e,h⟩:=ak h;rw[e]
 refine bL h 4 (λm=>[(1,tp (aC c 0)),(3,tp (aC u 0)),(40,tb m)]) (λ_=>[Res.disk PP dI (aC c 0) M.2.2,Res.clsif (bP (aC c 0)) (aC u 0) M.1.2 M.1.1]) (λe6 h=>?_) λm h=>?_
 ·cases b9
  ·replace h:=ifF h
   refine p 1 [1,3,36,37] o<|ap (by rfl) o ?_
   obtain⟨a6,h⟩:=cr h
   exact az (R':=Res.cls (bP (aC c 0)) (aC u 0) M.1.2) 1 o (dW a6)<|cB h λc1 c2 h=>rc [1,0] (rX _ _ _ _ _ c2) (ca o) o o o λ_=>p 2 [1,3,40] o<|zn<|aa [1,3,40] o<|az (R':=Res.clsif (bP (aC c 0)) (aC u 0) M.1.2 M.1.1) 0 o (cY a6)<|nL o<|pk [1,0] o<|zt<|ah (c1 !=(-1)) () h o o
  replace h:=ifT h
  exact p 4 [1,3,40] o<|zn<|aa [1,3,40] o<|zt<|ah true () h o o
 refine q 1 [(1,tp (aC c 0)),(3,tp (aC u 0)),(41,tb m)] [] o<|bL h 5 (λO=>[(1,tp (aC c 0)),(3,tp (aC u 0)),(46,tb O)]) (λ_=>[Res.disk PP dI (aC c 0) M.2.2,Res.clsif (bP (aC c 0)) (aC u 0) M.1.2 M.1.1]) (λe7 h=>?_) λO h=>?_
 ·cases m
  ·replace h:=ifF h
   refine p 1 [1,3,41,42] o<|ap (by rfl) o ?_
   obtain⟨a7,h⟩:=cr h
   refine az (R':=Res.cls (bP (aC c 0)) (aC u 0) M.1.2) 1 o (dW a7)<|cB h λa8 c3 h=>rc [1,0] (iA _ _ _ _ _ c3) (ca o) o o o λ_=>ap (by rfl) o ?_
   refine y (sX f2 o o (ag (ag (ay ab))) zI o o ty2) o ?_
   exact q 2 [(46,tb (a8.2.2.1 !=700))] [1,3] o<|zn<|aa [1,3,46] o<|az (R':=Res.clsif (bP (aC c 0)) (aC u 0) M.1.2 M.1.1) 0 o (cY a7)<|nL o<|pk [1,0] o<|zt<|ah (a8.2.2.1 !=700) () h o o
  replace h:=ifT h
  exact p 5 [1,3,46] o<|zn<|aa [1,3,46] o<|zt<|ah true () h o o
 refine q 1 [(1,tp (aC c 0)),(3,tp (aC u 0)),(47,tb O)] [] o<|bL h 6 (λa9=>[(1,tp (aC c 0)),(3,tp (aC u 0)),(53,tb a9)]) (λ_=>[Res.disk PP dI (aC c 0) M.2.2,Res.clsif (bP (aC c 0)) (aC u 0) M.1.2 M.1.1]) (λe8 h=>?_) λa9 h=>?_
 ·cases O
  ·replace h:=ifF h
   refine p 1 [1,3,47,48] o<|ap (by rfl) o ?_
   obtain⟨b0,h⟩:=cr h
   refine az (R':=Res.cls (bP (aC c 0)) (aC u 0) M.1.2) 1 o (dW b0)<|cB h λb1 c4 h=>rc [1,0] (iA _ _ _ _ _ c4) (ca o) o o o λ_=>ap (by rfl) o ?_
   refine y (sX f4 o o (ag (ag (ag (ag (ay ab))))) zI o o jI) o ?_
   exact q 3 [(53,tb ((List.length b1.2.2.2.2.1:Int) !=0))] [1,3] o<|zn<|aa [1,3,53] o<|az (R':=Res.clsif (bP (aC c 0)) (aC u 0) M.1.2 M.1.1) 0 o (cY b0)<|nL o<|pk [1,0] o<|zt<|ah ((List.length b1.2.2.2.2.1:Int) !=0) () h o o
  replace h:=ifT h
  exact p 6 [1,3,53] o<|zn<|aa [1,3,53] o<|zt<|ah true () h o o
 refine za<|rI h o (λhc h=>zu<|q 1 [(0,tb false)] [] o<|zf<|zT<|by cases h;exact aB o (.tmp o)) λhc h=>zy<|q 1 [(1,tp (aC c 0)),(3,tp (aC u 0)),(54,tp (aC u 0))] [] o<|cB h λe9 c5 h=>av (jf _ _ c5) (ca o) o o<|bE (B:=232) ai o zH o o o (.cons o .nil) o λf0=>?_
 obtain⟨c6,h⟩:=cr h
 refine az (R':=Res.cls (bP (aC c 0)) (aC u 0) M.1.2) 2 o (dW c6)<|kK (i:=0) (k:=56) o o ?_
 refine cB h λd c7 h=>rcT hT [1,0] (jv _ _ _ _ _ _ c7) (ca o) o o o λ_=>q 1 [(4,ti d.1)] [1,3] o<|zz<|p 1 [1,3,4,58] o<|cB h λf3 c8 h=>av (jf _ _ c8) (ca o) o o<|bE (B:=232) ai o zH o o o (.cons o .nil) o λf5=>?_
 refine kK (i:=0) (k:=60) o o ?_
 refine cB h λN c9 h=>rcT hT [0,0] (jv _ _ _ _ _ _ c9) (ca o) o o o λ_=>q 1 [(5,ti N.1)] [1,3,4] o<|zz<|p 1 [1,3,4,5,62] o<|cB h λH d0 h=>rcT hT [0,0] (oK _ _ _ _ _ d0) (ca o) o o o λ_=>q 1 [(6,ti H.1)] [1,3,4,5] o<|zz<|p 1 [1,3,4,5,6,64] o<|cB h λf6 d1 h=>av (jf _ _ d1) (ca o) o o<|bE (B:=232) ai o zH o o o (.cons o .nil) o λf7=>?_
 refine kK (i:=0) (k:=66) o o ?_
 refine cB h λC d2 h=>rcT hT [0,0] (jv _ _ _ _ _ _ d2) (ca o) o o o λ_=>q 1 [(7,ti C.1)] [1,3,4,5,6] o<|zz<|p 1 [1,3,4,5,6,7,68] o<|cB h λf8 d3 h=>rc [1] (tF _ _ _ _ d3) (ca o) o o o λ_=>zz<|p 1 [1,4,5,6,7,70] o<|cB h λf9 d4 h=>av (jf _ _ d4) (ca o) o o<|bE (B:=232) ai o zH o o o (.cons o .nil) o λg0=>?_
 refine kK (i:=0) (k:=72) o o ?_
 refine cB h λV d5 h=>rcT hT [1,0] (jv _ _ _ _ _ _ d5) (ca o) o o o λ_=>q 1 [(8,ti V.1)] [1,4,5,6,7] o<|zz<|p 1 [1,4,5,6,7,8,74] o<|cB h λg1 d6 h=>yC (Lo:=[Res.cls (bP (aC c 0)) (aC u 0) V.2.1]) (n2 (aC c 0) V.2.2 [] _ d6) (by kernel_rfl) (fO (is:=[1]) o) (.val o (.nilsl .nil)) o λ_=>?_
 refine zz<|p 1 [1,4,5,6,7,8,76] o<|cB h λg2 d7 h=>rc [0] (u6 _ _ _ d7) (ca o) o o o λ_=>zz<|q 1 [(4,ti d.1),(5,ti N.1),(6,ti H.1),(7,ti C.1),(8,ti V.1),(79,tp (aC c 0))] [] o<|cB h λg3 d8 h=>av (mp _ d8) (ca o) o o<|cB h λf d9 h=>rcT hT [0] (rT _ _ _ _ d9) (ca o) o o o λR=>q 5 [(9,tp (aC R 0)),(10,ti f.2.1)] [4,5,6,7,8] o<|za<|zs<|zu ?_
 refine p 1 [4,5,6,7,8,9,10,84] o<|y (Av 1 o o Tryz.underlying45) o ?_
 refine q 1 [(86,tb (f.1.1 !=0))] [4,5,6,7,8,9,10] o ?_
 obtain⟨a0,e,h⟩:=ak h;rw[e]
 refine aJ 3 [(5,ti N.1),(6,ti H.1),(7,ti C.1),(8,ti V.1),(9,tp (aC R 0)),(10,ti f.2.1),(89,tb (a0||(d.1 !=0)))] [Res.disk PP dI (aC c 0) f.2.2,Res.clsif (bP (aC c 0)) (aC R 0) f.1.2 f.1.1,Res.cls (bP (aC c 0)) (aC u 0) V.2.1] (?_) ?_
 ·clear h
  cases a0
  ·exact q 3 [(89,tb (d.1 !=0))] [5,6,7,8,9,10] o<|aa [5,6,7,8,9,10,89] o<|za<|ao () o o
  exact p 3 [5,6,7,8,9,10,89] o<|za<|ao () o o
 refine q 1 [(5,ti N.1),(6,ti H.1),(7,ti C.1),(8,ti V.1),(9,tp (aC R 0)),(10,ti f.2.1),(90,tb (a0||(d.1 !=0)))] [] o ?_
 obtain⟨a1,e,h⟩:=ak h;rw[e]
 refine aJ 3 [(6,ti H.1),(7,ti C.1),(8,ti V.1),(9,tp (aC R 0)),(10,ti f.2.1),(93,tb (a1||(N.1 !=170)))] [Res.disk PP dI (aC c 0) f.2.2,Res.clsif (bP (aC c 0)) (aC R 0) f.1.2 f.1.1,Res.cls (bP (aC c 0)) (aC u 0) V.2.1] (?_) ?_
 ·clear h
  cases a1
  ·exact q 3 [(93,tb (N.1 !=170))] [6,7,8,9,10] o<|aa [6,7,8,9,10,93] o<|za<|ao () o o
  exact p 3 [6,7,8,9,10,93] o<|za<|ao () o o
 refine q 1 [(6,ti H.1),(7,ti C.1),(8,ti V.1),(9,tp (aC R 0)),(10,ti f.2.1),(94,tb (a1||(N.1 !=170)))] [] o ?_
 obtain⟨a2,e,h⟩:=ak h;rw[e]
 refine aJ 3 [(7,ti C.1),(8,ti V.1),(9,tp (aC R 0)),(10,ti f.2.1),(97,tb (a2||(H.1 !=0)))] [Res.disk PP dI (aC c 0) f.2.2,Res.clsif (bP (aC c 0)) (aC R 0) f.1.2 f.1.1,Res.cls (bP (aC c 0)) (aC u 0) V.2.1] (?_) ?_
 ·clear h
  cases a2
  ·exact q 3 [(97,tb (H.1 !=0))] [7,8,9,10] o<|aa [7,8,9,10,97] o<|za<|ao () o o
  exact p 3 [7,8,9,10,97] o<|za<|ao () o o
 refine q 1 [(7,ti C.1),(8,ti V.1),(9,tp (aC R 0)),(10,ti f.2.1),(98,tb (a2||(H.1 !=0)))] [] o ?_
 obtain⟨a3,e,h⟩:=ak h;rw[e]
 refine aJ 3 [(8,ti V.1),(9,tp (aC R 0)),(10,ti f.2.1),(101,tb (a3||(C.1 !=0)))] [Res.disk PP dI (aC c 0) f.2.2,Res.clsif (bP (aC c 0)) (aC R 0) f.1.2 f.1.1,Res.cls (bP (aC c 0)) (aC u 0) V.2.1] (?_) ?_
 ·clear h
  cases a3
  ·exact q 3 [(101,tb (C.1 !=0))] [8,9,10] o<|aa [8,9,10,101] o<|za<|ao () o o
  exact p 3 [8,9,10,101] o<|za<|ao () o o
 refine q 1 [(8,ti V.1),(9,tp (aC R 0)),(10,ti f.2.1),(102,tb (a3||(C.1 !=0)))] [] o ?_
 obtain⟨a4,e,h⟩:=ak h;rw[e]
 refine aJ 3 [(9,tp (aC R 0)),(10,ti f.2.1),(105,tb (a4||(V.1 !=9)))] [Res.disk PP dI (aC c 0) f.2.2,Res.clsif (bP (aC c 0)) (aC R 0) f.1.2 f.1.1,Res.cls (bP (aC c 0)) (aC u 0) V.2.1] (?_) ?_
 ·clear h
  cases a4
  ·exact q 3 [(105,tb (V.1 !=9))] [9,10] o<|aa [9,10,105] o<|za<|ao () o o
  exact p 3 [9,10,105] o<|za<|ao () o o
 refine q 1 [(9,tp (aC R 0)),(10,ti f.2.1),(106,tb (a4||(V.1 !=9)))] [] o ?_
 obtain⟨b2,e,h⟩:=ak h;rw[e]
 refine aJ 3 [(9,tp (aC R 0)),(109,tb (b2||(f.2.1 !=0)))] [Res.disk PP dI (aC c 0) f.2.2,Res.clsif (bP (aC c 0)) (aC R 0) f.1.2 f.1.1,Res.cls (bP (aC c 0)) (aC u 0) V.2.1] (?_) ?_
 ·clear h
  cases b2
  ·exact q 3 [(109,tb (f.2.1 !=0))] [9] o<|aa [9,109] o<|za<|ao () o o
  exact p 3 [9,109] o<|za<|ao () o o
 refine za<|rI h o (λhc h=>zu<|q 1 [(0,tb false)] [] o<|zf<|zT<|by cases h;exact aB o (.tmp o)) λhc h=>zy<|cB h λW e0 h=>av (iW _ _ e0) (ca o) o o<|q 4 [(9,tp (aC R 0)),(112,ti W.1),(113,.one Y30 W.2.1),(114,ti W.2.2)] [] o<|aD (t:=Y30) o gk o λw=>q 1 [(11,ti W.1),(12,ptr w 0)] [9,113,114] o<|st 0 .here bW o o o o tr<|q 1 [(13,ti W.2.2)] [9,11] o<|zz<|p 1 [9,11,13,115] o ?_
 obtain⟨e1,h⟩:=cr h
 refine az (R':=Res.cls (bP (aC c 0)) (aC R 0) f.1.2) 2 o (dW e1)<|nL o<|cB h λe2 e3 h=>rc [2,1] (iA _ _ _ _ _ e3) (ca o) o o o λ_=>y (sX f4 o o (ag (ag (ag (ag (ay ab))))) zI o o jI) o ?_
 refine q 3 [(120,tb ((List.length e2.2.2.2.2.1:Int)==2))] [9,11,13] o ?_
 obtain⟨e4,e,h⟩:=ak h;rw[e]
 refine bL h 8 (λJ=>[(11,ti W.1),(13,ti W.2.2),(128,tb J)]) (λ_=>[Res.cls (bP (aC c 0)) (aC R 0) f.1.2,Res.disk PP dI (aC c 0) f.2.2,Res.var w 30 Y30 W.2.1,Res.cls (bP (aC c 0)) (aC u 0) V.2.1]) (λg4 h=>?_) λJ h=>?_
 ·cases e4
  ·replace h:=ifF h
   exact p 8 [11,13,128] o<|zn<|aa [11,13,128] o<|zt<|ah false () h o o
  replace h:=ifT h
  refine p 1 [11,13,120,121] o<|ap (by rfl) o ?_
  refine cB h λb4 e5 h=>rc [0,0] (iA _ _ _ _ _ e5) (ca o) o o o λ_=>ap (by rfl) o ?_
  refine y (sX f4 o o (ag (ag (ag (ag (ay ab))))) zI o o jI) o ?_
  refine ap (by rfl) o ?_
  refine iE h λhc h=>y (ff ai o o hc.1 hc.2 o bI) o ?_
  refine ap (by rfl) o ?_
  refine y (wF ai f1 o o o o (ag (ay ab))) o ?_
  refine ap (by rfl) o ?_
  refine y (ga o ty2) o ?_
  exact q 2 [(128,tb (((List.getD b4.2.2.2.2.1 1 (0,0,0,z32,[],())).2.1)==1))] [11,13] o<|zn<|aa [11,13,128] o<|zt<|ah (((List.getD b4.2.2.2.2.1 1 (0,0,0,z32,[],())).2.1)==1) () h o o
 refine q 1 [(11,ti W.1),(13,ti W.2.2),(129,tb J)] [] o<|aJ 3 [(13,ti W.2.2),(132,tb (J&&(W.1==0)))] [Res.cls (bP (aC c 0)) (aC R 0) f.1.2,Res.disk PP dI (aC c 0) f.2.2,Res.var w 30 Y30 W.2.1,Res.cls (bP (aC c 0)) (aC u 0) V.2.1] (?_) ?_
 ·clear h
  cases J
  ·exact p 3 [13,132] o<|za<|ao () o o
  exact q 3 [(132,tb (W.1==0))] [13] o<|aa [13,132] o<|za<|ao () o o
 refine q 1 [(13,ti W.2.2),(133,tb (J&&(W.1==0)))] [] o ?_
 obtain⟨a5,e,h⟩:=ak h;rw[e]
 refine aJ 3 [(136,tb (a5&&(W.2.2==210)))] [Res.cls (bP (aC c 0)) (aC R 0) f.1.2,Res.disk PP dI (aC c 0) f.2.2,Res.var w 30 Y30 W.2.1,Res.cls (bP (aC c 0)) (aC u 0) V.2.1] (?_) ?_
 ·clear h
  cases a5
  ·exact q 3 [(136,tb false)] [] o<|aa [136] o<|za<|ao () o o
  exact q 3 [(136,tb (W.2.2==210))] [] o<|aa [136] o<|za<|ao () o o
 refine q 1 [(0,tb (a5&&(W.2.2==210)))] [] o<|zf ?_
 cases h
 exact aB o (.tmp o)
theorem m6(c u r)(h:gK c u=some r):bn PP 58 [.one W65 c,.one W65 u] (tb r):=by
 unfold gK at h
 refine enter Tryz.func58 o 26 o o λF=>?_
 refine zu<|q 1 [(0,.one W65 c),(1,.one W65 u)] [] o<|za<|zs<|zu<|q 5 [(10,tb ((List.length c:Int) !=(List.length u:Int)))] [0,1] o<|za<|rI h o (λhc h=>zu<|q 1 [(4,tb false)] [] o<|zf<|zT<|by cases h;exact aB o (.tmp o)) λhc h=>zk<|zt<|bv h (λM=>[]) (λM=>[]) (λR h=>?_) λM h=>?_
 ·refine zu<|p 1 [0,1,5] o<|za<|zb<|aa [0,1,5] o<|aY (γ:=Unit) (λ(f:Int) _=>[(0,.one W65 c),(1,.one W65 u),(5,ti f)]) (λ(f:Int) _=>[]) (eV c u R) 0 () h o o ?_
  clear h
  intro V f gg h
  cases V with
  |zero=>cases h
  |succ V=>
  simp only[eV]at h
  refine zs<|zu<|q 4 [(5,ti f),(14,tb (decide (f<(List.length c:Int))))] [0,1] o<|za<|rI h o (λhc h=>?_) λhc h=>?_
  ·refine zk<|zt<|zs<|zb<|zs<|eE (by kernel_rfl) (by kernel_rfl) ?_
   refine aA ai 2 [0,1,5,17,18] (E':=[(0,.one W65 c),(1,.one W65 u),(5,ti f),(17,.one W65 c),(18,ti f)]) o ?_
   refine iE h λhc h=>q_y (ff ai o o hc.1 hc.2 o bI) o ?_
   refine q_y (ga o bI) o ?_
   refine aA ai 2 [0,1,5,20,21,22] (E':=[(0,.one W65 c),(1,.one W65 u),(5,ti f),(20,.one Y52 (List.getD c (Int.toNat f) (0,0,0,z32,[],()))),(21,.one W65 u),(22,ti f)]) o ?_
   refine iE h λhc h=>q_y (ff ai o o hc.1 hc.2 o bI) o ?_
   refine q_y (ga o bI) o ?_
   refine q_y (nA 20 o o o o bI o B1 B3) o ?_
   refine eX ?_
   refine zt<|rI h o (λhc h=>zu<|q 1 [(4,tb false)] [] o<|zf<|zB<|zT<|zT<|zB<|zT<|by cases h;exact aB o (.tmp o)) λhc h=>zk<|zi<|zt<|zr<|p 3 [0,1,5] o ?_
   obtain⟨W,e,h⟩:=ak h;rw[e]
   exact za<|aa [0,1,5] o<|aR W () (Nat.lt_succ_self _) h o o
  exact zx<|ze<|ze<|zq<|zt<|aa [] o<|ah () () h o o
 refine zu<|q 1 [(4,tb true)] [] o<|zf ?_
 cases h
 exact aB o (.tmp o)
theorem kR(c u r)(h:cQ c u=some r):bn PP 11 [.one Y30 c,.one Y30 u] (tb r):=by
 unfold cQ at h
 refine enter Tryz.func11 o 148 o o λF=>?_
 refine zu<|bD o o λM=>bD o o λf=>q 1 [(2,ptr M 0),(3,ptr f 0)] [] o<|za<|zs<|zu<|p 1 [2,3,6] o<|yl 1 f0 ty3 o o o tr o<|q 1 [(7,ti c.1),(8,ptr f 0)] [2,3] o<|yl 0 f0 ty3 o o o tr o<|q 2 [(11,tb (c.1 !=u.1))] [2,3] o ?_
 obtain⟨R,e,h⟩:=ak h;rw[e]
 refine aJ 6 [(2,ptr M 0),(3,ptr f 0),(17,tb (R||(c.2.1 !=u.2.1)))] [Res.var f 30 Y30 u,Res.var M 30 Y30 c] (?_) ?_
 ·clear h
  cases R
  ·refine p 1 [2,3,11,12] o<|ap (by rfl) o ?_
   refine yl 1 f1 ty2 o o o tr o<|q 1 [(13,ti c.2.1),(14,ptr f 1)] [2,3,11] o<|ap (by rfl) o ?_
   exact yl 0 f1 ty2 o o o tr o<|q 2 [(17,tb (c.2.1 !=u.2.1))] [2,3] o<|aa [2,3,17] o<|za<|ao () o o
  exact p 6 [2,3,17] o<|za<|ao () o o
 refine q 1 [(2,ptr M 0),(3,ptr f 0),(18,tb (R||(c.2.1 !=u.2.1)))] [] o ?_
 obtain⟨W,e,h⟩:=ak h;rw[e]
 refine aJ 6 [(2,ptr M 0),(3,ptr f 0),(24,tb (W||(c.2.2.1 !=u.2.2.1)))] [Res.var f 30 Y30 u,Res.var M 30 Y30 c] (?_) ?_
 ·clear h
  cases W
  ·refine p 1 [2,3,18,19] o<|ap (by rfl) o ?_
   refine yl 1 f2 ty2 o o o tr o<|q 1 [(20,ti c.2.2.1),(21,ptr f 2)] [2,3,18] o<|ap (by rfl) o ?_
   exact yl 0 f2 ty2 o o o tr o<|q 2 [(24,tb (c.2.2.1 !=u.2.2.1))] [2,3] o<|aa [2,3,24] o<|za<|ao () o o
  exact p 6 [2,3,24] o<|za<|ao () o o
 refine q 1 [(2,ptr M 0),(3,ptr f 0),(25,tb (W||(c.2.2.1 !=u.2.2.1)))] [] o ?_
 obtain⟨C,e,h⟩:=ak h;rw[e]
 refine aJ 6 [(2,ptr M 0),(3,ptr f 0),(31,tb (C||(c.2.2.2.1 !=u.2.2.2.1)))] [Res.var f 30 Y30 u,Res.var M 30 Y30 c] (?_) ?_
 ·clear h
  cases C
  ·refine p 1 [2,3,25,26] o<|ap (by rfl) o ?_
   refine yl 1 f3 ty2 o o o tr o<|q 1 [(27,ti c.2.2.2.1),(28,ptr f 3)] [2,3,25] o<|ap (by rfl) o ?_
   exact yl 0 f3 ty2 o o o tr o<|q 2 [(31,tb (c.2.2.2.1 !=u.2.2.2.1))] [2,3] o<|aa [2,3,31] o<|za<|ao () o o
  exact p 6 [2,3,31] o<|za<|ao () o o
 refine q 1 [(2,ptr M 0),(3,ptr f 0),(32,tb (C||(c.2.2.2.1 !=u.2.2.2.1)))] [] o ?_
 obtain⟨H,e,h⟩:=ak h;rw[e]
 refine aJ 6 [(2,ptr M 0),(3,ptr f 0),(38,tb (H||(c.2.2.2.2.2.2.1 !=u.2.2.2.2.2.2.1)))] [Res.var f 30 Y30 u,Res.var M 30 Y30 c] (?_) ?_
 ·clear h
  cases H
  ·refine p 1 [2,3,32,33] o<|ap (by rfl) o ?_
   refine yl 1 f6 ty2 o o o tr o<|q 1 [(34,ti c.2.2.2.2.2.2.1),(35,ptr f 6)] [2,3,32] o<|ap (by rfl) o ?_
   exact yl 0 f6 ty2 o o o tr o<|q 2 [(38,tb (c.2.2.2.2.2.2.1 !=u.2.2.2.2.2.2.1))] [2,3] o<|aa [2,3,38] o<|za<|ao () o o
  exact p 6 [2,3,38] o<|za<|ao () o o
 refine q 1 [(2,ptr M 0),(3,ptr f 0),(39,tb (H||(c.2.2.2.2.2.2.1 !=u.2.2.2.2.2.2.1)))] [] o ?_
 obtain⟨G,e,h⟩:=ak h;rw[e]
 refine aJ 6 [(2,ptr M 0),(3,ptr f 0),(45,tb (G||(c.2.2.2.2.2.2.2.1 !=u.2.2.2.2.2.2.2.1)))] [Res.var f 30 Y30 u,Res.var M 30 Y30 c] (?_) ?_
 ·clear h
  cases G
  ·refine p 1 [2,3,39,40] o<|ap (by rfl) o ?_
   refine yl 1 f7 ty2 o o o tr o<|q 1 [(41,ti c.2.2.2.2.2.2.2.1),(42,ptr f 7)] [2,3,39] o<|ap (by rfl) o ?_
   exact yl 0 f7 ty2 o o o tr o<|q 2 [(45,tb (c.2.2.2.2.2.2.2.1 !=u.2.2.2.2.2.2.2.1))] [2,3] o<|aa [2,3,45] o<|za<|ao () o o
  exact p 6 [2,3,45] o<|za<|ao () o o
 refine q 1 [(2,ptr M 0),(3,ptr f 0),(46,tb (G||(c.2.2.2.2.2.2.2.1 !=u.2.2.2.2.2.2.2.1)))] [] o ?_
 obtain⟨N,e,h⟩:=ak h;rw[e]
 refine aJ 6 [(2,ptr M 0),(3,ptr f 0),(52,tb (N||(c.2.2.2.2.2.2.2.2.1 !=u.2.2.2.2.2.2.2.2.1)))] [Res.var f 30 Y30 u,Res.var M 30 Y30 c] (?_) ?_
 ·clear h
  cases N
  ·refine p 1 [2,3,46,47] o<|ap (by rfl) o ?_
   refine yl 1 f8 ty2 o o o tr o<|q 1 [(48,ti c.2.2.2.2.2.2.2.2.1),(49,ptr f 8)] [2,3,46] o<|ap (by rfl) o ?_
   exact yl 0 f8 ty2 o o o tr o<|q 2 [(52,tb (c.2.2.2.2.2.2.2.2.1 !=u.2.2.2.2.2.2.2.2.1))] [2,3] o<|aa [2,3,52] o<|za<|ao () o o
  exact p 6 [2,3,52] o<|za<|ao () o o
 refine q 1 [(2,ptr M 0),(3,ptr f 0),(53,tb (N||(c.2.2.2.2.2.2.2.2.1 !=u.2.2.2.2.2.2.2.2.1)))] [] o ?_
 obtain⟨J,e,h⟩:=ak h;rw[e]
 refine aJ 6 [(2,ptr M 0),(3,ptr f 0),(59,tb (J||(!eqD W44 c.2.2.2.2.2.2.2.2.2.1 u.2.2.2.2.2.2.2.2.2.1)))] [Res.var f 30 Y30 u,Res.var M 30 Y30 c] (?_) ?_
 ·clear h
  cases J
  ·refine p 1 [2,3,53,54] o<|ap (by rfl) o ?_
   refine yl 1 f9 fj o o o tr o<|q 1 [(55,.one Y24 c.2.2.2.2.2.2.2.2.2.1),(56,ptr f 9)] [2,3,53] o<|ap (by rfl) o ?_
   refine yl 0 f9 fj o o o tr o<|ap (by rfl) o ?_
   refine y (nA 20 o o o o fj o zK zL) o ?_
   exact q 1 [(59,tb (!eqD W44 c.2.2.2.2.2.2.2.2.2.1 u.2.2.2.2.2.2.2.2.2.1))] [2,3] o<|aa [2,3,59] o<|za<|ao () o o
  exact p 6 [2,3,59] o<|za<|ao () o o
 refine q 1 [(2,ptr M 0),(3,ptr f 0),(60,tb (J||(!eqD W44 c.2.2.2.2.2.2.2.2.2.1 u.2.2.2.2.2.2.2.2.2.1)))] [] o ?_
 obtain⟨d,e,h⟩:=ak h;rw[e]
 refine aJ 6 [(2,ptr M 0),(3,ptr f 0),(66,tb (d||(!eqD W44 c.2.2.2.2.2.2.2.2.2.2.1 u.2.2.2.2.2.2.2.2.2.2.1)))] [Res.var f 30 Y30 u,Res.var M 30 Y30 c] (?_) ?_
 ·clear h
  cases d
  ·refine p 1 [2,3,60,61] o<|ap (by rfl) o ?_
   refine yl 1 f10 fj o o o tr o<|q 1 [(62,.one Y24 c.2.2.2.2.2.2.2.2.2.2.1),(63,ptr f 11)] [2,3,60] o<|ap (by rfl) o ?_
   refine yl 0 f10 fj o o o tr o<|ap (by rfl) o ?_
   refine y (nA 20 o o o o fj o zK zL) o ?_
   exact q 1 [(66,tb (!eqD W44 c.2.2.2.2.2.2.2.2.2.2.1 u.2.2.2.2.2.2.2.2.2.2.1))] [2,3] o<|aa [2,3,66] o<|za<|ao () o o
  exact p 6 [2,3,66] o<|za<|ao () o o
 refine q 1 [(2,ptr M 0),(3,ptr f 0),(67,tb (d||(!eqD W44 c.2.2.2.2.2.2.2.2.2.2.1 u.2.2.2.2.2.2.2.2.2.2.1)))] [] o ?_
 obtain⟨m,e,h⟩:=ak h;rw[e]
 refine aJ 6 [(2,ptr M 0),(3,ptr f 0),(73,tb (m||(!eqD W44 c.2.2.2.2.2.2.2.2.2.2.2.1 u.2.2.2.2.2.2.2.2.2.2.2.1)))] [Res.var f 30 Y30 u,Res.var M 30 Y30 c] (?_) ?_
 ·clear h
  cases m
  ·refine p 1 [2,3,67,68] o<|ap (by rfl) o ?_
   refine yl 1 f11 fj o o o tr o<|q 1 [(69,.one Y24 c.2.2.2.2.2.2.2.2.2.2.2.1),(70,ptr f 13)] [2,3,67] o<|ap (by rfl) o ?_
   refine yl 0 f11 fj o o o tr o<|ap (by rfl) o ?_
   refine y (nA 20 o o o o fj o zK zL) o ?_
   exact q 1 [(73,tb (!eqD W44 c.2.2.2.2.2.2.2.2.2.2.2.1 u.2.2.2.2.2.2.2.2.2.2.2.1))] [2,3] o<|aa [2,3,73] o<|za<|ao () o o
  exact p 6 [2,3,73] o<|za<|ao () o o
 refine q 1 [(2,ptr M 0),(3,ptr f 0),(74,tb (m||(!eqD W44 c.2.2.2.2.2.2.2.2.2.2.2.1 u.2.2.2.2.2.2.2.2.2.2.2.1)))] [] o ?_
 obtain⟨O,e,h⟩:=ak h;rw[e]
 refine aJ 6 [(2,ptr M 0),(3,ptr f 0),(80,tb (O||(c.2.2.2.2.2.2.2.2.2.2.2.2.1 !=u.2.2.2.2.2.2.2.2.2.2.2.2.1)))] [Res.var f 30 Y30 u,Res.var M 30 Y30 c] (?_) ?_
 ·clear h
  cases O
  ·refine p 1 [2,3,74,75] o<|ap (by rfl) o ?_
   refine yl 1 f12 ty4 o o o tr o<|q 1 [(76,tb c.2.2.2.2.2.2.2.2.2.2.2.2.1),(77,ptr f 15)] [2,3,74] o<|ap (by rfl) o ?_
   refine yl 0 f12 ty4 o o o tr o<|ap (by rfl) o ?_
   refine y (DR o o Tryz.underlying4) o ?_
   exact q 1 [(80,tb (c.2.2.2.2.2.2.2.2.2.2.2.2.1 !=u.2.2.2.2.2.2.2.2.2.2.2.2.1))] [2,3] o<|aa [2,3,80] o<|za<|ao () o o
  exact p 6 [2,3,80] o<|za<|ao () o o
 refine q 1 [(2,ptr M 0),(3,ptr f 0),(81,tb (O||(c.2.2.2.2.2.2.2.2.2.2.2.2.1 !=u.2.2.2.2.2.2.2.2.2.2.2.2.1)))] [] o ?_
 obtain⟨w,e,h⟩:=ak h;rw[e]
 refine aJ 6 [(2,ptr M 0),(3,ptr f 0),(87,tb (w||(!eqD W49 c.2.2.2.2.2.2.2.2.2.2.2.2.2.1 u.2.2.2.2.2.2.2.2.2.2.2.2.2.1)))] [Res.var f 30 Y30 u,Res.var M 30 Y30 c] (?_) ?_
 ·clear h
  cases w
  ·refine p 1 [2,3,81,82] o<|ap (by rfl) o ?_
   refine yl 1 f13 xn o o o tr o<|q 1 [(83,.one W49 c.2.2.2.2.2.2.2.2.2.2.2.2.2.1),(84,ptr f 16)] [2,3,81] o<|ap (by rfl) o ?_
   refine yl 0 f13 xn o o o tr o<|ap (by rfl) o ?_
   refine y (nA 20 o o o o xn o E9 Fa) o ?_
   exact q 1 [(87,tb (!eqD W49 c.2.2.2.2.2.2.2.2.2.2.2.2.2.1 u.2.2.2.2.2.2.2.2.2.2.2.2.2.1))] [2,3] o<|aa [2,3,87] o<|za<|ao () o o
  exact p 6 [2,3,87] o<|za<|ao () o o
 refine q 1 [(2,ptr M 0),(3,ptr f 0),(88,tb (w||(!eqD W49 c.2.2.2.2.2.2.2.2.2.2.2.2.2.1 u.2.2.2.2.2.2.2.2.2.2.2.2.2.1)))] [] o ?_
 obtain⟨Z,e,h⟩:=ak h;rw[e]
 refine aJ 6 [(2,ptr M 0),(3,ptr f 0),(94,tb (Z||(!eqD W55 c.2.2.2.2.2.2.2.2.2.2.2.2.2.2.1 u.2.2.2.2.2.2.2.2.2.2.2.2.2.2.1)))] [Res.var f 30 Y30 u,Res.var M 30 Y30 c] (?_) ?_
 ·clear h
  cases Z
  ·refine p 1 [2,3,88,89] o<|ap (by rfl) o ?_
   refine yl 1 f14 bK o o o tr o<|q 1 [(90,.one W55 c.2.2.2.2.2.2.2.2.2.2.2.2.2.2.1),(91,ptr f 80)] [2,3,88] o<|ap (by rfl) o ?_
   refine yl 0 f14 bK o o o tr o<|ap (by rfl) o ?_
   refine y (nA 20 o o o o bK o ui uj) o ?_
   exact q 1 [(94,tb (!eqD W55 c.2.2.2.2.2.2.2.2.2.2.2.2.2.2.1 u.2.2.2.2.2.2.2.2.2.2.2.2.2.2.1))] [2,3] o<|aa [2,3,94] o<|za<|ao () o o
  exact p 6 [2,3,94] o<|za<|ao () o o
 refine q 1 [(2,ptr M 0),(3,ptr f 0),(95,tb (Z||(!eqD W55 c.2.2.2.2.2.2.2.2.2.2.2.2.2.2.1 u.2.2.2.2.2.2.2.2.2.2.2.2.2.2.1)))] [] o ?_
 obtain⟨a2,e,h⟩:=ak h;rw[e]
 refine aJ 6 [(2,ptr M 0),(3,ptr f 0),(101,tb (a2||(c.2.2.2.2.2.2.2.2.2.2.2.2.2.2.2.2.1 !=u.2.2.2.2.2.2.2.2.2.2.2.2.2.2.2.2.1)))] [Res.var f 30 Y30 u,Res.var M 30 Y30 c] (?_) ?_
 ·clear h
  cases a2
  ·refine p 1 [2,3,95,96] o<|ap (by rfl) o ?_
   refine yl 1 f16 ty3 o o o tr o<|q 1 [(97,ti c.2.2.2.2.2.2.2.2.2.2.2.2.2.2.2.2.1),(98,ptr f 113)] [2,3,95] o<|ap (by rfl) o ?_
   exact yl 0 f16 ty3 o o o tr o<|q 2 [(101,tb (c.2.2.2.2.2.2.2.2.2.2.2.2.2.2.2.2.1 !=u.2.2.2.2.2.2.2.2.2.2.2.2.2.2.2.2.1))] [2,3] o<|aa [2,3,101] o<|za<|ao () o o
  exact p 6 [2,3,101] o<|za<|ao () o o
 refine q 1 [(2,ptr M 0),(3,ptr f 0),(102,tb (a2||(c.2.2.2.2.2.2.2.2.2.2.2.2.2.2.2.2.1 !=u.2.2.2.2.2.2.2.2.2.2.2.2.2.2.2.2.1)))] [] o ?_
 obtain⟨a3,e,h⟩:=ak h;rw[e]
 refine aJ 6 [(2,ptr M 0),(3,ptr f 0),(108,tb (a3||(c.2.2.2.2.2.2.2.2.2.2.2.2.2.2.2.2.2.1 !=u.2.2.2.2.2.2.2.2.2.2.2.2.2.2.2.2.2.1)))] [Res.var f 30 Y30 u,Res.var M 30 Y30 c] (?_) ?_
 ·clear h
  cases a3
  ·refine p 1 [2,3,102,103] o<|ap (by rfl) o ?_
   refine yl 1 f17 ty2 o o o tr o<|q 1 [(104,ti c.2.2.2.2.2.2.2.2.2.2.2.2.2.2.2.2.2.1),(105,ptr f 114)] [2,3,102] o<|ap (by rfl) o ?_
   exact yl 0 f17 ty2 o o o tr o<|q 2 [(108,tb (c.2.2.2.2.2.2.2.2.2.2.2.2.2.2.2.2.2.1 !=u.2.2.2.2.2.2.2.2.2.2.2.2.2.2.2.2.2.1))] [2,3] o<|aa [2,3,108] o<|za<|ao () o o
  exact p 6 [2,3,108] o<|za<|ao () o o
 refine q 1 [(2,ptr M 0),(3,ptr f 0),(109,tb (a3||(c.2.2.2.2.2.2.2.2.2.2.2.2.2.2.2.2.2.1 !=u.2.2.2.2.2.2.2.2.2.2.2.2.2.2.2.2.2.1)))] [] o ?_
 obtain⟨a9,e,h⟩:=ak h;rw[e]
 refine bL h 8 (λa5=>[(2,ptr M 0),(3,ptr f 0),(117,tb a5)]) (λ_=>[Res.var f 30 Y30 u,Res.var M 30 Y30 c]) (λc3 h=>?_) λa5 h=>?_
 ·cases a9
  ·replace h:=ifF h
   refine p 1 [2,3,109,110] o<|ap (by rfl) o ?_
   refine yl 1 f15 ru o o o tr o<|q 2 [(112,ti (List.length c.2.2.2.2.2.2.2.2.2.2.2.2.2.2.2.1:Int)),(113,ptr f 112)] [2,3,109] o<|ap (by rfl) o ?_
   refine yl 0 f15 ru o o o tr o<|q 2 [(116,tb ((List.length c.2.2.2.2.2.2.2.2.2.2.2.2.2.2.2.1:Int) !=(List.length u.2.2.2.2.2.2.2.2.2.2.2.2.2.2.2.1:Int)))] [2,3,109] o ?_
   obtain⟨b0,e,h⟩:=ak h;rw[e]
   exact p 1 [2,3,117] o<|zn<|aa [2,3,117] o<|zt<|ah b0 () h o o
  replace h:=ifT h
  exact p 8 [2,3,117] o<|zn<|aa [2,3,117] o<|zt<|ah true () h o o
 refine za<|rI h o (λhc h=>zu<|q 1 [(4,tb false)] [] o<|zf<|zT<|by cases h;exact aB o (.tmp o)) λhc h=>zk<|zt<|bv h (λa6=>[(2,ptr M 0),(3,ptr f 0)]) (λa6=>[Res.var f 30 Y30 u,Res.var M 30 Y30 c]) (λb1 h=>?_) λa6 h=>?_
 ·refine zu<|q 1 [(2,ptr M 0),(3,ptr f 0),(5,ti 0)] [] o<|za<|zb<|aa [2,3,5] o<|aY (γ:=Unit) (λ(V:Int) _=>[(2,ptr M 0),(3,ptr f 0),(5,ti V)]) (λ(V:Int) _=>[Res.var f 30 Y30 u,Res.var M 30 Y30 c]) (dl c u b1) 0 () h o o ?_
  clear h
  intro a7 V gg h
  cases a7 with
  |zero=>cases h
  |succ a7=>
  simp only[dl]at h
  refine zs<|zu<|p 2 [2,3,5,118,119] o<|yl 1 f15 ru o o o tr o<|q 2 [(122,tb (decide (V<(List.length c.2.2.2.2.2.2.2.2.2.2.2.2.2.2.2.1:Int))))] [2,3,5] o<|za<|rI h o (λhc h=>?_) λhc h=>?_
  ·refine zk<|zt<|zs<|zb<|zs<|eE (by kernel_rfl) (by kernel_rfl) ?_
   refine aA ai 1 [2,3,5,125] (E':=[(2,ptr M 0),(3,ptr f 0),(5,ti V),(125,ptr M 112)]) o ?_
   refine q_y (aM 1 f15 o o o (ag (ag (ag (ag (ag (ag (ag (ag (ag (ag (ag (ag (ag (ag (ag (ay ab)))))))))))))))) ru) o ?_
   refine aA ai 1 [2,3,5,126,127] (E':=[(2,ptr M 0),(3,ptr f 0),(5,ti V),(126,.one W66 c.2.2.2.2.2.2.2.2.2.2.2.2.2.2.2.1),(127,ti V)]) o ?_
   refine iE h λhc h=>q_y (ff ai o o hc.1 hc.2 o ji) o ?_
   refine q_y (ga o ji) o ?_
   refine aA ai 1 [2,3,5,129,130] (E':=[(2,ptr M 0),(3,ptr f 0),(5,ti V),(129,.one Y56 (List.getD c.2.2.2.2.2.2.2.2.2.2.2.2.2.2.2.1 (Int.toNat V) (0,z32,false,()))),(130,ptr f 112)]) o ?_
   refine q_y (aM 0 f15 o o o (ag (ag (ag (ag (ag (ag (ag (ag (ag (ag (ag (ag (ag (ag (ag (ay ab)))))))))))))))) ru) o ?_
   refine aA ai 1 [2,3,5,129,131,132] (E':=[(2,ptr M 0),(3,ptr f 0),(5,ti V),(129,.one Y56 (List.getD c.2.2.2.2.2.2.2.2.2.2.2.2.2.2.2.1 (Int.toNat V) (0,z32,false,()))),(131,.one W66 u.2.2.2.2.2.2.2.2.2.2.2.2.2.2.2.1),(132,ti V)]) o ?_
   refine iE h λhc h=>q_y (ff ai o o hc.1 hc.2 o ji) o ?_
   refine q_y (ga o ji) o ?_
   refine q_y (nA 20 o o o o ji o Fb Fd) o ?_
   refine eX ?_
   refine zt<|rI h o (λhc h=>zu<|q 1 [(4,tb false)] [] o<|zf<|zB<|zT<|zT<|zB<|zT<|by cases h;exact aB o (.tmp o)) λhc h=>zk<|zi<|zt<|zr<|p 3 [2,3,5] o ?_
   obtain⟨b2,e,h⟩:=ak h;rw[e]
   exact za<|aa [2,3,5] o<|aR b2 () (Nat.lt_succ_self _) h o o
  exact zx<|ze<|ze<|zq<|zt<|aa [2,3] o<|ah () () h o o
 refine zu<|q 1 [(2,ptr M 0),(3,ptr f 0),(136,ptr M 4)] [] o<|yl 1 f4 jI o o o tr o<|q 1 [(137,.one W65 c.2.2.2.2.1),(138,ptr f 4)] [2,3] o<|yl 0 f4 jI o o o tr o<|cB h λc0 c1 h=>av (m6 _ _ _ c1) (ca o) o o<|p 1 [2,3,141] o<|bL h 6 (λa4=>[(147,tb a4)]) (λ_=>[Res.var f 30 Y30 u,Res.var M 30 Y30 c]) (λc4 h=>?_) λa4 h=>?_
 ·cases c0
  ·replace h:=ifF h
   exact q 6 [(147,tb false)] [] o<|zn<|aa [147] o<|zt<|ah false () h o o
  replace h:=ifT h
  refine p 1 [3,141,142] o<|ap (by rfl) o ?_
  refine yl 1 f5 jI o o o tr o<|q 1 [(143,.one W65 c.2.2.2.2.2.1),(144,ptr f 5)] [141] o<|ap (by rfl) o ?_
  refine yl 0 f5 jI o o o tr o<|ap (by rfl) o ?_
  exact cB h λa8 c2 h=>av (m6 _ _ _ c2) (ca o) o o<|q 1 [(147,tb a8)] [] o<|zn<|aa [147] o<|zt<|ah a8 () h o o
 refine q 1 [(4,tb a4)] [] o<|zf ?_
 cases h
 exact aB o (.tmp o)
theorem pd(H C f r)(h:fX H C f=some r):FnT PP bF 4 [ti H,.one Y30 C,ts f] [] (λ_=>tb r) (λ_=>[]):=by
 unfold fX at h
 refine gP Tryz.func4 o 121 o o λF hT=>?_
 refine zu<|bD o o λu=>q 1 [(0,ti H),(2,ts f),(4,ptr u 0)] [] o<|zz<|p 1 [0,2,4,24] o<|yl 0 .here bW o o o tr o<|cB h λc b0 h=>av (lm _ _ _ b0) (ca o) o o<|q 5 [(7,ts c.1),(8,ti c.2)] [0,2,4] o<|za<|zs<|zu<|cB h λr6 b1 h=>rcT hT [] (rK _ b1) (ca o) o o o λ_=>?_
 refine p 2 [0,2,4,7,8,31] o ?_
 obtain⟨b7,e,h⟩:=ak h;rw[e]
 refine bL h 11 (λo9=>[(0,ti H),(2,ts f),(4,ptr u 0),(7,ts c.1),(8,ti c.2),(42,tb o9)]) (λ_=>[Res.var u 30 Y30 C]) (λk8 h=>?_) λo9 h=>?_
 ·rcases Bool.eq_false_or_eq_true b7 with hh|hh
  ·rw[hh]at h⊢
   rw[if_pos o]at h
   exact p 11 [0,2,4,7,8,42] o<|zn<|aa [0,2,4,7,8,42] o<|zt<|ah true () h o o
  rw[hh]at h⊢
  rw[if_neg (by decide)]at h
  refine q 3 [(31,tb false),(34,tb (c.2 !=0))] [0,2,4,7,8] o ?_
  obtain⟨b2,e,h⟩:=ak h;rw[e]
  refine bL h 7 (λm=>[(0,ti H),(2,ts f),(4,ptr u 0),(7,ts c.1),(8,ti c.2),(31,tb false),(41,tb m)]) (λ_=>[Res.var u 30 Y30 C]) (λc5 h=>?_) λm h=>?_
  ·cases b2
   ·replace h:=ifF h
    exact p 7 [0,2,4,7,8,31,41] o<|zn<|aa [0,2,4,7,8,31,41] o<|zt<|ah false () h o o
   replace h:=ifT h
   refine q 3 [(34,tb true),(37,tb (c.2 !=210))] [0,2,4,7,8,31] o ?_
   obtain⟨O,e,h⟩:=ak h;rw[e]
   refine aJ 3 [(0,ti H),(2,ts f),(4,ptr u 0),(7,ts c.1),(8,ti c.2),(31,tb false),(34,tb true),(40,tb (O||(c.1 !=[])))] [Res.var u 30 Y30 C] (?_) ?_
   ·clear h
    cases O
    ·exact q 3 [(40,tb (c.1 !=[]))] [0,2,4,7,8,31,34] o<|aa [0,2,4,7,8,31,34,40] o<|za<|ao () o o
    exact p 3 [0,2,4,7,8,31,34,40] o<|za<|ao () o o
   exact q 1 [(0,ti H),(2,ts f),(4,ptr u 0),(7,ts c.1),(8,ti c.2),(31,tb false),(41,tb (O||(c.1 !=[])))] [] o<|zn<|aa [0,2,4,7,8,31,41] o<|zt<|ah (O||(c.1 !=[])) () h o o
  exact q 1 [(0,ti H),(2,ts f),(4,ptr u 0),(7,ts c.1),(8,ti c.2),(42,tb m)] [] o<|zn<|aa [0,2,4,7,8,42] o<|zt<|ah m () h o o
 refine za<|rI h o (λhc h=>zu<|q 1 [(6,tb false)] [] o<|zf<|zT<|by cases h;exact aB o (.tmp o)) λhc h=>zk<|zt<|bv h (λa7=>[(2,ts f)]) (λa7=>[Res.var u 30 Y30 C]) (λc6 h=>?_) λa7 h=>?_
 ·refine zu<|q 2 [(0,ti H),(2,ts f),(4,ptr u 0),(7,ts c.1),(44,tb (c.2==0))] [] o<|za<|rI h o (λhc h=>?_) λhc h=>?_
  ·refine zu<|q 1 [(46,ts c.1)] [0,2,4,7] o<|cB h λR b3 h=>av (iW _ _ b3) (ca o) o o<|q 4 [(48,ti R.1),(49,.one Y30 R.2.1),(50,ti R.2.2)] [0,2,4,7] o<|aD (t:=Y30) o gk o λG=>q 1 [(9,ti R.1),(10,ptr G 0)] [0,2,4,7,49,50] o<|st 0 .here bW o o o o tr<|q 1 [(11,ti R.2.2)] [0,2,4,7,9,10] o<|zz<|q 1 [(52,ts c.1)] [0,2,4,7,9,10,11] o<|iE h λhc h=>y (iX o o hc) o ?_
   refine cB h λV b5 h=>av (iW _ _ b5) (ca o) o o<|q 4 [(55,ti V.1),(56,.one Y30 V.2.1),(57,ti V.2.2)] [0,2,4,7,9,10,11] o<|aD (t:=Y30) o gk o λw=>p 1 [0,2,4,7,9,10,11,13,56,57] o<|st 0 .here bW o o o o tr<|nL o<|q 1 [(14,ti V.2.2)] [0,2,4,7,9,10,11] o<|zz<|q 4 [(59,ts c.1),(62,ti (wrap .i64 ((List.length c.1:Int) - 1)))] [0,2,4,9,10,11,14] o<|iE h λhc h=>y (iR (i:=(0:Int)) (j:=(wrap .i64 ((List.length c.1:Int) - 1))) ai o o o hc.1 hc.2.1 hc.2.2 o) o ?_
   refine cB h λM b6 h=>av (iW _ _ b6) (ca o) o o<|q 4 [(65,ti M.1),(66,.one Y30 M.2.1),(67,ti M.2.2)] [0,2,4,9,10,11,14] o<|aD (t:=Y30) o gk o λZ=>p 1 [0,2,4,9,10,11,14,16,66,67] o<|st 0 .here bW o o o o tr<|q 1 [(17,ti M.2.2)] [0,2,4,9,10,11,14] o<|zz<|q 4 [(2,ts f),(4,ptr u 0),(10,ptr G 0),(11,ti R.2.2),(14,ti V.2.2),(17,ti M.2.2),(71,tb (R.1 !=H))] [] o ?_
   obtain⟨a3,e,h⟩:=ak h;rw[e]
   refine aJ 3 [(2,ts f),(4,ptr u 0),(10,ptr G 0),(14,ti V.2.2),(17,ti M.2.2),(74,tb (a3||(R.2.2 !=0)))] [Res.var Z 30 Y30 M.2.1,Res.var w 30 Y30 V.2.1,Res.var G 30 Y30 R.2.1,Res.var u 30 Y30 C] (?_) ?_
   ·clear h
    cases a3
    ·exact q 3 [(74,tb (R.2.2 !=0))] [2,4,10,14,17] o<|aa [2,4,10,14,17,74] o<|za<|ao () o o
    exact p 3 [2,4,10,14,17,74] o<|za<|ao () o o
   refine q 1 [(2,ts f),(4,ptr u 0),(10,ptr G 0),(14,ti V.2.2),(17,ti M.2.2),(75,tb (a3||(R.2.2 !=0)))] [] o ?_
   obtain⟨b8,e,h⟩:=ak h;rw[e]
   refine bL h 5 (λN=>[(2,ts f),(14,ti V.2.2),(17,ti M.2.2),(80,tb N)]) (λ_=>[Res.var Z 30 Y30 M.2.1,Res.var w 30 Y30 V.2.1,Res.var G 30 Y30 R.2.1,Res.var u 30 Y30 C]) (λc7 h=>?_) λN h=>?_
   ·cases b8
    ·replace h:=ifF h
     refine ap (by rfl) o ?_
     refine yl 3 .here bW o o o tr o<|ap (by rfl) o ?_
     refine yl 2 .here bW o o o tr o<|ap (by rfl) o ?_
     exact cB h λb9 c0 h=>av (kR _ _ _ c0) (ca o) o o<|p 2 [2,14,17,80] o<|zn<|aa [2,14,17,80] o<|zt<|ah (!b9) () h o o
    replace h:=ifT h
    exact p 5 [2,14,17,80] o<|zn<|aa [2,14,17,80] o<|zt<|ah true () h o o
   refine q 1 [(2,ts f),(14,ti V.2.2),(17,ti M.2.2),(81,tb N)] [] o<|aJ 3 [(2,ts f),(17,ti M.2.2),(84,tb (N||(V.2.2 !=210)))] [Res.var Z 30 Y30 M.2.1,Res.var w 30 Y30 V.2.1,Res.var G 30 Y30 R.2.1,Res.var u 30 Y30 C] (?_) ?_
   ·clear h
    cases N
    ·exact q 3 [(84,tb (V.2.2 !=210))] [2,17] o<|aa [2,17,84] o<|za<|ao () o o
    exact p 3 [2,17,84] o<|za<|ao () o o
   refine q 1 [(2,ts f),(17,ti M.2.2),(85,tb (N||(V.2.2 !=210)))] [] o ?_
   obtain⟨a8,e,h⟩:=ak h;rw[e]
   refine aJ 3 [(2,ts f),(88,tb (a8||(M.2.2 !=210)))] [Res.var Z 30 Y30 M.2.1,Res.var w 30 Y30 V.2.1,Res.var G 30 Y30 R.2.1,Res.var u 30 Y30 C] (?_) ?_
   ·clear h
    cases a8
    ·exact q 3 [(88,tb (M.2.2 !=210))] [2] o<|aa [2,88] o<|za<|ao () o o
    exact p 3 [2,88] o<|za<|ao () o o
   exact za<|rI h o (λhc h=>zu<|q 1 [(6,tb false)] [] o<|zf<|zT<|by cases h;exact aB o (.tmp o)) λhc h=>zk<|zt<|pk [3] o<|aa [2] o<|ah () () h o o
  exact zk<|zt<|aa [2] o<|ah () () h o o
 refine zu<|q 1 [(2,ts f),(90,ts f)] [] o<|cB h λW c1 h=>av (iW _ _ c1) (ca o) o o<|q 4 [(92,ti W.1),(93,.one Y30 W.2.1),(94,ti W.2.2)] [2] o<|aD (t:=Y30) o gk o λJ=>q 1 [(18,ti W.1),(19,ptr J 0)] [2,93,94] o<|st 0 .here bW o o o o tr<|q 1 [(20,ti W.2.2)] [2,18,19] o<|za<|zs<|zu<|q 2 [(96,tb (W.2.2 !=0))] [2,18,19,20] o<|za ?_
 refine rI h o (λhc h=>?_) λhc h=>?_
 ·refine zu<|q 3 [(99,tb (W.2.2==210))] [18,19] o ?_
  obtain⟨a4,e,h⟩:=ak h;rw[e]
  refine aJ 3 [(19,ptr J 0),(102,tb (a4&&(W.1==0)))] [Res.var J 30 Y30 W.2.1,Res.var u 30 Y30 C] (?_) ?_
  ·clear h
   cases a4
   ·exact p 3 [19,102] o<|za<|ao () o o
   exact q 3 [(102,tb (W.1==0))] [19] o<|aa [19,102] o<|za<|ao () o o
  refine q 1 [(19,ptr J 0),(103,tb (a4&&(W.1==0)))] [] o ?_
  obtain⟨c2,e,h⟩:=ak h;rw[e]
  refine bL h 4 (λa5=>[(107,tb a5)]) (λ_=>[Res.var J 30 Y30 W.2.1,Res.var u 30 Y30 C]) (λc8 h=>?_) λa5 h=>?_
  ·cases c2
   ·replace h:=ifF h
    exact q 4 [(107,tb false)] [] o<|zn<|aa [107] o<|zt<|ah false () h o o
   replace h:=ifT h
   refine ap (by rfl) o ?_
   refine yl 0 .here bW o o o tr o<|ap (by rfl) o ?_
   refine y (bc o gk o o .nil) o ?_
   refine ap (by rfl) o ?_
   exact cB h λa9 c3 h=>av (kR _ _ _ c3) (ca o) o o<|q 1 [(107,tb a9)] [] o<|zn<|aa [107] o<|zt<|ah a9 () h o o
  refine q 1 [(6,tb a5)] [] o<|zf<|zT ?_
  cases h
  exact aB o (.tmp o)
 refine zy<|q 1 [(109,ti W.1)] [2,19] o<|yl 0 .here bW o o o tr o<|cB h λd c4 h=>av (lm _ _ _ c4) (ca o) o o<|q 5 [(21,ts d.1),(22,ti d.2)] [2] o<|zz<|q 3 [(116,tb (d.2==0))] [2,21] o ?_
 obtain⟨a6,e,h⟩:=ak h;rw[e]
 refine aJ 4 [(120,tb (a6&&(d.1==f)))] [Res.var J 30 Y30 W.2.1,Res.var u 30 Y30 C] (?_) ?_
 ·clear h
  cases a6
  ·exact q 4 [(120,tb false)] [] o<|aa [120] o<|za<|ao () o o
  exact q 4 [(120,tb (d.1==f))] [] o<|aa [120] o<|za<|ao () o o
 refine q 1 [(6,tb (a6&&(d.1==f)))] [] o<|zf ?_
 cases h
 exact aB o (.tmp o)
end Sx
