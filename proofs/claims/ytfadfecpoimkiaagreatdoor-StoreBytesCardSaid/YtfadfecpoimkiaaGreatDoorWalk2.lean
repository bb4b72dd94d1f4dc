/-
  Own work, printed by a program of the same hand. Each function of the code answers what its plain twin reckons.
-/
import Derived.Test.YtfadfecpoimkiaaGreatDoorWalk1
namespace Sx
open Go Go.Proofs Go.IntKind
set_option maxRecDepth 10000
set_option maxHeartbeats 1000000
attribute [local irreducible] wpList
theorem mc(u M r)(h:dN u M=some r):bw PP 11 [.one Y30 u,.one Y30 M] (tb r):=by
 unfold dN at h
 refine enter Tryz.func11 o 148 o o λF=>?_
 refine zu<|bI o o λc=>bI o o λf=>zA o<|zs<|zU 1 o<|yl 1 f0 ty3 o o o tr o<|zm 1 o<|yl 0 f0 ty3 o o o tr o<|q 2 [(2,ptr c 0),(3,ptr f 0),(11,tb (u.1 !=M.1))] [] o ?_
 obtain⟨R,e,h⟩:=aj h;rw[e]
 refine aH 6 [(2,ptr c 0),(3,ptr f 0),(17,tb (R||(u.2.1 !=M.2.1)))] [Res.var f 30 Y30 M,Res.var c 30 Y30 u] (?_) ?_
 ·clear h
  cases R
  ·refine zm 1 o<|al dl o ?_
   refine yl 1 f1 ty2 o o o tr o<|zm 1 o<|al dl o ?_
   exact yl 0 f1 ty2 o o o tr o<|zA o<|ap () o o
  exact zA o<|ap () o o
 refine q 1 [(2,ptr c 0),(3,ptr f 0),(18,tb (R||(u.2.1 !=M.2.1)))] [] o ?_
 obtain⟨W,e,h⟩:=aj h;rw[e]
 refine aH 6 [(2,ptr c 0),(3,ptr f 0),(24,tb (W||(u.2.2.1 !=M.2.2.1)))] [Res.var f 30 Y30 M,Res.var c 30 Y30 u] (?_) ?_
 ·clear h
  cases W
  ·refine zm 1 o<|al dl o ?_
   refine yl 1 f2 ty2 o o o tr o<|zm 1 o<|al dl o ?_
   exact yl 0 f2 ty2 o o o tr o<|zA o<|ap () o o
  exact zA o<|ap () o o
 refine q 1 [(2,ptr c 0),(3,ptr f 0),(25,tb (W||(u.2.2.1 !=M.2.2.1)))] [] o ?_
 obtain⟨C,e,h⟩:=aj h;rw[e]
 refine aH 6 [(2,ptr c 0),(3,ptr f 0),(31,tb (C||(u.2.2.2.1 !=M.2.2.2.1)))] [Res.var f 30 Y30 M,Res.var c 30 Y30 u] (?_) ?_
 ·clear h
  cases C
  ·refine zm 1 o<|al dl o ?_
   refine yl 1 f3 ty2 o o o tr o<|zm 1 o<|al dl o ?_
   exact yl 0 f3 ty2 o o o tr o<|zA o<|ap () o o
  exact zA o<|ap () o o
 refine q 1 [(2,ptr c 0),(3,ptr f 0),(32,tb (C||(u.2.2.2.1 !=M.2.2.2.1)))] [] o ?_
 obtain⟨H,e,h⟩:=aj h;rw[e]
 refine aH 6 [(2,ptr c 0),(3,ptr f 0),(38,tb (H||(u.2.2.2.2.2.2.1 !=M.2.2.2.2.2.2.1)))] [Res.var f 30 Y30 M,Res.var c 30 Y30 u] (?_) ?_
 ·clear h
  cases H
  ·refine zm 1 o<|al dl o ?_
   refine yl 1 f6 ty2 o o o tr o<|zm 1 o<|al dl o ?_
   exact yl 0 f6 ty2 o o o tr o<|zA o<|ap () o o
  exact zA o<|ap () o o
 refine q 1 [(2,ptr c 0),(3,ptr f 0),(39,tb (H||(u.2.2.2.2.2.2.1 !=M.2.2.2.2.2.2.1)))] [] o ?_
 obtain⟨G,e,h⟩:=aj h;rw[e]
 refine aH 6 [(2,ptr c 0),(3,ptr f 0),(45,tb (G||(u.2.2.2.2.2.2.2.1 !=M.2.2.2.2.2.2.2.1)))] [Res.var f 30 Y30 M,Res.var c 30 Y30 u] (?_) ?_
 ·clear h
  cases G
  ·refine zm 1 o<|al dl o ?_
   refine yl 1 f7 ty2 o o o tr o<|zm 1 o<|al dl o ?_
   exact yl 0 f7 ty2 o o o tr o<|zA o<|ap () o o
  exact zA o<|ap () o o
 refine q 1 [(2,ptr c 0),(3,ptr f 0),(46,tb (G||(u.2.2.2.2.2.2.2.1 !=M.2.2.2.2.2.2.2.1)))] [] o ?_
 obtain⟨N,e,h⟩:=aj h;rw[e]
 refine aH 6 [(2,ptr c 0),(3,ptr f 0),(52,tb (N||(u.2.2.2.2.2.2.2.2.1 !=M.2.2.2.2.2.2.2.2.1)))] [Res.var f 30 Y30 M,Res.var c 30 Y30 u] (?_) ?_
 ·clear h
  cases N
  ·refine zm 1 o<|al dl o ?_
   refine yl 1 f8 ty2 o o o tr o<|zm 1 o<|al dl o ?_
   exact yl 0 f8 ty2 o o o tr o<|zA o<|ap () o o
  exact zA o<|ap () o o
 refine q 1 [(2,ptr c 0),(3,ptr f 0),(53,tb (N||(u.2.2.2.2.2.2.2.2.1 !=M.2.2.2.2.2.2.2.2.1)))] [] o ?_
 obtain⟨J,e,h⟩:=aj h;rw[e]
 refine aH 6 [(2,ptr c 0),(3,ptr f 0),(59,tb (J||(!eqD W61 u.2.2.2.2.2.2.2.2.2.1 M.2.2.2.2.2.2.2.2.2.1)))] [Res.var f 30 Y30 M,Res.var c 30 Y30 u] (?_) ?_
 ·clear h
  cases J
  ·refine zm 1 o<|al dl o ?_
   refine yl 1 f9 eM o o o tr o<|zm 1 o<|al dl o ?_
   refine yl 0 f9 eM o o o tr o<|al dl o ?_
   refine y (o4 20 o o o o eM o Cg Ch) o ?_
   exact zA o<|ap () o o
  exact zA o<|ap () o o
 refine q 1 [(2,ptr c 0),(3,ptr f 0),(60,tb (J||(!eqD W61 u.2.2.2.2.2.2.2.2.2.1 M.2.2.2.2.2.2.2.2.2.1)))] [] o ?_
 obtain⟨d,e,h⟩:=aj h;rw[e]
 refine aH 6 [(2,ptr c 0),(3,ptr f 0),(66,tb (d||(!eqD W61 u.2.2.2.2.2.2.2.2.2.2.1 M.2.2.2.2.2.2.2.2.2.2.1)))] [Res.var f 30 Y30 M,Res.var c 30 Y30 u] (?_) ?_
 ·clear h
  cases d
  ·refine zm 1 o<|al dl o ?_
   refine yl 1 f10 eM o o o tr o<|zm 1 o<|al dl o ?_
   refine yl 0 f10 eM o o o tr o<|al dl o ?_
   refine y (o4 20 o o o o eM o Cg Ch) o ?_
   exact zA o<|ap () o o
  exact zA o<|ap () o o
 refine q 1 [(2,ptr c 0),(3,ptr f 0),(67,tb (d||(!eqD W61 u.2.2.2.2.2.2.2.2.2.2.1 M.2.2.2.2.2.2.2.2.2.2.1)))] [] o ?_
 obtain⟨m,e,h⟩:=aj h;rw[e]
 refine aH 6 [(2,ptr c 0),(3,ptr f 0),(73,tb (m||(!eqD W61 u.2.2.2.2.2.2.2.2.2.2.2.1 M.2.2.2.2.2.2.2.2.2.2.2.1)))] [Res.var f 30 Y30 M,Res.var c 30 Y30 u] (?_) ?_
 ·clear h
  cases m
  ·refine zm 1 o<|al dl o ?_
   refine yl 1 f11 eM o o o tr o<|zm 1 o<|al dl o ?_
   refine yl 0 f11 eM o o o tr o<|al dl o ?_
   refine y (o4 20 o o o o eM o Cg Ch) o ?_
   exact zA o<|ap () o o
  exact zA o<|ap () o o
 refine q 1 [(2,ptr c 0),(3,ptr f 0),(74,tb (m||(!eqD W61 u.2.2.2.2.2.2.2.2.2.2.2.1 M.2.2.2.2.2.2.2.2.2.2.2.1)))] [] o ?_
 obtain⟨O,e,h⟩:=aj h;rw[e]
 refine aH 6 [(2,ptr c 0),(3,ptr f 0),(80,tb (O||(u.2.2.2.2.2.2.2.2.2.2.2.2.1 !=M.2.2.2.2.2.2.2.2.2.2.2.2.1)))] [Res.var f 30 Y30 M,Res.var c 30 Y30 u] (?_) ?_
 ·clear h
  cases O
  ·refine zm 1 o<|al dl o ?_
   refine yl 1 f12 ty4 o o o tr o<|zm 1 o<|al dl o ?_
   refine yl 0 f12 ty4 o o o tr o<|al dl o ?_
   refine y (GL o o Tryz.underlying4) o ?_
   exact zA o<|ap () o o
  exact zA o<|ap () o o
 refine q 1 [(2,ptr c 0),(3,ptr f 0),(81,tb (O||(u.2.2.2.2.2.2.2.2.2.2.2.2.1 !=M.2.2.2.2.2.2.2.2.2.2.2.2.1)))] [] o ?_
 obtain⟨w,e,h⟩:=aj h;rw[e]
 refine aH 6 [(2,ptr c 0),(3,ptr f 0),(87,tb (w||(!eqD W67 u.2.2.2.2.2.2.2.2.2.2.2.2.2.1 M.2.2.2.2.2.2.2.2.2.2.2.2.2.1)))] [Res.var f 30 Y30 M,Res.var c 30 Y30 u] (?_) ?_
 ·clear h
  cases w
  ·refine zm 1 o<|al dl o ?_
   refine yl 1 f13 Ab o o o tr o<|zm 1 o<|al dl o ?_
   refine yl 0 f13 Ab o o o tr o<|al dl o ?_
   refine y (o4 20 o o o o Ab o H3 H4) o ?_
   exact zA o<|ap () o o
  exact zA o<|ap () o o
 refine q 1 [(2,ptr c 0),(3,ptr f 0),(88,tb (w||(!eqD W67 u.2.2.2.2.2.2.2.2.2.2.2.2.2.1 M.2.2.2.2.2.2.2.2.2.2.2.2.2.1)))] [] o ?_
 obtain⟨Z,e,h⟩:=aj h;rw[e]
 refine aH 6 [(2,ptr c 0),(3,ptr f 0),(94,tb (Z||(!eqD W73 u.2.2.2.2.2.2.2.2.2.2.2.2.2.2.1 M.2.2.2.2.2.2.2.2.2.2.2.2.2.2.1)))] [Res.var f 30 Y30 M,Res.var c 30 Y30 u] (?_) ?_
 ·clear h
  cases Z
  ·refine zm 1 o<|al dl o ?_
   refine yl 1 f14 bB o o o tr o<|zm 1 o<|al dl o ?_
   refine yl 0 f14 bB o o o tr o<|al dl o ?_
   refine y (o4 20 o o o o bB o uW uX) o ?_
   exact zA o<|ap () o o
  exact zA o<|ap () o o
 refine q 1 [(2,ptr c 0),(3,ptr f 0),(95,tb (Z||(!eqD W73 u.2.2.2.2.2.2.2.2.2.2.2.2.2.2.1 M.2.2.2.2.2.2.2.2.2.2.2.2.2.2.1)))] [] o ?_
 obtain⟨a2,e,h⟩:=aj h;rw[e]
 refine aH 6 [(2,ptr c 0),(3,ptr f 0),(101,tb (a2||(u.2.2.2.2.2.2.2.2.2.2.2.2.2.2.2.2.1 !=M.2.2.2.2.2.2.2.2.2.2.2.2.2.2.2.2.1)))] [Res.var f 30 Y30 M,Res.var c 30 Y30 u] (?_) ?_
 ·clear h
  cases a2
  ·refine zm 1 o<|al dl o ?_
   refine yl 1 f16 ty3 o o o tr o<|zm 1 o<|al dl o ?_
   exact yl 0 f16 ty3 o o o tr o<|zA o<|ap () o o
  exact zA o<|ap () o o
 refine q 1 [(2,ptr c 0),(3,ptr f 0),(102,tb (a2||(u.2.2.2.2.2.2.2.2.2.2.2.2.2.2.2.2.1 !=M.2.2.2.2.2.2.2.2.2.2.2.2.2.2.2.2.1)))] [] o ?_
 obtain⟨a3,e,h⟩:=aj h;rw[e]
 refine aH 6 [(2,ptr c 0),(3,ptr f 0),(108,tb (a3||(u.2.2.2.2.2.2.2.2.2.2.2.2.2.2.2.2.2.1 !=M.2.2.2.2.2.2.2.2.2.2.2.2.2.2.2.2.2.1)))] [Res.var f 30 Y30 M,Res.var c 30 Y30 u] (?_) ?_
 ·clear h
  cases a3
  ·refine zm 1 o<|al dl o ?_
   refine yl 1 f17 ty2 o o o tr o<|zm 1 o<|al dl o ?_
   exact yl 0 f17 ty2 o o o tr o<|zA o<|ap () o o
  exact zA o<|ap () o o
 refine q 1 [(2,ptr c 0),(3,ptr f 0),(109,tb (a3||(u.2.2.2.2.2.2.2.2.2.2.2.2.2.2.2.2.2.1 !=M.2.2.2.2.2.2.2.2.2.2.2.2.2.2.2.2.2.1)))] [] o ?_
 obtain⟨a9,e,h⟩:=aj h;rw[e]
 refine bL h 8 (λa4=>[(2,ptr c 0),(3,ptr f 0),(117,tb a4)]) (λ_=>[Res.var f 30 Y30 M,Res.var c 30 Y30 u]) (λc3 h=>?_) λa4 h=>?_
 ·cases a9
  ·replace h:=ifF h
   refine zm 1 o<|al dl o ?_
   refine yl 1 f15 qF o o o tr o<|zm 2 o<|al dl o ?_
   refine yl 0 f15 qF o o o tr o<|q 2 [(109,tb false),(116,tb ((List.length u.2.2.2.2.2.2.2.2.2.2.2.2.2.2.2.1:Int) !=(List.length M.2.2.2.2.2.2.2.2.2.2.2.2.2.2.2.1:Int)))] [2,3] o ?_
   obtain⟨b0,e,h⟩:=aj h;rw[e]
   exact zN o<|zt<|ah b0 () h o o
  replace h:=ifT h
  exact zN o<|zt<|ah true () h o o
 refine za<|rI h o (λhc h=>zU 1 o<|zf<|zT<|by cases h;exact ax o (.tmp o)) λhc h=>zk<|zt<|bD h (λa5=>[(2,ptr c 0),(3,ptr f 0)]) (λa5=>[Res.var f 30 Y30 M,Res.var c 30 Y30 u]) (λb1 h=>?_) λa5 h=>?_
 ·refine zW o<|zb<|ai [2,3,5] o<|bl (γ:=Unit) (λ(V:Int) _=>[(2,ptr c 0),(3,ptr f 0),(5,ti V)]) (λ(V:Int) _=>[Res.var f 30 Y30 M,Res.var c 30 Y30 u]) (dH u M b1) 0 () h o o ?_
  clear h
  intro a6 V gg h
  cases a6 with
  |zero=>cases h
  |succ a6=>
  simp only[dH]at h
  refine zs<|zU 2 o<|yl 1 f15 qF o o o tr o<|zA o<|rI h o (λhc h=>?_) λhc h=>?_
  ·refine zk<|zt<|zs<|zb<|zs<|ef kr kr ?_
   refine ay af 1 [2,3,5,125] (E':=[(2,ptr c 0),(3,ptr f 0),(5,ti V),(125,ptr c 112)]) o ?_
   refine q_y (aN 1 f15 o o o (ab (ab (ab (ab (ab (ab (ab (ab (ab (ab (ab (ab (ab (ab (ab (av aa)))))))))))))))) qF) o ?_
   refine ay af 1 [2,3,5,126,127] (E':=[(2,ptr c 0),(3,ptr f 0),(5,ti V),(126,.one W85 u.2.2.2.2.2.2.2.2.2.2.2.2.2.2.2.1),(127,ti V)]) o ?_
   refine iE h λhc h=>q_y (eo af o o hc.1 hc.2 o jg) o ?_
   refine q_y (de o jg) o ?_
   refine ay af 1 [2,3,5,129,130] (E':=[(2,ptr c 0),(3,ptr f 0),(5,ti V),(129,.one Y56 (List.getD u.2.2.2.2.2.2.2.2.2.2.2.2.2.2.2.1 (Int.toNat V) (0,z32,false,()))),(130,ptr f 112)]) o ?_
   refine q_y (aN 0 f15 o o o (ab (ab (ab (ab (ab (ab (ab (ab (ab (ab (ab (ab (ab (ab (ab (av aa)))))))))))))))) qF) o ?_
   refine ay af 1 [2,3,5,129,131,132] (E':=[(2,ptr c 0),(3,ptr f 0),(5,ti V),(129,.one Y56 (List.getD u.2.2.2.2.2.2.2.2.2.2.2.2.2.2.2.1 (Int.toNat V) (0,z32,false,()))),(131,.one W85 M.2.2.2.2.2.2.2.2.2.2.2.2.2.2.2.1),(132,ti V)]) o ?_
   refine iE h λhc h=>q_y (eo af o o hc.1 hc.2 o jg) o ?_
   refine q_y (de o jg) o ?_
   refine q_y (o4 20 o o o o jg o H5 H6) o ?_
   refine eK ?_
   refine zt<|rI h o (λhc h=>zU 1 o<|zf<|zB<|zT<|zT<|zB<|zT<|by cases h;exact ax o (.tmp o)) λhc h=>zk<|zi<|zt<|zr<|q 3 [(2,ptr c 0),(3,ptr f 0),(5,ti (wrap .i64 (V+1)))] [] o ?_
   obtain⟨b2,e,h⟩:=aj h;rw[e]
   exact za<|aY b2 () (Nat.lt_succ_self _) h o o
  exact zx<|ze<|ze<|zq<|zt<|ah () () h o o
 refine zU 1 o<|yl 1 f4 jA o o o tr o<|zm 1 o<|yl 0 f4 jA o o o tr o<|cB h λa7 c0 h=>au (oE _ _ _ c0) kr o o<|q 1 [(2,ptr c 0),(3,ptr f 0),(141,tb a7)] [] o<|bL h 6 (λa8=>[(147,tb a8)]) (λ_=>[Res.var f 30 Y30 M,Res.var c 30 Y30 u]) (λc4 h=>?_) λa8 h=>?_
 ·cases a7
  ·replace h:=ifF h
   exact zN o<|zt<|ah false () h o o
  replace h:=ifT h
  refine zm 1 o<|al dl o ?_
  refine yl 1 f5 jA o o o tr o<|zm 1 o<|al dl o ?_
  refine yl 0 f5 jA o o o tr o<|al dl o ?_
  exact cB h λc1 c2 h=>au (oE _ _ _ c2) kr o o<|zN o<|zt<|ah c1 () h o o
 refine zE o ?_
 cases h
 exact ax o (.tmp o)
theorem AA(c r)(h:we c=some r):Fn PP 13 [ti c] [] (λv=> .tup [⟨.raw NV,aK v 0⟩,⟨(.int .i64),r.1⟩]) (λv=>[Res.diskif PP dI (aK v 0) r.2 r.1]):=by
 unfold we at h
 refine enter Tryz.func13 o 14 o o λF=>?_
 refine zW o<|zs<|zu<|q 3 [(0,ti c),(6,tb (decide (c<0)))] [] o ?_
 obtain⟨M,e,h⟩:=aj h;rw[e]
 refine aH 3 [(0,ti c),(9,tb (M||(decide (c>16777216))))] [] (?_) ?_
 ·clear h
  cases M
  ·exact zA o<|ap () o o
  exact zA o<|ap () o o
 refine za<|rI h o (λhc h=>zU 2 o<|zf<|zT<|DC (P:=PP) (I:=dI) (D:=(0,[],0,0,0,false,false)) (e:=1) (by decide)<|by cases h;exact aC (rs:=[.tmp 2,.tmp 3]) o (.cons (.tmp o) (.cons (.tmp o) .nil)) o (λ_ vs g=>by cases g with|cons f g=>cases g with|cons u g=>cases g;exact⟨_,o,.cons (bg f) (.cons u .nil)⟩) (λ_ vs g=>by cases g with|cons f g=>cases g with|cons u g=>cases g;rw[bP f];exact(.cons_cons _ .slnil))) λhc h=>zy<|zm 1 o<|pA 9 .str (.raw NV) o λV=>?_
 refine CM (P:=PP) (I:=dI) ?_
 refine y (bc o Hh o o (.cons f0 o o (av aa) (.cons f1 o o (ab (av aa)) .nil))) o ?_
 refine bI o o λR=>zE o<|cC (P:=PP) (I:=dI) (D:=(c,[],0,0,0,false,false))<|DE ?_
 cases h
 exact aC (rs:=[.tmp 2,.tmp 3]) o (.cons (.tmp o) (.cons (.tmp o) .nil)) o (λ_ vs g=>by cases g with|cons f g=>cases g with|cons u g=>cases g;exact⟨_,o,.cons (bg f) (.cons u .nil)⟩) (λ_ vs g=>by cases g with|cons f g=>cases g with|cons u g=>cases g;rw[bP f];exact(.cons_cons _ .slnil))
theorem nG(r)(h:kc=some r):bw PP 59 [] (.one Y40 r):=by
 unfold kc at h
 refine enter Tryz.func59 o 2 o o λF=>?_
 refine zu<|aB (t:=Y40) o GC o λc=>zz<|y (bc o GC o o (.cons f1 o o aa (.cons f2 o o aa (.cons f7 o o aa .nil)))) o ?_
 refine st 0 .here Eq o o o o tr<|zf ?_
 cases h
 exact aT o (.cell 0 .here o o o aa Eq) (λ_ _ g=>g) (λ_ _ _=>List.nil_sublist _)
theorem wQ(c r)(h:qz c=some r):bw PP 110 [ti c] (tb r):=by
 unfold qz at h
 refine enter Tryz.func110 o 9 o o λF=>?_
 refine zU 1 o<|zz<|q 3 [(0,ti c),(5,tb (decide (c≥0)))] [] o ?_
 obtain⟨f,e,h⟩:=aj h;rw[e]
 refine aH 3 [(8,tb (f&&(decide (c≤1152921504606846976))))] [] (?_) ?_
 ·clear h
  cases f
  ·exact zA o<|ap () o o
  exact zA o<|ap () o o
 refine zE o ?_
 cases h
 exact ax o (.tmp o)
theorem xp(c r)(h:rt c=some r):bw PP 63 [.one Y40 c] (.tup [⟨Y30,r.1⟩,⟨(.int .i64),r.2⟩]):=by
 unfold rt at h
 refine enter Tryz.func63 o 50 o o λF=>?_
 refine zu<|bI o o λf=>aB (t:=Y30) o gU o λu=>zA o<|zs<|zU 1 o<|yl 1 f0 ty3 o o o tr o<|q 2 [(1,ptr f 0),(2,ptr u 0),(7,tb (decide (c.1<0)))] [] o ?_
 obtain⟨V,e,h⟩:=aj h;rw[e]
 refine aH 4 [(1,ptr f 0),(2,ptr u 0),(11,tb (V||(decide (c.1>1))))] [Res.var u 30 Y30 (0,0,0,0,[],[],0,0,0,(0,0,()),(0,0,()),(0,0,()),false,(List.replicate 2 (z32:List (Int))),z32,[],0,0,()),Res.var f 40 Y40 c] (?_) ?_
 ·clear h
  cases V
  ·refine zm 1 o<|al dl o ?_
   exact yl 1 f0 ty3 o o o tr o<|zA o<|ap () o o
  exact zA o<|ap () o o
 refine q 1 [(1,ptr f 0),(2,ptr u 0),(12,tb (V||(decide (c.1>1))))] [] o ?_
 obtain⟨R,e,h⟩:=aj h;rw[e]
 refine aH 4 [(1,ptr f 0),(2,ptr u 0),(16,tb (R||(decide (c.2.1<1))))] [Res.var u 30 Y30 (0,0,0,0,[],[],0,0,0,(0,0,()),(0,0,()),(0,0,()),false,(List.replicate 2 (z32:List (Int))),z32,[],0,0,()),Res.var f 40 Y40 c] (?_) ?_
 ·clear h
  cases R
  ·refine zm 1 o<|al dl o ?_
   exact yl 1 f1 ty2 o o o tr o<|zA o<|ap () o o
  exact zA o<|ap () o o
 refine q 1 [(1,ptr f 0),(2,ptr u 0),(17,tb (R||(decide (c.2.1<1))))] [] o ?_
 obtain⟨C,e,h⟩:=aj h;rw[e]
 refine bL h 5 (λM=>[(1,ptr f 0),(2,ptr u 0),(22,tb M)]) (λ_=>[Res.var u 30 Y30 (0,0,0,0,[],[],0,0,0,(0,0,()),(0,0,()),(0,0,()),false,(List.replicate 2 (z32:List (Int))),z32,[],0,0,()),Res.var f 40 Y40 c]) (λN h=>?_) λM h=>?_
 ·cases C
  ·replace h:=ifF h
   refine zm 1 o<|al dl o ?_
   refine yl 1 f1 ty2 o o o tr o<|al dl o ?_
   exact cB h λH G h=>au (wQ _ _ G) kr o o<|zN o<|zt<|ah (!H) () h o o
  replace h:=ifT h
  exact zN o<|zt<|ah true () h o o
 refine q 1 [(1,ptr f 0),(2,ptr u 0),(23,tb M)] [] o<|aH 4 [(1,ptr f 0),(2,ptr u 0),(27,tb (M||(decide (c.2.2.1<0))))] [Res.var u 30 Y30 (0,0,0,0,[],[],0,0,0,(0,0,()),(0,0,()),(0,0,()),false,(List.replicate 2 (z32:List (Int))),z32,[],0,0,()),Res.var f 40 Y40 c] (?_) ?_
 ·clear h
  cases M
  ·refine zm 1 o<|al dl o ?_
   exact yl 1 f2 ty2 o o o tr o<|zA o<|ap () o o
  exact zA o<|ap () o o
 refine q 1 [(1,ptr f 0),(2,ptr u 0),(28,tb (M||(decide (c.2.2.1<0))))] [] o ?_
 obtain⟨W,e,h⟩:=aj h;rw[e]
 refine aH 6 [(1,ptr f 0),(2,ptr u 0),(34,tb (W||(decide (c.2.2.1>c.2.1))))] [Res.var u 30 Y30 (0,0,0,0,[],[],0,0,0,(0,0,()),(0,0,()),(0,0,()),false,(List.replicate 2 (z32:List (Int))),z32,[],0,0,()),Res.var f 40 Y40 c] (?_) ?_
 ·clear h
  cases W
  ·refine zm 1 o<|al dl o ?_
   refine yl 1 f2 ty2 o o o tr o<|zm 1 o<|al dl o ?_
   exact yl 1 f1 ty2 o o o tr o<|zA o<|ap () o o
  exact zA o<|ap () o o
 refine za<|rI h o (λhc h=>?_) λhc h=>?_
 ·refine zu<|y (bc o gU o o .nil) o ?_
  refine st 0 .here bR o o o o tr<|zE o<|zT ?_
  cases h
  exact aC (rs:=[.cell 2 30,.tmp 3]) o (.cons (.cell 0 .here o o o aa bR) (.cons (.tmp o) (.nil))) o (λ_ vs g=>aG vs g) (λ_ _ _=>List.nil_sublist _)
 refine zy<|zm 1 o<|yl 1 f0 ty3 o o o tr o<|zm 1 o<|yl 1 f1 ty2 o o o tr o<|zm 1 o<|yl 1 f2 ty2 o o o tr o<|zm 1 o<|yl 1 f1 ty2 o o o tr o<|zm 1 o<|yl 1 f2 ty2 o o o tr o<|zm 2 o<|yl 1 f6 Ab o o o tr o<|y (bc o gU o o (.cons f0 o o aa (.cons f1 o o aa (.cons f2 o o aa (.cons f3 o o aa (.cons f13 o o aa (.cons f17 o o aa .nil))))))) o ?_
 refine st 0 .here bR o o o o tr<|zE o ?_
 cases h
 exact aC (rs:=[.cell 2 30,.tmp 3]) o (.cons (.cell 0 .here o o o aa bR) (.cons (.tmp o) (.nil))) o (λ_ vs g=>aG vs g) (λ_ _ _=>List.nil_sublist _)
theorem rf(c r)(h:nX c=some r):bw PP 133 [ts c] (tb r):=by
 unfold nX at h
 refine enter Tryz.func133 o 27 o o λF=>?_
 refine zu<|q 1 [(0,ts c)] [] o<|za<|bD h (λu=>[(0,ts c)]) (λu=>[]) (λW h=>?_) λu h=>?_
 ·refine zW o<|zb<|ai [0,5,6] o<|bl (γ:=Unit) (λ(f:Int) _=>[(0,ts c),(5,ti (List.length c:Int)),(6,ti f)]) (λ(f:Int) _=>[]) (lV c W) 0 () h o o ?_
  clear h
  intro M f gg h
  cases M with
  |zero=>cases h
  |succ M=>
  simp only[lV]at h
  refine zW o<|zs<|rI h o (λhc h=>?_) λhc h=>?_
  ·refine zk<|zt<|zs<|zb<|zU 2 o<|zZ 2 o<|iE h λhc h=>y (eA af o o hc.1 hc.2 o) o ?_
   refine q 2 [(3,ti f),(5,ti (List.length c:Int)),(6,ti f),(13,tb (decide ((List.getD c (Int.toNat f) 0)<33)))] [0] o ?_
   obtain⟨C,e,h⟩:=aj h;rw[e]
   refine bL h 5 (λV=>[(0,ts c),(5,ti (List.length c:Int)),(6,ti f),(18,tb V)]) (λ_=>[]) (λH h=>?_) λV h=>?_
   ·cases C
    ·replace h:=ifF h
     refine zm 2 o<|al dl o ?_
     refine iE h λhc h=>y (eA af o o hc.1 hc.2 o) o ?_
     exact zN o<|zt<|ah (decide ((List.getD c (Int.toNat f) 0)>126)) () h o o
    replace h:=ifT h
    exact zN o<|zt<|ah true () h o o
   exact za<|rI h o (λhc h=>zU 1 o<|zf<|zB<|zT<|zT<|zB<|zT<|by cases h;exact ax o (.tmp o)) λhc h=>zk<|zi<|zt<|zr<|zA o<|aY (wrap .i64 (f+1)) () (Nat.lt_succ_self _) h o o
  exact zx<|ze<|ze<|zq<|zt<|ah () () h o o
 refine zu<|q 3 [(0,ts c),(22,tb (c !=[]))] [] o ?_
 obtain⟨R,e,h⟩:=aj h;rw[e]
 refine aH 4 [(26,tb (R&&(decide ((List.length c:Int)≤28))))] [] (?_) ?_
 ·clear h
  cases R
  ·exact zA o<|ap () o o
  exact zA o<|ap () o o
 refine zE o ?_
 cases h
 exact ax o (.tmp o)
theorem gS(R:Nat)(V:Value)(f M r)(h:gq f M=some r):Fn PP 161 [ptr R 0,ts M] [Res.var R 123 DT (cL f V f.2.2.2.2.2.2 ()),Res.dfiles PP dI V f.2.1] (λv=> .tup [⟨.raw NV,aK v 0⟩,⟨(.int .i64),r⟩]) (λv=>[Res.var R 123 DT (cL f V f.2.2.2.2.2.2 ()),Res.dfound PP dI V f.2.1 M (aK v 0) r]):=by
 unfold gq at h
 refine enter Tryz.func161 o 24 o o λF=>?_
 refine zW o<|zs<|zU 3 o<|yl 0 f5 ty4 o o o tr o<|za<|rI h o (λhc h=>zU 2 o<|zf<|zT<|pk [1,0] o<|wv (name:=M) (q:=NV) (e:=9) (by decide)<|pk [1,0] o<|by cases h;exact aC (rs:=[.tmp 4,.tmp 5]) o (.cons (.tmp o) (.cons (.tmp o) .nil)) o (λ_ vs g=>by cases g with|cons c g=>cases g with|cons u g=>cases g;exact⟨_,o,.cons (bg c) (.cons u .nil)⟩) (λ_ vs g=>by cases g with|cons c g=>cases g with|cons u g=>cases g;rw[bP c];exact(.cons_cons _ (.cons_cons _ .slnil)))) λhc h=>zy<|zm 3 o<|yl 0 f1 m9 o o o tr o<|zm 1 o<|pk [1,0] o<|AY ep o o Tryz.underlying121 zNV o λW=>?_
 refine q 5 [(6,tp W),(7,tb (Option.isSome (bh .str M f.2.1)))] [] o ?_
 obtain⟨C,e,h⟩:=aj h;rw[e]
 refine za<|zs<|zW o<|rI h o (λhc h=>zU 2 o<|zf<|zT<|az (R':=Res.dfiles PP dI V f.2.1) 0 o cw<|wv (name:=M) (q:=NV) (e:=5) (by decide)<|pk [1,0] o<|by cases h;exact aC (rs:=[.tmp 4,.tmp 5]) o (.cons (.tmp o) (.cons (.tmp o) .nil)) o (λ_ vs g=>by cases g with|cons c g=>cases g with|cons u g=>cases g;exact⟨_,o,.cons (bg c) (.cons u .nil)⟩) (λ_ vs g=>by cases g with|cons c g=>cases g with|cons u g=>cases g;rw[bP c];exact(.cons_cons _ (.cons_cons _ .slnil)))) λhc h=>zy<|zE o<|CE<|pk [1,0] o ?_
 cases h
 exact aC (rs:=[.tmp 4,.tmp 5]) o (.cons (.tmp o) (.cons (.tmp o) .nil)) o (λ_ vs g=>by cases g with|cons c g=>cases g with|cons u g=>cases g;exact⟨_,o,.cons (bg c) (.cons u .nil)⟩) (λ_ vs g=>by cases g with|cons c g=>cases g with|cons u g=>cases g;rw[bP c];exact(.cons_cons _ (.cons_cons _ .slnil)))
theorem jt(H:Value)(c W u V r)(h:kO c W u V=some r):Fn PP 122 [tp H,ts W,ti u,ti V] [Res.disk PP dI H c] (λ_=> .tup [⟨.str,r.1⟩,⟨(.int .i64),r.2⟩]) (λ_=>[Res.disk PP dI H c]):=by
 unfold kO at h
 refine enter Tryz.func122 o 48 o o λF=>?_
 refine iy λN M hp=>?_
 subst hp
 refine zU 2 o<|zZ 2 o<|cB h λd m h=>il (Lo:=[]) (gS N M c W _ m) kr (List.Perm.refl _) o o λC=>?_
 refine zA o<|zs<|zW o<|rI h o (λhc h=>zU 3 o<|zf<|zT<|az (R':=Res.dfiles PP dI M c.2.1) 1 o fZ<|cC (P:=PP) (I:=dI) (D:=c)<|by cases h;exact aC (rs:=[.tmp 8,.tmp 9]) o (.cons (.tmp o) (.cons (.tmp o) (.nil))) o (λ_ vs g=>aG vs g) (λ_ _ _=>(.cons_cons _ .slnil))) λhc h=>zk<|zt<|zs<|zu<|q 3 [(2,ti u),(3,ti V),(10,tp (aK C 0)),(24,tb (decide (u<0)))] [] o ?_
 obtain⟨J,e,h⟩:=aj h;rw[e]
 refine aH 3 [(2,ti u),(3,ti V),(10,tp (aK C 0)),(27,tb (J||(decide (V<0))))] [Res.var N 123 DT (cL c M c.2.2.2.2.2.2 ()),Res.dfound PP dI M c.2.1 W (aK C 0) d] (?_) ?_
 ·clear h
  cases J
  ·exact zA o<|ap () o o
  exact zA o<|ap () o o
 refine za<|rI h o (λhc h=>zU 2 o<|zf<|zT<|az (R':=Res.dfiles PP dI M c.2.1) 1 o fZ<|cC (P:=PP) (I:=dI) (D:=c)<|by cases h;exact aC (rs:=[.tmp 8,.tmp 9]) o (.cons (.tmp o) (.cons (.tmp o) (.nil))) o (λ_ vs g=>aG vs g) (λ_ _ _=>(.cons_cons _ .slnil))) λhc h=>zk<|zt<|zs<|zs<|iE h λhc h=>az (R':=Res.dat PP dI M c.2.1 W (aK C 0)) 1 o (nR hc)<|cB h λf6 G h=>pk [1,0] o<|jd ep G λO w Z a4 hq=>?_
 rw[hq]
 clear hq
 refine zr<|zm 4 o<|yl 0 f0 tx3 o o o tr o<|y (ct af 1 o o o) o ?_
 refine zA o<|rI h o (λhc h=>?_) λhc h=>?_
 ·refine zU 2 o<|zf<|zT<|j8 (P:=PP) (I:=dI) ep G ?_
  refine az (R':=Res.dfiles PP dI M c.2.1) 0 o cw<|pk [1,0] o<|cC (P:=PP) (I:=dI) (D:=c) ?_
  cases h
  exact aC (rs:=[.tmp 8,.tmp 9]) o (.cons (.tmp o) (.cons (.tmp o) (.nil))) o (λ_ vs g=>aG vs g) (λ_ _ _=>(.cons_cons _ .slnil))
 refine zy<|zm 3 o<|yl 0 f0 tx3 o o o tr o<|zm 1 o ?_
 obtain⟨f,h⟩:=cu h
 refine y (kF af (i:=u) (j:=(List.length f6.1:Int)) o (fk 1 o) o o f.1 f.2.1 f.2.2 o ty5) o ?_
 refine zm 1 o<|zZ 3 o<|y (Dy af o (oJ (fk 1 o) f.1 f.2.1 f.2.2) o) o ?_
 refine y (wo o o) o ?_
 obtain⟨R,h⟩:=cu h
 refine y (kF af (i:=(0:Int)) (j:=(min V (List.length (List.drop (Int.toNat u) (List.take (Int.toNat (List.length f6.1:Int)) f6.1)):Int))) o (oJ (fk 1 o) f.1 f.2.1 f.2.2) o o R.1 R.2.1 R.2.2 o ty5) o ?_
 refine y (CC af o (oJ (oJ (fk 1 o) f.1 f.2.1 f.2.2) R.1 R.2.1 R.2.2) o o o) o ?_
 refine q 1 [(8,ts (List.take (Int.toNat (min V (List.length (List.drop (Int.toNat u) (List.take (Int.toNat (List.length f6.1:Int)) f6.1)):Int))) (List.drop (Int.toNat u) (List.take (Int.toNat (List.length f6.1:Int)) f6.1))))] [] o ?_
 obtain⟨a5,e,h⟩:=aj h;rw[e]
 refine zE o<|j8 (P:=PP) (I:=dI) ep G ?_
 refine az (R':=Res.dfiles PP dI M c.2.1) 0 o cw<|pk [1,0] o<|cC (P:=PP) (I:=dI) (D:=c) ?_
 cases h
 exact aC (rs:=[.tmp 8,.tmp 9]) o (.cons (.tmp o) (.cons (.tmp o) (.nil))) o (λ_ vs g=>aG vs g) (λ_ _ _=>(.cons_cons _ .slnil))
theorem uc(c r)(h:pZ c=some r):bw PP 178 [.one (.int .u32) c] (ts r):=by
 unfold pZ at h
 refine enter Tryz.func178 o 16 o o λF=>?_
 refine zU 1 o<|zZ 11 o<|bC (B:=1) af o el5 o o o (.cons o (.cons o (.cons o (.cons o .nil)))) o λf=>?_
 refine y (nN af 0 o o o o o) o ?_
 refine q 1 [(2,ts [(wrap .u8 (ca .u32 c 24)),(wrap .u8 (ca .u32 c 16)),(wrap .u8 (ca .u32 c 8)),(wrap .u8 c)])] [] o ?_
 obtain⟨u,e,h⟩:=aj h;rw[e]
 refine zf ?_
 cases h
 exact ax o (.tmp o)
theorem Ac(u f r)(h:uL u f=some r):bw PP 208 [.one (.int .u32) u,ti f] (.one (.int .u32) r):=by
 unfold uL at h
 refine enter Tryz.func208 o 19 o o λF=>?_
 refine zu<|q 1 [(0,.one (.int .u32) u),(1,ti f)] [] o<|za<|bD h (λV=>[(0,.one (.int .u32) V)]) (λV=>[]) (λW h=>?_) λV h=>?_
 ·refine zW o<|zb<|ai [0,6,7] o<|bl (γ:=Unit) (λ(c:Int×Int) _=>[(0,.one (.int .u32) c.1),(6,ti f),(7,ti c.2)]) (λ(c:Int×Int) _=>[]) (nY f W) (u,0) () h o o ?_
  clear h
  intro R c gg h
  cases R with
  |zero=>cases h
  |succ R=>
  simp only[nY]at h
  refine zW o<|zs<|rI h o (λhc h=>?_) λhc h=>?_
  ·refine zk<|zt<|bD h (λM=>[(0,.one (.int .u32) M),(6,ti f),(7,ti c.2)]) (λM=>[]) (λN h=>?_) λM h=>?_
   ·refine zb<|zu<|q 3 [(0,.one (.int .u32) c.1),(5,.one (.int .u32) (go .u32 c.1 1)),(6,ti f),(7,ti c.2)] [] o ?_
    obtain⟨C,e,h⟩:=aj h;rw[e]
    refine zz<|q 3 [(0,.one (.int .u32) (ca .u32 c.1 1)),(5,.one (.int .u32) C)] [6,7] o ?_
    obtain⟨H,e,h⟩:=aj h;rw[e]
    refine zz<|zA o<|rI h o (λhc h=>?_) λhc h=>?_
    ·refine zr<|p 3 [0,6,7] o ?_
     obtain⟨G,e,h⟩:=aj h;rw[e]
     exact zn<|zi<|zt<|ah G () h o o
    exact zk<|zi<|zt<|ah H () h o o
   exact zr<|zA o<|aY (M,(wrap .i64 (c.2+1))) () (Nat.lt_succ_self _) h o o
  exact zx<|ze<|ze<|zq<|zt<|ah c.1 () h o o
 refine zU 2 o<|zf ?_
 cases h
 exact ax o (.tmp o)
theorem ye(r)(h:tA=some r):bw PP 190 [] (.one W71 r):=by
 unfold tA at h
 refine enter Tryz.func190 o 13 o o λF=>?_
 refine zu<|aB (t:=W71) o Cc o λf=>zz<|aB (t:=W71) o Cc o λu=>za<|bD h (λM=>[(0,ptr f 0),(1,ptr u 0)]) (λM=>[Res.var u 287 W71 M,Res.var f 287 W71 (List.replicate 16 (0:Int))]) (λR h=>?_) λM h=>?_
 ·refine zW o<|zb<|ai [0,1,3] o<|bl (γ:=Unit) (λ(c:Int×List (Int)) _=>[(0,ptr f 0),(1,ptr u 0),(3,ti c.1)]) (λ(c:Int×List (Int)) _=>[Res.var u 287 W71 c.2,Res.var f 287 W71 (List.replicate 16 (0:Int))]) (m1 R) (0,(List.replicate 16 (0:Int))) () h o o ?_
  clear h
  intro V c gg h
  cases V with
  |zero=>cases h
  |succ V=>
  simp only[m1]at h
  refine zW o<|zs<|rI h o (λhc h=>?_) λhc h=>?_
  ·refine zk<|zt<|zs<|zb<|zW o<|zr<|zm 3 o<|cB h λW C h=>au (Ac _ _ _ C) kr o o<|iE h λhc h=>y (bO o o hc.1 hc.2 Cf cJ) o ?_
   exact iV 0 (.elem (Int.toNat c.1) .here) o o o pof (aw pix aa) cJ<|zn<|zi<|zt<|zr<|zA o<|aY ((wrap .i64 (c.1+1)),(List.set c.2 (Int.toNat c.1) W)) () (Nat.lt_succ_self _) h o o
  exact zx<|ze<|ze<|zq<|zt<|ah c.2 () h o o
 refine zu<|yl 0 .here yC o o o tr o<|st 1 .here yC o o o o tr<|zf ?_
 cases h
 exact aT o (.cell 1 .here o o o aa yC) (λ_ _ g=>g) (λ_ _ _=>List.nil_sublist _)
theorem u1(V f r)(h:uM V f=some r):bw PP 174 [.one (.int .u32) V,ts f] (.one (.int .u32) r):=by
 unfold uM at h
 refine enter Tryz.func174 o 39 o o λF=>?_
 refine zU 1 o<|zz<|cB h λu G h=>au (ye _ G) kr o o<|aB (t:=W71) o Cc o λM=>st 0 .here yC o o o o tr<|zz<|q 3 [(1,ts f),(5,ptr M 0),(6,.one (.int .u32) (vP .u32 V))] [] o ?_
 obtain⟨N,e,h⟩:=aj h;rw[e]
 refine za<|bD h (λR=>[(6,.one (.int .u32) R)]) (λR=>[Res.var M 287 W71 u]) (λJ h=>?_) λR h=>?_
 ·refine zW o<|zb<|ai [1,5,6,12,13] o<|bl (γ:=Unit) (λ(c:Int×Int) _=>[(1,ts f),(5,ptr M 0),(6,.one (.int .u32) c.1),(12,ti (List.length f:Int)),(13,ti c.2)]) (λ(c:Int×Int) _=>[Res.var M 287 W71 u]) (q6 f u J) (N,0) () h o o ?_
  clear h
  intro H c gg h
  cases H with
  |zero=>cases h
  |succ H=>
  simp only[q6]at h
  refine zW o<|zs<|rI h o (λhc h=>?_) λhc h=>?_
  ·refine zk<|zt<|zs<|zb<|zU 2 o<|zZ 3 o<|iE h λhc h=>y (eA af o o hc.1 hc.2 o) o ?_
   refine q 3 [(6,.one (.int .u32) (dC .u32 c.1 (wrap .u32 (List.getD f (Int.toNat c.2) 0)))),(12,ti (List.length f:Int)),(13,ti c.2)] [1,5] o ?_
   obtain⟨W,e,h⟩:=aj h;rw[e]
   refine zZ 4 o<|iE h λhc h=>y (bO o o hc.1 hc.2 Cf cJ) o ?_
   refine y (aN 0 (.elem (Int.toNat (go .u32 W 15)) .here) o o pof (aw (by omega) aa) cJ) o ?_
   refine q 2 [(6,.one (.int .u32) (dC .u32 (ca .u32 W 4) (List.getD u (Int.toNat (go .u32 W 15)) 0)))] [1,5,12,13] o ?_
   obtain⟨C,e,h⟩:=aj h;rw[e]
   refine za<|zr<|zm 4 o<|iE h λhc h=>y (bO o o hc.1 hc.2 Cf cJ) o ?_
   refine y (aN 0 (.elem (Int.toNat (go .u32 C 15)) .here) o o pof (aw (by omega) aa) cJ) o ?_
   refine q 2 [(6,.one (.int .u32) (dC .u32 (ca .u32 C 4) (List.getD u (Int.toNat (go .u32 C 15)) 0)))] [1,5,12,13] o ?_
   obtain⟨d,e,h⟩:=aj h;rw[e]
   exact zn<|zi<|zt<|zr<|zA o<|aY (d,(wrap .i64 (c.2+1))) () (Nat.lt_succ_self _) h o o
  exact zx<|ze<|ze<|zq<|zt<|ah c.1 () h o o
 refine zU 3 o<|zf ?_
 cases h
 exact ax o (.tmp o)
theorem tP(c r)(h:sG c=some r):bw PP 175 [ts c] (.one (.int .u32) r):=by
 unfold sG at h
 refine enter Tryz.func175 o 5 o o λF=>?_
 refine zU 1 o<|zZ 1 o<|cB h λu f h=>au (u1 _ _ _ f) kr o o<|zE o ?_
 cases h
 exact ax o (.tmp o)
theorem sM(c r)(h:pf c=some r):bw PP 135 [ts c] (ts r):=by
 unfold pf at h
 refine enter Tryz.func135 o 17 o o λF=>?_
 refine zU 1 o<|zZ 3 o<|cB h λR f h=>au (uc _ _ f) kr o o<|zm 1 o<|zZ 2 o<|cB h λW u h=>au (tP _ _ u) kr o o<|zm 1 o<|cB h λC M h=>au (u1 _ _ _ M) kr o o<|cB h λH V h=>au (uc _ _ V) kr o o<|iE h λhc h=>?_
 refine y (ij o o hc) o ?_
 refine zm 1 o<|iE h λhc h=>y (ij o o hc) o ?_
 refine zE o ?_
 cases h
 exact ax o (.tmp o)
theorem yf(f:Value)(u V r)(h:tB u V=some r):Fn PP 111 [tp f,ts V] [Res.disk PP dI f u] (λ_=> .tup [⟨.str,r.1⟩,⟨(.int .i64),r.2⟩]) (λ_=>[Res.disk PP dI f u]):=by
 unfold tB at h
 refine enter Tryz.func111 o 38 o o λF=>?_
 refine zW o<|zs<|zU 1 o<|cB h λJ W h=>au (rf _ _ W) kr o o<|zA o<|rI h o (λhc h=>zU 2 o<|zf<|zT<|by cases h;exact aC (rs:=[.tmp 4,.tmp 5]) o (.cons (.tmp o) (.cons (.tmp o) (.nil))) o (λ_ vs g=>aG vs g) (λ_ _ _=>(.cons_cons _ .slnil))) λhc h=>zy<|zm 2 o<|cB h λc C h=>rc [0] (jt _ _ _ _ _ _ C) kr o o o λ_=>zA o<|zs<|zW o ?_
 refine rI h o (λhc h=>zU 3 o<|zf<|zT<|by cases h;exact aC (rs:=[.tmp 4,.tmp 5]) o (.cons (.tmp o) (.cons (.tmp o) (.nil))) o (λ_ vs g=>aG vs g) (λ_ _ _=>(.cons_cons _ .slnil))) λhc h=>zk<|zt<|zs<|zu<|q 4 [(6,ts c.1),(23,tb (decide ((List.length c.1:Int)<8)))] [] o ?_
 obtain⟨M,e,h⟩:=aj h;rw[e]
 refine aH 5 [(6,ts c.1),(28,tb (M||(decide ((wrap .i64 ((List.length c.1:Int) - 8))>1048448))))] [Res.disk PP dI f u] (?_) ?_
 ·clear h
  cases M
  ·exact zA o<|ap () o o
  exact zA o<|ap () o o
 refine q 1 [(6,ts c.1),(29,tb (M||(decide ((wrap .i64 ((List.length c.1:Int) - 8))>1048448))))] [] o ?_
 obtain⟨H,e,h⟩:=aj h;rw[e]
 refine bL h 6 (λR=>[(6,ts c.1),(35,tb R)]) (λ_=>[Res.disk PP dI f u]) (λd h=>?_) λR h=>?_
 ·cases H
  ·replace h:=ifF h
   refine zm 1 o<|al dl o ?_
   refine iE h λhc h=>y (gD (i:=8) (j:=(List.length c.1:Int)) af o o o hc.1 hc.2.1 hc.2.2 o) o ?_
   refine al dl o ?_
   exact cB h λG N h=>au (sM _ _ N) kr o o<|zN o<|zt<|ah (G !=c.1) () h o o
  replace h:=ifT h
  exact zN o<|zt<|ah true () h o o
 refine za<|rI h o (λhc h=>zU 2 o<|zf<|zT<|by cases h;exact aC (rs:=[.tmp 4,.tmp 5]) o (.cons (.tmp o) (.cons (.tmp o) (.nil))) o (λ_ vs g=>aG vs g) (λ_ _ _=>(.cons_cons _ .slnil))) λhc h=>zy<|zm 1 o<|iE h λhc h=>y (gD (i:=8) (j:=(List.length c.1:Int)) af o o o hc.1 hc.2.1 hc.2.2 o) o ?_
 refine zE o ?_
 cases h
 exact aC (rs:=[.tmp 4,.tmp 5]) o (.cons (.tmp o) (.cons (.tmp o) (.nil))) o (λ_ vs g=>aG vs g) (λ_ _ _=>(.cons_cons _ .slnil))
theorem xq(R:Value)(W f r)(h:ru W f=some r):Fn PP 64 [tp R,.one Y30 f] [Res.disk PP dI R W] (λ_=> .tup [⟨(.int .i64),r.1⟩,⟨Y30,r.2.1⟩,⟨(.int .i64),r.2.2⟩]) (λ_=>[Res.disk PP dI R W]):=by
 unfold ru at h
 refine enter Tryz.func64 o 62 o o λF=>?_
 refine zu<|bI o o λV=>zm 1 o<|aB (t:=Y30) o gU o λu=>zm 1 o<|zZ 1 o<|cB h λd N h=>rc [2] (yf _ _ _ _ N) kr o o o λ_=>zA o<|zs<|zW o<|rI h o (λhc h=>zs<|dA kr<|zF 1 [1] kr o o<|ae 0 kr o<|yl 2 .here bR o o o tr o<|zL [4,5,18] o<|ae 2 kr o<|st 1 .here bR o o o o tr<|zL [4,5] o<|zF 1 [3] kr o o<|aJ kr<|zt<|zR<|zT<|by cases h;exact aC (rs:=[.tmp 4,.cell 5 30,.tmp 6]) o (.cons (.tmp o) (.cons (.cell 1 .here o o o aa bR) (.cons (.tmp o) (.nil)))) o (λ_ vs g=>aG vs g) (λ_ _ _=>(.cons_cons _ (.cons _ (.cons _ .slnil))))) λhc h=>?_
 refine zk<|zt<|zs<|zW o<|rI h o (λhc h=>?_) λhc h=>?_
 ·refine zu<|y (bc o gU o o .nil) o ?_
  refine zm 2 o<|st 1 .here bR o o o o tr<|zE o<|zT ?_
  cases h
  exact aC (rs:=[.tmp 4,.cell 5 30,.tmp 6]) o (.cons (.tmp o) (.cons (.cell 1 .here o o o aa bR) (.cons (.tmp o) (.nil)))) o (λ_ vs g=>aG vs g) (λ_ _ _=>(.cons_cons _ (.cons _ (.cons _ .slnil))))
 refine zy<|zm 1 o<|cB h λc J h=>au (pQ _ _ J) kr o o<|zm 4 o<|aB (t:=Y30) o gU o λM=>zm 1 o<|st 0 .here bR o o o o tr<|zA o<|zs<|zW o<|rI h o (λhc h=>?_) λhc h=>?_
 ·refine zu<|y (bc o gU o o .nil) o ?_
  refine zm 2 o<|st 2 .here bR o o o o tr<|zE o<|zT ?_
  cases h
  exact aC (rs:=[.tmp 4,.cell 5 30,.tmp 6]) o (.cons (.tmp o) (.cons (.cell 2 .here o o o aa bR) (.cons (.tmp o) (.nil)))) o (λ_ vs g=>aG vs g) (λ_ _ _=>(.cons _ (.cons_cons _ (.cons _ (.cons _ .slnil)))))
 refine zk<|zt<|zs<|zU 1 o<|yl 0 f0 ty3 o o o tr o<|zm 1 o<|yl 3 f0 ty3 o o o tr o<|q 2 [(3,ptr V 0),(5,ptr u 0),(9,ti c.1),(10,ptr M 0),(38,tb (c.2.1.1 !=f.1))] [] o ?_
 obtain⟨C,e,h⟩:=aj h;rw[e]
 refine aH 6 [(3,ptr V 0),(5,ptr u 0),(9,ti c.1),(10,ptr M 0),(44,tb (C||(c.2.1.2.1 !=f.2.1)))] [Res.var M 30 Y30 c.2.1,Res.disk PP dI R W,Res.var u 30 Y30 (0,0,0,0,[],[],0,0,0,(0,0,()),(0,0,()),(0,0,()),false,(List.replicate 2 (z32:List (Int))),z32,[],0,0,()),Res.var V 30 Y30 f] (?_) ?_
 ·clear h
  cases C
  ·refine zm 1 o<|al dl o ?_
   refine yl 0 f1 ty2 o o o tr o<|zm 1 o<|al dl o ?_
   exact yl 3 f1 ty2 o o o tr o<|zA o<|ap () o o
  exact zA o<|ap () o o
 refine q 1 [(3,ptr V 0),(5,ptr u 0),(9,ti c.1),(10,ptr M 0),(45,tb (C||(c.2.1.2.1 !=f.2.1)))] [] o ?_
 obtain⟨H,e,h⟩:=aj h;rw[e]
 refine aH 6 [(3,ptr V 0),(5,ptr u 0),(9,ti c.1),(10,ptr M 0),(51,tb (H||(c.2.1.2.2.1 !=f.2.2.1)))] [Res.var M 30 Y30 c.2.1,Res.disk PP dI R W,Res.var u 30 Y30 (0,0,0,0,[],[],0,0,0,(0,0,()),(0,0,()),(0,0,()),false,(List.replicate 2 (z32:List (Int))),z32,[],0,0,()),Res.var V 30 Y30 f] (?_) ?_
 ·clear h
  cases H
  ·refine zm 1 o<|al dl o ?_
   refine yl 0 f2 ty2 o o o tr o<|zm 1 o<|al dl o ?_
   exact yl 3 f2 ty2 o o o tr o<|zA o<|ap () o o
  exact zA o<|ap () o o
 refine q 1 [(3,ptr V 0),(5,ptr u 0),(9,ti c.1),(10,ptr M 0),(52,tb (H||(c.2.1.2.2.1 !=f.2.2.1)))] [] o ?_
 obtain⟨G,e,h⟩:=aj h;rw[e]
 refine aH 6 [(5,ptr u 0),(9,ti c.1),(10,ptr M 0),(58,tb (G||(c.2.1.2.2.2.1 !=f.2.2.2.1)))] [Res.var M 30 Y30 c.2.1,Res.disk PP dI R W,Res.var u 30 Y30 (0,0,0,0,[],[],0,0,0,(0,0,()),(0,0,()),(0,0,()),false,(List.replicate 2 (z32:List (Int))),z32,[],0,0,()),Res.var V 30 Y30 f] (?_) ?_
 ·clear h
  cases G
  ·refine zm 1 o<|al dl o ?_
   refine yl 0 f3 ty2 o o o tr o<|zm 1 o<|al dl o ?_
   exact yl 3 f3 ty2 o o o tr o<|zA o<|ap () o o
  exact zA o<|ap () o o
 refine za<|rI h o (λhc h=>?_) λhc h=>?_
 ·refine zu<|y (bc o gU o o .nil) o ?_
  refine zm 1 o<|st 2 .here bR o o o o tr<|zE o<|zT ?_
  cases h
  exact aC (rs:=[.tmp 4,.cell 5 30,.tmp 6]) o (.cons (.tmp o) (.cons (.cell 2 .here o o o aa bR) (.cons (.tmp o) (.nil)))) o (λ_ vs g=>aG vs g) (λ_ _ _=>(.cons _ (.cons_cons _ (.cons _ (.cons _ .slnil)))))
 refine zk<|zt<|zs<|dA kr<|zF 2 [0,2] kr o o<|ae 1 kr o<|yl 0 .here bR o o o tr o<|zL [4,5,61] o<|ae 3 kr o<|st 2 .here bR o o o o tr<|zL [4,5] o<|zF 1 [4] kr o o<|aJ kr<|zt ?_
 refine zR ?_
 cases h
 exact aC (rs:=[.tmp 4,.cell 5 30,.tmp 6]) o (.cons (.tmp o) (.cons (.cell 2 .here o o o aa bR) (.cons (.tmp o) (.nil)))) o (λ_ vs g=>aG vs g) (λ_ _ _=>(.cons _ (.cons_cons _ (.cons _ (.cons _ .slnil)))))
theorem Ad(c r)(h:uN c=some r):bw PP 112 [ts c] (tb r):=by
 unfold uN at h
 refine enter Tryz.func112 o 27 o o λF=>?_
 refine zu<|q 1 [(0,ts c)] [] o<|za<|bD h (λu=>[(0,ts c)]) (λu=>[]) (λW h=>?_) λu h=>?_
 ·refine zW o<|zb<|ai [0,5,6] o<|bl (γ:=Unit) (λ(f:Int) _=>[(0,ts c),(5,ti (List.length c:Int)),(6,ti f)]) (λ(f:Int) _=>[]) (nZ c W) 0 () h o o ?_
  clear h
  intro M f gg h
  cases M with
  |zero=>cases h
  |succ M=>
  simp only[nZ]at h
  refine zW o<|zs<|rI h o (λhc h=>?_) λhc h=>?_
  ·refine zk<|zt<|zs<|zb<|zU 2 o<|zZ 2 o<|iE h λhc h=>y (eA af o o hc.1 hc.2 o) o ?_
   refine q 2 [(3,ti f),(5,ti (List.length c:Int)),(6,ti f),(13,tb (decide ((List.getD c (Int.toNat f) 0)<33)))] [0] o ?_
   obtain⟨C,e,h⟩:=aj h;rw[e]
   refine bL h 5 (λV=>[(0,ts c),(5,ti (List.length c:Int)),(6,ti f),(18,tb V)]) (λ_=>[]) (λH h=>?_) λV h=>?_
   ·cases C
    ·replace h:=ifF h
     refine zm 2 o<|al dl o ?_
     refine iE h λhc h=>y (eA af o o hc.1 hc.2 o) o ?_
     exact zN o<|zt<|ah (decide ((List.getD c (Int.toNat f) 0)>126)) () h o o
    replace h:=ifT h
    exact zN o<|zt<|ah true () h o o
   exact za<|rI h o (λhc h=>zU 1 o<|zf<|zB<|zT<|zT<|zB<|zT<|by cases h;exact ax o (.tmp o)) λhc h=>zk<|zi<|zt<|zr<|zA o<|aY (wrap .i64 (f+1)) () (Nat.lt_succ_self _) h o o
  exact zx<|ze<|ze<|zq<|zt<|ah () () h o o
 refine zu<|q 3 [(0,ts c),(22,tb (c !=[]))] [] o ?_
 obtain⟨R,e,h⟩:=aj h;rw[e]
 refine aH 4 [(26,tb (R&&(decide ((List.length c:Int)≤24))))] [] (?_) ?_
 ·clear h
  cases R
  ·exact zA o<|ap () o o
  exact zA o<|ap () o o
 refine zE o ?_
 cases h
 exact ax o (.tmp o)
theorem wh(f:Value)(c r)(h:pM c=some r):Fn PP 19 [tp f] [Res.disk PP dI f c] (λ_=>tb r) (λ_=>[Res.disk PP dI f c]):=by
 unfold pM at h
 refine enter Tryz.func19 o 7 o o λF=>?_
 refine iy λu M hp=>?_
 subst hp
 refine zU 1 o<|zZ 3 o<|yl 0 f5 ty4 o o o tr o<|zE o<|cC (P:=PP) (I:=dI) (D:=c) ?_
 cases h
 exact bm o (.tmp o) (.cons_cons _ .slnil)
theorem pH(p:Value):Fn PP 113 [.one (.raw NV) p] [] (λv=> .one W82 v) (λv=>[Res.seqv 154 127 v p]):=by
 refine enter Tryz.func113 o 4 o o λF=>?_
 refine gV ?_
 refine ez ?_
 refine bI o o λb=>?_
 refine gN af 1 [1] (E':=[(1,ptr b 0)]) o ?_
 refine iI ?_
 refine fL ?_
 refine gV ?_
 refine ez ?_
 refine y (Be o) o ?_
 refine gN af 1 [2] (E':=[(2,.one W82 (.func (.func 154) #[] #[adr b]))]) o ?_
 refine iI ?_
 refine fL ?_
 refine sX ?_
 refine Res.seqv_of (g:=154) ?_
 exact aT o (.tmp o) (λ_ _ g=>holds_raw.2 ⟨rfl,by rw[(holds_raw.1 g).1];exact(holds_raw.1 g).2⟩) (λ_ _ g=>by obtain⟨rfl,_⟩:=holds_raw.1 g;exact List.Sublist.refl _)
theorem Hy:qs PP 180 Go.Proofs.encStr (λx y=>decide (x≤y)):=DN Tryz.laysSortS
theorem vB(R:Value)(c:aU)(r:List (List Int))(h:oL c=some r):Fn PP 155 [.one (.raw NV) R] [Res.disk PP dI R c] (λv=> .one W69 v) (λv=>[Res.disk PP dI R c,Res.own v 9 .str r]):=by
 unfold oL at h
 refine enter Tryz.func155 o 25 o o λF=>?_
 refine iy λf u hp=>?_
 subst hp
 refine gV ?_
 refine ez ?_
 refine gN af 1 [0] (E':=[(0,ptr f 0)]) o ?_
 refine iI ?_
 refine fL ?_
 refine gV ?_
 refine gV ?_
 refine ez ?_
 refine gN af 3 [0,7] (E':=[(0,ptr f 0),(7,ptr f 5)]) o ?_
 refine y (aN 0 f5 o o o (ab (ab (ab (ab (ab (av aa)))))) ty4) o ?_
 refine iI ?_
 refine fL ?_
 refine iK (b:=c.2.2.2.2.2.1) o (λhc=>?_) (λhc=>?_)
 ·rw[if_pos hc]at h
  refine gV ?_
  refine ez ?_
  refine gN af 1 [2] (E':=[(2,.one W69 (.slice none 0 0))]) o ?_
  refine iI ?_
  refine fL ?_
  refine sX ?_
  refine yJ ?_
  refine cC (P:=PP) (I:=dI) (D:=c) ?_
  refine bH (.slice none 0 0) o 9 .str ?_
  refine l6 ?_
  obtain rfl:=Option.some.inj h
  exact aT o (.tmp o) (λ_ _ g=>bg g) (λ_ _ g=>by obtain⟨rfl,_⟩:=holds_raw.1 g;exact List.Sublist.refl _)
 ·rw[if_neg (ne_true_of_eq_false hc)]at h
  obtain⟨hlen,h⟩:=cu h
  obtain rfl:=Option.some.inj h
  refine si ?_
  refine fL ?_
  refine gV ?_
  refine ez ?_
  refine gN af 1 [0,3] (E':=[(0,ptr f 0),(3,.one W69 (.slice none 0 0))]) o ?_
  refine iI ?_
  refine fL ?_
  repeat refine gV ?_
  refine ez ?_
  refine gN af 3 [0,3,11] (E':=[(0,ptr f 0),(3,.one W69 (.slice none 0 0)),(11,ptr f 1)]) o ?_
  refine y (aN 0 f1 o o o (ab (av aa)) m9) o ?_
  refine l6 ?_
  refine zg ep o Tryz.underlying121 o λV G=>?_
  refine iI ?_
  refine fL ?_
  refine u7 ?_
  refine bH (.slice none 0 0) o 9 .str ?_
  refine ai [0,3,13] o ?_
  refine pz (p:=(([]:List (List Int))++c.2.1.map (·.1)).Perm (c.2.1.map (·.1))) (List.Perm.refl _) ?_
  refine Fi (σ:=List (List Int)×Value×List (List Int)) (λs=>[(0,ptr f 0),(3,.one W69 s.2.1),(13,.one W70 V)]) (λs=>[Res.fact ((s.2.2++s.1).Perm (c.2.1.map (·.1))),Res.own s.2.1 9 .str s.2.2,Res.diter PP dI u V c.2.1 s.1 none none,Res.var f 123 DT (cL c u c.2.2.2.2.2.2 ())]) (λs=>s.1.length) (c.2.1.map (·.1),.slice none 0 0,[]) o o ?_
  rintro⟨todo,M,xs⟩
  refine dt λhperm=>?_
  refine l6 ?_
  refine gV ?_
  refine ez ?_
  refine xb ep o o (λht=>?_) (λA k B q htk hk=>?_)
  ·have W:xs.Perm (c.2.1.map (·.1)):=by have hp:=hperm;simp only at ht hp;rw[ht,List.append_nil]at hp;exact hp
   refine wC ?_
   refine gN af 1 [0,3,15] (E':=[(0,ptr f 0),(3,.one W69 M),(15,.one .bool false)]) o ?_
   refine iI ?_
   refine fL ?_
   refine gV ?_
   refine iK (b:=false) o (λhc=>?_) (λhc=>?_)
   ·cases hc
   ·refine yH ?_
    refine wm ?_
    refine wm ?_
    refine Dq ?_
    refine fL ?_
    refine CQ ep λhko hso=>?_
    refine l6 ?_
    refine gV ?_
    refine ez ?_
    refine gN af 1 [3,22] (E':=[(3,.one W69 M),(22,.one W69 M)]) o ?_
    refine il (Lo:=[Res.dfiles PP dI u c.2.1,Res.var f 123 DT (cL c u c.2.2.2.2.2.2 ())]) (DP Hy W hso (λx hx=>by obtain⟨p,hp,rfl⟩:=List.mem_map.1 (W.mem_iff.1 hx);exact(hko p hp).1) (by rw[W.length_eq,List.length_map];omega) M) kr (List.Perm.refl _) o o λ_=>?_
    refine iI ?_
    refine fL ?_
    refine gV ?_
    refine ez ?_
    refine gN af 2 [2] (E':=[(2,.one W69 M)]) o ?_
    refine iI ?_
    refine fL ?_
    refine sX ?_
    refine nM (L':=[Res.var f 123 DT (cL c u c.2.2.2.2.2.2 ()),Res.dfiles PP dI u c.2.1,Res.own M 9 .str (c.2.1.map (·.1))]) ((List.Perm.swap _ _ _).trans ((List.Perm.cons _ (List.Perm.swap _ _ _)).trans (List.Perm.swap _ _ _))) ?_
    refine cC (P:=PP) (I:=dI) (D:=c) ?_
    exact aT o (.tmp o) (λ_ _ g=>bg g) (λ_ _ g=>by obtain⟨rfl,_⟩:=holds_raw.1 g;exact List.Sublist.refl _)
  ·refine gN af 1 [0,3,13,15] (E':=[(0,ptr f 0),(3,.one W69 M),(13,.one W70 V),(15,.one .bool true)]) o ?_
   refine iI ?_
   refine fL ?_
   refine gV ?_
   refine iK (b:=true) o (λhc=>?_) (λhc=>?_)
   ·refine si ?_
    refine fL ?_
    refine u7 ?_
    refine gV ?_
    refine ez ?_
    refine y (vZ o 0 o) o ?_
    refine gN af 2 [0,3,4,13] (E':=[(0,ptr f 0),(3,.one W69 M),(4,.one .str k),(13,.one W70 V)]) o ?_
    refine iI ?_
    refine fL ?_
    refine ez ?_
    refine gN af 2 [0,13,18,19] (E':=[(0,ptr f 0),(13,.one W70 V),(18,.one W69 M),(19,.one .str k)]) o ?_
    refine bC (B:=16) af o el9 o o o (.cons o .nil) o λN=>?_
    have hroom:(List.length xs+List.length [k])*16≤140737488355328:=by
     have C:=hperm.length_eq
     simp only at htk C
     rw[htk]at C
     simp only[List.length_append,List.length_cons,List.length_nil,List.length_map]at C⊢
     omega
    refine aW (B:=16) af 2 o o (bM 0 o o) o el9 o o hroom o λH=>?_
    refine gN af 1 [0,3,13] (E':=[(0,ptr f 0),(3,.one W69 H),(13,.one W70 V)]) o ?_
    refine iI ?_
    refine xA ?_
    refine fL ?_
    refine yM (L':=[Res.diter PP dI u V c.2.1 (A++B) (some (k,q)) none,Res.own H 9 .str (xs++[k]),Res.var f 123 DT (cL c u c.2.2.2.2.2.2 ())]) (.cons _ (List.Sublist.refl _)) ?_
    refine az (R':=Res.diter PP dI u V c.2.1 (A++B) none none) 0 o tg ?_
    refine l6 ?_
    refine pz (p:=((xs++[k])++(A++B)).Perm (c.2.1.map (·.1))) (by
     have hp:=hperm
     simp only at htk hp
     rw[htk]at hp
     refine List.Perm.trans ?_ hp
     rw[List.append_assoc]
     exact List.Perm.append_left _ (List.perm_middle (a:=k) (l₁:=A) (l₂:=B)).symm) ?_
    exact Fj (A++B,H,xs++[k]) (by simp only at htk⊢;rw[htk];simp) o o
   ·cases hc
theorem jL(f c r)(h:fM f c=some r):bw PP 192 [ts f,ts c] (tb r):=by
 unfold fM at h
 refine enter Tryz.func192 o 18 o o λF=>?_
 refine zU 1 o<|zz<|q 6 [(0,ts f),(1,ts c),(10,tb (decide ((List.length f:Int)≥(List.length c:Int))))] [] o ?_
 obtain⟨M,e,h⟩:=aj h;rw[e]
 refine bL h 7 (λu=>[(17,tb u)]) (λ_=>[]) (λV h=>?_) λu h=>?_
 ·cases M
  ·replace h:=ifF h
   exact zN o<|zt<|ah false () h o o
  replace h:=ifT h
  refine zm 3 o<|al dl o ?_
  refine iE h λhc h=>y (gD (i:=(0:Int)) (j:=(List.length c:Int)) af o o o hc.1 hc.2.1 hc.2.2 o) o ?_
  exact zN o<|zt<|ah ((List.drop 0 (List.take (Int.toNat (List.length c:Int)) f))==c) () h o o
 refine zE o ?_
 cases h
 exact ax o (.tmp o)
theorem mX(c f r)(h:hO c f=some r):bw PP 181 [ts c,ts f] (.tup [⟨.str,r.1⟩,⟨.bool,r.2⟩]):=by
 unfold hO at h
 refine enter Tryz.func181 o 15 o o λF=>?_
 refine zW o<|zs<|zU 2 o<|cB h λM u h=>au (jL _ _ _ u) kr o o<|zA o<|rI h o (λhc h=>zU 3 o<|zf<|zT<|by cases h;exact aC (rs:=[.tmp 4,.tmp 5]) o (.cons (.tmp o) (.cons (.tmp o) (.nil))) o (λ_ vs g=>aG vs g) (λ_ _ _=>List.nil_sublist _)) λhc h=>zy<|zm 3 o<|iE h λhc h=>y (gD (i:=(List.length f:Int)) (j:=(List.length c:Int)) af o o o hc.1 hc.2.1 hc.2.2 o) o ?_
 refine q 1 [(4,ts (List.drop (Int.toNat (List.length f:Int)) (List.take (Int.toNat (List.length c:Int)) c)))] [] o ?_
 obtain⟨V,e,h⟩:=aj h;rw[e]
 refine zE o ?_
 cases h
 exact aC (rs:=[.tmp 4,.tmp 5]) o (.cons (.tmp o) (.cons (.tmp o) (.nil))) o (λ_ vs g=>aG vs g) (λ_ _ _=>List.nil_sublist _)
theorem tQ(c f r)(h:mE c f=some r):bw PP 156 [ts c,ts f] (.tup [⟨.str,r.1⟩,⟨.bool,r.2⟩]):=by
 unfold mE at h
 refine enter Tryz.func156 o 11 o o λF=>?_
 refine zU 2 o<|zZ 2 o<|cB h λM u h=>au (mX _ _ _ u) kr o o<|zE o ?_
 cases h
 exact aC (rs:=[.tmp 4,.tmp 5]) o (.cons (.tmp o) (.cons (.tmp o) (.nil))) o (λ_ vs g=>aG vs g) (λ_ _ _=>List.nil_sublist _)
theorem yg(c r)(h:tC c=some r):bw PP 157 [ts c] (ti r):=by
 unfold tC at h
 refine enter Tryz.func157 o 48 o o λF=>?_
 refine zW o<|zs<|zu<|q 3 [(0,ts c),(7,tb (c==[]))] [] o ?_
 obtain⟨C,e,h⟩:=aj h;rw[e]
 refine bL h 9 (λR=>[(0,ts c),(16,tb R)]) (λ_=>[]) (λd h=>?_) λR h=>?_
 ·rcases Bool.eq_false_or_eq_true C with hh|hh
  ·rw[hh]at h⊢
   rw[if_pos o]at h
   exact zN o<|zt<|ah true () h o o
  rw[hh]at h⊢
  rw[if_neg (by decide)]at h
  refine q 4 [(7,tb false),(11,tb (decide ((List.length c:Int)>1)))] [0] o ?_
  obtain⟨H,e,h⟩:=aj h;rw[e]
  refine bL h 4 (λM=>[(0,ts c),(7,tb false),(15,tb M)]) (λ_=>[]) (λm h=>?_) λM h=>?_
  ·cases H
   ·replace h:=ifF h
    exact zN o<|zt<|ah false () h o o
   replace h:=ifT h
   refine zm 1 o<|al dl o ?_
   refine iE h λhc h=>y (eA af o o hc.1 hc.2 o) o ?_
   exact zN o<|zt<|ah ((List.getD c 0 0)==48) () h o o
  exact zN o<|zt<|ah M () h o o
 refine za<|rI h o (λhc h=>zU 1 o<|zf<|zT<|by cases h;exact ax o (.tmp o)) λhc h=>zy<|q 1 [(0,ts c),(3,ti 0)] [] o<|za<|bD h (λV=>[(3,ti V)]) (λV=>[]) (λG h=>?_) λV h=>?_
 ·refine zW o<|zb<|ai [0,3,18,19] o<|bl (γ:=Unit) (λ(f:Int×Int) _=>[(0,ts c),(3,ti f.1),(18,ti (List.length c:Int)),(19,ti f.2)]) (λ(f:Int×Int) _=>[]) (m3 c G) (0,0) () h o o ?_
  clear h
  intro W f gg h
  cases W with
  |zero=>cases h
  |succ W=>
  simp only[m3]at h
  refine zW o<|zs<|rI h o (λhc h=>?_) λhc h=>?_
  ·refine zk<|zt<|zs<|zb<|zW o<|zs<|zU 2 o<|iE h λhc h=>y (eA af o o hc.1 hc.2 o) o ?_
   refine q 2 [(3,ti f.1),(4,ti f.2),(18,ti (List.length c:Int)),(19,ti f.2),(26,tb (decide ((List.getD c (Int.toNat f.2) 0)<48)))] [0] o ?_
   obtain⟨N,e,h⟩:=aj h;rw[e]
   refine bL h 5 (λu=>[(0,ts c),(3,ti f.1),(4,ti f.2),(18,ti (List.length c:Int)),(19,ti f.2),(31,tb u)]) (λ_=>[]) (λO h=>?_) λu h=>?_
   ·cases N
    ·replace h:=ifF h
     refine zm 2 o<|al dl o ?_
     refine iE h λhc h=>y (eA af o o hc.1 hc.2 o) o ?_
     exact zN o<|zt<|ah (decide ((List.getD c (Int.toNat f.2) 0)>57)) () h o o
    replace h:=ifT h
    exact zN o<|zt<|ah true () h o o
   refine q 1 [(0,ts c),(3,ti f.1),(4,ti f.2),(18,ti (List.length c:Int)),(19,ti f.2),(32,tb u)] [] o<|aH 3 [(0,ts c),(3,ti f.1),(4,ti f.2),(18,ti (List.length c:Int)),(19,ti f.2),(35,tb (u||(decide (f.1>9999999))))] [] (?_) ?_
   ·clear h
    cases u
    ·exact zA o<|ap () o o
    exact zA o<|ap () o o
   refine za<|rI h o (λhc h=>zU 1 o<|zf<|zT<|zB<|zT<|zT<|zB<|zT<|by cases h;exact ax o (.tmp o)) λhc h=>zk<|zt<|zr<|zm 4 o<|iE h λhc h=>y (eA af o o hc.1 hc.2 o) o ?_
   refine q 3 [(0,ts c),(18,ti (List.length c:Int)),(19,ti f.2),(43,ti (wrap .i64 ((wrap .i64 (10*f.1))+(wrap .i64 (wrap .u8 ((List.getD c (Int.toNat f.2) 0) - 48))))))] [] o ?_
   obtain⟨J,e,h⟩:=aj h;rw[e]
   exact zN o<|zi<|zt<|zr<|zA o<|aY (J,(wrap .i64 (f.2+1))) () (Nat.lt_succ_self _) h o o
  exact zx<|ze<|ze<|zq<|zt<|ah f.1 () h o o
 refine zs<|zW o<|rI h o (λhc h=>zU 1 o<|zf<|zT<|by cases h;exact ax o (.tmp o)) λhc h=>zy<|zE o ?_
 cases h
 exact ax o (.tmp o)
theorem Hz:qs PP 158 (Value.int .i64) (λx y=>decide (x≤y)):=DO Tryz.laysSortI
theorem ow(R:Nat)(d f:Value)(u C r)(h:kq u C=some r):IterOk PP (TabM PP bN) 154 [adr R] [Res.var R 127 W70 d,Res.cls (co f) d u,Res.disk PP dI f C] r:=by
 unfold kq at h
 refine IterOk.of λF w l K B Lo hT hR hK hperm hst=>?_
 refine CN (F:=F) (args:=[.one W82 (.func (.yield l) #[] #[]),ptr R 0]) Tryz.func154 o 56 o o ?_ hst (.cons (holds_raw.2 ⟨rfl,o⟩) (.cons (holds_raw.2 ⟨rfl,o⟩) .nil))
 refine D2 (Lc:=[Res.var R 127 W70 d,Res.cls (co f) d u,Res.disk PP dI f C]) λF1 hle back=>?_
 replace hT:=TabM.mono hle hT
 refine pk [1,0,0] o<|nn λW a8 hp=>?_
 subst hp
 refine cd (x:=u) (q:=f) ?_
 refine pk [1,0,0] o<|zu<|q 1 [(0,.one W82 (.func (.yield l) #[] #[])),(1,ptr R 0),(3,.one W69 (.slice none 0 0))] [] o<|bH (.slice none 0 0) o 3 (.int .i64) ?_
 refine za<|jK h (γ:=Value) (λc g5=>[(0,.one W82 (.func (.yield l) #[] #[])),(3,.one W69 g5)]) (λc g5=>[Res.cls (co f) (.pointer (some ⟨W,0,none⟩)) u,Res.disk PP dI f C,Res.own g5 3 (.int .i64) c,Res.var R 127 W70 (.pointer (some ⟨W,0,none⟩))]) (λk3 h=>?_) λc g5 h=>?_
 ·refine zs<|pk [2,0,0,0] o<|fY λH=>?_
  refine zr<|yl 3 .here dm o o o tr o<|zm 2 o<|yl 0 f0 ec o o o tr o<|cB h λM a3 h=>rc [4] (vB _ _ _ a3) kr o o o λv8=>y (ct af 1 o o o) o ?_
  refine zA o<|zb<|ai [0,1,3,15,16,17] o<|bl (γ:=Value×Value) (λ(V:Int×List (Int)) g17=>[(0,.one W82 (.func (.yield l) #[] #[])),(1,ptr R 0),(3,.one W69 g17.2),(15,.one W69 g17.1),(16,ti (List.length M:Int)),(17,ti V.1)]) (λ(V:Int×List (Int)) g17=>[Res.disk PP dI f C,Res.own g17.1 9 .str M,Res.var W 186 W43 (bT u f H),Res.own H 195 Y195 u.2.2.2.1,Res.own g17.2 3 (.int .i64) V.2,Res.var R 127 W70 (.pointer (some ⟨W,0,none⟩))]) (jw u k3 M) (0,[]) (v8,(.slice none 0 0)) h o o ?_
  clear h
  intro a2 V g17 h
  cases a2 with
  |zero=>cases h
  |succ a2=>
  simp only[jw]at h
  refine zW o<|zs<|rI h o (λhc h=>?_) λhc h=>?_
  ·refine zk<|zt<|jK h (γ:=Value×Value) (λ(O:List (Int)) g23=>[(0,.one W82 (.func (.yield l) #[] #[])),(1,ptr R 0),(3,.one W69 g23.2),(15,.one W69 g23.1),(16,ti (List.length M:Int)),(17,ti V.1)]) (λ(O:List (Int)) g23=>[Res.disk PP dI f C,Res.own g23.1 9 .str M,Res.var W 186 W43 (bT u f H),Res.own H 195 Y195 u.2.2.2.1,Res.own g23.2 3 (.int .i64) O,Res.var R 127 W70 (.pointer (some ⟨W,0,none⟩))]) (λa9 h=>?_) λO g23 h=>?_
   ·refine zb<|zu<|iE h λhc h=>cT 1 o (by omega) λG N J hv=>?_
    rw[hv]
    try clear hv
    refine y (dn af o o hc.1 (by first|exact hc.2|simpa using hc.2) o ty9) o ?_
    refine y (eC 1 (Int.toNat V.1) .here o o (by omega) pof aa ty9) o ?_
    refine q 1 [(3,.one W69 g17.2),(5,ts (List.getD M (Int.toNat V.1) [])),(15,.one W69 (.slice (some ⟨G,N,none⟩) (List.length M) J)),(16,ti (List.length M:Int)),(17,ti V.1)] [0,1] o ?_
    obtain⟨f27,e,h⟩:=aj h;rw[e]
    refine zZ 1 o<|yl 5 .here dm o o o tr o<|zm 2 o<|yl 2 f1 ty9 o o o tr o<|iE h λhc h=>y (ij o o hc) o ?_
    refine cB h λa0 a4 h=>au (tQ _ _ _ a4) kr o o<|zm 5 o<|zZ 1 o<|cB h λZ a5 h=>au (yg _ _ a5) kr o o<|zm 1 o<|zz<|q 2 [(8,ti Z),(34,tb a0.2)] [0,1,3,15,16,17] o<|aH 3 [(0,.one W82 (.func (.yield l) #[] #[])),(1,ptr R 0),(3,.one W69 g17.2),(8,ti Z),(15,.one W69 (.slice (some ⟨G,N,none⟩) (List.length M) J)),(16,ti (List.length M:Int)),(17,ti V.1),(37,tb (a0.2&&(decide (Z≥0))))] [Res.disk PP dI f C,Res.own (.slice (some ⟨G,N,none⟩) (List.length M) J) 9 .str M,Res.var W 186 W43 (bT u f H),Res.own H 195 Y195 u.2.2.2.1,Res.own g17.2 3 (.int .i64) V.2,Res.var R 127 W70 (.pointer (some ⟨W,0,none⟩))] (?_) ?_
    ·clear h
     rcases Bool.eq_false_or_eq_true a0.2 with hh|hh
     ·rw[hh]
      exact zA o<|ap () o o
     rw[hh]
     exact zA o<|ap () o o
    refine za<|rI h o (λhc h=>?_) λhc h=>?_
    ·refine zr<|zm 2 o<|bC (B:=8) af o el3 o o o (.cons o .nil) o λb0=>?_
     refine iE h λhc h=>aW (B:=8) af 5 o o (bM 0 o o) o el3 o o hc o λa6=>?_
     exact pk [1,1,1,1,1,1] o<|zN o<|zi<|zt<|ah (V.2++[Z]) ((.slice (some ⟨G,N,none⟩) (List.length M) J),a6) h o o
    exact zk<|zi<|zt<|ah V.2 ((.slice (some ⟨G,N,none⟩) (List.length M) J),g17.2) h o o
   exact zr<|zA o<|aY ((wrap .i64 (V.1+1)),O) (g23.1,g23.2) (Nat.lt_succ_self _) h o o
  refine zx<|ze<|ze<|zq<|zt<|pk [2,2,0,0,0,0] o<|cd (x:=u) (q:=f) ?_
  exact pk [0,0,1,1] o<|ah V.2 g17.2 h o o
 refine zU 1 o ?_
 obtain⟨hsrt,h⟩:=cu h
 refine rc [2] (DR Hz hsrt _) kr o o o λ_=>zZ 1 o<|y (ct af 0 o o o) o ?_
 refine zA o<|l5 (i:=0) (k:=45) o o ?_
 refine pk [2,0,0] o<|ai [0,45,46,47] o ?_
 cases h
 refine BS back ?_
 refine zb ?_
 have hlen:List.length (ff c)<4611686018427387904:=by rw[(rn _).length_eq];exact hsrt
 refine FD (σ:=Nat×List Res) (λm s=>m=List.length (ff c) - s.1∧s.1≤List.length (ff c)∧K (List.drop s.1 (ff c)) s.2) (λs=>[(0,.one W82 (.func (.yield l) #[] #[])),(45,.one W77 (ff c)),(46,ti (List.length (ff c):Int)),(47,ti (s.1:Int))]) (λs=>s.2) (List.length (ff c)) (0,[Res.var R 127 W70 (.pointer (some ⟨W,0,none⟩)),Res.cls (co f) (.pointer (some ⟨W,0,none⟩)) u,Res.disk PP dI f C]++Lo) ⟨rfl,Nat.zero_le _,hK⟩ o o ?_
 rintro m ⟨i,LK⟩ ⟨hm,hi,hKi⟩
 dsimp only at hm hi hKi
 refine zW o<|zs ?_
 refine iK (b:=decide ((i:Int)<(List.length (ff c):Int))) o (λhc=>?_) (λhc=>?_)
 ·have hlt:i<List.length (ff c):=by have:=of_decide_eq_true hc;omega
  obtain⟨x,rest,hdr,hgx,a7⟩:=yc hlt
  refine si ?_
  refine fL ?_
  refine gV ?_
  refine u7 ?_
  refine gV ?_
  refine ez ?_
  refine y (eo af o o (by omega) (by omega) o ty3) o ?_
  refine y (de o ty3) o ?_
  refine gN af 1 [0,45,46,47,10] (E':=[(0,.one W82 (.func (.yield l) #[] #[])),(45,.one W77 (ff c)),(46,ti (List.length (ff c):Int)),(47,ti (i:Int)),(10,ti (List.getD (ff c) (Int.toNat (i:Int)) 0))]) o ?_
  refine iI ?_
  refine fL ?_
  refine gV ?_
  rw[show List.getD (ff c) (Int.toNat (i:Int)) 0=x from hgx]
  refine C4 (A:=K rest) (B:=B) o o o o o o o o (λhr=>hR x rest LK hr (hdr▸hKi)) (λL' hA=>?_) (λL' hB=>?_)
  ·refine fL ?_
   refine iK (b:=false) o (λhc=>?_) (λhc=>?_)
   ·cases hc
   ·refine si ?_
    refine xA ?_
    refine fL ?_
    refine ez ?_
    refine gN af 2 [0,45,46,47] (E':=[(0,.one W82 (.func (.yield l) #[] #[])),(45,.one W77 (ff c)),(46,ti (List.length (ff c):Int)),(47,ti (wrap .i64 ((i:Int)+1)))]) o ?_
    refine iI ?_
    refine fL ?_
    rw[CU hlt hlen]
    exact FE (List.length (ff c) - (i+1)) (i+1,L') (by omega) ⟨rfl,hlt,by rw[a7];exact hA⟩ o o
  ·refine fL ?_
   refine iK (b:=true) o (λhc=>?_) (λhc=>?_)
   ·refine sX ?_
    refine AG ?_
    refine yJ ?_
    refine yJ ?_
    refine AG ?_
    exact FF o (.inr hB)
   ·cases hc
 ·have hge:List.length (ff c)≤i:=by have:=of_decide_eq_false hc;omega
  refine yH ?_
  refine wm ?_
  refine wm ?_
  refine Dq ?_
  exact C5 o (.inl (by rw[List.drop_eq_nil_of_le hge]at hKi;exact hKi))
theorem wR(c r)(h:strconv_Itoa c=some r):FnT PP bN 164 [ti c] [] (λ_=>ts r) (λ_=>[]):=CT (.head _) Go.Proofs.Tryz.strconv_Itoa c r h
theorem aI(u:Nat)(M V:Value)(c f r)(h:fV c f=some r):FnT PP bN 116 [ptr u 0,ti f] [Res.var u 186 W43 (bT c M V)] (λ_=>ts r) (λ_=>[Res.var u 186 W43 (bT c M V)]):=by
 unfold fV at h
 refine iM Tryz.func116 o 13 o o λF hT=>?_
 refine zW o<|zs<|ef kr kr ?_
 refine ay af 3 [1,7] (E':=[(1,ti f),(7,ptr u 1)]) o ?_
 refine q_y (aN 0 f1 o o o (ab (av aa)) ty9) o ?_
 refine iE h λhc h=>q_y (ij o o hc) o ?_
 refine ay af 1 [9,10] (E':=[(9,ts (c.2.1++[46])),(10,ti f)]) o ?_
 refine cB h λR W h=>DS hT dl (wR f _ W) kr o o o ?_
 refine iE h λhc h=>q_y (ij o o hc) o ?_
 refine ay af 1 [4] (E':=[(4,ts ((c.2.1++[46])++R))]) o ?_
 refine eK ?_
 refine zt<|zR ?_
 cases h
 exact bm o (.tmp o) (.cons_cons _ .slnil)
theorem kA(M:Value)(c f r)(h:mn c f=some r):Fn PP 120 [tp M,ts f] [Res.disk PP dI M c] (λ_=> .tup [⟨(.int .i64),r.1⟩,⟨(.int .i64),r.2⟩]) (λ_=>[Res.disk PP dI M c]):=by
 unfold mn at h
 refine enter Tryz.func120 o 22 o o λF=>?_
 refine iy λR u hp=>?_
 subst hp
 refine zU 2 o<|zZ 2 o<|cB h λH W h=>il (Lo:=[]) (gS R u c f _ W) kr (List.Perm.refl _) o o λC=>?_
 refine zA o<|zs<|zW o<|rI h o (λhc h=>zU 3 o<|zf<|zT<|az (R':=Res.dfiles PP dI u c.2.1) 1 o fZ<|cC (P:=PP) (I:=dI) (D:=c)<|by cases h;exact aC (rs:=[.tmp 4,.tmp 5]) o (.cons (.tmp o) (.cons (.tmp o) (.nil))) o (λ_ vs g=>aG vs g) (λ_ _ _=>(.cons_cons _ .slnil))) λhc h=>zk<|zt<|zs<|iE h λhc h=>az (R':=Res.dat PP dI u c.2.1 f (aK C 0)) 1 o (nR hc)<|cB h λf5 V h=>pk [1,0] o<|jd ep V λG N J d hq=>?_
 rw[hq]
 clear hq
 refine zr<|zm 3 o<|yl 0 f0 tx3 o o o tr o<|y (ct af 1 o o o) o ?_
 refine zE o<|j8 (P:=PP) (I:=dI) ep V ?_
 refine az (R':=Res.dfiles PP dI u c.2.1) 0 o cw<|nL o<|pk [1,0] o<|cC (P:=PP) (I:=dI) (D:=c) ?_
 cases h
 exact aC (rs:=[.tmp 4,.tmp 5]) o (.cons (.tmp o) (.cons (.tmp o) (.nil))) o (λ_ vs g=>aG vs g) (λ_ _ _=>(.cons_cons _ .slnil))
theorem pR(u f r)(h:n0 u f=some r):bw PP 173 [.one (.int .u64) u,ti f] (ts r):=by
 unfold n0 at h
 refine enter Tryz.func173 o 28 o o λF=>?_
 refine zU 1 o<|zZ 1 o<|iE h λhc h=>yO (B:=1) af o el5 o zf5 o o o hc.1 hc.2 o λV=>?_
 refine q 1 [(0,.one (.int .u64) u),(1,ti f),(5,.one W69 V)] [] o<|za<|jK h (γ:=Value) (λM g4=>[(5,.one W69 g4)]) (λM g4=>[Res.own g4 5 (.int .u8) M]) (λW h=>?_) λM g4 h=>?_
 ·refine zU 1 o<|y (ct af 0 o o o) o ?_
  refine zA o<|zb<|ai [0,1,5,10,11] o<|bl (γ:=Value) (λ(c:Int×List (Int)) g9=>[(0,.one (.int .u64) u),(1,ti f),(5,.one W69 g9),(10,ti (List.length (List.replicate (Int.toNat f) (0:Int)):Int)),(11,ti c.1)]) (λ(c:Int×List (Int)) g9=>[Res.own g9 5 (.int .u8) c.2]) (m4 u f W) (0,(List.replicate (Int.toNat f) (0:Int))) V h o o ?_
  clear h
  intro R c g9 h
  cases R with
  |zero=>cases h
  |succ R=>
  simp only[m4]at h
  refine zW o<|zs<|rI h o (λhc h=>?_) λhc h=>?_
  ·refine zk<|zt<|zs<|zb<|zW o<|zr<|zm 8 o<|iE h λhc h=>y (nO o o hc) o ?_
   refine q 1 [(5,.one W69 g9),(10,ti (List.length (List.replicate (Int.toNat f) (0:Int)):Int)),(11,ti c.1),(14,.one W69 g9),(15,ti c.1),(23,.one (.int .u8) (wrap .u8 (ca .u64 u (wrap .i64 (8*(wrap .i64 ((wrap .i64 (f - 1)) - c.1)))))))] [0,1] o ?_
   obtain⟨C,e,h⟩:=aj h;rw[e]
   refine iE h λhc h=>cT 0 o pix λH G N hv=>?_
   rw[hv]
   try clear hv
   refine y (dn af o o hc.1 (by first|exact hc.2|simpa using hc.2) o ty5) o ?_
   refine qo 0 (Int.toNat c.1) .here o o o pix pof aa ty5 ?_
   exact zn<|zi<|zt<|zr<|zA o<|aY ((wrap .i64 (c.1+1)),(List.set c.2 (Int.toNat c.1) C)) (.slice (some ⟨H,G,none⟩) (List.length c.2) N) (Nat.lt_succ_self _) h o o
  exact zx<|ze<|ze<|zq<|zt<|ah c.2 g9 h o o
 refine zU 1 o<|y (nN af 0 o o o o o) o ?_
 refine zE o ?_
 cases h
 exact ax o (.tmp o)
theorem mM(c f r)(h:strings_Repeat c f=some r):bw PP 167 [.one .str c,.one (.int .i64) f] (.one .str r):=Ap Go.Proofs.Tryz.strings_Repeat c f r h
theorem sN(f c r)(h:pg f c=some r):bw PP 128 [ti f,ts c] (.tup [⟨.str,r.1⟩,⟨(.int .i64),r.2⟩]):=by
 unfold pg at h
 refine enter Tryz.func128 o 40 o o λF=>?_
 refine zW o<|zs<|zW o<|rI h o (λhc h=>zU 2 o<|zf<|zT<|by cases h;exact aC (rs:=[.tmp 4,.tmp 5]) o (.cons (.tmp o) (.cons (.tmp o) (.nil))) o (λ_ vs g=>aG vs g) (λ_ _ _=>List.nil_sublist _)) λhc h=>zk<|zt<|zs<|zW o<|rI h o (λhc h=>zU 2 o<|zf<|zT<|by cases h;exact aC (rs:=[.tmp 4,.tmp 5]) o (.cons (.tmp o) (.cons (.tmp o) (.nil))) o (λ_ vs g=>aG vs g) (λ_ _ _=>List.nil_sublist _)) λhc h=>zy<|zm 3 o<|cB h λu M h=>au (pR _ _ _ M) kr o o<|zm 2 o ?_
 refine cB h λV R h=>au (pR _ _ _ R) kr o o<|iE h λhc h=>y (ij o o hc) o ?_
 refine q 1 [(1,ts c),(6,ts (u++V))] [] o ?_
 obtain⟨W,e,h⟩:=aj h;rw[e]
 refine zZ 1 o<|cB h λd C h=>au (tP _ _ C) kr o o<|zm 1 o<|cB h λm H h=>au (u1 _ _ _ H) kr o o<|zm 1 o<|zZ 3 o<|cB h λG N h=>au (pR _ _ _ N) kr o o<|iE h λhc h=>y (ij o o hc) o ?_
 refine zm 1 o<|iE h λhc h=>y (ij o o hc) o ?_
 refine q 1 [(8,ts ((W++G)++c))] [] o ?_
 obtain⟨f7,e,h⟩:=aj h;rw[e]
 refine zZ 5 o<|cB h λO J h=>au (mM _ _ _ J) kr o o<|iE h λhc h=>y (ij o o hc) o ?_
 refine zE o ?_
 cases h
 exact aC (rs:=[.tmp 4,.tmp 5]) o (.cons (.tmp o) (.cons (.tmp o) (.nil))) o (λ_ vs g=>aG vs g) (λ_ _ _=>List.nil_sublist _)
theorem tR(c f r)(h:mF c f=some r):bw PP 187 [ts c,ts f] (tb r):=by
 unfold mF at h
 refine enter Tryz.func187 o 8 o o λF=>?_
 refine zU 1 o<|zZ 2 o<|cB h λM u h=>au (jL _ _ _ u) kr o o<|zE o ?_
 cases h
 exact ax o (.tmp o)
theorem ud(c f u r)(h:p5 c f u=some r):bw PP 184 [ts c,ti f,ti u] (.tup [⟨.str,r.1⟩,⟨(.int .i64),r.2.1⟩,⟨(.int .i64),r.2.2⟩]):=by
 unfold p5 at h
 refine enter Tryz.func184 o 77 o o λF=>?_
 refine zW o<|zs<|zW o<|rI h o (λhc h=>zU 3 o<|zf<|zT<|by cases h;exact aC (rs:=[.tmp 6,.tmp 7,.tmp 8]) o (.cons (.tmp o) (.cons (.tmp o) (.cons (.tmp o) (.nil)))) o (λ_ vs g=>aG vs g) (λ_ _ _=>List.nil_sublist _)) λhc h=>zk<|zt<|zs<|zu<|q 3 [(0,ts c),(1,ti f),(2,ti u),(20,tb (decide (f<0)))] [] o ?_
 obtain⟨W,e,h⟩:=aj h;rw[e]
 refine aH 5 [(0,ts c),(1,ti f),(2,ti u),(25,tb (W||(decide (f>(List.length c:Int)))))] [] (?_) ?_
 ·clear h
  cases W
  ·exact zA o<|ap () o o
  exact zA o<|ap () o o
 refine q 1 [(0,ts c),(1,ti f),(2,ti u),(26,tb (W||(decide (f>(List.length c:Int)))))] [] o ?_
 obtain⟨H,e,h⟩:=aj h;rw[e]
 refine aH 6 [(0,ts c),(1,ti f),(2,ti u),(32,tb (H||(decide ((wrap .i64 ((List.length c:Int) - f))<16))))] [] (?_) ?_
 ·clear h
  cases H
  ·exact zA o<|ap () o o
  exact zA o<|ap () o o
 refine za<|rI h o (λhc h=>zU 3 o<|zf<|zT<|by cases h;exact aC (rs:=[.tmp 6,.tmp 7,.tmp 8]) o (.cons (.tmp o) (.cons (.tmp o) (.cons (.tmp o) (.nil)))) o (λ_ vs g=>aG vs g) (λ_ _ _=>List.nil_sublist _)) λhc h=>zy<|zm 2 o<|iE h λhc h=>y (gD (i:=f) (j:=(List.length c:Int)) af o o o hc.1 hc.2.1 hc.2.2 o) o ?_
 refine q 1 [(0,ts (List.drop (Int.toNat f) (List.take (Int.toNat (List.length c:Int)) c))),(2,ti u)] [] o ?_
 obtain⟨M,e,h⟩:=aj h;rw[e]
 refine zz<|p 1 [0,2,9] o<|za<|bD h (λV=>[(0,ts M),(2,ti u),(9,ti V)]) (λV=>[]) (λm h=>?_) λV h=>?_
 ·refine zW o<|zb<|ai [0,2,9,36] o<|bl (γ:=Unit) (λ(R:Int×Int) _=>[(0,ts M),(2,ti u),(9,ti R.1),(36,ti R.2)]) (λ(R:Int×Int) _=>[]) (m5 M m) (0,0) () h o o ?_
  clear h
  intro G R gg h
  cases G with
  |zero=>cases h
  |succ G=>
  simp only[m5]at h
  refine zW o<|zs<|rI h o (λhc h=>?_) λhc h=>?_
  ·refine zk<|zt<|zs<|zb<|zW o<|zr<|zm 4 o<|iE h λhc h=>y (eA af o o hc.1 hc.2 o) o ?_
   refine q 3 [(9,ti (ior .i64 (ja .i64 R.1 8) (wrap .i64 (List.getD M (Int.toNat R.2) 0)))),(36,ti R.2)] [0,2] o ?_
   obtain⟨O,e,h⟩:=aj h;rw[e]
   exact zn<|zi<|zt<|zr<|zA o<|aY (O,(wrap .i64 (R.2+1))) () (Nat.lt_succ_self _) h o o
  exact zx<|ze<|ze<|zq<|zt<|ah R.1 () h o o
 refine zs<|zu<|q 3 [(0,ts M),(2,ti u),(9,ti V),(49,tb (decide (V>65536)))] [] o ?_
 obtain⟨N,e,h⟩:=aj h;rw[e]
 refine aH 6 [(0,ts M),(2,ti u),(9,ti V),(55,tb (N||(decide ((wrap .i64 ((List.length M:Int) - 16))<V))))] [] (?_) ?_
 ·clear h
  cases N
  ·exact zA o<|ap () o o
  exact zA o<|ap () o o
 refine za<|rI h o (λhc h=>zU 3 o<|zf<|zT<|by cases h;exact aC (rs:=[.tmp 6,.tmp 7,.tmp 8]) o (.cons (.tmp o) (.cons (.tmp o) (.cons (.tmp o) (.nil)))) o (λ_ vs g=>aG vs g) (λ_ _ _=>List.nil_sublist _)) λhc h=>zy<|zm 3 o<|iE h λhc h=>y (gD (i:=16) (j:=(wrap .i64 (16+V))) af o o o hc.1 hc.2.1 hc.2.2 o) o ?_
 refine q 1 [(0,ts M),(2,ti u),(11,ts (List.drop 16 (List.take (Int.toNat (wrap .i64 (16+V))) M)))] [] o ?_
 obtain⟨J,e,h⟩:=aj h;rw[e]
 refine zZ 2 o<|cB h λC w h=>au (sN _ _ _ w) kr o o<|zm 5 o<|zz<|q 3 [(11,ts J),(12,ts C.1),(68,tb (C.2 !=0))] [0] o ?_
 obtain⟨Z,e,h⟩:=aj h;rw[e]
 refine bL h 5 (λd=>[(11,ts J),(12,ts C.1),(73,tb d)]) (λ_=>[]) (λa5 h=>?_) λd h=>?_
 ·cases Z
  ·replace h:=ifF h
   refine zm 2 o<|al dl o ?_
   exact cB h λa3 a4 h=>au (tR _ _ _ a4) kr o o<|zN o<|zt<|ah (!a3) () h o o
  replace h:=ifT h
  exact zN o<|zt<|ah true () h o o
 refine za<|rI h o (λhc h=>zU 3 o<|zf<|by cases h;exact aC (rs:=[.tmp 6,.tmp 7,.tmp 8]) o (.cons (.tmp o) (.cons (.tmp o) (.cons (.tmp o) (.nil)))) o (λ_ vs g=>aG vs g) (λ_ _ _=>List.nil_sublist _)) λhc h=>zU 6 o<|zf ?_
 cases h
 exact aC (rs:=[.tmp 6,.tmp 7,.tmp 8]) o (.cons (.tmp o) (.cons (.tmp o) (.cons (.tmp o) (.nil)))) o (λ_ vs g=>aG vs g) (λ_ _ _=>List.nil_sublist _)
theorem yh(f r)(h:tD f=some r):bw PP 159 [ts f] (.tup [⟨(.int .i64),r.1⟩,⟨.bool,r.2⟩]):=by
 unfold tD at h
 refine enter Tryz.func159 o 37 o o λF=>?_
 refine zW o<|zs<|zW o<|rI h o (λhc h=>zU 2 o<|zf<|zT<|by cases h;exact aC (rs:=[.tmp 2,.tmp 3]) o (.cons (.tmp o) (.cons (.tmp o) (.nil))) o (λ_ vs g=>aG vs g) (λ_ _ _=>List.nil_sublist _)) λhc h=>zy<|q 1 [(0,ts f),(4,.one (.int .u64) 0)] [] o<|za<|bD h (λu=>[(0,ts f),(4,.one (.int .u64) u)]) (λu=>[]) (λV h=>?_) λu h=>?_
 ·refine zW o<|zb<|ai [0,4,5] o<|bl (γ:=Unit) (λ(c:Int×Int) _=>[(0,ts f),(4,.one (.int .u64) c.1),(5,ti c.2)]) (λ(c:Int×Int) _=>[]) (m6 f V) (0,4) () h o o ?_
  clear h
  intro M c gg h
  cases M with
  |zero=>cases h
  |succ M=>
  simp only[m6]at h
  refine zs<|zW o<|rI h o (λhc h=>?_) λhc h=>?_
  ·refine zk<|zt<|zs<|zb<|zr<|zm 4 o<|iE h λhc h=>y (eA af o o hc.1 hc.2 o) o ?_
   refine q 3 [(4,.one (.int .u64) (ior .u64 (ja .u64 c.1 8) (wrap .u64 (List.getD f (Int.toNat c.2) 0)))),(5,ti c.2)] [0] o ?_
   obtain⟨n7,e,h⟩:=aj h;rw[e]
   refine zn<|zi<|zt<|zr<|q 3 [(4,.one (.int .u64) n7),(5,ti (wrap .i64 (c.2+1)))] [0] o ?_
   obtain⟨R,e,h⟩:=aj h;rw[e]
   exact za<|aY (n7,R) () (Nat.lt_succ_self _) h o o
  exact zx<|ze<|ze<|zq<|zt<|ah c.1 () h o o
 refine zs<|zW o<|rI h o (λhc h=>zU 2 o<|zf<|zT<|by cases h;exact aC (rs:=[.tmp 2,.tmp 3]) o (.cons (.tmp o) (.cons (.tmp o) (.nil))) o (λ_ vs g=>aG vs g) (λ_ _ _=>List.nil_sublist _)) λhc h=>zy<|zm 3 o<|cB h λC W h=>au (ud _ _ _ _ W) kr o o<|zm 7 o<|zz<|zE o ?_
 cases h
 exact aC (rs:=[.tmp 2,.tmp 3]) o (.cons (.tmp o) (.cons (.tmp o) (.nil))) o (λ_ vs g=>aG vs g) (λ_ _ _=>List.nil_sublist _)
theorem yi(f V r)(h:tE f V=some r):Fn PP 160 [ts f,ti V] [] (λv=> .tup [⟨.raw (.slice none 0 0),aK v 0⟩,⟨(.int .i64),r.2.1⟩,⟨.bool,r.2.2⟩]) (λv=>[Res.own (aK v 0) 9 .str r.1]):=by
 unfold tE at h
 refine enter Tryz.func160 o 52 o o λF=>?_
 refine zW o<|AO ?_
 refine zU 1 o<|bH (.slice none 0 0) o 9 .str ?_
 refine zz<|q 2 [(0,ts f),(1,ti V),(7,.one W69 (.slice none 0 0)),(8,ti 0)] [] o<|za<|zs<|AP ?_
 refine zt<|jK h (γ:=Value) (λu g3=>[(7,.one W69 g3),(8,ti u.1),(9,tb u.2.1)]) (λu g3=>[Res.own g3 9 .str u.2.2]) (λm h=>?_) λu g3 h=>?_
 ·refine zb<|ai [0,1,7,8] o<|bl (γ:=Value) (λ(c:Int×Int×List (List Int)) g8=>[(0,ts f),(1,ti c.1),(7,.one W69 g8),(8,ti c.2.1)]) (λ(c:Int×Int×List (List Int)) g8=>[Res.own g8 9 .str c.2.2]) (m7 f m) (V,0,[]) (.slice none 0 0) h o o ?_
  clear h
  intro C c g8 h
  cases C with
  |zero=>cases h
  |succ C=>
  simp only[m7]at h
  refine zb<|zU 3 o<|cB h λM O h=>au (ud _ _ _ _ O) kr o o<|zA o<|zs<|zb<|zW o<|rI h o (λhc h=>?_) λhc h=>?_
  ·refine zu<|q 3 [(7,.one W69 g8),(8,ti c.2.1),(9,tb (M.2.2==2))] [] o ?_
   obtain⟨w,e,h⟩:=aj h;rw[e]
   refine za<|zx<|yI o ?_
   refine ze<|yI o ?_
   exact ze<|zq<|zt<|ah (c.2.1,w,c.2.2) g8 h o o
  refine zW o<|rI h o (λhc h=>?_) λhc h=>?_
  ·refine zU 2 o<|bC (B:=16) af o el9 o o o (.cons o .nil) o λa2=>?_
   refine iE h λhc h=>aW (B:=16) af 1 o o (bM 0 o o) o el9 o o hc o λH=>?_
   refine pk [1] o<|zm 1 o<|zz<|q 4 [(7,.one W69 H),(8,ti (wrap .i64 (c.2.1+M.2.1)))] [0] o ?_
   obtain⟨R,e,h⟩:=aj h;rw[e]
   refine zz<|q 5 [(8,ti R),(9,tb (decide (R<(List.length f:Int))))] [7] o ?_
   obtain⟨Z,e,h⟩:=aj h;rw[e]
   refine za<|zx<|yI o ?_
   refine ze<|yI o ?_
   exact ze<|zq<|zt<|ah (R,Z,(c.2.2++[M.1])) H h o o
  refine zk<|zi<|zt<|zU 2 o<|bC (B:=16) af o el9 o o o (.cons o .nil) o λa3=>?_
  refine iE h λhc h=>aW (B:=16) af 1 o o (bM 0 o o) o el9 o o hc o λG=>?_
  refine pk [1] o<|zm 1 o<|zz<|q 4 [(1,ti c.1),(7,.one W69 G),(8,ti (wrap .i64 (c.2.1+M.2.1)))] [0] o ?_
  obtain⟨N,e,h⟩:=aj h;rw[e]
  refine za<|zr<|q 3 [(1,ti (wrap .i64 (c.1+1))),(8,ti N)] [0,7] o ?_
  obtain⟨n19,e,h⟩:=aj h;rw[e]
  exact zn<|zi<|zt<|aY (n19,N,(c.2.2++[M.1])) G (Nat.lt_succ_self _) h o o
 refine zU 6 o<|zf<|kE ?_
 cases h
 exact aC (rs:=[.tmp 4,.tmp 5,.tmp 6]) o (.cons (.tmp o) (.cons (.tmp o) (.cons (.tmp o) (.nil)))) o (λ_ vs g=>by cases g with|cons W g=>cases g with|cons J g=>cases g with|cons d g=>cases g;exact⟨_,o,.cons (bg W) (.cons J (.cons d (.nil)))⟩) (λ_ vs g=>by cases g with|cons W g=>cases g with|cons J g=>cases g with|cons d g=>cases g;rw[bP W];exact(.cons_cons _ .slnil))
theorem wS(p0:Value)(p2:Value)(f:Value)(V H M J r)(h:qA V H M J=some r):FnT PP bN 114 [tp p0,ti H,tp p2] [Res.cls (co f) p0 V,Res.cls jp p2 M,Res.disk PP dI f J] (λ_=>ti r.1) (λ_=>[Res.cls (co f) p0 r.2.1,Res.cls jp p2 r.2.2,Res.disk PP dI f J]):=by
 unfold qA at h
 refine iM Tryz.func114 o 136 o o λF hT=>?_
 refine nn λR b7 hp=>?_
 subst hp
 refine cd (x:=V) (q:=f) ?_
 refine pk [1,0,0] o<|Cj λW b8 hp=>?_
 subst hp
 refine jW (x:=M) ?_
 refine pk [1,0,0] o<|zu<|q 1 [(0,ptr R 0),(1,ti H),(2,ptr W 0)] [] o<|za<|bD h (λo6=>[(0,ptr R 0),(1,ti H),(2,ptr W 0),(7,ti o6.1),(8,ti o6.2)]) (λo6=>[Res.cls (co f) (.pointer (some ⟨R,0,none⟩)) V,Res.disk PP dI f J,Res.cls jp (.pointer (some ⟨W,0,none⟩)) M]) (λk5 h=>?_) λo6 h=>?_
 ·refine fY λc0=>?_
  refine dA kr<|zF 3 [0,4,5] kr o o ?_
  refine bv (i:=1) (j:=6) kr o o ?_ ?_
  ·refine zA o<|ai [0,1,2,16,19,20] o<|zF 1 [2] kr o o ?_
   refine bv (i:=3) (j:=6) kr o o ?_ ?_
   ·refine yl 0 f0 ec o o o tr o<|zL [0,1,2,18,19,20] o<|ae 6 kr o<|cB h λa8 w h=>rcT hT [0] (aI _ _ _ _ _ _ w) kr o o o λ_=>zL [0,1,2,18,21] o<|ae 7 kr o<|cB h λm Z h=>rc [3] (kA _ _ _ _ Z) kr o o o λ_=>zL [0,1,2,22] o<|zF 5 [8,9,10,11,12] kr o o<|aJ kr<|zt<|pk [1,1,0,0] o ?_
    refine cd (x:=V) (q:=f) ?_
    exact ah (m.1,m.2) () h o o
   refine cB h λa8 w h=>rcT hT [0] (aI _ _ _ _ _ _ w) kr o o o λ_=>zL [0,1,2,17,21] o<|ae 3 kr o<|yl 0 f0 ec o o o tr o<|zL [0,1,2,18,21] o<|ae 7 kr o<|cB h λm Z h=>rc [3] (kA _ _ _ _ Z) kr o o o λ_=>zL [0,1,2,22] o<|zF 5 [8,9,10,11,12] kr o o<|aJ kr<|zt<|pk [1,1,0,0] o ?_
   refine cd (x:=V) (q:=f) ?_
   exact ah (m.1,m.2) () h o o
  refine cB h λa8 w h=>rcT hT [0] (aI _ _ _ _ _ _ w) kr o o o λ_=>zL [0,1,2,15,21] o<|ae 1 kr o<|zA o<|ai [0,1,2,16,21] o<|zF 1 [2] kr o o<|ae 3 kr o<|yl 0 f0 ec o o o tr o<|zL [0,1,2,18,21] o<|ae 7 kr o<|cB h λm Z h=>rc [3] (kA _ _ _ _ Z) kr o o o λ_=>zL [0,1,2,22] o ?_
  refine zF 5 [8,9,10,11,12] kr o o<|aJ kr<|zt<|pk [1,1,0,0] o<|cd (x:=V) (q:=f) ?_
  exact ah (m.1,m.2) () h o o
 refine zs<|zW o<|rI h o (λhc h=>zU 2 o<|zf<|zT<|by cases h;exact pk [0,1,0] o<|aT o (.tmp o) (λ_ _ g=>g) (λ_ _ _=>(.cons_cons _ (.cons_cons _ (.cons_cons _ .slnil))))) λhc h=>zk<|zt<|bD h (λC=>[(0,ptr R 0),(1,ti H),(2,ptr W 0),(8,ti C.1),(9,ts C.2)]) (λC=>[Res.cls (co f) (.pointer (some ⟨R,0,none⟩)) V,Res.disk PP dI f J,Res.cls jp (.pointer (some ⟨W,0,none⟩)) M]) (λk7 h=>?_) λC h=>?_
 ·refine fY λc1=>?_
  refine dA kr<|zF 4 [0,4,5,7] kr o o ?_
  refine bv (i:=1) (j:=6) kr o o ?_ ?_
  ·refine zA o<|ai [0,1,2,8,30,33,34,36] o<|zF 1 [2] kr o o ?_
   refine bv (i:=3) (j:=6) kr o o ?_ ?_
   ·refine yl 0 f0 ec o o o tr o<|zL [0,1,2,8,32,33,34,36] o<|ae 6 kr o<|cB h λa9 a3 h=>rcT hT [0] (aI _ _ _ _ _ _ a3) kr o o o λ_=>zL [0,1,2,8,32,35,36] o<|ae 8 kr o<|cB h λO a4 h=>rc [2] (jt _ _ _ _ _ _ a4) kr o o o λ_=>zL [0,1,2,8,37] o<|zF 5 [9,10,11,12,13] kr o o<|aJ kr<|zt<|pk [1,1,0,0] o ?_
    refine cd (x:=V) (q:=f) ?_
    exact ah (O.2,O.1) () h o o
   refine cB h λa9 a3 h=>rcT hT [0] (aI _ _ _ _ _ _ a3) kr o o o λ_=>zL [0,1,2,8,31,35,36] o<|ae 3 kr o<|yl 0 f0 ec o o o tr o<|zL [0,1,2,8,32,35,36] o<|ae 8 kr o<|cB h λO a4 h=>rc [2] (jt _ _ _ _ _ _ a4) kr o o o λ_=>zL [0,1,2,8,37] o<|zF 5 [9,10,11,12,13] kr o o<|aJ kr<|zt<|pk [1,1,0,0] o ?_
   refine cd (x:=V) (q:=f) ?_
   exact ah (O.2,O.1) () h o o
  refine cB h λa9 a3 h=>rcT hT [0] (aI _ _ _ _ _ _ a3) kr o o o λ_=>zL [0,1,2,8,29,35,36] o<|ae 1 kr o<|zA o<|ai [0,1,2,8,30,35,36] o<|zF 1 [2] kr o o<|ae 3 kr o<|yl 0 f0 ec o o o tr o<|zL [0,1,2,8,32,35,36] o<|ae 8 kr o<|cB h λO a4 h=>rc [2] (jt _ _ _ _ _ _ a4) kr o o o λ_=>zL [0,1,2,8,37] o ?_
  refine zF 5 [9,10,11,12,13] kr o o<|aJ kr<|zt<|pk [1,1,0,0] o<|cd (x:=V) (q:=f) ?_
  exact ah (O.2,O.1) () h o o
 refine zs<|zW o<|rI h o (λhc h=>zU 2 o<|zf<|zT<|by cases h;exact pk [0,1,0] o<|aT o (.tmp o) (λ_ _ g=>g) (λ_ _ _=>(.cons_cons _ (.cons_cons _ (.cons_cons _ .slnil))))) λhc h=>zy<|q 1 [(0,ptr R 0),(2,ptr W 0),(9,ts C.2),(43,ti H)] [] o<|y (bc o qa o o (.cons f0 o o aa .nil)) o ?_
 refine aB (t:=Y195) o qa o λd=>st 0 .here dB o o o o tr<|za<|bD h (λu=>[(0,ptr R 0),(2,ptr W 0),(9,ts C.2),(10,ptr d 0)]) (λu=>[Res.cls jp (.pointer (some ⟨W,0,none⟩)) u.1,Res.cls (co f) (.pointer (some ⟨R,0,none⟩)) u.2,Res.var d 195 Y195 (H,0,0,()),Res.disk PP dI f J]) (λc2 h=>?_) λu h=>?_
 ·refine zs<|pk [3,0,0,0] o<|mV λb0=>?_
  refine zr<|zm 3 o<|yl 0 f2 ty4 o o o tr o<|q 2 [(10,ptr d 0),(50,tb (!M.2.2.1))] [0,2,9] o ?_
  obtain⟨b1,e,h⟩:=aj h;rw[e]
  refine aH 3 [(0,ptr R 0),(2,ptr W 0),(9,ts C.2),(10,ptr d 0),(53,tb (b1&&(C.2 !=[])))] [Res.var W 191 W51 (gn M b0),Res.own b0 9 .str M.1,Res.var d 195 Y195 (H,0,0,()),Res.cls (co f) (.pointer (some ⟨R,0,none⟩)) V,Res.disk PP dI f J] (?_) ?_
  ·clear h
   cases b1
   ·exact zA o<|ap () o o
   exact zA o<|ap () o o
  refine za<|rI h o (λhc h=>?_) λhc h=>?_
  ·refine zU 3 o<|cB h λN b5 h=>au (yh _ _ b5) kr o o<|zm 5 o<|st 0 f1 ty2 o o o o tr<|zm 2 o<|st 0 f2 ty4 o o o o tr<|nL o<|zZ 3 o<|yl 0 f2 ty4 o o o tr o<|za<|rI h o (λhc h=>?_) λhc h=>?_
   ·refine pk [3,0,0,0,0] o<|fY λc3=>?_
    refine zr<|zm 4 o<|yl 2 f1 ty2 o o o tr o<|zm 2 o<|st 0 f4 ty2 o o o o tr<|za<|cd (x:=(sF V () N.1)) (q:=f) ?_
    refine pk [1,1,0,0,0] o<|jW (x:=(M.1,N.1,N.2,M.2.2.2.1,M.2.2.2.2)) ?_
    exact ah ((M.1,N.1,N.2,M.2.2.2.1,M.2.2.2.2),(sF V () N.1)) () h o o
   refine zk<|zt<|jW (x:=(M.1,N.1,N.2,M.2.2.2.1,M.2.2.2.2)) ?_
   exact pk [0,1,0,0] o<|ah ((M.1,N.1,N.2,M.2.2.2.1,M.2.2.2.2),V) () h o o
  refine zk<|zt<|jW (x:=M) ?_
  exact pk [0,1,0,0] o<|ah (M,V) () h o o
 refine bD h (λc=>[(0,ptr R 0),(2,ptr W 0),(9,ts C.2),(10,ptr d 0)]) (λc=>[Res.cls jp (.pointer (some ⟨W,0,none⟩)) c.1,Res.cls (co f) (.pointer (some ⟨R,0,none⟩)) c.2.1,Res.var d 195 Y195 c.2.2,Res.disk PP dI f J]) (λc4 h=>?_) λc h=>?_
 ·refine zs<|mV λc5=>?_
  refine zr<|zm 3 o<|yl 0 f2 ty4 o o o tr o<|za<|rI h o (λhc h=>?_) λhc h=>?_
  ·refine zs<|pk [2,0,0,0,0] o<|fY λc6=>?_
   refine zr<|zm 4 o<|yl 0 f4 ty2 o o o tr o<|cB h λG b6 h=>rc [] (yi _ _ _ b6) kr o o o λc7=>zm 7 o<|zZ 4 o<|yl 3 f0 tx4 o o o tr o<|zm 1 o<|iE h λhc h=>aW (B:=16) af 4 o o (bM 0 o o) o el9 o o hc o λc8=>?_
   refine zm 2 o<|st 3 f0 tx4 o o o o tr<|nL o<|zZ 3 o<|yl 1 f4 ty2 o o o tr o<|zm 1 o<|y (ct af 0 o o o) o ?_
   refine zm 3 o<|st 1 f4 ty2 o o o o tr<|zZ 2 o<|st 5 f1 ty3 o o o o tr<|nL o<|zZ 1 o<|y (ct af 0 o o o) o ?_
   refine zA o<|rI h o (λhc h=>?_) λhc h=>?_
   ·refine zr<|zm 3 o<|yl 1 f4 ty2 o o o tr o<|zm 1 o<|st 5 f2 ty2 o o o o tr<|za<|pk [1,1,0,0,0,0,0] o<|cd (x:=(sF u.2 () (wrap .i64 (u.2.2.2.2.2.1+(List.length G.1:Int))))) (q:=f) ?_
    refine pk [2,2,0,0,0,0] o<|jW (x:=(gn u.1 (u.1.1++G.1))) ?_
    exact pk [0,0,1,1] o<|ah ((gn u.1 (u.1.1++G.1)),(sF u.2 () (wrap .i64 (u.2.2.2.2.2.1+(List.length G.1:Int)))),(H,G.2.1,(wrap .i64 (u.2.2.2.2.2.1+(List.length G.1:Int))),())) () h o o
   refine zk<|zt<|pk [1,1,0,0,0,0,0] o<|cd (x:=(sF u.2 () (wrap .i64 (u.2.2.2.2.2.1+(List.length G.1:Int))))) (q:=f) ?_
   refine pk [2,2,0,0,0,0] o<|jW (x:=(gn u.1 (u.1.1++G.1))) ?_
   exact pk [0,0,1,1] o<|ah ((gn u.1 (u.1.1++G.1)),(sF u.2 () (wrap .i64 (u.2.2.2.2.2.1+(List.length G.1:Int)))),(H,G.2.1,0,())) () h o o
  refine zk<|zt<|jW (x:=u.1) ?_
  exact ah (u.1,u.2,(H,0,0,())) () h o o
 refine zs<|mV λb3=>?_
 refine zr<|zm 2 o<|yl 3 f1 ty3 o o o tr o<|q 5 [(0,ptr R 0),(10,ptr d 0),(123,tb (decide (c.2.2.2.1<(List.length C.2:Int)))),(125,ptr W 3)] [] o<|st 0 f3 ty4 o o o o tr<|za<|bD h (λa7=>[]) (λa7=>[Res.cls (co f) (.pointer (some ⟨R,0,none⟩)) a7,Res.var W 191 W51 (b3,c.1.2.1,c.1.2.2.1,(decide (c.2.2.2.1<(List.length C.2:Int))),c.1.2.2.2.2),Res.own b3 9 .str c.1.1,Res.var d 195 Y195 c.2.2,Res.disk PP dI f J]) (λc9 h=>?_) λa7 h=>?_
 ·refine pk [2,0,0,0,0] o<|fY λd0=>?_
  refine dA kr<|zF 2 [0,1] kr o o ?_
  refine bv (i:=2) (j:=5) kr o o ?_ ?_
  ·refine zA o<|ai [10,126,128] o<|zF 1 [3] kr o o ?_
   refine bv (i:=4) (j:=5) kr o o ?_ ?_
   ·refine yl 0 f3 tx5 o o o tr o<|zL [10,126,130] o<|ae 5 kr o<|yl 4 .here dB o o o tr o<|zL [126,130,131] o<|ae 6 kr o<|bC (B:=24) af o gT o o o (.cons o .nil) o λa5=>?_
    refine zL [126,130,132] o<|ae 7 kr o<|iE h λhc h=>aW (B:=24) af 2 o o (bM 0 o o) o gT o o hc o λa6=>?_
    refine pk [1,1,1,1,1,1] o<|zL [126,133] o<|ae 8 kr o<|zA o<|ai [133,134] o<|zF 1 [9] kr o o<|ae 10 kr o<|st 0 f3 tx5 o o o o tr<|nL o<|zL [] o<|aJ kr<|zt<|cd (x:=(bT c.2.1 () (c.2.1.2.2.2.1++[c.2.2]))) (q:=f) ?_
    exact ah (bT c.2.1 () (c.2.1.2.2.2.1++[c.2.2])) () h o o
   refine yl 4 .here dB o o o tr o<|zL [126,129,131] o ?_
   refine bv (i:=4) (j:=6) kr o o ?_ ?_
   ·refine yl 0 f3 tx5 o o o tr o<|zL [126,130,131] o<|ae 6 kr o<|bC (B:=24) af o gT o o o (.cons o .nil) o λa5=>?_
    refine zL [126,130,132] o<|ae 7 kr o<|iE h λhc h=>aW (B:=24) af 2 o o (bM 0 o o) o gT o o hc o λa6=>?_
    refine pk [1,1,1,1,1,1] o<|zL [126,133] o<|ae 8 kr o<|zA o<|ai [133,134] o<|zF 1 [9] kr o o<|ae 10 kr o<|st 0 f3 tx5 o o o o tr<|nL o<|zL [] o<|aJ kr<|zt<|cd (x:=(bT c.2.1 () (c.2.1.2.2.2.1++[c.2.2]))) (q:=f) ?_
    exact ah (bT c.2.1 () (c.2.1.2.2.2.1++[c.2.2])) () h o o
   refine bC (B:=24) af o gT o o o (.cons o .nil) o λa5=>?_
   refine zL [126,129,132] o<|ae 4 kr o<|yl 1 f3 tx5 o o o tr o<|zL [126,130,132] o<|ae 7 kr o<|iE h λhc h=>aW (B:=24) af 2 o o (bM 0 o o) o gT o o hc o λa6=>?_
   refine pk [1,1,1,1,1,1] o<|zL [126,133] o<|ae 8 kr o<|zA o<|ai [133,134] o<|zF 1 [9] kr o o<|ae 10 kr o<|st 0 f3 tx5 o o o o tr<|nL o<|zL [] o<|aJ kr<|zt<|cd (x:=(bT c.2.1 () (c.2.1.2.2.2.1++[c.2.2]))) (q:=f) ?_
   exact ah (bT c.2.1 () (c.2.1.2.2.2.1++[c.2.2])) () h o o
  refine yl 4 .here dB o o o tr o<|zL [126,127,131] o ?_
  refine bv (i:=2) (j:=6) kr o o ?_ ?_
  ·refine zA o<|ai [126,128,131] o<|zF 1 [3] kr o o ?_
   refine bv (i:=4) (j:=6) kr o o ?_ ?_
   ·refine yl 0 f3 tx5 o o o tr o<|zL [126,130,131] o<|ae 6 kr o<|bC (B:=24) af o gT o o o (.cons o .nil) o λa5=>?_
    refine zL [126,130,132] o<|ae 7 kr o<|iE h λhc h=>aW (B:=24) af 2 o o (bM 0 o o) o gT o o hc o λa6=>?_
    refine pk [1,1,1,1,1,1] o<|zL [126,133] o<|ae 8 kr o<|zA o<|ai [133,134] o<|zF 1 [9] kr o o<|ae 10 kr o<|st 0 f3 tx5 o o o o tr<|nL o<|zL [] o<|aJ kr<|zt<|cd (x:=(bT c.2.1 () (c.2.1.2.2.2.1++[c.2.2]))) (q:=f) ?_
    exact ah (bT c.2.1 () (c.2.1.2.2.2.1++[c.2.2])) () h o o
   refine bC (B:=24) af o gT o o o (.cons o .nil) o λa5=>?_
   refine zL [126,129,132] o<|ae 4 kr o<|yl 1 f3 tx5 o o o tr o<|zL [126,130,132] o<|ae 7 kr o<|iE h λhc h=>aW (B:=24) af 2 o o (bM 0 o o) o gT o o hc o λa6=>?_
   refine pk [1,1,1,1,1,1] o<|zL [126,133] o<|ae 8 kr o<|zA o<|ai [133,134] o<|zF 1 [9] kr o o<|ae 10 kr o<|st 0 f3 tx5 o o o o tr<|nL o<|zL [] o<|aJ kr<|zt<|cd (x:=(bT c.2.1 () (c.2.1.2.2.2.1++[c.2.2]))) (q:=f) ?_
   exact ah (bT c.2.1 () (c.2.1.2.2.2.1++[c.2.2])) () h o o
  refine bC (B:=24) af o gT o o o (.cons o .nil) o λa5=>?_
  refine zL [126,127,132] o<|ae 2 kr o<|zA o<|ai [126,128,132] o<|zF 1 [3] kr o o<|ae 4 kr o<|yl 1 f3 tx5 o o o tr o<|zL [126,130,132] o<|ae 7 kr o<|iE h λhc h=>aW (B:=24) af 2 o o (bM 0 o o) o gT o o hc o λa6=>?_
  refine pk [1,1,1,1,1,1] o<|zL [126,133] o<|ae 8 kr o<|zA o<|ai [133,134] o<|zF 1 [9] kr o o<|ae 10 kr o<|st 0 f3 tx5 o o o o tr<|nL o<|zL [] o<|aJ kr<|zt<|cd (x:=(bT c.2.1 () (c.2.1.2.2.2.1++[c.2.2]))) (q:=f) ?_
  exact ah (bT c.2.1 () (c.2.1.2.2.2.1++[c.2.2])) () h o o
 refine zU 1 o<|zf<|pk [1,1,0,0,0] o<|jW (x:=(c.1.1,c.1.2.1,c.1.2.2.1,(decide (c.2.2.2.1<(List.length C.2:Int))),c.1.2.2.2.2)) ?_
 cases h
 exact pk [0,0,1] o<|pk [1,0,0] o<|bm o (.tmp o) (.cons_cons _ (.cons_cons _ (.cons_cons _ .slnil)))
theorem fh(c r)(h:eT c=some r):Fn PP 153 [.one (.sl 5 (.int .u8)) c] [] (λv=> .one W69 v) (λv=>[Res.own v 5 (.int .u8) r]):=by
 unfold eT at h
 refine enter Tryz.func153 o 8 o o λF=>?_
 refine zW o<|zs<|zU 1 o<|vh o Tryz.underlying91 o λg1 f=>?_
 refine za ?_
 refine iK (b:=g1) o (λhc=>?_) (λhc=>?_)
 ·have hx:=f hc
  subst hx
  have h:(some []:Option (List (Int)))=some r:=by simpa using h
  refine zU 1 o<|zf<|zT<|bH (.slice none 0 0) o 5 (.int .u8) ?_
  cases h
  exact aT o (.tmp o) (λ_ _ g=>holds_raw.2 ⟨rfl,by rw[(holds_raw.1 g).1];exact(holds_raw.1 g).2⟩) (λ_ _ g=>by obtain⟨rfl,_⟩:=holds_raw.1 g;exact(.cons_cons _ .slnil))
 refine zy<|bC (B:=1) af o el5 o o o .nil o λu=>?_
 refine zm 1 o<|iE h λhc h=>aW (B:=1) af 0 o o (py o) o el5 o o hc o λM=>?_
 refine zE o ?_
 cases h
 exact aT o (.tmp o) (λ_ _ g=>holds_raw.2 ⟨rfl,by rw[(holds_raw.1 g).1];exact(holds_raw.1 g).2⟩) (λ_ _ g=>by obtain⟨rfl,_⟩:=holds_raw.1 g;exact(.cons_cons _ .slnil))
theorem HA:BJ PP dI 163:=Ge Tryz.func163 o 10 o (by decide) λF s size=>by
 refine gV ?_
 refine ez ?_
 refine gN af 1 [0,2] (E':=[(0,.one (.int .i64) s),(2,.ref (.int .i64) size)]) o ?_
 refine iI ?_
 refine fL ?_
 refine gV ?_
 refine ez ?_
 refine gN af 2 [2,7] (E':=[(2,.ref (.int .i64) size),(7,.one (.int .i64) (wrap .i64 (s*64)))]) o ?_
 refine y (de o ty3) o ?_
 refine gN af 2 [5] (E':=[(5,.one .bool (decide (size≤wrap .i64 (s*64))))]) o ?_
 refine iI ?_
 refine fL ?_
 refine sX ?_
 exact aT o (.tmp o) (λ_ _ g=>g) (λ_ _ _=> .slnil)
theorem E5:yw PP dI 162 163:=Gf Tryz.laysDel o Tryz.underlying3 (λ_ _=>gW kr) HA
theorem nH(N:Value)(u W c r)(h:kd u W c=some r):Fn PP 115 [tp N,ts W,ti c] [Res.disk PP dI N u] (λ_=>ti r.1) (λ_=>[Res.disk PP dI N r.2]):=by
 unfold kd at h
 refine enter Tryz.func115 o 60 o o λF=>?_
 refine iy λO C hp=>?_
 subst hp
 refine zu<|bI o o λV=>zm 1 o<|zZ 2 o<|pk [1,1,0] o<|cB h λr4 w h=>il (Lo:=[Res.var V 3 (.int .i64) c]) (gS O C u W _ w) kr (List.Perm.refl _) o o λZ=>?_
 refine zA o<|zs<|zW o<|rI h o (λhc h=>zU 2 o<|zf<|zT<|az (R':=Res.dfiles PP dI C u.2.1) 1 o fZ<|cC (P:=PP) (I:=dI) (D:=u)<|by cases h;exact aT o (.tmp o) (λ_ _ g=>g) (λ_ _ _=>(.cons_cons _ (.cons _ .slnil)))) λhc h=>zk<|zt<|zs<|zs<|iE h λhc h=>az (R':=Res.dat PP dI C u.2.1 W (aK Z 0)) 1 o (nR hc)<|cB h λf6 d h=>pk [1,0,0] o<|jd ep d λf a4 G a5 hq=>?_
 rw[hq]
 clear hq
 refine ef kr kr ?_
 refine q_y (aN 6 .here o o o aa ty3) o ?_
 refine ay af 2 [5,7,20] (E':=[(5,ptr V 0),(7,ptr f 0),(20,tb (decide (c<0)))]) o ?_
 obtain⟨m,e,h⟩:=aj h;rw[e]
 refine l4 8 [(5,ptr V 0),(7,ptr f 0),(28,tb (m||(decide (c>(List.length f6.1:Int)))))] ?_ ?_
 ·clear h
  cases m
  ·refine dR dl o ?_
   refine q_y (aN 6 .here o o o aa ty3) o ?_
   refine ay af 3 [5,7,20,21,24] (E':=[(5,ptr V 0),(7,ptr f 0),(20,tb false),(21,ti c),(24,ptr f 0)]) o ?_
   refine dR dl o ?_
   refine q_y (aN 0 f0 o o o (av aa) tx3) o ?_
   refine dR dl o ?_
   refine q_y (ct af 1 o o o) o ?_
   refine ay af 2 [5,7,28] (E':=[(5,ptr V 0),(7,ptr f 0),(28,tb (decide (c>(List.length f6.1:Int))))]) o ?_
   refine gO ?_
   exact jj o
  refine ay af 8 [5,7,28] (E':=[(5,ptr V 0),(7,ptr f 0),(28,tb true)]) o ?_
  refine gO ?_
  exact jj o
 refine eK ?_
 refine zt<|rI h o (λhc h=>?_) λhc h=>?_
 ·refine zU 1 o<|zf<|zT<|j8 (P:=PP) (I:=dI) ep d ?_
  refine az (R':=Res.dfiles PP dI C u.2.1) 0 o cw<|pk [1,0,0] o<|cC (P:=PP) (I:=dI) (D:=u) ?_
  cases h
  exact bm o (.tmp o) (.cons_cons _ (.cons _ .slnil))
 refine zk<|zt<|zs<|dA kr<|zF 2 [0,1] kr o o ?_
 refine bv (i:=2) (j:=5) kr o o ?_ ?_
 ·refine zA o<|ai [5,7,29,31] o<|zF 1 [3] kr o o<|pB (fuel:=5) [4,5] #[true,true,true,true,true,true,false,false,false,false,false] kr ?_
  refine q_y (aN 0 f0 o o o (av aa) tx3) o ?_
  refine q_y (aN 6 .here o o o aa ty3) o ?_
  refine eK ?_
  refine ai [5,7,29,33,34] o<|ae 6 kr o ?_
  obtain⟨M,h⟩:=cu h
  refine y (kF af (i:=(0:Int)) (j:=c) o (fk 1 o) o o M.1 M.2.1 M.2.2 o ty5) o ?_
  refine zL [5,7,29,35] o<|ae 7 kr o<|cB h λH J h=>qq (fh (List.take (Int.toNat c) f6.1) _ J) kr (λ_=>o) (λ_ r hr=>by rcases List.mem_singleton.1 hr with rfl;exact Res.free_own o) (.sub o (oJ (fk 1 o) M.1 M.2.1 M.2.2) .nil) o λa3=>?_
  refine zL [5,7,29,36] o<|ae 8 kr o<|zA o<|ai [5,7,36,37] o<|zF 1 [9] kr o o<|ae 10 kr o<|st 1 f0 tx3 o o o o tr<|pk [0,0,1,1,1,1,1] o<|zL [5,7] o<|aJ kr<|zt<|zs<|dA kr<|zF 3 [0,1,6] kr o o ?_
  refine pB (fuel:=2) [2,3,4,5,7,8,9,10,11,12,13] #[true,true,true,true,true,true,true,true,true,true,true,true,true,true,false,false] kr ?_
  refine ay af 2 [5,7,39,42,45] (E':=[(5,ptr V 0),(7,ptr f 0),(39,ptr f 0),(42,ptr f 1),(45,ptr f 0)]) o ?_
  refine q_y (aN 1 f1 o o o (ab (av aa)) tx3) o ?_
  refine q_y (aN 6 .here o o o aa ty3) o ?_
  refine ay af 2 [5,7,39,43,44,47] (E':=[(5,ptr V 0),(7,ptr f 0),(39,ptr f 0),(43,.one W69 G),(44,ti c),(47,ptr f 1)]) o ?_
  refine q_y (aN 1 f1 o o o (ab (av aa)) tx3) o ?_
  refine q_y (ct af 2 o o o) o ?_
  refine q_y (wo o o) o ?_
  obtain⟨R,h⟩:=cu h
  refine q_y (kF af (i:=(0:Int)) (j:=(min c (List.length f6.2.1:Int))) o (fk 2 o) o o R.1 R.2.1 R.2.2 o ty5) o ?_
  refine ay af 1 [5,7,51,52] (E':=[(5,ptr V 0),(7,ptr f 0),(51,.one W69 (iL (T.size (.int .u8)) G (Int.toNat (0:Int)) (Int.toNat (min c (List.length f6.2.1:Int))))),(52,ptr f 0)]) o ?_
  refine eK ?_
  refine ai [5,7,51,52] o<|zF 1 [14] kr o o<|ae 15 kr o<|te (j:=(Int.toNat (min c (List.length f6.2.1:Int)))) 2 o (by have:=R.2.2;omega) ?_
  refine nL o<|st 1 f1 tx3 o o o o tr<|zL [5,7] o<|aJ kr<|zt<|zU 3 o<|yl 1 f2 q9 o o o tr o<|vJ E5 kr 3 6 o o o o (by decide) (by simp) o o o ?_
  refine zz<|zE o<|pk [1,0,0,0,0,0,0] o<|iJ (P:=PP) (I:=dI) ep ?_
  refine az (R':=Res.dfiles PP dI C (dE .str W (H,(List.take (Int.toNat (min c (List.length f6.2.1:Int))) f6.2.1),(nz f6.2.2 c)) u.2.1)) 0 o cw<|nL o<|pk [1,0,0] o<|cC (P:=PP) (I:=dI) (D:=(kJ u (dE .str W (H,(List.take (Int.toNat (min c (List.length f6.2.1:Int))) f6.2.1),(nz f6.2.2 c)) u.2.1))) ?_
  cases h
  exact bm o (.tmp o) (.cons_cons _ (.cons _ .slnil))
 refine yl 6 .here ty3 o o o tr o<|zL [5,7,29,30,34] o<|ae 2 kr o<|zA o<|ai [5,7,29,31,34] o<|zF 1 [3] kr o o<|ae 4 kr o<|yl 0 f0 tx3 o o o tr o<|zL [5,7,29,33,34] o<|ae 6 kr o ?_
 obtain⟨M,h⟩:=cu h
 refine y (kF af (i:=(0:Int)) (j:=c) o (fk 1 o) o o M.1 M.2.1 M.2.2 o ty5) o ?_
 refine zL [5,7,29,35] o<|ae 7 kr o<|cB h λH J h=>qq (fh (List.take (Int.toNat c) f6.1) _ J) kr (λ_=>o) (λ_ r hr=>by rcases List.mem_singleton.1 hr with rfl;exact Res.free_own o) (.sub o (oJ (fk 1 o) M.1 M.2.1 M.2.2) .nil) o λa3=>?_
 refine zL [5,7,29,36] o<|ae 8 kr o<|zA o<|ai [5,7,36,37] o<|zF 1 [9] kr o o<|ae 10 kr o<|st 1 f0 tx3 o o o o tr<|pk [0,0,1,1,1,1,1] o<|zL [5,7] o<|aJ kr<|zt<|zs<|dA kr<|zF 3 [0,1,6] kr o o ?_
 refine pB (fuel:=2) [2,3,4,5,7,8,9,10,11,12,13] #[true,true,true,true,true,true,true,true,true,true,true,true,true,true,false,false] kr ?_
 refine ay af 2 [5,7,39,42,45] (E':=[(5,ptr V 0),(7,ptr f 0),(39,ptr f 0),(42,ptr f 1),(45,ptr f 0)]) o ?_
 refine q_y (aN 1 f1 o o o (ab (av aa)) tx3) o ?_
 refine q_y (aN 6 .here o o o aa ty3) o ?_
 refine ay af 2 [5,7,39,43,44,47] (E':=[(5,ptr V 0),(7,ptr f 0),(39,ptr f 0),(43,.one W69 G),(44,ti c),(47,ptr f 1)]) o ?_
 refine q_y (aN 1 f1 o o o (ab (av aa)) tx3) o ?_
 refine q_y (ct af 2 o o o) o ?_
 refine q_y (wo o o) o ?_
 obtain⟨R,h⟩:=cu h
 refine q_y (kF af (i:=(0:Int)) (j:=(min c (List.length f6.2.1:Int))) o (fk 2 o) o o R.1 R.2.1 R.2.2 o ty5) o ?_
 refine ay af 1 [5,7,51,52] (E':=[(5,ptr V 0),(7,ptr f 0),(51,.one W69 (iL (T.size (.int .u8)) G (Int.toNat (0:Int)) (Int.toNat (min c (List.length f6.2.1:Int))))),(52,ptr f 0)]) o ?_
 refine eK ?_
 refine ai [5,7,51,52] o<|zF 1 [14] kr o o<|ae 15 kr o<|te (j:=(Int.toNat (min c (List.length f6.2.1:Int)))) 2 o (by have:=R.2.2;omega) ?_
 refine nL o<|st 1 f1 tx3 o o o o tr<|zL [5,7] o<|aJ kr<|zt<|zU 3 o<|yl 1 f2 q9 o o o tr o<|vJ E5 kr 3 6 o o o o (by decide) (by simp) o o o ?_
 refine zz<|zE o<|pk [1,0,0,0,0,0,0] o<|iJ (P:=PP) (I:=dI) ep ?_
 refine az (R':=Res.dfiles PP dI C (dE .str W (H,(List.take (Int.toNat (min c (List.length f6.2.1:Int))) f6.2.1),(nz f6.2.2 c)) u.2.1)) 0 o cw<|nL o<|pk [1,0,0] o<|cC (P:=PP) (I:=dI) (D:=(kJ u (dE .str W (H,(List.take (Int.toNat (min c (List.length f6.2.1:Int))) f6.2.1),(nz f6.2.2 c)) u.2.1))) ?_
 cases h
 exact bm o (.tmp o) (.cons_cons _ (.cons _ .slnil))
theorem jE(u:Nat)(V:Value)(c M r)(h:ku c M=some r):Fn PP 165 [ptr u 0,ti M] [Res.var u 123 DT (cL c V c.2.2.2.2.2.2 ())] (λ_=>ti r.1) (λ_=>[Res.var u 123 DT (cL r.2 V r.2.2.2.2.2.2.2 ())]):=by
 unfold ku at h
 refine enter Tryz.func165 o 60 o o λF=>?_
 refine zu<|q 1 [(0,ptr u 0),(1,ti M)] [] o<|za<|bD h (λf=>[(0,ptr u 0),(1,ti M)]) (λf=>[Res.var u 123 DT (cL f V f.2.2.2.2.2.2 ())]) (λG h=>?_) λf h=>?_
 ·refine zU 3 o<|yl 0 f4 ty3 o o o tr o<|zA o<|rI h o (λhc h=>?_) λhc h=>?_
  ·exact zU 3 o<|yl 0 f4 ty3 o o o tr o<|zm 3 o<|st 0 f4 ty3 o o o o tr<|zZ 3 o<|yl 0 f4 ty3 o o o tr o<|zA o<|rI h o (λhc h=>zU 4 o<|st 0 f5 ty4 o o o o tr<|zm 2 o<|st 0 f6 ty4 o o o o tr<|nL o<|zz<|zE o<|zT<|by cases h;exact aT o (.tmp o) (λ_ _ g=>g) (λ_ _ _=>(.cons_cons _ .slnil))) λhc h=>zk<|zt<|ah (c.1,c.2.1,c.2.2.1,c.2.2.2.1,(wrap .i64 (c.2.2.2.2.1 - 1)),c.2.2.2.2.2.1,c.2.2.2.2.2.2) () h o o
  exact zk<|zt<|ah (c.1,c.2.1,c.2.2.1,c.2.2.2.1,c.2.2.2.2.1,c.2.2.2.2.2.1,c.2.2.2.2.2.2) () h o o
 refine bD h (λR=>[]) (λR=>[Res.var u 123 DT (cL R V R.2.2.2.2.2.2 ())]) (λN h=>?_) λR h=>?_
 ·refine zU 3 o<|yl 0 f2 ty3 o o o tr o<|q 2 [(0,ptr u 0),(1,ti M),(33,tb (decide (f.2.2.1>0)))] [] o ?_
  obtain⟨H,e,h⟩:=aj h;rw[e]
  refine bL h 14 (λC=>[(0,ptr u 0),(47,tb C)]) (λ_=>[Res.var u 123 DT (cL f V f.2.2.2.2.2.2 ())]) (λJ h=>?_) λC h=>?_
  ·cases H
   ·replace h:=ifF h
    exact zN o<|zt<|ah false () h o o
   replace h:=ifT h
   refine zm 3 o<|al dl o ?_
   refine yl 0 f3 ty3 o o o tr o<|q 2 [(33,tb true),(39,tb (f.2.2.2.1==0))] [0,1] o ?_
   obtain⟨W,e,h⟩:=aj h;rw[e]
   refine aH 7 [(0,ptr u 0),(33,tb true),(46,tb (W||(f.2.2.2.1==M)))] [Res.var u 123 DT (cL f V f.2.2.2.2.2.2 ())] (?_) ?_
   ·clear h
    cases W
    ·refine zm 3 o<|al dl o ?_
     exact yl 0 f3 ty3 o o o tr o<|zA o<|ap () o o
    exact zA o<|ap () o o
   exact zN o<|zt<|ah (W||(f.2.2.2.1==M)) () h o o
  exact za<|rI h o (λhc h=>zU 3 o<|yl 0 f2 ty3 o o o tr o<|zm 3 o<|st 0 f2 ty3 o o o o tr<|zZ 3 o<|yl 0 f2 ty3 o o o tr o<|zA o<|rI h o (λhc h=>zU 1 o<|zf<|zT<|by cases h;exact aT o (.tmp o) (λ_ _ g=>g) (λ_ _ _=>(.cons_cons _ .slnil))) λhc h=>zk<|zt<|ah (f.1,c.2.1,(wrap .i64 (f.2.2.1 - 1)),f.2.2.2.1,f.2.2.2.2.1,f.2.2.2.2.2.1,f.2.2.2.2.2.2) () h o o) λhc h=>zk<|zt<|ah (kJ f c.2.1) () h o o
 refine zU 1 o<|zf ?_
 cases h
 exact bm o (.tmp o) (.cons_cons _ .slnil)
theorem dO(M:Value)(c f r)(h:iD c f=some r):Fn PP 117 [tp M,ts f] [Res.disk PP dI M c] (λ_=>ti r.1) (λ_=>[Res.disk PP dI M r.2]):=by
 unfold iD at h
 refine enter Tryz.func117 o 34 o o λF=>?_
 refine iy λV u hp=>?_
 subst hp
 refine zU 1 o<|zZ 2 o<|cB h λH G h=>il (Lo:=[]) (gS V u c f _ G) kr (List.Perm.refl _) o o λR=>?_
 refine zA o<|zs<|zW o<|rI h o (λhc h=>zU 2 o<|zf<|zT<|az (R':=Res.dfiles PP dI u c.2.1) 1 o fZ<|cC (P:=PP) (I:=dI) (D:=c)<|by cases h;exact aT o (.tmp o) (λ_ _ g=>g) (λ_ _ _=>(.cons_cons _ .slnil))) λhc h=>zk<|zt<|zs<|zU 1 o<|cB h λW N h=>il (Lo:=[Res.dfound PP dI u c.2.1 f (aK R 0) H]) (jE V u c 2 _ N) kr (List.Perm.refl _) o o λ_=>?_
 refine zm 1 o<|zz<|zA o<|rI h o (λhc h=>zU 2 o<|zf<|zT<|az (R':=Res.dfiles PP dI u c.2.1) 1 o fZ<|cC (P:=PP) (I:=dI) (D:=(kJ W.2 c.2.1))<|by cases h;exact aT o (.tmp o) (λ_ _ g=>g) (λ_ _ _=>(.cons_cons _ .slnil))) λhc h=>zk<|zt<|zs<|iE h λhc h=>az (R':=Res.dat PP dI u c.2.1 f (aK R 0)) 1 o (nR hc)<|cB h λf6 J h=>pk [1,0] o<|jd ep J λm O w Z hq=>?_
 rw[hq]
 clear hq
 refine zr<|zm 4 o<|yl 0 f0 tx3 o o o tr o<|cB h λC d h=>qq (fh f6.1 _ d) kr (λ_=>o) (λ_ r hr=>by rcases List.mem_singleton.1 hr with rfl;exact Res.free_own o) (.sub o (fk 1 o) .nil) o λa2=>?_
 refine zm 2 o<|st 1 f1 tx3 o o o o tr<|nL o<|pk [0,0,0,1,1,1] o<|zZ 3 o<|yl 1 f2 q9 o o o tr o<|ny 3 o λa3 a4=>?_
 refine AV 3 o o Tryz.underlying235 ?_
 refine jJ (P:=PP) (I:=dI) (keys:=[]) 3 o o ?_
 refine zz<|zE o<|pk [1,1,0,0,0,0] o<|iJ (P:=PP) (I:=dI) ep ?_
 refine az (R':=Res.dfiles PP dI u (dE .str f (f6.1,C,[]) c.2.1)) 0 o cw<|pk [1,0] o<|cC (P:=PP) (I:=dI) (D:=(kJ W.2 (dE .str f (f6.1,C,[]) c.2.1))) ?_
 cases h
 exact bm o (.tmp o) (.cons_cons _ .slnil)
theorem ia(c r)(h:iR c=some r):Fn PP 118 [.one W86 c] [] (λv=> .one W69 v) (λv=>[Res.own v 9 .str r]):=by
 unfold iR at h
 refine enter Tryz.func118 o 8 o o λF=>?_
 refine zW o<|zs<|zU 1 o<|vh o Tryz.underlying128 o λg1 f=>?_
 refine za ?_
 refine iK (b:=g1) o (λhc=>?_) (λhc=>?_)
 ·have hx:=f hc
  subst hx
  have h:(some []:Option (List (List Int)))=some r:=by simpa using h
  refine zU 1 o<|zf<|zT<|bH (.slice none 0 0) o 9 .str ?_
  cases h
  exact aT o (.tmp o) (λ_ _ g=>holds_raw.2 ⟨rfl,by rw[(holds_raw.1 g).1];exact(holds_raw.1 g).2⟩) (λ_ _ g=>by obtain⟨rfl,_⟩:=holds_raw.1 g;exact(.cons_cons _ .slnil))
 refine zy<|bC (B:=16) af o el9 o o o .nil o λu=>?_
 refine zm 1 o<|iE h λhc h=>aW (B:=16) af 0 o o (py o) o el9 o o hc o λM=>?_
 refine zE o ?_
 cases h
 exact aT o (.tmp o) (λ_ _ g=>holds_raw.2 ⟨rfl,by rw[(holds_raw.1 g).1];exact(holds_raw.1 g).2⟩) (λ_ _ g=>by obtain⟨rfl,_⟩:=holds_raw.1 g;exact(.cons_cons _ .slnil))
theorem AB(f:Value)(J a1 d G r)(h:wg J a1 d G=some r):FnT PP bN 65 [tp f,ts a1,ti d,ti G] [Res.disk PP dI f J] (λv=> .tup [⟨.raw (.pointer none),aK v 0⟩,⟨.raw (.slice none 0 0),aK v 1⟩,⟨(.int .i64),r.2.2.1⟩]) (λv=>[Res.disk PP dI f r.2.2.2,Res.clsif (co f) (aK v 0) r.1.2 r.1.1,Res.own (aK v 1) 9 .str r.2.1]):=by
 unfold wg at h
 refine FC Tryz.func65 o 153 o o λF hT=>?_
 refine zu<|aB (t:=W70) o EZ o λM=>aB (t:=W69) o Hi o λV=>bH (.slice none 0 0) o 9 .str ?_
 refine aB (t:=(.int .i64)) o H0 o λR=>za<|AO ?_
 refine zs<|zU 1 o<|cB h λr4 e4 h=>au (Ad _ _ e4) kr o o<|q 2 [(0,tp f),(1,ts a1),(2,ti d),(3,ti G),(8,ptr M 0),(9,ptr V 0),(10,ptr R 0),(26,tb (!r4))] [] o ?_
 obtain⟨b5,e,h⟩:=aj h;rw[e]
 refine aH 3 [(0,tp f),(1,ts a1),(2,ti d),(3,ti G),(8,ptr M 0),(9,ptr V 0),(10,ptr R 0),(29,tb (b5||(decide (d<64))))] [Res.var R 31 (.int .i64) 0,Res.own (.slice none 0 0) 9 .str [],Res.var V 128 W69 (.slice none 0 0),Res.var M 127 W70 (.pointer none),Res.disk PP dI f J] (?_) ?_
 ·clear h
  cases b5
  ·exact zA o<|ap () o o
  exact zA o<|ap () o o
 refine q 1 [(0,tp f),(1,ts a1),(2,ti d),(3,ti G),(8,ptr M 0),(9,ptr V 0),(10,ptr R 0),(30,tb (b5||(decide (d<64))))] [] o ?_
 obtain⟨b6,e,h⟩:=aj h;rw[e]
 refine aH 3 [(0,tp f),(1,ts a1),(2,ti d),(3,ti G),(8,ptr M 0),(9,ptr V 0),(10,ptr R 0),(33,tb (b6||(decide (d>1048576))))] [Res.var R 31 (.int .i64) 0,Res.own (.slice none 0 0) 9 .str [],Res.var V 128 W69 (.slice none 0 0),Res.var M 127 W70 (.pointer none),Res.disk PP dI f J] (?_) ?_
 ·clear h
  cases b6
  ·exact zA o<|ap () o o
  exact zA o<|ap () o o
 refine q 1 [(0,tp f),(1,ts a1),(2,ti d),(3,ti G),(8,ptr M 0),(9,ptr V 0),(10,ptr R 0),(34,tb (b6||(decide (d>1048576))))] [] o ?_
 obtain⟨b7,e,h⟩:=aj h;rw[e]
 refine aH 3 [(0,tp f),(1,ts a1),(2,ti d),(3,ti G),(8,ptr M 0),(9,ptr V 0),(10,ptr R 0),(37,tb (b7||(decide (G<0))))] [Res.var R 31 (.int .i64) 0,Res.own (.slice none 0 0) 9 .str [],Res.var V 128 W69 (.slice none 0 0),Res.var M 127 W70 (.pointer none),Res.disk PP dI f J] (?_) ?_
 ·clear h
  cases b7
  ·exact zA o<|ap () o o
  exact zA o<|ap () o o
 refine q 1 [(0,tp f),(1,ts a1),(2,ti d),(3,ti G),(8,ptr M 0),(9,ptr V 0),(10,ptr R 0),(38,tb (b7||(decide (G<0))))] [] o ?_
 obtain⟨b8,e,h⟩:=aj h;rw[e]
 refine aH 3 [(0,tp f),(1,ts a1),(2,ti d),(3,ti G),(8,ptr M 0),(9,ptr V 0),(10,ptr R 0),(41,tb (b8||(decide (G>1152921504606846976))))] [Res.var R 31 (.int .i64) 0,Res.own (.slice none 0 0) 9 .str [],Res.var V 128 W69 (.slice none 0 0),Res.var M 127 W70 (.pointer none),Res.disk PP dI f J] (?_) ?_
 ·clear h
  cases b8
  ·exact zA o<|ap () o o
  exact zA o<|ap () o o
 refine za<|rI h o (λhc h=>?_) λhc h=>?_
 ·refine zu<|st 3 .here dm o o o o tr<|bH (.slice none 0 0) o 9 .str ?_
  refine st 3 .here tx4 o o o o tr<|nL o<|st 1 .here fW o o o o tr<|zf<|zT<|kE ?_
  refine pd ?_
  refine fm (K:=(co f)) (x:=((),[],0,[],0,false,())) (e:=1) (by decide) ?_
  refine pk [6,0,0,0,0,0,0] o ?_
  cases h
  exact aC (rs:=[.cell 8 127,.cell 9 128,.cell 10 31]) o (.cons (.cell 6 .here o o o aa dm) (.cons (.cell 5 .here o o o aa tx4) (.cons (.cell 3 .here o o o aa fW) (.nil)))) o (λ_ vs g=>by cases g with|cons W g=>cases g with|cons C g=>cases g with|cons N g=>cases g;exact⟨_,o,.cons (bg W) (.cons (bg C) (.cons N (.nil)))⟩) (λ_ vs g=>by cases g with|cons W g=>cases g with|cons C g=>cases g with|cons N g=>cases g;rw[bP W];rw[bP C];exact(.cons_cons _ (.cons_cons _ (.cons_cons _ (.cons _ (.cons _ (.cons _ (.cons _ .slnil))))))))
 refine zk<|zt<|zs<|zU 1 o<|cB h λr9 e5 h=>rc [4] (wh _ _ _ e5) kr o o o λ_=>za<|rI h o (λhc h=>?_) λhc h=>?_
 ·refine zu<|st 4 .here dm o o o o tr<|bH (.slice none 0 0) o 9 .str ?_
  refine st 4 .here tx4 o o o o tr<|nL o<|st 2 .here fW o o o o tr<|zf<|zT<|kE ?_
  refine pd ?_
  refine fm (K:=(co f)) (x:=((),[],0,[],0,false,())) (e:=1) (by decide) ?_
  refine pk [2,0,0,0,0,0,0] o ?_
  cases h
  exact aC (rs:=[.cell 8 127,.cell 9 128,.cell 10 31]) o (.cons (.cell 6 .here o o o aa dm) (.cons (.cell 5 .here o o o aa tx4) (.cons (.cell 3 .here o o o aa fW) (.nil)))) o (λ_ vs g=>by cases g with|cons W g=>cases g with|cons C g=>cases g with|cons N g=>cases g;exact⟨_,o,.cons (bg W) (.cons (bg C) (.cons N (.nil)))⟩) (λ_ vs g=>by cases g with|cons W g=>cases g with|cons C g=>cases g with|cons N g=>cases g;rw[bP W];rw[bP C];exact(.cons_cons _ (.cons_cons _ (.cons_cons _ (.cons _ (.cons _ (.cons _ (.cons _ .slnil))))))))
 refine zy<|q 4 [(0,tp f),(3,ti G),(8,ptr M 0),(9,ptr V 0),(10,ptr R 0),(44,tp f),(45,ts a1),(46,ti d),(47,ti G)] [] o<|y (bc o Hn o o (.cons f0 o o (av aa) (.cons f1 o o (ab (av aa)) (.cons f2 o o (ab (ab (av aa))) (.cons f4 o o (ab (ab (ab (ab (av aa))))) .nil))))) o ?_
 refine bI o o λu=>bH (.slice none 0 0) o 195 Y195 ?_
 refine aB (t:=W70) o EZ o λH=>st 0 .here dm o o o o tr<|zz<|aB (t:=(.int .i64)) o zf3 o λZ=>st 0 .here ty3 o o o o tr<|nL o<|za<|bX h λd6 e6 h=>?_
 refine zQ (γ:=Unit) (λ(O:(Unit×List Int×Int×(List cq)×cx)×Int) _=>[(0,tp f),(3,ti G),(8,ptr M 0),(9,ptr V 0),(10,ptr R 0),(11,ptr H 0),(12,ptr Z 0)]) (λD0 (O:(Unit×List Int×Int×(List cq)×cx)×Int) _=>[Res.cls (co f) (.pointer (some ⟨u,0,none⟩)) O.1,Res.var Z 3 (.int .i64) O.2,Res.var H 127 W70 (.pointer (some ⟨u,0,none⟩)),Res.disk PP dI f J,Res.var R 31 (.int .i64) 0,Res.own (.slice none 0 0) 9 .str [],Res.var V 128 W69 (.slice none 0 0),Res.var M 127 W70 (.pointer none),Res.dfr D0]) d6 r ?_ ?_
 ·refine zu<|yl 1 .here dm o o o tr o<|xV (pH _) kr o o λc5=>?_
  refine za<|zb<|pk [4,3,0,0,0,0,0,0,0,0] o<|cd (x:=((),a1,d,[],G,false,())) (q:=f) ?_
  refine cB h λg6 e7 h=>ai [0,3,8,9,10,11,12,51] o ?_
  refine zO (γ:=Unit) (λ(b0:Int) _=>[Res.cls (co f) (.pointer (some ⟨u,0,none⟩)) ((),a1,d,[],G,false,()),Res.var c5 127 W70 (.pointer (some ⟨u,0,none⟩)),Res.var Z 3 (.int .i64) b0,Res.var H 127 W70 (.pointer (some ⟨u,0,none⟩)),Res.disk PP dI f J,Res.var R 31 (.int .i64) 0,Res.own (.slice none 0 0) 9 .str [],Res.var V 128 W69 (.slice none 0 0),Res.var M 127 W70 (.pointer none)]) (mU J a1 d G d6) (-1) () [1,0,2] hT dl (λ_ _ a b=>TabM.mono a b) (ow _ _ _ _ _ _ e7) kr h o o o o o (λl F1 D0 c6 g7 b0 gg hT h=>?_) (λD0 b0 gg h=>?_)
  ·simp only[mU]at h
   refine zK ?_
   refine nV ?_
   refine nV ?_
   refine kU o ?_
   refine yl 2 .here ty3 o o o tr o<|p 2 [8,9,10,12,13,55] o ?_
   obtain⟨d1,e,h⟩:=aj h;rw[e]
   refine aH 5 [(8,ptr M 0),(9,ptr V 0),(10,ptr R 0),(12,ptr Z 0),(13,ti c6),(60,tb (d1&&(c6 !=(wrap .i64 (b0+1)))))] [Res.cls (co f) (.pointer (some ⟨u,0,none⟩)) ((),a1,d,[],G,false,()),Res.var c5 127 W70 (.pointer (some ⟨u,0,none⟩)),Res.var Z 3 (.int .i64) b0,Res.var H 127 W70 (.pointer (some ⟨u,0,none⟩)),Res.disk PP dI f J,Res.var R 31 (.int .i64) 0,Res.own (.slice none 0 0) 9 .str [],Res.var V 128 W69 (.slice none 0 0),Res.var M 127 W70 (.pointer none)] (?_) ?_
   ·clear h
    cases d1
    ·exact zA o<|ap () o o
    refine zm 1 o<|al dl o ?_
    exact yl 2 .here ty3 o o o tr o<|zA o<|ap () o o
   refine za ?_
   refine BQ (b:=(d1&&(c6 !=(wrap .i64 (b0+1))))) o (λhc=>?_) (λhc=>?_)
   ·rw[if_pos hc]at h
    refine nV ?_
    refine kU o ?_
    refine st 8 .here dm o o o o tr<|bH (.slice none 0 0) o 9 .str ?_
    refine st 8 .here tx4 o o o o tr<|nL o<|st 6 .here fW o o o o tr<|za<|C2 ?_
    refine zT<|zB<|C3 (L2:=[Res.own (.slice none 0 0) 9 .str [],Res.cls (co f) (.pointer (some ⟨u,0,none⟩)) ((),a1,d,[],G,false,()),Res.var c5 127 W70 (.pointer (some ⟨u,0,none⟩)),Res.var Z 3 (.int .i64) b0,Res.var H 127 W70 (.pointer (some ⟨u,0,none⟩)),Res.disk PP dI f J,Res.var R 31 (.int .i64) 60,Res.own (.slice none 0 0) 9 .str [],Res.var V 128 W69 (.slice none 0 0),Res.var M 127 W70 (.pointer none),Res.dfr D0]) o ?_
    refine zB<|zT<|kE ?_
    refine kW [10] o ?_
    refine pd ?_
    refine fm (K:=(co f)) (x:=((),[],0,[],0,false,())) (e:=1) (by decide) ?_
    refine pk [6,0,0,0,0,0,0,0,0,0,0] o ?_
    cases h
    exact aC (rs:=[.cell 8 127,.cell 9 128,.cell 10 31]) o (.cons (.cell 10 .here o o o aa dm) (.cons (.cell 9 .here o o o aa tx4) (.cons (.cell 7 .here o o o aa fW) (.nil)))) o (λ_ vs g=>by cases g with|cons W g=>cases g with|cons C g=>cases g with|cons N g=>cases g;exact⟨_,o,.cons (bg W) (.cons (bg C) (.cons N (.nil)))⟩) (λ_ vs g=>by cases g with|cons W g=>cases g with|cons C g=>cases g with|cons N g=>cases g;rw[bP W];rw[bP C];exact(.cons_cons _ (.cons_cons _ (.cons_cons _ (.cons _ (.cons _ (.cons _ (.cons _ (.cons _ (.cons _ (.cons _ (.cons _ .slnil))))))))))))
   rw[if_neg (ne_true_of_eq_false hc)]at h
   refine xj ?_
   refine zt<|kU o ?_
   exact zm 1 o<|st 2 .here ty3 o o o o tr<|zn<|zi<|Bd c6 () h o
  simp only[mU]at h
  refine EH (L2:=[Res.cls (co f) (.pointer (some ⟨u,0,none⟩)) ((),a1,d,[],G,false,()),Res.var c5 127 W70 (.pointer (some ⟨u,0,none⟩)),Res.var Z 3 (.int .i64) b0,Res.var H 127 W70 (.pointer (some ⟨u,0,none⟩)),Res.disk PP dI f J,Res.var R 31 (.int .i64) 0,Res.own (.slice none 0 0) 9 .str [],Res.var V 128 W69 (.slice none 0 0),Res.var M 127 W70 (.pointer none),Res.dfr D0]) o ?_
  exact zi<|zt<|pk [0,1,1,1,1,1,1,1,1] o<|ai [0,3,8,9,10,11,12] o<|wd (((),a1,d,[],G,false,()),b0) () h o o
 intro D0 O gg h
 rw[←e6]at h
 try dsimp only at h
 refine zu<|aB (t:=W51) o Ho o λm=>bH (.slice none 0 0) o 9 .str ?_
 refine zz<|aB (t:= .bool) o zf4 o λa7=>st 0 .here ty4 o o o o tr<|za<|zs<|AP ?_
 refine zt<|bX h λd7 e8 h=>?_
 refine zQ (γ:=Unit) (λ(c:oQ×(Unit×List Int×Int×(List cq)×cx)×Bool) _=>[(0,tp f),(3,ti G),(8,ptr M 0),(9,ptr V 0),(10,ptr R 0),(11,ptr H 0),(14,ptr m 0),(15,ptr a7 0)]) (λD1 (c:oQ×(Unit×List Int×Int×(List cq)×cx)×Bool) _=>[Res.cls jp (.pointer (some ⟨m,0,none⟩)) c.1,Res.cls (co f) (.pointer (some ⟨u,0,none⟩)) c.2.1,Res.disk PP dI f J,Res.var a7 4 .bool c.2.2,Res.var Z 3 (.int .i64) O.2,Res.var H 127 W70 (.pointer (some ⟨u,0,none⟩)),Res.var R 31 (.int .i64) 0,Res.own (.slice none 0 0) 9 .str [],Res.var V 128 W69 (.slice none 0 0),Res.var M 127 W70 (.pointer none),Res.dfr D0,Res.dfr D1]) d7 r ?_ ?_
 ·refine zu<|yl 5 .here dm o o o tr o<|xV (pH _) kr o o λc7=>?_
  refine za<|zb<|pk [3,2,0,0,0,0,0,0,0,0,0,0,0] o<|jW (x:=([],0,false,false,())) ?_
  refine cB h λg8 e9 h=>ai [0,3,8,9,10,11,12,14,15,63] o ?_
  refine zO (γ:=Unit) (λ(a9:oQ×(Unit×List Int×Int×(List cq)×cx)) _=>[Res.cls jp (.pointer (some ⟨m,0,none⟩)) a9.1,Res.var c7 127 W70 (.pointer (some ⟨u,0,none⟩)),Res.var a7 4 .bool false,Res.cls (co f) (.pointer (some ⟨u,0,none⟩)) a9.2,Res.var Z 3 (.int .i64) O.2,Res.var H 127 W70 (.pointer (some ⟨u,0,none⟩)),Res.disk PP dI f J,Res.var R 31 (.int .i64) 0,Res.own (.slice none 0 0) 9 .str [],Res.var V 128 W69 (.slice none 0 0),Res.var M 127 W70 (.pointer none),Res.dfr D0]) (mT J O d7) (([],0,false,false,()),O.1) () [1,2,4] hT dl (λ_ _ a b=>TabM.mono a b) (ow _ _ _ _ _ _ e9) kr h o o o o o (λl F1 D1 d2 g9 a9 gg hT h=>?_) (λD1 a9 gg h=>?_)
  ·simp only[mT]at h
   refine zK ?_
   refine nV ?_
   refine nV ?_
   refine kU o ?_
   refine yl 5 .here dm o o o tr o<|zm 1 o<|cB h λa6 f5 h=>DZ hT dl [3,0,4] (wS (.pointer (some ⟨u,0,none⟩)) (.pointer (some ⟨m,0,none⟩)) f a9.2 d2 a9.1 J _ f5) kr o o o λ_=>?_
   refine zA o<|nV ?_
   refine kU o ?_
   refine zA o ?_
   refine BQ (b:=(a6.1 !=0)) o (λhc=>?_) (λhc=>?_)
   ·rw[if_pos hc]at h
    refine nV ?_
    refine kU o ?_
    refine zm 1 o<|st 10 .here dm o o o o tr<|bH (.slice none 0 0) o 9 .str ?_
    refine st 10 .here tx4 o o o o tr<|nL o<|st 8 .here fW o o o o tr<|za<|C2 ?_
    refine zT<|zB<|C3 (L2:=[Res.own (.slice none 0 0) 9 .str [],Res.cls (co f) (.pointer (some ⟨u,0,none⟩)) a6.2.1,Res.cls jp (.pointer (some ⟨m,0,none⟩)) a6.2.2,Res.disk PP dI f J,Res.var c7 127 W70 (.pointer (some ⟨u,0,none⟩)),Res.var a7 4 .bool false,Res.var Z 3 (.int .i64) O.2,Res.var H 127 W70 (.pointer (some ⟨u,0,none⟩)),Res.var R 31 (.int .i64) a6.1,Res.own (.slice none 0 0) 9 .str [],Res.var V 128 W69 (.slice none 0 0),Res.var M 127 W70 (.pointer none),Res.dfr D0,Res.dfr D1]) o ?_
    refine zB<|zT<|kE ?_
    refine kW [13] o ?_
    refine kW [12] o ?_
    refine pd ?_
    refine fm (K:=(co f)) (x:=((),[],0,[],0,false,())) (e:=1) (by decide) ?_
    refine pk [4,0,0,0,0,0,0,0,0,0,0,0,0] o ?_
    cases h
    exact aC (rs:=[.cell 8 127,.cell 9 128,.cell 10 31]) o (.cons (.cell 12 .here o o o aa dm) (.cons (.cell 11 .here o o o aa tx4) (.cons (.cell 9 .here o o o aa fW) (.nil)))) o (λ_ vs g=>by cases g with|cons W g=>cases g with|cons C g=>cases g with|cons N g=>cases g;exact⟨_,o,.cons (bg W) (.cons (bg C) (.cons N (.nil)))⟩) (λ_ vs g=>by cases g with|cons W g=>cases g with|cons C g=>cases g with|cons N g=>cases g;rw[bP W];rw[bP C];exact(.cons_cons _ (.cons_cons _ (.cons_cons _ (.cons _ (.cons _ (.cons _ (.cons _ (.cons _ (.cons _ (.cons _ (.cons _ (.cons _ (.cons _ .slnil))))))))))))))
   rw[if_neg (ne_true_of_eq_false hc)]at h
   refine xj ?_
   refine zt<|nV ?_
   refine pk [1,0,0,0,0,0,0,0,0,0,0,0] o<|mV λd8=>?_
   refine kU o ?_
   refine zm 1 o<|yl 0 f3 ty4 o o o tr o<|za ?_
   refine BQ (b:=a6.2.2.2.2.2.1) o (λhc=>?_) (λhc=>?_)
   ·rw[if_pos hc]at h
    refine nV ?_
    refine kU o ?_
    refine zm 1 o<|yl 6 .here ty3 o o o tr o<|zm 1 o<|st 5 .here ty4 o o o o tr<|za<|Fz ?_
    refine yI o ?_
    refine FA (L2:=[Res.var m 191 W51 (gn a6.2.2 d8),Res.own d8 9 .str a6.2.2.1,Res.cls (co f) (.pointer (some ⟨u,0,none⟩)) a6.2.1,Res.disk PP dI f J,Res.var c7 127 W70 (.pointer (some ⟨u,0,none⟩)),Res.var a7 4 .bool (d2 !=O.2),Res.var Z 3 (.int .i64) O.2,Res.var H 127 W70 (.pointer (some ⟨u,0,none⟩)),Res.var R 31 (.int .i64) 0,Res.own (.slice none 0 0) 9 .str [],Res.var V 128 W69 (.slice none 0 0),Res.var M 127 W70 (.pointer none),Res.dfr D0,Res.dfr D1]) o ?_
    refine zq<|zt<|jW (x:=a6.2.2) ?_
    exact pk [0,0,0,1,1,1,1,1,1,1,1,1] o<|ai [0,3,8,9,10,11,14,15] o<|wd (a6.2.2,a6.2.1,(d2 !=O.2)) () h o o
   rw[if_neg (ne_true_of_eq_false hc)]at h
   refine xj ?_
   refine zi<|jW (x:=a6.2.2) ?_
   exact pk [0,2,2,0,1,1,0,0,0,0,0,0] o<|Bd (a6.2.2,a6.2.1) () h o
  simp only[mT]at h
  refine EH (L2:=[Res.cls jp (.pointer (some ⟨m,0,none⟩)) a9.1,Res.var c7 127 W70 (.pointer (some ⟨u,0,none⟩)),Res.var a7 4 .bool false,Res.cls (co f) (.pointer (some ⟨u,0,none⟩)) a9.2,Res.var Z 3 (.int .i64) O.2,Res.var H 127 W70 (.pointer (some ⟨u,0,none⟩)),Res.disk PP dI f J,Res.var R 31 (.int .i64) 0,Res.own (.slice none 0 0) 9 .str [],Res.var V 128 W69 (.slice none 0 0),Res.var M 127 W70 (.pointer none),Res.dfr D0,Res.dfr D1]) o ?_
  exact zi<|zt<|pk [0,1,1,1,1,1,1,1,1,1,1,1] o<|ai [0,3,8,9,10,11,14,15] o<|pk [0,1,3,0,0,0,0,0,0,0,0,0] o<|wd (a9.1,a9.2,false) () h o o
 intro D1 c gg h
 rw[←e8]at h
 try dsimp only at h
 refine zs<|zs<|mV λa8=>?_
 refine pk [2,0,0,0,0,0,0,0,0,0,0,0,0] o<|fY λc0=>?_
 refine zr<|yl 5 .here ty4 o o o tr o<|q 1 [(11,ptr H 0),(14,ptr m 0),(77,tb c.2.2)] [0,3,8,9,10] o<|bL h 17 (λd9=>[(0,tp f),(3,ti G),(8,ptr M 0),(9,ptr V 0),(10,ptr R 0),(11,ptr H 0),(14,ptr m 0),(94,tb d9)]) (λ_=>[Res.var u 186 W43 (bT c.2.1 f c0),Res.own c0 195 Y195 c.2.1.2.2.2.1,Res.var m 191 W51 (gn c.1 a8),Res.own a8 9 .str c.1.1,Res.disk PP dI f J,Res.var a7 4 .bool c.2.2,Res.var Z 3 (.int .i64) O.2,Res.var H 127 W70 (.pointer (some ⟨u,0,none⟩)),Res.var R 31 (.int .i64) 0,Res.own (.slice none 0 0) 9 .str [],Res.var V 128 W69 (.slice none 0 0),Res.var M 127 W70 (.pointer none),Res.dfr D0,Res.dfr D1]) (λh3 h=>?_) λd9 h=>?_
 ·rcases Bool.eq_false_or_eq_true c.2.2 with hh|hh
  ·rw[if_pos hh]at h
   refine pC 77 hh o ?_
   exact zN o<|zt<|ah true () h o o
  rw[if_neg (ne_true_of_eq_false hh)]at h
  refine pC 77 hh o ?_
  refine zm 1 o<|al dl o ?_
  refine yl 2 f2 ty4 o o o tr o<|q 1 [(77,tb false),(80,tb c.1.2.2.1)] [0,3,8,9,10,11,14] o<|bL h 13 (λd3=>[(0,tp f),(3,ti G),(8,ptr M 0),(9,ptr V 0),(10,ptr R 0),(11,ptr H 0),(14,ptr m 0),(77,tb false),(93,tb d3)]) (λ_=>[Res.var u 186 W43 (bT c.2.1 f c0),Res.own c0 195 Y195 c.2.1.2.2.2.1,Res.var m 191 W51 (gn c.1 a8),Res.own a8 9 .str c.1.1,Res.disk PP dI f J,Res.var a7 4 .bool c.2.2,Res.var Z 3 (.int .i64) O.2,Res.var H 127 W70 (.pointer (some ⟨u,0,none⟩)),Res.var R 31 (.int .i64) 0,Res.own (.slice none 0 0) 9 .str [],Res.var V 128 W69 (.slice none 0 0),Res.var M 127 W70 (.pointer none),Res.dfr D0,Res.dfr D1]) (λh4 h=>?_) λd3 h=>?_
  ·rcases Bool.eq_false_or_eq_true c.1.2.2.1 with hh|hh
   ·rw[if_pos hh]at h
    refine pC 80 hh o ?_
    refine zm 1 o<|al dl o ?_
    refine yl 2 f1 ty2 o o o tr o<|q 3 [(80,tb true),(85,tb (decide (c.1.2.1>G)))] [0,3,8,9,10,11,14,77] o ?_
    obtain⟨d4,e,h⟩:=aj h;rw[e]
    refine aH 7 [(0,tp f),(3,ti G),(8,ptr M 0),(9,ptr V 0),(10,ptr R 0),(11,ptr H 0),(14,ptr m 0),(77,tb false),(80,tb true),(92,tb (d4||(decide (c.2.1.2.2.2.2.1<G))))] [Res.var u 186 W43 (bT c.2.1 f c0),Res.own c0 195 Y195 c.2.1.2.2.2.1,Res.var m 191 W51 (gn c.1 a8),Res.own a8 9 .str c.1.1,Res.disk PP dI f J,Res.var a7 4 .bool c.2.2,Res.var Z 3 (.int .i64) O.2,Res.var H 127 W70 (.pointer (some ⟨u,0,none⟩)),Res.var R 31 (.int .i64) 0,Res.own (.slice none 0 0) 9 .str [],Res.var V 128 W69 (.slice none 0 0),Res.var M 127 W70 (.pointer none),Res.dfr D0,Res.dfr D1] (?_) ?_
    ·clear h
     cases d4
     ·refine al dl o ?_
      refine yl 7 .here dm o o o tr o<|zm 2 o<|al dl o ?_
      exact yl 0 f4 ty2 o o o tr o<|zA o<|ap () o o
     exact zA o<|ap () o o
    exact zN o<|zt<|ah (d4||(decide (c.2.1.2.2.2.2.1<G))) () h o o
   rw[if_neg (ne_true_of_eq_false hh)]at h
   refine pC 80 hh o ?_
   exact zN o<|zt<|ah false () h o o
  exact zN o<|zt<|ah d3 () h o o
 refine za<|rI h o (λhc h=>?_) λhc h=>?_
 ·refine zu<|st 11 .here dm o o o o tr<|bH (.slice none 0 0) o 9 .str ?_
  refine st 11 .here tx4 o o o o tr<|nL o<|st 9 .here fW o o o o tr<|zf<|zT<|kE ?_
  refine kW [14] o ?_
  refine kW [13] o ?_
  refine pd ?_
  refine fm (K:=(co f)) (x:=((),[],0,[],0,false,())) (e:=1) (by decide) ?_
  refine pk [6,0,0,0,0,0,0,0,0,0,0,0,0,0] o ?_
  cases h
  exact aC (rs:=[.cell 8 127,.cell 9 128,.cell 10 31]) o (.cons (.cell 13 .here o o o aa dm) (.cons (.cell 12 .here o o o aa tx4) (.cons (.cell 10 .here o o o aa fW) (.nil)))) o (λ_ vs g=>by cases g with|cons W g=>cases g with|cons C g=>cases g with|cons N g=>cases g;exact⟨_,o,.cons (bg W) (.cons (bg C) (.cons N (.nil)))⟩) (λ_ vs g=>by cases g with|cons W g=>cases g with|cons C g=>cases g with|cons N g=>cases g;rw[bP W];rw[bP C];exact(.cons_cons _ (.cons_cons _ (.cons_cons _ (.cons _ (.cons _ (.cons _ (.cons _ (.cons _ (.cons _ (.cons _ (.cons _ (.cons _ (.cons _ (.cons _ .slnil)))))))))))))))
 refine zk<|zt<|jK h (γ:=Value) (λc8 c3=>[(0,tp f),(3,ti G),(8,ptr M 0),(9,ptr V 0),(10,ptr R 0),(11,ptr H 0),(14,ptr m 0)]) (λc8 c3=>[Res.disk PP dI f c8,Res.var u 186 W43 (bT c.2.1 f c3),Res.own c3 195 Y195 c.2.1.2.2.2.1,Res.var m 191 W51 (gn c.1 a8),Res.own a8 9 .str c.1.1,Res.var a7 4 .bool c.2.2,Res.var Z 3 (.int .i64) O.2,Res.var H 127 W70 (.pointer (some ⟨u,0,none⟩)),Res.var R 31 (.int .i64) 0,Res.own (.slice none 0 0) 9 .str [],Res.var V 128 W69 (.slice none 0 0),Res.var M 127 W70 (.pointer none),Res.dfr D0,Res.dfr D1]) (λh5 h=>?_) λc8 c3 h=>?_
 ·refine zU 1 o<|yl 2 f3 ty4 o o o tr o<|za<|rI h o (λhc h=>?_) λhc h=>?_
  ·refine zs ?_
   obtain⟨e0,h⟩:=cu h
   refine cT 1 o (by omega) λa4 a5 b4 hv=>?_
   rw[hv]
   try clear hv
   refine gc (S:=bG [kp a4 a5 195 Y195 c.2.1.2.2.2.1,aZ H 127 W70 (.pointer (some ⟨u,0,none⟩)),aZ u 186 W43 (bT c.2.1 f (.slice (some ⟨a4,a5,none⟩) (List.length c.2.1.2.2.2.1) b4))]) kr ?_
   refine bq 0 (ptr u 0) (ag (l7 1 o (by omega)) (ag (aq 7 o) (ag (aq 0 o) ak))) o kr (cp (S:=λw=>bG [kp a4 a5 195 Y195 c.2.1.2.2.2.1,aZ H 127 W70 (.pointer (some ⟨u,0,none⟩)),aZ u 186 W43 (bT c.2.1 f (.slice (some ⟨a4,a5,none⟩) (List.length c.2.1.2.2.2.1) b4))] w) (bz 1 o) 7 .here o o o o aa dm) λs=>zH 2 [1,2] s kr o o λs=>bq 3 (.one W69 (.slice (some ⟨a4,a5,none⟩) (List.length c.2.1.2.2.2.1) b4)) s o kr (cp (S:=λw=>bG [kp a4 a5 195 Y195 c.2.1.2.2.2.1,aZ H 127 W70 (.pointer (some ⟨u,0,none⟩)),aZ u 186 W43 (bT c.2.1 f (.slice (some ⟨a4,a5,none⟩) (List.length c.2.1.2.2.2.1) b4))] w) (bz 2 o) 0 f3 o o o o (ab (ab (ab (av aa)))) tx5) λs=>bq 4 (ptr u 0) s o kr (cp (S:=λw=>bG [kp a4 a5 195 Y195 c.2.1.2.2.2.1,aZ H 127 W70 (.pointer (some ⟨u,0,none⟩)),aZ u 186 W43 (bT c.2.1 f (.slice (some ⟨a4,a5,none⟩) (List.length c.2.1.2.2.2.1) b4))] w) (bz 1 o) 7 .here o o o o aa dm) λs=>zH 2 [5,6] s kr o o λs=>bq 7 (.one W69 (.slice (some ⟨a4,a5,none⟩) (List.length c.2.1.2.2.2.1) b4)) s o kr (cp (S:=λw=>bG [kp a4 a5 195 Y195 c.2.1.2.2.2.1,aZ H 127 W70 (.pointer (some ⟨u,0,none⟩)),aZ u 186 W43 (bT c.2.1 f (.slice (some ⟨a4,a5,none⟩) (List.length c.2.1.2.2.2.1) b4))] w) (bz 2 o) 0 f3 o o o o (ab (ab (ab (av aa)))) tx5) λs=>bq 8 (ti (List.length c.2.1.2.2.2.1:Int)) s o kr (ct (t:=Y195) af 1 o o o) λs=>zH 1 [9] s kr o o λs=>bq 10 (ptr a4 (a5+(Int.toNat (wrap .i64 ((List.length c.2.1.2.2.2.1:Int) - 1)))*3)) s o kr (dn af o o e0.1 e0.2 o dB) λs=>bq 11 (.one Y195 (List.getD c.2.1.2.2.2.1 (Int.toNat (wrap .i64 ((List.length c.2.1.2.2.2.1:Int) - 1))) (0,0,0,()))) s o kr (uD (S:=λw=>bG [kp a4 a5 195 Y195 c.2.1.2.2.2.1,aZ H 127 W70 (.pointer (some ⟨u,0,none⟩)),aZ u 186 W43 (bT c.2.1 f (.slice (some ⟨a4,a5,none⟩) (List.length c.2.1.2.2.2.1) b4))] w) (bz 0 o) 1 (Int.toNat (wrap .i64 ((List.length c.2.1.2.2.2.1:Int) - 1))) .here o o o (by omega) pof aa dB) λs=>aF 12 kr o<|aB (t:=Y195) o qa o λc9=>za<|bi (ag (l7 2 o (by omega)) (ag (aq 8 o) (ag (aq 1 o) ak))) ?_
   refine ai [0,3,8,9,10,11,14,18,108] o<|aF 13 kr o<|st 0 .here dB o o o o tr<|za<|bi (ag (l7 2 o (by omega)) (ag (aq 8 o) (ag (aq 1 o) ak))) ?_
   refine ai [0,3,8,9,10,11,14,18] o<|dU kr<|zt<|zs<|gc (S:=bG [aZ H 127 W70 (.pointer (some ⟨u,0,none⟩)),aZ c9 195 Y195 (List.getD c.2.1.2.2.2.1 (Int.toNat (wrap .i64 ((List.length c.2.1.2.2.2.1:Int) - 1))) (0,0,0,()))]) kr ?_
   refine zH 1 [0] (ag (aq 8 o) (ag (aq 0 o) ak)) kr o o λs=>bq 1 (ptr u 0) s o kr (cp (S:=λw=>bG [aZ H 127 W70 (.pointer (some ⟨u,0,none⟩)),aZ c9 195 Y195 (List.getD c.2.1.2.2.2.1 (Int.toNat (wrap .i64 ((List.length c.2.1.2.2.2.1:Int) - 1))) (0,0,0,()))] w) (bz 0 o) 8 .here o o o pof aa dm) λs=>zH 1 [2] s kr o o λs=>bq 3 (ti ((List.getD c.2.1.2.2.2.1 (Int.toNat (wrap .i64 ((List.length c.2.1.2.2.2.1:Int) - 1))) (0,0,0,())).1)) s o kr (cp (S:=λw=>bG [aZ H 127 W70 (.pointer (some ⟨u,0,none⟩)),aZ c9 195 Y195 (List.getD c.2.1.2.2.2.1 (Int.toNat (wrap .i64 ((List.length c.2.1.2.2.2.1:Int) - 1))) (0,0,0,()))] w) (bz 1 o) 0 f0 o o o pof (av aa) ty3) λs=>zH 1 [5] s kr o o λs=>bq 6 (ti ((List.getD c.2.1.2.2.2.1 (Int.toNat (wrap .i64 ((List.length c.2.1.2.2.2.1:Int) - 1))) (0,0,0,())).2.1)) s o kr (cp (S:=λw=>bG [aZ H 127 W70 (.pointer (some ⟨u,0,none⟩)),aZ c9 195 Y195 (List.getD c.2.1.2.2.2.1 (Int.toNat (wrap .i64 ((List.length c.2.1.2.2.2.1:Int) - 1))) (0,0,0,()))] w) (bz 1 o) 0 f1 o o o pof (ab (av aa)) ty3) λs=>aF 4 kr o<|cB h λh6 f6 h=>DZ hT dl [1] (aI _ _ _ c.2.1 ((List.getD c.2.1.2.2.2.1 (Int.toNat (wrap .i64 ((List.length c.2.1.2.2.2.1:Int) - 1))) (0,0,0,())).1) _ f6) kr o o o λ_=>?_
   refine za<|bi (ag (aq 8 o) (ag (aq 1 o) ak)) ?_
   refine ai [0,3,8,9,10,11,14,109,113,115] o<|aF 7 kr o<|cB h λf7 f8 h=>rc [5] (nH _ _ _ _ _ f8) kr o o o λ_=>za<|bi (ag (aq 8 o) (ag (aq 2 o) ak)) ?_
   refine ai [0,3,8,9,10,11,14,116] o<|zH 1 [8] (ag (aq 8 o) (ag (aq 2 o) ak)) kr o o λs=>dU kr<|zt<|zW o<|rI h o (λhc h=>?_) λhc h=>?_
   ·refine zU 1 o<|st 12 .here dm o o o o tr<|bH (.slice none 0 0) o 9 .str ?_
    refine st 12 .here tx4 o o o o tr<|nL o<|st 10 .here fW o o o o tr<|zf<|zT<|kE ?_
    refine kW [15] o ?_
    refine kW [14] o ?_
    refine pd ?_
    refine fm (K:=(co f)) (x:=((),[],0,[],0,false,())) (e:=1) (by decide) ?_
    refine pk [2,0,0,0,0,0,0,0,0,0,0,0,0,0,0] o ?_
    cases h
    exact aC (rs:=[.cell 8 127,.cell 9 128,.cell 10 31]) o (.cons (.cell 14 .here o o o aa dm) (.cons (.cell 13 .here o o o aa tx4) (.cons (.cell 11 .here o o o aa fW) (.nil)))) o (λ_ vs g=>by cases g with|cons W g=>cases g with|cons C g=>cases g with|cons N g=>cases g;exact⟨_,o,.cons (bg W) (.cons (bg C) (.cons N (.nil)))⟩) (λ_ vs g=>by cases g with|cons W g=>cases g with|cons C g=>cases g with|cons N g=>cases g;rw[bP W];rw[bP C];exact(.cons_cons _ (.cons_cons _ (.cons_cons _ (.cons _ (.cons _ (.cons _ (.cons _ (.cons _ (.cons _ (.cons _ (.cons _ (.cons _ (.cons _ (.cons _ (.cons _ .slnil))))))))))))))))
   exact zk<|zt<|pk [0,0,1,1,1,1,1,1,1,1,1,1,1,1] o<|ah f7.2 (.slice (some ⟨a4,a5,none⟩) (List.length c.2.1.2.2.2.1) b4) h o o
  exact zk<|zt<|pk [4,0,0,0,0,0,0,0,0,0,0,0,0,0] o<|ah J c0 h o o
 refine jK h (γ:=Value) (λd0 c1=>[(3,ti G),(8,ptr M 0),(9,ptr V 0),(10,ptr R 0),(11,ptr H 0),(14,ptr m 0)]) (λd0 c1=>[Res.disk PP dI f d0,Res.var u 186 W43 (bT c.2.1 f c1),Res.own c1 195 Y195 c.2.1.2.2.2.1,Res.var m 191 W51 (gn c.1 a8),Res.own a8 9 .str c.1.1,Res.var a7 4 .bool c.2.2,Res.var Z 3 (.int .i64) O.2,Res.var H 127 W70 (.pointer (some ⟨u,0,none⟩)),Res.var R 31 (.int .i64) 0,Res.own (.slice none 0 0) 9 .str [],Res.var V 128 W69 (.slice none 0 0),Res.var M 127 W70 (.pointer none),Res.dfr D0,Res.dfr D1]) (λf9 h=>?_) λd0 c1 h=>?_
 ·refine zu<|yl 7 .here dm o o o tr o<|zm 2 o<|yl 1 f3 tx5 o o o tr o<|y (ct af 2 o o o) o ?_
  refine zA o<|zb<|ai [0,3,8,9,10,11,14,123,124,125] o<|bl (γ:=Value) (λ(b9:Int×aU) c2=>[(0,tp f),(3,ti G),(8,ptr M 0),(9,ptr V 0),(10,ptr R 0),(11,ptr H 0),(14,ptr m 0),(123,.one W69 c2),(124,ti (List.length c.2.1.2.2.2.1:Int)),(125,ti b9.1)]) (λ(b9:Int×aU) c2=>[Res.disk PP dI f b9.2,Res.var u 186 W43 (bT c.2.1 f c2),Res.own c2 195 Y195 c.2.1.2.2.2.1,Res.var m 191 W51 (gn c.1 a8),Res.own a8 9 .str c.1.1,Res.var a7 4 .bool c.2.2,Res.var Z 3 (.int .i64) O.2,Res.var H 127 W70 (.pointer (some ⟨u,0,none⟩)),Res.var R 31 (.int .i64) 0,Res.own (.slice none 0 0) 9 .str [],Res.var V 128 W69 (.slice none 0 0),Res.var M 127 W70 (.pointer none),Res.dfr D0,Res.dfr D1]) (ph c f9) (0,c8) c3 h o o ?_
  clear h
  intro e1 b9 c2 h
  cases e1 with
  |zero=>cases h
  |succ e1=>
  simp only[ph]at h
  refine zW o<|zs<|rI h o (λhc h=>?_) λhc h=>?_
  ·refine zk<|zt<|zs<|zb<|zu<|iE h λhc h=>cT 2 o (by omega) λg0 g1 g2 hv=>?_
   rw[hv]
   try clear hv
   refine y (dn af o o hc.1 (by first|exact hc.2|simpa using hc.2) o dB) o ?_
   refine y (eC 2 (Int.toNat b9.1) .here o o (by omega) pof aa dB) o ?_
   refine aB (t:=Y195) o qa o λh7=>st 0 .here dB o o o o tr<|zZ 1 o<|yl 8 .here dm o o o tr o<|zm 1 o<|yl 0 f0 ty3 o o o tr o<|cB h λh8 g3 h=>DZ hT dl [2] (aI _ _ _ c.2.1 ((List.getD c.2.1.2.2.2.1 (Int.toNat b9.1) (0,0,0,())).1) _ g3) kr o o o λ_=>?_
   refine cB h λg4 g5 h=>rc [2] (dO _ _ _ _ g5) kr o o o λ_=>zm 1 o<|zz<|zA o<|rI h o (λhc h=>?_) λhc h=>?_
   ·refine zU 1 o<|st 12 .here dm o o o o tr<|bH (.slice none 0 0) o 9 .str ?_
    refine st 12 .here tx4 o o o o tr<|nL o<|st 10 .here fW o o o o tr<|zf<|zB<|zT<|zT<|zB<|zT<|kE ?_
    refine kW [15] o ?_
    refine kW [14] o ?_
    refine pd ?_
    refine fm (K:=(co f)) (x:=((),[],0,[],0,false,())) (e:=1) (by decide) ?_
    refine pk [2,0,0,0,0,0,0,0,0,0,0,0,0,0,0] o ?_
    cases h
    exact aC (rs:=[.cell 8 127,.cell 9 128,.cell 10 31]) o (.cons (.cell 14 .here o o o aa dm) (.cons (.cell 13 .here o o o aa tx4) (.cons (.cell 11 .here o o o aa fW) (.nil)))) o (λ_ vs g=>by cases g with|cons W g=>cases g with|cons C g=>cases g with|cons N g=>cases g;exact⟨_,o,.cons (bg W) (.cons (bg C) (.cons N (.nil)))⟩) (λ_ vs g=>by cases g with|cons W g=>cases g with|cons C g=>cases g with|cons N g=>cases g;rw[bP W];rw[bP C];exact(.cons_cons _ (.cons_cons _ (.cons_cons _ (.cons _ (.cons _ (.cons _ (.cons _ (.cons _ (.cons _ (.cons _ (.cons _ (.cons _ (.cons _ (.cons _ (.cons _ .slnil))))))))))))))))
   exact zk<|zi<|zt<|zr<|zA o<|pk [0,0,1,1,1,1,1,1,1,1,1,1,1,1] o<|aY ((wrap .i64 (b9.1+1)),g4.2) (.slice (some ⟨g0,g1,none⟩) (List.length c.2.1.2.2.2.1) g2) (Nat.lt_succ_self _) h o o
  exact zx<|ze<|ze<|zq<|zt<|ah b9.2 c2 h o o
 refine bD h (λd5=>[(8,ptr M 0),(9,ptr V 0),(10,ptr R 0),(11,ptr H 0),(14,ptr m 0)]) (λd5=>[Res.var m 191 (.pair W86 (.pair (.int .i64) (.pair .bool (.pair .bool .unit)))) d5,Res.disk PP dI f d0,Res.var u 186 W43 (bT c.2.1 f c1),Res.own c1 195 Y195 c.2.1.2.2.2.1,Res.var a7 4 .bool c.2.2,Res.var Z 3 (.int .i64) O.2,Res.var H 127 W70 (.pointer (some ⟨u,0,none⟩)),Res.var R 31 (.int .i64) 0,Res.own (.slice none 0 0) 9 .str [],Res.var V 128 W69 (.slice none 0 0),Res.var M 127 W70 (.pointer none),Res.dfr D0,Res.dfr D1]) (λh9 h=>?_) λd5 h=>?_
 ·refine zU 1 o<|yl 3 f2 ty4 o o o tr o<|za<|pk [4,3,0,0,0,0,0,0,0,0,0,0,0,0] o<|dw (t:= .str) f0 o o ?_
  refine rI h o (λhc h=>?_) λhc h=>?_
  ·refine zr<|zm 1 o<|yl 0 f0 yB o o o tr o<|zm 2 o<|yl 0 f1 ty2 o o o tr o<|zm 1 o<|iE h λhc h=>y (Fg (i:=(wrap .i64 (G - c.1.2.1))) (j:=(List.length c.1.1:Int)) af o o o hc.1 hc.2.1 hc.2.2 o ty9) o ?_
   exact zm 1 o<|st 0 f0 yB o o o o tr<|za<|ah (gn c.1 (List.drop (Int.toNat (wrap .i64 (G - c.1.2.1))) (List.take (Int.toNat (List.length c.1.1:Int)) c.1.1))) () h o o
  exact zk<|zt<|ah (c.1.1,c.1.2.1,c.1.2.2.1,c.1.2.2.2.1,c.1.2.2.2.2) () h o o
 refine zs<|dA kr<|zF 1 [1] kr o o ?_
 refine bv (i:=0) (j:=2) kr o o ?_ ?_
 ·refine yl 6 .here dm o o o tr o<|zL [8,9,10,149,150] o<|ae 2 kr o<|yl 0 f0 yB o o o tr o<|zL [8,9,10,149,151] o<|ae 3 kr o<|cB h λe2 c4 h=>rc [] (ia _ _ c4) kr o o o λe3=>zL [8,9,10,149,152] o<|ae 4 kr o<|st 11 .here dm o o o o tr<|zL [8,9,10,152] o<|ae 5 kr o<|st 10 .here tx4 o o o o tr ?_
  refine nL o<|zL [8,9,10] o<|ae 6 kr o<|st 8 .here fW o o o o tr<|zL [8,9,10] o<|aJ kr<|zt<|zR<|kE ?_
  refine kW [13] o ?_
  refine kW [12] o ?_
  refine pd ?_
  refine pk [3,3,0,0,0,0,0,0,0,0,0,0] o<|cd (x:=c.2.1) (q:=f) ?_
  refine az (R':=Res.clsif (co f) (.pointer (some ⟨u,0,none⟩)) c.2.1 0) 0 o (du o)<|nL o<|pk [3,0,0,0,0,0,0,0,0,0,0] o ?_
  cases h
  exact aC (rs:=[.cell 8 127,.cell 9 128,.cell 10 31]) o (.cons (.cell 10 .here o o o aa dm) (.cons (.cell 9 .here o o o aa tx4) (.cons (.cell 7 .here o o o aa fW) (.nil)))) o (λ_ vs g=>by cases g with|cons W g=>cases g with|cons C g=>cases g with|cons N g=>cases g;exact⟨_,o,.cons (bg W) (.cons (bg C) (.cons N (.nil)))⟩) (λ_ vs g=>by cases g with|cons W g=>cases g with|cons C g=>cases g with|cons N g=>cases g;rw[bP W];rw[bP C];exact(.cons_cons _ (.cons_cons _ (.cons_cons _ (.cons _ (.cons _ (.cons _ (.cons _ (.cons _ (.cons _ (.cons _ (.cons _ .slnil))))))))))))
 refine yl 0 f0 yB o o o tr o<|zL [8,9,10,11,151] o ?_
 refine bv (i:=0) (j:=3) kr o o ?_ ?_
 ·refine yl 6 .here dm o o o tr o<|zL [8,9,10,149,151] o<|ae 3 kr o<|cB h λe2 c4 h=>rc [] (ia _ _ c4) kr o o o λe3=>zL [8,9,10,149,152] o<|ae 4 kr o<|st 11 .here dm o o o o tr<|zL [8,9,10,152] o<|ae 5 kr o<|st 10 .here tx4 o o o o tr<|nL o<|zL [8,9,10] o<|ae 6 kr o ?_
  refine st 8 .here fW o o o o tr<|zL [8,9,10] o<|aJ kr<|zt<|zR<|kE ?_
  refine kW [13] o ?_
  refine kW [12] o ?_
  refine pd ?_
  refine pk [3,3,0,0,0,0,0,0,0,0,0,0] o<|cd (x:=c.2.1) (q:=f) ?_
  refine az (R':=Res.clsif (co f) (.pointer (some ⟨u,0,none⟩)) c.2.1 0) 0 o (du o)<|nL o<|pk [3,0,0,0,0,0,0,0,0,0,0] o ?_
  cases h
  exact aC (rs:=[.cell 8 127,.cell 9 128,.cell 10 31]) o (.cons (.cell 10 .here o o o aa dm) (.cons (.cell 9 .here o o o aa tx4) (.cons (.cell 7 .here o o o aa fW) (.nil)))) o (λ_ vs g=>by cases g with|cons W g=>cases g with|cons C g=>cases g with|cons N g=>cases g;exact⟨_,o,.cons (bg W) (.cons (bg C) (.cons N (.nil)))⟩) (λ_ vs g=>by cases g with|cons W g=>cases g with|cons C g=>cases g with|cons N g=>cases g;rw[bP W];rw[bP C];exact(.cons_cons _ (.cons_cons _ (.cons_cons _ (.cons _ (.cons _ (.cons _ (.cons _ (.cons _ (.cons _ (.cons _ (.cons _ .slnil))))))))))))
 refine cB h λe2 c4 h=>rc [] (ia _ _ c4) kr o o o λe3=>zL [8,9,10,11,152] o<|ae 0 kr o<|yl 7 .here dm o o o tr o<|zL [8,9,10,149,152] o<|ae 4 kr o<|st 11 .here dm o o o o tr<|zL [8,9,10,152] o<|ae 5 kr o<|st 10 .here tx4 o o o o tr<|nL o<|zL [8,9,10] o<|ae 6 kr o ?_
 refine st 8 .here fW o o o o tr<|zL [8,9,10] o<|aJ kr<|zt<|zR<|kE ?_
 refine kW [13] o ?_
 refine kW [12] o ?_
 refine pd ?_
 refine pk [3,3,0,0,0,0,0,0,0,0,0,0] o<|cd (x:=c.2.1) (q:=f) ?_
 refine az (R':=Res.clsif (co f) (.pointer (some ⟨u,0,none⟩)) c.2.1 0) 0 o (du o)<|nL o<|pk [3,0,0,0,0,0,0,0,0,0,0] o ?_
 cases h
 exact aC (rs:=[.cell 8 127,.cell 9 128,.cell 10 31]) o (.cons (.cell 10 .here o o o aa dm) (.cons (.cell 9 .here o o o aa tx4) (.cons (.cell 7 .here o o o aa fW) (.nil)))) o (λ_ vs g=>by cases g with|cons W g=>cases g with|cons C g=>cases g with|cons N g=>cases g;exact⟨_,o,.cons (bg W) (.cons (bg C) (.cons N (.nil)))⟩) (λ_ vs g=>by cases g with|cons W g=>cases g with|cons C g=>cases g with|cons N g=>cases g;rw[bP W];rw[bP C];exact(.cons_cons _ (.cons_cons _ (.cons_cons _ (.cons _ (.cons _ (.cons _ (.cons _ (.cons _ (.cons _ (.cons _ (.cons _ .slnil))))))))))))
theorem pS(R u r)(h:mo R u=some r):Fn PP 166 [ts R,ti u] [] (λv=> .tup [⟨.raw (.slice none 0 0),aK v 0⟩,⟨.str,r.2.1⟩,⟨.bool,r.2.2⟩]) (λv=>[Res.own (aK v 0) 52 Y52 r.1]):=by
 unfold mo at h
 refine enter Tryz.func166 o 32 o o λF=>?_
 refine zU 3 o<|zz<|q 1 [(0,ts R),(1,ti u),(7,.one W69 (.slice none 0 0))] [] o<|bH (.slice none 0 0) o 52 Y52 ?_
 refine za<|jK h (γ:=Value) (λW g5=>[(0,ts W.1),(7,.one W69 g5)]) (λW g5=>[Res.own g5 52 Y52 W.2]) (λN h=>?_) λW g5 h=>?_
 ·refine zW o<|zb<|ai [0,7,11,12] o<|bl (γ:=Value) (λ(c:List Int×Int×(List Z51)) g10=>[(0,ts c.1),(7,.one W69 g10),(11,ti u),(12,ti c.2.1)]) (λ(c:List Int×Int×(List Z51)) g10=>[Res.own g10 52 Y52 c.2.2]) (kw u N) (R,0,[]) (.slice none 0 0) h o o ?_
  clear h
  intro H c g10 h
  cases H with
  |zero=>cases h
  |succ H=>
  simp only[kw]at h
  refine zW o<|zs<|rI h o (λhc h=>?_) λhc h=>?_
  ·refine zk<|zt<|zs<|zb<|zU 1 o<|cB h λC J h=>au (sK _ _ J) kr o o<|zm 4 o<|aB (t:=Y52) o ii o λm=>st 0 .here br o o o o tr<|zA o<|zs<|zW o<|rI h o (λhc h=>?_) λhc h=>?_
   ·refine zU 3 o<|zf<|zT<|zB<|zT<|zT<|zB<|zT<|bH (.slice none 0 0) o 52 Y52 ?_
    cases h
    exact aC (rs:=[.tmp 4,.tmp 5,.tmp 6]) o (.cons (.tmp o) (.cons (.tmp o) (.cons (.tmp o) (.nil)))) o (λ_ vs g=>by cases g with|cons f g=>cases g with|cons M g=>cases g with|cons V g=>cases g;exact⟨_,o,.cons (bg f) (.cons M (.cons V (.nil)))⟩) (λ_ vs g=>by cases g with|cons f g=>cases g with|cons M g=>cases g with|cons V g=>cases g;rw[bP f];exact(.cons_cons _ (.cons _ (.cons _ .slnil))))
   refine zy<|zm 1 o<|yl 0 .here br o o o tr o<|bC (B:=72) af o jB o o o (.cons o .nil) o λO=>?_
   refine iE h λhc h=>aW (B:=72) af 2 o o (bM 0 o o) o jB o o hc o λG=>?_
   refine pk [1,1] o<|zA o<|zr<|zm 2 o<|iE h λhc h=>y (gD (i:=C.2.1) (j:=(List.length c.1:Int)) af o o o hc.1 hc.2.1 hc.2.2 o) o ?_
   refine q 1 [(0,ts (List.drop (Int.toNat C.2.1) (List.take (Int.toNat (List.length c.1:Int)) c.1))),(7,.one W69 G),(11,ti u),(12,ti c.2.1)] [] o ?_
   obtain⟨d,e,h⟩:=aj h;rw[e]
   exact zn<|zi<|zt<|zr<|zA o<|pk [1] o<|aY (d,(wrap .i64 (c.2.1+1)),(c.2.2++[C.1])) G (Nat.lt_succ_self _) h o o
  exact zx<|ze<|ze<|zq<|zt<|ah (c.1,c.2.2) g10 h o o
 refine zU 5 o<|zf ?_
 cases h
 exact aC (rs:=[.tmp 4,.tmp 5,.tmp 6]) o (.cons (.tmp o) (.cons (.tmp o) (.cons (.tmp o) (.nil)))) o (λ_ vs g=>by cases g with|cons f g=>cases g with|cons M g=>cases g with|cons V g=>cases g;exact⟨_,o,.cons (bg f) (.cons M (.cons V (.nil)))⟩) (λ_ vs g=>by cases g with|cons f g=>cases g with|cons M g=>cases g with|cons V g=>cases g;rw[bP f];exact(.cons_cons _ .slnil))
theorem Ae(c r)(h:uO c=some r):bw PP 170 [.one Y54 c] (.one Y212 r):=by
 unfold uO at h
 refine enter Tryz.func170 o 51 o o λF=>?_
 refine zu<|bI o o λf=>y (oM (U:=Y212) (.next (.next (.next (.next (.next (.next .here)))))) o) o ?_
 refine za<|zs<|zU 1 o<|yl 0 f0 ty3 o o o tr o<|za<|zb<|zW o<|rI h o (λhc h=>?_) λhc h=>?_
 ·refine zU 1 o<|yl 0 f1 br o o o tr o<|y (bc o Hq o o (.cons f0 o o aa .nil)) o ?_
  refine y (sq (U:=Y212) (t:=W80) .here o kr) o ?_
  refine q 1 [(2,.one Y212 ((.inl (c.2.1,())):gj⊕(gh⊕(fO⊕(gi⊕((Int×Unit)⊕((Int×Unit)⊕(Value))))))))] [] o ?_
  obtain⟨u,e,h⟩:=aj h;rw[e]
  refine zf<|zB<|zT ?_
  cases h
  exact ax o (.tmp o)
 refine zW o<|rI h o (λhc h=>?_) λhc h=>?_
 ·refine zU 1 o<|yl 0 f3 ty2 o o o tr o<|zm 1 o<|yl 0 f4 eM o o o tr o<|y (bc o Hr o o (.cons f0 o o aa (.cons f1 o o aa .nil))) o ?_
  refine y (sq (U:=Y212) (t:=W64) (.next .here) o kr) o ?_
  refine q 1 [(2,.one Y212 ((.inr (.inl (c.2.2.2.1,c.2.2.2.2.1,()))):gj⊕(gh⊕(fO⊕(gi⊕((Int×Unit)⊕((Int×Unit)⊕(Value))))))))] [] o ?_
  obtain⟨M,e,h⟩:=aj h;rw[e]
  refine zf<|zB<|zT ?_
  cases h
  exact ax o (.tmp o)
 refine zW o<|rI h o (λhc h=>?_) λhc h=>?_
 ·refine zU 1 o<|yl 0 f3 ty2 o o o tr o<|zm 1 o<|yl 0 f2 jA o o o tr o<|zm 1 o<|yl 0 f5 bB o o o tr o<|y (bc o Hs o o (.cons f0 o o aa (.cons f1 o o aa (.cons f2 o o aa .nil)))) o ?_
  refine y (sq (U:=Y212) (t:=Y280) (.next (.next .here)) o kr) o ?_
  refine q 1 [(2,.one Y212 ((.inr (.inr (.inl (c.2.2.2.1,c.2.2.1,c.2.2.2.2.2.1,())))):gj⊕(gh⊕(fO⊕(gi⊕((Int×Unit)⊕((Int×Unit)⊕(Value))))))))] [] o ?_
  obtain⟨V,e,h⟩:=aj h;rw[e]
  refine zf<|zB<|zT ?_
  cases h
  exact ax o (.tmp o)
 refine zW o<|rI h o (λhc h=>?_) λhc h=>?_
 ·refine zU 1 o<|yl 0 f3 ty2 o o o tr o<|zm 1 o<|yl 0 f6 bB o o o tr o<|zm 1 o<|yl 0 f7 bB o o o tr o<|y (bc o Ht o o (.cons f0 o o aa (.cons f1 o o aa (.cons f2 o o aa .nil)))) o ?_
  refine y (sq (U:=Y212) (t:=Y282) (.next (.next (.next .here))) o kr) o ?_
  refine q 1 [(2,.one Y212 ((.inr (.inr (.inr (.inl (c.2.2.2.1,c.2.2.2.2.2.2.1,c.2.2.2.2.2.2.2.1,()))))):gj⊕(gh⊕(fO⊕(gi⊕((Int×Unit)⊕((Int×Unit)⊕(Value))))))))] [] o ?_
  obtain⟨R,e,h⟩:=aj h;rw[e]
  refine zf<|zB<|zT ?_
  cases h
  exact ax o (.tmp o)
 refine zW o<|rI h o (λhc h=>?_) λhc h=>?_
 ·refine zU 1 o<|yl 0 f8 ty3 o o o tr o<|y (bc o Hu o o (.cons f0 o o aa .nil)) o ?_
  refine y (sq (U:=Y212) (t:=W68) (.next (.next (.next (.next .here)))) o kr) o ?_
  refine q 1 [(2,.one Y212 ((.inr (.inr (.inr (.inr (.inl (c.2.2.2.2.2.2.2.2.1,())))))):gj⊕(gh⊕(fO⊕(gi⊕((Int×Unit)⊕((Int×Unit)⊕(Value))))))))] [] o ?_
  obtain⟨W,e,h⟩:=aj h;rw[e]
  refine zf<|zB<|zT ?_
  cases h
  exact ax o (.tmp o)
 refine zW o<|rI h o (λhc h=>?_) λhc h=>?_
 ·refine zU 1 o<|yl 0 f3 ty2 o o o tr o<|y (bc o Hv o o (.cons f0 o o aa .nil)) o ?_
  refine y (sq (U:=Y212) (t:=W68) (.next (.next (.next (.next (.next .here))))) o kr) o ?_
  refine q 1 [(2,.one Y212 ((.inr (.inr (.inr (.inr (.inr (.inl (c.2.2.2.1,()))))))):gj⊕(gh⊕(fO⊕(gi⊕((Int×Unit)⊕((Int×Unit)⊕(Value))))))))] [] o ?_
  obtain⟨C,e,h⟩:=aj h;rw[e]
  refine zf<|zB<|zT ?_
  cases h
  exact ax o (.tmp o)
 refine zk<|zi<|zt<|zu<|y (oM (U:=Y212) (.next (.next (.next (.next (.next (.next .here)))))) o) o ?_
 refine zf ?_
 cases h
 exact ax o (.tmp o)
theorem lQ(c u r)(h:gl c u=some r):bw PP 189 [.one W84 c,.one W84 u] (tb r):=by
 unfold gl at h
 refine enter Tryz.func189 o 26 o o λF=>?_
 refine zW o<|zs<|zW o<|rI h o (λhc h=>zU 1 o<|zf<|zT<|by cases h;exact ax o (.tmp o)) λhc h=>zk<|zt<|bD h (λM=>[]) (λM=>[]) (λR h=>?_) λM h=>?_
 ·refine zW o<|zb<|ai [0,1,12,13] o<|bl (γ:=Unit) (λ(f:Int) _=>[(0,.one W84 c),(1,.one W84 u),(12,ti (List.length c:Int)),(13,ti f)]) (λ(f:Int) _=>[]) (dL c u R) 0 () h o o ?_
  clear h
  intro V f gg h
  cases V with
  |zero=>cases h
  |succ V=>
  simp only[dL]at h
  refine zW o<|zs<|rI h o (λhc h=>?_) λhc h=>?_
  ·refine zk<|zt<|zs<|zb<|zW o<|zs<|ef kr kr ?_
   refine ay af 2 [0,1,5,12,13,16,17] (E':=[(0,.one W84 c),(1,.one W84 u),(5,ti f),(12,ti (List.length c:Int)),(13,ti f),(16,.one W84 c),(17,ti f)]) o ?_
   refine iE h λhc h=>q_y (eo af o o hc.1 hc.2 o br) o ?_
   refine q_y (de o br) o ?_
   refine ay af 2 [0,1,12,13,19,20,21] (E':=[(0,.one W84 c),(1,.one W84 u),(12,ti (List.length c:Int)),(13,ti f),(19,.one Y52 (List.getD c (Int.toNat f) (0,0,0,z32,[],()))),(20,.one W84 u),(21,ti f)]) o ?_
   refine iE h λhc h=>q_y (eo af o o hc.1 hc.2 o br) o ?_
   refine q_y (de o br) o ?_
   refine q_y (o4 20 o o o o br o Es Et) o ?_
   refine eK ?_
   exact zt<|rI h o (λhc h=>zU 1 o<|zf<|zB<|zT<|zT<|zB<|zT<|by cases h;exact ax o (.tmp o)) λhc h=>zk<|zi<|zt<|zr<|zA o<|aY (wrap .i64 (f+1)) () (Nat.lt_succ_self _) h o o
  exact zx<|ze<|ze<|zq<|zt<|ah () () h o o
 refine zU 1 o<|zf ?_
 cases h
 exact ax o (.tmp o)
theorem sO(c f r)(h:rv c f=some r):bw PP 171 [.one Y54 c,.one Y54 f] (tb r):=by
 unfold rv at h
 refine enter Tryz.func171 o 66 o o λF=>?_
 refine zu<|bI o o λu=>bI o o λM=>zm 1 o<|zZ 1 o<|yl 1 f0 ty3 o o o tr o<|zm 1 o<|yl 0 f0 ty3 o o o tr o<|q 2 [(2,ptr u 0),(3,ptr M 0),(10,tb (c.1==f.1))] [] o ?_
 obtain⟨R,e,h⟩:=aj h;rw[e]
 refine aH 6 [(2,ptr u 0),(3,ptr M 0),(16,tb (R&&(eqD (.pair (.int .i64) (.pair (.int .i64) (.pair (.int .i64) (.pair W73 (.pair .str .unit))))) c.2.1 f.2.1)))] [Res.var M 54 Y54 f,Res.var u 54 Y54 c] (?_) ?_
 ·clear h
  cases R
  ·exact zA o<|ap () o o
  refine zm 1 o<|al dl o ?_
  refine yl 1 f1 br o o o tr o<|zm 1 o<|al dl o ?_
  refine yl 0 f1 br o o o tr o<|al dl o ?_
  refine y (s6 20 o o o o br o Es Et) o ?_
  exact zA o<|ap () o o
 refine q 1 [(2,ptr u 0),(3,ptr M 0),(17,tb (R&&(eqD (.pair (.int .i64) (.pair (.int .i64) (.pair (.int .i64) (.pair W73 (.pair .str .unit))))) c.2.1 f.2.1)))] [] o ?_
 obtain⟨J,e,h⟩:=aj h;rw[e]
 refine bL h 6 (λV=>[(2,ptr u 0),(3,ptr M 0),(23,tb V)]) (λ_=>[Res.var M 54 Y54 f,Res.var u 54 Y54 c]) (λO h=>?_) λV h=>?_
 ·cases J
  ·replace h:=ifF h
   exact zN o<|zt<|ah false () h o o
  replace h:=ifT h
  refine zm 1 o<|al dl o ?_
  refine yl 1 f2 jA o o o tr o<|zm 1 o<|al dl o ?_
  refine yl 0 f2 jA o o o tr o<|al dl o ?_
  exact cB h λd m h=>au (lQ _ _ _ m) kr o o<|zN o<|zt<|ah d () h o o
 refine q 1 [(2,ptr u 0),(3,ptr M 0),(24,tb V)] [] o<|aH 6 [(2,ptr u 0),(3,ptr M 0),(30,tb (V&&(c.2.2.2.1==f.2.2.2.1)))] [Res.var M 54 Y54 f,Res.var u 54 Y54 c] (?_) ?_
 ·clear h
  cases V
  ·exact zA o<|ap () o o
  refine zm 1 o<|al dl o ?_
  refine yl 1 f3 ty2 o o o tr o<|zm 1 o<|al dl o ?_
  exact yl 0 f3 ty2 o o o tr o<|zA o<|ap () o o
 refine q 1 [(2,ptr u 0),(3,ptr M 0),(31,tb (V&&(c.2.2.2.1==f.2.2.2.1)))] [] o ?_
 obtain⟨W,e,h⟩:=aj h;rw[e]
 refine aH 6 [(2,ptr u 0),(3,ptr M 0),(37,tb (W&&(eqD W61 c.2.2.2.2.1 f.2.2.2.2.1)))] [Res.var M 54 Y54 f,Res.var u 54 Y54 c] (?_) ?_
 ·clear h
  cases W
  ·exact zA o<|ap () o o
  refine zm 1 o<|al dl o ?_
  refine yl 1 f4 eM o o o tr o<|zm 1 o<|al dl o ?_
  refine yl 0 f4 eM o o o tr o<|al dl o ?_
  refine y (s6 20 o o o o eM o Cg Ch) o ?_
  exact zA o<|ap () o o
 refine q 1 [(2,ptr u 0),(3,ptr M 0),(38,tb (W&&(eqD W61 c.2.2.2.2.1 f.2.2.2.2.1)))] [] o ?_
 obtain⟨C,e,h⟩:=aj h;rw[e]
 refine aH 6 [(2,ptr u 0),(3,ptr M 0),(44,tb (C&&(eqD W73 c.2.2.2.2.2.1 f.2.2.2.2.2.1)))] [Res.var M 54 Y54 f,Res.var u 54 Y54 c] (?_) ?_
 ·clear h
  cases C
  ·exact zA o<|ap () o o
  refine zm 1 o<|al dl o ?_
  refine yl 1 f5 bB o o o tr o<|zm 1 o<|al dl o ?_
  refine yl 0 f5 bB o o o tr o<|al dl o ?_
  refine y (s6 20 o o o o bB o uW uX) o ?_
  exact zA o<|ap () o o
 refine q 1 [(2,ptr u 0),(3,ptr M 0),(45,tb (C&&(eqD W73 c.2.2.2.2.2.1 f.2.2.2.2.2.1)))] [] o ?_
 obtain⟨H,e,h⟩:=aj h;rw[e]
 refine aH 6 [(2,ptr u 0),(3,ptr M 0),(51,tb (H&&(eqD W73 c.2.2.2.2.2.2.1 f.2.2.2.2.2.2.1)))] [Res.var M 54 Y54 f,Res.var u 54 Y54 c] (?_) ?_
 ·clear h
  cases H
  ·exact zA o<|ap () o o
  refine zm 1 o<|al dl o ?_
  refine yl 1 f6 bB o o o tr o<|zm 1 o<|al dl o ?_
  refine yl 0 f6 bB o o o tr o<|al dl o ?_
  refine y (s6 20 o o o o bB o uW uX) o ?_
  exact zA o<|ap () o o
 refine q 1 [(2,ptr u 0),(3,ptr M 0),(52,tb (H&&(eqD W73 c.2.2.2.2.2.2.1 f.2.2.2.2.2.2.1)))] [] o ?_
 obtain⟨G,e,h⟩:=aj h;rw[e]
 refine aH 6 [(2,ptr u 0),(3,ptr M 0),(58,tb (G&&(eqD W73 c.2.2.2.2.2.2.2.1 f.2.2.2.2.2.2.2.1)))] [Res.var M 54 Y54 f,Res.var u 54 Y54 c] (?_) ?_
 ·clear h
  cases G
  ·exact zA o<|ap () o o
  refine zm 1 o<|al dl o ?_
  refine yl 1 f7 bB o o o tr o<|zm 1 o<|al dl o ?_
  refine yl 0 f7 bB o o o tr o<|al dl o ?_
  refine y (s6 20 o o o o bB o uW uX) o ?_
  exact zA o<|ap () o o
 refine q 1 [(2,ptr u 0),(3,ptr M 0),(59,tb (G&&(eqD W73 c.2.2.2.2.2.2.2.1 f.2.2.2.2.2.2.2.1)))] [] o ?_
 obtain⟨N,e,h⟩:=aj h;rw[e]
 refine aH 6 [(65,tb (N&&(c.2.2.2.2.2.2.2.2.1==f.2.2.2.2.2.2.2.2.1)))] [Res.var M 54 Y54 f,Res.var u 54 Y54 c] (?_) ?_
 ·clear h
  cases N
  ·exact zA o<|ap () o o
  refine zm 1 o<|al dl o ?_
  refine yl 1 f8 ty3 o o o tr o<|zm 1 o<|al dl o ?_
  exact yl 0 f8 ty3 o o o tr o<|zA o<|ap () o o
 refine zE o ?_
 cases h
 exact ax o (.tmp o)
theorem jF(x:gj⊕(gh⊕(fO⊕(gi⊕((Int×Unit)⊕((Int×Unit)⊕(Value))))))):uF Y212 x=fF x:=by rcases x with x|x|x|x|x|x|x<;>rfl
theorem tS(c r)(h:mG c=some r):bw PP 260 [.one W80 c] (tb r):=by
 unfold mG at h
 refine enter Tryz.func260 o 6 o o λF=>?_
 refine zu<|bI o o λu=>zm 1 o<|zZ 1 o<|yl 0 f0 br o o o tr o<|cB h λM f h=>au (iY _ _ f) kr o o<|zE o ?_
 cases h
 exact ax o (.tmp o)
theorem kB(c r)(h:jN c=some r):bw PP 278 [ti c] (tb r):=by
 unfold jN at h
 refine enter Tryz.func278 o 9 o o λF=>?_
 refine zU 1 o<|zz<|q 3 [(0,ti c),(5,tb (decide (c≥0)))] [] o ?_
 obtain⟨f,e,h⟩:=aj h;rw[e]
 refine aH 3 [(8,tb (f&&(decide (c≤281474976710655))))] [] (?_) ?_
 ·clear h
  cases f
  ·exact zA o<|ap () o o
  exact zA o<|ap () o o
 refine zE o ?_
 cases h
 exact ax o (.tmp o)
theorem pT(c r)(h:mp c=some r):bw PP 279 [ti c] (tb r):=by
 unfold mp at h
 refine enter Tryz.func279 o 9 o o λF=>?_
 refine zU 1 o<|zz<|q 3 [(0,ti c),(5,tb (decide (c≥0)))] [] o ?_
 obtain⟨f,e,h⟩:=aj h;rw[e]
 refine aH 3 [(8,tb (f&&(decide (c≤2048))))] [] (?_) ?_
 ·clear h
  cases f
  ·exact zA o<|ap () o o
  exact zA o<|ap () o o
 refine zE o ?_
 cases h
 exact ax o (.tmp o)
theorem rJ(f r)(h:lE f=some r):bw PP 276 [.one W64 f] (tb r):=by
 unfold lE at h
 refine enter Tryz.func276 o 18 o o λF=>?_
 refine zu<|bI o o λc=>zm 1 o<|zZ 1 o<|yl 0 f0 ty2 o o o tr o<|cB h λM R h=>au (kB _ _ R) kr o o<|q 1 [(1,ptr c 0),(6,tb M)] [] o<|bL h 5 (λu=>[(1,ptr c 0),(11,tb u)]) (λ_=>[Res.var c 278 W64 f]) (λN h=>?_) λu h=>?_
 ·cases M
  ·replace h:=ifF h
   exact zN o<|zt<|ah false () h o o
  replace h:=ifT h
  refine zm 2 o<|al dl o ?_
  refine yl 0 ((.snd (.fst f0))) ty3 o o o tr o<|al dl o ?_
  exact cB h λW C h=>au (pT _ _ C) kr o o<|zN o<|zt<|ah W () h o o
 refine q 1 [(1,ptr c 0),(12,tb u)] [] o<|bL h 5 (λV=>[(17,tb V)]) (λ_=>[Res.var c 278 W64 f]) (λJ h=>?_) λV h=>?_
 ·cases u
  ·replace h:=ifF h
   exact zN o<|zt<|ah false () h o o
  replace h:=ifT h
  refine zm 2 o<|al dl o ?_
  refine yl 0 ((.snd (.fst f1))) ty3 o o o tr o<|al dl o ?_
  exact cB h λH G h=>au (pT _ _ G) kr o o<|zN o<|zt<|ah H () h o o
 refine zE o ?_
 cases h
 exact ax o (.tmp o)
theorem rK(c r)(h:lF c=some r):bw PP 284 [.one Y52 c] (tb r):=by
 unfold lF at h
 refine enter Tryz.func284 o 6 o o λF=>?_
 refine zu<|bI o o λu=>zm 1 o<|zz<|yl 0 .here br o o o tr o<|cB h λM f h=>au (iY _ _ f) kr o o<|zE o ?_
 cases h
 exact ax o (.tmp o)
theorem jP(c r)(h:dQ c=some r):bw PP 179 [.one W84 c,.one (.raw (fnv 284)) (fnv 284)] (ti r):=by
 unfold dQ at h
 refine enter Tryz.func179 o 19 o o λF=>?_
 refine zu<|q 1 [(0,.one W84 c),(1,.one (.raw (fnv 284)) (fnv 284))] [] o<|za<|bD h (λu=>[]) (λu=>[]) (λV h=>?_) λu h=>?_
 ·refine zW o<|zb<|ai [0,1,7,8] o<|bl (γ:=Unit) (λ(f:Int) _=>[(0,.one W84 c),(1,.one (.raw (fnv 284)) (fnv 284)),(7,ti (List.length c:Int)),(8,ti f)]) (λ(f:Int) _=>[]) (cH c V) 0 () h o o ?_
  clear h
  intro M f gg h
  cases M with
  |zero=>cases h
  |succ M=>
  simp only[cH]at h
  refine zW o<|zs<|rI h o (λhc h=>?_) λhc h=>?_
  ·refine zk<|zt<|zs<|zb<|zU 2 o<|zZ 3 o<|iE h λhc h=>y (eo af o o hc.1 hc.2 o br) o ?_
   refine y (de o br) o ?_
   refine mS o ?_
   exact cB h λW R h=>au (rK _ _ R) kr o o<|za<|rI h o (λhc h=>zU 2 o<|zf<|zB<|zT<|zT<|zB<|zT<|by cases h;exact ax o (.tmp o)) λhc h=>zk<|zi<|zt<|zr<|zA o<|aY (wrap .i64 (f+1)) () (Nat.lt_succ_self _) h o o
  exact zx<|ze<|ze<|zq<|zt<|ah () () h o o
 refine zU 1 o<|zf ?_
 cases h
 exact ax o (.tmp o)
theorem ji(c r)(h:dy c=some r):bw PP 137 [.one W84 c,.one (.raw (fnv 284)) (fnv 284)] (tb r):=by
 unfold dy at h
 refine enter Tryz.func137 o 9 o o λF=>?_
 refine zU 1 o<|zZ 2 o<|cB h λu f h=>au (jP _ _ f) kr o o<|zE o ?_
 cases h
 exact ax o (.tmp o)
theorem tT(c r)(h:mH c=some r):bw PP 282 [.one Y280 c] (tb r):=by
 unfold mH at h
 refine enter Tryz.func282 o 18 o o λF=>?_
 refine zu<|bI o o λf=>zm 1 o<|zZ 1 o<|yl 0 f0 ty2 o o o tr o<|cB h λu V h=>au (kB _ _ V) kr o o<|q 1 [(1,ptr f 0),(6,tb u)] [] o<|aH 5 [(1,ptr f 0),(11,tb (u&&(decide ((List.length c.2.1:Int)≤512))))] [Res.var f 280 Y280 c] (?_) ?_
 ·clear h
  cases u
  ·exact zA o<|ap () o o
  refine zm 1 o<|al dl o ?_
  exact yl 0 f1 jA o o o tr o<|zA o<|ap () o o
 refine q 1 [(1,ptr f 0),(12,tb (u&&(decide ((List.length c.2.1:Int)≤512))))] [] o ?_
 obtain⟨R,e,h⟩:=aj h;rw[e]
 refine bL h 5 (λM=>[(17,tb M)]) (λ_=>[Res.var f 280 Y280 c]) (λH h=>?_) λM h=>?_
 ·cases R
  ·replace h:=ifF h
   exact zN o<|zt<|ah false () h o o
  replace h:=ifT h
  refine zm 1 o<|al dl o ?_
  refine yl 0 f1 jA o o o tr o<|al dl o ?_
  exact cB h λW C h=>au (ji _ _ C) kr o o<|zN o<|zt<|ah (!W) () h o o
 refine zE o ?_
 cases h
 exact ax o (.tmp o)
theorem qK(c r)(h:kZ c=some r):bw PP 287 [.one Y282 c] (tb r):=by
 unfold kZ at h
 refine enter Tryz.func287 o 6 o o λF=>?_
 refine zu<|bI o o λu=>zm 1 o<|zZ 1 o<|yl 0 f0 ty2 o o o tr o<|cB h λM f h=>au (kB _ _ f) kr o o<|zE o ?_
 cases h
 exact ax o (.tmp o)
theorem rL(c r)(h:lG c=some r):bw PP 298 [.one W68 c] (tb r):=by
 unfold lG at h
 refine enter Tryz.func298 o 11 o o λF=>?_
 refine zu<|bI o o λf=>zm 1 o<|zZ 1 o<|yl 0 f0 ty3 o o o tr o<|q 2 [(1,ptr f 0),(6,tb (decide (c.1≥1)))] [] o ?_
 obtain⟨u,e,h⟩:=aj h;rw[e]
 refine aH 4 [(10,tb (u&&(decide (c.1≤65535))))] [Res.var f 284 W68 c] (?_) ?_
 ·clear h
  cases u
  ·exact zA o<|ap () o o
  refine zm 1 o<|al dl o ?_
  exact yl 0 f0 ty3 o o o tr o<|zA o<|ap () o o
 refine zE o ?_
 cases h
 exact ax o (.tmp o)
theorem rM(c r)(h:lH c=some r):bw PP 302 [.one W68 c] (tb r):=by
 unfold lH at h
 refine enter Tryz.func302 o 6 o o λF=>?_
 refine zu<|bI o o λu=>zm 1 o<|zZ 1 o<|yl 0 f0 ty2 o o o tr o<|cB h λM f h=>au (kB _ _ f) kr o o<|zE o ?_
 cases h
 exact ax o (.tmp o)
theorem rN(c r)(h:oA c=some r):Inv PP "escrow/record.valid" [.one Y212 c] [] (fun _=> .one .bool r) (fun _=>[]):=match c,h with
 | .inl z,h=>(dF (k:=260) kr (tS z r h))
 | .inr (.inl z),h=>(bK o (dF (k:=276) kr (rJ z r h)))
 | .inr (.inr (.inl z)),h=>(bK o (bK o (dF (k:=282) kr (tT z r h))))
 | .inr (.inr (.inr (.inl z))),h=>(bK o (bK o (bK o (dF (k:=287) kr (qK z r h)))))
 | .inr (.inr (.inr (.inr (.inl z)))),h=>(bK o (bK o (bK o (bK o (dF (k:=298) kr (rL z r h))))))
 | .inr (.inr (.inr (.inr (.inr (.inl z))))),h=>(bK o (bK o (bK o (bK o (bK o (dF (k:=302) kr (rM z r h)))))))
 | .inr (.inr (.inr (.inr (.inr (.inr (_)))))),h=>by cases h
theorem sP(c r)(h:ma c=some r):bw PP 259 [.one W80 c] (.one Y54 r):=by
 unfold ma at h
 refine enter Tryz.func259 o 6 o o λF=>?_
 refine zu<|bI o o λf=>aB (t:=Y54) o kR o λu=>zZ 1 o<|yl 1 f0 br o o o tr o<|y (bc o kR o o (.cons f0 o o aa (.cons f1 o o aa .nil))) o ?_
 refine st 0 .here fX o o o o tr<|zf ?_
 cases h
 exact aT o (.cell 0 .here o o o aa fX) (λ_ _ g=>g) (λ_ _ _=>List.nil_sublist _)
theorem qL(c r)(h:la c=some r):bw PP 275 [.one W64 c] (.one Y54 r):=by
 unfold la at h
 refine enter Tryz.func275 o 8 o o λF=>?_
 refine zu<|bI o o λf=>aB (t:=Y54) o kR o λu=>zZ 1 o<|yl 1 f0 ty2 o o o tr o<|zm 1 o<|yl 1 f1 eM o o o tr o<|y (bc o kR o o (.cons f0 o o aa (.cons f3 o o aa (.cons f4 o o aa .nil)))) o ?_
 refine st 0 .here fX o o o o tr<|zf ?_
 cases h
 exact aT o (.cell 0 .here o o o aa fX) (λ_ _ g=>g) (λ_ _ _=>List.nil_sublist _)
theorem sQ(c r)(h:mb c=some r):bw PP 281 [.one Y280 c] (.one Y54 r):=by
 unfold mb at h
 refine enter Tryz.func281 o 10 o o λF=>?_
 refine zu<|bI o o λf=>aB (t:=Y54) o kR o λu=>zZ 1 o<|yl 1 f0 ty2 o o o tr o<|zm 1 o<|yl 1 f1 jA o o o tr o<|zm 1 o<|yl 1 f2 bB o o o tr o<|y (bc o kR o o (.cons f0 o o aa (.cons f3 o o aa (.cons f2 o o aa (.cons f5 o o aa .nil))))) o ?_
 refine st 0 .here fX o o o o tr<|zf ?_
 cases h
 exact aT o (.cell 0 .here o o o aa fX) (λ_ _ g=>g) (λ_ _ _=>List.nil_sublist _)
theorem qI(c r)(h:kP c=some r):bw PP 286 [.one Y282 c] (.one Y54 r):=by
 unfold kP at h
 refine enter Tryz.func286 o 10 o o λF=>?_
 refine zu<|bI o o λf=>aB (t:=Y54) o kR o λu=>zZ 1 o<|yl 1 f0 ty2 o o o tr o<|zm 1 o<|yl 1 f1 bB o o o tr o<|zm 1 o<|yl 1 f2 bB o o o tr o<|y (bc o kR o o (.cons f0 o o aa (.cons f3 o o aa (.cons f6 o o aa (.cons f7 o o aa .nil))))) o ?_
 refine st 0 .here fX o o o o tr<|zf ?_
 cases h
 exact aT o (.cell 0 .here o o o aa fX) (λ_ _ g=>g) (λ_ _ _=>List.nil_sublist _)
theorem qM(c r)(h:ld c=some r):bw PP 297 [.one W68 c] (.one Y54 r):=by
 unfold ld at h
 refine enter Tryz.func297 o 6 o o λF=>?_
 refine zu<|bI o o λf=>aB (t:=Y54) o kR o λu=>zZ 1 o<|yl 1 f0 ty3 o o o tr o<|y (bc o kR o o (.cons f0 o o aa (.cons f8 o o aa .nil))) o ?_
 refine st 0 .here fX o o o o tr<|zf ?_
 cases h
 exact aT o (.cell 0 .here o o o aa fX) (λ_ _ g=>g) (λ_ _ _=>List.nil_sublist _)
theorem qN(c r)(h:lf c=some r):bw PP 301 [.one W68 c] (.one Y54 r):=by
 unfold lf at h
 refine enter Tryz.func301 o 6 o o λF=>?_
 refine zu<|bI o o λf=>aB (t:=Y54) o kR o λu=>zZ 1 o<|yl 1 f0 ty2 o o o tr o<|y (bc o kR o o (.cons f0 o o aa (.cons f3 o o aa .nil))) o ?_
 refine st 0 .here fX o o o o tr<|zf ?_
 cases h
 exact aT o (.cell 0 .here o o o aa fX) (λ_ _ g=>g) (λ_ _ _=>List.nil_sublist _)
theorem mC(c r)(h:n1 c=some r):Inv PP "escrow/record.record" [.one Y212 c] [] (fun _=> .one Y54 r) (fun _=>[]):=match c,h with
 | .inl z,h=>(dF (k:=259) kr (sP z r h))
 | .inr (.inl z),h=>(bK o (dF (k:=275) kr (qL z r h)))
 | .inr (.inr (.inl z)),h=>(bK o (bK o (dF (k:=281) kr (sQ z r h))))
 | .inr (.inr (.inr (.inl z))),h=>(bK o (bK o (bK o (dF (k:=286) kr (qI z r h)))))
 | .inr (.inr (.inr (.inr (.inl z)))),h=>(bK o (bK o (bK o (bK o (dF (k:=297) kr (qM z r h))))))
 | .inr (.inr (.inr (.inr (.inr (.inl z))))),h=>(bK o (bK o (bK o (bK o (bK o (dF (k:=301) kr (qN z r h)))))))
 | .inr (.inr (.inr (.inr (.inr (.inr (_)))))),h=>by cases h
theorem mN(f r)(h:kQ f=some r):bw PP 126 [.one Y54 f] (.one Y212 r):=by
 unfold kQ at h
 refine enter Tryz.func126 o 21 o o λF=>?_
 refine zu<|bI o o λW=>y (oM (U:=Y212) (.next (.next (.next (.next (.next (.next .here)))))) o) o ?_
 refine zz<|yl 0 .here fX o o o tr o<|cB h λc C h=>au (Ae _ _ C) kr o o<|zA o<|zs<|zs<|gc (S:=bG [aZ W 54 Y54 f]) kr ?_
 refine zH 1 [0] (ag (aq 0 o) ak) kr o o λs=>bq 1 (tb (fF c)) s o kr (vk (.next (.next (.next (.next (.next (.next .here)))))) o o yD (jF c)) λs=>zH 1 [2] s kr o o λs=>?_
 refine so (d:=8) (b:=(fF c)) o (λhb=>?_) (λhb=>?_)
 ·rw[if_pos hb]at h
  refine zH 3 [3,4,5] (ag (aq 0 o) ak) kr o o λs=>aF 6 kr o<|zA o<|bi (ag (aq 0 o) ak) ?_
  refine ai [1,3,12] o<|zH 6 [7,8,9,10,11,12] (ag (aq 0 o) ak) kr o o λs=>aF 13 kr o<|zA o<|bi (ag (aq 0 o) ak) ?_
  refine ai [3,19] o<|dU kr<|zt ?_
  refine iK (b:=true) o (λhc=>?_) (λhc=>?_)
  ·refine zu<|y (oM (U:=Y212) (.next (.next (.next (.next (.next (.next .here)))))) o) o ?_
   refine zf<|zT ?_
   cases h
   exact ax o (.tmp o)
  cases hc
 rw[if_neg (ne_true_of_eq_false hb)]at h
 refine fx 3 8 (.one Y212 c) (ag (aq 0 o) ak) o kr o (im af o) λs=>aF 4 kr o<|al dl o ?_
 refine cB h λR H h=>ri [] (rN c _ H) o o o λ_=>?_
 refine za<|bi (ag (aq 0 o) ak) ?_
 refine ai [1,3,8,10] o<|fx 5 8 (tb (!R)) (ag (aq 0 o) ak) o kr o (im af o) λs=>aF 6 kr o<|zA o<|bi (ag (aq 0 o) ak) ?_
 refine ai [1,3,12] o<|zH 1 [7] (ag (aq 0 o) ak) kr o o λs=>?_
 refine so (d:=13) (b:=(!R)) o (λhb=>?_) (λhb=>?_)
 ·rw[if_pos hb]at h
  refine zH 5 [8,9,10,11,12] (ag (aq 0 o) ak) kr o o λs=>aF 13 kr o<|zA o<|bi (ag (aq 0 o) ak) ?_
  refine ai [3,19] o<|dU kr<|zt ?_
  refine iK (b:=true) o (λhc=>?_) (λhc=>?_)
  ·refine zu<|y (oM (U:=Y212) (.next (.next (.next (.next (.next (.next .here)))))) o) o ?_
   refine zf<|zT ?_
   cases h
   exact ax o (.tmp o)
  cases hc
 rw[if_neg (ne_true_of_eq_false hb)]at h
 refine fx 8 13 (.one Y212 c) (ag (aq 0 o) ak) o kr o (im af o) λs=>?_
 refine tj (i:=9) (j:=10) kr o o ?_ ?_
 ·refine al dl o ?_
  refine cB h λG u h=>ri [] (mC c _ u) o o o λ_=>?_
  refine za<|bi (ag (aq 0 o) ak) ?_
  refine ai [1,3,13,15] o<|aF 10 kr o<|al dl o ?_
  refine yl 0 .here fX o o o tr o<|za<|bi (ag (aq 0 o) ak) ?_
  refine ai [3,13,15,16] o<|aF 11 kr o<|al dl o ?_
  refine cB h λM V h=>au (sO _ _ _ V) kr o o<|za<|bi (ag (aq 0 o) ak) ?_
  refine ai [3,13,17] o<|fx 12 13 (tb (!M)) (ag (aq 0 o) ak) o kr o (im af o) λs=>aF 13 kr o<|zA o<|bi (ag (aq 0 o) ak) ?_
  refine ai [3,19] o<|dU kr<|zt<|rI h o (λhc h=>?_) λhc h=>?_
  ·refine zu<|y (oM (U:=Y212) (.next (.next (.next (.next (.next (.next .here)))))) o) o ?_
   refine zf<|zT ?_
   cases h
   exact ax o (.tmp o)
  refine zy<|zE o ?_
  cases h
  exact ax o (.tmp o)
 refine al dl o ?_
 refine yl 0 .here fX o o o tr o<|za<|bi (ag (aq 0 o) ak) ?_
 refine ai [3,13,14,16] o<|aF 9 kr o<|al dl o ?_
 refine cB h λG u h=>ri [] (mC c _ u) o o o λ_=>?_
 refine za<|bi (ag (aq 0 o) ak) ?_
 refine ai [3,13,15,16] o<|aF 11 kr o<|al dl o ?_
 refine cB h λM V h=>au (sO _ _ _ V) kr o o<|za<|bi (ag (aq 0 o) ak) ?_
 refine ai [3,13,17] o<|fx 12 13 (tb (!M)) (ag (aq 0 o) ak) o kr o (im af o) λs=>aF 13 kr o<|zA o<|bi (ag (aq 0 o) ak) ?_
 refine ai [3,19] o<|dU kr<|zt<|rI h o (λhc h=>?_) λhc h=>?_
 ·refine zu<|y (oM (U:=Y212) (.next (.next (.next (.next (.next (.next .here)))))) o) o ?_
  refine zf<|zT ?_
  cases h
  exact ax o (.tmp o)
 refine zy<|zE o ?_
 cases h
 exact ax o (.tmp o)
theorem xr(M r)(h:ry M=some r):bw PP 119 [ts M] (.tup [⟨Y54,r.1⟩,⟨(.int .i64),r.2.1⟩,⟨(.int .i64),r.2.2⟩]):=by
 unfold ry at h
 refine enter Tryz.func119 o 123 o o λF=>?_
 refine zu<|aB (t:=Y54) o kR o λc=>zm 2 o<|zZ 1 o<|cB h λr3 b6 h=>rc [] (iG _ _ b6) kr o o o λv4=>zm 1 o<|zZ 1 o<|fw λR hp=>?_
 subst hp
 refine cB h λf b8 h=>rc [0] (iq _ _ _ b8) kr o o o λ_=>zm 1 o<|y (bc o kR o o (.cons f0 o o aa .nil)) o ?_
 refine aB (t:=Y54) o kR o λu=>st 0 .here fX o o o o tr<|zz<|q 1 [(0,ts M),(2,ptr c 0),(5,ptr R 0),(6,ptr u 0),(7,tb true)] [] o<|za<|jK h (γ:=Value) (λV g10=>[(0,ts M),(2,ptr c 0),(5,tp g10),(6,ptr u 0),(7,tb V.1)]) (λV g10=>[Res.cls dS g10 V.2.1,Res.var u 54 Y54 V.2.2,Res.var c 54 Y54 (0,(0,0,0,z32,[],()),[],0,(0,0,()),z32,z32,z32,0,())]) (λk8 h=>?_) λV g10 h=>?_
 ·refine zU 1 o<|yl 0 f0 ty3 o o o tr o<|za<|zb<|zW o<|rI h o (λhc h=>?_) λhc h=>?_
  ·refine zU 1 o<|zZ 1 o<|zZ 1 o<|cB h λa7 b9 h=>rc [1] (eJ _ _ _ b9) kr o o o λ_=>cB h λH c0 h=>rc [] (pS _ _ _ c0) kr o o o λe9=>zm 7 o<|zz<|zA o<|rI h o (λhc h=>?_) λhc h=>?_
   ·obtain⟨a8,h⟩:=cu h
    refine cT 0 o (by omega) λO Z f4 hv=>?_
    rw[hv]
    try clear hv
    refine gc (S:=bG [kp O Z 52 Y52 H.1]) kr ?_
    refine zH 1 [0] (ag (l7 0 o (by omega)) ak) kr o o λs=>bq 1 (ptr O (Z+0*36)) s o kr (dn af o o a8.1 a8.2 o br) λs=>bq 2 (.one Y52 (List.getD H.1 0 (0,0,0,z32,[],()))) s o kr (uD (S:=λw=>bG [kp O Z 52 Y52 H.1] w) (bz 0 o) 0 0 .here o o o (by omega) o aa br) λs=>zH 2 [3,5] s kr o o λs=>aF 4 kr o<|cB h λc1 c2 h=>rc [] (iG _ _ c2) kr o o o λc3=>za<|bi (ag (l7 1 o (by omega)) ak) ?_
    refine ai [0,2,5,6,7,32,34,35] o<|aF 6 kr o<|st 3 f1 br o o o o tr<|za<|bi (ag (l7 1 o (by omega)) ak) ?_
    exact ai [0,2,5,6,7,34] o<|zH 1 [7] (ag (l7 1 o (by omega)) ak) kr o o λs=>dU kr<|zi<|zt<|pk [0,1,1,1] o<|pk [0,1,1] o<|ah (H.2.2,c1,((wrap .i64 f.1),(List.getD H.1 0 (0,0,0,z32,[],())),[],0,(0,0,()),z32,z32,z32,0,())) c3 h o o
   refine zk<|zi<|zt<|pk [1,1,1] o<|fH (x:=a7.2) ?_
   exact ah (H.2.2,a7.2,((wrap .i64 f.1),(0,0,0,z32,[],()),[],0,(0,0,()),z32,z32,z32,0,())) (.pointer (some ⟨R,0,none⟩)) h o o
  refine zW o<|rI h o (λhc h=>?_) λhc h=>?_
  ·refine zU 1 o<|cB h λc4 c5 h=>rc [1] (bV _ _ _ c5) kr o o o λ_=>zm 1 o<|st 1 f3 ty2 o o o o tr<|zZ 1 o<|cB h λc6 c7 h=>rc [0] (gm _ _ _ c7) kr o o o λ_=>zm 3 o<|st 1 ((g4 (.fst f0))) ty3 o o o o tr<|nL o<|za<|zr<|zm 1 o ?_
   refine cB h λa1 c8 h=>rc [0] (gm _ _ _ c8) kr o o o λ_=>zm 3 o<|st 1 ((g4 (.fst f1))) ty3 o o o o tr<|zn<|zi<|zt<|fH (x:=a1.2) ?_
   exact ah (true,a1.2,((wrap .i64 f.1),(0,0,0,z32,[],()),[],c4.1,((wrap .i64 c6.1),(wrap .i64 a1.1),()),z32,z32,z32,0,())) (.pointer (some ⟨R,0,none⟩)) h o o
  refine zW o<|rI h o (λhc h=>?_) λhc h=>?_
  ·refine zU 1 o<|cB h λJ c9 h=>rc [1] (bV _ _ _ c9) kr o o o λ_=>zm 1 o<|st 1 f3 ty2 o o o o tr<|zZ 1 o<|cB h λd0 d1 h=>rc [0] (gm _ _ _ d1) kr o o o λ_=>q 2 [(10,ti (wrap .i64 d0.1))] [0,2,5,6] o ?_
   obtain⟨n37,e,h⟩:=aj h;rw[e]
   refine zZ 1 o<|zZ 1 o<|cB h λd d2 h=>rc [0] (hZ _ _ _ d2) kr o o o λ_=>q 2 [(10,ti n37),(62,tb (d.1==0))] [0,2,5,6] o ?_
   obtain⟨a2,e,h⟩:=aj h;rw[e]
   refine aH 3 [(0,ts M),(2,ptr c 0),(5,ptr R 0),(6,ptr u 0),(10,ti n37),(65,tb (a2&&(decide (n37≤512))))] [Res.var R 171 W63 d.2,Res.var u 54 Y54 ((wrap .i64 f.1),(0,0,0,z32,[],()),[],J.1,(0,0,()),z32,z32,z32,0,()),Res.var c 54 Y54 (0,(0,0,0,z32,[],()),[],0,(0,0,()),z32,z32,z32,0,())] (?_) ?_
   ·clear h
    cases a2
    ·exact zA o<|ap () o o
    exact zA o<|ap () o o
   refine q 1 [(0,ts M),(2,ptr c 0),(5,ptr R 0),(6,ptr u 0),(7,tb (a2&&(decide (n37≤512)))),(10,ti n37)] [] o ?_
   obtain⟨d3,e,h⟩:=aj h;rw[e]
   refine zz<|zA o<|rI h o (λhc h=>?_) λhc h=>?_
   ·refine zU 1 o<|cB h λf9 d4 h=>rc [0] (eJ _ _ _ d4) kr o o o λ_=>zm 1 o<|cB h λa9 d5 h=>rc [] (pS _ _ _ d5) kr o o o λb0=>zm 5 o<|gE (t:=Y54) (v:=W69) 2 f2 o o o o o o tx0 ?_
    refine zm 2 o<|zZ 1 o<|cB h λg0 d6 h=>rc [] (iG _ _ d6) kr o o o λg1=>zA o<|zr<|zm 1 o<|fw λd7 hp=>?_
    subst hp
    refine cB h λm d8 h=>rc [0] (dg _ _ _ d8) kr o o o λ_=>zm 1 o<|st 3 f5 bB o o o o tr<|nL o<|zn<|zi<|zt<|pk [1,2,0,0,0] o<|dw (v:=(aK b0 0)) (T0:=(.pair (.int .i64) (.pair Y52 (.pair W69 (.pair (.int .i64) (.pair Y24 (.pair W73 (.pair W73 (.pair W73 W68))))))))) (x0:=((wrap .i64 f.1),(0,0,0,z32,[],()),(aK b0 0),J.1,(0,0,()),m.1,z32,z32,0,())) (t:=Y52) f2 o o ?_
    refine pk [1,0,0,0] o<|fH (x:=m.2) ?_
    exact pk [0,0,1] o<|ah (a9.2.2,m.2,((wrap .i64 f.1),(0,0,0,z32,[],()),a9.1,J.1,(0,0,()),m.1,z32,z32,0,())) (.pointer (some ⟨d7,0,none⟩)) h o o
   refine zk<|zi<|zt<|fH (x:=d.2) ?_
   exact ah (d3,d.2,((wrap .i64 f.1),(0,0,0,z32,[],()),[],J.1,(0,0,()),z32,z32,z32,0,())) (.pointer (some ⟨R,0,none⟩)) h o o
  refine zW o<|rI h o (λhc h=>?_) λhc h=>?_
  ·refine zU 1 o<|cB h λd9 e0 h=>rc [1] (bV _ _ _ e0) kr o o o λ_=>zm 1 o<|st 1 f3 ty2 o o o o tr<|zZ 1 o<|cB h λe1 e2 h=>rc [0] (dg _ _ _ e2) kr o o o λ_=>zm 1 o<|st 1 f6 bB o o o o tr<|nL o<|za<|zr<|zm 1 o ?_
   refine cB h λa3 e3 h=>rc [0] (dg _ _ _ e3) kr o o o λ_=>zm 1 o<|st 1 f7 bB o o o o tr<|zn<|zi<|zt<|fH (x:=a3.2) ?_
   exact ah (true,a3.2,((wrap .i64 f.1),(0,0,0,z32,[],()),[],d9.1,(0,0,()),z32,e1.1,a3.1,0,())) (.pointer (some ⟨R,0,none⟩)) h o o
  refine zW o<|rI h o (λhc h=>?_) λhc h=>?_
  ·refine zr<|zm 1 o<|cB h λa4 e4 h=>rc [1] (gm _ _ _ e4) kr o o o λ_=>zm 2 o<|st 1 f8 ty3 o o o o tr<|zn<|zi<|zt<|fH (x:=a4.2) ?_
   exact ah (true,a4.2,((wrap .i64 f.1),(0,0,0,z32,[],()),[],0,(0,0,()),z32,z32,z32,(wrap .i64 a4.1),())) (.pointer (some ⟨R,0,none⟩)) h o o
  refine zW o<|rI h o (λhc h=>?_) λhc h=>?_
  ·refine zr<|zm 1 o<|cB h λa5 e5 h=>rc [1] (bV _ _ _ e5) kr o o o λ_=>zm 1 o<|st 1 f3 ty2 o o o o tr<|zn<|zi<|zt<|fH (x:=a5.2) ?_
   exact ah (true,a5.2,((wrap .i64 f.1),(0,0,0,z32,[],()),[],a5.1,(0,0,()),z32,z32,z32,0,())) (.pointer (some ⟨R,0,none⟩)) h o o
  refine zk<|zi<|zt<|pk [1,0,0] o<|fH (x:=f.2) ?_
  exact ah (true,f.2,((wrap .i64 f.1),(0,0,0,z32,[],()),[],0,(0,0,()),z32,z32,z32,0,())) (.pointer (some ⟨R,0,none⟩)) h o o
 refine fw λW hp=>?_
 subst hp
 refine zs<|zu<|q 3 [(0,ts M),(2,ptr c 0),(5,ptr W 0),(6,ptr u 0),(105,tb (!V.1))] [] o ?_
 obtain⟨e6,e,h⟩:=aj h;rw[e]
 refine bL h 4 (λC=>[(0,ts M),(2,ptr c 0),(5,ptr W 0),(6,ptr u 0),(109,tb C.1)]) (λC=>[Res.var W 171 W63 C.2,Res.var u 54 Y54 V.2.2,Res.var c 54 Y54 (0,(0,0,0,z32,[],()),[],0,(0,0,()),z32,z32,z32,0,())]) (λg2 h=>?_) λC h=>?_
 ·cases e6
  ·replace h:=ifF h
   refine zm 1 o<|al dl o ?_
   exact cB h λb1 e7 h=>rc [0] (hZ _ _ _ e7) kr o o o λ_=>zN o<|zt<|ah ((b1.1 !=0),b1.2) () h o o
  replace h:=ifT h
  exact zN o<|zt<|ah (true,V.2.1) () h o o
 refine q 1 [(0,ts M),(2,ptr c 0),(5,ptr W 0),(6,ptr u 0),(110,tb C.1)] [] o<|bL h 4 (λb3=>[(0,ts M),(2,ptr c 0),(5,ptr W 0),(6,ptr u 0),(114,tb b3)]) (λ_=>[Res.var W 171 W63 C.2,Res.var u 54 Y54 V.2.2,Res.var c 54 Y54 (0,(0,0,0,z32,[],()),[],0,(0,0,()),z32,z32,z32,0,())]) (λg3 h=>?_) λb3 h=>?_
 ·rcases Bool.eq_false_or_eq_true C.1 with hh|hh
  ·rw[hh]at h⊢
   rw[if_pos o]at h
   exact zN o<|zt<|ah true () h o o
  rw[hh]at h⊢
  rw[if_neg (by decide)]at h
  refine al dl o ?_
  refine yl 1 .here fX o o o tr o<|al dl o ?_
  refine cB h λb4 e8 h=>au (mN _ _ e8) kr o o<|al dl o ?_
  refine y (vk (.next (.next (.next (.next (.next (.next .here)))))) o o yD (jF b4)) o ?_
  exact zN o<|zt<|ah (fF b4) () h o o
 refine za<|rI h o (λhc h=>?_) λhc h=>?_
 ·refine zu<|y (bc o kR o o .nil) o ?_
  refine st 2 .here fX o o o o tr<|zE o<|zT ?_
  cases h
  exact aC (rs:=[.cell 2 54,.tmp 3,.tmp 4]) o (.cons (.cell 2 .here o o o aa fX) (.cons (.tmp o) (.cons (.tmp o) (.nil)))) o (λ_ vs g=>aG vs g) (λ_ _ _=>List.nil_sublist _)
 refine zk<|zt<|bD h (λG=>[(2,ptr c 0),(3,ti G.1),(4,ti G.2.1)]) (λG=>[Res.var W 171 W63 G.2.2.1,Res.var u 54 Y54 V.2.2,Res.var c 54 Y54 G.2.2.2]) (λg5 h=>?_) λG h=>?_
 ·refine dA kr<|zF 3 [1,2,3] kr o o ?_
  refine bv (i:=0) (j:=4) kr o o ?_ ?_
  ·exact yl 1 .here fX o o o tr o<|zL [2,116,118,119] o<|ae 4 kr o<|cB h λN a6 h=>rc [0] (eJ _ _ _ a6) kr o o o λ_=>zL [2,116,118,120] o<|zF 2 [5,6] kr o o<|ae 7 kr o<|st 2 .here fX o o o o tr<|zL [2,122] o<|zF 2 [8,9] kr o o<|aJ kr<|zt<|ah ((wrap .i64 ((List.length M:Int) - (List.length N.1:Int))),0,N.2,V.2.2) () h o o
  exact cB h λN a6 h=>rc [0] (eJ _ _ _ a6) kr o o o λ_=>zL [2,6,118,120] o<|zF 2 [5,6] kr o o<|ae 0 kr o<|yl 1 .here fX o o o tr o<|zL [2,116,122] o<|ae 7 kr o<|st 2 .here fX o o o o tr<|zL [2,122] o<|zF 2 [8,9] kr o o<|aJ kr<|zt<|ah ((wrap .i64 ((List.length M:Int) - (List.length N.1:Int))),0,N.2,V.2.2) () h o o
 refine zR ?_
 cases h
 exact aC (rs:=[.cell 2 54,.tmp 3,.tmp 4]) o (.cons (.cell 2 .here o o o aa fX) (.cons (.tmp o) (.cons (.tmp o) (.nil)))) o (λ_ vs g=>aG vs g) (λ_ _ _=>List.nil_sublist _)
theorem dM(c r)(h:cI c=some r):Fn PP 124 [.one W84 c] [] (λv=> .one W69 v) (λv=>[Res.own v 52 Y52 r]):=by
 unfold cI at h
 refine enter Tryz.func124 o 8 o o λF=>?_
 refine zW o<|zs<|zU 1 o<|vh o Tryz.underlying22 o λg1 f=>?_
 refine za ?_
 refine iK (b:=g1) o (λhc=>?_) (λhc=>?_)
 ·have hx:=f hc
  subst hx
  have h:(some []:Option ((List Z51)))=some r:=by simpa using h
  refine zU 1 o<|zf<|zT<|bH (.slice none 0 0) o 52 Y52 ?_
  cases h
  exact aT o (.tmp o) (λ_ _ g=>holds_raw.2 ⟨rfl,by rw[(holds_raw.1 g).1];exact(holds_raw.1 g).2⟩) (λ_ _ g=>by obtain⟨rfl,_⟩:=holds_raw.1 g;exact(.cons_cons _ .slnil))
 refine zy<|bC (B:=72) af o jB o o o .nil o λu=>?_
 refine zm 1 o<|iE h λhc h=>aW (B:=72) af 0 o o (py o) o jB o o hc o λM=>?_
 refine zE o ?_
 cases h
 exact aT o (.tmp o) (λ_ _ g=>holds_raw.2 ⟨rfl,by rw[(holds_raw.1 g).1];exact(holds_raw.1 g).2⟩) (λ_ _ g=>by obtain⟨rfl,_⟩:=holds_raw.1 g;exact(.cons_cons _ .slnil))
theorem ju(c r)(h:fi c=some r):Fn PP 125 [.one W85 c] [] (λv=> .one W69 v) (λv=>[Res.own v 56 Y56 r]):=by
 unfold fi at h
 refine enter Tryz.func125 o 8 o o λF=>?_
 refine zW o<|zs<|zU 1 o<|vh o Tryz.underlying28 o λg1 f=>?_
 refine za ?_
 refine iK (b:=g1) o (λhc=>?_) (λhc=>?_)
 ·have hx:=f hc
  subst hx
  have h:(some []:Option ((List Z55)))=some r:=by simpa using h
  refine zU 1 o<|zf<|zT<|bH (.slice none 0 0) o 56 Y56 ?_
  cases h
  exact aT o (.tmp o) (λ_ _ g=>holds_raw.2 ⟨rfl,by rw[(holds_raw.1 g).1];exact(holds_raw.1 g).2⟩) (λ_ _ g=>by obtain⟨rfl,_⟩:=holds_raw.1 g;exact(.cons_cons _ .slnil))
 refine zy<|bC (B:=48) af o uV o o o .nil o λu=>?_
 refine zm 1 o<|iE h λhc h=>aW (B:=48) af 0 o o (py o) o uV o o hc o λM=>?_
 refine zE o ?_
 cases h
 exact aT o (.tmp o) (λ_ _ g=>holds_raw.2 ⟨rfl,by rw[(holds_raw.1 g).1];exact(holds_raw.1 g).2⟩) (λ_ _ g=>by obtain⟨rfl,_⟩:=holds_raw.1 g;exact(.cons_cons _ .slnil))
theorem xu(f r)(h:rz f=some r):bw PP 264 [.one W84 f] (ti r):=by
 unfold rz at h
 refine enter Tryz.func264 o 19 o o λF=>?_
 refine zU 1 o<|zz<|q 1 [(0,.one W84 f),(3,ti 0)] [] o<|za<|bD h (λM=>[(3,ti M)]) (λM=>[]) (λR h=>?_) λM h=>?_
 ·refine zW o<|zb<|ai [3,6,7,8] o<|bl (γ:=Unit) (λ(c:Int×Int) _=>[(3,ti c.1),(6,.one W84 f),(7,ti (List.length f:Int)),(8,ti c.2)]) (λ(c:Int×Int) _=>[]) (mq f R) (0,0) () h o o ?_
  clear h
  intro V c gg h
  cases V with
  |zero=>cases h
  |succ V=>
  simp only[mq]at h
  refine zW o<|zs<|rI h o (λhc h=>?_) λhc h=>?_
  ·refine zk<|zt<|bD h (λu=>[(3,ti u),(6,.one W84 f),(7,ti (List.length f:Int)),(8,ti c.2)]) (λu=>[]) (λW h=>?_) λu h=>?_
   ·refine zb<|zu<|iE h λhc h=>y (eo af o o hc.1 hc.2 o br) o ?_
    refine y (de o br) o ?_
    refine aB (t:=Y52) o ii o λC=>st 0 .here br o o o o tr<|zZ 1 o<|yl 0 f0 ty3 o o o tr o<|q 1 [(3,ti c.1),(6,.one W84 f),(7,ti (List.length f:Int)),(8,ti c.2),(14,tb (((List.getD f (Int.toNat c.2) (0,0,0,z32,[],())).1)==1))] [] o ?_
    obtain⟨H,e,h⟩:=aj h;rw[e]
    refine za<|rI h o (λhc h=>?_) λhc h=>?_
    ·refine zr<|q 3 [(3,ti (wrap .i64 (c.1+1)))] [6,7,8] o ?_
     obtain⟨n11,e,h⟩:=aj h;rw[e]
     exact zn<|zi<|zt<|pk [] o<|ah n11 () h o o
    exact zk<|zi<|zt<|pk [] o<|ah c.1 () h o o
   exact zr<|zA o<|aY (u,(wrap .i64 (c.2+1))) () (Nat.lt_succ_self _) h o o
  exact zx<|ze<|ze<|zq<|zt<|ah c.1 () h o o
 refine zU 2 o<|zf ?_
 cases h
 exact ax o (.tmp o)
theorem rh(c M R r)(h:n2 c M R=some r):bw PP 268 [.one W84 c,ti M,tb R] (.tup [⟨Y52,r.1⟩,⟨.bool,r.2⟩]):=by
 unfold n2 at h
 refine enter Tryz.func268 o 45 o o λF=>?_
 refine zu<|aB (t:=Y52) o ii o λu=>q 1 [(0,.one W84 c),(1,ti M),(2,tb R),(6,ptr u 0)] [] o<|za<|bD h (λN=>[(6,ptr u 0)]) (λN=>[Res.var u 52 Y52 (0,0,0,z32,[],())]) (λm h=>?_) λN h=>?_
 ·refine zW o<|zb<|ai [1,2,6,10,11,12] o<|bl (γ:=Unit) (λ(f:Int) _=>[(1,ti M),(2,tb R),(6,ptr u 0),(10,.one W84 c),(11,ti (List.length c:Int)),(12,ti f)]) (λ(f:Int) _=>[Res.var u 52 Y52 (0,0,0,z32,[],())]) (lW c M R m) 0 () h o o ?_
  clear h
  intro J f gg h
  cases J with
  |zero=>cases h
  |succ J=>
  simp only[lW]at h
  refine zW o<|zs<|rI h o (λhc h=>?_) λhc h=>?_
  ·refine zk<|zt<|zs<|zb<|zu<|iE h λhc h=>y (eo af o o hc.1 hc.2 o br) o ?_
   refine y (de o br) o ?_
   refine aB (t:=Y52) o ii o λV=>st 0 .here br o o o o tr<|zZ 1 o<|yl 0 f1 ty2 o o o tr o<|q 2 [(9,ptr V 0),(10,.one W84 c),(11,ti (List.length c:Int)),(12,ti f),(19,tb (((List.getD c (Int.toNat f) (0,0,0,z32,[],())).2.1)==M))] [1,2,6] o ?_
   obtain⟨O,e,h⟩:=aj h;rw[e]
   refine p 1 [1,2,6,9,10,11,12,20] o<|bL h 21 (λd=>[(1,ti M),(2,tb R),(6,ptr u 0),(9,ptr V 0),(10,.one W84 c),(11,ti (List.length c:Int)),(12,ti f),(41,tb d)]) (λ_=>[Res.var V 52 Y52 (List.getD c (Int.toNat f) (0,0,0,z32,[],())),Res.var u 52 Y52 (0,0,0,z32,[],())]) (λZ h=>?_) λd h=>?_
   ·rcases Bool.eq_false_or_eq_true O with hh|hh
    ·rw[hh]at h⊢
     rw[if_pos o]at h
     refine p 3 [1,2,6,9,10,11,12,20,23] o ?_
     obtain⟨W,e,h⟩:=aj h;rw[e]
     refine aH 4 [(1,ti M),(2,tb R),(6,ptr u 0),(9,ptr V 0),(10,.one W84 c),(11,ti (List.length c:Int)),(12,ti f),(20,tb true),(27,tb (W&&(((List.getD c (Int.toNat f) (0,0,0,z32,[],())).1)==1)))] [Res.var V 52 Y52 (List.getD c (Int.toNat f) (0,0,0,z32,[],())),Res.var u 52 Y52 (0,0,0,z32,[],())] (?_) ?_
     ·clear h
      cases W
      ·exact zA o<|ap () o o
      refine zm 1 o<|al dl o ?_
      exact yl 0 f0 ty3 o o o tr o<|zA o<|ap () o o
     refine q 1 [(1,ti M),(2,tb R),(6,ptr u 0),(9,ptr V 0),(10,.one W84 c),(11,ti (List.length c:Int)),(12,ti f),(20,tb true),(28,tb (W&&(((List.getD c (Int.toNat f) (0,0,0,z32,[],())).1)==1)))] [] o ?_
     obtain⟨w,e,h⟩:=aj h;rw[e]
     refine bL h 12 (λC=>[(1,ti M),(2,tb R),(6,ptr u 0),(9,ptr V 0),(10,.one W84 c),(11,ti (List.length c:Int)),(12,ti f),(20,tb true),(40,tb C)]) (λ_=>[Res.var V 52 Y52 (List.getD c (Int.toNat f) (0,0,0,z32,[],())),Res.var u 52 Y52 (0,0,0,z32,[],())]) (λa3 h=>?_) λC h=>?_
     ·rcases Bool.eq_false_or_eq_true w with hh|hh
      ·rw[hh]at h⊢
       rw[if_pos o]at h
       exact zN o<|zt<|ah true () h o o
      rw[hh]at h⊢
      rw[if_neg (by decide)]at h
      refine p 2 [1,2,6,9,10,11,12,20,28,30] o<|bL h 9 (λH=>[(1,ti M),(2,tb R),(6,ptr u 0),(9,ptr V 0),(10,.one W84 c),(11,ti (List.length c:Int)),(12,ti f),(20,tb true),(28,tb false),(39,tb H)]) (λ_=>[Res.var V 52 Y52 (List.getD c (Int.toNat f) (0,0,0,z32,[],())),Res.var u 52 Y52 (0,0,0,z32,[],())]) (λa4 h=>?_) λH h=>?_
      ·cases R
       ·replace h:=ifF h
        exact zN o<|zt<|ah false () h o o
       replace h:=ifT h
       refine zm 1 o<|al dl o ?_
       refine yl 0 f0 ty3 o o o tr o<|q 2 [(2,tb true),(30,tb true),(34,tb (((List.getD c (Int.toNat f) (0,0,0,z32,[],())).1)==2))] [1,6,9,10,11,12,20,28] o ?_
       obtain⟨G,e,h⟩:=aj h;rw[e]
       refine aH 4 [(1,ti M),(2,tb true),(6,ptr u 0),(9,ptr V 0),(10,.one W84 c),(11,ti (List.length c:Int)),(12,ti f),(20,tb true),(28,tb false),(30,tb true),(38,tb (G||(((List.getD c (Int.toNat f) (0,0,0,z32,[],())).1)==3)))] [Res.var V 52 Y52 (List.getD c (Int.toNat f) (0,0,0,z32,[],())),Res.var u 52 Y52 (0,0,0,z32,[],())] (?_) ?_
       ·clear h
        cases G
        ·refine zm 1 o<|al dl o ?_
         exact yl 0 f0 ty3 o o o tr o<|zA o<|ap () o o
        exact zA o<|ap () o o
       exact zN o<|zt<|ah (G||(((List.getD c (Int.toNat f) (0,0,0,z32,[],())).1)==3)) () h o o
      exact zN o<|zt<|ah H () h o o
     exact zN o<|zt<|ah C () h o o
    rw[hh]at h⊢
    rw[if_neg (by decide)]at h
    exact zN o<|zt<|ah false () h o o
   exact za<|rI h o (λhc h=>zu<|yl 0 .here br o o o tr o<|st 1 .here br o o o o tr<|zE o<|zB<|zT<|zT<|zB<|zT<|by cases h;exact aC (rs:=[.cell 6 52,.tmp 7]) o (.cons (.cell 1 .here o o o aa br) (.cons (.tmp o) (.nil))) o (λ_ vs g=>aG vs g) (λ_ _ _=>List.nil_sublist _)) λhc h=>zk<|zi<|zt<|zr<|zA o<|pk [1] o<|aY (wrap .i64 (f+1)) () (Nat.lt_succ_self _) h o o
  exact zx<|ze<|ze<|zq<|zt<|ah () () h o o
 refine zu<|y (bc o ii o o .nil) o ?_
 refine st 0 .here br o o o o tr<|zE o ?_
 cases h
 exact aC (rs:=[.cell 6 52,.tmp 7]) o (.cons (.cell 0 .here o o o aa br) (.cons (.tmp o) (.nil))) o (λ_ vs g=>aG vs g) (λ_ _ _=>List.nil_sublist _)
theorem xw(c f r)(h:rA c f=some r):bw PP 265 [.one W84 c,ti f] (.tup [⟨Y52,r.1⟩,⟨.bool,r.2⟩]):=by
 unfold rA at h
 refine enter Tryz.func265 o 11 o o λF=>?_
 refine zu<|aB (t:=Y52) o ii o λM=>zm 1 o<|zZ 2 o<|cB h λV u h=>au (rh _ _ _ _ u) kr o o<|zm 2 o<|st 0 .here br o o o o tr<|zE o ?_
 cases h
 exact aC (rs:=[.cell 4 52,.tmp 5]) o (.cons (.cell 0 .here o o o aa br) (.cons (.tmp o) (.nil))) o (λ_ vs g=>aG vs g) (λ_ _ _=>List.nil_sublist _)
theorem vC(c f r)(h:oR c f=some r):bw PP 266 [.one W84 c,ti f] (.tup [⟨Y52,r.1⟩,⟨.bool,r.2⟩]):=by
 unfold oR at h
 refine enter Tryz.func266 o 11 o o λF=>?_
 refine zu<|aB (t:=Y52) o ii o λM=>zm 1 o<|zZ 2 o<|cB h λV u h=>au (rh _ _ _ _ u) kr o o<|zm 2 o<|st 0 .here br o o o o tr<|zE o ?_
 cases h
 exact aC (rs:=[.cell 4 52,.tmp 5]) o (.cons (.cell 0 .here o o o aa br) (.cons (.tmp o) (.nil))) o (λ_ vs g=>aG vs g) (λ_ _ _=>List.nil_sublist _)
theorem wT(c f r)(h:strings_Join c f=some r):bw PP 269 [.one W86 c,ts f] (ts r):=CO Go.Proofs.Tryz.strings_Join_none Go.Proofs.Tryz.strings_Join c f r h
theorem vD(r)(h:oS=some r):bw PP 270 [] (.one W72 r):=by
 unfold oS at h
 refine enter Tryz.func270 o 2 o o λF=>?_
 refine zu<|aB (t:=W72) o pp o λc=>zz<|y (bc o pp o o (.cons (.elem 0 .here) o o (aw (by omega) aa) (.cons (.elem 1 .here) o o (aw (by omega) aa) (.cons (.elem 2 .here) o o (aw (by omega) aa) (.cons (.elem 3 .here) o o (aw (by omega) aa) (.cons (.elem 4 .here) o o (aw (by omega) aa) (.cons (.elem 5 .here) o o (aw (by omega) aa) (.cons (.elem 6 .here) o o (aw (by omega) aa) (.cons (.elem 7 .here) o o (aw (by omega) aa) (.cons (.elem 8 .here) o o (aw (by omega) aa) (.cons (.elem 9 .here) o o (aw (by omega) aa) (.cons (.elem 10 .here) o o (aw (by omega) aa) (.cons (.elem 11 .here) o o (aw (by omega) aa) (.cons (.elem 12 .here) o o (aw (by omega) aa) (.cons (.elem 13 .here) o o (aw (by omega) aa) (.cons (.elem 14 .here) o o (aw (by omega) aa) (.cons (.elem 15 .here) o o (aw (by omega) aa) (.cons (.elem 16 .here) o o (aw (by omega) aa) (.cons (.elem 17 .here) o o (aw (by omega) aa) (.cons (.elem 18 .here) o o (aw (by omega) aa) (.cons (.elem 19 .here) o o (aw (by omega) aa) (.cons (.elem 20 .here) o o (aw (by omega) aa) (.cons (.elem 21 .here) o o (aw (by omega) aa) (.cons (.elem 22 .here) o o (aw (by omega) aa) (.cons (.elem 23 .here) o o (aw (by omega) aa) (.cons (.elem 24 .here) o o (aw (by omega) aa) (.cons (.elem 25 .here) o o (aw (by omega) aa) (.cons (.elem 26 .here) o o (aw (by omega) aa) (.cons (.elem 27 .here) o o (aw (by omega) aa) (.cons (.elem 28 .here) o o (aw (by omega) aa) (.cons (.elem 29 .here) o o (aw (by omega) aa) (.cons (.elem 30 .here) o o (aw (by omega) aa) (.cons (.elem 31 .here) o o (aw (by omega) aa) (.cons (.elem 32 .here) o o (aw (by omega) aa) (.cons (.elem 33 .here) o o (aw (by omega) aa) (.cons (.elem 34 .here) o o (aw (by omega) aa) (.cons (.elem 35 .here) o o (aw (by omega) aa) (.cons (.elem 36 .here) o o (aw (by omega) aa) (.cons (.elem 37 .here) o o (aw (by omega) aa) (.cons (.elem 38 .here) o o (aw (by omega) aa) (.cons (.elem 39 .here) o o (aw (by omega) aa) (.cons (.elem 40 .here) o o (aw (by omega) aa) (.cons (.elem 41 .here) o o (aw (by omega) aa) (.cons (.elem 42 .here) o o (aw (by omega) aa) (.cons (.elem 43 .here) o o (aw (by omega) aa) (.cons (.elem 44 .here) o o (aw (by omega) aa) (.cons (.elem 45 .here) o o (aw (by omega) aa) (.cons (.elem 46 .here) o o (aw (by omega) aa) (.cons (.elem 47 .here) o o (aw (by omega) aa) (.cons (.elem 48 .here) o o (aw (by omega) aa) (.cons (.elem 49 .here) o o (aw (by omega) aa) (.cons (.elem 50 .here) o o (aw (by omega) aa) (.cons (.elem 51 .here) o o (aw (by omega) aa) (.cons (.elem 52 .here) o o (aw (by omega) aa) (.cons (.elem 53 .here) o o (aw (by omega) aa) (.cons (.elem 54 .here) o o (aw (by omega) aa) (.cons (.elem 55 .here) o o (aw (by omega) aa) (.cons (.elem 56 .here) o o (aw (by omega) aa) (.cons (.elem 57 .here) o o (aw (by omega) aa) (.cons (.elem 58 .here) o o (aw (by omega) aa) (.cons (.elem 59 .here) o o (aw (by omega) aa) (.cons (.elem 60 .here) o o (aw (by omega) aa) (.cons (.elem 61 .here) o o (aw (by omega) aa) (.cons (.elem 62 .here) o o (aw (by omega) aa) (.cons (.elem 63 .here) o o (aw (by omega) aa) .nil))))))))))))))))))))))))))))))))))))))))))))))))))))))))))))))))) o ?_
 refine st 0 .here nb o o o o tr<|zf ?_
 cases h
 exact aT o (.cell 0 .here o o o aa nb) (λ_ _ g=>g) (λ_ _ _=>List.nil_sublist _)
theorem cr(c f r)(h:cn c f=some r):bw PP 273 [.one (.int .u32) c,ti f] (.one (.int .u32) r):=by
 unfold cn at h
 refine enter Tryz.func273 o 17 o o λF=>?_
 refine zU 1 o<|zz<|q 4 [(0,.one (.int .u32) c),(5,.one (.int .u64) (go .u64 (wrap .u64 f) 31))] [] o ?_
 obtain⟨u,e,h⟩:=aj h;rw[e]
 refine zz<|zE o ?_
 cases h
 exact ax o (.tmp o)
theorem jY(V r)(h:pN V=some r):bw PP 272 [ts V] (.one W72 r):=by
 unfold pN at h
 refine enter Tryz.func272 o 77 o o λF=>?_
 refine zu<|aB (t:=W72) o pp o λu=>zz<|aB (t:=W72) o pp o λf=>za<|bD h (λW=>[(2,ptr u 0),(3,ptr f 0)]) (λW=>[Res.var f 354 W72 W,Res.var u 354 W72 (List.replicate 64 (0:Int))]) (λw h=>?_) λW h=>?_
 ·refine zW o<|zb<|ai [0,2,3,11] o<|bl (γ:=Unit) (λ(M:Int×List (Int)) _=>[(0,ts V),(2,ptr u 0),(3,ptr f 0),(11,ti M.1)]) (λ(M:Int×List (Int)) _=>[Res.var f 354 W72 M.2,Res.var u 354 W72 (List.replicate 64 (0:Int))]) (li V w) (0,(List.replicate 64 (0:Int))) () h o o ?_
  clear h
  intro N M gg h
  cases N with
  |zero=>cases h
  |succ N=>
  simp only[li]at h
  refine zW o<|zs<|rI h o (λhc h=>?_) λhc h=>?_
  ·refine zk<|zt<|zs<|zb<|zU 2 o<|zz<|q 1 [(0,ts V),(2,ptr u 0),(3,ptr f 0),(4,ti M.1),(11,ti M.1),(14,ti 0)] [] o<|za<|bX h λJ Z h=>?_
   refine sn (γ:=Unit) (λ(C:List (Int)) _=>[(0,ts V),(2,ptr u 0),(3,ptr f 0),(11,ti M.1)]) (λ(C:List (Int)) _=>[Res.var f 354 W72 C,Res.var u 354 W72 (List.replicate 64 (0:Int))]) J r ?_ ?_
   ·refine zb<|ai [0,2,3,4,11,14] o<|bl (γ:=Unit) (λ(R:Int×List (Int)) _=>[(0,ts V),(2,ptr u 0),(3,ptr f 0),(4,ti M.1),(11,ti M.1),(14,ti R.1)]) (λ(R:Int×List (Int)) _=>[Res.var f 354 W72 R.2,Res.var u 354 W72 (List.replicate 64 (0:Int))]) (lh V M J) (0,M.2) () h o o ?_
    clear h
    intro m32 R gg h
    cases m32 with
    |zero=>cases h
    |succ m32=>
    simp only[lh]at h
    refine zW o<|zs<|rI h o (λhc h=>?_) λhc h=>?_
    ·refine zk<|zt<|zs<|zb<|zW o<|dA kr<|zF 2 [0,1] kr o o<|iE h λhc h=>ej 2 (ptr f (0+(Int.toNat M.1)*1)) o kr (bO o o hc.1 hc.2 qd cJ)<|zF 5 [5,6,7,8,9] kr o o<|iE h λhc h=>ej 10 (.one (.int .u8) (List.getD V (Int.toNat (wrap .i64 ((wrap .i64 (4*M.1))+R.1))) 0)) o kr (eA af o o hc.1 hc.2 o)<|zF 1 [11] kr o o<|ae 3 kr o ?_
     refine y (aN 0 (.elem (Int.toNat M.1) .here) o o pof (aw pix aa) cJ) o ?_
     exact zL [0,2,3,4,11,14,17,20,28] o<|zF 2 [4,12] kr o o<|iE h λhc h=>ej 13 (ptr f (0+(Int.toNat M.1)*1)) o kr (bO o o hc.1 hc.2 qd cJ)<|ae 14 kr o<|iV 0 (.elem (Int.toNat M.1) .here) o o o pof (aw pix aa) cJ<|zL [0,2,3,4,11,14] o<|aJ kr<|zi<|zt<|zr<|zA o<|aY ((wrap .i64 (R.1+1)),(List.set R.2 (Int.toNat M.1) (ior .u32 (ja .u32 (List.getD R.2 (Int.toNat M.1) 0) 8) (wrap .u32 (List.getD V (Int.toNat (wrap .i64 ((wrap .i64 (4*M.1))+R.1))) 0))))) () (Nat.lt_succ_self _) h o o
    exact zx<|ze<|ze<|zq<|zt<|ah R.2 () h o o
   intro C gg h
   rw[←Z]at h
   try dsimp only at h
   exact zi<|zt<|zr<|zA o<|aY ((wrap .i64 (M.1+1)),C) () (Nat.lt_succ_self _) h o o
  exact zx<|ze<|ze<|zq<|zt<|ah M.2 () h o o
 refine bD h (λG=>[(2,ptr u 0),(3,ptr f 0)]) (λG=>[Res.var f 354 W72 G,Res.var u 354 W72 (List.replicate 64 (0:Int))]) (λk6 h=>?_) λG h=>?_
 ·refine zW o<|zb<|ai [2,3,6] o<|bl (γ:=Unit) (λ(c:Int×List (Int)) _=>[(2,ptr u 0),(3,ptr f 0),(6,ti c.1)]) (λ(c:Int×List (Int)) _=>[Res.var f 354 W72 c.2,Res.var u 354 W72 (List.replicate 64 (0:Int))]) (lg k6) (16,W) () h o o ?_
  clear h
  intro d c gg h
  cases d with
  |zero=>cases h
  |succ d=>
  simp only[lg]at h
  refine zs<|zW o<|rI h o (λhc h=>?_) λhc h=>?_
  ·refine zk<|zt<|zs<|zb<|zs<|ef kr kr ?_
   refine ay af 2 [2,3,6,38] (E':=[(2,ptr u 0),(3,ptr f 0),(6,ti c.1),(38,ti (wrap .i64 (c.1 - 15)))]) o ?_
   refine iE h λhc h=>q_y (bO o o hc.1 hc.2 qd cJ) o ?_
   refine q_y (aN 0 (.elem (Int.toNat (wrap .i64 (c.1 - 15))) .here) o o pof (aw pix aa) cJ) o ?_
   refine ay af 2 [2,3,6,40,42] (E':=[(2,ptr u 0),(3,ptr f 0),(6,ti c.1),(40,.one (.int .u32) (List.getD c.2 (Int.toNat (wrap .i64 (c.1 - 15))) 0)),(42,ti (wrap .i64 (c.1 - 2)))]) o ?_
   refine iE h λhc h=>q_y (bO o o hc.1 hc.2 qd cJ) o ?_
   refine q_y (aN 0 (.elem (Int.toNat (wrap .i64 (c.1 - 2))) .here) o o pof (aw pix aa) cJ) o ?_
   refine ay af 1 [2,3,6,7,44] (E':=[(2,ptr u 0),(3,ptr f 0),(6,ti c.1),(7,.one (.int .u32) (List.getD c.2 (Int.toNat (wrap .i64 (c.1 - 15))) 0)),(44,.one (.int .u32) (List.getD c.2 (Int.toNat (wrap .i64 (c.1 - 2))) 0))]) o ?_
   obtain⟨m,e,h⟩:=aj h;rw[e]
   refine ay af 1 [2,3,6,7,8] (E':=[(2,ptr u 0),(3,ptr f 0),(6,ti c.1),(7,.one (.int .u32) m),(8,.one (.int .u32) (List.getD c.2 (Int.toNat (wrap .i64 (c.1 - 2))) 0))]) o ?_
   obtain⟨a1,e,h⟩:=aj h;rw[e]
   refine eK ?_
   refine zt<|zU 1 o<|cB h λa2 a3 h=>au (cr _ _ _ a3) kr o o<|zm 1 o<|cB h λa4 a5 h=>au (cr _ _ _ a5) kr o o<|q 5 [(2,ptr u 0),(3,ptr f 0),(6,ti c.1),(8,.one (.int .u32) a1),(9,.one (.int .u32) (dC .u32 (dC .u32 a2 a4) (ca .u32 m 3)))] [] o ?_
   obtain⟨a6,e,h⟩:=aj h;rw[e]
   refine zZ 1 o<|cB h λb1 a7 h=>au (cr _ _ _ a7) kr o o<|zm 1 o<|cB h λb4 a8 h=>au (cr _ _ _ a8) kr o o<|p 5 [2,3,6,9,10] o ?_
   obtain⟨H,e,h⟩:=aj h;rw[e]
   refine za<|dA kr<|zF 3 [0,1,2] kr o o<|iE h λhc h=>ej 3 (ptr f (0+(Int.toNat (wrap .i64 (c.1 - 16)))*1)) o kr (bO o o hc.1 hc.2 qd cJ)<|zF 3 [5,7,8] kr o o<|iE h λhc h=>ej 9 (ptr f (0+(Int.toNat (wrap .i64 (c.1 - 7)))*1)) o kr (bO o o hc.1 hc.2 qd cJ)<|zF 1 [12] kr o o<|pB (fuel:=1) [4,6,10,11,13,14] #[true,true,true,true,true,true,true,true,true,true,true,true,true,true,true,false] kr ?_
   refine q_y (aN 0 (.elem (Int.toNat (wrap .i64 (c.1 - 16))) .here) o o pof (aw pix aa) cJ) o ?_
   refine ay af 1 [2,3,6,61,67,70,73] (E':=[(2,ptr u 0),(3,ptr f 0),(6,ti c.1),(61,ti c.1),(67,.one (.int .u32) (wrap .u32 ((List.getD c.2 (Int.toNat (wrap .i64 (c.1 - 16))) 0)+a6))),(70,ptr f (0+(Int.toNat (wrap .i64 (c.1 - 7)))*1)),(73,.one (.int .u32) H)]) o ?_
   obtain⟨a9,e,h⟩:=aj h;rw[e]
   refine q_y (aN 0 (.elem (Int.toNat (wrap .i64 (c.1 - 7))) .here) o o pof (aw pix aa) cJ) o ?_
   refine ay af 1 [2,3,6,61,72,73] (E':=[(2,ptr u 0),(3,ptr f 0),(6,ti c.1),(61,ti c.1),(72,.one (.int .u32) (wrap .u32 (a9+(List.getD c.2 (Int.toNat (wrap .i64 (c.1 - 7))) 0)))),(73,.one (.int .u32) H)]) o ?_
   obtain⟨O,e,h⟩:=aj h;rw[e]
   refine ay af 1 [2,3,6,61,74] (E':=[(2,ptr u 0),(3,ptr f 0),(6,ti c.1),(61,ti c.1),(74,.one (.int .u32) (wrap .u32 (O+H)))]) o ?_
   refine iE h λhc h=>q_y (bO o o hc.1 hc.2 qd cJ) o ?_
   refine eK ?_
   refine ai [2,3,6,74,75] o<|ae 15 kr o<|iV 0 (.elem (Int.toNat c.1) .here) o o o pof (aw pix aa) cJ<|zL [2,3,6] o<|aJ kr<|zi<|zt<|zr<|q 3 [(6,ti (wrap .i64 (c.1+1)))] [2,3] o ?_
   obtain⟨b0,e,h⟩:=aj h;rw[e]
   exact za<|aY (b0,(List.set c.2 (Int.toNat c.1) (wrap .u32 (O+H)))) () (Nat.lt_succ_self _) h o o
  exact zx<|ze<|ze<|zq<|zt<|ah c.2 () h o o
 refine zu<|yl 0 .here nb o o o tr o<|st 1 .here nb o o o o tr<|zf ?_
 cases h
 exact aT o (.cell 1 .here o o o aa nb) (λ_ _ g=>g) (λ_ _ _=>List.nil_sublist _)
end Sx
