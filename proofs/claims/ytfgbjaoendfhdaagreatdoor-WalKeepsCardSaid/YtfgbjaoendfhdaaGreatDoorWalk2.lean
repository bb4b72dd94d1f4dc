/-
  Own work, printed by a program of the same hand. Each function of the code answers what its plain twin reckons.
-/
import Derived.Test.YtfgbjaoendfhdaaGreatDoorWalk1
namespace Sx
open Go Go.Proofs
set_option maxRecDepth 10000
set_option maxHeartbeats 1000000
attribute [local irreducible] wpList

theorem uh7 (p0 : Value) (p100 : Value) (a0 : Unit × List Int × Int × (List (Int × Int × Int × Unit)) × Int × Bool × Unit) (a1 : Int) (a100 : DiskS) (r : (Int × Int × Int × Unit) × Bool) (h : ucH a0 a1 a100 = some r) : Fn Tryz.prog 40 [tp p0, ti a1] [Res.cls (CLog p100) p0 a0, Res.disk Tryz.prog dI p100 a100] (fun _ => .tup [⟨Y77, r.1⟩, ⟨.bool, r.2⟩]) (fun _ => [Res.cls (CLog p100) p0 a0, Res.disk Tryz.prog dI p100 a100]) := by
 unfold ucH at h
 refine enter Tryz.func40 rfl 45 rfl rfl fun F => ?_
 refine ud1 fun b2 sv1 hp => ?_
 subst hp
 refine uaK (x := a0) (q := p100) ?_
 refine zu <| ubK (t := Y77) rfl zf77 rfl fun b3 => p 1 [0,1,4] rfl <| za <| zs <| zs <| pk [1,0,0] rfl <| ubZ fun sv4 => ?_
 refine zr <| p 3 [0,1,4,9] rfl <| yl 0 ((.snd (.snd (.snd (.fst .here))))) tx2 rfl rfl rfl trivial rfl <| y (uaZ tabOk 1 rfl rfl rfl) rfl ?_
 refine q 1 [(12, tb ((List.length a0.2.2.2.1 : Int) == 0))] [0,1,4] rfl <| za <| rI h rfl (fun hc h => ?_) fun hc h => ?_
 ·refine zu <| y (udN rfl zf77 rfl rfl .nil) rfl ?_
  refine st 2 .here ty77 rfl rfl rfl rfl trivial <| p 1 [4,5] rfl <| zf <| zT <| uaK (x := a0) (q := p100) ?_
  cases h
  exact ua2 (rs := [.cell 4 77, .tmp 5]) rfl (.cons (.cell 1 .here rfl rfl (by first | rfl | (simp only [Pth.off, T.size]; omega)) uam ty77) (.cons (.tmp rfl) (.nil))) rfl (fun _ vs g => ubr vs g) (fun _ _ _ => (.cons_cons _ (.cons _ (.cons_cons _ .slnil))))
 refine zk <| zt <| zs ?_
 obtain ⟨hi5, h⟩ := ubo h
 refine ubD 1 rfl (by omega) fun b6 o7 c8 hv => ?_
 rw [hv]
 try clear hv
 refine ud3 (S := AllIs [OwnIs b6 o7 77 Y77 a0.2.2.2.1, VarIs b2 68 (.pair (.raw (.pointer none)) (.pair .str (.pair (.int .i64) (.pair (.raw (.slice none 0 0)) (.pair (.int .i64) (.pair .bool .unit)))))) (p100, a0.2.1, a0.2.2.1, (.slice (some ⟨b6, o7, none⟩) (List.length a0.2.2.2.1) c8), a0.2.2.2.2.1, a0.2.2.2.2.2.1, a0.2.2.2.2.2.2)]) (by kernel_rfl) ?_
 refine uap (i := 0) (t := ptr b2 0) (uaa uac) rfl (by kernel_rfl) (by kernel_rfl) (by kernel_rfl) (uae (ubs 1 rfl (by omega)) (uae (uaj 0 rfl) uag)) (uaf tabOk rfl) rfl ?_
 refine uap (i := 1) (t := ptr b2 0) (uaa uac) rfl (by kernel_rfl) (by kernel_rfl) (by kernel_rfl) (uae (ubs 1 rfl (by omega)) (uae (uaj 0 rfl) uag)) (uaf tabOk rfl) rfl ?_
 refine uap (i := 2) (t := ptr b2 3) (uaa uac) rfl (by kernel_rfl) (by kernel_rfl) (by kernel_rfl) (uae (ubs 1 rfl (by omega)) (uae (uaj 0 rfl) uag)) (uaf tabOk rfl) rfl ?_
 refine uap (i := 3) (t := .one (.raw (.slice none 0 0)) (.slice (some ⟨b6, o7, none⟩) (List.length a0.2.2.2.1) c8)) (uaa uac) rfl (by kernel_rfl) (by kernel_rfl) (by kernel_rfl) (uae (ubs 1 rfl (by omega)) (uae (uaj 0 rfl) uag)) (ubQ (S := fun w => AllIs [OwnIs b6 o7 77 Y77 a0.2.2.2.1, VarIs b2 68 (.pair (.raw (.pointer none)) (.pair .str (.pair (.int .i64) (.pair (.raw (.slice none 0 0)) (.pair (.int .i64) (.pair .bool .unit)))))) (p100, a0.2.1, a0.2.2.1, (.slice (some ⟨b6, o7, none⟩) (List.length a0.2.2.2.1) c8), a0.2.2.2.2.1, a0.2.2.2.2.2.1, a0.2.2.2.2.2.2)] w) (uba 1 rfl) 0 ((.snd (.snd (.snd (.fst .here))))) rfl rfl rfl (by first | rfl | (simp only [Pth.off, T.size]; omega)) (uaw (uaw (uaw (uaC uam)))) tx2) rfl ?_
 refine uap (i := 4) (t := ptr b2 0) (uaa uac) rfl (by kernel_rfl) (by kernel_rfl) (by kernel_rfl) (uae (ubs 1 rfl (by omega)) (uae (uaj 0 rfl) uag)) (uaf tabOk rfl) rfl ?_
 refine uap (i := 5) (t := ptr b2 0) (uaa uac) rfl (by kernel_rfl) (by kernel_rfl) (by kernel_rfl) (uae (ubs 1 rfl (by omega)) (uae (uaj 0 rfl) uag)) (uaf tabOk rfl) rfl ?_
 refine uap (i := 6) (t := ptr b2 3) (uaa uac) rfl (by kernel_rfl) (by kernel_rfl) (by kernel_rfl) (uae (ubs 1 rfl (by omega)) (uae (uaj 0 rfl) uag)) (uaf tabOk rfl) rfl ?_
 refine uap (i := 7) (t := .one (.raw (.slice none 0 0)) (.slice (some ⟨b6, o7, none⟩) (List.length a0.2.2.2.1) c8)) (uaa uac) rfl (by kernel_rfl) (by kernel_rfl) (by kernel_rfl) (uae (ubs 1 rfl (by omega)) (uae (uaj 0 rfl) uag)) (ubQ (S := fun w => AllIs [OwnIs b6 o7 77 Y77 a0.2.2.2.1, VarIs b2 68 (.pair (.raw (.pointer none)) (.pair .str (.pair (.int .i64) (.pair (.raw (.slice none 0 0)) (.pair (.int .i64) (.pair .bool .unit)))))) (p100, a0.2.1, a0.2.2.1, (.slice (some ⟨b6, o7, none⟩) (List.length a0.2.2.2.1) c8), a0.2.2.2.2.1, a0.2.2.2.2.2.1, a0.2.2.2.2.2.2)] w) (uba 1 rfl) 0 ((.snd (.snd (.snd (.fst .here))))) rfl rfl rfl (by first | rfl | (simp only [Pth.off, T.size]; omega)) (uaw (uaw (uaw (uaC uam)))) tx2) rfl ?_
 refine uap (i := 8) (t := ti (List.length a0.2.2.2.1 : Int)) (uaa uac) rfl (by kernel_rfl) (by kernel_rfl) (by kernel_rfl) (uae (ubs 1 rfl (by omega)) (uae (uaj 0 rfl) uag)) (uaZ (t := Y77) tabOk 1 rfl rfl rfl) rfl ?_
 refine uap (i := 9) (t := ti (IntKind.wrap .i64 ((List.length a0.2.2.2.1 : Int) - 1))) (uaa uac) rfl (by kernel_rfl) (by kernel_rfl) (by kernel_rfl) (uae (ubs 1 rfl (by omega)) (uae (uaj 0 rfl) uag)) (uaf tabOk rfl) rfl ?_
 refine uap (i := 10) (t := ptr b6 (o7 + (Int.toNat (IntKind.wrap .i64 ((List.length a0.2.2.2.1 : Int) - 1))) * 3)) (uaa uac) rfl (by kernel_rfl) (by kernel_rfl) (by kernel_rfl) (uae (ubs 1 rfl (by omega)) (uae (uaj 0 rfl) uag)) (ucb tabOk rfl rfl hi5.1 hi5.2 rfl ty77) rfl ?_
 refine uap (i := 11) (t := .one Y77 (List.getD a0.2.2.2.1 (Int.toNat (IntKind.wrap .i64 ((List.length a0.2.2.2.1 : Int) - 1))) (0, 0, 0, ()))) (uaa uac) rfl (by kernel_rfl) (by kernel_rfl) (by kernel_rfl) (uae (ubs 1 rfl (by omega)) (uae (uaj 0 rfl) uag)) (ujk (S := fun w => AllIs [OwnIs b6 o7 77 Y77 a0.2.2.2.1, VarIs b2 68 (.pair (.raw (.pointer none)) (.pair .str (.pair (.int .i64) (.pair (.raw (.slice none 0 0)) (.pair (.int .i64) (.pair .bool .unit)))))) (p100, a0.2.1, a0.2.2.1, (.slice (some ⟨b6, o7, none⟩) (List.length a0.2.2.2.1) c8), a0.2.2.2.2.1, a0.2.2.2.2.2.1, a0.2.2.2.2.2.2)] w) (uba 0 rfl) 1 (Int.toNat (IntKind.wrap .i64 ((List.length a0.2.2.2.1 : Int) - 1))) .here rfl rfl rfl (by omega) (by first | rfl | (simp only [Pth.off, T.size]; omega)) uam ty77) rfl ?_
 refine h_one (i := 12) (by kernel_rfl) rfl ?_
 refine ubK (t := Y77) rfl zf77 rfl fun b9 => za <| h_in (uae (ubs 2 rfl (by omega)) (uae (uaj 1 rfl) uag)) ?_
 refine uab [0,1,4,6,25] rfl <| h_one (i := 13) (by kernel_rfl) rfl ?_
 refine st 0 .here ty77 rfl rfl rfl rfl trivial <| za <| h_in (uae (ubs 2 rfl (by omega)) (uae (uaj 1 rfl) uag)) ?_
 refine uab [0,1,4,6] rfl <| h_end (by kernel_rfl) ?_
 refine zt <| zs <| zs <| uft (by kernel_rfl) (by kernel_rfl) ?_
 refine uaD tabOk 1 [0, 1, 4, 6, 26] (E' := [(0, ptr b2 0), (1, ti a1), (4, ptr b3 0), (6, ptr b9 0), (26, ptr b9 1)]) rfl ?_
 refine q_y (ubx 0 ((.snd (.fst .here))) rfl rfl (by first | rfl | (simp only [Pth.off, T.size]; omega)) (uaw (uaC uam)) ty3) rfl ?_
 refine uaD tabOk 1 [0, 1, 4, 6, 28] (E' := [(0, ptr b2 0), (1, ti a1), (4, ptr b3 0), (6, ptr b9 0), (28, tb (decide (((List.getD a0.2.2.2.1 (Int.toNat (IntKind.wrap .i64 ((List.length a0.2.2.2.1 : Int) - 1))) (0, 0, 0, ())).2.1) > 0)))]) rfl ?_
 obtain ⟨t10, e, h⟩ := uao h; rw [e]
 refine uaD tabOk 1 [0, 1, 4, 6, 29] (E' := [(0, ptr b2 0), (1, ti a1), (4, ptr b3 0), (6, ptr b9 0), (29, tb t10)]) rfl ?_
 refine bX h fun k12 hk12 h => ?_
 refine udU 10 (fun (o13 : Bool) => [(4, ptr b3 0), (6, ptr b9 0), (39, tb o13)]) k12 r ?_ ?_
 ·rcases Bool.eq_false_or_eq_true t10 with hh | hh
  ·rw [hh] at h ⊢
   rw [if_pos rfl] at h
   refine uaD tabOk 1 [0, 1, 4, 6, 29, 30] (E' := [(0, ptr b2 0), (1, ti a1), (4, ptr b3 0), (6, ptr b9 0), (29, tb true), (30, ptr b9 1)]) rfl ?_
   refine ubV (by rfl) rfl ?_
   refine q_y (ubx 0 ((.snd (.fst .here))) rfl rfl (by first | rfl | (simp only [Pth.off, T.size]; omega)) (uaw (uaC uam)) ty3) rfl ?_
   refine uaD tabOk 2 [0, 4, 6, 29, 33] (E' := [(0, ptr b2 0), (4, ptr b3 0), (6, ptr b9 0), (29, tb true), (33, ti (IntKind.wrap .i64 (((List.getD a0.2.2.2.1 (Int.toNat (IntKind.wrap .i64 ((List.length a0.2.2.2.1 : Int) - 1))) (0, 0, 0, ())).2.1) + a1)))]) rfl ?_
   obtain ⟨t14, e, h⟩ := uao h; rw [e]
   refine uaD tabOk 3 [4, 6, 29, 33, 36] (E' := [(4, ptr b3 0), (6, ptr b9 0), (29, tb true), (33, ti t14), (36, ptr b2 2)]) rfl ?_
   refine ubV (by rfl) rfl ?_
   refine q_y (ubx 1 ((.snd (.snd (.fst .here)))) rfl rfl (by first | rfl | (simp only [Pth.off, T.size]; omega)) (uaw (uaw (uaC uam))) ty3) rfl ?_
   refine uaD tabOk 2 [4, 6, 39] (E' := [(4, ptr b3 0), (6, ptr b9 0), (39, tb (decide (t14 > a0.2.2.1)))]) rfl ?_
   refine ucn ?_
   exact ucS (decide (t14 > a0.2.2.1)) [4, 6, 39] h rfl
  rw [hh] at h ⊢
  rw [if_neg (by decide)] at h
  refine uaD tabOk 10 [4, 6, 39] (E' := [(4, ptr b3 0), (6, ptr b9 0), (39, tb false)]) rfl ?_
  refine ucn ?_
  exact ucS false [4, 6, 39] h rfl
 intro o13 h
 rw [← hk12] at h
 try dsimp only at h
 refine q_nil ?_
 refine zt <| rI h rfl (fun hc h => ?_) fun hc h => ?_
 ·refine zu <| p 1 [4,40] rfl <| yl 0 ((.fst .here)) ty3 rfl rfl rfl trivial rfl <| q 1 [(42, ti (IntKind.wrap .i64 (((List.getD a0.2.2.2.1 (Int.toNat (IntKind.wrap .i64 ((List.length a0.2.2.2.1 : Int) - 1))) (0, 0, 0, ())).1) + 1)))] [4] rfl ?_
  obtain ⟨t15, e, h⟩ := uao h; rw [e]
  refine y (udN rfl zf77 rfl rfl (.cons ((.fst .here)) rfl rfl uam .nil)) rfl ?_
  refine st 3 .here ty77 rfl rfl rfl rfl trivial <| p 1 [4,5] rfl <| zf <| zT <| pk [1,1,0,0,0] rfl <| uaK (x := a0) (q := p100) ?_
  cases h
  exact ua2 (rs := [.cell 4 77, .tmp 5]) rfl (.cons (.cell 2 .here rfl rfl (by first | rfl | (simp only [Pth.off, T.size]; omega)) uam ty77) (.cons (.tmp rfl) (.nil))) rfl (fun _ vs g => ubr vs g) (fun _ _ _ => (.cons_cons _ (.cons _ (.cons _ (.cons_cons _ .slnil)))))
 refine zy <| yl 0 .here ty77 rfl rfl rfl trivial rfl <| st 3 .here ty77 rfl rfl rfl rfl trivial <| p 1 [4,5] rfl <| zf <| pk [1,1,0,0,0] rfl <| uaK (x := a0) (q := p100) ?_
 cases h
 exact ua2 (rs := [.cell 4 77, .tmp 5]) rfl (.cons (.cell 2 .here rfl rfl (by first | rfl | (simp only [Pth.off, T.size]; omega)) uam ty77) (.cons (.tmp rfl) (.nil))) rfl (fun _ vs g => ubr vs g) (fun _ _ _ => (.cons_cons _ (.cons _ (.cons _ (.cons_cons _ .slnil)))))

theorem ui3 (a0 : List Int) (r : Bool) (h : uc7 a0 = some r) : Pure Tryz.prog 23 [ts a0] (tb r) := by
 unfold uc7 at h
 refine enter Tryz.func23 rfl 27 rfl rfl fun F => ?_
 refine zu <| p 1 [0] rfl <| za <| jK h (γ := Unit) (fun (o2 : Unit) _ => [(0, ts a0)]) (fun (o2 : Unit) _ => []) (fun k1 h => ?_) fun o2 gg h => ?_
 ·refine zu <| q 3 [(5, ti (List.length a0 : Int)), (6, ti 0)] [0] rfl <| za <| zb <| uab [0,5,6] rfl <| ubv (γ := Unit) (fun (s5 : Int) _ => [(0, ts a0), (5, ti (List.length a0 : Int)), (6, ti s5)]) (fun (s5 : Int) _ => []) (ucL a0 k1) 0 () h rfl rfl ?_
  clear h
  intro m6 s5 gg h
  cases m6 with
  | zero => cases h
  | succ m6 =>
  simp only [ucL] at h
  refine zu <| q 1 [(6, ti s5), (7, tb (decide (s5 < (List.length a0 : Int))))] [0,5] rfl <| za <| zs <| rI h rfl (fun hc h => ?_) fun hc h => ?_
  ·refine zk <| zt <| zs <| zb <| zu <| p 2 [0,3,5,6] rfl <| zz <| p 2 [0,3,5,6,9,10] rfl <| iE h fun hc h => y (udH tabOk rfl rfl hc.1 hc.2 rfl) rfl ?_
   refine q 2 [(13, tb (decide ((List.getD a0 (Int.toNat s5) 0) < 33)))] [0,3,5,6] rfl ?_
   obtain ⟨b7, e, h⟩ := uao h; rw [e]
   refine bX h fun k8 hk8 h => ?_
   refine ubh (γ := Unit) 5 (fun (o9 : Bool) _ => [(0, ts a0), (5, ti (List.length a0 : Int)), (6, ti s5), (18, tb o9)]) (fun _ _ => []) k8 r ?_ ?_
   ·rcases Bool.eq_false_or_eq_true b7 with hh | hh
    ·rw [hh] at h ⊢
     rw [if_pos rfl] at h
     exact p 5 [0,5,6,18] rfl <| zn <| uab [0,5,6,18] rfl <| zt <| by exact uai true () h rfl rfl
    rw [hh] at h ⊢
    rw [if_neg (by decide)] at h
    refine p 2 [0,5,6,13,14,15] rfl <| uaI (by rfl) rfl ?_
    refine iE h fun hc h => y (udH tabOk rfl rfl hc.1 hc.2 rfl) rfl ?_
    exact q 2 [(18, tb (decide ((List.getD a0 (Int.toNat s5) 0) > 126)))] [0,5,6] rfl <| zn <| uab [0,5,6,18] rfl <| zt <| by exact uai (decide ((List.getD a0 (Int.toNat s5) 0) > 126)) () h rfl rfl
   intro o9 _ h
   rw [← hk8] at h
   try dsimp only at h
   exact za <| rI h rfl (fun hc h => zu <| p 1 [2] rfl <| zf <| zB <| zT <| zT <| zB <| zT <| by cases h; exact uav rfl (.tmp rfl) (fun _ _ g => g) (fun _ _ _ => List.nil_sublist _)) fun hc h => zk <| zi <| zt <| zr <| p 2 [0,5,6] rfl <| za <| uab [0,5,6] rfl <| by exact ubp (IntKind.wrap .i64 (s5 + 1)) () (Nat.lt_succ_self _) h rfl rfl
  exact zx <| ze <| ze <| zq <| zt <| uab [0] rfl <| by exact uai () () h rfl rfl
 refine zu <| q 3 [(0, ts a0), (22, tb (a0 != []))] [] rfl ?_
 obtain ⟨b3, e, h⟩ := uao h; rw [e]
 refine uaG (γ := Unit) 4 (fun _ => [(26, tb (b3 && (decide ((List.length a0 : Int) ≤ 32))))]) (fun _ => []) ?_ (fun _ => ?_)
 ·clear h
  cases b3
  ·exact p 4 [26] rfl <| za <| by exact uau () rfl rfl
  exact q 4 [(26, tb (decide ((List.length a0 : Int) ≤ 32)))] [] rfl <| uab [26] rfl <| za <| by exact uau () rfl rfl
 refine q 1 [(2, tb (b3 && (decide ((List.length a0 : Int) ≤ 32))))] [] rfl <| zf ?_
 cases h
 exact uav rfl (.tmp rfl) (fun _ _ g => g) (fun _ _ _ => List.nil_sublist _)

theorem ud7 (b0 : Nat) (mv0 : Value) (nm0 : List Int) (q0 : Value) (a0 : DiskS) (r : Int) (h : ucs a0 = some r) : Fn Tryz.prog 24 [ptr b0 0] [Res.var b0 54 DT (a0.1, mv0, a0.2.2.1, a0.2.2.2.1, a0.2.2.2.2.1, a0.2.2.2.2.2.1, a0.2.2.2.2.2.2, ()), Res.dat Tryz.prog dI mv0 a0.2.1 nm0 q0] (fun _ => ti r) (fun _ => [Res.var b0 54 DT (a0.1, mv0, a0.2.2.1, a0.2.2.2.1, a0.2.2.2.2.1, a0.2.2.2.2.2.1, a0.2.2.2.2.2.2, ()), Res.dat Tryz.prog dI mv0 a0.2.1 nm0 q0]) := by
 unfold ucs at h
 refine enter Tryz.func24 rfl 23 rfl rfl fun F => ?_
 refine zu <| p 1 [0] rfl <| zz <| p 1 [0,3] rfl <| za <| jK h (γ := Unit) (fun (o2 : Int) _ => [(3, ti o2)]) (fun (o2 : Int) _ => [Res.dat Tryz.prog dI mv0 a0.2.1 nm0 q0, Res.var b0 54 DT (a0.1, mv0, a0.2.2.1, a0.2.2.2.1, a0.2.2.2.2.1, a0.2.2.2.2.2.1, a0.2.2.2.2.2.2, ())]) (fun k1 h => ?_) fun o2 gg h => ?_
 ·refine zu <| p 3 [3,8] rfl <| yl 0 ((.snd (.fst .here))) ty52 rfl rfl rfl trivial rfl <| pk [1,0] rfl <| um5 kstr rfl Tryz.underlying52 rfl fun it3 hn4 => ?_
  refine za <| zb <| cB h fun rr hall h => uab [3,10] rfl <| ufS (step := ubA a0) (fun _ _ => True) (ufZ a0) hn4 trivial hall (γ := Unit) (fun (s6 : Int) _ => [(3, ti s6), (10, tp it3)]) (fun todo8 (s6 : Int) _ => [Res.diter Tryz.prog dI mv0 it3 a0.2.1 todo8 none (some (nm0, q0)), Res.var b0 54 DT (a0.1, mv0, a0.2.2.1, a0.2.2.2.1, a0.2.2.2.2.1, a0.2.2.2.2.2.1, a0.2.2.2.2.2.2, ())]) () rfl rfl fun todo8 s6 gg hend hone => ?_
  refine zu ?_
  refine uiV kstr rfl rfl (fun ht => ?_) (fun A9 k10 B11 q12 htk10 hk => ?_)
  ·obtain rfl := hend ht
   refine ula ?_
   refine p 1 [3,12] rfl <| za <| zs ?_
   refine r_if (b := false) rfl (fun hc => ?_) (fun hc => ?_)
   ·cases hc
   exact zx <| ze <| ze <| zq <| zt <| uab [3] rfl <| by exact uai s6 () h rfl rfl
  obtain ⟨sk10, hsk10⟩ := hone A9 k10 B11 htk10
  clear h
  have h := hsk10
  unfold ubA at h
  refine p 1 [3,10,12] rfl <| za <| zs ?_
  refine r_if (b := true) rfl (fun hc => ?_) (fun hc => ?_)
  ·refine zk <| zt <| zb <| zu <| y (uhT rfl 0 rfl) rfl ?_
   refine p 2 [3,5,10] rfl <| za <| cB h fun f14 hf14 h => ujh hf14 fun fb15 sv16 tv17 dv18 hq => ?_
   rw [hq]
   clear hq
   refine zr <| p 4 [10,15,18] rfl <| yl 0 ((.fst .here)) tx1 rfl rfl rfl trivial rfl <| y (uaZ tabOk 1 rfl rfl rfl) rfl ?_
   refine q 2 [(3, ti (IntKind.wrap .i64 (s6 + (List.length f14.1 : Int))))] [10] rfl ?_
   obtain ⟨n19, e, h⟩ := uao h; rw [e]
   refine zn <| zi <| zt <| uhU (P := Tryz.prog) (I := dI) hf14 ?_
   refine uay (R' := Res.diter Tryz.prog dI mv0 it3 a0.2.1 (A9 ++ B11) none (some (nm0, q0))) 0 rfl ugo <| uab [3,10] rfl ?_
   obtain rfl := Option.some.inj h
   exact uhe () htk10 hsk10 rfl rfl
  cases hc
 refine zu <| p 2 [2] rfl <| zf ?_
 cases h
 exact pk [1,0] rfl <| uav rfl (.tmp rfl) (fun _ _ g => g) (fun _ _ _ => (.cons_cons _ (.cons_cons _ .slnil)))

theorem ug7 (p0 : Value) (a0 : DiskS) (a1 : List Int) (a2 : Int) (a3 : List Int) (r : Int × DiskS) (h : uaV a0 a1 a2 a3 = some r) : Fn Tryz.prog 7 [tp p0, ts a1, ti a2, ts a3] [Res.disk Tryz.prog dI p0 a0] (fun _ => ti r.1) (fun _ => [Res.disk Tryz.prog dI p0 r.2]) := by
 unfold uaV at h
 refine enter Tryz.func7 rfl 144 rfl rfl fun F => ?_
 refine ucK fun b2 mv1 hp => ?_
 subst hp
 refine zu <| p 1 [0,1,2,3] rfl <| za <| zs <| zu <| p 3 [0,1,2,3,17] rfl <| yl 0 ((.snd (.snd (.snd (.snd (.snd (.fst .here))))))) ty4 rfl rfl rfl trivial rfl <| za <| rI h rfl (fun hc h => zu <| p 1 [8] rfl <| zf <| zT <| ua3 (P := Tryz.prog) (I := dI) (D := a0) <| by cases h; exact uav rfl (.tmp rfl) (fun _ _ g => g) (fun _ _ _ => (.cons_cons _ .slnil))) fun hc h => zy <| p 3 [0,1,2,3,22] rfl <| yl 0 ((.snd (.fst .here))) ty52 rfl rfl rfl trivial rfl <| p 1 [0,1,2,3,23,24] rfl <| pk [1,0] rfl ?_
 refine ulD kstr rfl rfl Tryz.underlying52 zNV rfl fun q3 => ?_
 refine q 5 [(9, tp q3), (10, tb (Option.isSome (pget .str a1 a0.2.1)))] [0,1,2,3] rfl ?_
 obtain ⟨there4, e, h⟩ := uao h; rw [e]
 refine zz <| p 1 [0,1,2,3,9,10,11] rfl <| za <| jK h (γ := Value) (fun (o6 : Int) g7 => [(0, ptr b2 0), (1, ts a1), (2, ti a2), (3, ts a3), (9, tp g7), (10, tb there4), (11, ti o6)]) (fun (o6 : Int) g7 => [Res.dat Tryz.prog dI mv1 a0.2.1 a1 g7, Res.var b2 54 DT (a0.1, mv1, a0.2.2.1, a0.2.2.2.1, a0.2.2.2.2.1, a0.2.2.2.2.2.1, a0.2.2.2.2.2.2, ())]) (fun k5 h => ?_) fun o6 g7 h => ?_
 ·refine zu <| p 1 [0,1,2,3,9,10,11,28] rfl <| za <| rI h rfl (fun hc h => ?_) fun hc h => ?_
  ·refine cB h fun f49 hf49 h => udd kstr hf49 fun fb50 sv51 tv52 dv53 hq => ?_
   rw [hq]
   clear hq
   refine zr <| p 3 [0,1,2,3,9,10,31] rfl <| yl 0 ((.fst .here)) tx1 rfl rfl rfl trivial rfl <| y (uaZ tabOk 1 rfl rfl rfl) rfl ?_
   refine q 1 [(11, ti (List.length f49.1 : Int))] [0,1,2,3,9,10] rfl ?_
   obtain ⟨size54, e, h⟩ := uao h; rw [e]
   refine za <| udm (P := Tryz.prog) (I := dI) kstr hf49 ?_
   exact uab [0,1,2,3,9,10,11] rfl <| by exact uai size54 (.pointer (some ⟨fb50, 0, none⟩)) h rfl rfl
  exact zk <| zt <| uab [0,1,2,3,9,10,11] rfl <| by exact uai 0 q3 h rfl rfl
 refine zs <| zb <| zu <| p 1 [0,1,2,3,9,10,11,35] rfl <| cB h fun r8 hr8 h => ubk (ui3 _ _ hr8) (by kernel_rfl) rfl rfl <| p 2 [0,1,2,3,9,10,11,38] rfl ?_
 obtain ⟨b9, e, h⟩ := uao h; rw [e]
 refine uaG (γ := Unit) 3 (fun _ => [(0, ptr b2 0), (1, ts a1), (2, ti a2), (3, ts a3), (9, tp g7), (10, tb there4), (11, ti o6), (41, tb (b9 || (decide (a2 < 0))))]) (fun _ => [Res.dat Tryz.prog dI mv1 a0.2.1 a1 g7, Res.var b2 54 DT (a0.1, mv1, a0.2.2.1, a0.2.2.2.1, a0.2.2.2.2.1, a0.2.2.2.2.2.1, a0.2.2.2.2.2.2, ())]) ?_ (fun _ => ?_)
 ·clear h
  cases b9
  ·exact p 3 [0,1,2,3,9,10,11,41] rfl <| za <| by exact uau () rfl rfl
  exact p 3 [0,1,2,3,9,10,11,41] rfl <| za <| by exact uau () rfl rfl
 refine p 1 [0,1,2,3,9,10,11,42] rfl ?_
 obtain ⟨b10, e, h⟩ := uao h; rw [e]
 refine uaG (γ := Unit) 4 (fun _ => [(0, ptr b2 0), (1, ts a1), (2, ti a2), (3, ts a3), (9, tp g7), (10, tb there4), (11, ti o6), (46, tb (b10 || (decide (a2 > o6))))]) (fun _ => [Res.dat Tryz.prog dI mv1 a0.2.1 a1 g7, Res.var b2 54 DT (a0.1, mv1, a0.2.2.1, a0.2.2.2.1, a0.2.2.2.2.1, a0.2.2.2.2.2.1, a0.2.2.2.2.2.2, ())]) ?_ (fun _ => ?_)
 ·clear h
  cases b10
  ·exact p 4 [0,1,2,3,9,10,11,46] rfl <| za <| by exact uau () rfl rfl
  exact p 4 [0,1,2,3,9,10,11,46] rfl <| za <| by exact uau () rfl rfl
 refine p 1 [0,1,2,3,9,10,11,34] rfl <| za <| rI h rfl (fun hc h => zu <| p 1 [8] rfl <| zf <| zB <| zT <| uay (R' := Res.dfiles Tryz.prog dI mv1 a0.2.1) 0 rfl uaY <| pk [1,0] rfl <| ua3 (P := Tryz.prog) (I := dI) (D := a0) <| by cases h; exact uav rfl (.tmp rfl) (fun _ _ g => g) (fun _ _ _ => (.cons_cons _ .slnil))) fun hc h => zu <| q 6 [(47, tb (decide ((IntKind.wrap .i64 (a2 + (List.length a3 : Int))) > 1048576)))] [0,1,2,3,9,10,11] rfl <| za <| rI h rfl (fun hc h => zu <| p 1 [8] rfl <| zf <| zB <| zT <| uay (R' := Res.dfiles Tryz.prog dI mv1 a0.2.1) 0 rfl uaY <| pk [1,0] rfl <| ua3 (P := Tryz.prog) (I := dI) (D := a0) <| by cases h; exact uav rfl (.tmp rfl) (fun _ _ g => g) (fun _ _ _ => (.cons_cons _ .slnil))) fun hc h => zu <| p 3 [0,1,2,3,9,10,11,56] rfl ?_
 obtain ⟨b11, e, h⟩ := uao h; rw [e]
 refine bX h fun k12 hk12 h => ?_
 refine ubh (γ := Unit) 7 (fun (o13 : Bool) _ => [(0, ptr b2 0), (1, ts a1), (2, ti a2), (3, ts a3), (9, tp g7), (10, tb there4), (11, ti o6), (63, tb o13)]) (fun _ _ => [Res.dat Tryz.prog dI mv1 a0.2.1 a1 g7, Res.var b2 54 DT (a0.1, mv1, a0.2.2.1, a0.2.2.2.1, a0.2.2.2.2.1, a0.2.2.2.2.2.1, a0.2.2.2.2.2.2, ())]) k12 r ?_ ?_
 ·rcases Bool.eq_false_or_eq_true b11 with hh | hh
  ·rw [hh] at h ⊢
   rw [if_pos rfl] at h
   refine p 3 [0,1,2,3,9,10,11,56,59] rfl <| uaI (by rfl) rfl ?_
   refine yl 1 ((.snd (.fst .here))) ty52 rfl rfl rfl trivial rfl <| uaI (by rfl) rfl ?_
   refine iE h fun hc h => y (upj kstr 0 rfl rfl Tryz.underlying52 hc) rfl ?_
   exact q 2 [(63, tb (decide ((List.length a0.2.1 : Int) ≥ 16)))] [0,1,2,3,9,10,11] rfl <| zn <| uab [0,1,2,3,9,10,11,63] rfl <| zt <| by exact uai (decide ((List.length a0.2.1 : Int) ≥ 16)) () h rfl rfl
  rw [hh] at h ⊢
  rw [if_neg (by decide)] at h
  exact p 7 [0,1,2,3,9,10,11,63] rfl <| zn <| uab [0,1,2,3,9,10,11,63] rfl <| zt <| by exact uai false () h rfl rfl
 intro o13 _ h
 rw [← hk12] at h
 try dsimp only at h
 refine p 1 [0,1,2,3,9,10,11,53] rfl <| za <| rI h rfl (fun hc h => zu <| p 1 [8] rfl <| zf <| zB <| zT <| uay (R' := Res.dfiles Tryz.prog dI mv1 a0.2.1) 0 rfl uaY <| pk [1,0] rfl <| ua3 (P := Tryz.prog) (I := dI) (D := a0) <| by cases h; exact uav rfl (.tmp rfl) (fun _ _ g => g) (fun _ _ _ => (.cons_cons _ .slnil))) fun hc h => zs <| r_any (by kernel_rfl) ?_
 refine uah (i := 0) (t := ptr b2 0) (uaa (uad (uaa uac))) rfl (by kernel_rfl) (by kernel_rfl) (by kernel_rfl) (uaf tabOk rfl) rfl ?_
 refine uah (i := 2) (t := ti a2) (uaa (uad (uaa uac))) rfl (by kernel_rfl) (by kernel_rfl) (by kernel_rfl) (uaf tabOk rfl) rfl ?_
 refine uah (i := 3) (t := ts a3) (uaa (uad (uaa uac))) rfl (by kernel_rfl) (by kernel_rfl) (by kernel_rfl) (uaf tabOk rfl) rfl ?_
 refine uah (i := 4) (t := ti (List.length a3 : Int)) (uaa (uad (uaa uac))) rfl (by kernel_rfl) (by kernel_rfl) (by kernel_rfl) (uaf tabOk rfl) rfl ?_
 refine uah (i := 5) (t := ti (IntKind.wrap .i64 (a2 + (List.length a3 : Int)))) (uaa (uad (uaa uac))) rfl (by kernel_rfl) (by kernel_rfl) (by kernel_rfl) (uaf tabOk rfl) rfl ?_
 refine uah (i := 6) (t := ti o6) (uaa (uad (uaa uac))) rfl (by kernel_rfl) (by kernel_rfl) (by kernel_rfl) (uaf tabOk rfl) rfl ?_
 refine uah (i := 7) (t := ti (IntKind.wrap .i64 ((IntKind.wrap .i64 (a2 + (List.length a3 : Int))) - o6))) (uaa (uad (uaa uac))) rfl (by kernel_rfl) (by kernel_rfl) (by kernel_rfl) (uaf tabOk rfl) rfl ?_
 refine uah (i := 8) (t := ti (max 0 (IntKind.wrap .i64 ((IntKind.wrap .i64 (a2 + (List.length a3 : Int))) - o6)))) (uaa (uad (uaa uac))) rfl (by kernel_rfl) (by kernel_rfl) (by kernel_rfl) (y_max rfl rfl) rfl ?_
 refine uah (i := 10) (t := ptr b2 0) (uaa (uad (uaa uac))) rfl (by kernel_rfl) (by kernel_rfl) (by kernel_rfl) (uaf tabOk rfl) rfl ?_
 refine a_two (i := 1) (j := 11) (by kernel_rfl) rfl rfl ?_ ?_
 ·refine pk [1,0] rfl <| cB h fun r14 hr14 h => ucI (Lo := []) (ud7 b2 mv1 a1 g7 a0 _ hr14) (by kernel_rfl) (List.Perm.refl _) rfl rfl fun _ => ?_
  refine za <| uab [0,1,2,3,9,10,11,66,73,75] rfl <| uah (i := 9) (t := ti (IntKind.wrap .i64 (r14 + (max 0 (IntKind.wrap .i64 ((IntKind.wrap .i64 (a2 + (List.length a3 : Int))) - o6)))))) (uaa (uad (uaa uac))) rfl (by kernel_rfl) (by kernel_rfl) (by kernel_rfl) (uaf tabOk rfl) rfl ?_
  refine a_one (i := 11) (by kernel_rfl) rfl ?_
  refine q 1 [(74, ti (IntKind.wrap .i64 (r14 + (max 0 (IntKind.wrap .i64 ((IntKind.wrap .i64 (a2 + (List.length a3 : Int))) - o6)))))), (76, ptr b2 0)] [0,1,2,3,9,10,11] rfl <| za <| uab [0,1,2,3,9,10,11,74,76] rfl <| uah (i := 12) (t := ptr b2 0) (uaa (uad (uaa uac))) rfl (by kernel_rfl) (by kernel_rfl) (by kernel_rfl) (uaf tabOk rfl) rfl ?_
  refine a_one (i := 13) (by kernel_rfl) rfl ?_
  refine yl 0 ((.fst .here)) ty3 rfl rfl rfl trivial rfl <| za <| uab [0,1,2,3,9,10,11,74,78] rfl <| uah (i := 14) (t := tb (decide ((IntKind.wrap .i64 (r14 + (max 0 (IntKind.wrap .i64 ((IntKind.wrap .i64 (a2 + (List.length a3 : Int))) - o6))))) > a0.1))) (uaa (uad (uaa uac))) rfl (by kernel_rfl) (by kernel_rfl) (by kernel_rfl) (uaf tabOk rfl) rfl ?_
  refine uah (i := 15) (t := tb (decide ((IntKind.wrap .i64 (r14 + (max 0 (IntKind.wrap .i64 ((IntKind.wrap .i64 (a2 + (List.length a3 : Int))) - o6))))) > a0.1))) (uaa (uad (uaa uac))) rfl (by kernel_rfl) (by kernel_rfl) (by kernel_rfl) (uaf tabOk rfl) rfl ?_
  refine a_end (by kernel_rfl) ?_
  refine zt <| rI h rfl (fun hc h => zu <| p 1 [8] rfl <| zf <| zB <| zT <| uay (R' := Res.dfiles Tryz.prog dI mv1 a0.2.1) 1 rfl uaY <| ua3 (P := Tryz.prog) (I := dI) (D := a0) <| by cases h; exact uav rfl (.tmp rfl) (fun _ _ g => g) (fun _ _ _ => (.cons_cons _ .slnil))) fun hc h => zk <| zi <| zt <| zs <| zu <| p 1 [0,1,2,3,9,10,11,80] rfl <| cB h fun r15 hr15 h => ucI (Lo := [Res.dat Tryz.prog dI mv1 a0.2.1 a1 g7]) (uc1 b2 mv1 a0 1 _ hr15) (by kernel_rfl) (List.Perm.refl _) rfl rfl fun _ => ?_
  refine q 1 [(12, ti r15.1)] [0,1,2,3,9,10,11] rfl <| zz <| q 2 [(83, tb (r15.1 != 0))] [0,1,2,3,9,10,11,12] rfl <| za <| rI h rfl (fun hc h => zu <| q 2 [(8, ti r15.1)] [] rfl <| zf <| zT <| uay (R' := Res.dfiles Tryz.prog dI mv1 a0.2.1) 1 rfl uaY <| ua3 (P := Tryz.prog) (I := dI) (D := (r15.2.1, a0.2.1, r15.2.2.2.1, r15.2.2.2.2.1, r15.2.2.2.2.2.1, r15.2.2.2.2.2.2.1, r15.2.2.2.2.2.2.2)) <| by cases h; exact uav rfl (.tmp rfl) (fun _ _ g => g) (fun _ _ _ => (.cons_cons _ .slnil))) fun hc h => zk <| zt <| jK h (γ := Value) (fun (o17 : (List (List Int × FileS))) g18 => [(2, ti a2), (3, ts a3), (9, tp g18), (11, ti o6)]) (fun (o17 : (List (List Int × FileS))) g18 => [Res.dat Tryz.prog dI mv1 o17 a1 g18, Res.var b2 54 DT (r15.2.1, mv1, r15.2.2.2.1, r15.2.2.2.2.1, r15.2.2.2.2.2.1, r15.2.2.2.2.2.2.1, r15.2.2.2.2.2.2.2, ())]) (fun k16 h => ?_) fun o17 g18 h => ?_
  ·refine zu <| p 2 [0,1,2,3,9,11,86] rfl <| za <| rI h rfl (fun hc h => ?_) fun hc h => ?_
   ·refine zu <| ue7 3 (.int .i64) (.int .i64) rfl fun v47 => ?_
    refine uc3 (P := Tryz.prog) (I := dI) (keys := []) 0 rfl rfl ?_
    refine y (udN rfl zf60 rfl rfl (.cons ((.snd (.snd (.fst .here)))) rfl rfl (uaw (uaw (uaC uam))) .nil)) rfl ?_
    refine r_box rfl rfl fun b48 => ua1 (.slice none 0 0) rfl 5 (.int .u8) ?_
    refine ua1 (.slice none 0 0) rfl 5 (.int .u8) ?_
    refine p 1 [0,1,2,3,9,11] rfl <| za <| zr <| p 3 [1,2,3,9,11,92] rfl <| yl 4 ((.snd (.fst .here))) ty52 rfl rfl rfl trivial rfl <| p 2 [2,3,9,11,93,94,95] rfl <| uay (R' := Res.dfiles Tryz.prog dI mv1 a0.2.1) 5 rfl uaY <| iE h fun hc h => pk [2,0,0,0,1,0] rfl <| ugQ (P := Tryz.prog) (I := dI) kstr rfl rfl rfl Tryz.underlying52 hc ?_
    exact za <| uab [2,3,9,11] rfl <| by exact uai (pput .str a1 ([], [], []) a0.2.1) (.pointer (some ⟨b48, 0, none⟩)) h rfl rfl
   exact zk <| zt <| uab [2,3,9,11] rfl <| pk [1,0] rfl <| by exact uai a0.2.1 g7 h rfl rfl
  refine jK h (γ := Value) (fun (o20 : (List (List Int × FileS))) g21 => [(2, ti a2), (3, ts a3), (9, tp g21)]) (fun (o20 : (List (List Int × FileS))) g21 => [Res.dat Tryz.prog dI mv1 o20 a1 g21, Res.var b2 54 DT (r15.2.1, mv1, r15.2.2.2.1, r15.2.2.2.2.1, r15.2.2.2.2.2.1, r15.2.2.2.2.2.2.1, r15.2.2.2.2.2.2.2, ())]) (fun k19 h => ?_) fun o20 g21 h => ?_
  ·refine zu <| q 5 [(2, ti a2), (3, ts a3), (9, tp g18), (11, ti o6), (13, ti (IntKind.wrap .i64 (a2 + (List.length a3 : Int))))] [] rfl ?_
   obtain ⟨end40, e, h⟩ := uao h; rw [e]
   refine zz <| p 3 [2,3,9,11,13,102] rfl <| za <| rI h rfl (fun hc h => ?_) fun hc h => ?_
   ·refine cB h fun f41 hf41 h => udd kstr hf41 fun fb42 sv43 tv44 dv45 hq => ?_
    rw [hq]
    clear hq
    refine zr <| p 4 [2,3,9,11,13,103,106] rfl <| yl 0 ((.fst .here)) tx1 rfl rfl rfl trivial rfl <| p 3 [2,3,9,103,107,110] rfl <| iE h fun hc h => ugR tabOk zf5 1 rfl rfl rfl hc.1 rfl el5 Tryz.underlying3 hc.2 rfl fun v46 => ?_
    refine p 2 [2,3,9,111,113] rfl <| st 0 ((.fst .here)) tx1 rfl rfl rfl rfl trivial <| za <| ucO (P := Tryz.prog) (I := dI) kstr ?_
    exact uab [2,3,9] rfl <| by exact uai (pset .str a1 ((f41.1 ++ List.replicate (Int.toNat (IntKind.wrap .i64 (end40 - o6))) 0), f41.2.1, f41.2.2) o17) (.pointer (some ⟨fb42, 0, none⟩)) h rfl rfl
   exact zk <| zt <| uab [2,3,9] rfl <| by exact uai o17 g18 h rfl rfl
  refine zs <| cB h fun f22 hf22 h => udd kstr hf22 fun fb23 sv24 tv25 dv26 hq => ?_
  rw [hq]
  clear hq
  refine zr <| p 3 [2,3,9,116] rfl <| yl 0 ((.fst .here)) tx1 rfl rfl rfl trivial rfl <| p 1 [2,3,9,117,118] rfl ?_
  obtain ⟨hs27, h⟩ := ubo h
  refine y (udv tabOk (i := a2) (j := (List.length f22.1 : Int)) rfl (ubX 1 rfl) rfl rfl hs27.1 hs27.2.1 hs27.2.2 rfl ty5) rfl ?_
  refine q 1 [(119, .one (.raw (.slice none 0 0)) (subv (T.size (.int .u8)) sv24 (Int.toNat a2) (Int.toNat (List.length f22.1 : Int)))), (120, ts a3)] [2,3,9] rfl <| uiT tabOk 1 (i := (Int.toNat a2)) rfl rfl rfl (by have := hs27.2.1; omega) rfl ty5 rfl fun m28 => ?_
  refine za <| jK h (γ := Unit) (fun (o30 : List Int) _ => []) (fun (o30 : List Int) _ => [Res.var fb23 60 FT (sv24, tv25, dv26, ()), Res.own sv24 5 (.int .u8) (uaL f22.1 (Int.toNat a2) a3), Res.own tv25 5 (.int .u8) f22.2.1, Res.dirty Tryz.prog dI dv26 o30, Res.dhole Tryz.prog dI mv1 o20 a1 (.pointer (some ⟨fb23, 0, none⟩)), Res.var b2 54 DT (r15.2.1, mv1, r15.2.2.2.1, r15.2.2.2.2.1, r15.2.2.2.2.2.1, r15.2.2.2.2.2.2.1, r15.2.2.2.2.2.2.2, ())]) (fun k29 h => ?_) fun o30 gg h => ?_
  ·refine zu <| p 3 [2,3,9,14] rfl ?_
   obtain ⟨s31, e, h⟩ := uao h; rw [e]
   refine za <| zb <| uab [2,3,9,14] rfl <| ubv (γ := Unit) (fun (s34 : Int × List Int) _ => [(2, ti a2), (3, ts a3), (9, ptr fb23 0), (14, ti s34.1)]) (fun (s34 : Int × List Int) _ => [Res.var fb23 60 FT (sv24, tv25, dv26, ()), Res.own sv24 5 (.int .u8) (uaL f22.1 (Int.toNat a2) a3), Res.own tv25 5 (.int .u8) f22.2.1, Res.dirty Tryz.prog dI dv26 s34.2, Res.dhole Tryz.prog dI mv1 o20 a1 (.pointer (some ⟨fb23, 0, none⟩)), Res.var b2 54 DT (r15.2.1, mv1, r15.2.2.2.1, r15.2.2.2.2.1, r15.2.2.2.2.2.1, r15.2.2.2.2.2.2.1, r15.2.2.2.2.2.2.2, ())]) (ua4 a2 a3 k29) (s31, f22.2.2) () h rfl rfl ?_
   clear h
   intro m35 s34 gg h
   cases m35 with
   | zero => cases h
   | succ m35 =>
   simp only [ua4] at h
   refine zs <| zu <| q 7 [(14, ti s34.1), (130, tb (decide ((IntKind.wrap .i64 (s34.1 * 64)) < (IntKind.wrap .i64 (a2 + (List.length a3 : Int))))))] [2,3,9] rfl ?_
   obtain ⟨t36, e, h⟩ := uao h; rw [e]
   refine p 1 [2,3,9,14,131] rfl ?_
   refine uaG (γ := Unit) 3 (fun _ => [(2, ti a2), (3, ts a3), (9, ptr fb23 0), (14, ti s34.1), (134, tb (t36 && (a3 != [])))]) (fun _ => [Res.var fb23 60 FT (sv24, tv25, dv26, ()), Res.own sv24 5 (.int .u8) (uaL f22.1 (Int.toNat a2) a3), Res.own tv25 5 (.int .u8) f22.2.1, Res.dirty Tryz.prog dI dv26 s34.2, Res.dhole Tryz.prog dI mv1 o20 a1 (.pointer (some ⟨fb23, 0, none⟩)), Res.var b2 54 DT (r15.2.1, mv1, r15.2.2.2.1, r15.2.2.2.2.1, r15.2.2.2.2.2.1, r15.2.2.2.2.2.2.1, r15.2.2.2.2.2.2.2, ())]) ?_ (fun _ => ?_)
   ·clear h
    rcases Bool.eq_false_or_eq_true t36 with hh | hh
    ·rw [hh]
     exact q 3 [(134, tb (a3 != []))] [2,3,9,14] rfl <| uab [2,3,9,14,134] rfl <| za <| by exact uau () rfl rfl
    rw [hh]
    exact p 3 [2,3,9,14,134] rfl <| za <| by exact uau () rfl rfl
   refine za <| rI h rfl (fun hc h => ?_) fun hc h => ?_
   ·refine zk <| zt <| zs <| zb <| zr <| p 3 [2,3,9,14,139] rfl <| yl 0 ((.snd (.snd (.fst .here)))) ty58 rfl rfl rfl trivial rfl <| q 1 [(140, .one (.raw (.map none)) dv26), (141, ti s34.1)] [2,3,9,14] rfl <| uet 3 rfl fun l38 hl38 => ?_
    refine y (uj8 3 rfl rfl rfl kint Tryz.underlying58 zf3 rfl) rfl ?_
    refine q 1 [(143, ti (IntKind.wrap .i64 (((pget (.int .i64) s34.1 l38).getD 0) + 1)))] [2,3,9,14,140,141] rfl <| iE h fun hc h => uea 3 rfl rfl rfl rfl kint Tryz.underlying58 (by rw [← hl38, List.length_map] at hc; exact hc) ?_
    refine uc3 (P := Tryz.prog) (I := dI) (keys := kput s34.1 s34.2) 3 rfl (by rw [ugS, hl38]) ?_
    refine zn <| zi <| zt <| zr <| q 3 [(14, ti (IntKind.wrap .i64 (s34.1 + 1)))] [2,3,9] rfl ?_
    obtain ⟨s39, e, h⟩ := uao h; rw [e]
    exact za <| uab [2,3,9,14] rfl <| by exact ubp (s39, (kput s34.1 s34.2)) () (Nat.lt_succ_self _) h rfl rfl
   exact zx <| ze <| ze <| zq <| zt <| uab [] rfl <| by exact uai s34.2 () h rfl rfl
  refine zu <| p 1 [8] rfl <| zf <| ucO (P := Tryz.prog) (I := dI) kstr ?_
  refine uay (R' := Res.dfiles Tryz.prog dI mv1 (pset .str a1 ((uaL f22.1 (Int.toNat a2) a3), f22.2.1, o30) o20)) 0 rfl uaY <| pk [1,0] rfl <| ua3 (P := Tryz.prog) (I := dI) (D := (r15.2.1, (pset .str a1 ((uaL f22.1 (Int.toNat a2) a3), f22.2.1, o30) o20), r15.2.2.2.1, r15.2.2.2.2.1, r15.2.2.2.2.2.1, r15.2.2.2.2.2.2.1, r15.2.2.2.2.2.2.2)) ?_
  cases h
  exact uav rfl (.tmp rfl) (fun _ _ g => g) (fun _ _ _ => (.cons_cons _ .slnil))
 refine q 1 [(65, ptr b2 0), (73, ti (max 0 (IntKind.wrap .i64 ((IntKind.wrap .i64 (a2 + (List.length a3 : Int))) - o6)))), (76, ptr b2 0)] [0,1,2,3,9,10,11] rfl <| za <| uab [0,1,2,3,9,10,11,65,73,76] rfl <| uah (i := 12) (t := ptr b2 0) (uaa (uad (uaa uac))) rfl (by kernel_rfl) (by kernel_rfl) (by kernel_rfl) (uaf tabOk rfl) rfl ?_
 refine a_two (i := 1) (j := 13) (by kernel_rfl) rfl rfl ?_ ?_
 ·refine pk [1,0] rfl <| cB h fun r14 hr14 h => ucI (Lo := []) (ud7 b2 mv1 a1 g7 a0 _ hr14) (by kernel_rfl) (List.Perm.refl _) rfl rfl fun _ => ?_
  refine za <| uab [0,1,2,3,9,10,11,66,73,77] rfl <| uah (i := 9) (t := ti (IntKind.wrap .i64 (r14 + (max 0 (IntKind.wrap .i64 ((IntKind.wrap .i64 (a2 + (List.length a3 : Int))) - o6)))))) (uaa (uad (uaa uac))) rfl (by kernel_rfl) (by kernel_rfl) (by kernel_rfl) (uaf tabOk rfl) rfl ?_
  refine a_one (i := 13) (by kernel_rfl) rfl ?_
  refine yl 0 ((.fst .here)) ty3 rfl rfl rfl trivial rfl <| za <| uab [0,1,2,3,9,10,11,74,78] rfl <| uah (i := 14) (t := tb (decide ((IntKind.wrap .i64 (r14 + (max 0 (IntKind.wrap .i64 ((IntKind.wrap .i64 (a2 + (List.length a3 : Int))) - o6))))) > a0.1))) (uaa (uad (uaa uac))) rfl (by kernel_rfl) (by kernel_rfl) (by kernel_rfl) (uaf tabOk rfl) rfl ?_
  refine uah (i := 15) (t := tb (decide ((IntKind.wrap .i64 (r14 + (max 0 (IntKind.wrap .i64 ((IntKind.wrap .i64 (a2 + (List.length a3 : Int))) - o6))))) > a0.1))) (uaa (uad (uaa uac))) rfl (by kernel_rfl) (by kernel_rfl) (by kernel_rfl) (uaf tabOk rfl) rfl ?_
  refine a_end (by kernel_rfl) ?_
  refine zt <| rI h rfl (fun hc h => zu <| p 1 [8] rfl <| zf <| zB <| zT <| uay (R' := Res.dfiles Tryz.prog dI mv1 a0.2.1) 1 rfl uaY <| ua3 (P := Tryz.prog) (I := dI) (D := a0) <| by cases h; exact uav rfl (.tmp rfl) (fun _ _ g => g) (fun _ _ _ => (.cons_cons _ .slnil))) fun hc h => zk <| zi <| zt <| zs <| zu <| p 1 [0,1,2,3,9,10,11,80] rfl <| cB h fun r15 hr15 h => ucI (Lo := [Res.dat Tryz.prog dI mv1 a0.2.1 a1 g7]) (uc1 b2 mv1 a0 1 _ hr15) (by kernel_rfl) (List.Perm.refl _) rfl rfl fun _ => ?_
  refine q 1 [(12, ti r15.1)] [0,1,2,3,9,10,11] rfl <| zz <| q 2 [(83, tb (r15.1 != 0))] [0,1,2,3,9,10,11,12] rfl <| za <| rI h rfl (fun hc h => zu <| q 2 [(8, ti r15.1)] [] rfl <| zf <| zT <| uay (R' := Res.dfiles Tryz.prog dI mv1 a0.2.1) 1 rfl uaY <| ua3 (P := Tryz.prog) (I := dI) (D := (r15.2.1, a0.2.1, r15.2.2.2.1, r15.2.2.2.2.1, r15.2.2.2.2.2.1, r15.2.2.2.2.2.2.1, r15.2.2.2.2.2.2.2)) <| by cases h; exact uav rfl (.tmp rfl) (fun _ _ g => g) (fun _ _ _ => (.cons_cons _ .slnil))) fun hc h => zk <| zt <| jK h (γ := Value) (fun (o17 : (List (List Int × FileS))) g18 => [(2, ti a2), (3, ts a3), (9, tp g18), (11, ti o6)]) (fun (o17 : (List (List Int × FileS))) g18 => [Res.dat Tryz.prog dI mv1 o17 a1 g18, Res.var b2 54 DT (r15.2.1, mv1, r15.2.2.2.1, r15.2.2.2.2.1, r15.2.2.2.2.2.1, r15.2.2.2.2.2.2.1, r15.2.2.2.2.2.2.2, ())]) (fun k16 h => ?_) fun o17 g18 h => ?_
  ·refine zu <| p 2 [0,1,2,3,9,11,86] rfl <| za <| rI h rfl (fun hc h => ?_) fun hc h => ?_
   ·refine zu <| ue7 3 (.int .i64) (.int .i64) rfl fun v47 => ?_
    refine uc3 (P := Tryz.prog) (I := dI) (keys := []) 0 rfl rfl ?_
    refine y (udN rfl zf60 rfl rfl (.cons ((.snd (.snd (.fst .here)))) rfl rfl (uaw (uaw (uaC uam))) .nil)) rfl ?_
    refine r_box rfl rfl fun b48 => ua1 (.slice none 0 0) rfl 5 (.int .u8) ?_
    refine ua1 (.slice none 0 0) rfl 5 (.int .u8) ?_
    refine p 1 [0,1,2,3,9,11] rfl <| za <| zr <| p 3 [1,2,3,9,11,92] rfl <| yl 4 ((.snd (.fst .here))) ty52 rfl rfl rfl trivial rfl <| p 2 [2,3,9,11,93,94,95] rfl <| uay (R' := Res.dfiles Tryz.prog dI mv1 a0.2.1) 5 rfl uaY <| iE h fun hc h => pk [2,0,0,0,1,0] rfl <| ugQ (P := Tryz.prog) (I := dI) kstr rfl rfl rfl Tryz.underlying52 hc ?_
    exact za <| uab [2,3,9,11] rfl <| by exact uai (pput .str a1 ([], [], []) a0.2.1) (.pointer (some ⟨b48, 0, none⟩)) h rfl rfl
   exact zk <| zt <| uab [2,3,9,11] rfl <| pk [1,0] rfl <| by exact uai a0.2.1 g7 h rfl rfl
  refine jK h (γ := Value) (fun (o20 : (List (List Int × FileS))) g21 => [(2, ti a2), (3, ts a3), (9, tp g21)]) (fun (o20 : (List (List Int × FileS))) g21 => [Res.dat Tryz.prog dI mv1 o20 a1 g21, Res.var b2 54 DT (r15.2.1, mv1, r15.2.2.2.1, r15.2.2.2.2.1, r15.2.2.2.2.2.1, r15.2.2.2.2.2.2.1, r15.2.2.2.2.2.2.2, ())]) (fun k19 h => ?_) fun o20 g21 h => ?_
  ·refine zu <| q 5 [(2, ti a2), (3, ts a3), (9, tp g18), (11, ti o6), (13, ti (IntKind.wrap .i64 (a2 + (List.length a3 : Int))))] [] rfl ?_
   obtain ⟨end40, e, h⟩ := uao h; rw [e]
   refine zz <| p 3 [2,3,9,11,13,102] rfl <| za <| rI h rfl (fun hc h => ?_) fun hc h => ?_
   ·refine cB h fun f41 hf41 h => udd kstr hf41 fun fb42 sv43 tv44 dv45 hq => ?_
    rw [hq]
    clear hq
    refine zr <| p 4 [2,3,9,11,13,103,106] rfl <| yl 0 ((.fst .here)) tx1 rfl rfl rfl trivial rfl <| p 3 [2,3,9,103,107,110] rfl <| iE h fun hc h => ugR tabOk zf5 1 rfl rfl rfl hc.1 rfl el5 Tryz.underlying3 hc.2 rfl fun v46 => ?_
    refine p 2 [2,3,9,111,113] rfl <| st 0 ((.fst .here)) tx1 rfl rfl rfl rfl trivial <| za <| ucO (P := Tryz.prog) (I := dI) kstr ?_
    exact uab [2,3,9] rfl <| by exact uai (pset .str a1 ((f41.1 ++ List.replicate (Int.toNat (IntKind.wrap .i64 (end40 - o6))) 0), f41.2.1, f41.2.2) o17) (.pointer (some ⟨fb42, 0, none⟩)) h rfl rfl
   exact zk <| zt <| uab [2,3,9] rfl <| by exact uai o17 g18 h rfl rfl
  refine zs <| cB h fun f22 hf22 h => udd kstr hf22 fun fb23 sv24 tv25 dv26 hq => ?_
  rw [hq]
  clear hq
  refine zr <| p 3 [2,3,9,116] rfl <| yl 0 ((.fst .here)) tx1 rfl rfl rfl trivial rfl <| p 1 [2,3,9,117,118] rfl ?_
  obtain ⟨hs27, h⟩ := ubo h
  refine y (udv tabOk (i := a2) (j := (List.length f22.1 : Int)) rfl (ubX 1 rfl) rfl rfl hs27.1 hs27.2.1 hs27.2.2 rfl ty5) rfl ?_
  refine q 1 [(119, .one (.raw (.slice none 0 0)) (subv (T.size (.int .u8)) sv24 (Int.toNat a2) (Int.toNat (List.length f22.1 : Int)))), (120, ts a3)] [2,3,9] rfl <| uiT tabOk 1 (i := (Int.toNat a2)) rfl rfl rfl (by have := hs27.2.1; omega) rfl ty5 rfl fun m28 => ?_
  refine za <| jK h (γ := Unit) (fun (o30 : List Int) _ => []) (fun (o30 : List Int) _ => [Res.var fb23 60 FT (sv24, tv25, dv26, ()), Res.own sv24 5 (.int .u8) (uaL f22.1 (Int.toNat a2) a3), Res.own tv25 5 (.int .u8) f22.2.1, Res.dirty Tryz.prog dI dv26 o30, Res.dhole Tryz.prog dI mv1 o20 a1 (.pointer (some ⟨fb23, 0, none⟩)), Res.var b2 54 DT (r15.2.1, mv1, r15.2.2.2.1, r15.2.2.2.2.1, r15.2.2.2.2.2.1, r15.2.2.2.2.2.2.1, r15.2.2.2.2.2.2.2, ())]) (fun k29 h => ?_) fun o30 gg h => ?_
  ·refine zu <| p 3 [2,3,9,14] rfl ?_
   obtain ⟨s31, e, h⟩ := uao h; rw [e]
   refine za <| zb <| uab [2,3,9,14] rfl <| ubv (γ := Unit) (fun (s34 : Int × List Int) _ => [(2, ti a2), (3, ts a3), (9, ptr fb23 0), (14, ti s34.1)]) (fun (s34 : Int × List Int) _ => [Res.var fb23 60 FT (sv24, tv25, dv26, ()), Res.own sv24 5 (.int .u8) (uaL f22.1 (Int.toNat a2) a3), Res.own tv25 5 (.int .u8) f22.2.1, Res.dirty Tryz.prog dI dv26 s34.2, Res.dhole Tryz.prog dI mv1 o20 a1 (.pointer (some ⟨fb23, 0, none⟩)), Res.var b2 54 DT (r15.2.1, mv1, r15.2.2.2.1, r15.2.2.2.2.1, r15.2.2.2.2.2.1, r15.2.2.2.2.2.2.1, r15.2.2.2.2.2.2.2, ())]) (ua4 a2 a3 k29) (s31, f22.2.2) () h rfl rfl ?_
   clear h
   intro m35 s34 gg h
   cases m35 with
   | zero => cases h
   | succ m35 =>
   simp only [ua4] at h
   refine zs <| zu <| q 7 [(14, ti s34.1), (130, tb (decide ((IntKind.wrap .i64 (s34.1 * 64)) < (IntKind.wrap .i64 (a2 + (List.length a3 : Int))))))] [2,3,9] rfl ?_
   obtain ⟨t36, e, h⟩ := uao h; rw [e]
   refine p 1 [2,3,9,14,131] rfl ?_
   refine uaG (γ := Unit) 3 (fun _ => [(2, ti a2), (3, ts a3), (9, ptr fb23 0), (14, ti s34.1), (134, tb (t36 && (a3 != [])))]) (fun _ => [Res.var fb23 60 FT (sv24, tv25, dv26, ()), Res.own sv24 5 (.int .u8) (uaL f22.1 (Int.toNat a2) a3), Res.own tv25 5 (.int .u8) f22.2.1, Res.dirty Tryz.prog dI dv26 s34.2, Res.dhole Tryz.prog dI mv1 o20 a1 (.pointer (some ⟨fb23, 0, none⟩)), Res.var b2 54 DT (r15.2.1, mv1, r15.2.2.2.1, r15.2.2.2.2.1, r15.2.2.2.2.2.1, r15.2.2.2.2.2.2.1, r15.2.2.2.2.2.2.2, ())]) ?_ (fun _ => ?_)
   ·clear h
    rcases Bool.eq_false_or_eq_true t36 with hh | hh
    ·rw [hh]
     exact q 3 [(134, tb (a3 != []))] [2,3,9,14] rfl <| uab [2,3,9,14,134] rfl <| za <| by exact uau () rfl rfl
    rw [hh]
    exact p 3 [2,3,9,14,134] rfl <| za <| by exact uau () rfl rfl
   refine za <| rI h rfl (fun hc h => ?_) fun hc h => ?_
   ·refine zk <| zt <| zs <| zb <| zr <| p 3 [2,3,9,14,139] rfl <| yl 0 ((.snd (.snd (.fst .here)))) ty58 rfl rfl rfl trivial rfl <| q 1 [(140, .one (.raw (.map none)) dv26), (141, ti s34.1)] [2,3,9,14] rfl <| uet 3 rfl fun l38 hl38 => ?_
    refine y (uj8 3 rfl rfl rfl kint Tryz.underlying58 zf3 rfl) rfl ?_
    refine q 1 [(143, ti (IntKind.wrap .i64 (((pget (.int .i64) s34.1 l38).getD 0) + 1)))] [2,3,9,14,140,141] rfl <| iE h fun hc h => uea 3 rfl rfl rfl rfl kint Tryz.underlying58 (by rw [← hl38, List.length_map] at hc; exact hc) ?_
    refine uc3 (P := Tryz.prog) (I := dI) (keys := kput s34.1 s34.2) 3 rfl (by rw [ugS, hl38]) ?_
    refine zn <| zi <| zt <| zr <| q 3 [(14, ti (IntKind.wrap .i64 (s34.1 + 1)))] [2,3,9] rfl ?_
    obtain ⟨s39, e, h⟩ := uao h; rw [e]
    exact za <| uab [2,3,9,14] rfl <| by exact ubp (s39, (kput s34.1 s34.2)) () (Nat.lt_succ_self _) h rfl rfl
   exact zx <| ze <| ze <| zq <| zt <| uab [] rfl <| by exact uai s34.2 () h rfl rfl
  refine zu <| p 1 [8] rfl <| zf <| ucO (P := Tryz.prog) (I := dI) kstr ?_
  refine uay (R' := Res.dfiles Tryz.prog dI mv1 (pset .str a1 ((uaL f22.1 (Int.toNat a2) a3), f22.2.1, o30) o20)) 0 rfl uaY <| pk [1,0] rfl <| ua3 (P := Tryz.prog) (I := dI) (D := (r15.2.1, (pset .str a1 ((uaL f22.1 (Int.toNat a2) a3), f22.2.1, o30) o20), r15.2.2.2.1, r15.2.2.2.2.1, r15.2.2.2.2.2.1, r15.2.2.2.2.2.2.1, r15.2.2.2.2.2.2.2)) ?_
  cases h
  exact uav rfl (.tmp rfl) (fun _ _ g => g) (fun _ _ _ => (.cons_cons _ .slnil))
 refine yl 1 ((.fst .here)) ty3 rfl rfl rfl trivial rfl <| za <| uab [0,1,2,3,9,10,11,65,73,78] rfl <| a_one (i := 1) (by kernel_rfl) rfl ?_
 refine pk [1,0] rfl <| cB h fun r14 hr14 h => ucI (Lo := []) (ud7 b2 mv1 a1 g7 a0 _ hr14) (by kernel_rfl) (List.Perm.refl _) rfl rfl fun _ => ?_
 refine za <| uab [0,1,2,3,9,10,11,66,73,78] rfl <| uah (i := 9) (t := ti (IntKind.wrap .i64 (r14 + (max 0 (IntKind.wrap .i64 ((IntKind.wrap .i64 (a2 + (List.length a3 : Int))) - o6)))))) (uaa (uad (uaa uac))) rfl (by kernel_rfl) (by kernel_rfl) (by kernel_rfl) (uaf tabOk rfl) rfl ?_
 refine uah (i := 14) (t := tb (decide ((IntKind.wrap .i64 (r14 + (max 0 (IntKind.wrap .i64 ((IntKind.wrap .i64 (a2 + (List.length a3 : Int))) - o6))))) > a0.1))) (uaa (uad (uaa uac))) rfl (by kernel_rfl) (by kernel_rfl) (by kernel_rfl) (uaf tabOk rfl) rfl ?_
 refine uah (i := 15) (t := tb (decide ((IntKind.wrap .i64 (r14 + (max 0 (IntKind.wrap .i64 ((IntKind.wrap .i64 (a2 + (List.length a3 : Int))) - o6))))) > a0.1))) (uaa (uad (uaa uac))) rfl (by kernel_rfl) (by kernel_rfl) (by kernel_rfl) (uaf tabOk rfl) rfl ?_
 refine a_end (by kernel_rfl) ?_
 refine zt <| rI h rfl (fun hc h => zu <| p 1 [8] rfl <| zf <| zB <| zT <| uay (R' := Res.dfiles Tryz.prog dI mv1 a0.2.1) 1 rfl uaY <| ua3 (P := Tryz.prog) (I := dI) (D := a0) <| by cases h; exact uav rfl (.tmp rfl) (fun _ _ g => g) (fun _ _ _ => (.cons_cons _ .slnil))) fun hc h => zk <| zi <| zt <| zs <| zu <| p 1 [0,1,2,3,9,10,11,80] rfl <| cB h fun r15 hr15 h => ucI (Lo := [Res.dat Tryz.prog dI mv1 a0.2.1 a1 g7]) (uc1 b2 mv1 a0 1 _ hr15) (by kernel_rfl) (List.Perm.refl _) rfl rfl fun _ => ?_
 refine q 1 [(12, ti r15.1)] [0,1,2,3,9,10,11] rfl <| zz <| q 2 [(83, tb (r15.1 != 0))] [0,1,2,3,9,10,11,12] rfl <| za <| rI h rfl (fun hc h => zu <| q 2 [(8, ti r15.1)] [] rfl <| zf <| zT <| uay (R' := Res.dfiles Tryz.prog dI mv1 a0.2.1) 1 rfl uaY <| ua3 (P := Tryz.prog) (I := dI) (D := (r15.2.1, a0.2.1, r15.2.2.2.1, r15.2.2.2.2.1, r15.2.2.2.2.2.1, r15.2.2.2.2.2.2.1, r15.2.2.2.2.2.2.2)) <| by cases h; exact uav rfl (.tmp rfl) (fun _ _ g => g) (fun _ _ _ => (.cons_cons _ .slnil))) fun hc h => zk <| zt <| jK h (γ := Value) (fun (o17 : (List (List Int × FileS))) g18 => [(2, ti a2), (3, ts a3), (9, tp g18), (11, ti o6)]) (fun (o17 : (List (List Int × FileS))) g18 => [Res.dat Tryz.prog dI mv1 o17 a1 g18, Res.var b2 54 DT (r15.2.1, mv1, r15.2.2.2.1, r15.2.2.2.2.1, r15.2.2.2.2.2.1, r15.2.2.2.2.2.2.1, r15.2.2.2.2.2.2.2, ())]) (fun k16 h => ?_) fun o17 g18 h => ?_
 ·refine zu <| p 2 [0,1,2,3,9,11,86] rfl <| za <| rI h rfl (fun hc h => ?_) fun hc h => ?_
  ·refine zu <| ue7 3 (.int .i64) (.int .i64) rfl fun v47 => ?_
   refine uc3 (P := Tryz.prog) (I := dI) (keys := []) 0 rfl rfl ?_
   refine y (udN rfl zf60 rfl rfl (.cons ((.snd (.snd (.fst .here)))) rfl rfl (uaw (uaw (uaC uam))) .nil)) rfl ?_
   refine r_box rfl rfl fun b48 => ua1 (.slice none 0 0) rfl 5 (.int .u8) ?_
   refine ua1 (.slice none 0 0) rfl 5 (.int .u8) ?_
   refine p 1 [0,1,2,3,9,11] rfl <| za <| zr <| p 3 [1,2,3,9,11,92] rfl <| yl 4 ((.snd (.fst .here))) ty52 rfl rfl rfl trivial rfl <| p 2 [2,3,9,11,93,94,95] rfl <| uay (R' := Res.dfiles Tryz.prog dI mv1 a0.2.1) 5 rfl uaY <| iE h fun hc h => pk [2,0,0,0,1,0] rfl <| ugQ (P := Tryz.prog) (I := dI) kstr rfl rfl rfl Tryz.underlying52 hc ?_
   exact za <| uab [2,3,9,11] rfl <| by exact uai (pput .str a1 ([], [], []) a0.2.1) (.pointer (some ⟨b48, 0, none⟩)) h rfl rfl
  exact zk <| zt <| uab [2,3,9,11] rfl <| pk [1,0] rfl <| by exact uai a0.2.1 g7 h rfl rfl
 refine jK h (γ := Value) (fun (o20 : (List (List Int × FileS))) g21 => [(2, ti a2), (3, ts a3), (9, tp g21)]) (fun (o20 : (List (List Int × FileS))) g21 => [Res.dat Tryz.prog dI mv1 o20 a1 g21, Res.var b2 54 DT (r15.2.1, mv1, r15.2.2.2.1, r15.2.2.2.2.1, r15.2.2.2.2.2.1, r15.2.2.2.2.2.2.1, r15.2.2.2.2.2.2.2, ())]) (fun k19 h => ?_) fun o20 g21 h => ?_
 ·refine zu <| q 5 [(2, ti a2), (3, ts a3), (9, tp g18), (11, ti o6), (13, ti (IntKind.wrap .i64 (a2 + (List.length a3 : Int))))] [] rfl ?_
  obtain ⟨end40, e, h⟩ := uao h; rw [e]
  refine zz <| p 3 [2,3,9,11,13,102] rfl <| za <| rI h rfl (fun hc h => ?_) fun hc h => ?_
  ·refine cB h fun f41 hf41 h => udd kstr hf41 fun fb42 sv43 tv44 dv45 hq => ?_
   rw [hq]
   clear hq
   refine zr <| p 4 [2,3,9,11,13,103,106] rfl <| yl 0 ((.fst .here)) tx1 rfl rfl rfl trivial rfl <| p 3 [2,3,9,103,107,110] rfl <| iE h fun hc h => ugR tabOk zf5 1 rfl rfl rfl hc.1 rfl el5 Tryz.underlying3 hc.2 rfl fun v46 => ?_
   refine p 2 [2,3,9,111,113] rfl <| st 0 ((.fst .here)) tx1 rfl rfl rfl rfl trivial <| za <| ucO (P := Tryz.prog) (I := dI) kstr ?_
   exact uab [2,3,9] rfl <| by exact uai (pset .str a1 ((f41.1 ++ List.replicate (Int.toNat (IntKind.wrap .i64 (end40 - o6))) 0), f41.2.1, f41.2.2) o17) (.pointer (some ⟨fb42, 0, none⟩)) h rfl rfl
  exact zk <| zt <| uab [2,3,9] rfl <| by exact uai o17 g18 h rfl rfl
 refine zs <| cB h fun f22 hf22 h => udd kstr hf22 fun fb23 sv24 tv25 dv26 hq => ?_
 rw [hq]
 clear hq
 refine zr <| p 3 [2,3,9,116] rfl <| yl 0 ((.fst .here)) tx1 rfl rfl rfl trivial rfl <| p 1 [2,3,9,117,118] rfl ?_
 obtain ⟨hs27, h⟩ := ubo h
 refine y (udv tabOk (i := a2) (j := (List.length f22.1 : Int)) rfl (ubX 1 rfl) rfl rfl hs27.1 hs27.2.1 hs27.2.2 rfl ty5) rfl ?_
 refine q 1 [(119, .one (.raw (.slice none 0 0)) (subv (T.size (.int .u8)) sv24 (Int.toNat a2) (Int.toNat (List.length f22.1 : Int)))), (120, ts a3)] [2,3,9] rfl <| uiT tabOk 1 (i := (Int.toNat a2)) rfl rfl rfl (by have := hs27.2.1; omega) rfl ty5 rfl fun m28 => ?_
 refine za <| jK h (γ := Unit) (fun (o30 : List Int) _ => []) (fun (o30 : List Int) _ => [Res.var fb23 60 FT (sv24, tv25, dv26, ()), Res.own sv24 5 (.int .u8) (uaL f22.1 (Int.toNat a2) a3), Res.own tv25 5 (.int .u8) f22.2.1, Res.dirty Tryz.prog dI dv26 o30, Res.dhole Tryz.prog dI mv1 o20 a1 (.pointer (some ⟨fb23, 0, none⟩)), Res.var b2 54 DT (r15.2.1, mv1, r15.2.2.2.1, r15.2.2.2.2.1, r15.2.2.2.2.2.1, r15.2.2.2.2.2.2.1, r15.2.2.2.2.2.2.2, ())]) (fun k29 h => ?_) fun o30 gg h => ?_
 ·refine zu <| p 3 [2,3,9,14] rfl ?_
  obtain ⟨s31, e, h⟩ := uao h; rw [e]
  refine za <| zb <| uab [2,3,9,14] rfl <| ubv (γ := Unit) (fun (s34 : Int × List Int) _ => [(2, ti a2), (3, ts a3), (9, ptr fb23 0), (14, ti s34.1)]) (fun (s34 : Int × List Int) _ => [Res.var fb23 60 FT (sv24, tv25, dv26, ()), Res.own sv24 5 (.int .u8) (uaL f22.1 (Int.toNat a2) a3), Res.own tv25 5 (.int .u8) f22.2.1, Res.dirty Tryz.prog dI dv26 s34.2, Res.dhole Tryz.prog dI mv1 o20 a1 (.pointer (some ⟨fb23, 0, none⟩)), Res.var b2 54 DT (r15.2.1, mv1, r15.2.2.2.1, r15.2.2.2.2.1, r15.2.2.2.2.2.1, r15.2.2.2.2.2.2.1, r15.2.2.2.2.2.2.2, ())]) (ua4 a2 a3 k29) (s31, f22.2.2) () h rfl rfl ?_
  clear h
  intro m35 s34 gg h
  cases m35 with
  | zero => cases h
  | succ m35 =>
  simp only [ua4] at h
  refine zs <| zu <| q 7 [(14, ti s34.1), (130, tb (decide ((IntKind.wrap .i64 (s34.1 * 64)) < (IntKind.wrap .i64 (a2 + (List.length a3 : Int))))))] [2,3,9] rfl ?_
  obtain ⟨t36, e, h⟩ := uao h; rw [e]
  refine p 1 [2,3,9,14,131] rfl ?_
  refine uaG (γ := Unit) 3 (fun _ => [(2, ti a2), (3, ts a3), (9, ptr fb23 0), (14, ti s34.1), (134, tb (t36 && (a3 != [])))]) (fun _ => [Res.var fb23 60 FT (sv24, tv25, dv26, ()), Res.own sv24 5 (.int .u8) (uaL f22.1 (Int.toNat a2) a3), Res.own tv25 5 (.int .u8) f22.2.1, Res.dirty Tryz.prog dI dv26 s34.2, Res.dhole Tryz.prog dI mv1 o20 a1 (.pointer (some ⟨fb23, 0, none⟩)), Res.var b2 54 DT (r15.2.1, mv1, r15.2.2.2.1, r15.2.2.2.2.1, r15.2.2.2.2.2.1, r15.2.2.2.2.2.2.1, r15.2.2.2.2.2.2.2, ())]) ?_ (fun _ => ?_)
  ·clear h
   rcases Bool.eq_false_or_eq_true t36 with hh | hh
   ·rw [hh]
    exact q 3 [(134, tb (a3 != []))] [2,3,9,14] rfl <| uab [2,3,9,14,134] rfl <| za <| by exact uau () rfl rfl
   rw [hh]
   exact p 3 [2,3,9,14,134] rfl <| za <| by exact uau () rfl rfl
  refine za <| rI h rfl (fun hc h => ?_) fun hc h => ?_
  ·refine zk <| zt <| zs <| zb <| zr <| p 3 [2,3,9,14,139] rfl <| yl 0 ((.snd (.snd (.fst .here)))) ty58 rfl rfl rfl trivial rfl <| q 1 [(140, .one (.raw (.map none)) dv26), (141, ti s34.1)] [2,3,9,14] rfl <| uet 3 rfl fun l38 hl38 => ?_
   refine y (uj8 3 rfl rfl rfl kint Tryz.underlying58 zf3 rfl) rfl ?_
   refine q 1 [(143, ti (IntKind.wrap .i64 (((pget (.int .i64) s34.1 l38).getD 0) + 1)))] [2,3,9,14,140,141] rfl <| iE h fun hc h => uea 3 rfl rfl rfl rfl kint Tryz.underlying58 (by rw [← hl38, List.length_map] at hc; exact hc) ?_
   refine uc3 (P := Tryz.prog) (I := dI) (keys := kput s34.1 s34.2) 3 rfl (by rw [ugS, hl38]) ?_
   refine zn <| zi <| zt <| zr <| q 3 [(14, ti (IntKind.wrap .i64 (s34.1 + 1)))] [2,3,9] rfl ?_
   obtain ⟨s39, e, h⟩ := uao h; rw [e]
   exact za <| uab [2,3,9,14] rfl <| by exact ubp (s39, (kput s34.1 s34.2)) () (Nat.lt_succ_self _) h rfl rfl
  exact zx <| ze <| ze <| zq <| zt <| uab [] rfl <| by exact uai s34.2 () h rfl rfl
 refine zu <| p 1 [8] rfl <| zf <| ucO (P := Tryz.prog) (I := dI) kstr ?_
 refine uay (R' := Res.dfiles Tryz.prog dI mv1 (pset .str a1 ((uaL f22.1 (Int.toNat a2) a3), f22.2.1, o30) o20)) 0 rfl uaY <| pk [1,0] rfl <| ua3 (P := Tryz.prog) (I := dI) (D := (r15.2.1, (pset .str a1 ((uaL f22.1 (Int.toNat a2) a3), f22.2.1, o30) o20), r15.2.2.2.1, r15.2.2.2.2.1, r15.2.2.2.2.2.1, r15.2.2.2.2.2.2.1, r15.2.2.2.2.2.2.2)) ?_
 cases h
 exact uav rfl (.tmp rfl) (fun _ _ g => g) (fun _ _ _ => (.cons_cons _ .slnil))

theorem uaA (p0 : Value) (a0 : DiskS) (a1 : List Int) (r : Int × DiskS) (h : ucM a0 a1 = some r) : Fn Tryz.prog 54 [tp p0, ts a1] [Res.disk Tryz.prog dI p0 a0] (fun _ => ti r.1) (fun _ => [Res.disk Tryz.prog dI p0 r.2]) := by
 unfold ucM at h
 refine enter Tryz.func54 rfl 21 rfl rfl fun F => ?_
 refine ucK fun b2 mv1 hp => ?_
 subst hp
 refine zu <| p 1 [0,1] rfl <| za <| zs <| zu <| p 2 [0,1,8,9] rfl <| cB h fun r3 hr3 h => ucI (Lo := []) (ucQ b2 mv1 a0 a1 _ hr3) (by kernel_rfl) (List.Perm.refl _) rfl rfl fun v4 => ?_
 refine p 5 [0,1,6] rfl <| zz <| p 2 [0,1,6,14] rfl <| za <| rI h rfl (fun hc h => zu <| p 2 [4] rfl <| zf <| zT <| uay (R' := Res.dfiles Tryz.prog dI mv1 a0.2.1) 1 rfl ucF <| ua3 (P := Tryz.prog) (I := dI) (D := a0) <| by cases h; exact uav rfl (.tmp rfl) (fun _ _ g => g) (fun _ _ _ => (.cons_cons _ .slnil))) fun hc h => zy <| p 3 [1,18] rfl <| yl 0 ((.snd (.fst .here))) ty52 rfl rfl rfl trivial rfl <| p 1 [19,20] rfl <| uay (R' := Res.dfiles Tryz.prog dI mv1 a0.2.1) 1 rfl ucF <| pk [1,0] rfl <| umW kstr rfl rfl Tryz.underlying52 rfl ?_
 refine zz <| p 1 [4] rfl <| zf <| pk [1,0] rfl <| ua3 (P := Tryz.prog) (I := dI) (D := (a0.1, (pdel .str a1 a0.2.1), a0.2.2.1, a0.2.2.2.1, a0.2.2.2.2.1, a0.2.2.2.2.2.1, a0.2.2.2.2.2.2)) ?_
 cases h
 exact uav rfl (.tmp rfl) (fun _ _ g => g) (fun _ _ _ => (.cons_cons _ .slnil))

theorem uiK (p0 : Value) (p100 : Value) (a0 : Unit × List Int × Int × (List (Int × Int × Int × Unit)) × Int × Bool × Unit) (a1 : Int × Int × Int × Unit) (a2 : Bool) (a100 : DiskS) (r : Int × DiskS) (h : ud0 a0 a1 a2 a100 = some r) : FnT Tryz.prog tabs 41 [tp p0, .one Y77 a1, tb a2] [Res.cls (CLog p100) p0 a0, Res.disk Tryz.prog dI p100 a100] (fun _ => ti r.1) (fun _ => [Res.cls (CLog p100) p0 a0, Res.disk Tryz.prog dI p100 r.2]) := by
 unfold ud0 at h
 refine udW Tryz.func41 rfl 28 rfl rfl fun F hT => ?_
 refine ud1 fun b2 sv1 hp => ?_
 subst hp
 refine uaK (x := a0) (q := p100) ?_
 refine zu <| r_box rfl rfl fun b3 => p 1 [0,2,4] rfl <| za <| zs <| zu <| p 1 [0,4,7] rfl <| za <| rI h rfl (fun hc h => ?_) fun hc h => ?_
 ·refine jK h (γ := Unit) (fun (o5 : Int × DiskS) _ => [(6, ti o5.1)]) (fun (o5 : Int × DiskS) _ => [Res.cls (CLog p100) (.pointer (some ⟨b2, 0, none⟩)) a0, Res.disk Tryz.prog dI p100 o5.2, Res.var b3 77 Y77 a1]) (fun k4 h => ?_) fun o5 gg h => ?_
  ·refine pk [1,0,0] rfl <| ubZ fun sv6 => ?_
   refine r_any (by kernel_rfl) ?_
   refine uah (i := 0) (t := ptr b2 0) (uaa (uaa uac)) rfl (by kernel_rfl) (by kernel_rfl) (by kernel_rfl) (uaf tabOk rfl) rfl ?_
   refine uah (i := 4) (t := ptr b2 0) (uaa (uaa uac)) rfl (by kernel_rfl) (by kernel_rfl) (by kernel_rfl) (uaf tabOk rfl) rfl ?_
   refine uah (i := 5) (t := ptr b3 0) (uaa (uaa uac)) rfl (by kernel_rfl) (by kernel_rfl) (by kernel_rfl) (uaf tabOk rfl) rfl ?_
   refine a_two (i := 1) (j := 6) (by kernel_rfl) rfl rfl ?_ ?_
   ·refine p 1 [9,12,13] rfl <| za <| uab [9,12,13] rfl <| uah (i := 2) (t := ptr b2 0) (uaa (uaa uac)) rfl (by kernel_rfl) (by kernel_rfl) (by kernel_rfl) (uaf tabOk rfl) rfl ?_
    refine a_two (i := 3) (j := 6) (by kernel_rfl) rfl rfl ?_ ?_
    ·refine yl 0 ((.fst .here)) ty23 rfl rfl rfl trivial rfl <| za <| uab [11,12,13] rfl <| a_one (i := 6) (by kernel_rfl) rfl ?_
     refine yl 2 ((.fst .here)) ty3 rfl rfl rfl trivial rfl <| za <| uab [11,12,14] rfl <| a_one (i := 7) (by kernel_rfl) rfl ?_
     refine cB h fun r7 hr7 h => rcT hT [0] (uar _ _ _ _ _ _ hr7) (by kernel_rfl) rfl rfl rfl fun _ => za <| uab [11,15] rfl <| a_one (i := 8) (by kernel_rfl) rfl ?_
     refine cB h fun r8 hr8 h => rc [3] (uaA _ _ _ _ hr8) (by kernel_rfl) rfl rfl rfl fun _ => za <| uab [16] rfl <| uah (i := 9) (t := ti r8.1) (uaa (uaa uac)) rfl (by kernel_rfl) (by kernel_rfl) (by kernel_rfl) (uaf tabOk rfl) rfl ?_
     refine a_end (by kernel_rfl) ?_
     refine zt <| pk [1,1,0,0] rfl <| uaK (x := a0) (q := p100) ?_
     exact uab [6] rfl <| by exact uai (r8.1, r8.2) () h rfl rfl
    refine yl 2 ((.fst .here)) ty3 rfl rfl rfl trivial rfl <| za <| uab [10,12,14] rfl ?_
    refine a_two (i := 3) (j := 7) (by kernel_rfl) rfl rfl ?_ ?_
    ·refine yl 0 ((.fst .here)) ty23 rfl rfl rfl trivial rfl <| za <| uab [11,12,14] rfl <| a_one (i := 7) (by kernel_rfl) rfl ?_
     refine cB h fun r7 hr7 h => rcT hT [0] (uar _ _ _ _ _ _ hr7) (by kernel_rfl) rfl rfl rfl fun _ => za <| uab [11,15] rfl <| a_one (i := 8) (by kernel_rfl) rfl ?_
     refine cB h fun r8 hr8 h => rc [3] (uaA _ _ _ _ hr8) (by kernel_rfl) rfl rfl rfl fun _ => za <| uab [16] rfl <| uah (i := 9) (t := ti r8.1) (uaa (uaa uac)) rfl (by kernel_rfl) (by kernel_rfl) (by kernel_rfl) (uaf tabOk rfl) rfl ?_
     refine a_end (by kernel_rfl) ?_
     refine zt <| pk [1,1,0,0] rfl <| uaK (x := a0) (q := p100) ?_
     exact uab [6] rfl <| by exact uai (r8.1, r8.2) () h rfl rfl
    refine cB h fun r7 hr7 h => rcT hT [0] (uar _ _ _ _ _ _ hr7) (by kernel_rfl) rfl rfl rfl fun _ => za <| uab [10,15] rfl <| a_one (i := 3) (by kernel_rfl) rfl ?_
    refine yl 0 ((.fst .here)) ty23 rfl rfl rfl trivial rfl <| za <| uab [11,15] rfl <| a_one (i := 8) (by kernel_rfl) rfl ?_
    refine cB h fun r8 hr8 h => rc [3] (uaA _ _ _ _ hr8) (by kernel_rfl) rfl rfl rfl fun _ => za <| uab [16] rfl <| uah (i := 9) (t := ti r8.1) (uaa (uaa uac)) rfl (by kernel_rfl) (by kernel_rfl) (by kernel_rfl) (uaf tabOk rfl) rfl ?_
    refine a_end (by kernel_rfl) ?_
    refine zt <| pk [1,1,0,0] rfl <| uaK (x := a0) (q := p100) ?_
    exact uab [6] rfl <| by exact uai (r8.1, r8.2) () h rfl rfl
   refine yl 2 ((.fst .here)) ty3 rfl rfl rfl trivial rfl <| za <| uab [8,12,14] rfl ?_
   refine a_two (i := 1) (j := 7) (by kernel_rfl) rfl rfl ?_ ?_
   ·refine q 1 [(9, ptr b2 0), (12, ptr b2 0), (14, ti a1.1)] [] rfl <| za <| uab [9,12,14] rfl <| uah (i := 2) (t := ptr b2 0) (uaa (uaa uac)) rfl (by kernel_rfl) (by kernel_rfl) (by kernel_rfl) (uaf tabOk rfl) rfl ?_
    refine a_two (i := 3) (j := 7) (by kernel_rfl) rfl rfl ?_ ?_
    ·refine yl 0 ((.fst .here)) ty23 rfl rfl rfl trivial rfl <| za <| uab [11,12,14] rfl <| a_one (i := 7) (by kernel_rfl) rfl ?_
     refine cB h fun r7 hr7 h => rcT hT [0] (uar _ _ _ _ _ _ hr7) (by kernel_rfl) rfl rfl rfl fun _ => za <| uab [11,15] rfl <| a_one (i := 8) (by kernel_rfl) rfl ?_
     refine cB h fun r8 hr8 h => rc [3] (uaA _ _ _ _ hr8) (by kernel_rfl) rfl rfl rfl fun _ => za <| uab [16] rfl <| uah (i := 9) (t := ti r8.1) (uaa (uaa uac)) rfl (by kernel_rfl) (by kernel_rfl) (by kernel_rfl) (uaf tabOk rfl) rfl ?_
     refine a_end (by kernel_rfl) ?_
     refine zt <| pk [1,1,0,0] rfl <| uaK (x := a0) (q := p100) ?_
     exact uab [6] rfl <| by exact uai (r8.1, r8.2) () h rfl rfl
    refine cB h fun r7 hr7 h => rcT hT [0] (uar _ _ _ _ _ _ hr7) (by kernel_rfl) rfl rfl rfl fun _ => za <| uab [10,15] rfl <| a_one (i := 3) (by kernel_rfl) rfl ?_
    refine yl 0 ((.fst .here)) ty23 rfl rfl rfl trivial rfl <| za <| uab [11,15] rfl <| a_one (i := 8) (by kernel_rfl) rfl ?_
    refine cB h fun r8 hr8 h => rc [3] (uaA _ _ _ _ hr8) (by kernel_rfl) rfl rfl rfl fun _ => za <| uab [16] rfl <| uah (i := 9) (t := ti r8.1) (uaa (uaa uac)) rfl (by kernel_rfl) (by kernel_rfl) (by kernel_rfl) (uaf tabOk rfl) rfl ?_
    refine a_end (by kernel_rfl) ?_
    refine zt <| pk [1,1,0,0] rfl <| uaK (x := a0) (q := p100) ?_
    exact uab [6] rfl <| by exact uai (r8.1, r8.2) () h rfl rfl
   refine cB h fun r7 hr7 h => rcT hT [0] (uar _ _ _ _ _ _ hr7) (by kernel_rfl) rfl rfl rfl fun _ => za <| uab [8,15] rfl <| a_one (i := 1) (by kernel_rfl) rfl ?_
   refine p 1 [9,15] rfl <| za <| uab [9,15] rfl <| uah (i := 2) (t := ptr b2 0) (uaa (uaa uac)) rfl (by kernel_rfl) (by kernel_rfl) (by kernel_rfl) (uaf tabOk rfl) rfl ?_
   refine a_one (i := 3) (by kernel_rfl) rfl ?_
   refine yl 0 ((.fst .here)) ty23 rfl rfl rfl trivial rfl <| za <| uab [11,15] rfl <| a_one (i := 8) (by kernel_rfl) rfl ?_
   refine cB h fun r8 hr8 h => rc [3] (uaA _ _ _ _ hr8) (by kernel_rfl) rfl rfl rfl fun _ => za <| uab [16] rfl <| uah (i := 9) (t := ti r8.1) (uaa (uaa uac)) rfl (by kernel_rfl) (by kernel_rfl) (by kernel_rfl) (uaf tabOk rfl) rfl ?_
   refine a_end (by kernel_rfl) ?_
   refine zt <| pk [1,1,0,0] rfl <| uaK (x := a0) (q := p100) ?_
   exact uab [6] rfl <| by exact uai (r8.1, r8.2) () h rfl rfl
  refine zR <| zT ?_
  cases h
  exact uav rfl (.tmp rfl) (fun _ _ g => g) (fun _ _ _ => (.cons_cons _ (.cons_cons _ (.cons _ .slnil))))
 refine zk <| zt <| zs <| pk [1,0,0] rfl <| ubZ fun sv9 => ?_
 refine ud3 (S := AllIs [VarIs b2 68 (.pair (.raw (.pointer none)) (.pair .str (.pair (.int .i64) (.pair (.raw (.slice none 0 0)) (.pair (.int .i64) (.pair .bool .unit)))))) (p100, a0.2.1, a0.2.2.1, sv9, a0.2.2.2.2.1, a0.2.2.2.2.2.1, a0.2.2.2.2.2.2), VarIs b3 77 Y77 a1]) (by kernel_rfl) ?_
 refine uap (i := 0) (t := ptr b2 0) (uaa uac) rfl (by kernel_rfl) (by kernel_rfl) (by kernel_rfl) (uae (uaj 0 rfl) (uae (uaj 2 rfl) uag)) (uaf tabOk rfl) rfl ?_
 refine uap (i := 1) (t := ptr b2 0) (uaa uac) rfl (by kernel_rfl) (by kernel_rfl) (by kernel_rfl) (uae (uaj 0 rfl) (uae (uaj 2 rfl) uag)) (uaf tabOk rfl) rfl ?_
 refine uap (i := 2) (t := ptr b2 0) (uaa uac) rfl (by kernel_rfl) (by kernel_rfl) (by kernel_rfl) (uae (uaj 0 rfl) (uae (uaj 2 rfl) uag)) (uaf tabOk rfl) rfl ?_
 refine uap (i := 3) (t := tp p100) (uaa uac) rfl (by kernel_rfl) (by kernel_rfl) (by kernel_rfl) (uae (uaj 0 rfl) (uae (uaj 2 rfl) uag)) (ubQ (S := fun w => AllIs [VarIs b2 68 (.pair (.raw (.pointer none)) (.pair .str (.pair (.int .i64) (.pair (.raw (.slice none 0 0)) (.pair (.int .i64) (.pair .bool .unit)))))) (p100, a0.2.1, a0.2.2.1, sv9, a0.2.2.2.2.1, a0.2.2.2.2.2.1, a0.2.2.2.2.2.2), VarIs b3 77 Y77 a1] w) (uba 0 rfl) 0 ((.fst .here)) rfl rfl rfl (by first | rfl | (simp only [Pth.off, T.size]; omega)) (uaC uam) ty23) rfl ?_
 refine uap (i := 4) (t := ptr b2 0) (uaa uac) rfl (by kernel_rfl) (by kernel_rfl) (by kernel_rfl) (uae (uaj 0 rfl) (uae (uaj 2 rfl) uag)) (uaf tabOk rfl) rfl ?_
 refine uap (i := 5) (t := ptr b3 0) (uaa uac) rfl (by kernel_rfl) (by kernel_rfl) (by kernel_rfl) (uae (uaj 0 rfl) (uae (uaj 2 rfl) uag)) (uaf tabOk rfl) rfl ?_
 refine uap (i := 6) (t := ti a1.1) (uaa uac) rfl (by kernel_rfl) (by kernel_rfl) (by kernel_rfl) (uae (uaj 0 rfl) (uae (uaj 2 rfl) uag)) (ubQ (S := fun w => AllIs [VarIs b2 68 (.pair (.raw (.pointer none)) (.pair .str (.pair (.int .i64) (.pair (.raw (.slice none 0 0)) (.pair (.int .i64) (.pair .bool .unit)))))) (p100, a0.2.1, a0.2.2.1, sv9, a0.2.2.2.2.1, a0.2.2.2.2.2.1, a0.2.2.2.2.2.2), VarIs b3 77 Y77 a1] w) (uba 1 rfl) 2 ((.fst .here)) rfl rfl rfl (by first | rfl | (simp only [Pth.off, T.size]; omega)) (uaC uam) ty3) rfl ?_
 refine uap (i := 8) (t := ptr b3 1) (uaa uac) rfl (by kernel_rfl) (by kernel_rfl) (by kernel_rfl) (uae (uaj 0 rfl) (uae (uaj 2 rfl) uag)) (uaf tabOk rfl) rfl ?_
 refine uap (i := 9) (t := ti a1.2.1) (uaa uac) rfl (by kernel_rfl) (by kernel_rfl) (by kernel_rfl) (uae (uaj 0 rfl) (uae (uaj 2 rfl) uag)) (ubQ (S := fun w => AllIs [VarIs b2 68 (.pair (.raw (.pointer none)) (.pair .str (.pair (.int .i64) (.pair (.raw (.slice none 0 0)) (.pair (.int .i64) (.pair .bool .unit)))))) (p100, a0.2.1, a0.2.2.1, sv9, a0.2.2.2.2.1, a0.2.2.2.2.2.1, a0.2.2.2.2.2.2), VarIs b3 77 Y77 a1] w) (uba 1 rfl) 2 ((.snd (.fst .here))) rfl rfl rfl (by first | rfl | (simp only [Pth.off, T.size]; omega)) (uaw (uaC uam)) ty3) rfl ?_
 refine h_one (i := 7) (by kernel_rfl) rfl ?_
 refine cB h fun r10 hr10 h => rcT hT [0] (uar _ _ _ _ _ _ hr10) (by kernel_rfl) rfl rfl rfl fun _ => za <| h_in (uae (uaj 0 rfl) (uae (uaj 2 rfl) uag)) ?_
 refine uab [20,24,26] rfl <| h_one (i := 10) (by kernel_rfl) rfl ?_
 refine cB h fun r11 hr11 h => rc [3] (uex _ _ _ _ _ hr11) (by kernel_rfl) rfl rfl rfl fun _ => za <| h_in (uae (uaj 1 rfl) (uae (uaj 3 rfl) uag)) ?_
 refine uab [27] rfl <| uap (i := 11) (t := ti r11.1) (uaa uac) rfl (by kernel_rfl) (by kernel_rfl) (by kernel_rfl) (uae (uaj 1 rfl) (uae (uaj 3 rfl) uag)) (uaf tabOk rfl) rfl ?_
 refine h_end (by kernel_rfl) ?_
 refine zt <| zR <| pk [1,1,0,0] rfl <| uaK (x := a0) (q := p100) ?_
 cases h
 exact uav rfl (.tmp rfl) (fun _ _ g => g) (fun _ _ _ => (.cons_cons _ (.cons_cons _ (.cons _ .slnil))))

theorem udr (p0 : Value) (p100 : Value) (a0 : Unit × List Int × Int × (List (Int × Int × Int × Unit)) × Int × Bool × Unit) (a1 : List Int) (a100 : DiskS) (r : Int × (Unit × List Int × Int × (List (Int × Int × Int × Unit)) × Int × Bool × Unit) × DiskS) (h : ubb a0 a1 a100 = some r) : FnT Tryz.prog tabs 22 [tp p0, ts a1] [Res.cls (CLog p100) p0 a0, Res.disk Tryz.prog dI p100 a100] (fun _ => ti r.1) (fun _ => [Res.cls (CLog p100) p0 r.2.1, Res.disk Tryz.prog dI p100 r.2.2]) := by
 unfold ubb at h
 refine udW Tryz.func22 rfl 133 rfl rfl fun F hT => ?_
 refine ud1 fun b2 sv1 hp => ?_
 subst hp
 refine uaK (x := a0) (q := p100) ?_
 refine zu <| p 1 [0,1] rfl <| za <| zs <| zs <| ubZ fun sv3 => ?_
 refine zr <| p 3 [0,1,13] rfl <| yl 0 ((.snd (.snd (.snd (.snd (.snd (.fst .here))))))) ty4 rfl rfl rfl trivial rfl <| za <| rI h rfl (fun hc h => ?_) fun hc h => ?_
 ·refine zu <| p 1 [4] rfl <| zf <| zT <| uaK (x := a0) (q := p100) ?_
  cases h
  exact uav rfl (.tmp rfl) (fun _ _ g => g) (fun _ _ _ => (.cons_cons _ (.cons_cons _ .slnil)))
 refine zk <| zt <| zs <| zu <| q 3 [(17, tb (decide ((List.length a1 : Int) > 65536)))] [0,1] rfl <| za <| rI h rfl (fun hc h => ?_) fun hc h => ?_
 ·refine zu <| p 1 [4] rfl <| zf <| zT <| uaK (x := a0) (q := p100) ?_
  cases h
  exact uav rfl (.tmp rfl) (fun _ _ g => g) (fun _ _ _ => (.cons_cons _ (.cons_cons _ .slnil)))
 refine zk <| zt <| zs <| zu <| p 3 [0,1,20] rfl <| yl 0 ((.snd (.snd (.snd (.snd (.fst .here)))))) ty2 rfl rfl rfl trivial rfl <| q 1 [(22, tb (decide (a0.2.2.2.2.1 ≥ 1152921504606846976)))] [0,1] rfl <| za <| rI h rfl (fun hc h => ?_) fun hc h => ?_
 ·refine zu <| p 1 [4] rfl <| zf <| zT <| uaK (x := a0) (q := p100) ?_
  cases h
  exact uav rfl (.tmp rfl) (fun _ _ g => g) (fun _ _ _ => (.cons_cons _ (.cons_cons _ .slnil)))
 refine zy <| p 3 [0,1,26] rfl <| yl 0 ((.snd (.snd (.snd (.snd (.fst .here)))))) ty2 rfl rfl rfl trivial rfl <| q 1 [(27, ti a0.2.2.2.2.1), (28, ts a1)] [0] rfl <| cB h fun r4 hr4 h => ubk (ugf _ _ _ hr4) (by kernel_rfl) rfl rfl <| q 5 [(5, ts r4.1), (6, ti r4.2)] [0] rfl <| za <| zs <| zu <| q 2 [(33, tb (r4.2 != 0))] [0,5,6] rfl <| za <| rI h rfl (fun hc h => ?_) fun hc h => ?_
 ·refine zu <| q 2 [(4, ti r4.2)] [] rfl <| zf <| zT <| uaK (x := a0) (q := p100) ?_
  cases h
  exact uav rfl (.tmp rfl) (fun _ _ g => g) (fun _ _ _ => (.cons_cons _ (.cons_cons _ .slnil)))
 refine zy <| q 3 [(36, ptr b2 0), (38, ti (List.length r4.1 : Int))] [0,5] rfl <| uaK (x := a0) (q := p100) ?_
 refine cB h fun r5 hr5 h => rc [0,0] (uh7 _ _ _ _ _ _ hr5) (by kernel_rfl) rfl rfl rfl fun _ => q 3 [(40, .one Y77 r5.1), (41, tb r5.2)] [0,5] rfl <| ubK (t := Y77) rfl zf77 rfl fun b6 => st 0 .here ty77 rfl rfl rfl rfl trivial <| q 1 [(7, ptr b6 0), (8, tb r5.2)] [0,5] rfl <| za <| zs <| zu <| p 1 [0,5,7,8,42] rfl <| yl 0 ((.fst .here)) ty3 rfl rfl rfl trivial rfl <| q 1 [(44, tb (decide (r5.1.1 > 9999999)))] [0,5,7,8] rfl <| za <| rI h rfl (fun hc h => zu <| p 1 [4] rfl <| zf <| zT <| by cases h; exact uav rfl (.tmp rfl) (fun _ _ g => g) (fun _ _ _ => (.cons _ (.cons_cons _ (.cons_cons _ .slnil))))) fun hc h => ?_
 refine zk <| zt <| zs <| zs <| pk [1,0,0] rfl <| ubZ fun sv7 => ?_
 refine ud3 (S := AllIs [VarIs b2 68 (.pair (.raw (.pointer none)) (.pair .str (.pair (.int .i64) (.pair (.raw (.slice none 0 0)) (.pair (.int .i64) (.pair .bool .unit)))))) (p100, a0.2.1, a0.2.2.1, sv7, a0.2.2.2.2.1, a0.2.2.2.2.2.1, a0.2.2.2.2.2.2), VarIs b6 77 Y77 r5.1]) (by kernel_rfl) ?_
 refine uap (i := 0) (t := ptr b2 0) (uaa (uaa uac)) rfl (by kernel_rfl) (by kernel_rfl) (by kernel_rfl) (uae (uaj 0 rfl) (uae (uaj 2 rfl) uag)) (uaf tabOk rfl) rfl ?_
 refine uap (i := 1) (t := ptr b2 0) (uaa (uaa uac)) rfl (by kernel_rfl) (by kernel_rfl) (by kernel_rfl) (uae (uaj 0 rfl) (uae (uaj 2 rfl) uag)) (uaf tabOk rfl) rfl ?_
 refine uap (i := 2) (t := ptr b2 0) (uaa (uaa uac)) rfl (by kernel_rfl) (by kernel_rfl) (by kernel_rfl) (uae (uaj 0 rfl) (uae (uaj 2 rfl) uag)) (uaf tabOk rfl) rfl ?_
 refine uap (i := 3) (t := tp p100) (uaa (uaa uac)) rfl (by kernel_rfl) (by kernel_rfl) (by kernel_rfl) (uae (uaj 0 rfl) (uae (uaj 2 rfl) uag)) (ubQ (S := fun w => AllIs [VarIs b2 68 (.pair (.raw (.pointer none)) (.pair .str (.pair (.int .i64) (.pair (.raw (.slice none 0 0)) (.pair (.int .i64) (.pair .bool .unit)))))) (p100, a0.2.1, a0.2.2.1, sv7, a0.2.2.2.2.1, a0.2.2.2.2.2.1, a0.2.2.2.2.2.2), VarIs b6 77 Y77 r5.1] w) (uba 0 rfl) 0 ((.fst .here)) rfl rfl rfl (by first | rfl | (simp only [Pth.off, T.size]; omega)) (uaC uam) ty23) rfl ?_
 refine uap (i := 4) (t := ptr b2 0) (uaa (uaa uac)) rfl (by kernel_rfl) (by kernel_rfl) (by kernel_rfl) (uae (uaj 0 rfl) (uae (uaj 2 rfl) uag)) (uaf tabOk rfl) rfl ?_
 refine uap (i := 5) (t := ptr b6 0) (uaa (uaa uac)) rfl (by kernel_rfl) (by kernel_rfl) (by kernel_rfl) (uae (uaj 0 rfl) (uae (uaj 2 rfl) uag)) (uaf tabOk rfl) rfl ?_
 refine uap (i := 6) (t := ti r5.1.1) (uaa (uaa uac)) rfl (by kernel_rfl) (by kernel_rfl) (by kernel_rfl) (uae (uaj 0 rfl) (uae (uaj 2 rfl) uag)) (ubQ (S := fun w => AllIs [VarIs b2 68 (.pair (.raw (.pointer none)) (.pair .str (.pair (.int .i64) (.pair (.raw (.slice none 0 0)) (.pair (.int .i64) (.pair .bool .unit)))))) (p100, a0.2.1, a0.2.2.1, sv7, a0.2.2.2.2.1, a0.2.2.2.2.2.1, a0.2.2.2.2.2.2), VarIs b6 77 Y77 r5.1] w) (uba 1 rfl) 2 ((.fst .here)) rfl rfl rfl (by first | rfl | (simp only [Pth.off, T.size]; omega)) (uaC uam) ty3) rfl ?_
 refine uap (i := 8) (t := ptr b6 1) (uaa (uaa uac)) rfl (by kernel_rfl) (by kernel_rfl) (by kernel_rfl) (uae (uaj 0 rfl) (uae (uaj 2 rfl) uag)) (uaf tabOk rfl) rfl ?_
 refine uap (i := 9) (t := ti r5.1.2.1) (uaa (uaa uac)) rfl (by kernel_rfl) (by kernel_rfl) (by kernel_rfl) (uae (uaj 0 rfl) (uae (uaj 2 rfl) uag)) (ubQ (S := fun w => AllIs [VarIs b2 68 (.pair (.raw (.pointer none)) (.pair .str (.pair (.int .i64) (.pair (.raw (.slice none 0 0)) (.pair (.int .i64) (.pair .bool .unit)))))) (p100, a0.2.1, a0.2.2.1, sv7, a0.2.2.2.2.1, a0.2.2.2.2.2.1, a0.2.2.2.2.2.2), VarIs b6 77 Y77 r5.1] w) (uba 1 rfl) 2 ((.snd (.fst .here))) rfl rfl rfl (by first | rfl | (simp only [Pth.off, T.size]; omega)) (uaw (uaC uam)) ty3) rfl ?_
 refine uap (i := 10) (t := ts r4.1) (uaa (uaa uac)) rfl (by kernel_rfl) (by kernel_rfl) (by kernel_rfl) (uae (uaj 0 rfl) (uae (uaj 2 rfl) uag)) (uaf tabOk rfl) rfl ?_
 refine h_one (i := 7) (by kernel_rfl) rfl ?_
 refine cB h fun r8 hr8 h => rcT hT [0] (uar _ _ _ _ _ _ hr8) (by kernel_rfl) rfl rfl rfl fun _ => za <| h_in (uae (uaj 0 rfl) (uae (uaj 2 rfl) uag)) ?_
 refine uab [0,5,7,8,48,52,54,55] rfl <| h_one (i := 11) (by kernel_rfl) rfl ?_
 refine cB h fun r9 hr9 h => rc [3] (ug7 _ _ _ _ _ _ hr9) (by kernel_rfl) rfl rfl rfl fun _ => za <| h_in (uae (uaj 1 rfl) (uae (uaj 3 rfl) uag)) ?_
 refine uab [0,5,7,8,56] rfl <| uap (i := 12) (t := ti r9.1) (uaa (uaa uac)) rfl (by kernel_rfl) (by kernel_rfl) (by kernel_rfl) (uae (uaj 1 rfl) (uae (uaj 3 rfl) uag)) (uaf tabOk rfl) rfl ?_
 refine h_end (by kernel_rfl) ?_
 refine zt <| zu <| q 2 [(9, ti r9.1), (58, tb (r9.1 != 0))] [0,5,7,8] rfl <| za <| rI h rfl (fun hc h => ?_) fun hc h => ?_
 ·refine zu <| q 5 [(61, tb (r9.1 == 9)), (63, ptr b2 5)] [9] rfl <| st 1 ((.snd (.snd (.snd (.snd (.snd (.fst .here))))))) ty4 rfl rfl rfl rfl trivial <| zz <| q 2 [(4, ti r9.1)] [] rfl <| zf <| zT <| pk [1,1,0,0] rfl <| uaK (x := ((), a0.2.1, a0.2.2.1, a0.2.2.2.1, a0.2.2.2.2.1, (r9.1 == 9), a0.2.2.2.2.2.2)) (q := p100) ?_
  cases h
  exact uav rfl (.tmp rfl) (fun _ _ g => g) (fun _ _ _ => (.cons_cons _ (.cons_cons _ (.cons _ .slnil))))
 refine zk <| zt <| zs <| jK h (γ := Unit) (fun (o11 : Int × DiskS) _ => [(0, ptr b2 0), (5, ts r4.1), (7, ptr b6 0), (8, tb r5.2), (10, ti o11.1)]) (fun (o11 : Int × DiskS) _ => [Res.disk Tryz.prog dI p100 o11.2, Res.var b2 68 (.pair (.raw (.pointer none)) (.pair .str (.pair (.int .i64) (.pair (.raw (.slice none 0 0)) (.pair (.int .i64) (.pair .bool .unit)))))) (p100, a0.2.1, a0.2.2.1, sv7, a0.2.2.2.2.1, a0.2.2.2.2.2.1, a0.2.2.2.2.2.2), Res.own sv7 77 Y77 a0.2.2.2.1, Res.var b6 77 Y77 r5.1]) (fun k10 h => ?_) fun o11 gg h => ?_
 ·refine r_any (by kernel_rfl) ?_
  refine uah (i := 0) (t := ptr b2 0) (uaa (uaa uac)) rfl (by kernel_rfl) (by kernel_rfl) (by kernel_rfl) (uaf tabOk rfl) rfl ?_
  refine uah (i := 4) (t := ptr b2 0) (uaa (uaa uac)) rfl (by kernel_rfl) (by kernel_rfl) (by kernel_rfl) (uaf tabOk rfl) rfl ?_
  refine uah (i := 5) (t := ptr b6 0) (uaa (uaa uac)) rfl (by kernel_rfl) (by kernel_rfl) (by kernel_rfl) (uaf tabOk rfl) rfl ?_
  refine a_two (i := 1) (j := 6) (by kernel_rfl) rfl rfl ?_ ?_
  ·refine p 1 [0,5,7,8,66,69,70] rfl <| za <| uab [0,5,7,8,66,69,70] rfl <| uah (i := 2) (t := ptr b2 0) (uaa (uaa uac)) rfl (by kernel_rfl) (by kernel_rfl) (by kernel_rfl) (uaf tabOk rfl) rfl ?_
   refine a_two (i := 3) (j := 6) (by kernel_rfl) rfl rfl ?_ ?_
   ·refine yl 1 ((.fst .here)) ty23 rfl rfl rfl trivial rfl <| za <| uab [0,5,7,8,68,69,70] rfl <| a_one (i := 6) (by kernel_rfl) rfl ?_
    refine yl 3 ((.fst .here)) ty3 rfl rfl rfl trivial rfl <| za <| uab [0,5,7,8,68,69,71] rfl <| a_one (i := 7) (by kernel_rfl) rfl ?_
    refine cB h fun r27 hr27 h => rcT hT [1] (uar _ _ _ _ _ _ hr27) (by kernel_rfl) rfl rfl rfl fun _ => za <| uab [0,5,7,8,68,72] rfl <| a_one (i := 8) (by kernel_rfl) rfl ?_
    refine cB h fun r28 hr28 h => rc [1] (uce _ _ _ _ hr28) (by kernel_rfl) rfl rfl rfl fun _ => za <| uab [0,5,7,8,73] rfl <| uah (i := 9) (t := ti r28.1) (uaa (uaa uac)) rfl (by kernel_rfl) (by kernel_rfl) (by kernel_rfl) (uaf tabOk rfl) rfl ?_
    refine a_end (by kernel_rfl) ?_
    exact zt <| uab [0,5,7,8,10] rfl <| by exact uai (r28.1, r28.2) () h rfl rfl
   refine yl 3 ((.fst .here)) ty3 rfl rfl rfl trivial rfl <| za <| uab [0,5,7,8,67,69,71] rfl ?_
   refine a_two (i := 3) (j := 7) (by kernel_rfl) rfl rfl ?_ ?_
   ·refine yl 1 ((.fst .here)) ty23 rfl rfl rfl trivial rfl <| za <| uab [0,5,7,8,68,69,71] rfl <| a_one (i := 7) (by kernel_rfl) rfl ?_
    refine cB h fun r27 hr27 h => rcT hT [1] (uar _ _ _ _ _ _ hr27) (by kernel_rfl) rfl rfl rfl fun _ => za <| uab [0,5,7,8,68,72] rfl <| a_one (i := 8) (by kernel_rfl) rfl ?_
    refine cB h fun r28 hr28 h => rc [1] (uce _ _ _ _ hr28) (by kernel_rfl) rfl rfl rfl fun _ => za <| uab [0,5,7,8,73] rfl <| uah (i := 9) (t := ti r28.1) (uaa (uaa uac)) rfl (by kernel_rfl) (by kernel_rfl) (by kernel_rfl) (uaf tabOk rfl) rfl ?_
    refine a_end (by kernel_rfl) ?_
    exact zt <| uab [0,5,7,8,10] rfl <| by exact uai (r28.1, r28.2) () h rfl rfl
   refine cB h fun r27 hr27 h => rcT hT [1] (uar _ _ _ _ _ _ hr27) (by kernel_rfl) rfl rfl rfl fun _ => za <| uab [0,5,7,8,67,72] rfl <| a_one (i := 3) (by kernel_rfl) rfl ?_
   refine yl 0 ((.fst .here)) ty23 rfl rfl rfl trivial rfl <| za <| uab [0,5,7,8,68,72] rfl <| a_one (i := 8) (by kernel_rfl) rfl ?_
   refine cB h fun r28 hr28 h => rc [1] (uce _ _ _ _ hr28) (by kernel_rfl) rfl rfl rfl fun _ => za <| uab [0,5,7,8,73] rfl <| uah (i := 9) (t := ti r28.1) (uaa (uaa uac)) rfl (by kernel_rfl) (by kernel_rfl) (by kernel_rfl) (uaf tabOk rfl) rfl ?_
   refine a_end (by kernel_rfl) ?_
   exact zt <| uab [0,5,7,8,10] rfl <| by exact uai (r28.1, r28.2) () h rfl rfl
  refine yl 3 ((.fst .here)) ty3 rfl rfl rfl trivial rfl <| za <| uab [0,5,7,8,65,69,71] rfl ?_
  refine a_two (i := 1) (j := 7) (by kernel_rfl) rfl rfl ?_ ?_
  ·refine q 1 [(66, ptr b2 0), (69, ptr b2 0), (71, ti r5.1.1)] [0,5,7,8] rfl <| za <| uab [0,5,7,8,66,69,71] rfl <| uah (i := 2) (t := ptr b2 0) (uaa (uaa uac)) rfl (by kernel_rfl) (by kernel_rfl) (by kernel_rfl) (uaf tabOk rfl) rfl ?_
   refine a_two (i := 3) (j := 7) (by kernel_rfl) rfl rfl ?_ ?_
   ·refine yl 1 ((.fst .here)) ty23 rfl rfl rfl trivial rfl <| za <| uab [0,5,7,8,68,69,71] rfl <| a_one (i := 7) (by kernel_rfl) rfl ?_
    refine cB h fun r27 hr27 h => rcT hT [1] (uar _ _ _ _ _ _ hr27) (by kernel_rfl) rfl rfl rfl fun _ => za <| uab [0,5,7,8,68,72] rfl <| a_one (i := 8) (by kernel_rfl) rfl ?_
    refine cB h fun r28 hr28 h => rc [1] (uce _ _ _ _ hr28) (by kernel_rfl) rfl rfl rfl fun _ => za <| uab [0,5,7,8,73] rfl <| uah (i := 9) (t := ti r28.1) (uaa (uaa uac)) rfl (by kernel_rfl) (by kernel_rfl) (by kernel_rfl) (uaf tabOk rfl) rfl ?_
    refine a_end (by kernel_rfl) ?_
    exact zt <| uab [0,5,7,8,10] rfl <| by exact uai (r28.1, r28.2) () h rfl rfl
   refine cB h fun r27 hr27 h => rcT hT [1] (uar _ _ _ _ _ _ hr27) (by kernel_rfl) rfl rfl rfl fun _ => za <| uab [0,5,7,8,67,72] rfl <| a_one (i := 3) (by kernel_rfl) rfl ?_
   refine yl 0 ((.fst .here)) ty23 rfl rfl rfl trivial rfl <| za <| uab [0,5,7,8,68,72] rfl <| a_one (i := 8) (by kernel_rfl) rfl ?_
   refine cB h fun r28 hr28 h => rc [1] (uce _ _ _ _ hr28) (by kernel_rfl) rfl rfl rfl fun _ => za <| uab [0,5,7,8,73] rfl <| uah (i := 9) (t := ti r28.1) (uaa (uaa uac)) rfl (by kernel_rfl) (by kernel_rfl) (by kernel_rfl) (uaf tabOk rfl) rfl ?_
   refine a_end (by kernel_rfl) ?_
   exact zt <| uab [0,5,7,8,10] rfl <| by exact uai (r28.1, r28.2) () h rfl rfl
  refine cB h fun r27 hr27 h => rcT hT [1] (uar _ _ _ _ _ _ hr27) (by kernel_rfl) rfl rfl rfl fun _ => za <| uab [0,5,7,8,65,72] rfl <| a_one (i := 1) (by kernel_rfl) rfl ?_
  refine p 1 [0,5,7,8,66,72] rfl <| za <| uab [0,5,7,8,66,72] rfl <| uah (i := 2) (t := ptr b2 0) (uaa (uaa uac)) rfl (by kernel_rfl) (by kernel_rfl) (by kernel_rfl) (uaf tabOk rfl) rfl ?_
  refine a_one (i := 3) (by kernel_rfl) rfl ?_
  refine yl 0 ((.fst .here)) ty23 rfl rfl rfl trivial rfl <| za <| uab [0,5,7,8,68,72] rfl <| a_one (i := 8) (by kernel_rfl) rfl ?_
  refine cB h fun r28 hr28 h => rc [1] (uce _ _ _ _ hr28) (by kernel_rfl) rfl rfl rfl fun _ => za <| uab [0,5,7,8,73] rfl <| uah (i := 9) (t := ti r28.1) (uaa (uaa uac)) rfl (by kernel_rfl) (by kernel_rfl) (by kernel_rfl) (uaf tabOk rfl) rfl ?_
  refine a_end (by kernel_rfl) ?_
  exact zt <| uab [0,5,7,8,10] rfl <| by exact uai (r28.1, r28.2) () h rfl rfl
 refine zu <| q 2 [(0, ptr b2 0), (5, ts r4.1), (7, ptr b6 0), (8, tb r5.2), (10, ti o11.1), (75, tb (o11.1 != 0))] [] rfl <| za <| rI h rfl (fun hc h => ?_) fun hc h => ?_
 ·refine zu <| q 4 [(76, ptr b2 0), (79, tb (o11.1 != 40))] [0,7,8,10] rfl <| pk [1,1,0,0] rfl <| uaK (x := a0) (q := p100) ?_
  obtain ⟨b13, e, h⟩ := uao h; rw [e]
  refine bX h fun k14 hk14 h => ?_
  refine ubh (γ := Unit) 6 (fun (o15 : Bool × DiskS) _ => [(10, ti o11.1), (76, ptr b2 0), (85, tb o15.1)]) (fun (o15 : Bool × DiskS) _ => [Res.cls (CLog p100) (.pointer (some ⟨b2, 0, none⟩)) a0, Res.disk Tryz.prog dI p100 o15.2, Res.var b6 77 Y77 r5.1]) k14 r ?_ ?_
  ·rcases Bool.eq_false_or_eq_true b13 with hh | hh
   ·rw [hh] at h ⊢
    rw [if_pos rfl] at h
    exact p 6 [10,76,85] rfl <| zn <| uab [10,76,85] rfl <| zt <| by exact uai (true, o11.2) () h rfl rfl
   rw [hh] at h ⊢
   rw [if_neg (by decide)] at h
   refine p 1 [7,8,10,76,79,80] rfl <| uaI (by rfl) rfl ?_
   refine yl 2 .here ty77 rfl rfl rfl trivial rfl <| q 1 [(81, .one Y77 r5.1), (82, tb r5.2)] [10,76,79,80] rfl <| uaI (by rfl) rfl ?_
   exact cB h fun r16 hr16 h => rcT hT [0,0] (uiK _ _ _ _ _ _ _ hr16) (by kernel_rfl) rfl rfl rfl fun _ => q 2 [(85, tb (r16.1 != 0))] [10,76] rfl <| zn <| uab [10,76,85] rfl <| zt <| by exact uai ((r16.1 != 0), r16.2) () h rfl rfl
  intro o15 _ h
  rw [← hk14] at h
  try dsimp only at h
  refine ubZ fun sv17 => ?_
  refine q 2 [(85, tb o15.1), (87, ptr b2 5)] [10] rfl <| st 0 ((.snd (.snd (.snd (.snd (.snd (.fst .here))))))) ty4 rfl rfl rfl rfl trivial <| zz <| q 2 [(4, ti o11.1)] [] rfl <| zf <| zT <| uaK (x := ((), a0.2.1, a0.2.2.1, a0.2.2.2.1, a0.2.2.2.2.1, o15.1, a0.2.2.2.2.2.2)) (q := p100) ?_
  cases h
  exact uav rfl (.tmp rfl) (fun _ _ g => g) (fun _ _ _ => (.cons_cons _ (.cons_cons _ (.cons _ .slnil))))
 refine zy <| p 3 [0,5,7,8,89,91] rfl <| yl 1 ((.snd (.snd (.snd (.snd (.fst .here)))))) ty2 rfl rfl rfl trivial rfl <| q 3 [(93, ti (IntKind.wrap .i64 (a0.2.2.2.2.1 + 1))), (95, ptr b2 4)] [0,5,7,8] rfl <| st 1 ((.snd (.snd (.snd (.snd (.fst .here)))))) ty2 rfl rfl rfl rfl trivial <| zz <| p 1 [0,5,7,8,96] rfl <| yl 3 ((.snd (.fst .here))) ty3 rfl rfl rfl trivial rfl <| q 4 [(100, ti (IntKind.wrap .i64 (r5.1.2.1 + (List.length r4.1 : Int)))), (101, ptr b6 1)] [0,7,8] rfl <| st 3 ((.snd (.fst .here))) ty3 rfl rfl rfl rfl trivial <| zz <| p 3 [0,7,8,104] rfl <| yl 1 ((.snd (.snd (.snd (.snd (.fst .here)))))) ty2 rfl rfl rfl trivial rfl <| q 1 [(105, ti (IntKind.wrap .i64 (a0.2.2.2.2.1 + 1))), (106, ptr b6 2)] [0,7,8] rfl ?_
 refine st 3 ((.snd (.snd (.fst .here)))) ty2 rfl rfl rfl rfl trivial <| za <| jK h (γ := Value) (fun (o19 : (List (Int × Int × Int × Unit))) g20 => [(0, ptr b2 0), (7, ptr b6 0)]) (fun (o19 : (List (Int × Int × Int × Unit))) g20 => [Res.disk Tryz.prog dI p100 o11.2, Res.var b2 68 (.pair (.raw (.pointer none)) (.pair .str (.pair (.int .i64) (.pair (.raw (.slice none 0 0)) (.pair (.int .i64) (.pair .bool .unit)))))) (p100, a0.2.1, a0.2.2.1, g20, (IntKind.wrap .i64 (a0.2.2.2.2.1 + 1)), a0.2.2.2.2.2.1, a0.2.2.2.2.2.2), Res.own g20 77 Y77 o19, Res.var b6 77 Y77 (r5.1.1, (IntKind.wrap .i64 (r5.1.2.1 + (List.length r4.1 : Int))), (IntKind.wrap .i64 (a0.2.2.2.2.1 + 1)), r5.1.2.2.2)]) (fun k18 h => ?_) fun o19 g20 h => ?_
 ·refine zu <| q 2 [(108, tb (!r5.2))] [0,7] rfl <| za <| rI h rfl (fun hc h => ?_) fun hc h => ?_
  ·refine r_any (by kernel_rfl) ?_
   refine uah (i := 0) (t := ptr b2 0) (uaa uac) rfl (by kernel_rfl) (by kernel_rfl) (by kernel_rfl) (uaf tabOk rfl) rfl ?_
   refine uah (i := 1) (t := ptr b2 0) (uaa uac) rfl (by kernel_rfl) (by kernel_rfl) (by kernel_rfl) (uaf tabOk rfl) rfl ?_
   refine uah (i := 5) (t := ptr b2 0) (uaa uac) rfl (by kernel_rfl) (by kernel_rfl) (by kernel_rfl) (uaf tabOk rfl) rfl ?_
   refine uik (fuel := 2) [2, 3, 4, 6, 7, 8, 9, 10, 11, 12] #[true, true, true, true, true, true, true, true, true, true, true, true, true, false, false] (by kernel_rfl) ?_
   refine uaD tabOk 2 [0, 7, 109, 112, 114] (E' := [(0, ptr b2 0), (7, ptr b6 0), (109, ptr b2 0), (112, ptr b2 3), (114, ptr b2 0)]) rfl ?_
   refine q_y (ubx 1 ((.snd (.snd (.snd (.fst .here))))) rfl rfl (by first | rfl | (simp only [Pth.off, T.size]; omega)) (uaw (uaw (uaw (uaC uam)))) tx2) rfl ?_
   refine uaD tabOk 2 [0, 7, 109, 113, 116] (E' := [(0, ptr b2 0), (7, ptr b6 0), (109, ptr b2 0), (113, .one (.raw (.slice none 0 0)) sv7), (116, ptr b2 3)]) rfl ?_
   refine q_y (ubx 1 ((.snd (.snd (.snd (.fst .here))))) rfl rfl (by first | rfl | (simp only [Pth.off, T.size]; omega)) (uaw (uaw (uaw (uaC uam)))) tx2) rfl ?_
   refine q_y (uaZ tabOk 2 rfl rfl rfl) rfl ?_
   refine uaD tabOk 1 [0, 7, 109, 113, 119] (E' := [(0, ptr b2 0), (7, ptr b6 0), (109, ptr b2 0), (113, .one (.raw (.slice none 0 0)) sv7), (119, ti (IntKind.wrap .i64 ((List.length a0.2.2.2.1 : Int) - 1)))]) rfl ?_
   obtain ⟨hs26, h⟩ := ubo h
   refine q_y (udv tabOk (i := (0 : Int)) (j := (IntKind.wrap .i64 ((List.length a0.2.2.2.1 : Int) - 1))) rfl (ubX 2 rfl) rfl rfl hs26.1 hs26.2.1 hs26.2.2 rfl ty77) rfl ?_
   refine uaD tabOk 1 [0, 7, 120, 121] (E' := [(0, ptr b2 0), (7, ptr b6 0), (120, .one (.raw (.slice none 0 0)) (subv (T.size Y77) sv7 (Int.toNat (0 : Int)) (Int.toNat (IntKind.wrap .i64 ((List.length a0.2.2.2.1 : Int) - 1))))), (121, ptr b2 0)]) rfl ?_
   refine q_nil ?_
   refine uab [0,7,120,121] rfl <| uah (i := 13) (t := ptr b2 3) (uaa uac) rfl (by kernel_rfl) (by kernel_rfl) (by kernel_rfl) (uaf tabOk rfl) rfl ?_
   refine a_one (i := 14) (by kernel_rfl) rfl ?_
   refine uhS (j := (Int.toNat (IntKind.wrap .i64 ((List.length a0.2.2.2.1 : Int) - 1)))) 2 rfl (by have := hs26.2.2; omega) ?_
   refine st 1 ((.snd (.snd (.snd (.fst .here))))) tx2 rfl rfl rfl rfl trivial <| za <| uab [0,7] rfl <| a_end (by kernel_rfl) ?_
   exact zt <| uab [0,7] rfl <| by exact uai (List.take (Int.toNat (IntKind.wrap .i64 ((List.length a0.2.2.2.1 : Int) - 1))) a0.2.2.2.1) (subv (T.size Y77) sv7 0 (Int.toNat (IntKind.wrap .i64 ((List.length a0.2.2.2.1 : Int) - 1)))) h rfl rfl
  exact zk <| zt <| uab [0,7] rfl <| by exact uai a0.2.2.2.1 sv7 h rfl rfl
 refine jK h (γ := Value) (fun (o22 : (List (Int × Int × Int × Unit))) g23 => []) (fun (o22 : (List (Int × Int × Int × Unit))) g23 => [Res.disk Tryz.prog dI p100 o11.2, Res.var b2 68 (.pair (.raw (.pointer none)) (.pair .str (.pair (.int .i64) (.pair (.raw (.slice none 0 0)) (.pair (.int .i64) (.pair .bool .unit)))))) (p100, a0.2.1, a0.2.2.1, g23, (IntKind.wrap .i64 (a0.2.2.2.2.1 + 1)), a0.2.2.2.2.2.1, a0.2.2.2.2.2.2), Res.own g23 77 Y77 o22, Res.var b6 77 Y77 (r5.1.1, (IntKind.wrap .i64 (r5.1.2.1 + (List.length r4.1 : Int))), (IntKind.wrap .i64 (a0.2.2.2.2.1 + 1)), r5.1.2.2.2)]) (fun k21 h => ?_) fun o22 g23 h => ?_
 ·refine r_any (by kernel_rfl) ?_
  refine uah (i := 0) (t := ptr b2 0) (uaa uac) rfl (by kernel_rfl) (by kernel_rfl) (by kernel_rfl) (uaf tabOk rfl) rfl ?_
  refine uah (i := 1) (t := ptr b2 0) (uaa uac) rfl (by kernel_rfl) (by kernel_rfl) (by kernel_rfl) (uaf tabOk rfl) rfl ?_
  refine a_two (i := 2) (j := 5) (by kernel_rfl) rfl rfl ?_ ?_
  ·refine p 1 [7,123,125] rfl <| za <| uab [7,123,125] rfl <| uah (i := 3) (t := ptr b2 3) (uaa uac) rfl (by kernel_rfl) (by kernel_rfl) (by kernel_rfl) (uaf tabOk rfl) rfl ?_
   refine a_two (i := 4) (j := 5) (by kernel_rfl) rfl rfl ?_ ?_
   ·refine yl 1 ((.snd (.snd (.snd (.fst .here))))) tx2 rfl rfl rfl trivial rfl <| za <| uab [7,123,127] rfl <| a_one (i := 5) (by kernel_rfl) rfl ?_
    refine yl 3 .here ty77 rfl rfl rfl trivial rfl <| za <| uab [123,127,128] rfl <| a_one (i := 6) (by kernel_rfl) rfl ?_
    refine ub7 (B := 24) tabOk rfl el77 rfl rfl rfl (.cons rfl .nil) rfl fun v24 => ?_
    refine za <| uab [123,127,129] rfl <| a_one (i := 7) (by kernel_rfl) rfl ?_
    refine iE h fun hc h => ubd (B := 24) tabOk 3 rfl rfl (uca 0 rfl rfl) rfl el77 rfl rfl hc rfl fun v25 => ?_
    refine pk [1,1,1,1] rfl <| za <| uab [123,130] rfl <| a_one (i := 8) (by kernel_rfl) rfl ?_
    refine p 1 [130,131] rfl <| za <| uab [130,131] rfl <| uah (i := 9) (t := ptr b2 3) (uaa uac) rfl (by kernel_rfl) (by kernel_rfl) (by kernel_rfl) (uaf tabOk rfl) rfl ?_
    refine a_one (i := 10) (by kernel_rfl) rfl ?_
    refine st 1 ((.snd (.snd (.snd (.fst .here))))) tx2 rfl rfl rfl rfl trivial <| za <| uab [] rfl <| a_end (by kernel_rfl) ?_
    exact zt <| uab [] rfl <| by exact uai (o19 ++ [(r5.1.1, (IntKind.wrap .i64 (r5.1.2.1 + (List.length r4.1 : Int))), (IntKind.wrap .i64 (a0.2.2.2.2.1 + 1)), r5.1.2.2.2)]) v25 h rfl rfl
   refine yl 3 .here ty77 rfl rfl rfl trivial rfl <| za <| uab [123,126,128] rfl ?_
   refine a_two (i := 4) (j := 6) (by kernel_rfl) rfl rfl ?_ ?_
   ·refine yl 1 ((.snd (.snd (.snd (.fst .here))))) tx2 rfl rfl rfl trivial rfl <| za <| uab [123,127,128] rfl <| a_one (i := 6) (by kernel_rfl) rfl ?_
    refine ub7 (B := 24) tabOk rfl el77 rfl rfl rfl (.cons rfl .nil) rfl fun v24 => ?_
    refine za <| uab [123,127,129] rfl <| a_one (i := 7) (by kernel_rfl) rfl ?_
    refine iE h fun hc h => ubd (B := 24) tabOk 3 rfl rfl (uca 0 rfl rfl) rfl el77 rfl rfl hc rfl fun v25 => ?_
    refine pk [1,1,1,1] rfl <| za <| uab [123,130] rfl <| a_one (i := 8) (by kernel_rfl) rfl ?_
    refine p 1 [130,131] rfl <| za <| uab [130,131] rfl <| uah (i := 9) (t := ptr b2 3) (uaa uac) rfl (by kernel_rfl) (by kernel_rfl) (by kernel_rfl) (uaf tabOk rfl) rfl ?_
    refine a_one (i := 10) (by kernel_rfl) rfl ?_
    refine st 1 ((.snd (.snd (.snd (.fst .here))))) tx2 rfl rfl rfl rfl trivial <| za <| uab [] rfl <| a_end (by kernel_rfl) ?_
    exact zt <| uab [] rfl <| by exact uai (o19 ++ [(r5.1.1, (IntKind.wrap .i64 (r5.1.2.1 + (List.length r4.1 : Int))), (IntKind.wrap .i64 (a0.2.2.2.2.1 + 1)), r5.1.2.2.2)]) v25 h rfl rfl
   refine ub7 (B := 24) tabOk rfl el77 rfl rfl rfl (.cons rfl .nil) rfl fun v24 => ?_
   refine za <| uab [123,126,129] rfl <| a_one (i := 4) (by kernel_rfl) rfl ?_
   refine yl 2 ((.snd (.snd (.snd (.fst .here))))) tx2 rfl rfl rfl trivial rfl <| za <| uab [123,127,129] rfl <| a_one (i := 7) (by kernel_rfl) rfl ?_
   refine iE h fun hc h => ubd (B := 24) tabOk 3 rfl rfl (uca 0 rfl rfl) rfl el77 rfl rfl hc rfl fun v25 => ?_
   refine pk [1,1,1,1] rfl <| za <| uab [123,130] rfl <| a_one (i := 8) (by kernel_rfl) rfl ?_
   refine p 1 [130,131] rfl <| za <| uab [130,131] rfl <| uah (i := 9) (t := ptr b2 3) (uaa uac) rfl (by kernel_rfl) (by kernel_rfl) (by kernel_rfl) (uaf tabOk rfl) rfl ?_
   refine a_one (i := 10) (by kernel_rfl) rfl ?_
   refine st 1 ((.snd (.snd (.snd (.fst .here))))) tx2 rfl rfl rfl rfl trivial <| za <| uab [] rfl <| a_end (by kernel_rfl) ?_
   exact zt <| uab [] rfl <| by exact uai (o19 ++ [(r5.1.1, (IntKind.wrap .i64 (r5.1.2.1 + (List.length r4.1 : Int))), (IntKind.wrap .i64 (a0.2.2.2.2.1 + 1)), r5.1.2.2.2)]) v25 h rfl rfl
  refine yl 3 .here ty77 rfl rfl rfl trivial rfl <| za <| uab [123,124,128] rfl ?_
  refine a_two (i := 2) (j := 6) (by kernel_rfl) rfl rfl ?_ ?_
  ·refine q 1 [(123, ptr b2 0), (125, ptr b2 0), (128, .one Y77 (r5.1.1, (IntKind.wrap .i64 (r5.1.2.1 + (List.length r4.1 : Int))), (IntKind.wrap .i64 (a0.2.2.2.2.1 + 1)), r5.1.2.2.2))] [] rfl <| za <| uab [123,125,128] rfl <| uah (i := 3) (t := ptr b2 3) (uaa uac) rfl (by kernel_rfl) (by kernel_rfl) (by kernel_rfl) (uaf tabOk rfl) rfl ?_
   refine a_two (i := 4) (j := 6) (by kernel_rfl) rfl rfl ?_ ?_
   ·refine yl 1 ((.snd (.snd (.snd (.fst .here))))) tx2 rfl rfl rfl trivial rfl <| za <| uab [123,127,128] rfl <| a_one (i := 6) (by kernel_rfl) rfl ?_
    refine ub7 (B := 24) tabOk rfl el77 rfl rfl rfl (.cons rfl .nil) rfl fun v24 => ?_
    refine za <| uab [123,127,129] rfl <| a_one (i := 7) (by kernel_rfl) rfl ?_
    refine iE h fun hc h => ubd (B := 24) tabOk 3 rfl rfl (uca 0 rfl rfl) rfl el77 rfl rfl hc rfl fun v25 => ?_
    refine pk [1,1,1,1] rfl <| za <| uab [123,130] rfl <| a_one (i := 8) (by kernel_rfl) rfl ?_
    refine p 1 [130,131] rfl <| za <| uab [130,131] rfl <| uah (i := 9) (t := ptr b2 3) (uaa uac) rfl (by kernel_rfl) (by kernel_rfl) (by kernel_rfl) (uaf tabOk rfl) rfl ?_
    refine a_one (i := 10) (by kernel_rfl) rfl ?_
    refine st 1 ((.snd (.snd (.snd (.fst .here))))) tx2 rfl rfl rfl rfl trivial <| za <| uab [] rfl <| a_end (by kernel_rfl) ?_
    exact zt <| uab [] rfl <| by exact uai (o19 ++ [(r5.1.1, (IntKind.wrap .i64 (r5.1.2.1 + (List.length r4.1 : Int))), (IntKind.wrap .i64 (a0.2.2.2.2.1 + 1)), r5.1.2.2.2)]) v25 h rfl rfl
   refine ub7 (B := 24) tabOk rfl el77 rfl rfl rfl (.cons rfl .nil) rfl fun v24 => ?_
   refine za <| uab [123,126,129] rfl <| a_one (i := 4) (by kernel_rfl) rfl ?_
   refine yl 2 ((.snd (.snd (.snd (.fst .here))))) tx2 rfl rfl rfl trivial rfl <| za <| uab [123,127,129] rfl <| a_one (i := 7) (by kernel_rfl) rfl ?_
   refine iE h fun hc h => ubd (B := 24) tabOk 3 rfl rfl (uca 0 rfl rfl) rfl el77 rfl rfl hc rfl fun v25 => ?_
   refine pk [1,1,1,1] rfl <| za <| uab [123,130] rfl <| a_one (i := 8) (by kernel_rfl) rfl ?_
   refine p 1 [130,131] rfl <| za <| uab [130,131] rfl <| uah (i := 9) (t := ptr b2 3) (uaa uac) rfl (by kernel_rfl) (by kernel_rfl) (by kernel_rfl) (uaf tabOk rfl) rfl ?_
   refine a_one (i := 10) (by kernel_rfl) rfl ?_
   refine st 1 ((.snd (.snd (.snd (.fst .here))))) tx2 rfl rfl rfl rfl trivial <| za <| uab [] rfl <| a_end (by kernel_rfl) ?_
   exact zt <| uab [] rfl <| by exact uai (o19 ++ [(r5.1.1, (IntKind.wrap .i64 (r5.1.2.1 + (List.length r4.1 : Int))), (IntKind.wrap .i64 (a0.2.2.2.2.1 + 1)), r5.1.2.2.2)]) v25 h rfl rfl
  refine ub7 (B := 24) tabOk rfl el77 rfl rfl rfl (.cons rfl .nil) rfl fun v24 => ?_
  refine za <| uab [123,124,129] rfl <| a_one (i := 2) (by kernel_rfl) rfl ?_
  refine p 1 [123,125,129] rfl <| za <| uab [123,125,129] rfl <| uah (i := 3) (t := ptr b2 3) (uaa uac) rfl (by kernel_rfl) (by kernel_rfl) (by kernel_rfl) (uaf tabOk rfl) rfl ?_
  refine a_one (i := 4) (by kernel_rfl) rfl ?_
  refine yl 2 ((.snd (.snd (.snd (.fst .here))))) tx2 rfl rfl rfl trivial rfl <| za <| uab [123,127,129] rfl <| a_one (i := 7) (by kernel_rfl) rfl ?_
  refine iE h fun hc h => ubd (B := 24) tabOk 3 rfl rfl (uca 0 rfl rfl) rfl el77 rfl rfl hc rfl fun v25 => ?_
  refine pk [1,1,1,1] rfl <| za <| uab [123,130] rfl <| a_one (i := 8) (by kernel_rfl) rfl ?_
  refine p 1 [130,131] rfl <| za <| uab [130,131] rfl <| uah (i := 9) (t := ptr b2 3) (uaa uac) rfl (by kernel_rfl) (by kernel_rfl) (by kernel_rfl) (uaf tabOk rfl) rfl ?_
  refine a_one (i := 10) (by kernel_rfl) rfl ?_
  refine st 1 ((.snd (.snd (.snd (.fst .here))))) tx2 rfl rfl rfl rfl trivial <| za <| uab [] rfl <| a_end (by kernel_rfl) ?_
  exact zt <| uab [] rfl <| by exact uai (o19 ++ [(r5.1.1, (IntKind.wrap .i64 (r5.1.2.1 + (List.length r4.1 : Int))), (IntKind.wrap .i64 (a0.2.2.2.2.1 + 1)), r5.1.2.2.2)]) v25 h rfl rfl
 refine zu <| p 1 [4] rfl <| zf <| pk [1,1,0,0] rfl <| uaK (x := ((), a0.2.1, a0.2.2.1, o22, (IntKind.wrap .i64 (a0.2.2.2.2.1 + 1)), a0.2.2.2.2.2.1, a0.2.2.2.2.2.2)) (q := p100) ?_
 cases h
 exact uav rfl (.tmp rfl) (fun _ _ g => g) (fun _ _ _ => (.cons_cons _ (.cons_cons _ (.cons _ .slnil))))

theorem uds (p0 : Value) (a0 : DiskS) (a1 : Int) (r : DiskS) (h : ucN a0 a1 = some r) : Fn Tryz.prog 20 [tp p0, ti a1] [Res.disk Tryz.prog dI p0 a0] (fun _ => .tup []) (fun _ => [Res.disk Tryz.prog dI p0 r]) := by
 unfold ucN at h
 refine enter Tryz.func20 rfl 9 rfl rfl fun F => ?_
 refine ucK fun b2 mv1 hp => ?_
 subst hp
 refine zr <| p 2 [4,5] rfl <| y (y_max rfl rfl) rfl ?_
 refine p 2 [6,8] rfl <| st 0 ((.snd (.snd (.snd (.snd (.fst .here)))))) ty3 rfl rfl rfl rfl trivial <| zn <| ua3 (P := Tryz.prog) (I := dI) (D := (a0.1, a0.2.1, a0.2.2.1, a0.2.2.2.1, (max a1 0), a0.2.2.2.2.2.1, a0.2.2.2.2.2.2)) ?_
 cases h
 exact ugL rfl (fun _ => ubr [] .nil) ((.cons_cons _ .slnil))

theorem ui4 (a0 : List (List Int × Int × Int × List Int × Unit)) (a1 : List Int) (a2 : Int) (r : (List Int × Int × Int × List Int × Unit)) (h : ubg a0 a1 a2 = some r) : Pure Tryz.prog 53 [.one (.sl 107 Y107) a0, ts a1, ti a2] (.one Y107 r) := by
 unfold ubg at h
 refine enter Tryz.func53 rfl 28 rfl rfl fun F => ?_
 refine zu <| ubK (t := Y107) rfl zf107 rfl fun b1 => za <| jK h (γ := Unit) (fun (o3 : Unit) _ => [(6, ptr b1 0)]) (fun (o3 : Unit) _ => [Res.var b1 107 Y107 ([], 0, 0, [], ())]) (fun k2 h => ?_) fun o3 gg h => ?_
 ·refine zu <| q 3 [(1, ts a1), (2, ti a2), (6, ptr b1 0), (9, .one (.sl 107 Y107) a0), (10, ti (List.length a0 : Int)), (11, ti 0)] [] rfl <| za <| zb <| uab [1,2,6,9,10,11] rfl <| ubv (γ := Unit) (fun (s5 : Int) _ => [(1, ts a1), (2, ti a2), (6, ptr b1 0), (9, .one (.sl 107 Y107) a0), (10, ti (List.length a0 : Int)), (11, ti s5)]) (fun (s5 : Int) _ => [Res.var b1 107 Y107 ([], 0, 0, [], ())]) (ubq a0 a1 a2 k2) 0 () h rfl rfl ?_
  clear h
  intro m6 s5 gg h
  cases m6 with
  | zero => cases h
  | succ m6 =>
  simp only [ubq] at h
  refine zu <| q 1 [(11, ti s5), (12, tb (decide (s5 < (List.length a0 : Int))))] [1,2,6,9,10] rfl <| za <| zs <| rI h rfl (fun hc h => ?_) fun hc h => ?_
  ·refine zk <| zt <| zs <| zb <| zu <| iE h fun hc h => y (ue5 tabOk rfl rfl hc.1 hc.2 rfl ty107) rfl ?_
   refine y (y_ref rfl ty107) rfl ?_
   refine ubK (t := Y107) rfl zf107 rfl fun b7 => st 0 .here ty107 rfl rfl rfl rfl trivial <| zz <| p 1 [1,2,6,8,9,10,11,15] rfl <| yl 0 ((.fst .here)) ty9 rfl rfl rfl trivial rfl <| q 3 [(19, tb (((List.getD a0 (Int.toNat s5) ([], 0, 0, [], ())).1) == a1))] [1,2,6,8,9,10,11] rfl ?_
   obtain ⟨b8, e, h⟩ := uao h; rw [e]
   refine uaG (γ := Unit) 5 (fun _ => [(1, ts a1), (2, ti a2), (6, ptr b1 0), (8, ptr b7 0), (9, .one (.sl 107 Y107) a0), (10, ti (List.length a0 : Int)), (11, ti s5), (24, tb (b8 && (((List.getD a0 (Int.toNat s5) ([], 0, 0, [], ())).2.1) == a2)))]) (fun _ => [Res.var b7 107 Y107 (List.getD a0 (Int.toNat s5) ([], 0, 0, [], ())), Res.var b1 107 Y107 ([], 0, 0, [], ())]) ?_ (fun _ => ?_)
   ·clear h
    cases b8
    ·exact p 5 [1,2,6,8,9,10,11,24] rfl <| za <| by exact uau () rfl rfl
    refine p 1 [1,2,6,8,9,10,11,19,20] rfl <| uaI (by rfl) rfl ?_
    exact yl 0 ((.snd (.fst .here))) ty3 rfl rfl rfl trivial rfl <| q 3 [(24, tb (((List.getD a0 (Int.toNat s5) ([], 0, 0, [], ())).2.1) == a2))] [1,2,6,8,9,10,11] rfl <| uab [1,2,6,8,9,10,11,24] rfl <| za <| by exact uau () rfl rfl
   exact za <| rI h rfl (fun hc h => zu <| yl 0 .here ty107 rfl rfl rfl trivial rfl <| st 1 .here ty107 rfl rfl rfl rfl trivial <| zf <| zB <| zT <| zT <| zB <| zT <| by cases h; exact uav rfl (.cell 1 .here rfl rfl (by first | rfl | (simp only [Pth.off, T.size]; omega)) uam ty107) (fun _ _ g => g) (fun _ _ _ => List.nil_sublist _)) fun hc h => zk <| zi <| zt <| zr <| p 2 [1,2,6,9,10,11] rfl <| za <| pk [1] rfl <| uab [1,2,6,9,10,11] rfl <| by exact ubp (IntKind.wrap .i64 (s5 + 1)) () (Nat.lt_succ_self _) h rfl rfl
  exact zx <| ze <| ze <| zq <| zt <| uab [6] rfl <| by exact uai () () h rfl rfl
 refine zu <| y (udN rfl zf107 rfl rfl .nil) rfl ?_
 refine st 0 .here ty107 rfl rfl rfl rfl trivial <| zf ?_
 cases h
 exact uav rfl (.cell 0 .here rfl rfl (by first | rfl | (simp only [Pth.off, T.size]; omega)) uam ty107) (fun _ _ g => g) (fun _ _ _ => List.nil_sublist _)

theorem uhp (p0 : Value) (a0 : FileS) (a1 : List Int) (a2 : List (List Int × Int × Int × List Int × Unit)) (r : FileS) (h : ubm a0 a1 a2 = some r) : Fn Tryz.prog 34 [tp p0, ts a1, .one (.sl 107 Y107) a2] [Res.file Tryz.prog dI p0 a0] (fun _ => .tup []) (fun _ => [Res.file Tryz.prog dI p0 r]) := by
 unfold ubm at h
 refine enter Tryz.func34 rfl 142 rfl rfl fun F => ?_
 refine ukl fun b4 sv1 tv2 dv3 hp => ?_
 subst hp
 refine zu <| p 3 [0,1,2,18] rfl <| yl 0 ((.snd (.fst .here))) tx1 rfl rfl rfl trivial rfl <| y (uaZ tabOk 2 rfl rfl rfl) rfl ?_
 refine q 1 [(6, ti (List.length a0.2.1 : Int))] [0,1,2] rfl ?_
 obtain ⟨size5, e, h⟩ := uao h; rw [e]
 refine zz <| ue7 3 (.int .i64) Y107 rfl fun v6 => ?_
 refine p 1 [0,1,2,6,7] rfl <| za <| jK h (γ := Unit) (fun (o8 : Int × (List (Int × (List Int × Int × Int × List Int × Unit)))) _ => [(0, ptr b4 0), (6, ti o8.1), (7, .one (.raw (.map none)) v6)]) (fun (o8 : Int × (List (Int × (List Int × Int × Int × List Int × Unit)))) _ => [Res.dirty Tryz.prog dI dv3 a0.2.2, Res.map Tryz.prog 3 (.int .i64) Y107 v6 o8.2, Res.var b4 60 FT (sv1, tv2, dv3, ()), Res.own sv1 5 (.int .u8) a0.1, Res.own tv2 5 (.int .u8) a0.2.1]) (fun k7 h => ?_) fun o8 gg h => ?_
 ·refine zu <| p 3 [0,1,2,6,7,24] rfl <| yl 1 ((.snd (.snd (.fst .here)))) ty58 rfl rfl rfl trivial rfl <| pk [4,0,0,0,0] rfl <| unY (P := Tryz.prog) (I := dI) kint rfl Tryz.underlying58 rfl fun it54 hn55 => ?_
  refine za <| zb <| cB h fun rr hall h => uab [0,1,2,6,7,26] rfl <| ufS (step := uaO a0 a1 a2) (fun s l => l.Nodup ∧ ∀ k ∈ l, pget (.int .i64) k s.2 = none) (uf1 a0 a1 a2) hn55 ⟨hn55, fun _ _ => rfl⟩ hall (γ := Unit) (fun (s58 : Int × (List (Int × (List Int × Int × Int × List Int × Unit)))) _ => [(0, ptr b4 0), (1, ts a1), (2, .one (.sl 107 Y107) a2), (6, ti s58.1), (7, .one (.raw (.map none)) v6), (26, tp it54)]) (fun todo60 (s58 : Int × (List (Int × (List Int × Int × Int × List Int × Unit)))) _ => [Res.kiter Tryz.prog dI dv3 it54 a0.2.2 todo60 none, Res.map Tryz.prog 3 (.int .i64) Y107 v6 s58.2, Res.var b4 60 FT (sv1, tv2, dv3, ()), Res.own sv1 5 (.int .u8) a0.1, Res.own tv2 5 (.int .u8) a0.2.1]) () rfl rfl fun todo60 s58 gg hend hone => ?_
  refine zu ?_
  refine uoJ (P := Tryz.prog) (I := dI) kint rfl rfl (fun ht => ?_) (fun A61 k62 B63 c65 htk62 hk => ?_)
  ·obtain rfl := hend ht
   refine uma ?_
   refine q 1 [(6, ti s58.1), (28, tb false)] [0,1,2,7] rfl <| za <| zs ?_
   refine r_if (b := false) rfl (fun hc => ?_) (fun hc => ?_)
   ·cases hc
   exact zx <| ze <| ze <| zq <| zt <| uab [0,6,7] rfl <| by exact uai (s58.1, s58.2) () h rfl rfl
  obtain ⟨sk62, hsk62⟩ := hone A61 k62 B63 htk62
  clear h
  have h := hsk62
  unfold uaO at h
  refine q 1 [(6, ti s58.1), (26, tp it54), (28, tb true)] [0,1,2,7] rfl <| za <| zs ?_
  refine r_if (b := true) rfl (fun hc => ?_) (fun hc => ?_)
  ·refine zk <| zt <| zb <| zu <| unZ (P := Tryz.prog) (I := dI) rfl 0 rfl rfl fun c66 => ?_
   refine p 2 [0,1,2,6,7,8,26] rfl <| zz <| p 3 [0,1,2,6,7,8,26,31,32,33] rfl <| cB h fun r67 hr67 h => ubk (ui4 _ _ _ _ hr67) (by kernel_rfl) rfl rfl <| ubK (t := Y107) rfl zf107 rfl fun b68 => st 0 .here ty107 rfl rfl rfl rfl trivial <| zz <| p 2 [0,1,2,6,7,8,9,26,35,36] rfl <| yl 0 .here ty107 rfl rfl rfl trivial rfl <| iE h fun hc h => uea 2 rfl rfl rfl rfl ktc3 Tryz.underlying105 hc ?_
   refine zz <| p 1 [0,1,2,6,7,8,9,26,38] rfl <| yl 0 ((.snd (.snd (.fst .here)))) ty3 rfl rfl rfl trivial rfl <| q 2 [(41, tb (r67.2.2.1 == 1))] [0,1,2,6,7,8,9,26] rfl ?_
   obtain ⟨b69, e, h⟩ := uao h; rw [e]
   refine uaG (γ := Unit) 4 (fun _ => [(0, ptr b4 0), (1, ts a1), (2, .one (.sl 107 Y107) a2), (6, ti s58.1), (7, .one (.raw (.map none)) v6), (8, ti k62), (26, tp it54), (45, tb (b69 || (r67.2.2.1 == 2)))]) (fun _ => [Res.var b68 107 Y107 r67, Res.kiter Tryz.prog dI dv3 it54 a0.2.2 (A61 ++ B63) (some k62), Res.map Tryz.prog 3 (.int .i64) Y107 v6 (pput (.int .i64) k62 r67 s58.2), Res.var b4 60 FT (sv1, tv2, dv3, ()), Res.own sv1 5 (.int .u8) a0.1, Res.own tv2 5 (.int .u8) a0.2.1]) ?_ (fun _ => ?_)
   ·clear h
    cases b69
    ·refine p 1 [0,1,2,6,7,8,26,41,42] rfl <| uaI (by rfl) rfl ?_
     exact yl 0 ((.snd (.snd (.fst .here)))) ty3 rfl rfl rfl trivial rfl <| q 2 [(45, tb (r67.2.2.1 == 2))] [0,1,2,6,7,8,26] rfl <| uab [0,1,2,6,7,8,26,45] rfl <| za <| by exact uau () rfl rfl
    exact p 4 [0,1,2,6,7,8,26,45] rfl <| za <| by exact uau () rfl rfl
   refine za <| rI h rfl (fun hc h => ?_) fun hc h => ?_
   ·refine zr <| q 7 [(46, ti s58.1), (49, ti (IntKind.wrap .i64 ((IntKind.wrap .i64 (k62 + 1)) * 64))), (52, ptr b4 0)] [0,1,2,7,26] rfl <| yl 3 ((.fst .here)) tx1 rfl rfl rfl trivial rfl <| y (uaZ tabOk 4 rfl rfl rfl) rfl ?_
    refine y (y_min rfl rfl) rfl ?_
    refine y (y_max rfl rfl) rfl ?_
    refine q 1 [(6, ti (max s58.1 (min (IntKind.wrap .i64 ((IntKind.wrap .i64 (k62 + 1)) * 64)) (List.length a0.1 : Int))))] [0,1,2,7,26] rfl ?_
    obtain ⟨size70, e, h⟩ := uao h; rw [e]
    refine zn <| zi <| zt <| pk [1,1,1,1,1] rfl <| uay (R' := Res.kiter Tryz.prog dI dv3 it54 a0.2.2 (A61 ++ B63) none) 0 rfl uip <| uab [0,1,2,6,7,26] rfl ?_
    obtain rfl := Option.some.inj h
    exact uhe () htk62 hsk62 rfl rfl
   refine zk <| zi <| zt <| pk [1,1,1,1,1] rfl <| uay (R' := Res.kiter Tryz.prog dI dv3 it54 a0.2.2 (A61 ++ B63) none) 0 rfl uip <| uab [0,1,2,6,7,26] rfl ?_
   obtain rfl := Option.some.inj h
   exact uhe () htk62 hsk62 rfl rfl
  cases hc
 refine zu <| q 3 [(0, ptr b4 0), (6, ti o8.1), (7, .one (.raw (.map none)) v6), (59, ptr b4 0)] [] rfl <| yl 2 ((.fst .here)) tx1 rfl rfl rfl trivial rfl <| q 1 [(60, .one (.raw (.slice none 0 0)) sv1), (61, ti o8.1)] [0,7] rfl ?_
 obtain ⟨hs9, h⟩ := ubo h
 refine y (udv tabOk (i := (0 : Int)) (j := o8.1) rfl (ubX 3 rfl) rfl rfl hs9.1 hs9.2.1 hs9.2.2 rfl ty5) rfl ?_
 refine cB h fun r10 hr10 h => ufz (ubT (List.take (Int.toNat o8.1) a0.1) _ hr10) (by kernel_rfl) (fun _ => rfl) (fun _ r hr => by rcases List.mem_singleton.1 hr with rfl; exact Res.free_own rfl) (.sub rfl (ues (ubX 3 rfl) hs9.1 hs9.2.1 hs9.2.2) .nil) rfl fun v11 => ?_
 refine p 1 [0,7,10] rfl <| za <| jK h (γ := Value × Value) (fun (o13 : List (Int)) g16 => [(0, ptr b4 0), (10, .one (.raw (.slice none 0 0)) g16.1)]) (fun (o13 : List (Int)) g16 => [Res.own g16.1 5 (.int .u8) o13, Res.dirty Tryz.prog dI dv3 a0.2.2, Res.map Tryz.prog 3 (.int .i64) Y107 v6 o8.2, Res.var b4 60 FT (sv1, g16.2, dv3, ()), Res.own sv1 5 (.int .u8) a0.1, Res.own g16.2 5 (.int .u8) a0.2.1]) (fun k12 h => ?_) fun o13 g16 h => ?_
 ·refine zu <| p 1 [0,7,10,64] rfl <| y (uaZ tabOk 0 rfl rfl rfl) rfl ?_
  refine q 1 [(65, ti (List.length r10 : Int)), (66, ti 0)] [0,7,10] rfl <| za <| zb <| uab [0,7,10,65,66] rfl <| ubv (γ := Value × Value) (fun (s25 : Int × List (Int)) g28 => [(0, ptr b4 0), (7, .one (.raw (.map none)) v6), (10, .one (.raw (.slice none 0 0)) g28.1), (65, ti (List.length r10 : Int)), (66, ti s25.1)]) (fun (s25 : Int × List (Int)) g28 => [Res.own g28.1 5 (.int .u8) s25.2, Res.dirty Tryz.prog dI dv3 a0.2.2, Res.map Tryz.prog 3 (.int .i64) Y107 v6 o8.2, Res.var b4 60 FT (sv1, g28.2, dv3, ()), Res.own sv1 5 (.int .u8) a0.1, Res.own g28.2 5 (.int .u8) a0.2.1]) (uaW a0 o8 r10 k12) (0, r10) (v11, tv2) h rfl rfl ?_
  clear h
  intro m29 s25 g28 h
  cases m29 with
  | zero => cases h
  | succ m29 =>
  simp only [uaW] at h
  refine zu <| q 1 [(10, .one (.raw (.slice none 0 0)) g28.1), (66, ti s25.1), (67, tb (decide (s25.1 < (List.length r10 : Int))))] [0,7,65] rfl <| za <| zs <| rI h rfl (fun hc h => ?_) fun hc h => ?_
  ·refine zk <| zt <| jK h (γ := Value × Value) (fun (o31 : List (Int)) g34 => [(0, ptr b4 0), (7, .one (.raw (.map none)) v6), (10, .one (.raw (.slice none 0 0)) g34.1), (65, ti (List.length r10 : Int)), (66, ti s25.1)]) (fun (o31 : List (Int)) g34 => [Res.own g34.1 5 (.int .u8) o31, Res.dirty Tryz.prog dI dv3 a0.2.2, Res.map Tryz.prog 3 (.int .i64) Y107 v6 o8.2, Res.var b4 60 FT (sv1, g34.2, dv3, ()), Res.own sv1 5 (.int .u8) a0.1, Res.own g34.2 5 (.int .u8) a0.2.1]) (fun k30 h => ?_) fun o31 g34 h => ?_
   ·refine zb <| zu <| q 2 [(11, ti s25.1)] [0,7,10,65,66] rfl <| zz <| q 3 [(12, ti (IntKind.wrap .i64 (Int.tdiv s25.1 64)))] [0,7,10,11,65,66] rfl ?_
    obtain ⟨s35, e, h⟩ := uao h; rw [e]
    refine zz <| p 2 [0,7,10,11,12,65,66,72,73] rfl <| y (uj7 2 rfl rfl rfl ktc3 Tryz.underlying105 zf107 rfl) rfl ?_
    refine q 3 [(75, .one Y107 (Option.getD (pget (.int .i64) s35 o8.2) ([], 0, 0, [], ()))), (76, tb (Option.isSome (pget (.int .i64) s35 o8.2)))] [0,7,10,11,12,65,66] rfl <| ubK (t := Y107) rfl zf107 rfl fun b36 => st 0 .here ty107 rfl rfl rfl rfl trivial <| q 1 [(13, ptr b36 0), (14, tb (Option.isSome (pget (.int .i64) s35 o8.2)))] [0,7,10,11,12,65,66] rfl ?_
    obtain ⟨dirty37, e, h⟩ := uao h; rw [e]
    refine za <| zb <| zu <| p 3 [0,7,10,11,12,13,65,66,100] rfl ?_
    obtain ⟨b38, e, h⟩ := uao h; rw [e]
    refine uaG (γ := Unit) 4 (fun _ => [(0, ptr b4 0), (7, .one (.raw (.map none)) v6), (10, .one (.raw (.slice none 0 0)) g28.1), (11, ti s25.1), (12, ti s35), (13, ptr b36 0), (65, ti (List.length r10 : Int)), (66, ti s25.1), (104, tb (b38 || (((Option.getD (pget (.int .i64) s35 o8.2) ([], 0, 0, [], ())).2.2.1) == 1)))]) (fun _ => [Res.var b36 107 Y107 (Option.getD (pget (.int .i64) s35 o8.2) ([], 0, 0, [], ())), Res.own g28.1 5 (.int .u8) s25.2, Res.dirty Tryz.prog dI dv3 a0.2.2, Res.map Tryz.prog 3 (.int .i64) Y107 v6 o8.2, Res.var b4 60 FT (sv1, g28.2, dv3, ()), Res.own sv1 5 (.int .u8) a0.1, Res.own g28.2 5 (.int .u8) a0.2.1]) ?_ (fun _ => ?_)
    ·clear h
     cases b38
     ·refine p 1 [0,7,10,11,12,13,65,66,100,101] rfl <| uaI (by rfl) rfl ?_
      exact yl 0 ((.snd (.snd (.fst .here)))) ty3 rfl rfl rfl trivial rfl <| q 2 [(104, tb (((Option.getD (pget (.int .i64) s35 o8.2) ([], 0, 0, [], ())).2.2.1) == 1))] [0,7,10,11,12,13,65,66] rfl <| uab [0,7,10,11,12,13,65,66,104] rfl <| za <| by exact uau () rfl rfl
     exact p 4 [0,7,10,11,12,13,65,66,104] rfl <| za <| by exact uau () rfl rfl
    refine q 1 [(97, tb (b38 || (((Option.getD (pget (.int .i64) s35 o8.2) ([], 0, 0, [], ())).2.2.1) == 1)))] [0,7,10,11,12,13,65,66] rfl <| za <| rI h rfl (fun hc h => zk <| zi <| zi <| zt <| pk [1,1,1,1,1,1] rfl <| uab [0,7,10,65,66] rfl <| by exact uai s25.2 (g28.1, g28.2) h rfl rfl) fun hc h => zu <| p 1 [0,7,10,11,12,13,65,66,106] rfl <| yl 0 ((.snd (.snd (.fst .here)))) ty3 rfl rfl rfl trivial rfl <| q 2 [(105, tb (((Option.getD (pget (.int .i64) s35 o8.2) ([], 0, 0, [], ())).2.2.1) == 2))] [0,7,10,11,12,13,65,66] rfl <| za <| rI h rfl (fun hc h => ?_) fun hc h => ?_
    ·refine zu <| q 2 [(109, .one (.raw (.slice none 0 0)) g28.1), (110, ti s25.1)] [0,7,10,11,12,13,65,66] rfl <| iE h fun hc h => ubD 1 rfl (by first | omega | (simp only [List.length_set] at hc ⊢; omega)) fun b39 o41 c40 hv => ?_
     rw [hv]
     try clear hv
     refine y (ucb tabOk rfl rfl hc.1 (by first | exact hc.2 | simpa using hc.2) rfl ty5) rfl ?_
     refine ugJ 1 (Int.toNat s25.1) .here rfl rfl rfl (by first | omega | (simp only [List.length_set] at hc ⊢; omega)) (by first | rfl | (simp only [Pth.off, T.size]; omega)) uam ty5 ?_
     refine zz <| q 5 [(10, .one (.raw (.slice none 0 0)) (.slice (some ⟨b39, o41, none⟩) (List.length s25.2) c40)), (15, ti (IntKind.wrap .i64 (s25.1 - (IntKind.wrap .i64 (s35 * 64)))))] [0,7,11,13,65,66] rfl ?_
     obtain ⟨i42, e, h⟩ := uao h; rw [e]
     refine zz <| p 2 [0,7,10,11,13,15,65,66,116,117] rfl <| yl 0 ((.snd (.snd (.snd (.fst .here))))) ty9 rfl rfl rfl trivial rfl <| q 2 [(120, tb (decide (i42 < (List.length ((Option.getD (pget (.int .i64) s35 o8.2) ([], 0, 0, [], ())).2.2.2.1) : Int))))] [0,7,10,11,13,15,65,66] rfl ?_
     obtain ⟨t43, e, h⟩ := uao h; rw [e]
     refine za <| rI h rfl (fun hc h => ?_) fun hc h => ?_
     ·refine zr <| q 3 [(121, .one (.raw (.slice none 0 0)) (.slice (some ⟨b39, o41, none⟩) (List.length s25.2) c40)), (122, ti s25.1), (123, ptr b36 3)] [0,7,10,15,65,66] rfl <| yl 0 ((.snd (.snd (.snd (.fst .here))))) ty9 rfl rfl rfl trivial rfl <| q 1 [(124, ts ((Option.getD (pget (.int .i64) s35 o8.2) ([], 0, 0, [], ())).2.2.2.1)), (125, ti i42)] [0,7,10,65,66,121,122] rfl <| iE h fun hc h => y (udH tabOk rfl rfl hc.1 hc.2 rfl) rfl ?_
      refine iE h fun hc h => y (ucb tabOk rfl rfl hc.1 (by first | exact hc.2 | simpa using hc.2) rfl ty5) rfl ?_
      refine ugJ 1 (Int.toNat s25.1) .here rfl rfl rfl (by first | omega | (simp only [List.length_set] at hc ⊢; omega)) (by first | rfl | (simp only [Pth.off, T.size]; omega)) uam ty5 ?_
      exact zn <| zi <| zi <| zt <| pk [1,1,1,1,1,1] rfl <| uab [0,7,10,65,66] rfl <| by exact uai (List.set (List.set s25.2 (Int.toNat s25.1) 0) (Int.toNat s25.1) (List.getD ((Option.getD (pget (.int .i64) s35 o8.2) ([], 0, 0, [], ())).2.2.2.1) (Int.toNat i42) 0)) ((.slice (some ⟨b39, o41, none⟩) (List.length s25.2) c40), g28.2) h rfl rfl
     exact zk <| zi <| zi <| zt <| pk [1,1,1,1,1,1] rfl <| uab [0,7,10,65,66] rfl <| by exact uai (List.set s25.2 (Int.toNat s25.1) 0) ((.slice (some ⟨b39, o41, none⟩) (List.length s25.2) c40), g28.2) h rfl rfl
    refine zu <| q 2 [(77, .one (.raw (.slice none 0 0)) g28.1), (78, ti s25.1)] [0,7,10,11,65,66] rfl <| iE h fun hc h => ubD 1 rfl (by first | omega | (simp only [List.length_set] at hc ⊢; omega)) fun b46 o48 c47 hv => ?_
    rw [hv]
    try clear hv
    refine y (ucb tabOk rfl rfl hc.1 (by first | exact hc.2 | simpa using hc.2) rfl ty5) rfl ?_
    refine ugJ 1 (Int.toNat s25.1) .here rfl rfl rfl (by first | omega | (simp only [List.length_set] at hc ⊢; omega)) (by first | rfl | (simp only [Pth.off, T.size]; omega)) uam ty5 ?_
    refine zz <| q 4 [(10, .one (.raw (.slice none 0 0)) (.slice (some ⟨b46, o48, none⟩) (List.length s25.2) c47)), (80, ti s25.1), (83, ptr b4 1)] [0,7,11,65,66] rfl <| yl 4 ((.snd (.fst .here))) tx1 rfl rfl rfl trivial rfl <| y (uaZ tabOk 6 rfl rfl rfl) rfl ?_
    refine q 1 [(86, tb (decide (s25.1 < (List.length a0.2.1 : Int))))] [0,7,10,11,65,66] rfl <| za <| rI h rfl (fun hc h => ?_) fun hc h => ?_
    ·refine zr <| q 5 [(87, .one (.raw (.slice none 0 0)) (.slice (some ⟨b46, o48, none⟩) (List.length s25.2) c47)), (88, ti s25.1), (91, ptr b4 1)] [0,7,10,11,65,66] rfl <| yl 4 ((.snd (.fst .here))) tx1 rfl rfl rfl trivial rfl <| q 1 [(92, .one (.raw (.slice none 0 0)) g28.2), (93, ti s25.1)] [0,7,10,65,66,87,88] rfl <| iE h fun hc h => ubD 6 rfl (by first | omega | (simp only [List.length_set] at hc ⊢; omega)) fun b49 o51 c50 hv => ?_
     rw [hv]
     try clear hv
     refine y (ucb tabOk rfl rfl hc.1 (by first | exact hc.2 | simpa using hc.2) rfl ty5) rfl ?_
     refine y (uco 6 (Int.toNat s25.1) .here rfl rfl (by first | omega | (simp only [List.length_set] at hc ⊢; omega)) (by first | rfl | (simp only [Pth.off, T.size]; omega)) uam ty5) rfl ?_
     refine iE h fun hc h => y (ucb tabOk rfl rfl hc.1 (by first | exact hc.2 | simpa using hc.2) rfl ty5) rfl ?_
     refine ugJ 1 (Int.toNat s25.1) .here rfl rfl rfl (by first | omega | (simp only [List.length_set] at hc ⊢; omega)) (by first | rfl | (simp only [Pth.off, T.size]; omega)) uam ty5 ?_
     exact zn <| zi <| zi <| zt <| pk [1,1,1,1,1,1] rfl <| uab [0,7,10,65,66] rfl <| by exact uai (List.set (List.set s25.2 (Int.toNat s25.1) 0) (Int.toNat s25.1) (List.getD a0.2.1 (Int.toNat s25.1) 0)) ((.slice (some ⟨b46, o48, none⟩) (List.length s25.2) c47), (.slice (some ⟨b49, o51, none⟩) (List.length a0.2.1) c50)) h rfl rfl
    exact zk <| zi <| zi <| zt <| pk [1,1,1,1,1,1] rfl <| uab [0,7,10,65,66] rfl <| by exact uai (List.set s25.2 (Int.toNat s25.1) 0) ((.slice (some ⟨b46, o48, none⟩) (List.length s25.2) c47), g28.2) h rfl rfl
   exact zr <| q 2 [(0, ptr b4 0), (7, .one (.raw (.map none)) v6), (10, .one (.raw (.slice none 0 0)) g34.1), (65, ti (List.length r10 : Int)), (66, ti (IntKind.wrap .i64 (s25.1 + 1)))] [] rfl <| za <| uab [0,7,10,65,66] rfl <| by exact ubp ((IntKind.wrap .i64 (s25.1 + 1)), o31) (g34.1, g34.2) (Nat.lt_succ_self _) h rfl rfl
  exact zx <| ze <| ze <| zq <| zt <| uab [0,10] rfl <| by exact uai s25.2 (g28.1, g28.2) h rfl rfl
 refine zu <| q 4 [(0, ptr b4 0), (129, ptr b4 0), (130, ptr b4 0), (131, .one (.raw (.slice none 0 0)) g16.1), (132, .one (.raw (.slice none 0 0)) g16.1)] [] rfl <| cB h fun r17 hr17 h => ufz (ubT o13 _ hr17) (by kernel_rfl) (fun _ => rfl) (fun _ r hr => by rcases List.mem_singleton.1 hr with rfl; exact Res.free_own rfl) (.sub rfl (ubX 0 rfl) .nil) rfl fun v18 => ?_
 refine p 2 [0,130,131,133,135] rfl <| st 4 ((.fst .here)) tx1 rfl rfl rfl rfl trivial <| pk [0,0,0,0,0,1] rfl <| p 2 [0,133,137] rfl <| st 4 ((.snd (.fst .here))) tx1 rfl rfl rfl rfl trivial <| pk [0,0,0,0,0] rfl <| za <| zr <| p 3 [140] rfl <| yl 4 ((.snd (.snd (.fst .here)))) ty58 rfl rfl rfl trivial rfl <| uet 2 rfl fun l19 hl19 => ?_
 refine ulA 2 rfl rfl Tryz.underlying58 ?_
 refine uc3 (P := Tryz.prog) (I := dI) (keys := []) 2 rfl rfl ?_
 refine zn <| pk [4,1,0,0,0] rfl <| um7 (P := Tryz.prog) (I := dI) ?_
 cases h
 exact ugL rfl (fun _ => ubr [] .nil) ((.cons_cons _ (.cons _ .slnil)))

theorem udo (p0 : Value) (a0 : DiskS) (a1 : List (List Int × Int × Int × List Int × Unit)) (r : DiskS) (h : ua9 a0 a1 = some r) : Fn Tryz.prog 12 [tp p0, .one (.sl 107 Y107) a1] [Res.disk Tryz.prog dI p0 a0] (fun _ => .tup []) (fun _ => [Res.disk Tryz.prog dI p0 r]) := by
 unfold ua9 at h
 refine enter Tryz.func12 rfl 43 rfl rfl fun F => ?_
 refine ucK fun b2 mv1 hp => ?_
 subst hp
 refine zs <| zu <| p 3 [0,1,8] rfl <| yl 0 ((.snd (.snd (.snd (.snd (.snd (.fst .here))))))) ty4 rfl rfl rfl trivial rfl <| q 1 [(10, tb a0.2.2.2.2.2.1)] [0,1] rfl ?_
 refine uaG (γ := Unit) 6 (fun _ => [(0, ptr b2 0), (1, .one (.sl 107 Y107) a1), (16, tb (a0.2.2.2.2.2.1 && (!a0.2.2.2.2.2.2)))]) (fun _ => [Res.var b2 54 DT (a0.1, mv1, a0.2.2.1, a0.2.2.2.1, a0.2.2.2.2.1, a0.2.2.2.2.2.1, a0.2.2.2.2.2.2, ()), Res.dfiles Tryz.prog dI mv1 a0.2.1]) ?_ (fun _ => ?_)
 ·clear h
  rcases Bool.eq_false_or_eq_true a0.2.2.2.2.2.1 with hh | hh
  ·refine uga 10 hh rfl ?_
   refine p 3 [0,1,10,13] rfl <| uaI (by rfl) rfl ?_
   exact yl 0 ((.snd (.snd (.snd (.snd (.snd (.snd (.fst .here)))))))) ty4 rfl rfl rfl trivial rfl <| q 2 [(16, tb (!a0.2.2.2.2.2.2))] [0,1] rfl <| uab [0,1,16] rfl <| za <| by exact uau () (by first | rfl | (rw [hh]; done) | (rw [hh]; rfl)) rfl
  refine uga 10 hh rfl ?_
  exact p 6 [0,1,16] rfl <| za <| by exact uau () (by first | rfl | (rw [hh]; done) | (rw [hh]; rfl)) rfl
 refine za <| rI h rfl (fun hc h => zR <| zT <| ua3 (P := Tryz.prog) (I := dI) (D := a0) <| by cases h; exact upg rfl (fun _ => ubr [] .nil) ((.cons_cons _ .slnil))) fun hc h => zk <| zt <| jK h (γ := Unit) (fun (o5 : (List (List Int × FileS))) _ => [(0, ptr b2 0)]) (fun (o5 : (List (List Int × FileS))) _ => [Res.dfiles Tryz.prog dI mv1 o5, Res.var b2 54 DT (a0.1, mv1, a0.2.2.1, a0.2.2.2.1, a0.2.2.2.2.1, a0.2.2.2.2.2.1, a0.2.2.2.2.2.2, ())]) (fun k4 h => ?_) fun o5 gg h => ?_
 ·refine zu <| p 3 [0,1,19] rfl <| yl 0 ((.snd (.fst .here))) ty52 rfl rfl rfl trivial rfl <| pk [1,0] rfl <| ukk kstr rfl Tryz.underlying52 rfl fun it6 hn7 => ?_
  refine za <| zb <| cB h fun rr hall h => uab [0,1,21] rfl <| ufS (step := uaX a1) (fun _ _ => True) (ufK a1) hn7 trivial hall (γ := Unit) (fun (s10 : (List (List Int × FileS))) _ => [(0, ptr b2 0), (1, .one (.sl 107 Y107) a1), (21, tp it6)]) (fun todo12 (s10 : (List (List Int × FileS))) _ => [Res.diter Tryz.prog dI mv1 it6 s10 todo12 none none, Res.var b2 54 DT (a0.1, mv1, a0.2.2.1, a0.2.2.2.1, a0.2.2.2.2.1, a0.2.2.2.2.2.1, a0.2.2.2.2.2.2, ())]) () rfl rfl fun todo12 s10 gg hend hone => ?_
  refine zu ?_
  refine uiV kstr rfl rfl (fun ht => ?_) (fun A13 k14 B15 q16 htk14 hk => ?_)
  ·obtain rfl := hend ht
   refine uio ?_
   refine p 1 [0,1,23] rfl <| za <| zs ?_
   refine r_if (b := false) rfl (fun hc => ?_) (fun hc => ?_)
   ·cases hc
   exact zx <| ze <| ze <| zq <| zt <| uab [0] rfl <| by exact uai s10 () h rfl rfl
  obtain ⟨sk14, hsk14⟩ := hone A13 k14 B15 htk14
  clear h
  have h := hsk14
  unfold uaX at h
  refine p 1 [0,1,21,23] rfl <| za <| zs ?_
  refine r_if (b := true) rfl (fun hc => ?_) (fun hc => ?_)
  ·refine zk <| zt <| zb <| zu <| y (uhT rfl 0 rfl) rfl ?_
   refine p 4 [0,1,4,5,21] rfl <| za <| zr <| p 3 [0,1,21,27,28,29] rfl <| cB h fun f18 hf18 h => ujh hf18 fun fb19 sv20 tv21 dv22 hq => ?_
   rw [hq]
   clear hq
   refine um7 (P := Tryz.prog) (I := dI) ?_
   refine cB h fun r23 hr23 h => rc [0] (uhp _ _ _ _ _ hr23) (by kernel_rfl) rfl rfl rfl fun _ => zn <| zi <| zt <| um6 fun sv24 tv25 dv26 => ?_
   refine uk9 (P := Tryz.prog) (I := dI) ?_
   refine uay (R' := Res.diter Tryz.prog dI mv1 it6 (pset .str k14 r23 s10) (A13 ++ B15) none none) 0 rfl ugo <| uab [0,1,21] rfl ?_
   obtain rfl := Option.some.inj h
   exact uhe () htk14 hsk14 rfl rfl
  cases hc
 refine zr <| p 6 [32,33,34,36] rfl <| st 1 ((.snd (.snd (.snd (.snd (.snd (.fst .here))))))) ty4 rfl rfl rfl rfl trivial <| p 2 [33,34,38] rfl <| st 1 ((.snd (.snd (.snd (.snd (.snd (.snd (.fst .here)))))))) ty4 rfl rfl rfl rfl trivial <| p 2 [34,40] rfl <| st 1 ((.snd (.snd (.fst .here)))) ty3 rfl rfl rfl rfl trivial <| p 2 [42] rfl <| st 1 ((.snd (.snd (.snd (.snd (.fst .here)))))) ty3 rfl rfl rfl rfl trivial <| zn <| pk [1,0] rfl <| ua3 (P := Tryz.prog) (I := dI) (D := (a0.1, o5, 0, a0.2.2.2.1, 0, true, false)) ?_
 cases h
 exact ugL rfl (fun _ => ubr [] .nil) ((.cons_cons _ .slnil))

theorem ueN (p0 : Value) (a0 : DiskS) (r : DiskS) (h : udg a0 = some r) : Fn Tryz.prog 13 [tp p0] [Res.disk Tryz.prog dI p0 a0] (fun _ => .tup []) (fun _ => [Res.disk Tryz.prog dI p0 r]) := by
 unfold udg at h
 refine enter Tryz.func13 rfl 11 rfl rfl fun F => ?_
 refine ucK fun b2 mv1 hp => ?_
 subst hp
 refine jK h (γ := Unit) (fun (o4 : DiskS) _ => [(0, ptr b2 0)]) (fun (o4 : DiskS) _ => [Res.disk Tryz.prog dI (.pointer (some ⟨b2, 0, none⟩)) o4]) (fun k3 h => ?_) fun o4 gg h => ?_
 ·refine zu <| p 3 [0,4] rfl <| yl 0 ((.snd (.snd (.snd (.snd (.snd (.snd (.fst .here)))))))) ty4 rfl rfl rfl trivial rfl <| za <| rI h rfl (fun hc h => ?_) fun hc h => ?_
  ·refine zr <| p 1 [0,6] rfl <| ua3 (P := Tryz.prog) (I := dI) (D := a0) <| cB h fun r6 hr6 h => ulL (Lo := []) (udo (.pointer (some ⟨b2, 0, none⟩)) a0 [] _ hr6) (by kernel_rfl) (ucA (is := [0]) rfl) (.val rfl (.nilsl .nil)) rfl fun _ => ?_
   exact za <| uab [0] rfl <| by exact uai r6 () h rfl rfl
  exact zk <| zt <| ua3 (P := Tryz.prog) (I := dI) (D := a0) <| uab [0] rfl <| by exact uai a0 () h rfl rfl
 refine um0 fun mv5 => ?_
 refine zr <| p 3 [10] rfl <| st 0 ((.snd (.snd (.snd (.snd (.snd (.fst .here))))))) ty4 rfl rfl rfl rfl trivial <| zn <| ua3 (P := Tryz.prog) (I := dI) (D := (o4.1, o4.2.1, o4.2.2.1, o4.2.2.2.1, o4.2.2.2.2.1, false, o4.2.2.2.2.2.2)) ?_
 cases h
 exact ugL rfl (fun _ => ubr [] .nil) ((.cons_cons _ .slnil))

theorem ucE (a0 : List (List Int)) (a1 : List (List Int)) (r : Bool) (h : ua8 a0 a1 = some r) : Pure Tryz.prog 14 [.one (.sl 9 .str) a0, .one (.sl 9 .str) a1] (tb r) := by
 unfold ua8 at h
 refine enter Tryz.func14 rfl 26 rfl rfl fun F => ?_
 refine zu <| p 1 [0,1] rfl <| za <| zs <| zu <| q 5 [(10, tb ((List.length a0 : Int) != (List.length a1 : Int)))] [0,1] rfl <| za <| rI h rfl (fun hc h => zu <| p 1 [4] rfl <| zf <| zT <| by cases h; exact uav rfl (.tmp rfl) (fun _ _ g => g) (fun _ _ _ => List.nil_sublist _)) fun hc h => zk <| zt <| jK h (γ := Unit) (fun (o2 : Unit) _ => []) (fun (o2 : Unit) _ => []) (fun k1 h => ?_) fun o2 gg h => ?_
 ·refine zu <| p 1 [0,1,5] rfl <| za <| zb <| uab [0,1,5] rfl <| ubv (γ := Unit) (fun (s4 : Int) _ => [(0, .one (.sl 9 .str) a0), (1, .one (.sl 9 .str) a1), (5, ti s4)]) (fun (s4 : Int) _ => []) (ubn a0 a1 k1) 0 () h rfl rfl ?_
  clear h
  intro m5 s4 gg h
  cases m5 with
  | zero => cases h
  | succ m5 =>
  simp only [ubn] at h
  refine zs <| zu <| q 4 [(5, ti s4), (14, tb (decide (s4 < (List.length a0 : Int))))] [0,1] rfl <| za <| rI h rfl (fun hc h => ?_) fun hc h => ?_
  ·refine zk <| zt <| zs <| zb <| zs <| uft (by kernel_rfl) (by kernel_rfl) ?_
   refine uaD tabOk 2 [0, 1, 5, 17, 18] (E' := [(0, .one (.sl 9 .str) a0), (1, .one (.sl 9 .str) a1), (5, ti s4), (17, .one (.sl 9 .str) a0), (18, ti s4)]) rfl ?_
   refine iE h fun hc h => q_y (ue5 tabOk rfl rfl hc.1 hc.2 rfl ty9) rfl ?_
   refine q_y (y_ref rfl ty9) rfl ?_
   refine uaD tabOk 2 [0, 1, 5, 20, 21, 22] (E' := [(0, .one (.sl 9 .str) a0), (1, .one (.sl 9 .str) a1), (5, ti s4), (20, ts (List.getD a0 (Int.toNat s4) [])), (21, .one (.sl 9 .str) a1), (22, ti s4)]) rfl ?_
   refine iE h fun hc h => q_y (ue5 tabOk rfl rfl hc.1 hc.2 rfl ty9) rfl ?_
   refine q_y (y_ref rfl ty9) rfl ?_
   refine uaD tabOk 1 [0, 1, 5, 25] (E' := [(0, .one (.sl 9 .str) a0), (1, .one (.sl 9 .str) a1), (5, ti s4), (25, tb ((List.getD a0 (Int.toNat s4) []) != (List.getD a1 (Int.toNat s4) [])))]) rfl ?_
   refine q_nil ?_
   refine zt <| rI h rfl (fun hc h => zu <| p 1 [4] rfl <| zf <| zB <| zT <| zT <| zB <| zT <| by cases h; exact uav rfl (.tmp rfl) (fun _ _ g => g) (fun _ _ _ => List.nil_sublist _)) fun hc h => zk <| zi <| zt <| zr <| p 3 [0,1,5] rfl ?_
   obtain ⟨i6, e, h⟩ := uao h; rw [e]
   exact za <| uab [0,1,5] rfl <| by exact ubp i6 () (Nat.lt_succ_self _) h rfl rfl
  exact zx <| ze <| ze <| zq <| zt <| uab [] rfl <| by exact uai () () h rfl rfl
 refine zu <| p 1 [4] rfl <| zf ?_
 cases h
 exact uav rfl (.tmp rfl) (fun _ _ g => g) (fun _ _ _ => List.nil_sublist _)

theorem ub6 (p0 : Value) (p100 : Value) (a0 : Unit × List Int × Int × (List (Int × Int × Int × Unit)) × Int × Bool × Unit) (a100 : DiskS) (r : Int) (h : ub9 a0 a100 = some r) : Fn Tryz.prog 10 [tp p0] [Res.cls (CLog p100) p0 a0, Res.disk Tryz.prog dI p100 a100] (fun _ => ti r) (fun _ => [Res.cls (CLog p100) p0 a0, Res.disk Tryz.prog dI p100 a100]) := by
 unfold ub9 at h
 refine enter Tryz.func10 rfl 7 rfl rfl fun F => ?_
 refine ud1 fun b2 sv1 hp => ?_
 subst hp
 refine uaK (x := a0) (q := p100) ?_
 refine zu <| p 1 [0] rfl <| za <| zs <| ubZ fun sv3 => ?_
 refine zr <| p 3 [5] rfl <| yl 0 ((.snd (.snd (.snd (.snd (.fst .here)))))) ty2 rfl rfl rfl trivial rfl <| q 1 [(2, ti a0.2.2.2.2.1)] [] rfl <| zf <| uaK (x := a0) (q := p100) ?_
 cases h
 exact uav rfl (.tmp rfl) (fun _ _ g => g) (fun _ _ _ => (.cons_cons _ (.cons_cons _ .slnil)))

theorem uh8 (p0 : Value) (p100 : Value) (a0 : Unit × List Int × Int × (List (Int × Int × Int × Unit)) × Int × Bool × Unit) (a100 : DiskS) (r : List (List Int)) (h : ufg a0 a100 = some r) : FnT Tryz.prog tabs 11 [tp p0] [Res.cls (CLog p100) p0 a0, Res.disk Tryz.prog dI p100 a100] (fun v => .one (.raw (.slice none 0 0)) v) (fun v => [Res.cls (CLog p100) p0 a0, Res.disk Tryz.prog dI p100 a100, Res.own v 9 .str r]) := by
 unfold ufg at h
 refine udW Tryz.func11 rfl 24 rfl rfl fun F hT => ?_
 refine ud1 fun b2 sv1 hp => ?_
 subst hp
 refine uaK (x := a0) (q := p100) ?_
 refine zu <| p 1 [0] rfl <| zz <| p 1 [0,3] rfl <| ua1 (.slice none 0 0) rfl 9 .str ?_
 refine za <| jK h (γ := Value) (fun (o4 : List (List Int)) g5 => [(3, .one (.raw (.slice none 0 0)) g5)]) (fun (o4 : List (List Int)) g5 => [Res.cls (CLog p100) (.pointer (some ⟨b2, 0, none⟩)) a0, Res.own g5 9 .str o4, Res.disk Tryz.prog dI p100 a100]) (fun k3 h => ?_) fun o4 g5 h => ?_
 ·refine zs <| pk [1,0,0] rfl <| ubZ fun sv6 => ?_
  refine zr <| p 3 [0,3,8] rfl <| yl 0 ((.snd (.snd (.snd (.fst .here))))) tx2 rfl rfl rfl trivial rfl <| y (uaZ tabOk 1 rfl rfl rfl) rfl ?_
  refine q 1 [(9, .one (.raw (.slice none 0 0)) sv6), (10, ti (List.length a0.2.2.2.1 : Int)), (11, ti 0)] [0,3] rfl <| za <| zb <| uab [0,3,9,10,11] rfl <| ubv (γ := Value × Value) (fun (s12 : Int × List (List Int)) g15 => [(0, ptr b2 0), (3, .one (.raw (.slice none 0 0)) g15.2), (9, .one (.raw (.slice none 0 0)) g15.1), (10, ti (List.length a0.2.2.2.1 : Int)), (11, ti s12.1)]) (fun (s12 : Int × List (List Int)) g15 => [Res.var b2 68 (.pair (.raw (.pointer none)) (.pair .str (.pair (.int .i64) (.pair (.raw (.slice none 0 0)) (.pair (.int .i64) (.pair .bool .unit)))))) (p100, a0.2.1, a0.2.2.1, g15.1, a0.2.2.2.2.1, a0.2.2.2.2.2.1, a0.2.2.2.2.2.2), Res.own g15.1 77 Y77 a0.2.2.2.1, Res.own g15.2 9 .str s12.2, Res.disk Tryz.prog dI p100 a100]) (udF a0 k3) (0, []) (sv6, (.slice none 0 0)) h rfl rfl ?_
  clear h
  intro m16 s12 g15 h
  cases m16 with
  | zero => cases h
  | succ m16 =>
  simp only [udF] at h
  refine zu <| q 1 [(3, .one (.raw (.slice none 0 0)) g15.2), (9, .one (.raw (.slice none 0 0)) g15.1), (11, ti s12.1), (12, tb (decide (s12.1 < (List.length a0.2.2.2.1 : Int))))] [0,10] rfl <| za <| zs <| rI h rfl (fun hc h => ?_) fun hc h => ?_
  ·refine zk <| zt <| zs <| zb <| zu <| iE h fun hc h => ubD 1 rfl (by first | omega | (simp only [List.length_set] at hc ⊢; omega)) fun b17 o19 c18 hv => ?_
   rw [hv]
   try clear hv
   refine y (ucb tabOk rfl rfl hc.1 (by first | exact hc.2 | simpa using hc.2) rfl ty77) rfl ?_
   refine y (uco 1 (Int.toNat s12.1) .here rfl rfl (by first | omega | (simp only [List.length_set] at hc ⊢; omega)) (by first | rfl | (simp only [Pth.off, T.size]; omega)) uam ty77) rfl ?_
   refine ubK (t := Y77) rfl zf77 rfl fun b20 => st 0 .here ty77 rfl rfl rfl rfl trivial <| za <| zr <| q 3 [(9, .one (.raw (.slice none 0 0)) (.slice (some ⟨b17, o19, none⟩) (List.length a0.2.2.2.1) c18)), (15, .one (.raw (.slice none 0 0)) g15.2), (16, ptr b2 0), (17, ptr b20 0)] [0,10,11] rfl <| yl 0 ((.fst .here)) ty3 rfl rfl rfl trivial rfl <| cB h fun r21 hr21 h => rcT hT [1] (uar _ _ _ _ _ _ hr21) (by kernel_rfl) rfl rfl rfl fun _ => ub7 (B := 16) tabOk rfl el9 rfl rfl rfl (.cons rfl .nil) rfl fun v22 => ?_
   refine iE h fun hc h => ubd (B := 16) tabOk 4 rfl rfl (uca 0 rfl rfl) rfl el9 rfl rfl hc rfl fun v23 => ?_
   exact pk [1,1,1,1,1] rfl <| p 1 [0,3,9,10,11] rfl <| zn <| zi <| zt <| zr <| q 2 [(11, ti (IntKind.wrap .i64 (s12.1 + 1)))] [0,3,9,10] rfl <| za <| pk [0,1,1,1] rfl <| uab [0,3,9,10,11] rfl <| by exact ubp ((IntKind.wrap .i64 (s12.1 + 1)), (s12.2 ++ [r21])) ((.slice (some ⟨b17, o19, none⟩) (List.length a0.2.2.2.1) c18), v23) (Nat.lt_succ_self _) h rfl rfl
  refine zx <| ze <| ze <| zq <| zt <| uaK (x := a0) (q := p100) ?_
  exact uab [3] rfl <| by exact uai s12.2 g15.2 h rfl rfl
 refine zu <| p 2 [2] rfl <| zf ?_
 cases h
 exact pk [0,1,0] rfl <| uav rfl (.tmp rfl) (fun _ _ g => holds_raw.2 ⟨rfl, by rw [(holds_raw.1 g).1]; exact (holds_raw.1 g).2⟩) (fun _ _ g => by obtain ⟨rfl, _⟩ := holds_raw.1 g; exact List.Sublist.refl _)

theorem ugx  (r : Bool) (h : udq  = some r) : FnT Tryz.prog tabs 6 [] [] (fun _ => tb r) (fun _ => []) := by
 unfold udq at h
 refine udW Tryz.func6 rfl 109 rfl rfl fun F hT => ?_
 refine zu <| p 1 [] rfl <| zz <| cB h fun r1 hr1 h => ucI (Lo := []) (uhJ 100000 _ hr1) (by kernel_rfl) (List.Perm.refl _) rfl rfl fun v2 => ?_
 refine q 5 [(1, tp (tupv v2 0)), (2, ti r1.1)] [] rfl <| za <| zs <| zu <| p 1 [1,2,19] rfl <| y (um9 0 rfl rfl Tryz.underlying23) rfl ?_
 refine q 1 [(21, tb (r1.1 != 0))] [1,2] rfl ?_
 obtain ⟨b3, e, h⟩ := uao h; rw [e]
 refine uaG (γ := Unit) 3 (fun _ => [(1, tp (tupv v2 0)), (24, tb (b3 || (r1.1 != 0)))]) (fun _ => [Res.diskif Tryz.prog dI (tupv v2 0) r1.2 r1.1]) ?_ (fun _ => ?_)
 ·clear h
  cases b3
  ·exact q 3 [(24, tb (r1.1 != 0))] [1] rfl <| uab [1,24] rfl <| za <| by exact uau () rfl rfl
  exact p 3 [1,24] rfl <| za <| by exact uau () rfl rfl
 refine za <| rI h rfl (fun hc h => zu <| p 1 [0] rfl <| zf <| zT <| by cases h; exact uav rfl (.tmp rfl) (fun _ _ g => g) (fun _ _ _ => List.nil_sublist _)) fun hc h => zy <| p 1 [1,26] rfl ?_
 obtain ⟨he4, h⟩ := ubo h
 refine uay (R' := Res.disk Tryz.prog dI (tupv v2 0) r1.2) 0 rfl (uht he4) <| cB h fun r5 hr5 h => rcT hT [0] (udS _ _ _ _ _ _ hr5) (by kernel_rfl) rfl rfl rfl fun v6 => q 7 [(2, ti r5.2.2.1), (3, tp (tupv v6 0)), (4, .one (.raw (.slice none 0 0)) (tupv v6 1))] [1] rfl <| za <| zs <| zu <| p 1 [1,2,3,4,31] rfl <| y (uiq 1 rfl rfl Tryz.underlying33) rfl ?_
 refine q 1 [(33, tb (r5.1.1 != 0))] [1,2,3,4] rfl ?_
 obtain ⟨b7, e, h⟩ := uao h; rw [e]
 refine uaG (γ := Unit) 3 (fun _ => [(1, tp (tupv v2 0)), (3, tp (tupv v6 0)), (4, .one (.raw (.slice none 0 0)) (tupv v6 1)), (36, tb (b7 || (r5.2.2.1 != 0)))]) (fun _ => [Res.disk Tryz.prog dI (tupv v2 0) r5.2.2.2, Res.clsif (CLog (tupv v2 0)) (tupv v6 0) r5.1.2 r5.1.1, Res.own (tupv v6 1) 9 .str r5.2.1]) ?_ (fun _ => ?_)
 ·clear h
  cases b7
  ·exact q 3 [(36, tb (r5.2.2.1 != 0))] [1,3,4] rfl <| uab [1,3,4,36] rfl <| za <| by exact uau () rfl rfl
  exact p 3 [1,3,4,36] rfl <| za <| by exact uau () rfl rfl
 refine q 1 [(37, tb (b7 || (r5.2.2.1 != 0)))] [1,3,4] rfl ?_
 obtain ⟨b8, e, h⟩ := uao h; rw [e]
 refine uaG (γ := Unit) 4 (fun _ => [(1, tp (tupv v2 0)), (3, tp (tupv v6 0)), (41, tb (b8 || ((List.length r5.2.1 : Int) != 0)))]) (fun _ => [Res.disk Tryz.prog dI (tupv v2 0) r5.2.2.2, Res.clsif (CLog (tupv v2 0)) (tupv v6 0) r5.1.2 r5.1.1, Res.own (tupv v6 1) 9 .str r5.2.1]) ?_ (fun _ => ?_)
 ·clear h
  cases b8
  ·refine p 1 [1,3,37,38] rfl <| uaI (by rfl) rfl ?_
   refine y (uaZ tabOk 2 rfl rfl rfl) rfl ?_
   exact q 2 [(41, tb ((List.length r5.2.1 : Int) != 0))] [1,3] rfl <| uab [1,3,41] rfl <| za <| by exact uau () rfl rfl
  exact p 4 [1,3,41] rfl <| za <| by exact uau () rfl rfl
 refine za <| rI h rfl (fun hc h => zu <| p 1 [0] rfl <| zf <| zT <| by cases h; exact uav rfl (.tmp rfl) (fun _ _ g => g) (fun _ _ _ => List.nil_sublist _)) fun hc h => zy <| p 1 [1,3,42] rfl ?_
 obtain ⟨he9, h⟩ := ubo h
 refine uay (R' := Res.cls (CLog (tupv v2 0)) (tupv v6 0) r5.1.2) 1 rfl (udn he9) <| cB h fun r10 hr10 h => rcT hT [1,0] (udr _ _ _ _ _ _ hr10) (by kernel_rfl) rfl rfl rfl fun _ => q 1 [(5, ti r10.1)] [1,3] rfl <| zz <| p 1 [1,3,5,44] rfl <| cB h fun r11 hr11 h => rc [1] (uds _ _ _ _ hr11) (by kernel_rfl) rfl rfl rfl fun _ => zz <| p 1 [1,5,46] rfl <| cB h fun r12 hr12 h => rcT hT [1,0] (udr _ _ _ _ _ _ hr12) (by kernel_rfl) rfl rfl rfl fun _ => q 1 [(6, ti r12.1)] [1,5] rfl <| zz ?_
 refine p 1 [1,5,6,48] rfl <| cB h fun r13 hr13 h => ulL (Lo := [Res.cls (CLog (tupv v2 0)) (tupv v6 0) r12.2.1, Res.own (tupv v6 1) 9 .str r5.2.1]) (udo (tupv v2 0) r12.2.2 [] _ hr13) (by kernel_rfl) (ucA (is := [1]) rfl) (.val rfl (.nilsl .nil)) rfl fun _ => ?_
 refine zz <| p 1 [1,5,6,50] rfl <| cB h fun r14 hr14 h => rc [0] (ueN _ _ _ hr14) (by kernel_rfl) rfl rfl rfl fun _ => zz <| p 1 [1,5,6,53] rfl <| cB h fun r15 hr15 h => rcT hT [0] (udS _ _ _ _ _ _ hr15) (by kernel_rfl) rfl rfl rfl fun v16 => q 7 [(7, tp (tupv v16 0)), (8, .one (.raw (.slice none 0 0)) (tupv v16 1)), (9, ti r15.2.2.1)] [1,5,6] rfl <| za <| zs <| zu <| p 1 [1,5,6,7,8,9,58] rfl <| y (uiq 1 rfl rfl Tryz.underlying33) rfl ?_
 refine q 1 [(60, tb (r15.1.1 != 0))] [1,5,6,7,8,9] rfl ?_
 obtain ⟨b17, e, h⟩ := uao h; rw [e]
 refine uaG (γ := Unit) 3 (fun _ => [(1, tp (tupv v2 0)), (6, ti r12.1), (7, tp (tupv v16 0)), (8, .one (.raw (.slice none 0 0)) (tupv v16 1)), (9, ti r15.2.2.1), (63, tb (b17 || (r10.1 != 0)))]) (fun _ => [Res.disk Tryz.prog dI (tupv v2 0) r15.2.2.2, Res.clsif (CLog (tupv v2 0)) (tupv v16 0) r15.1.2 r15.1.1, Res.own (tupv v16 1) 9 .str r15.2.1, Res.cls (CLog (tupv v2 0)) (tupv v6 0) r12.2.1, Res.own (tupv v6 1) 9 .str r5.2.1]) ?_ (fun _ => ?_)
 ·clear h
  cases b17
  ·exact q 3 [(63, tb (r10.1 != 0))] [1,6,7,8,9] rfl <| uab [1,6,7,8,9,63] rfl <| za <| by exact uau () rfl rfl
  exact p 3 [1,6,7,8,9,63] rfl <| za <| by exact uau () rfl rfl
 refine q 1 [(64, tb (b17 || (r10.1 != 0)))] [1,6,7,8,9] rfl ?_
 obtain ⟨b18, e, h⟩ := uao h; rw [e]
 refine uaG (γ := Unit) 3 (fun _ => [(1, tp (tupv v2 0)), (7, tp (tupv v16 0)), (8, .one (.raw (.slice none 0 0)) (tupv v16 1)), (9, ti r15.2.2.1), (67, tb (b18 || (r12.1 != 9)))]) (fun _ => [Res.disk Tryz.prog dI (tupv v2 0) r15.2.2.2, Res.clsif (CLog (tupv v2 0)) (tupv v16 0) r15.1.2 r15.1.1, Res.own (tupv v16 1) 9 .str r15.2.1, Res.cls (CLog (tupv v2 0)) (tupv v6 0) r12.2.1, Res.own (tupv v6 1) 9 .str r5.2.1]) ?_ (fun _ => ?_)
 ·clear h
  cases b18
  ·exact q 3 [(67, tb (r12.1 != 9))] [1,7,8,9] rfl <| uab [1,7,8,9,67] rfl <| za <| by exact uau () rfl rfl
  exact p 3 [1,7,8,9,67] rfl <| za <| by exact uau () rfl rfl
 refine q 1 [(68, tb (b18 || (r12.1 != 9)))] [1,7,8,9] rfl ?_
 obtain ⟨b19, e, h⟩ := uao h; rw [e]
 refine uaG (γ := Unit) 3 (fun _ => [(1, tp (tupv v2 0)), (7, tp (tupv v16 0)), (8, .one (.raw (.slice none 0 0)) (tupv v16 1)), (71, tb (b19 || (r15.2.2.1 != 0)))]) (fun _ => [Res.disk Tryz.prog dI (tupv v2 0) r15.2.2.2, Res.clsif (CLog (tupv v2 0)) (tupv v16 0) r15.1.2 r15.1.1, Res.own (tupv v16 1) 9 .str r15.2.1, Res.cls (CLog (tupv v2 0)) (tupv v6 0) r12.2.1, Res.own (tupv v6 1) 9 .str r5.2.1]) ?_ (fun _ => ?_)
 ·clear h
  cases b19
  ·exact q 3 [(71, tb (r15.2.2.1 != 0))] [1,7,8] rfl <| uab [1,7,8,71] rfl <| za <| by exact uau () rfl rfl
  exact p 3 [1,7,8,71] rfl <| za <| by exact uau () rfl rfl
 refine q 1 [(72, tb (b19 || (r15.2.2.1 != 0)))] [1,7,8] rfl ?_
 obtain ⟨b20, e, h⟩ := uao h; rw [e]
 refine bX h fun k21 hk21 h => ?_
 refine ubh (γ := Unit) 5 (fun (o22 : Bool) _ => [(1, tp (tupv v2 0)), (7, tp (tupv v16 0)), (77, tb o22)]) (fun _ _ => [Res.disk Tryz.prog dI (tupv v2 0) r15.2.2.2, Res.clsif (CLog (tupv v2 0)) (tupv v16 0) r15.1.2 r15.1.1, Res.cls (CLog (tupv v2 0)) (tupv v6 0) r12.2.1, Res.own (tupv v6 1) 9 .str r5.2.1]) k21 r ?_ ?_
 ·rcases Bool.eq_false_or_eq_true b20 with hh | hh
  ·rw [hh] at h ⊢
   rw [if_pos rfl] at h
   exact p 5 [1,7,77] rfl <| zn <| uab [1,7,77] rfl <| pk [0,0,1,1] rfl <| zt <| by exact uai true () h rfl rfl
  rw [hh] at h ⊢
  rw [if_neg (by decide)] at h
  refine p 1 [1,7,72,73] rfl <| uaI (by rfl) rfl ?_
  refine ub7 (B := 16) tabOk rfl el9 rfl rfl rfl (.cons rfl .nil) rfl fun v23 => ?_
  refine uaI (by rfl) rfl ?_
  refine udc (i := 3) (k := 73) rfl rfl ?_
  refine udc (i := 0) (k := 74) rfl rfl ?_
  exact cB h fun r24 hr24 h => ubk (ucE _ _ _ hr24) (by kernel_rfl) rfl rfl <| p 2 [1,7,77] rfl <| zn <| uab [1,7,77] rfl <| zt <| by exact uai (!r24) () h rfl rfl
 intro o22 _ h
 rw [← hk21] at h
 try dsimp only at h
 refine p 1 [1,7,78] rfl <| bX h fun k26 hk26 h => ?_
 refine ubh (γ := Unit) 4 (fun (o27 : Bool) _ => [(1, tp (tupv v2 0)), (7, tp (tupv v16 0)), (82, tb o27)]) (fun _ _ => [Res.disk Tryz.prog dI (tupv v2 0) r15.2.2.2, Res.clsif (CLog (tupv v2 0)) (tupv v16 0) r15.1.2 r15.1.1, Res.cls (CLog (tupv v2 0)) (tupv v6 0) r12.2.1, Res.own (tupv v6 1) 9 .str r5.2.1]) k26 r ?_ ?_
 ·rcases Bool.eq_false_or_eq_true o22 with hh | hh
  ·rw [hh] at h ⊢
   rw [if_pos rfl] at h
   exact p 4 [1,7,82] rfl <| zn <| uab [1,7,82] rfl <| zt <| by exact uai true () h rfl rfl
  rw [hh] at h ⊢
  rw [if_neg (by decide)] at h
  refine p 1 [1,7,78,79] rfl <| uaI (by rfl) rfl ?_
  obtain ⟨he28, h⟩ := ubo h
  exact uay (R' := Res.cls (CLog (tupv v2 0)) (tupv v16 0) r15.1.2) 1 rfl (udn he28) <| cB h fun r29 hr29 h => rc [1,0] (ub6 _ _ _ _ _ hr29) (by kernel_rfl) rfl rfl rfl fun _ => p 2 [1,7,82] rfl <| zn <| uab [1,7,82] rfl <| uay (R' := Res.clsif (CLog (tupv v2 0)) (tupv v16 0) r15.1.2 r15.1.1) 0 rfl (ucB he28) <| pk [1,0,0,0] rfl <| zt <| by exact uai (r29 != 1) () h rfl rfl
 intro o27 _ h
 rw [← hk26] at h
 try dsimp only at h
 refine za <| rI h rfl (fun hc h => zu <| p 1 [0] rfl <| zf <| zT <| by cases h; exact uav rfl (.tmp rfl) (fun _ _ g => g) (fun _ _ _ => List.nil_sublist _)) fun hc h => zy <| p 1 [1,7,83] rfl ?_
 obtain ⟨he30, h⟩ := ubo h
 refine uay (R' := Res.cls (CLog (tupv v2 0)) (tupv v16 0) r15.1.2) 1 rfl (udn he30) <| cB h fun r31 hr31 h => rcT hT [1,0] (udr _ _ _ _ _ _ hr31) (by kernel_rfl) rfl rfl rfl fun _ => q 1 [(10, ti r31.1)] [1,7] rfl <| zz <| p 1 [1,10,85] rfl <| cB h fun r32 hr32 h => rcT hT [0,0] (uh8 _ _ _ _ _ hr32) (by kernel_rfl) rfl rfl rfl fun v33 => p 1 [1,10,11] rfl <| zz <| p 1 [10,11,88] rfl <| cB h fun r34 hr34 h => rcT hT [1] (udS _ _ _ _ _ _ hr34) (by kernel_rfl) rfl rfl rfl fun v35 => q 7 [(13, .one (.raw (.slice none 0 0)) (tupv v35 1)), (14, ti r34.2.2.1)] [10,11] rfl ?_
 refine zz <| q 3 [(95, tb (r31.1 == 0))] [11,13,14] rfl ?_
 obtain ⟨b36, e, h⟩ := uao h; rw [e]
 refine uaG (γ := Unit) 3 (fun _ => [(11, .one (.raw (.slice none 0 0)) v33), (13, .one (.raw (.slice none 0 0)) (tupv v35 1)), (98, tb (b36 && (r34.2.2.1 == 0)))]) (fun _ => [Res.disk Tryz.prog dI (tupv v2 0) r34.2.2.2, Res.clsif (CLog (tupv v2 0)) (tupv v35 0) r34.1.2 r34.1.1, Res.own (tupv v35 1) 9 .str r34.2.1, Res.cls (CLog (tupv v2 0)) (tupv v16 0) r31.2.1, Res.own v33 9 .str r32, Res.cls (CLog (tupv v2 0)) (tupv v6 0) r12.2.1, Res.own (tupv v6 1) 9 .str r5.2.1]) ?_ (fun _ => ?_)
 ·clear h
  cases b36
  ·exact p 3 [11,13,98] rfl <| za <| by exact uau () rfl rfl
  exact q 3 [(98, tb (r34.2.2.1 == 0))] [11,13] rfl <| uab [11,13,98] rfl <| za <| by exact uau () rfl rfl
 refine q 1 [(99, tb (b36 && (r34.2.2.1 == 0)))] [11,13] rfl ?_
 obtain ⟨b37, e, h⟩ := uao h; rw [e]
 refine bX h fun k38 hk38 h => ?_
 refine ubh (γ := Unit) 4 (fun (o39 : Bool) _ => [(11, .one (.raw (.slice none 0 0)) v33), (103, tb o39)]) (fun _ _ => [Res.disk Tryz.prog dI (tupv v2 0) r34.2.2.2, Res.clsif (CLog (tupv v2 0)) (tupv v35 0) r34.1.2 r34.1.1, Res.cls (CLog (tupv v2 0)) (tupv v16 0) r31.2.1, Res.own v33 9 .str r32, Res.cls (CLog (tupv v2 0)) (tupv v6 0) r12.2.1, Res.own (tupv v6 1) 9 .str r5.2.1]) k38 r ?_ ?_
 ·rcases Bool.eq_false_or_eq_true b37 with hh | hh
  ·rw [hh] at h ⊢
   rw [if_pos rfl] at h
   refine p 1 [11,99,100] rfl <| uaI (by rfl) rfl ?_
   refine ub7 (B := 16) tabOk rfl el9 rfl rfl rfl (.cons rfl .nil) rfl fun v40 => ?_
   refine uaI (by rfl) rfl ?_
   refine udc (i := 3) (k := 100) rfl rfl ?_
   refine udc (i := 0) (k := 101) rfl rfl ?_
   exact cB h fun r41 hr41 h => ubk (ucE _ _ _ hr41) (by kernel_rfl) rfl rfl <| p 1 [11,103] rfl <| zn <| uab [11,103] rfl <| zt <| by exact uai r41 () h rfl rfl
  rw [hh] at h ⊢
  rw [if_neg (by decide)] at h
  exact p 4 [11,103] rfl <| zn <| uab [11,103] rfl <| pk [0,0,1,1,1,1] rfl <| zt <| by exact uai false () h rfl rfl
 intro o39 _ h
 rw [← hk38] at h
 try dsimp only at h
 refine p 1 [11,104] rfl <| bX h fun k43 hk43 h => ?_
 refine ubh (γ := Unit) 4 (fun (o44 : Bool) _ => [(108, tb o44)]) (fun _ _ => [Res.disk Tryz.prog dI (tupv v2 0) r34.2.2.2, Res.clsif (CLog (tupv v2 0)) (tupv v35 0) r34.1.2 r34.1.1, Res.cls (CLog (tupv v2 0)) (tupv v16 0) r31.2.1, Res.cls (CLog (tupv v2 0)) (tupv v6 0) r12.2.1, Res.own (tupv v6 1) 9 .str r5.2.1]) k43 r ?_ ?_
 ·rcases Bool.eq_false_or_eq_true o39 with hh | hh
  ·rw [hh] at h ⊢
   rw [if_pos rfl] at h
   refine p 1 [104,105] rfl <| uaI (by rfl) rfl ?_
   refine ub7 (B := 16) tabOk rfl el9 rfl rfl rfl (.cons rfl (.cons rfl .nil)) rfl fun v45 => ?_
   refine uaI (by rfl) rfl ?_
   refine udc (i := 4) (k := 105) rfl rfl ?_
   refine udc (i := 0) (k := 106) rfl rfl ?_
   exact cB h fun r46 hr46 h => ubk (ucE _ _ _ hr46) (by kernel_rfl) rfl rfl <| p 1 [108] rfl <| zn <| uab [108] rfl <| zt <| by exact uai r46 () h rfl rfl
  rw [hh] at h ⊢
  rw [if_neg (by decide)] at h
  exact p 4 [108] rfl <| zn <| uab [108] rfl <| pk [0,0,0,1,1] rfl <| zt <| by exact uai false () h rfl rfl
 intro o44 _ h
 rw [← hk43] at h
 try dsimp only at h
 refine p 1 [0] rfl <| zf ?_
 cases h
 exact uav rfl (.tmp rfl) (fun _ _ g => g) (fun _ _ _ => List.nil_sublist _)

theorem ueP (p0 : Value) (p100 : Value) (a0 : Unit × (Int × Unit × List Int × Int × (List (Int × Int × Int × Unit)) × Int × Bool × Unit) × Int × Int × List (List Int) × List Int × Bool × Bool × Unit) (a1 : List Int) (a100 : DiskS) (r : Bool × (Unit × (Int × Unit × List Int × Int × (List (Int × Int × Int × Unit)) × Int × Bool × Unit) × Int × Int × List (List Int) × List Int × Bool × Bool × Unit) × DiskS) (h : ubR a0 a1 a100 = some r) : FnT Tryz.prog tabs 16 [tp p0, ts a1] [Res.cls (uct p100) p0 a0, Res.disk Tryz.prog dI p100 a100] (fun _ => tb r.1) (fun _ => [Res.cls (uct p100) p0 r.2.1, Res.disk Tryz.prog dI p100 r.2.2]) := by
 unfold ubR at h
 refine udW Tryz.func16 rfl 83 rfl rfl fun F hT => ?_
 refine ufY fun b3 sv1 sv2 hp => ?_
 subst hp
 refine ub0 (x := a0) (q := p100) ?_
 refine zu <| p 1 [0,1] rfl <| za <| zs <| ueL fun sv4 sv5 => ?_
 refine zr <| p 3 [0,1,10] rfl <| yl 0 ((.snd (.fst .here))) ty33 rfl rfl rfl trivial rfl ?_
 obtain ⟨he6, h⟩ := ubo h
 refine uay (R' := Res.cls (CLog p100) sv4 a0.2.1.2) 1 rfl (udn he6) <| cB h fun r7 hr7 h => rc [1,2] (ub6 _ _ _ _ _ hr7) (by kernel_rfl) rfl rfl rfl fun _ => p 1 [0,1,5] rfl <| zz <| p 3 [0,1,5,15] rfl <| yl 2 ((.snd (.snd (.snd (.snd (.snd (.snd (.fst .here)))))))) ty4 rfl rfl rfl trivial rfl <| q 1 [(6, tb a0.2.2.2.2.2.2.1)] [0,1,5] rfl <| zz <| p 3 [0,1,5,6,19] rfl <| yl 2 ((.snd (.fst .here))) ty33 rfl rfl rfl trivial rfl <| p 1 [0,1,5,6,20,21] rfl <| cB h fun r8 hr8 h => rcT hT [0,0] (udr _ _ _ _ _ _ hr8) (by kernel_rfl) rfl rfl rfl fun _ => ?_
 refine q 1 [(7, ti r8.1)] [0,1,5,6] rfl <| za <| jK h (γ := Unit) (fun (o10 : (Unit × Unit × Int × Int × Unit × List Int × Bool × Bool × Unit)) _ => [(0, ptr b3 0), (1, ts a1), (5, ti r7), (7, ti r8.1)]) (fun (o10 : (Unit × Unit × Int × Int × Unit × List Int × Bool × Bool × Unit)) _ => [Res.cls (CLog p100) sv4 r8.2.1, Res.disk Tryz.prog dI p100 r8.2.2, Res.var b3 45 (.pair (.raw (.pointer none)) (.pair (.raw (.pointer none)) (.pair (.int .i64) (.pair (.int .i64) (.pair (.raw (.slice none 0 0)) (.pair .str (.pair .bool (.pair .bool .unit)))))))) (p100, sv4, o10.2.2.1, o10.2.2.2.1, sv5, o10.2.2.2.2.2.1, o10.2.2.2.2.2.2.1, o10.2.2.2.2.2.2.2.1, o10.2.2.2.2.2.2.2.2), Res.own sv5 9 .str a0.2.2.2.2.1]) (fun k9 h => ?_) fun o10 gg h => ?_
 ·refine zb <| zu <| q 2 [(23, tb a0.2.2.2.2.2.2.1)] [0,1,5,7] rfl <| za <| rI h rfl (fun hc h => ?_) fun hc h => ?_
  ·refine zu <| q 3 [(27, tb (r8.1 == 60))] [0,5] rfl ?_
   obtain ⟨b16, e, h⟩ := uao h; rw [e]
   refine bX h fun k17 hk17 h => ?_
   refine ubh (γ := Unit) 8 (fun (o18 : Bool) _ => [(35, tb o18)]) (fun _ _ => [Res.cls (CLog p100) sv4 r8.2.1, Res.disk Tryz.prog dI p100 r8.2.2, Res.var b3 45 (.pair (.raw (.pointer none)) (.pair (.raw (.pointer none)) (.pair (.int .i64) (.pair (.int .i64) (.pair (.raw (.slice none 0 0)) (.pair .str (.pair .bool (.pair .bool .unit)))))))) (p100, sv4, a0.2.2.1, a0.2.2.2.1, sv5, a0.2.2.2.2.2.1, a0.2.2.2.2.2.2.1, a0.2.2.2.2.2.2.2.1, a0.2.2.2.2.2.2.2.2), Res.own sv5 9 .str a0.2.2.2.2.1]) k17 r ?_ ?_
   ·rcases Bool.eq_false_or_eq_true b16 with hh | hh
    ·rw [hh] at h ⊢
     rw [if_pos rfl] at h
     refine p 3 [5,27,30] rfl <| uaI (by rfl) rfl ?_
     refine yl 2 ((.snd (.fst .here))) ty33 rfl rfl rfl trivial rfl <| uaI (by rfl) rfl ?_
     exact cB h fun r19 hr19 h => rc [0,0] (ub6 _ _ _ _ _ hr19) (by kernel_rfl) rfl rfl rfl fun _ => p 3 [35] rfl <| zn <| uab [35] rfl <| zt <| by exact uai (r19 == r7) () h rfl rfl
    rw [hh] at h ⊢
    rw [if_neg (by decide)] at h
    exact p 8 [35] rfl <| zn <| uab [35] rfl <| zt <| by exact uai false () h rfl rfl
   intro o18 _ h
   rw [← hk17] at h
   try dsimp only at h
   refine p 1 [4] rfl <| zf <| zB <| zT <| uay (R' := Res.clsif (CLog p100) sv4 r8.2.1 a0.2.1.1) 0 rfl (ucB he6) <| pk [2,0,1,0] rfl <| ub0 (x := ((), (a0.2.1.1, r8.2.1), a0.2.2.1, a0.2.2.2.1, a0.2.2.2.2.1, a0.2.2.2.2.2.1, a0.2.2.2.2.2.2.1, a0.2.2.2.2.2.2.2.1, a0.2.2.2.2.2.2.2.2)) (q := p100) ?_
   cases h
   exact uav rfl (.tmp rfl) (fun _ _ g => g) (fun _ _ _ => (.cons_cons _ (.cons_cons _ .slnil)))
  refine zu <| q 3 [(36, tb (r8.1 == 0))] [0,1,5,7] rfl <| za <| rI h rfl (fun hc h => ?_) fun hc h => ?_
  ·refine zu <| p 4 [0,1,5,39,42] rfl <| yl 2 ((.snd (.snd (.snd (.snd (.fst .here)))))) tx0 rfl rfl rfl trivial rfl <| p 1 [0,5,39,43,44] rfl <| ub7 (B := 16) tabOk rfl el9 rfl rfl rfl (.cons rfl .nil) rfl fun v20 => ?_
   refine iE h fun hc h => ubd (B := 16) tabOk 4 rfl rfl (uca 0 rfl rfl) rfl el9 rfl rfl hc rfl fun v21 => ?_
   refine pk [1,1,1,1] rfl <| p 2 [0,5,46,48] rfl <| st 2 ((.snd (.snd (.snd (.snd (.fst .here)))))) tx0 rfl rfl rfl rfl trivial <| zz <| p 3 [5,51] rfl <| yl 2 ((.snd (.fst .here))) ty33 rfl rfl rfl trivial rfl <| cB h fun r22 hr22 h => rc [0,0] (ub6 _ _ _ _ _ hr22) (by kernel_rfl) rfl rfl rfl fun _ => p 4 [4] rfl <| zf <| zB <| zT <| uay (R' := Res.clsif (CLog p100) sv4 r8.2.1 a0.2.1.1) 0 rfl (ucB he6) <| pk [2,0,1,0] rfl ?_
   refine ub0 (x := ((), (a0.2.1.1, r8.2.1), a0.2.2.1, a0.2.2.2.1, (a0.2.2.2.2.1 ++ [a1]), a0.2.2.2.2.2.1, a0.2.2.2.2.2.2.1, a0.2.2.2.2.2.2.2.1, a0.2.2.2.2.2.2.2.2)) (q := p100) ?_
   cases h
   exact uav rfl (.tmp rfl) (fun _ _ g => g) (fun _ _ _ => (.cons_cons _ (.cons_cons _ .slnil)))
  exact zu <| q 3 [(57, tb (r8.1 == 9))] [0,1,5,7] rfl <| za <| rI h rfl (fun hc h => zu <| p 4 [0,1,5,7,61,63] rfl <| st 2 ((.snd (.snd (.snd (.snd (.snd (.fst .here))))))) ty9 rfl rfl rfl rfl trivial <| za <| zr <| p 3 [0,1,5,7,66] rfl <| st 2 ((.snd (.snd (.snd (.snd (.snd (.snd (.fst .here)))))))) ty4 rfl rfl rfl rfl trivial <| zn <| zi <| zt <| uab [0,1,5,7] rfl <| by exact uai ((), (), a0.2.2.1, a0.2.2.2.1, (), a1, true, a0.2.2.2.2.2.2.2.1, a0.2.2.2.2.2.2.2.2) () h rfl rfl) fun hc h => zk <| zi <| zt <| uab [0,1,5,7] rfl <| by exact uai ((), (), a0.2.2.1, a0.2.2.2.1, (), a0.2.2.2.2.2.1, a0.2.2.2.2.2.2.1, a0.2.2.2.2.2.2.2.1, a0.2.2.2.2.2.2.2.2) () h rfl rfl
 refine zu <| q 3 [(1, ts a1), (5, ti r7), (7, ti r8.1), (69, ptr b3 1)] [] rfl <| yl 2 ((.snd (.fst .here))) ty33 rfl rfl rfl trivial rfl <| cB h fun r11 hr11 h => rc [0,0] (ub6 _ _ _ _ _ hr11) (by kernel_rfl) rfl rfl rfl fun _ => p 3 [1,7,74] rfl ?_
 obtain ⟨b12, e, h⟩ := uao h; rw [e]
 refine bX h fun k13 hk13 h => ?_
 refine ubh (γ := Unit) 8 (fun (o14 : Bool) _ => [(82, tb o14)]) (fun _ _ => [Res.cls (CLog p100) sv4 r8.2.1, Res.disk Tryz.prog dI p100 r8.2.2, Res.var b3 45 (.pair (.raw (.pointer none)) (.pair (.raw (.pointer none)) (.pair (.int .i64) (.pair (.int .i64) (.pair (.raw (.slice none 0 0)) (.pair .str (.pair .bool (.pair .bool .unit)))))))) (p100, sv4, o10.2.2.1, o10.2.2.2.1, sv5, o10.2.2.2.2.2.1, o10.2.2.2.2.2.2.1, o10.2.2.2.2.2.2.2.1, o10.2.2.2.2.2.2.2.2), Res.own sv5 9 .str a0.2.2.2.2.1]) k13 r ?_ ?_
 ·rcases Bool.eq_false_or_eq_true b12 with hh | hh
  ·rw [hh] at h ⊢
   rw [if_pos rfl] at h
   refine q 4 [(74, tb true), (78, tb (decide ((List.length a1 : Int) ≤ 65536)))] [7] rfl ?_
   obtain ⟨b15, e, h⟩ := uao h; rw [e]
   refine uaG (γ := Unit) 3 (fun _ => [(74, tb true), (81, tb (b15 || (r8.1 == 3)))]) (fun _ => [Res.cls (CLog p100) sv4 r8.2.1, Res.disk Tryz.prog dI p100 r8.2.2, Res.var b3 45 (.pair (.raw (.pointer none)) (.pair (.raw (.pointer none)) (.pair (.int .i64) (.pair (.int .i64) (.pair (.raw (.slice none 0 0)) (.pair .str (.pair .bool (.pair .bool .unit)))))))) (p100, sv4, o10.2.2.1, o10.2.2.2.1, sv5, o10.2.2.2.2.2.1, o10.2.2.2.2.2.2.1, o10.2.2.2.2.2.2.2.1, o10.2.2.2.2.2.2.2.2), Res.own sv5 9 .str a0.2.2.2.2.1]) ?_ (fun _ => ?_)
   ·clear h
    cases b15
    ·exact q 3 [(81, tb (r8.1 == 3))] [74] rfl <| uab [74,81] rfl <| za <| by exact uau () rfl rfl
    exact p 3 [74,81] rfl <| za <| by exact uau () rfl rfl
   exact q 1 [(82, tb (b15 || (r8.1 == 3)))] [] rfl <| zn <| uab [82] rfl <| zt <| by exact uai (b15 || (r8.1 == 3)) () h rfl rfl
  rw [hh] at h ⊢
  rw [if_neg (by decide)] at h
  exact p 8 [82] rfl <| zn <| uab [82] rfl <| zt <| by exact uai false () h rfl rfl
 intro o14 _ h
 rw [← hk13] at h
 try dsimp only at h
 refine p 1 [4] rfl <| zf <| uay (R' := Res.clsif (CLog p100) sv4 r8.2.1 a0.2.1.1) 0 rfl (ucB he6) <| pk [2,0,1,0] rfl <| ub0 (x := ((), (a0.2.1.1, r8.2.1), o10.2.2.1, o10.2.2.2.1, a0.2.2.2.2.1, o10.2.2.2.2.2.1, o10.2.2.2.2.2.2.1, o10.2.2.2.2.2.2.2.1, o10.2.2.2.2.2.2.2.2)) (q := p100) ?_
 cases h
 exact uav rfl (.tmp rfl) (fun _ _ g => g) (fun _ _ _ => (.cons_cons _ (.cons_cons _ .slnil)))

theorem uel (p0 : Value) (p100 : Value) (a0 : Unit × List Int × Int × (List (Int × Int × Int × Unit)) × Int × Bool × Unit) (a1 : Int) (a100 : DiskS) (r : Int × (Unit × List Int × Int × (List (Int × Int × Int × Unit)) × Int × Bool × Unit) × DiskS) (h : ubS a0 a1 a100 = some r) : FnT Tryz.prog tabs 36 [tp p0, ti a1] [Res.cls (CLog p100) p0 a0, Res.disk Tryz.prog dI p100 a100] (fun _ => ti r.1) (fun _ => [Res.cls (CLog p100) p0 r.2.1, Res.disk Tryz.prog dI p100 r.2.2]) := by
 unfold ubS at h
 refine udW Tryz.func36 rfl 65 rfl rfl fun F hT => ?_
 refine ud1 fun b2 sv1 hp => ?_
 subst hp
 refine uaK (x := a0) (q := p100) ?_
 refine zu <| p 1 [0,1] rfl <| za <| zs <| zs <| ubZ fun sv3 => ?_
 refine zr <| p 3 [0,1,8] rfl <| yl 0 ((.snd (.snd (.snd (.snd (.snd (.fst .here))))))) ty4 rfl rfl rfl trivial rfl <| za <| rI h rfl (fun hc h => ?_) fun hc h => ?_
 ·refine zu <| p 1 [4] rfl <| zf <| zT <| uaK (x := a0) (q := p100) ?_
  cases h
  exact uav rfl (.tmp rfl) (fun _ _ g => g) (fun _ _ _ => (.cons_cons _ (.cons_cons _ .slnil)))
 refine zk <| zt <| zs <| zu <| p 3 [0,1,12] rfl ?_
 obtain ⟨b4, e, h⟩ := uao h; rw [e]
 refine uaG (γ := Unit) 7 (fun _ => [(0, ptr b2 0), (1, ti a1), (19, tb (b4 || (decide (a1 > a0.2.2.2.2.1))))]) (fun _ => [Res.var b2 68 (.pair (.raw (.pointer none)) (.pair .str (.pair (.int .i64) (.pair (.raw (.slice none 0 0)) (.pair (.int .i64) (.pair .bool .unit)))))) (p100, a0.2.1, a0.2.2.1, sv3, a0.2.2.2.2.1, a0.2.2.2.2.2.1, a0.2.2.2.2.2.2), Res.own sv3 77 Y77 a0.2.2.2.1, Res.disk Tryz.prog dI p100 a100]) ?_ (fun _ => ?_)
 ·clear h
  cases b4
  ·refine p 4 [0,1,12,13,16] rfl <| uaI (by rfl) rfl ?_
   exact yl 0 ((.snd (.snd (.snd (.snd (.fst .here)))))) ty2 rfl rfl rfl trivial rfl <| q 2 [(19, tb (decide (a1 > a0.2.2.2.2.1)))] [0,1] rfl <| uab [0,1,19] rfl <| za <| by exact uau () rfl rfl
  exact p 7 [0,1,19] rfl <| za <| by exact uau () rfl rfl
 refine za <| rI h rfl (fun hc h => ?_) fun hc h => ?_
 ·refine zu <| p 1 [4] rfl <| zf <| zT <| uaK (x := a0) (q := p100) ?_
  cases h
  exact uav rfl (.tmp rfl) (fun _ _ g => g) (fun _ _ _ => (.cons_cons _ (.cons_cons _ .slnil)))
 refine zk <| zt <| jK h (γ := Value) (fun (o6 : (List (Int × Int × Int × Unit)) × DiskS) g7 => []) (fun (o6 : (List (Int × Int × Int × Unit)) × DiskS) g7 => [Res.var b2 68 (.pair (.raw (.pointer none)) (.pair .str (.pair (.int .i64) (.pair (.raw (.slice none 0 0)) (.pair (.int .i64) (.pair .bool .unit)))))) (p100, a0.2.1, a0.2.2.1, g7, a0.2.2.2.2.1, a0.2.2.2.2.2.1, a0.2.2.2.2.2.2), Res.own g7 77 Y77 o6.1, Res.disk Tryz.prog dI p100 o6.2]) (fun k5 h => ?_) fun o6 g7 h => ?_
 ·refine zb <| uab [0,1] rfl <| ubv (γ := Value) (fun (s11 : DiskS × (List (Int × Int × Int × Unit))) g12 => [(0, ptr b2 0), (1, ti a1)]) (fun (s11 : DiskS × (List (Int × Int × Int × Unit))) g12 => [Res.var b2 68 (.pair (.raw (.pointer none)) (.pair .str (.pair (.int .i64) (.pair (.raw (.slice none 0 0)) (.pair (.int .i64) (.pair .bool .unit)))))) (p100, a0.2.1, a0.2.2.1, g12, a0.2.2.2.2.1, a0.2.2.2.2.2.1, a0.2.2.2.2.2.2), Res.own g12 77 Y77 s11.2, Res.disk Tryz.prog dI p100 s11.1]) (ucl a0 a1 k5) (a100, a0.2.2.2.1) sv3 h rfl rfl ?_
  clear h
  intro m13 s11 g12 h
  cases m13 with
  | zero => cases h
  | succ m13 =>
  simp only [ucl] at h
  refine zs <| zu <| p 3 [0,1,22] rfl <| yl 0 ((.snd (.snd (.snd (.fst .here))))) tx2 rfl rfl rfl trivial rfl <| y (uaZ tabOk 1 rfl rfl rfl) rfl ?_
  refine q 2 [(26, tb (decide ((List.length s11.2 : Int) > 0)))] [0,1] rfl ?_
  obtain ⟨b14, e, h⟩ := uao h; rw [e]
  refine bX h fun k15 hk15 h => ?_
  refine ubh (γ := Unit) 10 (fun (o16 : Bool) _ => [(0, ptr b2 0), (1, ti a1), (36, tb o16)]) (fun _ _ => [Res.var b2 68 (.pair (.raw (.pointer none)) (.pair .str (.pair (.int .i64) (.pair (.raw (.slice none 0 0)) (.pair (.int .i64) (.pair .bool .unit)))))) (p100, a0.2.1, a0.2.2.1, g12, a0.2.2.2.2.1, a0.2.2.2.2.2.1, a0.2.2.2.2.2.2), Res.own g12 77 Y77 s11.2, Res.disk Tryz.prog dI p100 s11.1]) k15 r ?_ ?_
  ·rcases Bool.eq_false_or_eq_true b14 with hh | hh
   ·rw [hh] at h ⊢
    rw [if_pos rfl] at h
    refine p 3 [0,1,26,29] rfl <| uaI (by rfl) rfl ?_
    refine yl 0 ((.snd (.snd (.snd (.fst .here))))) tx2 rfl rfl rfl trivial rfl <| uaI (by rfl) rfl ?_
    refine iE h fun hc h => ubD 1 rfl (by first | omega | (simp only [List.length_set] at hc ⊢; omega)) fun b17 o19 c18 hv => ?_
    rw [hv]
    try clear hv
    refine y (ucb tabOk rfl rfl hc.1 (by first | exact hc.2 | simpa using hc.2) rfl ty77) rfl ?_
    refine p 1 [0,1,26,32] rfl <| uaI (by rfl) rfl ?_
    refine y (uco 1 0 ((.snd (.snd (.fst .here)))) rfl rfl (by first | omega | (simp only [List.length_set] at hc ⊢; omega)) (by first | rfl | (simp only [Pth.off, T.size]; omega)) (uaw (uaw (uaC uam))) ty2) rfl ?_
    exact q 3 [(36, tb (decide (((List.getD s11.2 0 (0, 0, 0, ())).2.2.1) ≤ a1)))] [0,1] rfl <| zn <| uab [0,1,36] rfl <| zt <| by exact uai (decide (((List.getD s11.2 0 (0, 0, 0, ())).2.2.1) ≤ a1)) () h rfl rfl
   rw [hh] at h ⊢
   rw [if_neg (by decide)] at h
   exact p 10 [0,1,36] rfl <| zn <| uab [0,1,36] rfl <| zt <| by exact uai false () h rfl rfl
  intro o16 _ h
  rw [← hk15] at h
  try dsimp only at h
  refine za <| rI h rfl (fun hc h => ?_) fun hc h => ?_
  ·refine zk <| zt <| zb <| zs <| jK h (γ := Value) (fun (o21 : Int × DiskS) g22 => [(0, ptr b2 0), (1, ti a1), (5, ti o21.1)]) (fun (o21 : Int × DiskS) g22 => [Res.disk Tryz.prog dI p100 o21.2, Res.var b2 68 (.pair (.raw (.pointer none)) (.pair .str (.pair (.int .i64) (.pair (.raw (.slice none 0 0)) (.pair (.int .i64) (.pair .bool .unit)))))) (p100, a0.2.1, a0.2.2.1, g22, a0.2.2.2.2.1, a0.2.2.2.2.2.1, a0.2.2.2.2.2.2), Res.own g22 77 Y77 s11.2]) (fun k20 h => ?_) fun o21 g22 h => ?_
   ·refine r_any (by kernel_rfl) ?_
    refine uah (i := 0) (t := ptr b2 0) (uaa (uaa (uad (uaa (uad (uaa uac)))))) rfl (by kernel_rfl) (by kernel_rfl) (by kernel_rfl) (uaf tabOk rfl) rfl ?_
    refine uah (i := 4) (t := ptr b2 0) (uaa (uaa (uad (uaa (uad (uaa uac)))))) rfl (by kernel_rfl) (by kernel_rfl) (by kernel_rfl) (uaf tabOk rfl) rfl ?_
    refine uah (i := 5) (t := ptr b2 0) (uaa (uaa (uad (uaa (uad (uaa uac)))))) rfl (by kernel_rfl) (by kernel_rfl) (by kernel_rfl) (uaf tabOk rfl) rfl ?_
    refine a_two (i := 1) (j := 6) (by kernel_rfl) rfl rfl ?_ ?_
    ·refine p 1 [0,1,38,41,42] rfl <| za <| uab [0,1,38,41,42] rfl <| uah (i := 2) (t := ptr b2 0) (uaa (uaa (uad (uaa (uad (uaa uac)))))) rfl (by kernel_rfl) (by kernel_rfl) (by kernel_rfl) (uaf tabOk rfl) rfl ?_
     refine a_two (i := 3) (j := 6) (by kernel_rfl) rfl rfl ?_ ?_
     ·refine yl 0 ((.fst .here)) ty23 rfl rfl rfl trivial rfl <| za <| uab [0,1,40,41,42] rfl <| a_one (i := 6) (by kernel_rfl) rfl ?_
      refine p 1 [0,1,40,41,43] rfl <| za <| uab [0,1,40,41,43] rfl <| uah (i := 7) (t := ptr b2 3) (uaa (uaa (uad (uaa (uad (uaa uac)))))) rfl (by kernel_rfl) (by kernel_rfl) (by kernel_rfl) (uaf tabOk rfl) rfl ?_
      refine a_one (i := 8) (by kernel_rfl) rfl ?_
      refine yl 0 ((.snd (.snd (.snd (.fst .here))))) tx2 rfl rfl rfl trivial rfl <| za <| uab [0,1,40,41,45] rfl <| a_one (i := 9) (by kernel_rfl) rfl ?_
      refine iE h fun hc h => ubD 1 rfl (by first | omega | (simp only [List.length_set] at hc ⊢; omega)) fun b24 o26 c25 hv => ?_
      rw [hv]
      try clear hv
      refine y (ucb tabOk rfl rfl hc.1 (by first | exact hc.2 | simpa using hc.2) rfl ty77) rfl ?_
      refine za <| uab [0,1,40,41,46] rfl <| uah (i := 10) (t := ptr b24 ((o26 + 0 * 3) + 0)) (uaa (uaa (uad (uaa (uad (uaa uac)))))) rfl (by kernel_rfl) (by kernel_rfl) (by kernel_rfl) (uaf tabOk rfl) rfl ?_
      refine a_one (i := 11) (by kernel_rfl) rfl ?_
      refine y (uco 1 0 ((.fst .here)) rfl rfl (by first | omega | (simp only [List.length_set] at hc ⊢; omega)) (by first | rfl | (simp only [Pth.off, T.size]; omega)) (uaC uam) ty3) rfl ?_
      refine za <| uab [0,1,40,41,48] rfl <| a_one (i := 12) (by kernel_rfl) rfl ?_
      refine cB h fun r27 hr27 h => rcT hT [0] (uar _ _ _ _ _ _ hr27) (by kernel_rfl) rfl rfl rfl fun _ => za <| uab [0,1,40,49] rfl <| a_one (i := 13) (by kernel_rfl) rfl ?_
      refine cB h fun r28 hr28 h => rc [2] (uaA _ _ _ _ hr28) (by kernel_rfl) rfl rfl rfl fun _ => za <| uab [0,1,50] rfl <| uah (i := 14) (t := ti r28.1) (uaa (uaa (uad (uaa (uad (uaa uac)))))) rfl (by kernel_rfl) (by kernel_rfl) (by kernel_rfl) (uaf tabOk rfl) rfl ?_
      refine a_end (by kernel_rfl) ?_
      exact zt <| uab [0,1,5] rfl <| by exact uai (r28.1, r28.2) (.slice (some ⟨b24, o26, none⟩) (List.length s11.2) c25) h rfl rfl
     refine p 1 [0,1,39,41,43] rfl <| za <| uab [0,1,39,41,43] rfl <| uah (i := 7) (t := ptr b2 3) (uaa (uaa (uad (uaa (uad (uaa uac)))))) rfl (by kernel_rfl) (by kernel_rfl) (by kernel_rfl) (uaf tabOk rfl) rfl ?_
     refine a_two (i := 3) (j := 8) (by kernel_rfl) rfl rfl ?_ ?_
     ·refine yl 0 ((.fst .here)) ty23 rfl rfl rfl trivial rfl <| za <| uab [0,1,40,41,44] rfl <| a_one (i := 8) (by kernel_rfl) rfl ?_
      refine yl 0 ((.snd (.snd (.snd (.fst .here))))) tx2 rfl rfl rfl trivial rfl <| za <| uab [0,1,40,41,45] rfl <| a_one (i := 9) (by kernel_rfl) rfl ?_
      refine iE h fun hc h => ubD 1 rfl (by first | omega | (simp only [List.length_set] at hc ⊢; omega)) fun b24 o26 c25 hv => ?_
      rw [hv]
      try clear hv
      refine y (ucb tabOk rfl rfl hc.1 (by first | exact hc.2 | simpa using hc.2) rfl ty77) rfl ?_
      refine za <| uab [0,1,40,41,46] rfl <| uah (i := 10) (t := ptr b24 ((o26 + 0 * 3) + 0)) (uaa (uaa (uad (uaa (uad (uaa uac)))))) rfl (by kernel_rfl) (by kernel_rfl) (by kernel_rfl) (uaf tabOk rfl) rfl ?_
      refine a_one (i := 11) (by kernel_rfl) rfl ?_
      refine y (uco 1 0 ((.fst .here)) rfl rfl (by first | omega | (simp only [List.length_set] at hc ⊢; omega)) (by first | rfl | (simp only [Pth.off, T.size]; omega)) (uaC uam) ty3) rfl ?_
      refine za <| uab [0,1,40,41,48] rfl <| a_one (i := 12) (by kernel_rfl) rfl ?_
      refine cB h fun r27 hr27 h => rcT hT [0] (uar _ _ _ _ _ _ hr27) (by kernel_rfl) rfl rfl rfl fun _ => za <| uab [0,1,40,49] rfl <| a_one (i := 13) (by kernel_rfl) rfl ?_
      refine cB h fun r28 hr28 h => rc [2] (uaA _ _ _ _ hr28) (by kernel_rfl) rfl rfl rfl fun _ => za <| uab [0,1,50] rfl <| uah (i := 14) (t := ti r28.1) (uaa (uaa (uad (uaa (uad (uaa uac)))))) rfl (by kernel_rfl) (by kernel_rfl) (by kernel_rfl) (uaf tabOk rfl) rfl ?_
      refine a_end (by kernel_rfl) ?_
      exact zt <| uab [0,1,5] rfl <| by exact uai (r28.1, r28.2) (.slice (some ⟨b24, o26, none⟩) (List.length s11.2) c25) h rfl rfl
     refine yl 0 ((.snd (.snd (.snd (.fst .here))))) tx2 rfl rfl rfl trivial rfl <| za <| uab [0,1,39,41,45] rfl ?_
     refine a_two (i := 3) (j := 9) (by kernel_rfl) rfl rfl ?_ ?_
     ·refine yl 0 ((.fst .here)) ty23 rfl rfl rfl trivial rfl <| za <| uab [0,1,40,41,45] rfl <| a_one (i := 9) (by kernel_rfl) rfl ?_
      refine iE h fun hc h => ubD 1 rfl (by first | omega | (simp only [List.length_set] at hc ⊢; omega)) fun b24 o26 c25 hv => ?_
      rw [hv]
      try clear hv
      refine y (ucb tabOk rfl rfl hc.1 (by first | exact hc.2 | simpa using hc.2) rfl ty77) rfl ?_
      refine za <| uab [0,1,40,41,46] rfl <| uah (i := 10) (t := ptr b24 ((o26 + 0 * 3) + 0)) (uaa (uaa (uad (uaa (uad (uaa uac)))))) rfl (by kernel_rfl) (by kernel_rfl) (by kernel_rfl) (uaf tabOk rfl) rfl ?_
      refine a_one (i := 11) (by kernel_rfl) rfl ?_
      refine y (uco 1 0 ((.fst .here)) rfl rfl (by first | omega | (simp only [List.length_set] at hc ⊢; omega)) (by first | rfl | (simp only [Pth.off, T.size]; omega)) (uaC uam) ty3) rfl ?_
      refine za <| uab [0,1,40,41,48] rfl <| a_one (i := 12) (by kernel_rfl) rfl ?_
      refine cB h fun r27 hr27 h => rcT hT [0] (uar _ _ _ _ _ _ hr27) (by kernel_rfl) rfl rfl rfl fun _ => za <| uab [0,1,40,49] rfl <| a_one (i := 13) (by kernel_rfl) rfl ?_
      refine cB h fun r28 hr28 h => rc [2] (uaA _ _ _ _ hr28) (by kernel_rfl) rfl rfl rfl fun _ => za <| uab [0,1,50] rfl <| uah (i := 14) (t := ti r28.1) (uaa (uaa (uad (uaa (uad (uaa uac)))))) rfl (by kernel_rfl) (by kernel_rfl) (by kernel_rfl) (uaf tabOk rfl) rfl ?_
      refine a_end (by kernel_rfl) ?_
      exact zt <| uab [0,1,5] rfl <| by exact uai (r28.1, r28.2) (.slice (some ⟨b24, o26, none⟩) (List.length s11.2) c25) h rfl rfl
     refine iE h fun hc h => ubD 1 rfl (by first | omega | (simp only [List.length_set] at hc ⊢; omega)) fun b24 o26 c25 hv => ?_
     rw [hv]
     try clear hv
     refine y (ucb tabOk rfl rfl hc.1 (by first | exact hc.2 | simpa using hc.2) rfl ty77) rfl ?_
     refine za <| uab [0,1,39,41,46] rfl <| uah (i := 10) (t := ptr b24 ((o26 + 0 * 3) + 0)) (uaa (uaa (uad (uaa (uad (uaa uac)))))) rfl (by kernel_rfl) (by kernel_rfl) (by kernel_rfl) (uaf tabOk rfl) rfl ?_
     refine a_two (i := 3) (j := 11) (by kernel_rfl) rfl rfl ?_ ?_
     ·refine yl 0 ((.fst .here)) ty23 rfl rfl rfl trivial rfl <| za <| uab [0,1,40,41,47] rfl <| a_one (i := 11) (by kernel_rfl) rfl ?_
      refine y (uco 1 0 ((.fst .here)) rfl rfl (by first | omega | (simp only [List.length_set] at hc ⊢; omega)) (by first | rfl | (simp only [Pth.off, T.size]; omega)) (uaC uam) ty3) rfl ?_
      refine za <| uab [0,1,40,41,48] rfl <| a_one (i := 12) (by kernel_rfl) rfl ?_
      refine cB h fun r27 hr27 h => rcT hT [0] (uar _ _ _ _ _ _ hr27) (by kernel_rfl) rfl rfl rfl fun _ => za <| uab [0,1,40,49] rfl <| a_one (i := 13) (by kernel_rfl) rfl ?_
      refine cB h fun r28 hr28 h => rc [2] (uaA _ _ _ _ hr28) (by kernel_rfl) rfl rfl rfl fun _ => za <| uab [0,1,50] rfl <| uah (i := 14) (t := ti r28.1) (uaa (uaa (uad (uaa (uad (uaa uac)))))) rfl (by kernel_rfl) (by kernel_rfl) (by kernel_rfl) (uaf tabOk rfl) rfl ?_
      refine a_end (by kernel_rfl) ?_
      exact zt <| uab [0,1,5] rfl <| by exact uai (r28.1, r28.2) (.slice (some ⟨b24, o26, none⟩) (List.length s11.2) c25) h rfl rfl
     refine y (uco 1 0 ((.fst .here)) rfl rfl (by first | omega | (simp only [List.length_set] at hc ⊢; omega)) (by first | rfl | (simp only [Pth.off, T.size]; omega)) (uaC uam) ty3) rfl ?_
     refine za <| uab [0,1,39,41,48] rfl ?_
     refine a_two (i := 3) (j := 12) (by kernel_rfl) rfl rfl ?_ ?_
     ·refine yl 0 ((.fst .here)) ty23 rfl rfl rfl trivial rfl <| za <| uab [0,1,40,41,48] rfl <| a_one (i := 12) (by kernel_rfl) rfl ?_
      refine cB h fun r27 hr27 h => rcT hT [0] (uar _ _ _ _ _ _ hr27) (by kernel_rfl) rfl rfl rfl fun _ => za <| uab [0,1,40,49] rfl <| a_one (i := 13) (by kernel_rfl) rfl ?_
      refine cB h fun r28 hr28 h => rc [2] (uaA _ _ _ _ hr28) (by kernel_rfl) rfl rfl rfl fun _ => za <| uab [0,1,50] rfl <| uah (i := 14) (t := ti r28.1) (uaa (uaa (uad (uaa (uad (uaa uac)))))) rfl (by kernel_rfl) (by kernel_rfl) (by kernel_rfl) (uaf tabOk rfl) rfl ?_
      refine a_end (by kernel_rfl) ?_
      exact zt <| uab [0,1,5] rfl <| by exact uai (r28.1, r28.2) (.slice (some ⟨b24, o26, none⟩) (List.length s11.2) c25) h rfl rfl
     refine cB h fun r27 hr27 h => rcT hT [0] (uar _ _ _ _ _ _ hr27) (by kernel_rfl) rfl rfl rfl fun _ => za <| uab [0,1,39,49] rfl <| a_one (i := 3) (by kernel_rfl) rfl ?_
     refine yl 0 ((.fst .here)) ty23 rfl rfl rfl trivial rfl <| za <| uab [0,1,40,49] rfl <| a_one (i := 13) (by kernel_rfl) rfl ?_
     refine cB h fun r28 hr28 h => rc [2] (uaA _ _ _ _ hr28) (by kernel_rfl) rfl rfl rfl fun _ => za <| uab [0,1,50] rfl <| uah (i := 14) (t := ti r28.1) (uaa (uaa (uad (uaa (uad (uaa uac)))))) rfl (by kernel_rfl) (by kernel_rfl) (by kernel_rfl) (uaf tabOk rfl) rfl ?_
     refine a_end (by kernel_rfl) ?_
     exact zt <| uab [0,1,5] rfl <| by exact uai (r28.1, r28.2) (.slice (some ⟨b24, o26, none⟩) (List.length s11.2) c25) h rfl rfl
    refine p 1 [0,1,37,41,43] rfl <| za <| uab [0,1,37,41,43] rfl <| uah (i := 7) (t := ptr b2 3) (uaa (uaa (uad (uaa (uad (uaa uac)))))) rfl (by kernel_rfl) (by kernel_rfl) (by kernel_rfl) (uaf tabOk rfl) rfl ?_
    refine a_two (i := 1) (j := 8) (by kernel_rfl) rfl rfl ?_ ?_
    ·refine p 1 [0,1,38,41,44] rfl <| za <| uab [0,1,38,41,44] rfl <| uah (i := 2) (t := ptr b2 0) (uaa (uaa (uad (uaa (uad (uaa uac)))))) rfl (by kernel_rfl) (by kernel_rfl) (by kernel_rfl) (uaf tabOk rfl) rfl ?_
     refine a_two (i := 3) (j := 8) (by kernel_rfl) rfl rfl ?_ ?_
     ·refine yl 0 ((.fst .here)) ty23 rfl rfl rfl trivial rfl <| za <| uab [0,1,40,41,44] rfl <| a_one (i := 8) (by kernel_rfl) rfl ?_
      refine yl 0 ((.snd (.snd (.snd (.fst .here))))) tx2 rfl rfl rfl trivial rfl <| za <| uab [0,1,40,41,45] rfl <| a_one (i := 9) (by kernel_rfl) rfl ?_
      refine iE h fun hc h => ubD 1 rfl (by first | omega | (simp only [List.length_set] at hc ⊢; omega)) fun b24 o26 c25 hv => ?_
      rw [hv]
      try clear hv
      refine y (ucb tabOk rfl rfl hc.1 (by first | exact hc.2 | simpa using hc.2) rfl ty77) rfl ?_
      refine za <| uab [0,1,40,41,46] rfl <| uah (i := 10) (t := ptr b24 ((o26 + 0 * 3) + 0)) (uaa (uaa (uad (uaa (uad (uaa uac)))))) rfl (by kernel_rfl) (by kernel_rfl) (by kernel_rfl) (uaf tabOk rfl) rfl ?_
      refine a_one (i := 11) (by kernel_rfl) rfl ?_
      refine y (uco 1 0 ((.fst .here)) rfl rfl (by first | omega | (simp only [List.length_set] at hc ⊢; omega)) (by first | rfl | (simp only [Pth.off, T.size]; omega)) (uaC uam) ty3) rfl ?_
      refine za <| uab [0,1,40,41,48] rfl <| a_one (i := 12) (by kernel_rfl) rfl ?_
      refine cB h fun r27 hr27 h => rcT hT [0] (uar _ _ _ _ _ _ hr27) (by kernel_rfl) rfl rfl rfl fun _ => za <| uab [0,1,40,49] rfl <| a_one (i := 13) (by kernel_rfl) rfl ?_
      refine cB h fun r28 hr28 h => rc [2] (uaA _ _ _ _ hr28) (by kernel_rfl) rfl rfl rfl fun _ => za <| uab [0,1,50] rfl <| uah (i := 14) (t := ti r28.1) (uaa (uaa (uad (uaa (uad (uaa uac)))))) rfl (by kernel_rfl) (by kernel_rfl) (by kernel_rfl) (uaf tabOk rfl) rfl ?_
      refine a_end (by kernel_rfl) ?_
      exact zt <| uab [0,1,5] rfl <| by exact uai (r28.1, r28.2) (.slice (some ⟨b24, o26, none⟩) (List.length s11.2) c25) h rfl rfl
     refine yl 0 ((.snd (.snd (.snd (.fst .here))))) tx2 rfl rfl rfl trivial rfl <| za <| uab [0,1,39,41,45] rfl ?_
     refine a_two (i := 3) (j := 9) (by kernel_rfl) rfl rfl ?_ ?_
     ·refine yl 0 ((.fst .here)) ty23 rfl rfl rfl trivial rfl <| za <| uab [0,1,40,41,45] rfl <| a_one (i := 9) (by kernel_rfl) rfl ?_
      refine iE h fun hc h => ubD 1 rfl (by first | omega | (simp only [List.length_set] at hc ⊢; omega)) fun b24 o26 c25 hv => ?_
      rw [hv]
      try clear hv
      refine y (ucb tabOk rfl rfl hc.1 (by first | exact hc.2 | simpa using hc.2) rfl ty77) rfl ?_
      refine za <| uab [0,1,40,41,46] rfl <| uah (i := 10) (t := ptr b24 ((o26 + 0 * 3) + 0)) (uaa (uaa (uad (uaa (uad (uaa uac)))))) rfl (by kernel_rfl) (by kernel_rfl) (by kernel_rfl) (uaf tabOk rfl) rfl ?_
      refine a_one (i := 11) (by kernel_rfl) rfl ?_
      refine y (uco 1 0 ((.fst .here)) rfl rfl (by first | omega | (simp only [List.length_set] at hc ⊢; omega)) (by first | rfl | (simp only [Pth.off, T.size]; omega)) (uaC uam) ty3) rfl ?_
      refine za <| uab [0,1,40,41,48] rfl <| a_one (i := 12) (by kernel_rfl) rfl ?_
      refine cB h fun r27 hr27 h => rcT hT [0] (uar _ _ _ _ _ _ hr27) (by kernel_rfl) rfl rfl rfl fun _ => za <| uab [0,1,40,49] rfl <| a_one (i := 13) (by kernel_rfl) rfl ?_
      refine cB h fun r28 hr28 h => rc [2] (uaA _ _ _ _ hr28) (by kernel_rfl) rfl rfl rfl fun _ => za <| uab [0,1,50] rfl <| uah (i := 14) (t := ti r28.1) (uaa (uaa (uad (uaa (uad (uaa uac)))))) rfl (by kernel_rfl) (by kernel_rfl) (by kernel_rfl) (uaf tabOk rfl) rfl ?_
      refine a_end (by kernel_rfl) ?_
      exact zt <| uab [0,1,5] rfl <| by exact uai (r28.1, r28.2) (.slice (some ⟨b24, o26, none⟩) (List.length s11.2) c25) h rfl rfl
     refine iE h fun hc h => ubD 1 rfl (by first | omega | (simp only [List.length_set] at hc ⊢; omega)) fun b24 o26 c25 hv => ?_
     rw [hv]
     try clear hv
     refine y (ucb tabOk rfl rfl hc.1 (by first | exact hc.2 | simpa using hc.2) rfl ty77) rfl ?_
     refine za <| uab [0,1,39,41,46] rfl <| uah (i := 10) (t := ptr b24 ((o26 + 0 * 3) + 0)) (uaa (uaa (uad (uaa (uad (uaa uac)))))) rfl (by kernel_rfl) (by kernel_rfl) (by kernel_rfl) (uaf tabOk rfl) rfl ?_
     refine a_two (i := 3) (j := 11) (by kernel_rfl) rfl rfl ?_ ?_
     ·refine yl 0 ((.fst .here)) ty23 rfl rfl rfl trivial rfl <| za <| uab [0,1,40,41,47] rfl <| a_one (i := 11) (by kernel_rfl) rfl ?_
      refine y (uco 1 0 ((.fst .here)) rfl rfl (by first | omega | (simp only [List.length_set] at hc ⊢; omega)) (by first | rfl | (simp only [Pth.off, T.size]; omega)) (uaC uam) ty3) rfl ?_
      refine za <| uab [0,1,40,41,48] rfl <| a_one (i := 12) (by kernel_rfl) rfl ?_
      refine cB h fun r27 hr27 h => rcT hT [0] (uar _ _ _ _ _ _ hr27) (by kernel_rfl) rfl rfl rfl fun _ => za <| uab [0,1,40,49] rfl <| a_one (i := 13) (by kernel_rfl) rfl ?_
      refine cB h fun r28 hr28 h => rc [2] (uaA _ _ _ _ hr28) (by kernel_rfl) rfl rfl rfl fun _ => za <| uab [0,1,50] rfl <| uah (i := 14) (t := ti r28.1) (uaa (uaa (uad (uaa (uad (uaa uac)))))) rfl (by kernel_rfl) (by kernel_rfl) (by kernel_rfl) (uaf tabOk rfl) rfl ?_
      refine a_end (by kernel_rfl) ?_
      exact zt <| uab [0,1,5] rfl <| by exact uai (r28.1, r28.2) (.slice (some ⟨b24, o26, none⟩) (List.length s11.2) c25) h rfl rfl
     refine y (uco 1 0 ((.fst .here)) rfl rfl (by first | omega | (simp only [List.length_set] at hc ⊢; omega)) (by first | rfl | (simp only [Pth.off, T.size]; omega)) (uaC uam) ty3) rfl ?_
     refine za <| uab [0,1,39,41,48] rfl ?_
     refine a_two (i := 3) (j := 12) (by kernel_rfl) rfl rfl ?_ ?_
     ·refine yl 0 ((.fst .here)) ty23 rfl rfl rfl trivial rfl <| za <| uab [0,1,40,41,48] rfl <| a_one (i := 12) (by kernel_rfl) rfl ?_
      refine cB h fun r27 hr27 h => rcT hT [0] (uar _ _ _ _ _ _ hr27) (by kernel_rfl) rfl rfl rfl fun _ => za <| uab [0,1,40,49] rfl <| a_one (i := 13) (by kernel_rfl) rfl ?_
      refine cB h fun r28 hr28 h => rc [2] (uaA _ _ _ _ hr28) (by kernel_rfl) rfl rfl rfl fun _ => za <| uab [0,1,50] rfl <| uah (i := 14) (t := ti r28.1) (uaa (uaa (uad (uaa (uad (uaa uac)))))) rfl (by kernel_rfl) (by kernel_rfl) (by kernel_rfl) (uaf tabOk rfl) rfl ?_
      refine a_end (by kernel_rfl) ?_
      exact zt <| uab [0,1,5] rfl <| by exact uai (r28.1, r28.2) (.slice (some ⟨b24, o26, none⟩) (List.length s11.2) c25) h rfl rfl
     refine cB h fun r27 hr27 h => rcT hT [0] (uar _ _ _ _ _ _ hr27) (by kernel_rfl) rfl rfl rfl fun _ => za <| uab [0,1,39,49] rfl <| a_one (i := 3) (by kernel_rfl) rfl ?_
     refine yl 0 ((.fst .here)) ty23 rfl rfl rfl trivial rfl <| za <| uab [0,1,40,49] rfl <| a_one (i := 13) (by kernel_rfl) rfl ?_
     refine cB h fun r28 hr28 h => rc [2] (uaA _ _ _ _ hr28) (by kernel_rfl) rfl rfl rfl fun _ => za <| uab [0,1,50] rfl <| uah (i := 14) (t := ti r28.1) (uaa (uaa (uad (uaa (uad (uaa uac)))))) rfl (by kernel_rfl) (by kernel_rfl) (by kernel_rfl) (uaf tabOk rfl) rfl ?_
     refine a_end (by kernel_rfl) ?_
     exact zt <| uab [0,1,5] rfl <| by exact uai (r28.1, r28.2) (.slice (some ⟨b24, o26, none⟩) (List.length s11.2) c25) h rfl rfl
    refine yl 0 ((.snd (.snd (.snd (.fst .here))))) tx2 rfl rfl rfl trivial rfl <| za <| uab [0,1,37,41,45] rfl ?_
    refine a_two (i := 1) (j := 9) (by kernel_rfl) rfl rfl ?_ ?_
    ·refine p 1 [0,1,38,41,45] rfl <| za <| uab [0,1,38,41,45] rfl <| uah (i := 2) (t := ptr b2 0) (uaa (uaa (uad (uaa (uad (uaa uac)))))) rfl (by kernel_rfl) (by kernel_rfl) (by kernel_rfl) (uaf tabOk rfl) rfl ?_
     refine a_two (i := 3) (j := 9) (by kernel_rfl) rfl rfl ?_ ?_
     ·refine yl 0 ((.fst .here)) ty23 rfl rfl rfl trivial rfl <| za <| uab [0,1,40,41,45] rfl <| a_one (i := 9) (by kernel_rfl) rfl ?_
      refine iE h fun hc h => ubD 1 rfl (by first | omega | (simp only [List.length_set] at hc ⊢; omega)) fun b24 o26 c25 hv => ?_
      rw [hv]
      try clear hv
      refine y (ucb tabOk rfl rfl hc.1 (by first | exact hc.2 | simpa using hc.2) rfl ty77) rfl ?_
      refine za <| uab [0,1,40,41,46] rfl <| uah (i := 10) (t := ptr b24 ((o26 + 0 * 3) + 0)) (uaa (uaa (uad (uaa (uad (uaa uac)))))) rfl (by kernel_rfl) (by kernel_rfl) (by kernel_rfl) (uaf tabOk rfl) rfl ?_
      refine a_one (i := 11) (by kernel_rfl) rfl ?_
      refine y (uco 1 0 ((.fst .here)) rfl rfl (by first | omega | (simp only [List.length_set] at hc ⊢; omega)) (by first | rfl | (simp only [Pth.off, T.size]; omega)) (uaC uam) ty3) rfl ?_
      refine za <| uab [0,1,40,41,48] rfl <| a_one (i := 12) (by kernel_rfl) rfl ?_
      refine cB h fun r27 hr27 h => rcT hT [0] (uar _ _ _ _ _ _ hr27) (by kernel_rfl) rfl rfl rfl fun _ => za <| uab [0,1,40,49] rfl <| a_one (i := 13) (by kernel_rfl) rfl ?_
      refine cB h fun r28 hr28 h => rc [2] (uaA _ _ _ _ hr28) (by kernel_rfl) rfl rfl rfl fun _ => za <| uab [0,1,50] rfl <| uah (i := 14) (t := ti r28.1) (uaa (uaa (uad (uaa (uad (uaa uac)))))) rfl (by kernel_rfl) (by kernel_rfl) (by kernel_rfl) (uaf tabOk rfl) rfl ?_
      refine a_end (by kernel_rfl) ?_
      exact zt <| uab [0,1,5] rfl <| by exact uai (r28.1, r28.2) (.slice (some ⟨b24, o26, none⟩) (List.length s11.2) c25) h rfl rfl
     refine iE h fun hc h => ubD 1 rfl (by first | omega | (simp only [List.length_set] at hc ⊢; omega)) fun b24 o26 c25 hv => ?_
     rw [hv]
     try clear hv
     refine y (ucb tabOk rfl rfl hc.1 (by first | exact hc.2 | simpa using hc.2) rfl ty77) rfl ?_
     refine za <| uab [0,1,39,41,46] rfl <| uah (i := 10) (t := ptr b24 ((o26 + 0 * 3) + 0)) (uaa (uaa (uad (uaa (uad (uaa uac)))))) rfl (by kernel_rfl) (by kernel_rfl) (by kernel_rfl) (uaf tabOk rfl) rfl ?_
     refine a_two (i := 3) (j := 11) (by kernel_rfl) rfl rfl ?_ ?_
     ·refine yl 0 ((.fst .here)) ty23 rfl rfl rfl trivial rfl <| za <| uab [0,1,40,41,47] rfl <| a_one (i := 11) (by kernel_rfl) rfl ?_
      refine y (uco 1 0 ((.fst .here)) rfl rfl (by first | omega | (simp only [List.length_set] at hc ⊢; omega)) (by first | rfl | (simp only [Pth.off, T.size]; omega)) (uaC uam) ty3) rfl ?_
      refine za <| uab [0,1,40,41,48] rfl <| a_one (i := 12) (by kernel_rfl) rfl ?_
      refine cB h fun r27 hr27 h => rcT hT [0] (uar _ _ _ _ _ _ hr27) (by kernel_rfl) rfl rfl rfl fun _ => za <| uab [0,1,40,49] rfl <| a_one (i := 13) (by kernel_rfl) rfl ?_
      refine cB h fun r28 hr28 h => rc [2] (uaA _ _ _ _ hr28) (by kernel_rfl) rfl rfl rfl fun _ => za <| uab [0,1,50] rfl <| uah (i := 14) (t := ti r28.1) (uaa (uaa (uad (uaa (uad (uaa uac)))))) rfl (by kernel_rfl) (by kernel_rfl) (by kernel_rfl) (uaf tabOk rfl) rfl ?_
      refine a_end (by kernel_rfl) ?_
      exact zt <| uab [0,1,5] rfl <| by exact uai (r28.1, r28.2) (.slice (some ⟨b24, o26, none⟩) (List.length s11.2) c25) h rfl rfl
     refine y (uco 1 0 ((.fst .here)) rfl rfl (by first | omega | (simp only [List.length_set] at hc ⊢; omega)) (by first | rfl | (simp only [Pth.off, T.size]; omega)) (uaC uam) ty3) rfl ?_
     refine za <| uab [0,1,39,41,48] rfl ?_
     refine a_two (i := 3) (j := 12) (by kernel_rfl) rfl rfl ?_ ?_
     ·refine yl 0 ((.fst .here)) ty23 rfl rfl rfl trivial rfl <| za <| uab [0,1,40,41,48] rfl <| a_one (i := 12) (by kernel_rfl) rfl ?_
      refine cB h fun r27 hr27 h => rcT hT [0] (uar _ _ _ _ _ _ hr27) (by kernel_rfl) rfl rfl rfl fun _ => za <| uab [0,1,40,49] rfl <| a_one (i := 13) (by kernel_rfl) rfl ?_
      refine cB h fun r28 hr28 h => rc [2] (uaA _ _ _ _ hr28) (by kernel_rfl) rfl rfl rfl fun _ => za <| uab [0,1,50] rfl <| uah (i := 14) (t := ti r28.1) (uaa (uaa (uad (uaa (uad (uaa uac)))))) rfl (by kernel_rfl) (by kernel_rfl) (by kernel_rfl) (uaf tabOk rfl) rfl ?_
      refine a_end (by kernel_rfl) ?_
      exact zt <| uab [0,1,5] rfl <| by exact uai (r28.1, r28.2) (.slice (some ⟨b24, o26, none⟩) (List.length s11.2) c25) h rfl rfl
     refine cB h fun r27 hr27 h => rcT hT [0] (uar _ _ _ _ _ _ hr27) (by kernel_rfl) rfl rfl rfl fun _ => za <| uab [0,1,39,49] rfl <| a_one (i := 3) (by kernel_rfl) rfl ?_
     refine yl 0 ((.fst .here)) ty23 rfl rfl rfl trivial rfl <| za <| uab [0,1,40,49] rfl <| a_one (i := 13) (by kernel_rfl) rfl ?_
     refine cB h fun r28 hr28 h => rc [2] (uaA _ _ _ _ hr28) (by kernel_rfl) rfl rfl rfl fun _ => za <| uab [0,1,50] rfl <| uah (i := 14) (t := ti r28.1) (uaa (uaa (uad (uaa (uad (uaa uac)))))) rfl (by kernel_rfl) (by kernel_rfl) (by kernel_rfl) (uaf tabOk rfl) rfl ?_
     refine a_end (by kernel_rfl) ?_
     exact zt <| uab [0,1,5] rfl <| by exact uai (r28.1, r28.2) (.slice (some ⟨b24, o26, none⟩) (List.length s11.2) c25) h rfl rfl
    refine iE h fun hc h => ubD 1 rfl (by first | omega | (simp only [List.length_set] at hc ⊢; omega)) fun b24 o26 c25 hv => ?_
    rw [hv]
    try clear hv
    refine y (ucb tabOk rfl rfl hc.1 (by first | exact hc.2 | simpa using hc.2) rfl ty77) rfl ?_
    refine za <| uab [0,1,37,41,46] rfl <| uah (i := 10) (t := ptr b24 ((o26 + 0 * 3) + 0)) (uaa (uaa (uad (uaa (uad (uaa uac)))))) rfl (by kernel_rfl) (by kernel_rfl) (by kernel_rfl) (uaf tabOk rfl) rfl ?_
    refine a_two (i := 1) (j := 11) (by kernel_rfl) rfl rfl ?_ ?_
    ·refine p 1 [0,1,38,41,47] rfl <| za <| uab [0,1,38,41,47] rfl <| uah (i := 2) (t := ptr b2 0) (uaa (uaa (uad (uaa (uad (uaa uac)))))) rfl (by kernel_rfl) (by kernel_rfl) (by kernel_rfl) (uaf tabOk rfl) rfl ?_
     refine a_two (i := 3) (j := 11) (by kernel_rfl) rfl rfl ?_ ?_
     ·refine yl 0 ((.fst .here)) ty23 rfl rfl rfl trivial rfl <| za <| uab [0,1,40,41,47] rfl <| a_one (i := 11) (by kernel_rfl) rfl ?_
      refine y (uco 1 0 ((.fst .here)) rfl rfl (by first | omega | (simp only [List.length_set] at hc ⊢; omega)) (by first | rfl | (simp only [Pth.off, T.size]; omega)) (uaC uam) ty3) rfl ?_
      refine za <| uab [0,1,40,41,48] rfl <| a_one (i := 12) (by kernel_rfl) rfl ?_
      refine cB h fun r27 hr27 h => rcT hT [0] (uar _ _ _ _ _ _ hr27) (by kernel_rfl) rfl rfl rfl fun _ => za <| uab [0,1,40,49] rfl <| a_one (i := 13) (by kernel_rfl) rfl ?_
      refine cB h fun r28 hr28 h => rc [2] (uaA _ _ _ _ hr28) (by kernel_rfl) rfl rfl rfl fun _ => za <| uab [0,1,50] rfl <| uah (i := 14) (t := ti r28.1) (uaa (uaa (uad (uaa (uad (uaa uac)))))) rfl (by kernel_rfl) (by kernel_rfl) (by kernel_rfl) (uaf tabOk rfl) rfl ?_
      refine a_end (by kernel_rfl) ?_
      exact zt <| uab [0,1,5] rfl <| by exact uai (r28.1, r28.2) (.slice (some ⟨b24, o26, none⟩) (List.length s11.2) c25) h rfl rfl
     refine y (uco 1 0 ((.fst .here)) rfl rfl (by first | omega | (simp only [List.length_set] at hc ⊢; omega)) (by first | rfl | (simp only [Pth.off, T.size]; omega)) (uaC uam) ty3) rfl ?_
     refine za <| uab [0,1,39,41,48] rfl ?_
     refine a_two (i := 3) (j := 12) (by kernel_rfl) rfl rfl ?_ ?_
     ·refine yl 0 ((.fst .here)) ty23 rfl rfl rfl trivial rfl <| za <| uab [0,1,40,41,48] rfl <| a_one (i := 12) (by kernel_rfl) rfl ?_
      refine cB h fun r27 hr27 h => rcT hT [0] (uar _ _ _ _ _ _ hr27) (by kernel_rfl) rfl rfl rfl fun _ => za <| uab [0,1,40,49] rfl <| a_one (i := 13) (by kernel_rfl) rfl ?_
      refine cB h fun r28 hr28 h => rc [2] (uaA _ _ _ _ hr28) (by kernel_rfl) rfl rfl rfl fun _ => za <| uab [0,1,50] rfl <| uah (i := 14) (t := ti r28.1) (uaa (uaa (uad (uaa (uad (uaa uac)))))) rfl (by kernel_rfl) (by kernel_rfl) (by kernel_rfl) (uaf tabOk rfl) rfl ?_
      refine a_end (by kernel_rfl) ?_
      exact zt <| uab [0,1,5] rfl <| by exact uai (r28.1, r28.2) (.slice (some ⟨b24, o26, none⟩) (List.length s11.2) c25) h rfl rfl
     refine cB h fun r27 hr27 h => rcT hT [0] (uar _ _ _ _ _ _ hr27) (by kernel_rfl) rfl rfl rfl fun _ => za <| uab [0,1,39,49] rfl <| a_one (i := 3) (by kernel_rfl) rfl ?_
     refine yl 0 ((.fst .here)) ty23 rfl rfl rfl trivial rfl <| za <| uab [0,1,40,49] rfl <| a_one (i := 13) (by kernel_rfl) rfl ?_
     refine cB h fun r28 hr28 h => rc [2] (uaA _ _ _ _ hr28) (by kernel_rfl) rfl rfl rfl fun _ => za <| uab [0,1,50] rfl <| uah (i := 14) (t := ti r28.1) (uaa (uaa (uad (uaa (uad (uaa uac)))))) rfl (by kernel_rfl) (by kernel_rfl) (by kernel_rfl) (uaf tabOk rfl) rfl ?_
     refine a_end (by kernel_rfl) ?_
     exact zt <| uab [0,1,5] rfl <| by exact uai (r28.1, r28.2) (.slice (some ⟨b24, o26, none⟩) (List.length s11.2) c25) h rfl rfl
    refine y (uco 1 0 ((.fst .here)) rfl rfl (by first | omega | (simp only [List.length_set] at hc ⊢; omega)) (by first | rfl | (simp only [Pth.off, T.size]; omega)) (uaC uam) ty3) rfl ?_
    refine za <| uab [0,1,37,41,48] rfl ?_
    refine a_two (i := 1) (j := 12) (by kernel_rfl) rfl rfl ?_ ?_
    ·refine q 1 [(38, ptr b2 0), (48, ti ((List.getD s11.2 0 (0, 0, 0, ())).1))] [0,1,41] rfl <| za <| uab [0,1,38,41,48] rfl <| uah (i := 2) (t := ptr b2 0) (uaa (uaa (uad (uaa (uad (uaa uac)))))) rfl (by kernel_rfl) (by kernel_rfl) (by kernel_rfl) (uaf tabOk rfl) rfl ?_
     refine a_two (i := 3) (j := 12) (by kernel_rfl) rfl rfl ?_ ?_
     ·refine yl 0 ((.fst .here)) ty23 rfl rfl rfl trivial rfl <| za <| uab [0,1,40,41,48] rfl <| a_one (i := 12) (by kernel_rfl) rfl ?_
      refine cB h fun r27 hr27 h => rcT hT [0] (uar _ _ _ _ _ _ hr27) (by kernel_rfl) rfl rfl rfl fun _ => za <| uab [0,1,40,49] rfl <| a_one (i := 13) (by kernel_rfl) rfl ?_
      refine cB h fun r28 hr28 h => rc [2] (uaA _ _ _ _ hr28) (by kernel_rfl) rfl rfl rfl fun _ => za <| uab [0,1,50] rfl <| uah (i := 14) (t := ti r28.1) (uaa (uaa (uad (uaa (uad (uaa uac)))))) rfl (by kernel_rfl) (by kernel_rfl) (by kernel_rfl) (uaf tabOk rfl) rfl ?_
      refine a_end (by kernel_rfl) ?_
      exact zt <| uab [0,1,5] rfl <| by exact uai (r28.1, r28.2) (.slice (some ⟨b24, o26, none⟩) (List.length s11.2) c25) h rfl rfl
     refine cB h fun r27 hr27 h => rcT hT [0] (uar _ _ _ _ _ _ hr27) (by kernel_rfl) rfl rfl rfl fun _ => za <| uab [0,1,39,49] rfl <| a_one (i := 3) (by kernel_rfl) rfl ?_
     refine yl 0 ((.fst .here)) ty23 rfl rfl rfl trivial rfl <| za <| uab [0,1,40,49] rfl <| a_one (i := 13) (by kernel_rfl) rfl ?_
     refine cB h fun r28 hr28 h => rc [2] (uaA _ _ _ _ hr28) (by kernel_rfl) rfl rfl rfl fun _ => za <| uab [0,1,50] rfl <| uah (i := 14) (t := ti r28.1) (uaa (uaa (uad (uaa (uad (uaa uac)))))) rfl (by kernel_rfl) (by kernel_rfl) (by kernel_rfl) (uaf tabOk rfl) rfl ?_
     refine a_end (by kernel_rfl) ?_
     exact zt <| uab [0,1,5] rfl <| by exact uai (r28.1, r28.2) (.slice (some ⟨b24, o26, none⟩) (List.length s11.2) c25) h rfl rfl
    refine cB h fun r27 hr27 h => rcT hT [0] (uar _ _ _ _ _ _ hr27) (by kernel_rfl) rfl rfl rfl fun _ => za <| uab [0,1,37,49] rfl <| a_one (i := 1) (by kernel_rfl) rfl ?_
    refine p 1 [0,1,38,49] rfl <| za <| uab [0,1,38,49] rfl <| uah (i := 2) (t := ptr b2 0) (uaa (uaa (uad (uaa (uad (uaa uac)))))) rfl (by kernel_rfl) (by kernel_rfl) (by kernel_rfl) (uaf tabOk rfl) rfl ?_
    refine a_one (i := 3) (by kernel_rfl) rfl ?_
    refine yl 0 ((.fst .here)) ty23 rfl rfl rfl trivial rfl <| za <| uab [0,1,40,49] rfl <| a_one (i := 13) (by kernel_rfl) rfl ?_
    refine cB h fun r28 hr28 h => rc [2] (uaA _ _ _ _ hr28) (by kernel_rfl) rfl rfl rfl fun _ => za <| uab [0,1,50] rfl <| uah (i := 14) (t := ti r28.1) (uaa (uaa (uad (uaa (uad (uaa uac)))))) rfl (by kernel_rfl) (by kernel_rfl) (by kernel_rfl) (uaf tabOk rfl) rfl ?_
    refine a_end (by kernel_rfl) ?_
    exact zt <| uab [0,1,5] rfl <| by exact uai (r28.1, r28.2) (.slice (some ⟨b24, o26, none⟩) (List.length s11.2) c25) h rfl rfl
   refine zu <| q 2 [(0, ptr b2 0), (1, ti a1), (5, ti o21.1), (52, tb (o21.1 != 0))] [] rfl <| za <| rI h rfl (fun hc h => ?_) fun hc h => ?_
   ·refine zu <| p 3 [5,55] rfl <| st 1 ((.snd (.snd (.snd (.snd (.snd (.fst .here))))))) ty4 rfl rfl rfl rfl trivial <| zz <| q 2 [(4, ti o21.1)] [] rfl <| zf <| zT <| zB <| zT <| zB <| zT <| pk [1,1,0] rfl <| uaK (x := ((), a0.2.1, a0.2.2.1, s11.2, a0.2.2.2.2.1, true, a0.2.2.2.2.2.2)) (q := p100) ?_
    cases h
    exact uav rfl (.tmp rfl) (fun _ _ g => g) (fun _ _ _ => (.cons_cons _ (.cons_cons _ .slnil)))
   refine zk <| zt <| zr <| p 4 [0,1,57,60] rfl <| yl 1 ((.snd (.snd (.snd (.fst .here))))) tx2 rfl rfl rfl trivial rfl ?_
   obtain ⟨hs23, h⟩ := ubo h
   refine y (udv tabOk (i := 1) (j := (List.length s11.2 : Int)) rfl (ubX 2 rfl) rfl rfl hs23.1 hs23.2.1 hs23.2.2 rfl ty77) rfl ?_
   refine q 2 [(62, .one (.raw (.slice none 0 0)) (subv (T.size Y77) g22 (Int.toNat 1) (Int.toNat (List.length s11.2 : Int)))), (64, ptr b2 3)] [0,1] rfl <| uih (k := 1) (j := (Int.toNat (List.length s11.2 : Int))) 2 rfl (by have := hs23.2.1; omega) (by have := hs23.2.2; omega) ?_
   exact st 1 ((.snd (.snd (.snd (.fst .here))))) tx2 rfl rfl rfl rfl trivial <| zn <| zi <| zt <| uab [0,1] rfl <| pk [1,1,0] rfl <| by exact ubp (o21.2, (List.drop 1 (List.take (Int.toNat (List.length s11.2 : Int)) s11.2))) (subv (T.size Y77) g22 1 (Int.toNat (List.length s11.2 : Int))) (Nat.lt_succ_self _) h rfl rfl
  exact zx <| ze <| ze <| zq <| zt <| uab [] rfl <| by exact uai (s11.2, s11.1) g12 h rfl rfl
 refine zu <| p 1 [4] rfl <| zf <| uaK (x := ((), a0.2.1, a0.2.2.1, o6.1, a0.2.2.2.2.1, a0.2.2.2.2.2.1, a0.2.2.2.2.2.2)) (q := p100) ?_
 cases h
 exact uav rfl (.tmp rfl) (fun _ _ g => g) (fun _ _ _ => (.cons_cons _ (.cons_cons _ .slnil)))

theorem ueV (p0 : Value) (p100 : Value) (a0 : Unit × (Int × Unit × List Int × Int × (List (Int × Int × Int × Unit)) × Int × Bool × Unit) × Int × Int × List (List Int) × List Int × Bool × Bool × Unit) (a1 : Int) (a100 : DiskS) (r : Bool × (Unit × (Int × Unit × List Int × Int × (List (Int × Int × Int × Unit)) × Int × Bool × Unit) × Int × Int × List (List Int) × List Int × Bool × Bool × Unit) × DiskS) (h : ub5 a0 a1 a100 = some r) : FnT Tryz.prog tabs 18 [tp p0, ti a1] [Res.cls (uct p100) p0 a0, Res.disk Tryz.prog dI p100 a100] (fun _ => tb r.1) (fun _ => [Res.cls (uct p100) p0 r.2.1, Res.disk Tryz.prog dI p100 r.2.2]) := by
 unfold ub5 at h
 refine udW Tryz.func18 rfl 69 rfl rfl fun F hT => ?_
 refine ufY fun b3 sv1 sv2 hp => ?_
 subst hp
 refine ub0 (x := a0) (q := p100) ?_
 refine zu <| p 1 [0,1] rfl <| za <| zs <| zs <| ueL fun sv4 sv5 => ?_
 refine zr <| p 3 [0,1,7] rfl <| yl 0 ((.snd (.snd (.snd (.snd (.snd (.snd (.fst .here)))))))) ty4 rfl rfl rfl trivial rfl <| za <| rI h rfl (fun hc h => ?_) fun hc h => ?_
 ·refine zu <| p 3 [11] rfl <| yl 0 ((.snd (.fst .here))) ty33 rfl rfl rfl trivial rfl ?_
  obtain ⟨he6, h⟩ := ubo h
  refine uay (R' := Res.cls (CLog p100) sv4 a0.2.1.2) 1 rfl (udn he6) <| cB h fun r7 hr7 h => rcT hT [1,2] (uel _ _ _ _ _ _ hr7) (by kernel_rfl) rfl rfl rfl fun _ => q 2 [(4, tb (r7.1 == 60))] [] rfl <| zf <| zT <| uay (R' := Res.clsif (CLog p100) sv4 r7.2.1 a0.2.1.1) 0 rfl (ucB he6) <| pk [2,0,1,0] rfl <| ub0 (x := ((), (a0.2.1.1, r7.2.1), a0.2.2.1, a0.2.2.2.1, a0.2.2.2.2.1, a0.2.2.2.2.2.1, a0.2.2.2.2.2.2.1, a0.2.2.2.2.2.2.2.1, a0.2.2.2.2.2.2.2.2)) (q := p100) ?_
  cases h
  exact uav rfl (.tmp rfl) (fun _ _ g => g) (fun _ _ _ => (.cons_cons _ (.cons_cons _ .slnil)))
 refine zy <| p 5 [0,16,19] rfl <| yl 0 ((.snd (.snd (.snd (.snd (.fst .here)))))) tx0 rfl rfl rfl trivial rfl <| y (uaZ tabOk 2 rfl rfl rfl) rfl ?_
 refine q 1 [(22, ti (IntKind.wrap .i64 ((List.length a0.2.2.2.2.1 : Int) + 1)))] [0,16] rfl <| iE h fun hc h => y (y_rem rfl rfl hc) rfl ?_
 refine q 1 [(1, ti (Int.tmod (iand .i64 a1 1048575) (IntKind.wrap .i64 ((List.length a0.2.2.2.2.1 : Int) + 1))))] [0] rfl ?_
 obtain ⟨n8, e, h⟩ := uao h; rw [e]
 refine za <| zs <| zs <| ud3 (S := AllIs [VarIs b3 45 (.pair (.raw (.pointer none)) (.pair (.raw (.pointer none)) (.pair (.int .i64) (.pair (.int .i64) (.pair (.raw (.slice none 0 0)) (.pair .str (.pair .bool (.pair .bool .unit)))))))) (p100, sv4, a0.2.2.1, a0.2.2.2.1, sv5, a0.2.2.2.2.2.1, a0.2.2.2.2.2.2.1, a0.2.2.2.2.2.2.2.1, a0.2.2.2.2.2.2.2.2)]) (by kernel_rfl) ?_
 refine uap (i := 0) (t := ptr b3 0) (uaa (uaa uac)) rfl (by kernel_rfl) (by kernel_rfl) (by kernel_rfl) (uae (uaj 0 rfl) uag) (uaf tabOk rfl) rfl ?_
 refine uap (i := 1) (t := ptr b3 0) (uaa (uaa uac)) rfl (by kernel_rfl) (by kernel_rfl) (by kernel_rfl) (uae (uaj 0 rfl) uag) (uaf tabOk rfl) rfl ?_
 refine uap (i := 2) (t := ptr b3 1) (uaa (uaa uac)) rfl (by kernel_rfl) (by kernel_rfl) (by kernel_rfl) (uae (uaj 0 rfl) uag) (uaf tabOk rfl) rfl ?_
 refine uap (i := 3) (t := tp sv4) (uaa (uaa uac)) rfl (by kernel_rfl) (by kernel_rfl) (by kernel_rfl) (uae (uaj 0 rfl) uag) (ubQ (S := fun w => AllIs [VarIs b3 45 (.pair (.raw (.pointer none)) (.pair (.raw (.pointer none)) (.pair (.int .i64) (.pair (.int .i64) (.pair (.raw (.slice none 0 0)) (.pair .str (.pair .bool (.pair .bool .unit)))))))) (p100, sv4, a0.2.2.1, a0.2.2.2.1, sv5, a0.2.2.2.2.2.1, a0.2.2.2.2.2.2.1, a0.2.2.2.2.2.2.2.1, a0.2.2.2.2.2.2.2.2)] w) (uba 0 rfl) 0 ((.snd (.fst .here))) rfl rfl rfl (by first | rfl | (simp only [Pth.off, T.size]; omega)) (uaw (uaC uam)) ty33) rfl ?_
 refine uap (i := 4) (t := ptr b3 0) (uaa (uaa uac)) rfl (by kernel_rfl) (by kernel_rfl) (by kernel_rfl) (uae (uaj 0 rfl) uag) (uaf tabOk rfl) rfl ?_
 refine uap (i := 5) (t := ptr b3 0) (uaa (uaa uac)) rfl (by kernel_rfl) (by kernel_rfl) (by kernel_rfl) (uae (uaj 0 rfl) uag) (uaf tabOk rfl) rfl ?_
 refine uap (i := 6) (t := ptr b3 3) (uaa (uaa uac)) rfl (by kernel_rfl) (by kernel_rfl) (by kernel_rfl) (uae (uaj 0 rfl) uag) (uaf tabOk rfl) rfl ?_
 refine uap (i := 7) (t := ti a0.2.2.2.1) (uaa (uaa uac)) rfl (by kernel_rfl) (by kernel_rfl) (by kernel_rfl) (uae (uaj 0 rfl) uag) (ubQ (S := fun w => AllIs [VarIs b3 45 (.pair (.raw (.pointer none)) (.pair (.raw (.pointer none)) (.pair (.int .i64) (.pair (.int .i64) (.pair (.raw (.slice none 0 0)) (.pair .str (.pair .bool (.pair .bool .unit)))))))) (p100, sv4, a0.2.2.1, a0.2.2.2.1, sv5, a0.2.2.2.2.2.1, a0.2.2.2.2.2.2.1, a0.2.2.2.2.2.2.2.1, a0.2.2.2.2.2.2.2.2)] w) (uba 0 rfl) 0 ((.snd (.snd (.snd (.fst .here))))) rfl rfl rfl (by first | rfl | (simp only [Pth.off, T.size]; omega)) (uaw (uaw (uaw (uaC uam)))) ty2) rfl ?_
 refine uap (i := 8) (t := ti n8) (uaa (uaa uac)) rfl (by kernel_rfl) (by kernel_rfl) (by kernel_rfl) (uae (uaj 0 rfl) uag) (uaf tabOk rfl) rfl ?_
 refine uap (i := 9) (t := ti (IntKind.wrap .i64 (a0.2.2.2.1 + n8))) (uaa (uaa uac)) rfl (by kernel_rfl) (by kernel_rfl) (by kernel_rfl) (uae (uaj 0 rfl) uag) (uaf tabOk rfl) rfl ?_
 refine h_one (i := 10) (by kernel_rfl) rfl ?_
 obtain ⟨he9, h⟩ := ubo h
 refine uay (R' := Res.cls (CLog p100) sv4 a0.2.1.2) 1 rfl (udn he9) <| cB h fun r10 hr10 h => rcT hT [1,2] (uel _ _ _ _ _ _ hr10) (by kernel_rfl) rfl rfl rfl fun _ => za <| h_in (uae (uaj 2 rfl) uag) ?_
 refine uab [0,1,34] rfl <| uap (i := 11) (t := tb (r10.1 != 0)) (uaa (uaa uac)) rfl (by kernel_rfl) (by kernel_rfl) (by kernel_rfl) (uae (uaj 2 rfl) uag) (uaf tabOk rfl) rfl ?_
 refine uap (i := 12) (t := tb (r10.1 != 0)) (uaa (uaa uac)) rfl (by kernel_rfl) (by kernel_rfl) (by kernel_rfl) (uae (uaj 2 rfl) uag) (uaf tabOk rfl) rfl ?_
 refine ulO (d := 36) (b := (r10.1 != 0)) rfl (fun hb => ?_) (fun hb => ?_)
 ·rw [if_pos hb] at h
  refine ucc (i := 13) (dj := 36) (uaa (uaa uac)) rfl (by kernel_rfl) (by kernel_rfl) (by kernel_rfl) (uae (uaj 2 rfl) uag) (by kernel_rfl) rfl rfl ?_
  refine ucc (i := 14) (dj := 36) (uaa (uaa uac)) rfl (by kernel_rfl) (by kernel_rfl) (by kernel_rfl) (uae (uaj 2 rfl) uag) (by kernel_rfl) rfl rfl ?_
  refine ucc (i := 15) (dj := 36) (uaa (uaa uac)) rfl (by kernel_rfl) (by kernel_rfl) (by kernel_rfl) (uae (uaj 2 rfl) uag) (by kernel_rfl) rfl rfl ?_
  refine ucc (i := 16) (dj := 36) (uaa (uaa uac)) rfl (by kernel_rfl) (by kernel_rfl) (by kernel_rfl) (uae (uaj 2 rfl) uag) (by kernel_rfl) rfl rfl ?_
  refine ucc (i := 17) (dj := 36) (uaa (uaa uac)) rfl (by kernel_rfl) (by kernel_rfl) (by kernel_rfl) (uae (uaj 2 rfl) uag) (by kernel_rfl) rfl rfl ?_
  refine ucc (i := 18) (dj := 36) (uaa (uaa uac)) rfl (by kernel_rfl) (by kernel_rfl) (by kernel_rfl) (uae (uaj 2 rfl) uag) (by kernel_rfl) rfl rfl ?_
  refine ucc (i := 19) (dj := 36) (uaa (uaa uac)) rfl (by kernel_rfl) (by kernel_rfl) (by kernel_rfl) (uae (uaj 2 rfl) uag) (by kernel_rfl) rfl rfl ?_
  refine ucc (i := 20) (dj := 36) (uaa (uaa uac)) rfl (by kernel_rfl) (by kernel_rfl) (by kernel_rfl) (uae (uaj 2 rfl) uag) (by kernel_rfl) rfl rfl ?_
  refine ucc (i := 21) (dj := 36) (uaa (uaa uac)) rfl (by kernel_rfl) (by kernel_rfl) (by kernel_rfl) (uae (uaj 2 rfl) uag) (by kernel_rfl) rfl rfl ?_
  refine ucc (i := 22) (dj := 36) (uaa (uaa uac)) rfl (by kernel_rfl) (by kernel_rfl) (by kernel_rfl) (uae (uaj 2 rfl) uag) (by kernel_rfl) rfl rfl ?_
  refine ucc (i := 23) (dj := 36) (uaa (uaa uac)) rfl (by kernel_rfl) (by kernel_rfl) (by kernel_rfl) (uae (uaj 2 rfl) uag) (by kernel_rfl) rfl rfl ?_
  refine ucc (i := 24) (dj := 36) (uaa (uaa uac)) rfl (by kernel_rfl) (by kernel_rfl) (by kernel_rfl) (uae (uaj 2 rfl) uag) (by kernel_rfl) rfl rfl ?_
  refine h_one (i := 25) (by kernel_rfl) rfl ?_
  refine p 1 [0,1,49] rfl <| za <| h_in (uae (uaj 2 rfl) uag) ?_
  refine uab [0,1,49] rfl <| h_end (by kernel_rfl) ?_
  refine zt ?_
  refine r_if (b := true) rfl (fun hc => ?_) (fun hc => ?_)
  ·refine zu <| p 1 [4] rfl <| zf <| zT <| uay (R' := Res.clsif (CLog p100) sv4 r10.2.1 a0.2.1.1) 0 rfl (ucB he9) <| pk [2,0,1,0] rfl <| ub0 (x := ((), (a0.2.1.1, r10.2.1), a0.2.2.1, a0.2.2.2.1, a0.2.2.2.2.1, a0.2.2.2.2.2.1, a0.2.2.2.2.2.2.1, a0.2.2.2.2.2.2.2.1, a0.2.2.2.2.2.2.2.2)) (q := p100) ?_
   cases h
   exact uav rfl (.tmp rfl) (fun _ _ g => g) (fun _ _ _ => (.cons_cons _ (.cons_cons _ .slnil)))
  cases hc
 rw [if_neg (ne_true_of_eq_false hb)] at h
 refine ucg (i := 13) (dj := 36) (t := ptr b3 0) (uaa (uaa uac)) rfl (by kernel_rfl) (by kernel_rfl) (by kernel_rfl) (uae (uaj 2 rfl) uag) (by kernel_rfl) rfl (uaf tabOk rfl) rfl ?_
 refine ucg (i := 14) (dj := 36) (t := ptr b3 0) (uaa (uaa uac)) rfl (by kernel_rfl) (by kernel_rfl) (by kernel_rfl) (uae (uaj 2 rfl) uag) (by kernel_rfl) rfl (uaf tabOk rfl) rfl ?_
 refine ucg (i := 15) (dj := 36) (t := ptr b3 1) (uaa (uaa uac)) rfl (by kernel_rfl) (by kernel_rfl) (by kernel_rfl) (uae (uaj 2 rfl) uag) (by kernel_rfl) rfl (uaf tabOk rfl) rfl ?_
 refine ucg (i := 16) (dj := 36) (t := tp sv4) (uaa (uaa uac)) rfl (by kernel_rfl) (by kernel_rfl) (by kernel_rfl) (uae (uaj 2 rfl) uag) (by kernel_rfl) rfl (ubQ (S := fun w => AllIs [VarIs b3 45 (.pair (.raw (.pointer none)) (.pair (.raw (.pointer none)) (.pair (.int .i64) (.pair (.int .i64) (.pair (.raw (.slice none 0 0)) (.pair .str (.pair .bool (.pair .bool .unit)))))))) (p100, sv4, a0.2.2.1, a0.2.2.2.1, sv5, a0.2.2.2.2.2.1, a0.2.2.2.2.2.2.1, a0.2.2.2.2.2.2.2.1, a0.2.2.2.2.2.2.2.2)] w) (uba 0 rfl) 2 ((.snd (.fst .here))) rfl rfl rfl (by first | rfl | (simp only [Pth.off, T.size]; omega)) (uaw (uaC uam)) ty33) rfl ?_
 refine ucg (i := 17) (dj := 36) (t := ptr b3 0) (uaa (uaa uac)) rfl (by kernel_rfl) (by kernel_rfl) (by kernel_rfl) (uae (uaj 2 rfl) uag) (by kernel_rfl) rfl (uaf tabOk rfl) rfl ?_
 refine ucg (i := 18) (dj := 36) (t := ptr b3 0) (uaa (uaa uac)) rfl (by kernel_rfl) (by kernel_rfl) (by kernel_rfl) (uae (uaj 2 rfl) uag) (by kernel_rfl) rfl (uaf tabOk rfl) rfl ?_
 refine ucg (i := 19) (dj := 36) (t := ptr b3 1) (uaa (uaa uac)) rfl (by kernel_rfl) (by kernel_rfl) (by kernel_rfl) (uae (uaj 2 rfl) uag) (by kernel_rfl) rfl (uaf tabOk rfl) rfl ?_
 refine ucg (i := 20) (dj := 36) (t := tp sv4) (uaa (uaa uac)) rfl (by kernel_rfl) (by kernel_rfl) (by kernel_rfl) (uae (uaj 2 rfl) uag) (by kernel_rfl) rfl (ubQ (S := fun w => AllIs [VarIs b3 45 (.pair (.raw (.pointer none)) (.pair (.raw (.pointer none)) (.pair (.int .i64) (.pair (.int .i64) (.pair (.raw (.slice none 0 0)) (.pair .str (.pair .bool (.pair .bool .unit)))))))) (p100, sv4, a0.2.2.1, a0.2.2.2.1, sv5, a0.2.2.2.2.2.1, a0.2.2.2.2.2.2.1, a0.2.2.2.2.2.2.2.1, a0.2.2.2.2.2.2.2.2)] w) (uba 0 rfl) 2 ((.snd (.fst .here))) rfl rfl rfl (by first | rfl | (simp only [Pth.off, T.size]; omega)) (uaw (uaC uam)) ty33) rfl ?_
 refine h_one (i := 21) (by kernel_rfl) rfl ?_
 refine uaI (by rfl) rfl ?_
 refine cB h fun r11 hr11 h => rc [0,0] (ub6 _ _ _ _ _ hr11) (by kernel_rfl) rfl rfl rfl fun _ => za <| h_in (uae (uaj 2 rfl) uag) ?_
 refine uab [0,1,36,40,45] rfl <| ucg (i := 22) (dj := 36) (t := ti (IntKind.wrap .i64 (r11 + 1))) (uaa (uaa uac)) rfl (by kernel_rfl) (by kernel_rfl) (by kernel_rfl) (uae (uaj 2 rfl) uag) (by kernel_rfl) rfl (uaf tabOk rfl) rfl ?_
 refine h_one (i := 23) (by kernel_rfl) rfl ?_
 refine uaI (by rfl) rfl ?_
 refine cB h fun r12 hr12 h => rcT hT [0,0] (uel _ _ _ _ _ _ hr12) (by kernel_rfl) rfl rfl rfl fun _ => za <| h_in (uae (uaj 2 rfl) uag) ?_
 refine uab [0,1,36,47] rfl <| ucg (i := 24) (dj := 36) (t := tb (r12.1 != 1)) (uaa (uaa uac)) rfl (by kernel_rfl) (by kernel_rfl) (by kernel_rfl) (uae (uaj 2 rfl) uag) (by kernel_rfl) rfl (uaf tabOk rfl) rfl ?_
 refine h_one (i := 25) (by kernel_rfl) rfl ?_
 refine q 1 [(1, ti n8), (49, tb (r12.1 != 1))] [0] rfl <| za <| h_in (uae (uaj 2 rfl) uag) ?_
 refine uab [0,1,49] rfl <| h_end (by kernel_rfl) ?_
 refine zt <| rI h rfl (fun hc h => ?_) fun hc h => ?_
 ·refine zu <| p 1 [4] rfl <| zf <| zT <| uay (R' := Res.clsif (CLog p100) sv4 r12.2.1 a0.2.1.1) 0 rfl (ucB he9) <| pk [2,0,1,0] rfl <| ub0 (x := ((), (a0.2.1.1, r12.2.1), a0.2.2.1, a0.2.2.2.1, a0.2.2.2.2.1, a0.2.2.2.2.2.1, a0.2.2.2.2.2.2.1, a0.2.2.2.2.2.2.2.1, a0.2.2.2.2.2.2.2.2)) (q := p100) ?_
  cases h
  exact uav rfl (.tmp rfl) (fun _ _ g => g) (fun _ _ _ => (.cons_cons _ (.cons_cons _ .slnil)))
 refine zy <| p 4 [0,1,50,53] rfl <| yl 2 ((.snd (.snd (.snd (.fst .here))))) ty2 rfl rfl rfl trivial rfl <| q 4 [(56, ti (IntKind.wrap .i64 (a0.2.2.2.1 + n8))), (58, ptr b3 3)] [0,1] rfl <| st 2 ((.snd (.snd (.snd (.fst .here))))) ty2 rfl rfl rfl rfl trivial <| zz <| p 4 [1,59,62] rfl <| yl 2 ((.snd (.snd (.snd (.snd (.fst .here)))))) tx0 rfl rfl rfl trivial rfl <| p 1 [59,63,64] rfl ?_
 obtain ⟨hs13, h⟩ := ubo h
 refine y (udv tabOk (i := n8) (j := (List.length a0.2.2.2.2.1 : Int)) rfl (ubX 3 rfl) rfl rfl hs13.1 hs13.2.1 hs13.2.2 rfl ty9) rfl ?_
 refine ua1 (.slice none 0 0) rfl 9 .str ?_
 refine iE h fun hc h => ubd (B := 16) tabOk 0 rfl rfl (uoG rfl rfl (ues (ubX 4 rfl) hs13.1 hs13.2.1 hs13.2.2)) rfl el9 rfl rfl hc rfl fun v14 => ?_
 refine p 2 [66,68] rfl <| st 3 ((.snd (.snd (.snd (.snd (.fst .here)))))) tx0 rfl rfl rfl rfl trivial <| pk [0,0,0,0] rfl <| zz <| p 1 [4] rfl <| zf <| uay (R' := Res.clsif (CLog p100) sv4 r12.2.1 a0.2.1.1) 1 rfl (ucB he9) <| pk [3,1,0,0] rfl <| ub0 (x := ((), (a0.2.1.1, r12.2.1), a0.2.2.1, (IntKind.wrap .i64 (a0.2.2.2.1 + n8)), ([] ++ (List.drop (Int.toNat n8) (List.take (Int.toNat (List.length a0.2.2.2.2.1 : Int)) a0.2.2.2.2.1))), a0.2.2.2.2.2.1, a0.2.2.2.2.2.2.1, a0.2.2.2.2.2.2.2.1, a0.2.2.2.2.2.2.2.2)) (q := p100) ?_
 cases h
 exact uav rfl (.tmp rfl) (fun _ _ g => g) (fun _ _ _ => (.cons_cons _ (.cons_cons _ .slnil)))

end Sx
