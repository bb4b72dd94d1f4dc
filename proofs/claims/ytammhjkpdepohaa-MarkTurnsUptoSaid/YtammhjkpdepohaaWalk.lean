/-
  Own work, printed by a program of the same hand. Each function of the code answers what its plain twin reckons.
-/
import Derived.Test.YtammhjkpdepohaaWalk2
namespace Sx
open Go Go.Proofs
set_option maxRecDepth 10000

theorem mark_Mark_Raise_ok (p0 : Value) (p100 : Value) (a0 : Unit × List Int × Int × Int × Unit) (a1 : Int) (a100 : DiskS) (r : Int × (Unit × List Int × Int × Int × Unit) × DiskS) (h : mark_Mark_Raise a0 a1 a100 = some r) : Fn Try.prog 9 [.one (.raw (.pointer none)) p0, .one (.int .i64) a1] [Res.cls CMark p0 (p100, a0.2.1, a0.2.2.1, a0.2.2.2.1, a0.2.2.2.2), Res.disk Try.prog dI p100 a100] (fun _ => .one (.int .i64) r.1) (fun _ => [Res.cls CMark p0 (p100, r.2.1.2.1, r.2.1.2.2.1, r.2.1.2.2.2.1, r.2.1.2.2.2.2), Res.disk Try.prog dI p100 r.2.2]) := by
  unfold mark_Mark_Raise at h
  refine enter Try.func9 rfl 61 rfl rfl fun F => ?_
  refine r_seq ?_
  refine r_region ?_
  refine r_pure tabOk 1 [0, 1] (E' := [(0, .one (.raw (.pointer none)) p0), (1, .one (.int .i64) a1)]) rfl ?_
  refine r_nil ?_
  refine r_then ?_
  refine r_seq ?_
  refine r_block ?_
  refine r_seq ?_
  refine r_region ?_
  refine r_pure tabOk 1 [0, 1, 8] (E' := [(0, .one (.raw (.pointer none)) p0), (1, .one (.int .i64) a1), (8, .one (.int .i64) a1)]) rfl ?_
  obtain ⟨r1, hr1, h⟩ := bind_ex h
  refine r_calls (mark_right_ok a1 _ hr1) (by kernel_rfl) rfl rfl ?_
  refine r_pure tabOk 2 [0, 1, 7] (E' := [(0, .one (.raw (.pointer none)) p0), (1, .one (.int .i64) a1), (7, .one .bool (!r1))]) rfl ?_
  refine r_nil ?_
  refine r_then ?_
  refine r_if (b := (!r1)) rfl (fun hc => ?_) (fun hc => ?_)
  · rw [if_pos hc] at h
    refine r_seq ?_
    refine r_region ?_
    refine r_pure tabOk 1 [4] (E' := [(4, .one (.int .i64) 1)]) rfl ?_
    refine r_nil ?_
    refine r_then ?_
    refine r_ret ?_
    refine t_block ?_
    refine t_then ?_
    obtain rfl := Option.some.inj h
    exact r_ret1 rfl (.tmp rfl) (fun _ _ g => g) (fun _ _ _ => (.cons_cons _ (.cons_cons _ .slnil)))
  · rw [if_neg (ne_true_of_eq_false hc)] at h
    refine r_seq ?_
    refine r_unCMark fun b2 hp => ?_
    subst hp
    refine r_region ?_
    refine r_pure tabOk 4 [0, 1, 12, 15] (E' := [(0, ptr b2 0), (1, .one (.int .i64) a1), (12, .one (.int .i64) a1), (15, ptr b2 2)]) rfl ?_
    refine y (y_load 0 ((.snd (.snd (.fst .here)))) rfl rfl (by first | rfl | (simp only [Pth.off, T.size]; omega)) (ok_snd (ok_snd (ok_fst ok_here))) ty2) rfl ?_
    refine r_pure tabOk 2 [0, 1, 11] (E' := [(0, ptr b2 0), (1, .one (.int .i64) a1), (11, .one .bool (decide (a1 ≤ a0.2.2.1)))]) rfl ?_
    refine r_nil ?_
    refine r_then ?_
    refine r_if (b := (decide (a1 ≤ a0.2.2.1))) rfl (fun hc => ?_) (fun hc => ?_)
    · rw [if_pos hc] at h
      refine r_seq ?_
      refine r_region ?_
      refine r_pure tabOk 1 [4] (E' := [(4, .one (.int .i64) 0)]) rfl ?_
      refine r_nil ?_
      refine r_then ?_
      refine r_ret ?_
      refine t_block ?_
      refine t_then ?_
      refine r_CMark (x := (p100, a0.2.1, a0.2.2.1, a0.2.2.2.1, a0.2.2.2.2)) ?_
      obtain rfl := Option.some.inj h
      exact r_ret1 rfl (.tmp rfl) (fun _ _ g => g) (fun _ _ _ => (.cons_cons _ (.cons_cons _ .slnil)))
    · rw [if_neg (ne_true_of_eq_false hc)] at h
      refine r_skip ?_
      refine r_inblock ?_
      refine r_then ?_
      refine r_seq ?_
      refine r_seq ?_
      refine h_start (S := AllIs [VarIs b2 70 (.pair (.raw (.pointer none)) (.pair .str (.pair (.int .i64) (.pair (.int .i64) .unit)))) (p100, a0.2.1, a0.2.2.1, a0.2.2.2.1, a0.2.2.2.2)]) (by kernel_rfl) ?_
      refine h_take (i := 0) (t := ptr b2 0) (blind_then (blind_then blind_body)) rfl (by kernel_rfl) (by kernel_rfl) (by kernel_rfl) (allis_cons (var_is 0 rfl) allis_nil) (y_pure tabOk rfl) rfl ?_
      refine h_take (i := 1) (t := ptr b2 0) (blind_then (blind_then blind_body)) rfl (by kernel_rfl) (by kernel_rfl) (by kernel_rfl) (allis_cons (var_is 0 rfl) allis_nil) (y_pure tabOk rfl) rfl ?_
      refine h_take (i := 2) (t := ptr b2 0) (blind_then (blind_then blind_body)) rfl (by kernel_rfl) (by kernel_rfl) (by kernel_rfl) (allis_cons (var_is 0 rfl) allis_nil) (y_pure tabOk rfl) rfl ?_
      refine h_take (i := 3) (t := .one (.raw (.pointer none)) p100) (blind_then (blind_then blind_body)) rfl (by kernel_rfl) (by kernel_rfl) (by kernel_rfl) (allis_cons (var_is 0 rfl) allis_nil) (y_held (S := fun w => AllIs [VarIs b2 70 (.pair (.raw (.pointer none)) (.pair .str (.pair (.int .i64) (.pair (.int .i64) .unit)))) (p100, a0.2.1, a0.2.2.1, a0.2.2.2.1, a0.2.2.2.2)] w) (allis_at 0 rfl) 0 ((.fst .here)) rfl rfl rfl (by first | rfl | (simp only [Pth.off, T.size]; omega)) (ok_fst ok_here) ty24) rfl ?_
      refine h_take (i := 4) (t := ptr b2 0) (blind_then (blind_then blind_body)) rfl (by kernel_rfl) (by kernel_rfl) (by kernel_rfl) (allis_cons (var_is 0 rfl) allis_nil) (y_pure tabOk rfl) rfl ?_
      refine h_take (i := 5) (t := ptr b2 0) (blind_then (blind_then blind_body)) rfl (by kernel_rfl) (by kernel_rfl) (by kernel_rfl) (allis_cons (var_is 0 rfl) allis_nil) (y_pure tabOk rfl) rfl ?_
      refine h_take (i := 6) (t := ptr b2 1) (blind_then (blind_then blind_body)) rfl (by kernel_rfl) (by kernel_rfl) (by kernel_rfl) (allis_cons (var_is 0 rfl) allis_nil) (y_pure tabOk rfl) rfl ?_
      refine h_take (i := 7) (t := .one .str a0.2.1) (blind_then (blind_then blind_body)) rfl (by kernel_rfl) (by kernel_rfl) (by kernel_rfl) (allis_cons (var_is 0 rfl) allis_nil) (y_held (S := fun w => AllIs [VarIs b2 70 (.pair (.raw (.pointer none)) (.pair .str (.pair (.int .i64) (.pair (.int .i64) .unit)))) (p100, a0.2.1, a0.2.2.1, a0.2.2.2.1, a0.2.2.2.2)] w) (allis_at 0 rfl) 0 ((.snd (.fst .here))) rfl rfl rfl (by first | rfl | (simp only [Pth.off, T.size]; omega)) (ok_snd (ok_fst ok_here)) ty9) rfl ?_
      refine h_take (i := 8) (t := ptr b2 0) (blind_then (blind_then blind_body)) rfl (by kernel_rfl) (by kernel_rfl) (by kernel_rfl) (allis_cons (var_is 0 rfl) allis_nil) (y_pure tabOk rfl) rfl ?_
      refine h_take (i := 9) (t := ptr b2 0) (blind_then (blind_then blind_body)) rfl (by kernel_rfl) (by kernel_rfl) (by kernel_rfl) (allis_cons (var_is 0 rfl) allis_nil) (y_pure tabOk rfl) rfl ?_
      refine h_take (i := 10) (t := ptr b2 3) (blind_then (blind_then blind_body)) rfl (by kernel_rfl) (by kernel_rfl) (by kernel_rfl) (allis_cons (var_is 0 rfl) allis_nil) (y_pure tabOk rfl) rfl ?_
      refine h_take (i := 11) (t := .one (.int .i64) a0.2.2.2.1) (blind_then (blind_then blind_body)) rfl (by kernel_rfl) (by kernel_rfl) (by kernel_rfl) (allis_cons (var_is 0 rfl) allis_nil) (y_held (S := fun w => AllIs [VarIs b2 70 (.pair (.raw (.pointer none)) (.pair .str (.pair (.int .i64) (.pair (.int .i64) .unit)))) (p100, a0.2.1, a0.2.2.1, a0.2.2.2.1, a0.2.2.2.2)] w) (allis_at 0 rfl) 0 ((.snd (.snd (.snd (.fst .here))))) rfl rfl rfl (by first | rfl | (simp only [Pth.off, T.size]; omega)) (ok_snd (ok_snd (ok_snd (ok_fst ok_here)))) ty3) rfl ?_
      refine h_take (i := 12) (t := .one (.int .i64) (IntKind.wrap .i64 (64 * a0.2.2.2.1))) (blind_then (blind_then blind_body)) rfl (by kernel_rfl) (by kernel_rfl) (by kernel_rfl) (allis_cons (var_is 0 rfl) allis_nil) (y_pure tabOk rfl) rfl ?_
      refine h_take (i := 13) (t := .one (.int .i64) a1) (blind_then (blind_then blind_body)) rfl (by kernel_rfl) (by kernel_rfl) (by kernel_rfl) (allis_cons (var_is 0 rfl) allis_nil) (y_pure tabOk rfl) rfl ?_
      refine h_one (i := 14) (by kernel_rfl) rfl ?_
      obtain ⟨r3, hr3, h⟩ := bind_ex h
      refine r_calls (mark_slot_ok a1 _ hr3) (by kernel_rfl) rfl rfl ?_
      refine r_nil ?_
      refine r_then ?_
      refine h_in (allis_cons (var_is 0 rfl) allis_nil) ?_
      refine r_less [0, 1, 21, 25, 30, 32] rfl ?_
      refine h_one (i := 15) (by kernel_rfl) rfl ?_
      obtain ⟨r4, hr4, h⟩ := bind_ex h
      refine r_call (Lo := [Res.var b2 70 (.pair (.raw (.pointer none)) (.pair .str (.pair (.int .i64) (.pair (.int .i64) .unit)))) (p100, a0.2.1, a0.2.2.1, a0.2.2.2.1, a0.2.2.2.2)]) (disk_Disk_Write_ok p100 a100 a0.2.1 (IntKind.wrap .i64 (64 * a0.2.2.2.1)) r3 _ hr4) (by kernel_rfl) ((List.perm_middle (a := Res.disk Try.prog dI p100 a100) (l₁ := [Res.var b2 70 (.pair (.raw (.pointer none)) (.pair .str (.pair (.int .i64) (.pair (.int .i64) .unit)))) (p100, a0.2.1, a0.2.2.1, a0.2.2.2.1, a0.2.2.2.2)]) (l₂ := [])).trans (.cons _ (List.Perm.refl _))) rfl rfl fun _ => ?_
      refine r_nil ?_
      refine r_then ?_
      refine h_in (allis_cons (var_is 1 rfl) allis_nil) ?_
      refine r_less [0, 1, 33] rfl ?_
      refine h_take (i := 16) (t := .one (.int .i64) r4.1) (blind_then (blind_then blind_body)) rfl (by kernel_rfl) (by kernel_rfl) (by kernel_rfl) (allis_cons (var_is 1 rfl) allis_nil) (y_pure tabOk rfl) rfl ?_
      refine h_end (by kernel_rfl) ?_
      refine r_then ?_
      refine r_seq ?_
      refine r_region ?_
      refine r_pure tabOk 2 [0, 1, 5, 35] (E' := [(0, ptr b2 0), (1, .one (.int .i64) a1), (5, .one (.int .i64) r4.1), (35, .one .bool (r4.1 != 0))]) rfl ?_
      refine r_nil ?_
      refine r_then ?_
      refine r_if (b := (r4.1 != 0)) rfl (fun hc => ?_) (fun hc => ?_)
      · rw [if_pos hc] at h
        refine r_seq ?_
        refine r_region ?_
        refine r_pure tabOk 2 [4] (E' := [(4, .one (.int .i64) r4.1)]) rfl ?_
        refine r_nil ?_
        refine r_then ?_
        refine r_ret ?_
        refine t_then ?_
        refine r_perm (L' := [Res.var b2 70 (.pair (.raw (.pointer none)) (.pair .str (.pair (.int .i64) (.pair (.int .i64) .unit)))) (p100, a0.2.1, a0.2.2.1, a0.2.2.2.1, a0.2.2.2.2), Res.disk Try.prog dI p100 r4.2]) ((List.perm_middle (a := Res.var b2 70 (.pair (.raw (.pointer none)) (.pair .str (.pair (.int .i64) (.pair (.int .i64) .unit)))) (p100, a0.2.1, a0.2.2.1, a0.2.2.2.1, a0.2.2.2.2)) (l₁ := [Res.disk Try.prog dI p100 r4.2]) (l₂ := [])).trans (.cons _ (List.Perm.refl _))) ?_
        refine r_CMark (x := (p100, a0.2.1, a0.2.2.1, a0.2.2.2.1, a0.2.2.2.2)) ?_
        obtain rfl := Option.some.inj h
        exact r_ret1 rfl (.tmp rfl) (fun _ _ g => g) (fun _ _ _ => (.cons_cons _ (.cons_cons _ .slnil)))
      · rw [if_neg (ne_true_of_eq_false hc)] at h
        refine r_skip ?_
        refine r_then ?_
        refine r_seq ?_
        refine r_seq ?_
        refine r_any (by kernel_rfl) ?_
        refine a_float (i := 0) (t := ptr b2 0) (blind_then (blind_then blind_body)) rfl (by kernel_rfl) (by kernel_rfl) (by kernel_rfl) (y_pure tabOk rfl) rfl ?_
        refine a_float (i := 4) (t := ptr b2 0) (blind_then (blind_then blind_body)) rfl (by kernel_rfl) (by kernel_rfl) (by kernel_rfl) (y_pure tabOk rfl) rfl ?_
        refine a_two (i := 1) (j := 5) (by kernel_rfl) rfl rfl ?_ ?_
        · refine r_pure tabOk 1 [0, 1, 38, 41] (E' := [(0, ptr b2 0), (1, .one (.int .i64) a1), (38, ptr b2 0), (41, ptr b2 0)]) rfl ?_
          refine r_nil ?_
          refine r_then ?_
          refine r_less [0, 1, 38, 41] rfl ?_
          refine a_float (i := 2) (t := ptr b2 0) (blind_then (blind_then blind_body)) rfl (by kernel_rfl) (by kernel_rfl) (by kernel_rfl) (y_pure tabOk rfl) rfl ?_
          refine a_two (i := 3) (j := 5) (by kernel_rfl) rfl rfl ?_ ?_
          · refine y (y_load 1 ((.fst .here)) rfl rfl (by first | rfl | (simp only [Pth.off, T.size]; omega)) (ok_fst ok_here) ty24) rfl ?_
            refine r_nil ?_
            refine r_then ?_
            refine r_less [0, 1, 40, 41] rfl ?_
            refine a_one (i := 5) (by kernel_rfl) rfl ?_
            refine r_pure tabOk 1 [0, 1, 40, 42] (E' := [(0, ptr b2 0), (1, .one (.int .i64) a1), (40, .one (.raw (.pointer none)) p100), (42, ptr b2 0)]) rfl ?_
            refine r_nil ?_
            refine r_then ?_
            refine r_less [0, 1, 40, 42] rfl ?_
            refine a_float (i := 6) (t := ptr b2 1) (blind_then (blind_then blind_body)) rfl (by kernel_rfl) (by kernel_rfl) (by kernel_rfl) (y_pure tabOk rfl) rfl ?_
            refine a_one (i := 7) (by kernel_rfl) rfl ?_
            refine y (y_load 1 ((.snd (.fst .here))) rfl rfl (by first | rfl | (simp only [Pth.off, T.size]; omega)) (ok_snd (ok_fst ok_here)) ty9) rfl ?_
            refine r_nil ?_
            refine r_then ?_
            refine r_less [0, 1, 40, 44] rfl ?_
            refine a_one (i := 8) (by kernel_rfl) rfl ?_
            obtain ⟨r5, hr5, h⟩ := bind_ex h
            refine r_call (Lo := [Res.var b2 70 (.pair (.raw (.pointer none)) (.pair .str (.pair (.int .i64) (.pair (.int .i64) .unit)))) (p100, a0.2.1, a0.2.2.1, a0.2.2.2.1, a0.2.2.2.2)]) (disk_Disk_Sync_ok p100 r4.2 a0.2.1 _ hr5) (by kernel_rfl) (List.Perm.refl _) rfl rfl fun _ => ?_
            refine r_nil ?_
            refine r_then ?_
            refine r_less [0, 1, 45] rfl ?_
            refine a_float (i := 9) (t := .one (.int .i64) r5.1) (blind_then (blind_then blind_body)) rfl (by kernel_rfl) (by kernel_rfl) (by kernel_rfl) (y_pure tabOk rfl) rfl ?_
            refine a_end (by kernel_rfl) ?_
            refine r_then ?_
            refine r_seq ?_
            refine r_region ?_
            refine r_pure tabOk 2 [0, 1, 6, 47] (E' := [(0, ptr b2 0), (1, .one (.int .i64) a1), (6, .one (.int .i64) r5.1), (47, .one .bool (r5.1 != 0))]) rfl ?_
            refine r_nil ?_
            refine r_then ?_
            refine r_if (b := (r5.1 != 0)) rfl (fun hc => ?_) (fun hc => ?_)
            · rw [if_pos hc] at h
              refine r_seq ?_
              refine r_region ?_
              refine r_pure tabOk 2 [4] (E' := [(4, .one (.int .i64) r5.1)]) rfl ?_
              refine r_nil ?_
              refine r_then ?_
              refine r_ret ?_
              refine t_then ?_
              refine r_perm (L' := [Res.var b2 70 (.pair (.raw (.pointer none)) (.pair .str (.pair (.int .i64) (.pair (.int .i64) .unit)))) (p100, a0.2.1, a0.2.2.1, a0.2.2.2.1, a0.2.2.2.2), Res.disk Try.prog dI p100 r5.2]) ((List.perm_middle (a := Res.var b2 70 (.pair (.raw (.pointer none)) (.pair .str (.pair (.int .i64) (.pair (.int .i64) .unit)))) (p100, a0.2.1, a0.2.2.1, a0.2.2.2.1, a0.2.2.2.2)) (l₁ := [Res.disk Try.prog dI p100 r5.2]) (l₂ := [])).trans (.cons _ (List.Perm.refl _))) ?_
              refine r_CMark (x := (p100, a0.2.1, a0.2.2.1, a0.2.2.2.1, a0.2.2.2.2)) ?_
              obtain rfl := Option.some.inj h
              exact r_ret1 rfl (.tmp rfl) (fun _ _ g => g) (fun _ _ _ => (.cons_cons _ (.cons_cons _ .slnil)))
            · rw [if_neg (ne_true_of_eq_false hc)] at h
              refine r_skip ?_
              refine r_then ?_
              refine r_seq ?_
              refine r_region ?_
              refine r_pure tabOk 6 [49, 50, 51, 54] (E' := [(49, ptr b2 0), (50, ptr b2 0), (51, .one (.int .i64) a1), (54, ptr b2 3)]) rfl ?_
              refine y (y_load 1 ((.snd (.snd (.snd (.fst .here))))) rfl rfl (by first | rfl | (simp only [Pth.off, T.size]; omega)) (ok_snd (ok_snd (ok_snd (ok_fst ok_here)))) ty3) rfl ?_
              refine r_pure tabOk 3 [50, 51, 56, 58] (E' := [(50, ptr b2 0), (51, .one (.int .i64) a1), (56, .one (.int .i64) (IntKind.wrap .i64 (1 - a0.2.2.2.1))), (58, ptr b2 2)]) rfl ?_
              refine r_store 1 ((.snd (.snd (.fst .here)))) rfl rfl rfl (by first | rfl | (simp only [Pth.off, T.size]; omega)) (ok_snd (ok_snd (ok_fst ok_here))) ty2 ?_
              refine r_pure tabOk 2 [56, 60] (E' := [(56, .one (.int .i64) (IntKind.wrap .i64 (1 - a0.2.2.2.1))), (60, ptr b2 3)]) rfl ?_
              refine r_store 1 ((.snd (.snd (.snd (.fst .here))))) rfl rfl rfl (by first | rfl | (simp only [Pth.off, T.size]; omega)) (ok_snd (ok_snd (ok_snd (ok_fst ok_here)))) ty3 ?_
              refine r_nil ?_
              refine r_then ?_
              refine r_seq ?_
              refine r_region ?_
              refine r_pure tabOk 1 [4] (E' := [(4, .one (.int .i64) 0)]) rfl ?_
              refine r_nil ?_
              refine r_then ?_
              refine r_ret ?_
              refine r_perm (L' := [Res.var b2 70 (.pair (.raw (.pointer none)) (.pair .str (.pair (.int .i64) (.pair (.int .i64) .unit)))) (p100, a0.2.1, a1, (IntKind.wrap .i64 (1 - a0.2.2.2.1)), a0.2.2.2.2), Res.disk Try.prog dI p100 r5.2]) ((List.perm_middle (a := Res.var b2 70 (.pair (.raw (.pointer none)) (.pair .str (.pair (.int .i64) (.pair (.int .i64) .unit)))) (p100, a0.2.1, a1, (IntKind.wrap .i64 (1 - a0.2.2.2.1)), a0.2.2.2.2)) (l₁ := [Res.disk Try.prog dI p100 r5.2]) (l₂ := [])).trans (.cons _ (List.Perm.refl _))) ?_
              refine r_CMark (x := (p100, a0.2.1, a1, (IntKind.wrap .i64 (1 - a0.2.2.2.1)), a0.2.2.2.2)) ?_
              obtain rfl := Option.some.inj h
              exact r_ret1 rfl (.tmp rfl) (fun _ _ g => g) (fun _ _ _ => (.cons_cons _ (.cons_cons _ .slnil)))
          · refine r_pure tabOk 1 [0, 1, 39, 42] (E' := [(0, ptr b2 0), (1, .one (.int .i64) a1), (39, ptr b2 0), (42, ptr b2 0)]) rfl ?_
            refine r_nil ?_
            refine r_then ?_
            refine r_less [0, 1, 39, 42] rfl ?_
            refine a_float (i := 6) (t := ptr b2 1) (blind_then (blind_then blind_body)) rfl (by kernel_rfl) (by kernel_rfl) (by kernel_rfl) (y_pure tabOk rfl) rfl ?_
            refine a_pref (fuel := 2) [3, 7] #[true, true, true, true, true, true, true, true, false, false] (by kernel_rfl) ?_
            refine q_y (y_load 1 ((.fst .here)) rfl rfl (by first | rfl | (simp only [Pth.off, T.size]; omega)) (ok_fst ok_here) ty24) rfl ?_
            refine q_y (y_load 1 ((.snd (.fst .here))) rfl rfl (by first | rfl | (simp only [Pth.off, T.size]; omega)) (ok_snd (ok_fst ok_here)) ty9) rfl ?_
            refine q_nil ?_
            refine r_less [0, 1, 40, 44] rfl ?_
            refine a_one (i := 8) (by kernel_rfl) rfl ?_
            obtain ⟨r5, hr5, h⟩ := bind_ex h
            refine r_call (Lo := [Res.var b2 70 (.pair (.raw (.pointer none)) (.pair .str (.pair (.int .i64) (.pair (.int .i64) .unit)))) (p100, a0.2.1, a0.2.2.1, a0.2.2.2.1, a0.2.2.2.2)]) (disk_Disk_Sync_ok p100 r4.2 a0.2.1 _ hr5) (by kernel_rfl) (List.Perm.refl _) rfl rfl fun _ => ?_
            refine r_nil ?_
            refine r_then ?_
            refine r_less [0, 1, 45] rfl ?_
            refine a_float (i := 9) (t := .one (.int .i64) r5.1) (blind_then (blind_then blind_body)) rfl (by kernel_rfl) (by kernel_rfl) (by kernel_rfl) (y_pure tabOk rfl) rfl ?_
            refine a_end (by kernel_rfl) ?_
            refine r_then ?_
            refine r_seq ?_
            refine r_region ?_
            refine r_pure tabOk 2 [0, 1, 6, 47] (E' := [(0, ptr b2 0), (1, .one (.int .i64) a1), (6, .one (.int .i64) r5.1), (47, .one .bool (r5.1 != 0))]) rfl ?_
            refine r_nil ?_
            refine r_then ?_
            refine r_if (b := (r5.1 != 0)) rfl (fun hc => ?_) (fun hc => ?_)
            · rw [if_pos hc] at h
              refine r_seq ?_
              refine r_region ?_
              refine r_pure tabOk 2 [4] (E' := [(4, .one (.int .i64) r5.1)]) rfl ?_
              refine r_nil ?_
              refine r_then ?_
              refine r_ret ?_
              refine t_then ?_
              refine r_perm (L' := [Res.var b2 70 (.pair (.raw (.pointer none)) (.pair .str (.pair (.int .i64) (.pair (.int .i64) .unit)))) (p100, a0.2.1, a0.2.2.1, a0.2.2.2.1, a0.2.2.2.2), Res.disk Try.prog dI p100 r5.2]) ((List.perm_middle (a := Res.var b2 70 (.pair (.raw (.pointer none)) (.pair .str (.pair (.int .i64) (.pair (.int .i64) .unit)))) (p100, a0.2.1, a0.2.2.1, a0.2.2.2.1, a0.2.2.2.2)) (l₁ := [Res.disk Try.prog dI p100 r5.2]) (l₂ := [])).trans (.cons _ (List.Perm.refl _))) ?_
              refine r_CMark (x := (p100, a0.2.1, a0.2.2.1, a0.2.2.2.1, a0.2.2.2.2)) ?_
              obtain rfl := Option.some.inj h
              exact r_ret1 rfl (.tmp rfl) (fun _ _ g => g) (fun _ _ _ => (.cons_cons _ (.cons_cons _ .slnil)))
            · rw [if_neg (ne_true_of_eq_false hc)] at h
              refine r_skip ?_
              refine r_then ?_
              refine r_seq ?_
              refine r_region ?_
              refine r_pure tabOk 6 [49, 50, 51, 54] (E' := [(49, ptr b2 0), (50, ptr b2 0), (51, .one (.int .i64) a1), (54, ptr b2 3)]) rfl ?_
              refine y (y_load 1 ((.snd (.snd (.snd (.fst .here))))) rfl rfl (by first | rfl | (simp only [Pth.off, T.size]; omega)) (ok_snd (ok_snd (ok_snd (ok_fst ok_here)))) ty3) rfl ?_
              refine r_pure tabOk 3 [50, 51, 56, 58] (E' := [(50, ptr b2 0), (51, .one (.int .i64) a1), (56, .one (.int .i64) (IntKind.wrap .i64 (1 - a0.2.2.2.1))), (58, ptr b2 2)]) rfl ?_
              refine r_store 1 ((.snd (.snd (.fst .here)))) rfl rfl rfl (by first | rfl | (simp only [Pth.off, T.size]; omega)) (ok_snd (ok_snd (ok_fst ok_here))) ty2 ?_
              refine r_pure tabOk 2 [56, 60] (E' := [(56, .one (.int .i64) (IntKind.wrap .i64 (1 - a0.2.2.2.1))), (60, ptr b2 3)]) rfl ?_
              refine r_store 1 ((.snd (.snd (.snd (.fst .here))))) rfl rfl rfl (by first | rfl | (simp only [Pth.off, T.size]; omega)) (ok_snd (ok_snd (ok_snd (ok_fst ok_here)))) ty3 ?_
              refine r_nil ?_
              refine r_then ?_
              refine r_seq ?_
              refine r_region ?_
              refine r_pure tabOk 1 [4] (E' := [(4, .one (.int .i64) 0)]) rfl ?_
              refine r_nil ?_
              refine r_then ?_
              refine r_ret ?_
              refine r_perm (L' := [Res.var b2 70 (.pair (.raw (.pointer none)) (.pair .str (.pair (.int .i64) (.pair (.int .i64) .unit)))) (p100, a0.2.1, a1, (IntKind.wrap .i64 (1 - a0.2.2.2.1)), a0.2.2.2.2), Res.disk Try.prog dI p100 r5.2]) ((List.perm_middle (a := Res.var b2 70 (.pair (.raw (.pointer none)) (.pair .str (.pair (.int .i64) (.pair (.int .i64) .unit)))) (p100, a0.2.1, a1, (IntKind.wrap .i64 (1 - a0.2.2.2.1)), a0.2.2.2.2)) (l₁ := [Res.disk Try.prog dI p100 r5.2]) (l₂ := [])).trans (.cons _ (List.Perm.refl _))) ?_
              refine r_CMark (x := (p100, a0.2.1, a1, (IntKind.wrap .i64 (1 - a0.2.2.2.1)), a0.2.2.2.2)) ?_
              obtain rfl := Option.some.inj h
              exact r_ret1 rfl (.tmp rfl) (fun _ _ g => g) (fun _ _ _ => (.cons_cons _ (.cons_cons _ .slnil)))
        · refine r_pure tabOk 1 [0, 1, 37, 42] (E' := [(0, ptr b2 0), (1, .one (.int .i64) a1), (37, ptr b2 0), (42, ptr b2 0)]) rfl ?_
          refine r_nil ?_
          refine r_then ?_
          refine r_less [0, 1, 37, 42] rfl ?_
          refine a_float (i := 6) (t := ptr b2 1) (blind_then (blind_then blind_body)) rfl (by kernel_rfl) (by kernel_rfl) (by kernel_rfl) (y_pure tabOk rfl) rfl ?_
          refine a_two (i := 1) (j := 7) (by kernel_rfl) rfl rfl ?_ ?_
          · refine r_pure tabOk 1 [0, 1, 38, 43] (E' := [(0, ptr b2 0), (1, .one (.int .i64) a1), (38, ptr b2 0), (43, ptr b2 1)]) rfl ?_
            refine r_nil ?_
            refine r_then ?_
            refine r_less [0, 1, 38, 43] rfl ?_
            refine a_float (i := 2) (t := ptr b2 0) (blind_then (blind_then blind_body)) rfl (by kernel_rfl) (by kernel_rfl) (by kernel_rfl) (y_pure tabOk rfl) rfl ?_
            refine a_pref (fuel := 2) [3, 7] #[true, true, true, true, true, true, true, true, false, false] (by kernel_rfl) ?_
            refine q_y (y_load 1 ((.fst .here)) rfl rfl (by first | rfl | (simp only [Pth.off, T.size]; omega)) (ok_fst ok_here) ty24) rfl ?_
            refine q_y (y_load 1 ((.snd (.fst .here))) rfl rfl (by first | rfl | (simp only [Pth.off, T.size]; omega)) (ok_snd (ok_fst ok_here)) ty9) rfl ?_
            refine q_nil ?_
            refine r_less [0, 1, 40, 44] rfl ?_
            refine a_one (i := 8) (by kernel_rfl) rfl ?_
            obtain ⟨r5, hr5, h⟩ := bind_ex h
            refine r_call (Lo := [Res.var b2 70 (.pair (.raw (.pointer none)) (.pair .str (.pair (.int .i64) (.pair (.int .i64) .unit)))) (p100, a0.2.1, a0.2.2.1, a0.2.2.2.1, a0.2.2.2.2)]) (disk_Disk_Sync_ok p100 r4.2 a0.2.1 _ hr5) (by kernel_rfl) (List.Perm.refl _) rfl rfl fun _ => ?_
            refine r_nil ?_
            refine r_then ?_
            refine r_less [0, 1, 45] rfl ?_
            refine a_float (i := 9) (t := .one (.int .i64) r5.1) (blind_then (blind_then blind_body)) rfl (by kernel_rfl) (by kernel_rfl) (by kernel_rfl) (y_pure tabOk rfl) rfl ?_
            refine a_end (by kernel_rfl) ?_
            refine r_then ?_
            refine r_seq ?_
            refine r_region ?_
            refine r_pure tabOk 2 [0, 1, 6, 47] (E' := [(0, ptr b2 0), (1, .one (.int .i64) a1), (6, .one (.int .i64) r5.1), (47, .one .bool (r5.1 != 0))]) rfl ?_
            refine r_nil ?_
            refine r_then ?_
            refine r_if (b := (r5.1 != 0)) rfl (fun hc => ?_) (fun hc => ?_)
            · rw [if_pos hc] at h
              refine r_seq ?_
              refine r_region ?_
              refine r_pure tabOk 2 [4] (E' := [(4, .one (.int .i64) r5.1)]) rfl ?_
              refine r_nil ?_
              refine r_then ?_
              refine r_ret ?_
              refine t_then ?_
              refine r_perm (L' := [Res.var b2 70 (.pair (.raw (.pointer none)) (.pair .str (.pair (.int .i64) (.pair (.int .i64) .unit)))) (p100, a0.2.1, a0.2.2.1, a0.2.2.2.1, a0.2.2.2.2), Res.disk Try.prog dI p100 r5.2]) ((List.perm_middle (a := Res.var b2 70 (.pair (.raw (.pointer none)) (.pair .str (.pair (.int .i64) (.pair (.int .i64) .unit)))) (p100, a0.2.1, a0.2.2.1, a0.2.2.2.1, a0.2.2.2.2)) (l₁ := [Res.disk Try.prog dI p100 r5.2]) (l₂ := [])).trans (.cons _ (List.Perm.refl _))) ?_
              refine r_CMark (x := (p100, a0.2.1, a0.2.2.1, a0.2.2.2.1, a0.2.2.2.2)) ?_
              obtain rfl := Option.some.inj h
              exact r_ret1 rfl (.tmp rfl) (fun _ _ g => g) (fun _ _ _ => (.cons_cons _ (.cons_cons _ .slnil)))
            · rw [if_neg (ne_true_of_eq_false hc)] at h
              refine r_skip ?_
              refine r_then ?_
              refine r_seq ?_
              refine r_region ?_
              refine r_pure tabOk 6 [49, 50, 51, 54] (E' := [(49, ptr b2 0), (50, ptr b2 0), (51, .one (.int .i64) a1), (54, ptr b2 3)]) rfl ?_
              refine y (y_load 1 ((.snd (.snd (.snd (.fst .here))))) rfl rfl (by first | rfl | (simp only [Pth.off, T.size]; omega)) (ok_snd (ok_snd (ok_snd (ok_fst ok_here)))) ty3) rfl ?_
              refine r_pure tabOk 3 [50, 51, 56, 58] (E' := [(50, ptr b2 0), (51, .one (.int .i64) a1), (56, .one (.int .i64) (IntKind.wrap .i64 (1 - a0.2.2.2.1))), (58, ptr b2 2)]) rfl ?_
              refine r_store 1 ((.snd (.snd (.fst .here)))) rfl rfl rfl (by first | rfl | (simp only [Pth.off, T.size]; omega)) (ok_snd (ok_snd (ok_fst ok_here))) ty2 ?_
              refine r_pure tabOk 2 [56, 60] (E' := [(56, .one (.int .i64) (IntKind.wrap .i64 (1 - a0.2.2.2.1))), (60, ptr b2 3)]) rfl ?_
              refine r_store 1 ((.snd (.snd (.snd (.fst .here))))) rfl rfl rfl (by first | rfl | (simp only [Pth.off, T.size]; omega)) (ok_snd (ok_snd (ok_snd (ok_fst ok_here)))) ty3 ?_
              refine r_nil ?_
              refine r_then ?_
              refine r_seq ?_
              refine r_region ?_
              refine r_pure tabOk 1 [4] (E' := [(4, .one (.int .i64) 0)]) rfl ?_
              refine r_nil ?_
              refine r_then ?_
              refine r_ret ?_
              refine r_perm (L' := [Res.var b2 70 (.pair (.raw (.pointer none)) (.pair .str (.pair (.int .i64) (.pair (.int .i64) .unit)))) (p100, a0.2.1, a1, (IntKind.wrap .i64 (1 - a0.2.2.2.1)), a0.2.2.2.2), Res.disk Try.prog dI p100 r5.2]) ((List.perm_middle (a := Res.var b2 70 (.pair (.raw (.pointer none)) (.pair .str (.pair (.int .i64) (.pair (.int .i64) .unit)))) (p100, a0.2.1, a1, (IntKind.wrap .i64 (1 - a0.2.2.2.1)), a0.2.2.2.2)) (l₁ := [Res.disk Try.prog dI p100 r5.2]) (l₂ := [])).trans (.cons _ (List.Perm.refl _))) ?_
              refine r_CMark (x := (p100, a0.2.1, a1, (IntKind.wrap .i64 (1 - a0.2.2.2.1)), a0.2.2.2.2)) ?_
              obtain rfl := Option.some.inj h
              exact r_ret1 rfl (.tmp rfl) (fun _ _ g => g) (fun _ _ _ => (.cons_cons _ (.cons_cons _ .slnil)))
          · refine y (y_load 1 ((.snd (.fst .here))) rfl rfl (by first | rfl | (simp only [Pth.off, T.size]; omega)) (ok_snd (ok_fst ok_here)) ty9) rfl ?_
            refine r_nil ?_
            refine r_then ?_
            refine r_less [0, 1, 37, 44] rfl ?_
            refine a_one (i := 1) (by kernel_rfl) rfl ?_
            refine r_pure tabOk 1 [0, 1, 38, 44] (E' := [(0, ptr b2 0), (1, .one (.int .i64) a1), (38, ptr b2 0), (44, .one .str a0.2.1)]) rfl ?_
            refine r_nil ?_
            refine r_then ?_
            refine r_less [0, 1, 38, 44] rfl ?_
            refine a_float (i := 2) (t := ptr b2 0) (blind_then (blind_then blind_body)) rfl (by kernel_rfl) (by kernel_rfl) (by kernel_rfl) (y_pure tabOk rfl) rfl ?_
            refine a_one (i := 3) (by kernel_rfl) rfl ?_
            refine y (y_load 1 ((.fst .here)) rfl rfl (by first | rfl | (simp only [Pth.off, T.size]; omega)) (ok_fst ok_here) ty24) rfl ?_
            refine r_nil ?_
            refine r_then ?_
            refine r_less [0, 1, 40, 44] rfl ?_
            refine a_one (i := 8) (by kernel_rfl) rfl ?_
            obtain ⟨r5, hr5, h⟩ := bind_ex h
            refine r_call (Lo := [Res.var b2 70 (.pair (.raw (.pointer none)) (.pair .str (.pair (.int .i64) (.pair (.int .i64) .unit)))) (p100, a0.2.1, a0.2.2.1, a0.2.2.2.1, a0.2.2.2.2)]) (disk_Disk_Sync_ok p100 r4.2 a0.2.1 _ hr5) (by kernel_rfl) (List.Perm.refl _) rfl rfl fun _ => ?_
            refine r_nil ?_
            refine r_then ?_
            refine r_less [0, 1, 45] rfl ?_
            refine a_float (i := 9) (t := .one (.int .i64) r5.1) (blind_then (blind_then blind_body)) rfl (by kernel_rfl) (by kernel_rfl) (by kernel_rfl) (y_pure tabOk rfl) rfl ?_
            refine a_end (by kernel_rfl) ?_
            refine r_then ?_
            refine r_seq ?_
            refine r_region ?_
            refine r_pure tabOk 2 [0, 1, 6, 47] (E' := [(0, ptr b2 0), (1, .one (.int .i64) a1), (6, .one (.int .i64) r5.1), (47, .one .bool (r5.1 != 0))]) rfl ?_
            refine r_nil ?_
            refine r_then ?_
            refine r_if (b := (r5.1 != 0)) rfl (fun hc => ?_) (fun hc => ?_)
            · rw [if_pos hc] at h
              refine r_seq ?_
              refine r_region ?_
              refine r_pure tabOk 2 [4] (E' := [(4, .one (.int .i64) r5.1)]) rfl ?_
              refine r_nil ?_
              refine r_then ?_
              refine r_ret ?_
              refine t_then ?_
              refine r_perm (L' := [Res.var b2 70 (.pair (.raw (.pointer none)) (.pair .str (.pair (.int .i64) (.pair (.int .i64) .unit)))) (p100, a0.2.1, a0.2.2.1, a0.2.2.2.1, a0.2.2.2.2), Res.disk Try.prog dI p100 r5.2]) ((List.perm_middle (a := Res.var b2 70 (.pair (.raw (.pointer none)) (.pair .str (.pair (.int .i64) (.pair (.int .i64) .unit)))) (p100, a0.2.1, a0.2.2.1, a0.2.2.2.1, a0.2.2.2.2)) (l₁ := [Res.disk Try.prog dI p100 r5.2]) (l₂ := [])).trans (.cons _ (List.Perm.refl _))) ?_
              refine r_CMark (x := (p100, a0.2.1, a0.2.2.1, a0.2.2.2.1, a0.2.2.2.2)) ?_
              obtain rfl := Option.some.inj h
              exact r_ret1 rfl (.tmp rfl) (fun _ _ g => g) (fun _ _ _ => (.cons_cons _ (.cons_cons _ .slnil)))
            · rw [if_neg (ne_true_of_eq_false hc)] at h
              refine r_skip ?_
              refine r_then ?_
              refine r_seq ?_
              refine r_region ?_
              refine r_pure tabOk 6 [49, 50, 51, 54] (E' := [(49, ptr b2 0), (50, ptr b2 0), (51, .one (.int .i64) a1), (54, ptr b2 3)]) rfl ?_
              refine y (y_load 1 ((.snd (.snd (.snd (.fst .here))))) rfl rfl (by first | rfl | (simp only [Pth.off, T.size]; omega)) (ok_snd (ok_snd (ok_snd (ok_fst ok_here)))) ty3) rfl ?_
              refine r_pure tabOk 3 [50, 51, 56, 58] (E' := [(50, ptr b2 0), (51, .one (.int .i64) a1), (56, .one (.int .i64) (IntKind.wrap .i64 (1 - a0.2.2.2.1))), (58, ptr b2 2)]) rfl ?_
              refine r_store 1 ((.snd (.snd (.fst .here)))) rfl rfl rfl (by first | rfl | (simp only [Pth.off, T.size]; omega)) (ok_snd (ok_snd (ok_fst ok_here))) ty2 ?_
              refine r_pure tabOk 2 [56, 60] (E' := [(56, .one (.int .i64) (IntKind.wrap .i64 (1 - a0.2.2.2.1))), (60, ptr b2 3)]) rfl ?_
              refine r_store 1 ((.snd (.snd (.snd (.fst .here))))) rfl rfl rfl (by first | rfl | (simp only [Pth.off, T.size]; omega)) (ok_snd (ok_snd (ok_snd (ok_fst ok_here)))) ty3 ?_
              refine r_nil ?_
              refine r_then ?_
              refine r_seq ?_
              refine r_region ?_
              refine r_pure tabOk 1 [4] (E' := [(4, .one (.int .i64) 0)]) rfl ?_
              refine r_nil ?_
              refine r_then ?_
              refine r_ret ?_
              refine r_perm (L' := [Res.var b2 70 (.pair (.raw (.pointer none)) (.pair .str (.pair (.int .i64) (.pair (.int .i64) .unit)))) (p100, a0.2.1, a1, (IntKind.wrap .i64 (1 - a0.2.2.2.1)), a0.2.2.2.2), Res.disk Try.prog dI p100 r5.2]) ((List.perm_middle (a := Res.var b2 70 (.pair (.raw (.pointer none)) (.pair .str (.pair (.int .i64) (.pair (.int .i64) .unit)))) (p100, a0.2.1, a1, (IntKind.wrap .i64 (1 - a0.2.2.2.1)), a0.2.2.2.2)) (l₁ := [Res.disk Try.prog dI p100 r5.2]) (l₂ := [])).trans (.cons _ (List.Perm.refl _))) ?_
              refine r_CMark (x := (p100, a0.2.1, a1, (IntKind.wrap .i64 (1 - a0.2.2.2.1)), a0.2.2.2.2)) ?_
              obtain rfl := Option.some.inj h
              exact r_ret1 rfl (.tmp rfl) (fun _ _ g => g) (fun _ _ _ => (.cons_cons _ (.cons_cons _ .slnil)))

theorem sortS : SortOk Try.prog 39 Go.Proofs.encStr (fun x y => decide (x ≤ y)) := sortS_of Try.laysSortS

theorem disk_Disk_List_ok (p0 : Value) (a0 : DiskS) (r : List (List Int)) (h : disk_Disk_List a0 = some r) : Fn Try.prog 24 [.one (.raw NV) p0] [Res.disk Try.prog dI p0 a0] (fun v => .one (.raw (.slice none 0 0)) v) (fun v => [Res.disk Try.prog dI p0 a0, Res.own v 9 .str r]) := by
  unfold disk_Disk_List at h
  refine enter Try.func24 rfl 25 rfl rfl fun F => ?_
  refine r_undisk fun b2 mv1 hp => ?_
  subst hp
  refine r_seq ?_
  refine r_region ?_
  refine r_pure tabOk 1 [0] (E' := [(0, ptr b2 0)]) rfl ?_
  refine r_nil ?_
  refine r_then ?_
  refine r_seq ?_
  refine r_seq ?_
  refine r_region ?_
  refine r_pure tabOk 3 [0, 7] (E' := [(0, ptr b2 0), (7, ptr b2 5)]) rfl ?_
  refine y (y_load 0 (.snd (.snd (.snd (.snd (.snd (.fst .here)))))) rfl rfl (by first | rfl | (simp only [Pth.off, T.size]; omega)) (ok_snd (ok_snd (ok_snd (ok_snd (ok_snd (ok_fst ok_here)))))) ty4) rfl ?_
  refine r_nil ?_
  refine r_then ?_
  refine r_if (b := a0.2.2.2.2.2.1) rfl (fun hc => ?_) (fun hc => ?_)
  · rw [if_pos hc] at h
    refine r_seq ?_
    refine r_region ?_
    refine r_pure tabOk 1 [2] (E' := [(2, .one (.raw (.slice none 0 0)) (.slice none 0 0))]) rfl ?_
    refine r_nil ?_
    refine r_then ?_
    refine r_ret ?_
    refine t_then ?_
    refine r_disk (P := Try.prog) (I := dI) (D := a0) ?_
    refine r_nilown (.slice none 0 0) rfl 9 .str ?_
    refine r_swap ?_
    obtain rfl := Option.some.inj h
    exact r_ret1 rfl (.tmp rfl) (fun _ _ g => raw_self g) (fun _ _ g => by obtain ⟨rfl, _⟩ := holds_raw.1 g; exact List.Sublist.refl _)
  · rw [if_neg (ne_true_of_eq_false hc)] at h
    obtain ⟨hlen, h⟩ := ite_ex h
    obtain rfl := Option.some.inj h
    refine r_skip ?_
    refine r_then ?_
    refine r_seq ?_
    refine r_region ?_
    refine r_pure tabOk 1 [0, 3] (E' := [(0, ptr b2 0), (3, .one (.raw (.slice none 0 0)) (.slice none 0 0))]) rfl ?_
    refine r_nil ?_
    refine r_then ?_
    repeat refine r_seq ?_
    refine r_region ?_
    refine r_pure tabOk 3 [0, 3, 11] (E' := [(0, ptr b2 0), (3, .one (.raw (.slice none 0 0)) (.slice none 0 0)), (11, ptr b2 1)]) rfl ?_
    refine y (y_load 0 (.snd (.fst .here)) rfl rfl (by first | rfl | (simp only [Pth.off, T.size]; omega)) (ok_snd (ok_fst ok_here)) ty62) rfl ?_
    refine r_swap ?_
    refine r_drange kstr rfl Try.underlying62 rfl fun it6 hn7 => ?_
    refine r_nil ?_
    refine r_then ?_
    refine r_block ?_
    refine r_nilown (.slice none 0 0) rfl 9 .str ?_
    refine r_less [0, 3, 13] rfl ?_
    refine r_fact (p := (([] : List (List Int)) ++ a0.2.1.map (·.1)).Perm (a0.2.1.map (·.1))) (List.Perm.refl _) ?_
    refine r_loopI (σ := List (List Int) × Value × List (List Int)) (fun s => [(0, ptr b2 0), (3, .one (.raw (.slice none 0 0)) s.2.1), (13, .one (.raw (.pointer none)) it6)]) (fun s => [Res.fact ((s.2.2 ++ s.1).Perm (a0.2.1.map (·.1))), Res.own s.2.1 9 .str s.2.2, Res.diter Try.prog dI mv1 it6 a0.2.1 s.1 none none, Res.var b2 64 DT (a0.1, mv1, a0.2.2.1, a0.2.2.2.1, a0.2.2.2.2.1, a0.2.2.2.2.2.1, a0.2.2.2.2.2.2, ())]) (fun s => s.1.length) (a0.2.1.map (·.1), .slice none 0 0, []) rfl rfl ?_
    rintro ⟨todo, v8, xs⟩
    refine r_unfact fun hperm => ?_
    refine r_swap ?_
    refine r_seq ?_
    refine r_region ?_
    refine r_dnext kstr rfl rfl (fun ht => ?_) (fun A k B q htk hk => ?_)
    · have hperm2 : xs.Perm (a0.2.1.map (·.1)) := by have hp := hperm; simp only at ht hp; rw [ht, List.append_nil] at hp; exact hp
      refine r_dunrange ?_
      refine r_pure tabOk 1 [0, 3, 15] (E' := [(0, ptr b2 0), (3, .one (.raw (.slice none 0 0)) v8), (15, .one .bool false)]) rfl ?_
      refine r_nil ?_
      refine r_then ?_
      refine r_seq ?_
      refine r_if (b := false) rfl (fun hc => ?_) (fun hc => ?_)
      · cases hc
      · refine r_exit ?_
        refine e_then ?_
        refine e_then ?_
        refine e_eq ?_
        refine r_then ?_
        refine r_dsorted kstr fun hko hso => ?_
        refine r_swap ?_
        refine r_seq ?_
        refine r_region ?_
        refine r_pure tabOk 1 [3, 22] (E' := [(3, .one (.raw (.slice none 0 0)) v8), (22, .one (.raw (.slice none 0 0)) v8)]) rfl ?_
        refine r_call (Lo := [Res.dfiles Try.prog dI mv1 a0.2.1, Res.var b2 64 DT (a0.1, mv1, a0.2.2.1, a0.2.2.2.1, a0.2.2.2.2.1, a0.2.2.2.2.2.1, a0.2.2.2.2.2.2, ())]) (sortS_fn sortS hperm2 hso (fun x hx => by obtain ⟨p, hp, rfl⟩ := List.mem_map.1 (hperm2.mem_iff.1 hx); exact (hko p hp).1) (by rw [hperm2.length_eq, List.length_map]; omega) v8) (by kernel_rfl) (List.Perm.refl _) rfl rfl fun _ => ?_
        refine r_nil ?_
        refine r_then ?_
        refine r_seq ?_
        refine r_region ?_
        refine r_pure tabOk 2 [2] (E' := [(2, .one (.raw (.slice none 0 0)) v8)]) rfl ?_
        refine r_nil ?_
        refine r_then ?_
        refine r_ret ?_
        refine r_perm (L' := [Res.var b2 64 DT (a0.1, mv1, a0.2.2.1, a0.2.2.2.1, a0.2.2.2.2.1, a0.2.2.2.2.2.1, a0.2.2.2.2.2.2, ()), Res.dfiles Try.prog dI mv1 a0.2.1, Res.own v8 9 .str (a0.2.1.map (·.1))]) ((List.Perm.swap _ _ _).trans ((List.Perm.cons _ (List.Perm.swap _ _ _)).trans (List.Perm.swap _ _ _))) ?_
        refine r_disk (P := Try.prog) (I := dI) (D := a0) ?_
        exact r_ret1 rfl (.tmp rfl) (fun _ _ g => raw_self g) (fun _ _ g => by obtain ⟨rfl, _⟩ := holds_raw.1 g; exact List.Sublist.refl _)
    · refine r_pure tabOk 1 [0, 3, 13, 15] (E' := [(0, ptr b2 0), (3, .one (.raw (.slice none 0 0)) v8), (13, .one (.raw (.pointer none)) it6), (15, .one .bool true)]) rfl ?_
      refine r_nil ?_
      refine r_then ?_
      refine r_seq ?_
      refine r_if (b := true) rfl (fun hc => ?_) (fun hc => ?_)
      · refine r_skip ?_
        refine r_then ?_
        refine r_block ?_
        refine r_seq ?_
        refine r_region ?_
        refine y (y_dentry rfl 0 rfl) rfl ?_
        refine r_pure tabOk 2 [0, 3, 4, 13] (E' := [(0, ptr b2 0), (3, .one (.raw (.slice none 0 0)) v8), (4, .one .str k), (13, .one (.raw (.pointer none)) it6)]) rfl ?_
        refine r_nil ?_
        refine r_then ?_
        refine r_region ?_
        refine r_pure tabOk 2 [0, 13, 18, 19] (E' := [(0, ptr b2 0), (13, .one (.raw (.pointer none)) it6), (18, .one (.raw (.slice none 0 0)) v8), (19, .one .str k)]) rfl ?_
        refine r_lits (B := 16) tabOk rfl el9 rfl rfl rfl (.cons rfl .nil) rfl fun v9 => ?_
        have hroom : (List.length xs + List.length [k]) * 16 ≤ 140737488355328 := by
          have e1 := hperm.length_eq
          simp only at htk e1
          rw [htk] at e1
          simp only [List.length_append, List.length_cons, List.length_nil, List.length_map] at e1 ⊢
          omega
        refine r_append (B := 16) tabOk 2 rfl rfl (src_own 0 rfl rfl) rfl el9 rfl rfl hroom rfl fun v10 => ?_
        refine r_pure tabOk 1 [0, 3, 13] (E' := [(0, ptr b2 0), (3, .one (.raw (.slice none 0 0)) v10), (13, .one (.raw (.pointer none)) it6)]) rfl ?_
        refine r_nil ?_
        refine r_inblock ?_
        refine r_then ?_
        refine r_lose (L' := [Res.diter Try.prog dI mv1 it6 a0.2.1 (A ++ B) (some (k, q)) none, Res.own v10 9 .str (xs ++ [k]), Res.var b2 64 DT (a0.1, mv1, a0.2.2.1, a0.2.2.2.1, a0.2.2.2.2.1, a0.2.2.2.2.2.1, a0.2.2.2.2.2.2, ())]) (.cons _ (List.Sublist.refl _)) ?_
        refine r_imp_at (R' := Res.diter Try.prog dI mv1 it6 a0.2.1 (A ++ B) none none) 0 rfl diter_none ?_
        refine r_swap ?_
        refine r_fact (p := ((xs ++ [k]) ++ (A ++ B)).Perm (a0.2.1.map (·.1))) (by
          have hp := hperm
          simp only at htk hp
          rw [htk] at hp
          refine List.Perm.trans ?_ hp
          rw [List.append_assoc]
          exact List.Perm.append_left _ (List.perm_middle (a := k) (l₁ := A) (l₂ := B)).symm) ?_
        exact r_backI (A ++ B, v10, xs ++ [k]) (by simp only at htk ⊢; rw [htk]; simp) rfl rfl
      · cases hc

theorem escrowlaw19_head_ok  (r : Bool) (h : escrowlaw19_head  = some r) : Pure Try.prog 5 [] (.one .bool r) := by
  unfold escrowlaw19_head at h
  refine enter Try.func5 rfl 86 rfl rfl fun F => ?_
  refine r_seq ?_
  refine r_region ?_
  refine r_pure tabOk 1 [] (E' := []) rfl ?_
  refine r_nil ?_
  refine r_then ?_
  refine r_seq ?_
  refine r_region ?_
  obtain ⟨r1, hr1, h⟩ := bind_ex h
  refine r_call (Lo := []) (disk_New_ok 1000 _ hr1) (by kernel_rfl) (List.Perm.refl _) rfl rfl fun v2 => ?_
  refine r_pure tabOk 5 [1, 2] (E' := [(1, .one (.raw (.pointer none)) (tupv v2 0)), (2, .one (.int .i64) r1.1)]) rfl ?_
  refine r_nil ?_
  refine r_then ?_
  refine r_seq ?_
  refine r_seq ?_
  refine r_region ?_
  refine r_pure tabOk 1 [1, 2, 11] (E' := [(1, .one (.raw (.pointer none)) (tupv v2 0)), (2, .one (.int .i64) r1.1), (11, .one (.raw (.pointer none)) (tupv v2 0))]) rfl ?_
  refine y (y_dnil 0 rfl rfl Try.underlying24) rfl ?_
  refine r_pure tabOk 1 [1, 2, 13] (E' := [(1, .one (.raw (.pointer none)) (tupv v2 0)), (2, .one (.int .i64) r1.1), (13, .one .bool (r1.1 != 0))]) rfl ?_
  obtain ⟨b3, hbb3, h⟩ := bnd_ex h
  rw [hbb3]
  refine r_lsplit (γ := Unit) 3 (fun _ => [(1, .one (.raw (.pointer none)) (tupv v2 0)), (16, .one .bool (b3 || (r1.1 != 0)))]) (fun _ => [Res.diskif Try.prog dI (tupv v2 0) r1.2 r1.1]) ?_ (fun _ => ?_)
  · clear h
    cases b3 with
    | true =>
    refine r_pure tabOk 3 [1, 16] (E' := [(1, .one (.raw (.pointer none)) (tupv v2 0)), (16, .one .bool true)]) rfl ?_
    refine r_nil ?_
    refine r_then ?_
    exact r_meetg () rfl rfl
    | false =>
    refine r_pure tabOk 3 [1, 16] (E' := [(1, .one (.raw (.pointer none)) (tupv v2 0)), (16, .one .bool (r1.1 != 0))]) rfl ?_
    refine r_nil ?_
    refine r_then ?_
    exact r_meetg () rfl rfl
  refine r_nil ?_
  refine r_then ?_
  refine r_if (b := (b3 || (r1.1 != 0))) rfl (fun hc => ?_) (fun hc => ?_)
  · rw [if_pos hc] at h
    refine r_seq ?_
    refine r_region ?_
    refine r_pure tabOk 1 [0] (E' := [(0, .one .bool false)]) rfl ?_
    refine r_nil ?_
    refine r_then ?_
    refine r_ret ?_
    refine t_then ?_
    obtain rfl := Option.some.inj h
    exact r_ret1 rfl (.tmp rfl) (fun _ _ g => g) (fun _ _ _ => List.nil_sublist _)
  · rw [if_neg (ne_true_of_eq_false hc)] at h
    refine r_skip ?_
    refine r_then ?_
    refine r_seq ?_
    refine r_region ?_
    refine r_pure tabOk 1 [1, 18] (E' := [(1, .one (.raw (.pointer none)) (tupv v2 0)), (18, .one (.raw (.pointer none)) (tupv v2 0))]) rfl ?_
    obtain ⟨he4, h⟩ := ite_ex h
    refine r_imp_at (R' := Res.disk Try.prog dI (tupv v2 0) r1.2) 0 rfl (diskif_disk he4) ?_
    obtain ⟨r5, hr5, h⟩ := bind_ex h
    refine r_call (Lo := []) (mark_Open_ok (tupv v2 0) r1.2 [109] _ hr5) (by kernel_rfl) (List.Perm.refl _) rfl rfl fun v6 => ?_
    refine r_pure tabOk 5 [1, 2, 3] (E' := [(1, .one (.raw (.pointer none)) (tupv v2 0)), (2, .one (.int .i64) r5.2.1), (3, .one (.raw (.pointer none)) (tupv v6 0))]) rfl ?_
    refine r_nil ?_
    refine r_then ?_
    refine r_seq ?_
    refine r_seq ?_
    refine r_region ?_
    refine r_pure tabOk 1 [1, 2, 3, 22] (E' := [(1, .one (.raw (.pointer none)) (tupv v2 0)), (2, .one (.int .i64) r5.2.1), (3, .one (.raw (.pointer none)) (tupv v6 0)), (22, .one (.raw (.pointer none)) (tupv v6 0))]) rfl ?_
    refine y (y_cnil 1 rfl rfl Try.underlying28) rfl ?_
    refine r_pure tabOk 1 [1, 2, 3, 24] (E' := [(1, .one (.raw (.pointer none)) (tupv v2 0)), (2, .one (.int .i64) r5.2.1), (3, .one (.raw (.pointer none)) (tupv v6 0)), (24, .one .bool (r5.1.1 != 0))]) rfl ?_
    obtain ⟨b7, hbb7, h⟩ := bnd_ex h
    rw [hbb7]
    refine r_lsplit (γ := Unit) 3 (fun _ => [(1, .one (.raw (.pointer none)) (tupv v2 0)), (3, .one (.raw (.pointer none)) (tupv v6 0)), (27, .one .bool (b7 || (r5.2.1 != 0)))]) (fun _ => [Res.disk Try.prog dI (tupv v2 0) r5.2.2, Res.clsif CMark (tupv v6 0) ((tupv v2 0), r5.1.2.2.1, r5.1.2.2.2.1, r5.1.2.2.2.2.1, r5.1.2.2.2.2.2) r5.1.1]) ?_ (fun _ => ?_)
    · clear h
      cases b7 with
      | true =>
      refine r_pure tabOk 3 [1, 3, 27] (E' := [(1, .one (.raw (.pointer none)) (tupv v2 0)), (3, .one (.raw (.pointer none)) (tupv v6 0)), (27, .one .bool true)]) rfl ?_
      refine r_nil ?_
      refine r_then ?_
      exact r_meetg () rfl rfl
      | false =>
      refine r_pure tabOk 3 [1, 3, 27] (E' := [(1, .one (.raw (.pointer none)) (tupv v2 0)), (3, .one (.raw (.pointer none)) (tupv v6 0)), (27, .one .bool (r5.2.1 != 0))]) rfl ?_
      refine r_nil ?_
      refine r_then ?_
      exact r_meetg () rfl rfl
    refine r_pure tabOk 1 [1, 3, 28] (E' := [(1, .one (.raw (.pointer none)) (tupv v2 0)), (3, .one (.raw (.pointer none)) (tupv v6 0)), (28, .one .bool (b7 || (r5.2.1 != 0)))]) rfl ?_
    obtain ⟨b8, hbb8, h⟩ := bnd_ex h
    rw [hbb8]
    obtain ⟨k9, hk9, h⟩ := bnd_ex h
    refine r_lsplitk (γ := Unit) 4 (fun (o10 : Bool) _ => [(1, .one (.raw (.pointer none)) (tupv v2 0)), (3, .one (.raw (.pointer none)) (tupv v6 0)), (32, .one .bool o10)]) (fun _ _ => [Res.disk Try.prog dI (tupv v2 0) r5.2.2, Res.clsif CMark (tupv v6 0) ((tupv v2 0), r5.1.2.2.1, r5.1.2.2.2.1, r5.1.2.2.2.2.1, r5.1.2.2.2.2.2) r5.1.1]) k9 r ?_ ?_
    · rcases Bool.eq_false_or_eq_true b8 with hh | hh
      · rw [hh] at h ⊢
        rw [if_pos rfl] at h
        refine r_pure tabOk 4 [1, 3, 32] (E' := [(1, .one (.raw (.pointer none)) (tupv v2 0)), (3, .one (.raw (.pointer none)) (tupv v6 0)), (32, .one .bool true)]) rfl ?_
        refine r_nil ?_
        refine r_less [1, 3, 32] rfl ?_
        refine r_then ?_
        exact r_meetk true () h rfl rfl
      · rw [hh] at h ⊢
        rw [if_neg (by decide)] at h
        refine r_pure tabOk 1 [1, 3, 28, 29] (E' := [(1, .one (.raw (.pointer none)) (tupv v2 0)), (3, .one (.raw (.pointer none)) (tupv v6 0)), (28, .one .bool false), (29, .one (.raw (.pointer none)) (tupv v6 0))]) rfl ?_
        refine r_guard (by rfl) rfl ?_
        obtain ⟨he11, h⟩ := ite_ex h
        refine r_imp_at (R' := Res.cls CMark (tupv v6 0) ((tupv v2 0), r5.1.2.2.1, r5.1.2.2.2.1, r5.1.2.2.2.2.1, r5.1.2.2.2.2.2)) 1 rfl (clsif_cls he11) ?_
        obtain ⟨r12, hr12, h⟩ := bind_ex h
        refine r_call (Lo := []) (mark_Mark_Value_ok (tupv v6 0) (tupv v2 0) r5.1.2 r5.2.2 _ hr12) (by kernel_rfl) ((List.perm_middle (a := Res.cls CMark (tupv v6 0) ((tupv v2 0), r5.1.2.2.1, r5.1.2.2.2.1, r5.1.2.2.2.2.1, r5.1.2.2.2.2.2)) (l₁ := [Res.disk Try.prog dI (tupv v2 0) r5.2.2]) (l₂ := [])).trans (.cons _ (List.Perm.refl _))) rfl rfl fun _ => ?_
        refine r_pure tabOk 2 [1, 3, 32] (E' := [(1, .one (.raw (.pointer none)) (tupv v2 0)), (3, .one (.raw (.pointer none)) (tupv v6 0)), (32, .one .bool (r12 != (-1)))]) rfl ?_
        refine r_nil ?_
        refine r_less [1, 3, 32] rfl ?_
        refine r_imp_at (R' := Res.clsif CMark (tupv v6 0) ((tupv v2 0), r5.1.2.2.1, r5.1.2.2.2.1, r5.1.2.2.2.2.1, r5.1.2.2.2.2.2) r5.1.1) 0 rfl (clsif_of he11) ?_
        refine r_perm (L' := [Res.disk Try.prog dI (tupv v2 0) r5.2.2, Res.clsif CMark (tupv v6 0) ((tupv v2 0), r5.1.2.2.1, r5.1.2.2.2.1, r5.1.2.2.2.2.1, r5.1.2.2.2.2.2) r5.1.1]) ((List.perm_middle (a := Res.disk Try.prog dI (tupv v2 0) r5.2.2) (l₁ := [Res.clsif CMark (tupv v6 0) ((tupv v2 0), r5.1.2.2.1, r5.1.2.2.2.1, r5.1.2.2.2.2.1, r5.1.2.2.2.2.2) r5.1.1]) (l₂ := [])).trans (.cons _ (List.Perm.refl _))) ?_
        refine r_then ?_
        exact r_meetk (r12 != (-1)) () h rfl rfl
    · intro o10 _ h
      rw [← hk9] at h
      try dsimp only at h
      refine r_nil ?_
      refine r_then ?_
      refine r_if (b := o10) rfl (fun hc => ?_) (fun hc => ?_)
      · rw [if_pos hc] at h
        refine r_seq ?_
        refine r_region ?_
        refine r_pure tabOk 1 [0] (E' := [(0, .one .bool false)]) rfl ?_
        refine r_nil ?_
        refine r_then ?_
        refine r_ret ?_
        refine t_then ?_
        obtain rfl := Option.some.inj h
        exact r_ret1 rfl (.tmp rfl) (fun _ _ g => g) (fun _ _ _ => List.nil_sublist _)
      · rw [if_neg (ne_true_of_eq_false hc)] at h
        refine r_skip ?_
        refine r_then ?_
        refine r_seq ?_
        refine r_seq ?_
        refine r_region ?_
        refine r_pure tabOk 1 [1, 3, 33] (E' := [(1, .one (.raw (.pointer none)) (tupv v2 0)), (3, .one (.raw (.pointer none)) (tupv v6 0)), (33, .one (.raw (.pointer none)) (tupv v6 0))]) rfl ?_
        obtain ⟨he13, h⟩ := ite_ex h
        refine r_imp_at (R' := Res.cls CMark (tupv v6 0) ((tupv v2 0), r5.1.2.2.1, r5.1.2.2.2.1, r5.1.2.2.2.2.1, r5.1.2.2.2.2.2)) 1 rfl (clsif_cls he13) ?_
        obtain ⟨r14, hr14, h⟩ := bind_ex h
        refine r_call (Lo := []) (mark_Mark_Raise_ok (tupv v6 0) (tupv v2 0) r5.1.2 5 r5.2.2 _ hr14) (by kernel_rfl) ((List.perm_middle (a := Res.cls CMark (tupv v6 0) ((tupv v2 0), r5.1.2.2.1, r5.1.2.2.2.1, r5.1.2.2.2.2.1, r5.1.2.2.2.2.2)) (l₁ := [Res.disk Try.prog dI (tupv v2 0) r5.2.2]) (l₂ := [])).trans (.cons _ (List.Perm.refl _))) rfl rfl fun _ => ?_
        refine r_pure tabOk 2 [1, 3, 36] (E' := [(1, .one (.raw (.pointer none)) (tupv v2 0)), (3, .one (.raw (.pointer none)) (tupv v6 0)), (36, .one .bool (r14.1 != 0))]) rfl ?_
        obtain ⟨b15, hbb15, h⟩ := bnd_ex h
        rw [hbb15]
        obtain ⟨k16, hk16, h⟩ := bnd_ex h
        refine r_lsplitk (γ := Unit) 4 (fun (o17 : Bool) _ => [(1, .one (.raw (.pointer none)) (tupv v2 0)), (3, .one (.raw (.pointer none)) (tupv v6 0)), (40, .one .bool o17)]) (fun _ _ => [Res.cls CMark (tupv v6 0) ((tupv v2 0), r14.2.1.2.1, r14.2.1.2.2.1, r14.2.1.2.2.2.1, r14.2.1.2.2.2.2), Res.disk Try.prog dI (tupv v2 0) r14.2.2]) k16 r ?_ ?_
        · rcases Bool.eq_false_or_eq_true b15 with hh | hh
          · rw [hh] at h ⊢
            rw [if_pos rfl] at h
            refine r_pure tabOk 4 [1, 3, 40] (E' := [(1, .one (.raw (.pointer none)) (tupv v2 0)), (3, .one (.raw (.pointer none)) (tupv v6 0)), (40, .one .bool true)]) rfl ?_
            refine r_nil ?_
            refine r_less [1, 3, 40] rfl ?_
            refine r_then ?_
            exact r_meetk true () h rfl rfl
          · rw [hh] at h ⊢
            rw [if_neg (by decide)] at h
            refine r_pure tabOk 1 [1, 3, 36, 37] (E' := [(1, .one (.raw (.pointer none)) (tupv v2 0)), (3, .one (.raw (.pointer none)) (tupv v6 0)), (36, .one .bool false), (37, .one (.raw (.pointer none)) (tupv v6 0))]) rfl ?_
            refine r_guard (by rfl) rfl ?_
            obtain ⟨r18, hr18, h⟩ := bind_ex h
            refine r_call (Lo := []) (mark_Mark_Value_ok (tupv v6 0) (tupv v2 0) r14.2.1 r14.2.2 _ hr18) (by kernel_rfl) (List.Perm.refl _) rfl rfl fun _ => ?_
            refine r_pure tabOk 2 [1, 3, 40] (E' := [(1, .one (.raw (.pointer none)) (tupv v2 0)), (3, .one (.raw (.pointer none)) (tupv v6 0)), (40, .one .bool (r18 != 5))]) rfl ?_
            refine r_nil ?_
            refine r_less [1, 3, 40] rfl ?_
            refine r_then ?_
            exact r_meetk (r18 != 5) () h rfl rfl
        · intro o17 _ h
          rw [← hk16] at h
          try dsimp only at h
          refine r_pure tabOk 1 [1, 3, 41] (E' := [(1, .one (.raw (.pointer none)) (tupv v2 0)), (3, .one (.raw (.pointer none)) (tupv v6 0)), (41, .one .bool o17)]) rfl ?_
          obtain ⟨k20, hk20, h⟩ := bnd_ex h
          refine r_lsplitk (γ := Unit) 4 (fun (o21 : Bool × (Unit × List Int × Int × Int × Unit) × DiskS) _ => [(1, .one (.raw (.pointer none)) (tupv v2 0)), (3, .one (.raw (.pointer none)) (tupv v6 0)), (45, .one .bool o21.1)]) (fun (o21 : Bool × (Unit × List Int × Int × Int × Unit) × DiskS) _ => [Res.cls CMark (tupv v6 0) ((tupv v2 0), o21.2.1.2.1, o21.2.1.2.2.1, o21.2.1.2.2.2.1, o21.2.1.2.2.2.2), Res.disk Try.prog dI (tupv v2 0) o21.2.2]) k20 r ?_ ?_
          · rcases Bool.eq_false_or_eq_true o17 with hh | hh
            · rw [hh] at h ⊢
              rw [if_pos rfl] at h
              refine r_pure tabOk 4 [1, 3, 45] (E' := [(1, .one (.raw (.pointer none)) (tupv v2 0)), (3, .one (.raw (.pointer none)) (tupv v6 0)), (45, .one .bool true)]) rfl ?_
              refine r_nil ?_
              refine r_less [1, 3, 45] rfl ?_
              refine r_then ?_
              exact r_meetk (true, r14.2.1, r14.2.2) () h rfl rfl
            · rw [hh] at h ⊢
              rw [if_neg (by decide)] at h
              refine r_pure tabOk 1 [1, 3, 41, 42] (E' := [(1, .one (.raw (.pointer none)) (tupv v2 0)), (3, .one (.raw (.pointer none)) (tupv v6 0)), (41, .one .bool false), (42, .one (.raw (.pointer none)) (tupv v6 0))]) rfl ?_
              refine r_guard (by rfl) rfl ?_
              obtain ⟨r22, hr22, h⟩ := bind_ex h
              refine r_call (Lo := []) (mark_Mark_Raise_ok (tupv v6 0) (tupv v2 0) r14.2.1 3 r14.2.2 _ hr22) (by kernel_rfl) (List.Perm.refl _) rfl rfl fun _ => ?_
              refine r_pure tabOk 2 [1, 3, 45] (E' := [(1, .one (.raw (.pointer none)) (tupv v2 0)), (3, .one (.raw (.pointer none)) (tupv v6 0)), (45, .one .bool (r22.1 != 0))]) rfl ?_
              refine r_nil ?_
              refine r_less [1, 3, 45] rfl ?_
              refine r_then ?_
              exact r_meetk ((r22.1 != 0), r22.2.1, r22.2.2) () h rfl rfl
          · intro o21 _ h
            rw [← hk20] at h
            try dsimp only at h
            refine r_pure tabOk 1 [1, 3, 46] (E' := [(1, .one (.raw (.pointer none)) (tupv v2 0)), (3, .one (.raw (.pointer none)) (tupv v6 0)), (46, .one .bool o21.1)]) rfl ?_
            obtain ⟨k24, hk24, h⟩ := bnd_ex h
            refine r_lsplitk (γ := Unit) 4 (fun (o25 : Bool) _ => [(1, .one (.raw (.pointer none)) (tupv v2 0)), (3, .one (.raw (.pointer none)) (tupv v6 0)), (50, .one .bool o25)]) (fun _ _ => [Res.cls CMark (tupv v6 0) ((tupv v2 0), o21.2.1.2.1, o21.2.1.2.2.1, o21.2.1.2.2.2.1, o21.2.1.2.2.2.2), Res.disk Try.prog dI (tupv v2 0) o21.2.2]) k24 r ?_ ?_
            · rcases Bool.eq_false_or_eq_true o21.1 with hh | hh
              · rw [hh] at h ⊢
                rw [if_pos rfl] at h
                refine r_pure tabOk 4 [1, 3, 50] (E' := [(1, .one (.raw (.pointer none)) (tupv v2 0)), (3, .one (.raw (.pointer none)) (tupv v6 0)), (50, .one .bool true)]) rfl ?_
                refine r_nil ?_
                refine r_less [1, 3, 50] rfl ?_
                refine r_then ?_
                exact r_meetk true () h rfl rfl
              · rw [hh] at h ⊢
                rw [if_neg (by decide)] at h
                refine r_pure tabOk 1 [1, 3, 46, 47] (E' := [(1, .one (.raw (.pointer none)) (tupv v2 0)), (3, .one (.raw (.pointer none)) (tupv v6 0)), (46, .one .bool false), (47, .one (.raw (.pointer none)) (tupv v6 0))]) rfl ?_
                refine r_guard (by rfl) rfl ?_
                obtain ⟨r26, hr26, h⟩ := bind_ex h
                refine r_call (Lo := []) (mark_Mark_Value_ok (tupv v6 0) (tupv v2 0) o21.2.1 o21.2.2 _ hr26) (by kernel_rfl) (List.Perm.refl _) rfl rfl fun _ => ?_
                refine r_pure tabOk 2 [1, 3, 50] (E' := [(1, .one (.raw (.pointer none)) (tupv v2 0)), (3, .one (.raw (.pointer none)) (tupv v6 0)), (50, .one .bool (r26 != 5))]) rfl ?_
                refine r_nil ?_
                refine r_less [1, 3, 50] rfl ?_
                refine r_then ?_
                exact r_meetk (r26 != 5) () h rfl rfl
            · intro o25 _ h
              rw [← hk24] at h
              try dsimp only at h
              refine r_pure tabOk 1 [1, 3, 51] (E' := [(1, .one (.raw (.pointer none)) (tupv v2 0)), (3, .one (.raw (.pointer none)) (tupv v6 0)), (51, .one .bool o25)]) rfl ?_
              obtain ⟨k28, hk28, h⟩ := bnd_ex h
              refine r_lsplitk (γ := Unit) 4 (fun (o29 : Bool × (Unit × List Int × Int × Int × Unit) × DiskS) _ => [(1, .one (.raw (.pointer none)) (tupv v2 0)), (55, .one .bool o29.1)]) (fun (o29 : Bool × (Unit × List Int × Int × Int × Unit) × DiskS) _ => [Res.cls CMark (tupv v6 0) ((tupv v2 0), o29.2.1.2.1, o29.2.1.2.2.1, o29.2.1.2.2.2.1, o29.2.1.2.2.2.2), Res.disk Try.prog dI (tupv v2 0) o29.2.2]) k28 r ?_ ?_
              · rcases Bool.eq_false_or_eq_true o25 with hh | hh
                · rw [hh] at h ⊢
                  rw [if_pos rfl] at h
                  refine r_pure tabOk 4 [1, 55] (E' := [(1, .one (.raw (.pointer none)) (tupv v2 0)), (55, .one .bool true)]) rfl ?_
                  refine r_nil ?_
                  refine r_less [1, 55] rfl ?_
                  refine r_then ?_
                  exact r_meetk (true, o21.2.1, o21.2.2) () h rfl rfl
                · rw [hh] at h ⊢
                  rw [if_neg (by decide)] at h
                  refine r_pure tabOk 1 [1, 51, 52] (E' := [(1, .one (.raw (.pointer none)) (tupv v2 0)), (51, .one .bool false), (52, .one (.raw (.pointer none)) (tupv v6 0))]) rfl ?_
                  refine r_guard (by rfl) rfl ?_
                  obtain ⟨r30, hr30, h⟩ := bind_ex h
                  refine r_call (Lo := []) (mark_Mark_Raise_ok (tupv v6 0) (tupv v2 0) o21.2.1 (-2) o21.2.2 _ hr30) (by kernel_rfl) (List.Perm.refl _) rfl rfl fun _ => ?_
                  refine r_pure tabOk 2 [1, 55] (E' := [(1, .one (.raw (.pointer none)) (tupv v2 0)), (55, .one .bool (r30.1 != 1))]) rfl ?_
                  refine r_nil ?_
                  refine r_less [1, 55] rfl ?_
                  refine r_then ?_
                  exact r_meetk ((r30.1 != 1), r30.2.1, r30.2.2) () h rfl rfl
              · intro o29 _ h
                rw [← hk28] at h
                try dsimp only at h
                refine r_nil ?_
                refine r_then ?_
                refine r_if (b := o29.1) rfl (fun hc => ?_) (fun hc => ?_)
                · rw [if_pos hc] at h
                  refine r_seq ?_
                  refine r_region ?_
                  refine r_pure tabOk 1 [0] (E' := [(0, .one .bool false)]) rfl ?_
                  refine r_nil ?_
                  refine r_then ?_
                  refine r_ret ?_
                  refine t_then ?_
                  obtain rfl := Option.some.inj h
                  exact r_ret1 rfl (.tmp rfl) (fun _ _ g => g) (fun _ _ _ => List.nil_sublist _)
                · rw [if_neg (ne_true_of_eq_false hc)] at h
                  refine r_skip ?_
                  refine r_then ?_
                  refine r_seq ?_
                  refine r_region ?_
                  refine r_pure tabOk 1 [1, 57] (E' := [(1, .one (.raw (.pointer none)) (tupv v2 0)), (57, .one (.raw (.pointer none)) (tupv v2 0))]) rfl ?_
                  obtain ⟨r31, hr31, h⟩ := bind_ex h
                  refine r_call (Lo := [Res.cls CMark (tupv v6 0) ((tupv v2 0), o29.2.1.2.1, o29.2.1.2.2.1, o29.2.1.2.2.2.1, o29.2.1.2.2.2.2)]) (disk_Disk_Read_ok (tupv v2 0) o29.2.2 [109] 64 8 _ hr31) (by kernel_rfl) ((List.perm_middle (a := Res.disk Try.prog dI (tupv v2 0) o29.2.2) (l₁ := [Res.cls CMark (tupv v6 0) ((tupv v2 0), o29.2.1.2.1, o29.2.1.2.2.1, o29.2.1.2.2.2.1, o29.2.1.2.2.2.2)]) (l₂ := [])).trans (.cons _ (List.Perm.refl _))) rfl rfl fun _ => ?_
                  refine r_pure tabOk 5 [1, 2, 4] (E' := [(1, .one (.raw (.pointer none)) (tupv v2 0)), (2, .one (.int .i64) r31.2), (4, .one .str r31.1)]) rfl ?_
                  refine r_nil ?_
                  refine r_then ?_
                  refine r_seq ?_
                  refine r_region ?_
                  refine r_pure tabOk 1 [1, 2, 4, 62] (E' := [(1, .one (.raw (.pointer none)) (tupv v2 0)), (2, .one (.int .i64) r31.2), (4, .one .str r31.1), (62, .one (.raw (.pointer none)) (tupv v2 0))]) rfl ?_
                  obtain ⟨r32, hr32, h⟩ := bind_ex h
                  refine r_call (Lo := [Res.cls CMark (tupv v6 0) ((tupv v2 0), o29.2.1.2.1, o29.2.1.2.2.1, o29.2.1.2.2.2.1, o29.2.1.2.2.2.2)]) (disk_Disk_Size_ok (tupv v2 0) o29.2.2 [109] _ hr32) (by kernel_rfl) (List.Perm.refl _) rfl rfl fun _ => ?_
                  refine r_pure tabOk 5 [1, 2, 4, 5, 6] (E' := [(1, .one (.raw (.pointer none)) (tupv v2 0)), (2, .one (.int .i64) r31.2), (4, .one .str r31.1), (5, .one (.int .i64) r32.1), (6, .one (.int .i64) r32.2)]) rfl ?_
                  refine r_nil ?_
                  refine r_then ?_
                  refine r_seq ?_
                  refine r_region ?_
                  refine r_pure tabOk 3 [1, 4, 5, 6, 68] (E' := [(1, .one (.raw (.pointer none)) (tupv v2 0)), (4, .one .str r31.1), (5, .one (.int .i64) r32.1), (6, .one (.int .i64) r32.2), (68, .one .bool (r31.2 == 0))]) rfl ?_
                  obtain ⟨b33, hbb33, h⟩ := bnd_ex h
                  rw [hbb33]
                  refine r_lsplit (γ := Unit) 3 (fun _ => [(1, .one (.raw (.pointer none)) (tupv v2 0)), (5, .one (.int .i64) r32.1), (6, .one (.int .i64) r32.2), (71, .one .bool (b33 && (r31.1 == [0, 0, 0, 0, 0, 0, 0, 5])))]) (fun _ => [Res.disk Try.prog dI (tupv v2 0) o29.2.2, Res.cls CMark (tupv v6 0) ((tupv v2 0), o29.2.1.2.1, o29.2.1.2.2.1, o29.2.1.2.2.2.1, o29.2.1.2.2.2.2)]) ?_ (fun _ => ?_)
                  · clear h
                    cases b33 with
                    | true =>
                    refine r_pure tabOk 3 [1, 5, 6, 71] (E' := [(1, .one (.raw (.pointer none)) (tupv v2 0)), (5, .one (.int .i64) r32.1), (6, .one (.int .i64) r32.2), (71, .one .bool (r31.1 == [0, 0, 0, 0, 0, 0, 0, 5]))]) rfl ?_
                    refine r_nil ?_
                    refine r_then ?_
                    exact r_meetg () rfl rfl
                    | false =>
                    refine r_pure tabOk 3 [1, 5, 6, 71] (E' := [(1, .one (.raw (.pointer none)) (tupv v2 0)), (5, .one (.int .i64) r32.1), (6, .one (.int .i64) r32.2), (71, .one .bool false)]) rfl ?_
                    refine r_nil ?_
                    refine r_then ?_
                    exact r_meetg () rfl rfl
                  refine r_pure tabOk 1 [1, 5, 6, 72] (E' := [(1, .one (.raw (.pointer none)) (tupv v2 0)), (5, .one (.int .i64) r32.1), (6, .one (.int .i64) r32.2), (72, .one .bool (b33 && (r31.1 == [0, 0, 0, 0, 0, 0, 0, 5])))]) rfl ?_
                  obtain ⟨b34, hbb34, h⟩ := bnd_ex h
                  rw [hbb34]
                  refine r_lsplit (γ := Unit) 3 (fun _ => [(1, .one (.raw (.pointer none)) (tupv v2 0)), (5, .one (.int .i64) r32.1), (75, .one .bool (b34 && (r32.2 == 0)))]) (fun _ => [Res.disk Try.prog dI (tupv v2 0) o29.2.2, Res.cls CMark (tupv v6 0) ((tupv v2 0), o29.2.1.2.1, o29.2.1.2.2.1, o29.2.1.2.2.2.1, o29.2.1.2.2.2.2)]) ?_ (fun _ => ?_)
                  · clear h
                    cases b34 with
                    | true =>
                    refine r_pure tabOk 3 [1, 5, 75] (E' := [(1, .one (.raw (.pointer none)) (tupv v2 0)), (5, .one (.int .i64) r32.1), (75, .one .bool (r32.2 == 0))]) rfl ?_
                    refine r_nil ?_
                    refine r_then ?_
                    exact r_meetg () rfl rfl
                    | false =>
                    refine r_pure tabOk 3 [1, 5, 75] (E' := [(1, .one (.raw (.pointer none)) (tupv v2 0)), (5, .one (.int .i64) r32.1), (75, .one .bool false)]) rfl ?_
                    refine r_nil ?_
                    refine r_then ?_
                    exact r_meetg () rfl rfl
                  refine r_pure tabOk 1 [1, 5, 76] (E' := [(1, .one (.raw (.pointer none)) (tupv v2 0)), (5, .one (.int .i64) r32.1), (76, .one .bool (b34 && (r32.2 == 0)))]) rfl ?_
                  obtain ⟨b35, hbb35, h⟩ := bnd_ex h
                  rw [hbb35]
                  refine r_lsplit (γ := Unit) 3 (fun _ => [(1, .one (.raw (.pointer none)) (tupv v2 0)), (79, .one .bool (b35 && (r32.1 == 128)))]) (fun _ => [Res.disk Try.prog dI (tupv v2 0) o29.2.2, Res.cls CMark (tupv v6 0) ((tupv v2 0), o29.2.1.2.1, o29.2.1.2.2.1, o29.2.1.2.2.2.1, o29.2.1.2.2.2.2)]) ?_ (fun _ => ?_)
                  · clear h
                    cases b35 with
                    | true =>
                    refine r_pure tabOk 3 [1, 79] (E' := [(1, .one (.raw (.pointer none)) (tupv v2 0)), (79, .one .bool (r32.1 == 128))]) rfl ?_
                    refine r_nil ?_
                    refine r_then ?_
                    exact r_meetg () rfl rfl
                    | false =>
                    refine r_pure tabOk 3 [1, 79] (E' := [(1, .one (.raw (.pointer none)) (tupv v2 0)), (79, .one .bool false)]) rfl ?_
                    refine r_nil ?_
                    refine r_then ?_
                    exact r_meetg () rfl rfl
                  refine r_pure tabOk 1 [1, 80] (E' := [(1, .one (.raw (.pointer none)) (tupv v2 0)), (80, .one .bool (b35 && (r32.1 == 128)))]) rfl ?_
                  obtain ⟨b36, hbb36, h⟩ := bnd_ex h
                  rw [hbb36]
                  obtain ⟨k37, hk37, h⟩ := bnd_ex h
                  refine r_lsplitk (γ := Unit) 5 (fun (o38 : Bool) _ => [(85, .one .bool o38)]) (fun _ _ => [Res.disk Try.prog dI (tupv v2 0) o29.2.2, Res.cls CMark (tupv v6 0) ((tupv v2 0), o29.2.1.2.1, o29.2.1.2.2.1, o29.2.1.2.2.2.1, o29.2.1.2.2.2.2)]) k37 r ?_ ?_
                  · rcases Bool.eq_false_or_eq_true b36 with hh | hh
                    · rw [hh] at h ⊢
                      rw [if_pos rfl] at h
                      refine r_pure tabOk 1 [80, 81] (E' := [(80, .one .bool true), (81, .one (.raw (.pointer none)) (tupv v2 0))]) rfl ?_
                      refine r_guard (by rfl) rfl ?_
                      obtain ⟨r39, hr39, h⟩ := bind_ex h
                      refine r_call (Lo := [Res.cls CMark (tupv v6 0) ((tupv v2 0), o29.2.1.2.1, o29.2.1.2.2.1, o29.2.1.2.2.2.1, o29.2.1.2.2.2.2)]) (disk_Disk_List_ok (tupv v2 0) o29.2.2 _ hr39) (by kernel_rfl) (List.Perm.refl _) rfl rfl fun v40 => ?_
                      refine r_guard (by rfl) rfl ?_
                      refine y (y_lenown tabOk 1 rfl rfl rfl) rfl ?_
                      refine r_pure tabOk 2 [85] (E' := [(85, .one .bool ((List.length r39 : Int) == 1))]) rfl ?_
                      refine r_nil ?_
                      refine r_less [85] rfl ?_
                      refine r_lose (L' := [Res.disk Try.prog dI (tupv v2 0) o29.2.2, Res.cls CMark (tupv v6 0) ((tupv v2 0), o29.2.1.2.1, o29.2.1.2.2.1, o29.2.1.2.2.2.1, o29.2.1.2.2.2.2)]) (.cons_cons _ (.cons _ (.cons_cons _ .slnil))) ?_
                      refine r_then ?_
                      exact r_meetk ((List.length r39 : Int) == 1) () h rfl rfl
                    · rw [hh] at h ⊢
                      rw [if_neg (by decide)] at h
                      refine r_pure tabOk 5 [85] (E' := [(85, .one .bool false)]) rfl ?_
                      refine r_nil ?_
                      refine r_less [85] rfl ?_
                      refine r_then ?_
                      exact r_meetk false () h rfl rfl
                  · intro o38 _ h
                    rw [← hk37] at h
                    try dsimp only at h
                    refine r_pure tabOk 1 [0] (E' := [(0, .one .bool o38)]) rfl ?_
                    refine r_nil ?_
                    refine r_then ?_
                    refine r_ret ?_
                    obtain rfl := Option.some.inj h
                    exact r_ret1 rfl (.tmp rfl) (fun _ _ g => g) (fun _ _ _ => List.nil_sublist _)

theorem escrowlaw19_slot_ok (a0 : Int) (r : List Int) (h : escrowlaw19_slot a0 = some r) : Pure Try.prog 8 [.one (.int .i64) a0] (.one .str r) := by
  unfold escrowlaw19_slot at h
  refine enter Try.func8 rfl 44 rfl rfl fun F => ?_
  refine r_seq ?_
  refine r_region ?_
  refine r_pure tabOk 1 [0] (E' := [(0, .one (.int .i64) a0)]) rfl ?_
  refine r_nil ?_
  refine r_then ?_
  refine r_seq ?_
  refine r_region ?_
  refine r_pure tabOk 1 [0, 3] (E' := [(0, .one (.int .i64) a0), (3, .one (.raw (.slice none 0 0)) (.slice none 0 0))]) rfl ?_
  refine r_nilown (.slice none 0 0) rfl 5 (.int .u8) ?_
  refine r_nil ?_
  refine r_then ?_
  obtain ⟨k1, hk1, h⟩ := bnd_ex h
  refine r_joink (γ := Value) (fun (o2 : List (Int)) g3 => [(3, .one (.raw (.slice none 0 0)) g3)]) (fun (o2 : List (Int)) g3 => [Res.own g3 5 (.int .u8) o2]) k1 r ?_ ?_
  · refine r_seq ?_
    refine r_region ?_
    refine r_pure tabOk 1 [0, 3, 4] (E' := [(0, .one (.int .i64) a0), (3, .one (.raw (.slice none 0 0)) (.slice none 0 0)), (4, .one (.int .i64) 7)]) rfl ?_
    refine r_nil ?_
    refine r_then ?_
    refine r_block ?_
    refine r_less [0, 3, 4] rfl ?_
    refine r_loopg (γ := Value) (fun (s21 : Int × List (Int)) g22 => [(0, .one (.int .i64) a0), (3, .one (.raw (.slice none 0 0)) g22), (4, .one (.int .i64) s21.1)]) (fun (s21 : Int × List (Int)) g22 => [Res.own g22 5 (.int .u8) s21.2]) (escrowlaw19_slot_l1 a0 k1) (7, []) (.slice none 0 0) h rfl rfl ?_
    clear h
    intro m23 s21 g22 h
    cases m23 with
    | zero => cases h
    | succ m23 =>
    simp only [escrowlaw19_slot_l1] at h
    refine r_seq ?_
    refine r_seq ?_
    refine r_region ?_
    refine r_pure tabOk 2 [0, 3, 4, 7] (E' := [(0, .one (.int .i64) a0), (3, .one (.raw (.slice none 0 0)) g22), (4, .one (.int .i64) s21.1), (7, .one .bool (decide (s21.1 ≥ 0)))]) rfl ?_
    refine r_nil ?_
    refine r_then ?_
    refine r_if (b := (decide (s21.1 ≥ 0))) rfl (fun hc => ?_) (fun hc => ?_)
    · rw [if_pos hc] at h
      refine r_skip ?_
      refine r_then ?_
      refine r_seq ?_
      refine r_block ?_
      refine r_region ?_
      refine r_pure tabOk 7 [0, 4, 10, 16] (E' := [(0, .one (.int .i64) a0), (4, .one (.int .i64) s21.1), (10, .one (.raw (.slice none 0 0)) g22), (16, .one (.int .u8) (IntKind.wrap .u8 (ishr .i64 a0 (IntKind.wrap .u64 (8 * (IntKind.wrap .u64 s21.1))))))]) rfl ?_
      refine r_lits (B := 1) tabOk rfl el5 rfl rfl rfl (.cons rfl .nil) rfl fun v24 => ?_
      obtain ⟨hc, h⟩ := ite_ex h
      refine r_append (B := 1) tabOk 1 rfl rfl (src_own 0 rfl rfl) rfl el5 rfl rfl hc rfl fun v25 => ?_
      refine r_lose (L' := [Res.own v25 5 (.int .u8) (s21.2 ++ [(IntKind.wrap .u8 (ishr .i64 a0 (IntKind.wrap .u64 (8 * (IntKind.wrap .u64 s21.1)))))])]) (.cons _ (.cons_cons _ .slnil)) ?_
      refine r_pure tabOk 1 [0, 3, 4] (E' := [(0, .one (.int .i64) a0), (3, .one (.raw (.slice none 0 0)) v25), (4, .one (.int .i64) s21.1)]) rfl ?_
      refine r_nil ?_
      refine r_inblock ?_
      refine r_then ?_
      refine r_region ?_
      refine r_pure tabOk 3 [0, 3, 4] (E' := [(0, .one (.int .i64) a0), (3, .one (.raw (.slice none 0 0)) v25), (4, .one (.int .i64) (IntKind.wrap .i64 (s21.1 - 1)))]) rfl ?_
      obtain ⟨i26, hi26, h⟩ := bnd_ex h
      rw [hi26]
      refine r_nil ?_
      refine r_then ?_
      refine r_less [0, 3, 4] rfl ?_
      exact r_backg (i26, (s21.2 ++ [(IntKind.wrap .u8 (ishr .i64 a0 (IntKind.wrap .u64 (8 * (IntKind.wrap .u64 s21.1)))))])) v25 (Nat.lt_succ_self _) h rfl rfl
    · rw [if_neg (ne_true_of_eq_false hc)] at h
      refine r_exit ?_
      refine e_then ?_
      refine e_then ?_
      refine e_eq ?_
      refine r_then ?_
      refine r_less [3] rfl ?_
      exact r_meetk s21.2 g22 h rfl rfl
  · intro o2 g3 h
    rw [← hk1] at h
    try dsimp only at h
    refine r_seq ?_
    refine r_region ?_
    refine r_pure tabOk 1 [3, 19] (E' := [(3, .one (.raw (.slice none 0 0)) g3), (19, .one (.raw (.slice none 0 0)) g3)]) rfl ?_
    refine y (y_text tabOk 0 rfl rfl rfl rfl rfl) rfl ?_
    obtain ⟨r4, hr4, h⟩ := bind_ex h
    refine r_calls (crc_Sum_ok o2 _ hr4) (by kernel_rfl) rfl rfl ?_
    refine r_pure tabOk 1 [3, 5] (E' := [(3, .one (.raw (.slice none 0 0)) g3), (5, .one (.int .u32) r4)]) rfl ?_
    refine r_nil ?_
    refine r_then ?_
    refine r_seq ?_
    refine r_region ?_
    refine r_pure tabOk 12 [22, 25, 28, 31, 33] (E' := [(22, .one (.raw (.slice none 0 0)) g3), (25, .one (.int .u8) (IntKind.wrap .u8 (ishr .u32 r4 24))), (28, .one (.int .u8) (IntKind.wrap .u8 (ishr .u32 r4 16))), (31, .one (.int .u8) (IntKind.wrap .u8 (ishr .u32 r4 8))), (33, .one (.int .u8) (IntKind.wrap .u8 r4))]) rfl ?_
    refine r_lits (B := 1) tabOk rfl el5 rfl rfl rfl (.cons rfl (.cons rfl (.cons rfl (.cons rfl .nil)))) rfl fun v5 => ?_
    obtain ⟨hc, h⟩ := ite_ex h
    refine r_append (B := 1) tabOk 1 rfl rfl (src_own 0 rfl rfl) rfl el5 rfl rfl hc rfl fun v6 => ?_
    refine r_lose (L' := [Res.own v6 5 (.int .u8) (o2 ++ [(IntKind.wrap .u8 (ishr .u32 r4 24)), (IntKind.wrap .u8 (ishr .u32 r4 16)), (IntKind.wrap .u8 (ishr .u32 r4 8)), (IntKind.wrap .u8 r4)])]) (.cons _ (.cons_cons _ .slnil)) ?_
    refine r_pure tabOk 1 [3] (E' := [(3, .one (.raw (.slice none 0 0)) v6)]) rfl ?_
    refine r_nil ?_
    refine r_then ?_
    obtain ⟨k7, hk7, h⟩ := bnd_ex h
    refine r_joink (γ := Value) (fun (o8 : List (Int)) g9 => [(3, .one (.raw (.slice none 0 0)) g9)]) (fun (o8 : List (Int)) g9 => [Res.own g9 5 (.int .u8) o8]) k7 r ?_ ?_
    · refine r_block ?_
      refine r_less [3] rfl ?_
      refine r_loopg (γ := Value) (fun (s13 : List (Int)) g14 => [(3, .one (.raw (.slice none 0 0)) g14)]) (fun (s13 : List (Int)) g14 => [Res.own g14 5 (.int .u8) s13]) (escrowlaw19_slot_l0 k7) (o2 ++ [(IntKind.wrap .u8 (ishr .u32 r4 24)), (IntKind.wrap .u8 (ishr .u32 r4 16)), (IntKind.wrap .u8 (ishr .u32 r4 8)), (IntKind.wrap .u8 r4)]) v6 h rfl rfl ?_
      clear h
      intro m15 s13 g14 h
      cases m15 with
      | zero => cases h
      | succ m15 =>
      simp only [escrowlaw19_slot_l0] at h
      refine r_seq ?_
      refine r_seq ?_
      refine r_region ?_
      refine r_pure tabOk 1 [3, 36] (E' := [(3, .one (.raw (.slice none 0 0)) g14), (36, .one (.raw (.slice none 0 0)) g14)]) rfl ?_
      refine y (y_lenown tabOk 0 rfl rfl rfl) rfl ?_
      refine r_pure tabOk 1 [3, 38] (E' := [(3, .one (.raw (.slice none 0 0)) g14), (38, .one .bool (decide ((List.length s13 : Int) < 64)))]) rfl ?_
      refine r_nil ?_
      refine r_then ?_
      refine r_if (b := (decide ((List.length s13 : Int) < 64))) rfl (fun hc => ?_) (fun hc => ?_)
      · rw [if_pos hc] at h
        refine r_skip ?_
        refine r_then ?_
        refine r_block ?_
        refine r_region ?_
        refine r_pure tabOk 1 [39] (E' := [(39, .one (.raw (.slice none 0 0)) g14)]) rfl ?_
        refine r_lits (B := 1) tabOk rfl el5 rfl rfl rfl (.cons rfl .nil) rfl fun v16 => ?_
        obtain ⟨hc, h⟩ := ite_ex h
        refine r_append (B := 1) tabOk 1 rfl rfl (src_own 0 rfl rfl) rfl el5 rfl rfl hc rfl fun v17 => ?_
        refine r_lose (L' := [Res.own v17 5 (.int .u8) (s13 ++ [0])]) (.cons _ (.cons_cons _ .slnil)) ?_
        refine r_pure tabOk 1 [3] (E' := [(3, .one (.raw (.slice none 0 0)) v17)]) rfl ?_
        refine r_nil ?_
        refine r_inblock ?_
        refine r_then ?_
        refine r_less [3] rfl ?_
        exact r_backg (s13 ++ [0]) v17 (Nat.lt_succ_self _) h rfl rfl
      · rw [if_neg (ne_true_of_eq_false hc)] at h
        refine r_exit ?_
        refine e_then ?_
        refine e_then ?_
        refine e_eq ?_
        refine r_then ?_
        refine r_less [3] rfl ?_
        exact r_meetk s13 g14 h rfl rfl
    · intro o8 g9 h
      rw [← hk7] at h
      try dsimp only at h
      refine r_seq ?_
      refine r_region ?_
      refine r_pure tabOk 1 [42] (E' := [(42, .one (.raw (.slice none 0 0)) g9)]) rfl ?_
      refine y (y_text tabOk 0 rfl rfl rfl rfl rfl) rfl ?_
      refine r_pure tabOk 1 [2] (E' := [(2, .one .str o8)]) rfl ?_
      refine r_nil ?_
      refine r_then ?_
      refine r_ret ?_
      obtain rfl := Option.some.inj h
      exact r_ret1 rfl (.tmp rfl) (fun _ _ g => g) (fun _ _ _ => List.nil_sublist _)

theorem keysOk : KeysOk Try.prog 34 (Try.laysKeys_ren.f 10) (Try.laysKeys_ren.t 23) := keys_of Try.laysKeys

theorem sortedOk : SortedOk Try.prog 33 (Try.laysKeys_ren.f 10) (Try.laysKeys_ren.t 23) dI.int := sorted_of Try.laysKeys Try.laysSorted Try.laysSortI rfl rfl (fun _ _ => run_callFunc (by kernel_rfl)) (fun _ _ => run_callFunc (by kernel_rfl))

theorem disk_Disk_Dirty_ok (p0 : Value) (a0 : DiskS) (a1 : List Int) (r : List (Int)) (h : disk_Disk_Dirty a0 a1 = some r) : Fn Try.prog 12 [.one (.raw (.pointer none)) p0, .one .str a1] [Res.disk Try.prog dI p0 a0] (fun v => .one (.raw (.slice none 0 0)) v) (fun v => [Res.disk Try.prog dI p0 a0, Res.own v 3 (.int .i64) r]) := by
  unfold disk_Disk_Dirty at h
  refine enter Try.func12 rfl 21 rfl rfl fun F => ?_
  refine r_undisk fun b2 mv1 hp => ?_
  subst hp
  refine r_seq ?_
  refine r_region ?_
  refine r_pure tabOk 1 [0, 1] (E' := [(0, ptr b2 0), (1, .one .str a1)]) rfl ?_
  refine r_nil ?_
  refine r_then ?_
  refine r_seq ?_
  refine r_region ?_
  refine r_pure tabOk 2 [8, 9] (E' := [(8, ptr b2 0), (9, .one .str a1)]) rfl ?_
  obtain ⟨r3, hr3, h⟩ := bind_ex h
  refine r_call (Lo := []) (disk_Disk_found_ok b2 mv1 a0 a1 _ hr3) (by kernel_rfl) (List.Perm.refl _) rfl rfl fun v4 => ?_
  refine r_pure tabOk 5 [5, 6] (E' := [(5, .one (.raw (.pointer none)) (tupv v4 0)), (6, .one (.int .i64) r3)]) rfl ?_
  refine r_nil ?_
  refine r_then ?_
  refine r_seq ?_
  refine r_seq ?_
  refine r_region ?_
  refine r_pure tabOk 2 [5, 14] (E' := [(5, .one (.raw (.pointer none)) (tupv v4 0)), (14, .one .bool (r3 != 0))]) rfl ?_
  refine r_nil ?_
  refine r_then ?_
  refine r_if (b := (r3 != 0)) rfl (fun hc => ?_) (fun hc => ?_)
  · rw [if_pos hc] at h
    refine r_seq ?_
    refine r_region ?_
    refine r_pure tabOk 1 [4] (E' := [(4, .one (.raw (.slice none 0 0)) (.slice none 0 0))]) rfl ?_
    refine r_nil ?_
    refine r_then ?_
    refine r_ret ?_
    refine t_then ?_
    refine r_imp_at (R' := Res.dfiles Try.prog dI mv1 a0.2.1) 1 rfl dfound_dfiles ?_
    refine r_disk (P := Try.prog) (I := dI) (D := a0) ?_
    refine r_nilown (.slice none 0 0) rfl 3 (.int .i64) ?_
    obtain rfl := Option.some.inj h
    refine r_perm (L' := [Res.disk Try.prog dI (.pointer (some ⟨b2, 0, none⟩)) a0, Res.own (.slice none 0 0) 3 (.int .i64) []]) ((List.perm_middle (a := Res.disk Try.prog dI (.pointer (some ⟨b2, 0, none⟩)) a0) (l₁ := [Res.own (.slice none 0 0) 3 (.int .i64) []]) (l₂ := [])).trans (.cons _ (List.Perm.refl _))) ?_
    exact r_ret1 rfl (.tmp rfl) (fun _ _ g => holds_raw.2 ⟨rfl, by rw [(holds_raw.1 g).1]; exact (holds_raw.1 g).2⟩) (fun _ _ g => by obtain ⟨rfl, _⟩ := holds_raw.1 g; exact List.Sublist.refl _)
  · rw [if_neg (ne_true_of_eq_false hc)] at h
    refine r_skip ?_
    refine r_then ?_
    refine r_seq ?_
    obtain ⟨hc, h⟩ := ite_ex h
    refine r_imp_at (R' := Res.dat Try.prog dI mv1 a0.2.1 a1 (tupv v4 0)) 1 rfl (dfound_dat hc) ?_
    obtain ⟨f5, hf5, h⟩ := bind_ex h
    refine r_perm (L' := [Res.dat Try.prog dI mv1 a0.2.1 a1 (tupv v4 0), Res.var b2 64 DT (a0.1, mv1, a0.2.2.1, a0.2.2.2.1, a0.2.2.2.2.1, a0.2.2.2.2.2.1, a0.2.2.2.2.2.2, ())]) ((List.perm_middle (a := Res.dat Try.prog dI mv1 a0.2.1 a1 (tupv v4 0)) (l₁ := [Res.var b2 64 DT (a0.1, mv1, a0.2.2.1, a0.2.2.2.1, a0.2.2.2.2.1, a0.2.2.2.2.2.1, a0.2.2.2.2.2.2, ())]) (l₂ := [])).trans (.cons _ (List.Perm.refl _))) ?_
    refine r_dfocus kstr hf5 fun fb6 sv7 tv8 dv9 hq => ?_
    rw [hq]
    clear hq
    refine r_region ?_
    refine r_pure tabOk 3 [17] (E' := [(17, ptr fb6 2)]) rfl ?_
    refine y (y_load 0 ((.snd (.snd (.fst .here)))) rfl rfl (by first | rfl | (simp only [Pth.off, T.size]; omega)) (ok_snd (ok_snd (ok_fst ok_here))) ty80) rfl ?_
    obtain ⟨hc, h⟩ := ite_ex h
    refine r_sortedkeys keysOk sortedOk (by kernel_rfl) (by kernel_rfl) kint 3 rfl rfl hc rfl rfl rfl fun v10 => ?_
    refine r_pure tabOk 1 [4] (E' := [(4, .one (.raw (.slice none 0 0)) v10)]) rfl ?_
    refine r_nil ?_
    refine r_then ?_
    refine r_ret ?_
    refine r_perm (L' := [Res.var fb6 82 FT (sv7, tv8, dv9, ()), Res.own sv7 5 (.int .u8) f5.1, Res.own tv8 5 (.int .u8) f5.2.1, Res.dirty Try.prog dI dv9 f5.2.2, Res.dhole Try.prog dI mv1 a0.2.1 a1 (.pointer (some ⟨fb6, 0, none⟩)), Res.own v10 3 (.int .i64) f5.2.2, Res.var b2 64 DT (a0.1, mv1, a0.2.2.1, a0.2.2.2.1, a0.2.2.2.2.1, a0.2.2.2.2.2.1, a0.2.2.2.2.2.2, ())]) ((List.perm_middle (a := Res.var fb6 82 FT (sv7, tv8, dv9, ())) (l₁ := [Res.own v10 3 (.int .i64) f5.2.2]) (l₂ := [Res.own sv7 5 (.int .u8) f5.1, Res.own tv8 5 (.int .u8) f5.2.1, Res.dirty Try.prog dI dv9 f5.2.2, Res.dhole Try.prog dI mv1 a0.2.1 a1 (.pointer (some ⟨fb6, 0, none⟩)), Res.var b2 64 DT (a0.1, mv1, a0.2.2.1, a0.2.2.2.1, a0.2.2.2.2.1, a0.2.2.2.2.2.1, a0.2.2.2.2.2.2, ())])).trans (.cons _ ((List.perm_middle (a := Res.own sv7 5 (.int .u8) f5.1) (l₁ := [Res.own v10 3 (.int .i64) f5.2.2]) (l₂ := [Res.own tv8 5 (.int .u8) f5.2.1, Res.dirty Try.prog dI dv9 f5.2.2, Res.dhole Try.prog dI mv1 a0.2.1 a1 (.pointer (some ⟨fb6, 0, none⟩)), Res.var b2 64 DT (a0.1, mv1, a0.2.2.1, a0.2.2.2.1, a0.2.2.2.2.1, a0.2.2.2.2.2.1, a0.2.2.2.2.2.2, ())])).trans (.cons _ ((List.perm_middle (a := Res.own tv8 5 (.int .u8) f5.2.1) (l₁ := [Res.own v10 3 (.int .i64) f5.2.2]) (l₂ := [Res.dirty Try.prog dI dv9 f5.2.2, Res.dhole Try.prog dI mv1 a0.2.1 a1 (.pointer (some ⟨fb6, 0, none⟩)), Res.var b2 64 DT (a0.1, mv1, a0.2.2.1, a0.2.2.2.1, a0.2.2.2.2.1, a0.2.2.2.2.2.1, a0.2.2.2.2.2.2, ())])).trans (.cons _ ((List.perm_middle (a := Res.dirty Try.prog dI dv9 f5.2.2) (l₁ := [Res.own v10 3 (.int .i64) f5.2.2]) (l₂ := [Res.dhole Try.prog dI mv1 a0.2.1 a1 (.pointer (some ⟨fb6, 0, none⟩)), Res.var b2 64 DT (a0.1, mv1, a0.2.2.1, a0.2.2.2.1, a0.2.2.2.2.1, a0.2.2.2.2.2.1, a0.2.2.2.2.2.2, ())])).trans (.cons _ ((List.perm_middle (a := Res.dhole Try.prog dI mv1 a0.2.1 a1 (.pointer (some ⟨fb6, 0, none⟩))) (l₁ := [Res.own v10 3 (.int .i64) f5.2.2]) (l₂ := [Res.var b2 64 DT (a0.1, mv1, a0.2.2.1, a0.2.2.2.1, a0.2.2.2.2.1, a0.2.2.2.2.2.1, a0.2.2.2.2.2.2, ())])).trans (.cons _ (List.Perm.refl _))))))))))) ?_
    refine r_dunfocus_same (P := Try.prog) (I := dI) kstr hf5 ?_
    refine r_imp_at (R' := Res.dfiles Try.prog dI mv1 a0.2.1) 0 rfl dat_dfiles ?_
    refine r_perm (L' := [Res.var b2 64 DT (a0.1, mv1, a0.2.2.1, a0.2.2.2.1, a0.2.2.2.2.1, a0.2.2.2.2.2.1, a0.2.2.2.2.2.2, ()), Res.dfiles Try.prog dI mv1 a0.2.1, Res.own v10 3 (.int .i64) f5.2.2]) ((List.perm_middle (a := Res.var b2 64 DT (a0.1, mv1, a0.2.2.1, a0.2.2.2.1, a0.2.2.2.2.1, a0.2.2.2.2.2.1, a0.2.2.2.2.2.2, ())) (l₁ := [Res.dfiles Try.prog dI mv1 a0.2.1, Res.own v10 3 (.int .i64) f5.2.2]) (l₂ := [])).trans (.cons _ (List.Perm.refl _))) ?_
    refine r_disk (P := Try.prog) (I := dI) (D := a0) ?_
    obtain rfl := Option.some.inj h
    refine r_perm (L' := [Res.disk Try.prog dI (.pointer (some ⟨b2, 0, none⟩)) a0, Res.own v10 3 (.int .i64) f5.2.2]) (List.Perm.refl _) ?_
    exact r_ret1 rfl (.tmp rfl) (fun _ _ g => holds_raw.2 ⟨rfl, by rw [(holds_raw.1 g).1]; exact (holds_raw.1 g).2⟩) (fun _ _ g => by obtain ⟨rfl, _⟩ := holds_raw.1 g; exact List.Sublist.refl _)

theorem escrowlaw19_MarkTurns_ok (a0 : List (Int)) (a1 : Int) (r : Bool) (h : escrowlaw19_MarkTurns a0 a1 = some r) : Pure Try.prog 3 [.one (.sl 33 (.int .u16)) a0, .one (.int .i64) a1] (.one .bool r) := by
  unfold escrowlaw19_MarkTurns at h
  refine enter Try.func3 rfl 127 rfl rfl fun F => ?_
  refine r_seq ?_
  refine r_region ?_
  refine r_pure tabOk 1 [0, 1] (E' := [(0, .one (.sl 33 (.int .u16)) a0), (1, .one (.int .i64) a1)]) rfl ?_
  refine r_nil ?_
  refine r_then ?_
  refine r_seq ?_
  refine r_seq ?_
  refine r_region ?_
  obtain ⟨r1, hr1, h⟩ := bind_ex h
  refine r_calls (escrowlaw19_head_ok  _ hr1) (by kernel_rfl) rfl rfl ?_
  refine r_pure tabOk 1 [0, 1, 17] (E' := [(0, .one (.sl 33 (.int .u16)) a0), (1, .one (.int .i64) a1), (17, .one .bool (!r1))]) rfl ?_
  refine r_nil ?_
  refine r_then ?_
  refine r_if (b := (!r1)) rfl (fun hc => ?_) (fun hc => ?_)
  · rw [if_pos hc] at h
    refine r_seq ?_
    refine r_region ?_
    refine r_pure tabOk 1 [4] (E' := [(4, .one .bool false)]) rfl ?_
    refine r_nil ?_
    refine r_then ?_
    refine r_ret ?_
    refine t_then ?_
    obtain rfl := Option.some.inj h
    exact r_ret1 rfl (.tmp rfl) (fun _ _ g => g) (fun _ _ _ => List.nil_sublist _)
  · rw [if_neg (ne_true_of_eq_false hc)] at h
    refine r_skip ?_
    refine r_then ?_
    refine r_seq ?_
    refine r_region ?_
    obtain ⟨r2, hr2, h⟩ := bind_ex h
    refine r_call (Lo := []) (disk_New_ok 128 _ hr2) (by kernel_rfl) (List.Perm.refl _) rfl rfl fun v3 => ?_
    refine r_pure tabOk 5 [0, 1, 5, 6] (E' := [(0, .one (.sl 33 (.int .u16)) a0), (1, .one (.int .i64) a1), (5, .one (.raw (.pointer none)) (tupv v3 0)), (6, .one (.int .i64) r2.1)]) rfl ?_
    refine r_nil ?_
    refine r_then ?_
    refine r_seq ?_
    refine r_seq ?_
    refine r_region ?_
    refine r_pure tabOk 1 [0, 1, 5, 6, 22] (E' := [(0, .one (.sl 33 (.int .u16)) a0), (1, .one (.int .i64) a1), (5, .one (.raw (.pointer none)) (tupv v3 0)), (6, .one (.int .i64) r2.1), (22, .one (.raw (.pointer none)) (tupv v3 0))]) rfl ?_
    refine y (y_dnil 0 rfl rfl Try.underlying24) rfl ?_
    refine r_pure tabOk 1 [0, 1, 5, 6, 24] (E' := [(0, .one (.sl 33 (.int .u16)) a0), (1, .one (.int .i64) a1), (5, .one (.raw (.pointer none)) (tupv v3 0)), (6, .one (.int .i64) r2.1), (24, .one .bool (r2.1 != 0))]) rfl ?_
    obtain ⟨b4, hbb4, h⟩ := bnd_ex h
    rw [hbb4]
    refine r_lsplit (γ := Unit) 3 (fun _ => [(0, .one (.sl 33 (.int .u16)) a0), (1, .one (.int .i64) a1), (5, .one (.raw (.pointer none)) (tupv v3 0)), (27, .one .bool (b4 || (r2.1 != 0)))]) (fun _ => [Res.diskif Try.prog dI (tupv v3 0) r2.2 r2.1]) ?_ (fun _ => ?_)
    · clear h
      cases b4 with
      | true =>
      refine r_pure tabOk 3 [0, 1, 5, 27] (E' := [(0, .one (.sl 33 (.int .u16)) a0), (1, .one (.int .i64) a1), (5, .one (.raw (.pointer none)) (tupv v3 0)), (27, .one .bool true)]) rfl ?_
      refine r_nil ?_
      refine r_then ?_
      exact r_meetg () rfl rfl
      | false =>
      refine r_pure tabOk 3 [0, 1, 5, 27] (E' := [(0, .one (.sl 33 (.int .u16)) a0), (1, .one (.int .i64) a1), (5, .one (.raw (.pointer none)) (tupv v3 0)), (27, .one .bool (r2.1 != 0))]) rfl ?_
      refine r_nil ?_
      refine r_then ?_
      exact r_meetg () rfl rfl
    refine r_nil ?_
    refine r_then ?_
    refine r_if (b := (b4 || (r2.1 != 0))) rfl (fun hc => ?_) (fun hc => ?_)
    · rw [if_pos hc] at h
      refine r_seq ?_
      refine r_region ?_
      refine r_pure tabOk 1 [4] (E' := [(4, .one .bool false)]) rfl ?_
      refine r_nil ?_
      refine r_then ?_
      refine r_ret ?_
      refine t_then ?_
      obtain rfl := Option.some.inj h
      exact r_ret1 rfl (.tmp rfl) (fun _ _ g => g) (fun _ _ _ => List.nil_sublist _)
    · rw [if_neg (ne_true_of_eq_false hc)] at h
      refine r_skip ?_
      refine r_then ?_
      refine r_seq ?_
      refine r_region ?_
      refine r_pure tabOk 1 [0, 1, 5, 29] (E' := [(0, .one (.sl 33 (.int .u16)) a0), (1, .one (.int .i64) a1), (5, .one (.raw (.pointer none)) (tupv v3 0)), (29, .one (.raw (.pointer none)) (tupv v3 0))]) rfl ?_
      obtain ⟨he5, h⟩ := ite_ex h
      refine r_imp_at (R' := Res.disk Try.prog dI (tupv v3 0) r2.2) 0 rfl (diskif_disk he5) ?_
      obtain ⟨r6, hr6, h⟩ := bind_ex h
      refine r_call (Lo := []) (mark_Open_ok (tupv v3 0) r2.2 [109] _ hr6) (by kernel_rfl) (List.Perm.refl _) rfl rfl fun v7 => ?_
      refine r_pure tabOk 5 [0, 1, 5, 6, 7] (E' := [(0, .one (.sl 33 (.int .u16)) a0), (1, .one (.int .i64) a1), (5, .one (.raw (.pointer none)) (tupv v3 0)), (6, .one (.int .i64) r6.2.1), (7, .one (.raw (.pointer none)) (tupv v7 0))]) rfl ?_
      refine r_nil ?_
      refine r_then ?_
      refine r_seq ?_
      refine r_seq ?_
      refine r_region ?_
      refine r_pure tabOk 1 [0, 1, 5, 6, 7, 33] (E' := [(0, .one (.sl 33 (.int .u16)) a0), (1, .one (.int .i64) a1), (5, .one (.raw (.pointer none)) (tupv v3 0)), (6, .one (.int .i64) r6.2.1), (7, .one (.raw (.pointer none)) (tupv v7 0)), (33, .one (.raw (.pointer none)) (tupv v7 0))]) rfl ?_
      refine y (y_cnil 1 rfl rfl Try.underlying28) rfl ?_
      refine r_pure tabOk 1 [0, 1, 5, 6, 7, 35] (E' := [(0, .one (.sl 33 (.int .u16)) a0), (1, .one (.int .i64) a1), (5, .one (.raw (.pointer none)) (tupv v3 0)), (6, .one (.int .i64) r6.2.1), (7, .one (.raw (.pointer none)) (tupv v7 0)), (35, .one .bool (r6.1.1 != 0))]) rfl ?_
      obtain ⟨b8, hbb8, h⟩ := bnd_ex h
      rw [hbb8]
      refine r_lsplit (γ := Unit) 3 (fun _ => [(0, .one (.sl 33 (.int .u16)) a0), (1, .one (.int .i64) a1), (5, .one (.raw (.pointer none)) (tupv v3 0)), (7, .one (.raw (.pointer none)) (tupv v7 0)), (38, .one .bool (b8 || (r6.2.1 != 0)))]) (fun _ => [Res.disk Try.prog dI (tupv v3 0) r6.2.2, Res.clsif CMark (tupv v7 0) ((tupv v3 0), r6.1.2.2.1, r6.1.2.2.2.1, r6.1.2.2.2.2.1, r6.1.2.2.2.2.2) r6.1.1]) ?_ (fun _ => ?_)
      · clear h
        cases b8 with
        | true =>
        refine r_pure tabOk 3 [0, 1, 5, 7, 38] (E' := [(0, .one (.sl 33 (.int .u16)) a0), (1, .one (.int .i64) a1), (5, .one (.raw (.pointer none)) (tupv v3 0)), (7, .one (.raw (.pointer none)) (tupv v7 0)), (38, .one .bool true)]) rfl ?_
        refine r_nil ?_
        refine r_then ?_
        exact r_meetg () rfl rfl
        | false =>
        refine r_pure tabOk 3 [0, 1, 5, 7, 38] (E' := [(0, .one (.sl 33 (.int .u16)) a0), (1, .one (.int .i64) a1), (5, .one (.raw (.pointer none)) (tupv v3 0)), (7, .one (.raw (.pointer none)) (tupv v7 0)), (38, .one .bool (r6.2.1 != 0))]) rfl ?_
        refine r_nil ?_
        refine r_then ?_
        exact r_meetg () rfl rfl
      refine r_nil ?_
      refine r_then ?_
      refine r_if (b := (b8 || (r6.2.1 != 0))) rfl (fun hc => ?_) (fun hc => ?_)
      · rw [if_pos hc] at h
        refine r_seq ?_
        refine r_region ?_
        refine r_pure tabOk 1 [4] (E' := [(4, .one .bool false)]) rfl ?_
        refine r_nil ?_
        refine r_then ?_
        refine r_ret ?_
        refine t_then ?_
        obtain rfl := Option.some.inj h
        exact r_ret1 rfl (.tmp rfl) (fun _ _ g => g) (fun _ _ _ => List.nil_sublist _)
      · rw [if_neg (ne_true_of_eq_false hc)] at h
        refine r_skip ?_
        refine r_then ?_
        refine r_seq ?_
        refine r_region ?_
        obtain ⟨r9, hr9, h⟩ := bind_ex h
        refine r_calls (escrowlaw19_slot_ok (-1) _ hr9) (by kernel_rfl) rfl rfl ?_
        obtain ⟨r10, hr10, h⟩ := bind_ex h
        refine r_calls (escrowlaw19_slot_ok (-1) _ hr10) (by kernel_rfl) rfl rfl ?_
        refine y (y_build rfl zf32 rfl rfl (.cons (.elem 0 .here) rfl rfl (ok_elem (by first | omega | (simp only [List.length_set] at hc ⊢; omega)) ok_here) (.cons (.elem 1 .here) rfl rfl (ok_elem (by first | omega | (simp only [List.length_set] at hc ⊢; omega)) ok_here) .nil))) rfl ?_
        refine r_alloc (t := (.arr 2 .str)) rfl zf32 rfl fun b11 => ?_
        refine r_store 0 .here rfl rfl rfl (by first | rfl | (simp only [Pth.off, T.size]; omega)) ok_here ty32 ?_
        refine r_nil ?_
        refine r_then ?_
        refine r_seq ?_
        refine r_region ?_
        refine r_pure tabOk 1 [0, 1, 5, 7, 8, 9] (E' := [(0, .one (.sl 33 (.int .u16)) a0), (1, .one (.int .i64) a1), (5, .one (.raw (.pointer none)) (tupv v3 0)), (7, .one (.raw (.pointer none)) (tupv v7 0)), (8, ptr b11 0), (9, .one (.int .i64) (-1))]) rfl ?_
        refine r_nil ?_
        refine r_then ?_
        refine r_seq ?_
        refine r_region ?_
        refine r_pure tabOk 1 [0, 1, 5, 7, 8, 9, 10] (E' := [(0, .one (.sl 33 (.int .u16)) a0), (1, .one (.int .i64) a1), (5, .one (.raw (.pointer none)) (tupv v3 0)), (7, .one (.raw (.pointer none)) (tupv v7 0)), (8, ptr b11 0), (9, .one (.int .i64) (-1)), (10, .one (.int .i64) 1)]) rfl ?_
        refine r_nil ?_
        refine r_then ?_
        obtain ⟨k12, hk12, h⟩ := bnd_ex h
        refine r_joink (γ := Unit) (fun (o13 : Int × List (List Int) × DiskS × (Unit × List Int × Int × Int × Unit)) _ => [(5, .one (.raw (.pointer none)) (tupv v3 0)), (9, .one (.int .i64) o13.1)]) (fun (o13 : Int × List (List Int) × DiskS × (Unit × List Int × Int × Int × Unit)) _ => [Res.var b11 32 (.arr 2 .str) o13.2.1, Res.disk Try.prog dI (tupv v3 0) o13.2.2.1, Res.clsif CMark (tupv v7 0) ((tupv v3 0), o13.2.2.2.2.1, o13.2.2.2.2.2.1, o13.2.2.2.2.2.2.1, o13.2.2.2.2.2.2.2) r6.1.1]) k12 r ?_ ?_
        · refine r_seq ?_
          refine r_region ?_
          refine r_pure tabOk 1 [0, 1, 5, 7, 8, 9, 10, 11] (E' := [(0, .one (.sl 33 (.int .u16)) a0), (1, .one (.int .i64) a1), (5, .one (.raw (.pointer none)) (tupv v3 0)), (7, .one (.raw (.pointer none)) (tupv v7 0)), (8, ptr b11 0), (9, .one (.int .i64) (-1)), (10, .one (.int .i64) 1), (11, .one (.int .i64) 0)]) rfl ?_
          refine r_nil ?_
          refine r_then ?_
          refine r_block ?_
          obtain ⟨he23, h⟩ := ite_ex h
          refine r_imp_at (R' := Res.cls CMark (tupv v7 0) ((tupv v3 0), r6.1.2.2.1, r6.1.2.2.2.1, r6.1.2.2.2.2.1, r6.1.2.2.2.2.2)) 2 rfl (clsif_cls he23) ?_
          refine r_less [0, 1, 5, 7, 8, 9, 10, 11] rfl ?_
          refine r_loopg (γ := Unit) (fun (s26 : Int × Int × Int × DiskS × (Unit × List Int × Int × Int × Unit) × List (List Int)) _ => [(0, .one (.sl 33 (.int .u16)) a0), (1, .one (.int .i64) a1), (5, .one (.raw (.pointer none)) (tupv v3 0)), (7, .one (.raw (.pointer none)) (tupv v7 0)), (8, ptr b11 0), (9, .one (.int .i64) s26.1), (10, .one (.int .i64) s26.2.1), (11, .one (.int .i64) s26.2.2.1)]) (fun (s26 : Int × Int × Int × DiskS × (Unit × List Int × Int × Int × Unit) × List (List Int)) _ => [Res.var b11 32 (.arr 2 .str) s26.2.2.2.2.2, Res.disk Try.prog dI (tupv v3 0) s26.2.2.2.1, Res.cls CMark (tupv v7 0) ((tupv v3 0), s26.2.2.2.2.1.2.1, s26.2.2.2.2.1.2.2.1, s26.2.2.2.2.1.2.2.2.1, s26.2.2.2.2.1.2.2.2.2)]) (escrowlaw19_MarkTurns_l0 a0 a1 k12) ((-1), 1, 0, r6.2.2, r6.1.2, [r9, r10]) () h rfl rfl ?_
          clear h
          intro m27 s26 gg h
          cases m27 with
          | zero => cases h
          | succ m27 =>
          simp only [escrowlaw19_MarkTurns_l0] at h
          refine r_seq ?_
          refine r_seq ?_
          refine r_region ?_
          refine r_pure tabOk 4 [0, 1, 5, 7, 8, 9, 10, 11, 45] (E' := [(0, .one (.sl 33 (.int .u16)) a0), (1, .one (.int .i64) a1), (5, .one (.raw (.pointer none)) (tupv v3 0)), (7, .one (.raw (.pointer none)) (tupv v7 0)), (8, ptr b11 0), (9, .one (.int .i64) s26.1), (10, .one (.int .i64) s26.2.1), (11, .one (.int .i64) s26.2.2.1), (45, .one .bool (decide (s26.2.2.1 < (List.length a0 : Int))))]) rfl ?_
          refine r_nil ?_
          refine r_then ?_
          refine r_if (b := (decide (s26.2.2.1 < (List.length a0 : Int)))) rfl (fun hc => ?_) (fun hc => ?_)
          · rw [if_pos hc] at h
            refine r_skip ?_
            refine r_then ?_
            refine r_seq ?_
            refine r_block ?_
            refine r_seq ?_
            refine r_region ?_
            refine r_pure tabOk 3 [0, 1, 5, 7, 8, 9, 10, 11, 48, 49, 50] (E' := [(0, .one (.sl 33 (.int .u16)) a0), (1, .one (.int .i64) a1), (5, .one (.raw (.pointer none)) (tupv v3 0)), (7, .one (.raw (.pointer none)) (tupv v7 0)), (8, ptr b11 0), (9, .one (.int .i64) s26.1), (10, .one (.int .i64) s26.2.1), (11, .one (.int .i64) s26.2.2.1), (48, .one (.int .i64) s26.1), (49, .one (.sl 33 (.int .u16)) a0), (50, .one (.int .i64) s26.2.2.1)]) rfl ?_
            obtain ⟨hc, h⟩ := ite_ex h
            refine y (y_iref tabOk rfl rfl hc.1 hc.2 rfl ty33) rfl ?_
            refine y (y_ref rfl ty33) rfl ?_
            refine r_pure tabOk 3 [0, 1, 5, 7, 8, 9, 10, 11, 12] (E' := [(0, .one (.sl 33 (.int .u16)) a0), (1, .one (.int .i64) a1), (5, .one (.raw (.pointer none)) (tupv v3 0)), (7, .one (.raw (.pointer none)) (tupv v7 0)), (8, ptr b11 0), (9, .one (.int .i64) s26.1), (10, .one (.int .i64) s26.2.1), (11, .one (.int .i64) s26.2.2.1), (12, .one (.int .i64) (IntKind.wrap .i64 (s26.1 + (IntKind.wrap .i64 (List.getD a0 (Int.toNat s26.2.2.1) 0)))))]) rfl ?_
            obtain ⟨n28, hn28, h⟩ := bnd_ex h
            rw [hn28]
            refine r_nil ?_
            refine r_then ?_
            refine r_seq ?_
            refine r_seq ?_
            refine r_region ?_
            refine r_pure tabOk 2 [0, 1, 5, 7, 8, 9, 10, 11, 12, 55, 56] (E' := [(0, .one (.sl 33 (.int .u16)) a0), (1, .one (.int .i64) a1), (5, .one (.raw (.pointer none)) (tupv v3 0)), (7, .one (.raw (.pointer none)) (tupv v7 0)), (8, ptr b11 0), (9, .one (.int .i64) s26.1), (10, .one (.int .i64) s26.2.1), (11, .one (.int .i64) s26.2.2.1), (12, .one (.int .i64) n28), (55, .one (.raw (.pointer none)) (tupv v7 0)), (56, .one (.int .i64) n28)]) rfl ?_
            obtain ⟨r29, hr29, h⟩ := bind_ex h
            refine r_call (Lo := [Res.var b11 32 (.arr 2 .str) s26.2.2.2.2.2]) (mark_Mark_Raise_ok (tupv v7 0) (tupv v3 0) s26.2.2.2.2.1 n28 s26.2.2.2.1 _ hr29) (by kernel_rfl) ((List.perm_middle (a := Res.cls CMark (tupv v7 0) ((tupv v3 0), s26.2.2.2.2.1.2.1, s26.2.2.2.2.1.2.2.1, s26.2.2.2.2.1.2.2.2.1, s26.2.2.2.2.1.2.2.2.2)) (l₁ := [Res.var b11 32 (.arr 2 .str) s26.2.2.2.2.2, Res.disk Try.prog dI (tupv v3 0) s26.2.2.2.1]) (l₂ := [])).trans (.cons _ ((List.perm_middle (a := Res.disk Try.prog dI (tupv v3 0) s26.2.2.2.1) (l₁ := [Res.var b11 32 (.arr 2 .str) s26.2.2.2.2.2]) (l₂ := [])).trans (.cons _ (List.Perm.refl _))))) rfl rfl fun _ => ?_
            refine r_pure tabOk 1 [0, 1, 5, 7, 8, 9, 10, 11, 12, 58] (E' := [(0, .one (.sl 33 (.int .u16)) a0), (1, .one (.int .i64) a1), (5, .one (.raw (.pointer none)) (tupv v3 0)), (7, .one (.raw (.pointer none)) (tupv v7 0)), (8, ptr b11 0), (9, .one (.int .i64) s26.1), (10, .one (.int .i64) s26.2.1), (11, .one (.int .i64) s26.2.2.1), (12, .one (.int .i64) n28), (58, .one .bool (r29.1 != 0))]) rfl ?_
            refine r_nil ?_
            refine r_then ?_
            refine r_if (b := (r29.1 != 0)) rfl (fun hc => ?_) (fun hc => ?_)
            · rw [if_pos hc] at h
              refine r_seq ?_
              refine r_region ?_
              refine r_pure tabOk 1 [4] (E' := [(4, .one .bool false)]) rfl ?_
              refine r_nil ?_
              refine r_then ?_
              refine r_ret ?_
              refine t_then ?_
              refine t_block ?_
              refine t_then ?_
              refine t_then ?_
              refine t_block ?_
              refine t_then ?_
              obtain rfl := Option.some.inj h
              exact r_ret1 rfl (.tmp rfl) (fun _ _ g => g) (fun _ _ _ => List.nil_sublist _)
            · rw [if_neg (ne_true_of_eq_false hc)] at h
              refine r_skip ?_
              refine r_then ?_
              obtain ⟨k30, hk30, h⟩ := bnd_ex h
              refine r_joink (γ := Unit) (fun (o31 : Int × Int × List (List Int)) _ => [(0, .one (.sl 33 (.int .u16)) a0), (1, .one (.int .i64) a1), (5, .one (.raw (.pointer none)) (tupv v3 0)), (7, .one (.raw (.pointer none)) (tupv v7 0)), (8, ptr b11 0), (9, .one (.int .i64) o31.1), (10, .one (.int .i64) o31.2.1), (11, .one (.int .i64) s26.2.2.1)]) (fun (o31 : Int × Int × List (List Int)) _ => [Res.cls CMark (tupv v7 0) ((tupv v3 0), r29.2.1.2.1, r29.2.1.2.2.1, r29.2.1.2.2.2.1, r29.2.1.2.2.2.2), Res.disk Try.prog dI (tupv v3 0) r29.2.2, Res.var b11 32 (.arr 2 .str) o31.2.2]) k30 r ?_ ?_
              · refine r_seq ?_
                refine r_region ?_
                refine r_pure tabOk 3 [0, 1, 5, 7, 8, 9, 10, 11, 12, 61] (E' := [(0, .one (.sl 33 (.int .u16)) a0), (1, .one (.int .i64) a1), (5, .one (.raw (.pointer none)) (tupv v3 0)), (7, .one (.raw (.pointer none)) (tupv v7 0)), (8, ptr b11 0), (9, .one (.int .i64) s26.1), (10, .one (.int .i64) s26.2.1), (11, .one (.int .i64) s26.2.2.1), (12, .one (.int .i64) n28), (61, .one .bool (decide (n28 > s26.1)))]) rfl ?_
                refine r_nil ?_
                refine r_then ?_
                refine r_if (b := (decide (n28 > s26.1))) rfl (fun hc => ?_) (fun hc => ?_)
                · rw [if_pos hc] at h
                  refine r_seq ?_
                  refine r_region ?_
                  refine r_pure tabOk 2 [0, 1, 5, 7, 8, 10, 11, 12, 62, 63] (E' := [(0, .one (.sl 33 (.int .u16)) a0), (1, .one (.int .i64) a1), (5, .one (.raw (.pointer none)) (tupv v3 0)), (7, .one (.raw (.pointer none)) (tupv v7 0)), (8, ptr b11 0), (10, .one (.int .i64) s26.2.1), (11, .one (.int .i64) s26.2.2.1), (12, .one (.int .i64) n28), (62, .one (.int .i64) s26.2.1), (63, .one (.int .i64) n28)]) rfl ?_
                  obtain ⟨r51, hr51, h⟩ := bind_ex h
                  refine r_calls (escrowlaw19_slot_ok n28 _ hr51) (by kernel_rfl) rfl rfl ?_
                  obtain ⟨hc, h⟩ := ite_ex h
                  refine y (y_ivar rfl rfl hc.1 hc.2 un32 ty9) rfl ?_
                  refine r_store 2 (.elem (Int.toNat s26.2.1) .here) rfl rfl rfl (by first | rfl | (simp only [Pth.off, T.size]; omega)) (ok_elem (by first | omega | (simp only [List.length_set] at hc ⊢; omega)) ok_here) ty9 ?_
                  refine r_nil ?_
                  refine r_then ?_
                  refine r_seq ?_
                  refine r_region ?_
                  refine r_pure tabOk 3 [0, 1, 5, 7, 8, 10, 11, 12] (E' := [(0, .one (.sl 33 (.int .u16)) a0), (1, .one (.int .i64) a1), (5, .one (.raw (.pointer none)) (tupv v3 0)), (7, .one (.raw (.pointer none)) (tupv v7 0)), (8, ptr b11 0), (10, .one (.int .i64) (IntKind.wrap .i64 (1 - s26.2.1))), (11, .one (.int .i64) s26.2.2.1), (12, .one (.int .i64) n28)]) rfl ?_
                  obtain ⟨next52, hnext52, h⟩ := bnd_ex h
                  rw [hnext52]
                  refine r_nil ?_
                  refine r_then ?_
                  refine r_region ?_
                  refine r_pure tabOk 2 [0, 1, 5, 7, 8, 9, 10, 11] (E' := [(0, .one (.sl 33 (.int .u16)) a0), (1, .one (.int .i64) a1), (5, .one (.raw (.pointer none)) (tupv v3 0)), (7, .one (.raw (.pointer none)) (tupv v7 0)), (8, ptr b11 0), (9, .one (.int .i64) n28), (10, .one (.int .i64) next52), (11, .one (.int .i64) s26.2.2.1)]) rfl ?_
                  refine r_nil ?_
                  refine r_then ?_
                  refine r_less [0, 1, 5, 7, 8, 9, 10, 11] rfl ?_
                  exact r_meetk (n28, next52, (List.set s26.2.2.2.2.2 (Int.toNat s26.2.1) r51)) () h rfl rfl
                · rw [if_neg (ne_true_of_eq_false hc)] at h
                  refine r_skip ?_
                  refine r_then ?_
                  refine r_less [0, 1, 5, 7, 8, 9, 10, 11] rfl ?_
                  exact r_meetk (s26.1, s26.2.1, s26.2.2.2.2.2) () h rfl rfl
              · intro o31 gg h
                rw [← hk30] at h
                try dsimp only at h
                refine r_seq ?_
                refine r_seq ?_
                refine r_region ?_
                refine r_pure tabOk 4 [0, 1, 5, 7, 8, 9, 10, 11, 72] (E' := [(0, .one (.sl 33 (.int .u16)) a0), (1, .one (.int .i64) a1), (5, .one (.raw (.pointer none)) (tupv v3 0)), (7, .one (.raw (.pointer none)) (tupv v7 0)), (8, ptr b11 0), (9, .one (.int .i64) o31.1), (10, .one (.int .i64) o31.2.1), (11, .one (.int .i64) s26.2.2.1), (72, .one .bool (decide (a1 ≤ o31.1)))]) rfl ?_
                obtain ⟨b32, hbb32, h⟩ := bnd_ex h
                rw [hbb32]
                refine r_lsplit (γ := Unit) 3 (fun _ => [(0, .one (.sl 33 (.int .u16)) a0), (1, .one (.int .i64) a1), (5, .one (.raw (.pointer none)) (tupv v3 0)), (7, .one (.raw (.pointer none)) (tupv v7 0)), (8, ptr b11 0), (9, .one (.int .i64) o31.1), (10, .one (.int .i64) o31.2.1), (11, .one (.int .i64) s26.2.2.1), (75, .one .bool (b32 && (decide (a1 ≥ (-1)))))]) (fun _ => [Res.cls CMark (tupv v7 0) ((tupv v3 0), r29.2.1.2.1, r29.2.1.2.2.1, r29.2.1.2.2.2.1, r29.2.1.2.2.2.2), Res.disk Try.prog dI (tupv v3 0) r29.2.2, Res.var b11 32 (.arr 2 .str) o31.2.2]) ?_ (fun _ => ?_)
                · clear h
                  cases b32 with
                  | true =>
                  refine r_pure tabOk 3 [0, 1, 5, 7, 8, 9, 10, 11, 75] (E' := [(0, .one (.sl 33 (.int .u16)) a0), (1, .one (.int .i64) a1), (5, .one (.raw (.pointer none)) (tupv v3 0)), (7, .one (.raw (.pointer none)) (tupv v7 0)), (8, ptr b11 0), (9, .one (.int .i64) o31.1), (10, .one (.int .i64) o31.2.1), (11, .one (.int .i64) s26.2.2.1), (75, .one .bool (decide (a1 ≥ (-1))))]) rfl ?_
                  refine r_nil ?_
                  refine r_then ?_
                  exact r_meetg () rfl rfl
                  | false =>
                  refine r_pure tabOk 3 [0, 1, 5, 7, 8, 9, 10, 11, 75] (E' := [(0, .one (.sl 33 (.int .u16)) a0), (1, .one (.int .i64) a1), (5, .one (.raw (.pointer none)) (tupv v3 0)), (7, .one (.raw (.pointer none)) (tupv v7 0)), (8, ptr b11 0), (9, .one (.int .i64) o31.1), (10, .one (.int .i64) o31.2.1), (11, .one (.int .i64) s26.2.2.1), (75, .one .bool false)]) rfl ?_
                  refine r_nil ?_
                  refine r_then ?_
                  exact r_meetg () rfl rfl
                refine r_pure tabOk 1 [0, 1, 5, 7, 8, 9, 10, 11, 76] (E' := [(0, .one (.sl 33 (.int .u16)) a0), (1, .one (.int .i64) a1), (5, .one (.raw (.pointer none)) (tupv v3 0)), (7, .one (.raw (.pointer none)) (tupv v7 0)), (8, ptr b11 0), (9, .one (.int .i64) o31.1), (10, .one (.int .i64) o31.2.1), (11, .one (.int .i64) s26.2.2.1), (76, .one .bool (b32 && (decide (a1 ≥ (-1)))))]) rfl ?_
                obtain ⟨b33, hbb33, h⟩ := bnd_ex h
                rw [hbb33]
                obtain ⟨k34, hk34, h⟩ := bnd_ex h
                refine r_lsplitk (γ := Unit) 5 (fun (o35 : Bool × (Unit × List Int × Int × Int × Unit) × DiskS) _ => [(0, .one (.sl 33 (.int .u16)) a0), (1, .one (.int .i64) a1), (5, .one (.raw (.pointer none)) (tupv v3 0)), (7, .one (.raw (.pointer none)) (tupv v7 0)), (8, ptr b11 0), (9, .one (.int .i64) o31.1), (10, .one (.int .i64) o31.2.1), (11, .one (.int .i64) s26.2.2.1), (81, .one .bool o35.1)]) (fun (o35 : Bool × (Unit × List Int × Int × Int × Unit) × DiskS) _ => [Res.cls CMark (tupv v7 0) ((tupv v3 0), o35.2.1.2.1, o35.2.1.2.2.1, o35.2.1.2.2.2.1, o35.2.1.2.2.2.2), Res.disk Try.prog dI (tupv v3 0) o35.2.2, Res.var b11 32 (.arr 2 .str) o31.2.2]) k34 r ?_ ?_
                · rcases Bool.eq_false_or_eq_true b33 with hh | hh
                  · rw [hh] at h ⊢
                    rw [if_pos rfl] at h
                    refine r_pure tabOk 2 [0, 1, 5, 7, 8, 9, 10, 11, 76, 77, 78] (E' := [(0, .one (.sl 33 (.int .u16)) a0), (1, .one (.int .i64) a1), (5, .one (.raw (.pointer none)) (tupv v3 0)), (7, .one (.raw (.pointer none)) (tupv v7 0)), (8, ptr b11 0), (9, .one (.int .i64) o31.1), (10, .one (.int .i64) o31.2.1), (11, .one (.int .i64) s26.2.2.1), (76, .one .bool true), (77, .one (.raw (.pointer none)) (tupv v7 0)), (78, .one (.int .i64) a1)]) rfl ?_
                    refine r_guard (by rfl) rfl ?_
                    obtain ⟨r36, hr36, h⟩ := bind_ex h
                    refine r_call (Lo := [Res.var b11 32 (.arr 2 .str) o31.2.2]) (mark_Mark_Raise_ok (tupv v7 0) (tupv v3 0) r29.2.1 a1 r29.2.2 _ hr36) (by kernel_rfl) (List.Perm.refl _) rfl rfl fun _ => ?_
                    refine r_pure tabOk 2 [0, 1, 5, 7, 8, 9, 10, 11, 81] (E' := [(0, .one (.sl 33 (.int .u16)) a0), (1, .one (.int .i64) a1), (5, .one (.raw (.pointer none)) (tupv v3 0)), (7, .one (.raw (.pointer none)) (tupv v7 0)), (8, ptr b11 0), (9, .one (.int .i64) o31.1), (10, .one (.int .i64) o31.2.1), (11, .one (.int .i64) s26.2.2.1), (81, .one .bool (r36.1 != 0))]) rfl ?_
                    refine r_nil ?_
                    refine r_less [0, 1, 5, 7, 8, 9, 10, 11, 81] rfl ?_
                    refine r_then ?_
                    exact r_meetk ((r36.1 != 0), r36.2.1, r36.2.2) () h rfl rfl
                  · rw [hh] at h ⊢
                    rw [if_neg (by decide)] at h
                    refine r_pure tabOk 5 [0, 1, 5, 7, 8, 9, 10, 11, 81] (E' := [(0, .one (.sl 33 (.int .u16)) a0), (1, .one (.int .i64) a1), (5, .one (.raw (.pointer none)) (tupv v3 0)), (7, .one (.raw (.pointer none)) (tupv v7 0)), (8, ptr b11 0), (9, .one (.int .i64) o31.1), (10, .one (.int .i64) o31.2.1), (11, .one (.int .i64) s26.2.2.1), (81, .one .bool false)]) rfl ?_
                    refine r_nil ?_
                    refine r_less [0, 1, 5, 7, 8, 9, 10, 11, 81] rfl ?_
                    refine r_then ?_
                    exact r_meetk (false, r29.2.1, r29.2.2) () h rfl rfl
                · intro o35 _ h
                  rw [← hk34] at h
                  try dsimp only at h
                  refine r_nil ?_
                  refine r_then ?_
                  refine r_if (b := o35.1) rfl (fun hc => ?_) (fun hc => ?_)
                  · rw [if_pos hc] at h
                    refine r_seq ?_
                    refine r_region ?_
                    refine r_pure tabOk 1 [4] (E' := [(4, .one .bool false)]) rfl ?_
                    refine r_nil ?_
                    refine r_then ?_
                    refine r_ret ?_
                    refine t_then ?_
                    refine t_block ?_
                    refine t_then ?_
                    refine t_then ?_
                    refine t_block ?_
                    refine t_then ?_
                    obtain rfl := Option.some.inj h
                    exact r_ret1 rfl (.tmp rfl) (fun _ _ g => g) (fun _ _ _ => List.nil_sublist _)
                  · rw [if_neg (ne_true_of_eq_false hc)] at h
                    refine r_skip ?_
                    refine r_then ?_
                    refine r_seq ?_
                    refine r_region ?_
                    refine r_pure tabOk 1 [0, 1, 5, 7, 8, 9, 10, 11, 83] (E' := [(0, .one (.sl 33 (.int .u16)) a0), (1, .one (.int .i64) a1), (5, .one (.raw (.pointer none)) (tupv v3 0)), (7, .one (.raw (.pointer none)) (tupv v7 0)), (8, ptr b11 0), (9, .one (.int .i64) o31.1), (10, .one (.int .i64) o31.2.1), (11, .one (.int .i64) s26.2.2.1), (83, .one (.raw (.pointer none)) (tupv v3 0))]) rfl ?_
                    obtain ⟨r37, hr37, h⟩ := bind_ex h
                    refine r_call (Lo := [Res.cls CMark (tupv v7 0) ((tupv v3 0), o35.2.1.2.1, o35.2.1.2.2.1, o35.2.1.2.2.2.1, o35.2.1.2.2.2.2), Res.var b11 32 (.arr 2 .str) o31.2.2]) (disk_Disk_Read_ok (tupv v3 0) o35.2.2 [109] 0 200 _ hr37) (by kernel_rfl) ((List.perm_middle (a := Res.disk Try.prog dI (tupv v3 0) o35.2.2) (l₁ := [Res.cls CMark (tupv v7 0) ((tupv v3 0), o35.2.1.2.1, o35.2.1.2.2.1, o35.2.1.2.2.2.1, o35.2.1.2.2.2.2)]) (l₂ := [Res.var b11 32 (.arr 2 .str) o31.2.2])).trans (.cons _ (List.Perm.refl _))) rfl rfl fun _ => ?_
                    refine r_pure tabOk 5 [0, 1, 5, 7, 8, 9, 10, 11, 13, 14] (E' := [(0, .one (.sl 33 (.int .u16)) a0), (1, .one (.int .i64) a1), (5, .one (.raw (.pointer none)) (tupv v3 0)), (7, .one (.raw (.pointer none)) (tupv v7 0)), (8, ptr b11 0), (9, .one (.int .i64) o31.1), (10, .one (.int .i64) o31.2.1), (11, .one (.int .i64) s26.2.2.1), (13, .one .str r37.1), (14, .one (.int .i64) r37.2)]) rfl ?_
                    refine r_nil ?_
                    refine r_then ?_
                    refine r_seq ?_
                    refine r_region ?_
                    refine r_pure tabOk 3 [0, 1, 5, 7, 8, 9, 10, 11, 13, 89] (E' := [(0, .one (.sl 33 (.int .u16)) a0), (1, .one (.int .i64) a1), (5, .one (.raw (.pointer none)) (tupv v3 0)), (7, .one (.raw (.pointer none)) (tupv v7 0)), (8, ptr b11 0), (9, .one (.int .i64) o31.1), (10, .one (.int .i64) o31.2.1), (11, .one (.int .i64) s26.2.2.1), (13, .one .str r37.1), (89, .one .bool (r37.2 != 0))]) rfl ?_
                    obtain ⟨b38, hbb38, h⟩ := bnd_ex h
                    rw [hbb38]
                    obtain ⟨k39, hk39, h⟩ := bnd_ex h
                    refine r_lsplitk (γ := Unit) 8 (fun (o40 : Bool) _ => [(0, .one (.sl 33 (.int .u16)) a0), (1, .one (.int .i64) a1), (5, .one (.raw (.pointer none)) (tupv v3 0)), (7, .one (.raw (.pointer none)) (tupv v7 0)), (8, ptr b11 0), (9, .one (.int .i64) o31.1), (10, .one (.int .i64) o31.2.1), (11, .one (.int .i64) s26.2.2.1), (97, .one .bool o40)]) (fun _ _ => [Res.disk Try.prog dI (tupv v3 0) o35.2.2, Res.cls CMark (tupv v7 0) ((tupv v3 0), o35.2.1.2.1, o35.2.1.2.2.1, o35.2.1.2.2.2.1, o35.2.1.2.2.2.2), Res.var b11 32 (.arr 2 .str) o31.2.2]) k39 r ?_ ?_
                    · rcases Bool.eq_false_or_eq_true b38 with hh | hh
                      · rw [hh] at h ⊢
                        rw [if_pos rfl] at h
                        refine r_pure tabOk 8 [0, 1, 5, 7, 8, 9, 10, 11, 97] (E' := [(0, .one (.sl 33 (.int .u16)) a0), (1, .one (.int .i64) a1), (5, .one (.raw (.pointer none)) (tupv v3 0)), (7, .one (.raw (.pointer none)) (tupv v7 0)), (8, ptr b11 0), (9, .one (.int .i64) o31.1), (10, .one (.int .i64) o31.2.1), (11, .one (.int .i64) s26.2.2.1), (97, .one .bool true)]) rfl ?_
                        refine r_nil ?_
                        refine r_less [0, 1, 5, 7, 8, 9, 10, 11, 97] rfl ?_
                        refine r_then ?_
                        exact r_meetk true () h rfl rfl
                      · rw [hh] at h ⊢
                        rw [if_neg (by decide)] at h
                        refine r_pure tabOk 1 [0, 1, 5, 7, 8, 9, 10, 11, 89, 90] (E' := [(0, .one (.sl 33 (.int .u16)) a0), (1, .one (.int .i64) a1), (5, .one (.raw (.pointer none)) (tupv v3 0)), (7, .one (.raw (.pointer none)) (tupv v7 0)), (8, ptr b11 0), (9, .one (.int .i64) o31.1), (10, .one (.int .i64) o31.2.1), (11, .one (.int .i64) s26.2.2.1), (89, .one .bool false), (90, .one .str r37.1)]) rfl ?_
                        refine r_guard (by rfl) rfl ?_
                        obtain ⟨hc, h⟩ := ite_ex h
                        refine y (y_ivar rfl rfl hc.1 hc.2 un32 ty9) rfl ?_
                        refine r_guard (by rfl) rfl ?_
                        refine y (y_load 2 (.elem 0 .here) rfl rfl (by first | rfl | (simp only [Pth.off, T.size]; omega)) (ok_elem (by first | omega | (simp only [List.length_set] at hc ⊢; omega)) ok_here) ty9) rfl ?_
                        refine r_guard (by rfl) rfl ?_
                        obtain ⟨hc, h⟩ := ite_ex h
                        refine y (y_ivar rfl rfl hc.1 hc.2 un32 ty9) rfl ?_
                        refine r_guard (by rfl) rfl ?_
                        refine y (y_load 2 (.elem 1 .here) rfl rfl (by first | rfl | (simp only [Pth.off, T.size]; omega)) (ok_elem (by first | omega | (simp only [List.length_set] at hc ⊢; omega)) ok_here) ty9) rfl ?_
                        refine r_guard (by rfl) rfl ?_
                        obtain ⟨hc, h⟩ := ite_ex h
                        refine y (y_cat rfl rfl hc) rfl ?_
                        refine r_pure tabOk 2 [0, 1, 5, 7, 8, 9, 10, 11, 97] (E' := [(0, .one (.sl 33 (.int .u16)) a0), (1, .one (.int .i64) a1), (5, .one (.raw (.pointer none)) (tupv v3 0)), (7, .one (.raw (.pointer none)) (tupv v7 0)), (8, ptr b11 0), (9, .one (.int .i64) o31.1), (10, .one (.int .i64) o31.2.1), (11, .one (.int .i64) s26.2.2.1), (97, .one .bool (r37.1 != ((List.getD o31.2.2 0 []) ++ (List.getD o31.2.2 1 []))))]) rfl ?_
                        refine r_nil ?_
                        refine r_less [0, 1, 5, 7, 8, 9, 10, 11, 97] rfl ?_
                        refine r_then ?_
                        exact r_meetk (r37.1 != ((List.getD o31.2.2 0 []) ++ (List.getD o31.2.2 1 []))) () h rfl rfl
                    · intro o40 _ h
                      rw [← hk39] at h
                      try dsimp only at h
                      refine r_pure tabOk 1 [0, 1, 5, 7, 8, 9, 10, 11, 98] (E' := [(0, .one (.sl 33 (.int .u16)) a0), (1, .one (.int .i64) a1), (5, .one (.raw (.pointer none)) (tupv v3 0)), (7, .one (.raw (.pointer none)) (tupv v7 0)), (8, ptr b11 0), (9, .one (.int .i64) o31.1), (10, .one (.int .i64) o31.2.1), (11, .one (.int .i64) s26.2.2.1), (98, .one .bool o40)]) rfl ?_
                      obtain ⟨k42, hk42, h⟩ := bnd_ex h
                      refine r_lsplitk (γ := Unit) 5 (fun (o43 : Bool) _ => [(0, .one (.sl 33 (.int .u16)) a0), (1, .one (.int .i64) a1), (5, .one (.raw (.pointer none)) (tupv v3 0)), (7, .one (.raw (.pointer none)) (tupv v7 0)), (8, ptr b11 0), (9, .one (.int .i64) o31.1), (10, .one (.int .i64) o31.2.1), (11, .one (.int .i64) s26.2.2.1), (103, .one .bool o43)]) (fun _ _ => [Res.disk Try.prog dI (tupv v3 0) o35.2.2, Res.cls CMark (tupv v7 0) ((tupv v3 0), o35.2.1.2.1, o35.2.1.2.2.1, o35.2.1.2.2.2.1, o35.2.1.2.2.2.2), Res.var b11 32 (.arr 2 .str) o31.2.2]) k42 r ?_ ?_
                      · rcases Bool.eq_false_or_eq_true o40 with hh | hh
                        · rw [hh] at h ⊢
                          rw [if_pos rfl] at h
                          refine r_pure tabOk 5 [0, 1, 5, 7, 8, 9, 10, 11, 103] (E' := [(0, .one (.sl 33 (.int .u16)) a0), (1, .one (.int .i64) a1), (5, .one (.raw (.pointer none)) (tupv v3 0)), (7, .one (.raw (.pointer none)) (tupv v7 0)), (8, ptr b11 0), (9, .one (.int .i64) o31.1), (10, .one (.int .i64) o31.2.1), (11, .one (.int .i64) s26.2.2.1), (103, .one .bool true)]) rfl ?_
                          refine r_nil ?_
                          refine r_less [0, 1, 5, 7, 8, 9, 10, 11, 103] rfl ?_
                          refine r_then ?_
                          exact r_meetk true () h rfl rfl
                        · rw [hh] at h ⊢
                          rw [if_neg (by decide)] at h
                          refine r_pure tabOk 1 [0, 1, 5, 7, 8, 9, 10, 11, 98, 99] (E' := [(0, .one (.sl 33 (.int .u16)) a0), (1, .one (.int .i64) a1), (5, .one (.raw (.pointer none)) (tupv v3 0)), (7, .one (.raw (.pointer none)) (tupv v7 0)), (8, ptr b11 0), (9, .one (.int .i64) o31.1), (10, .one (.int .i64) o31.2.1), (11, .one (.int .i64) s26.2.2.1), (98, .one .bool false), (99, .one (.raw (.pointer none)) (tupv v7 0))]) rfl ?_
                          refine r_guard (by rfl) rfl ?_
                          obtain ⟨r44, hr44, h⟩ := bind_ex h
                          refine r_call (Lo := [Res.var b11 32 (.arr 2 .str) o31.2.2]) (mark_Mark_Value_ok (tupv v7 0) (tupv v3 0) o35.2.1 o35.2.2 _ hr44) (by kernel_rfl) ((List.perm_middle (a := Res.cls CMark (tupv v7 0) ((tupv v3 0), o35.2.1.2.1, o35.2.1.2.2.1, o35.2.1.2.2.2.1, o35.2.1.2.2.2.2)) (l₁ := [Res.disk Try.prog dI (tupv v3 0) o35.2.2]) (l₂ := [Res.var b11 32 (.arr 2 .str) o31.2.2])).trans (.cons _ (List.Perm.refl _))) rfl rfl fun _ => ?_
                          refine r_pure tabOk 3 [0, 1, 5, 7, 8, 9, 10, 11, 103] (E' := [(0, .one (.sl 33 (.int .u16)) a0), (1, .one (.int .i64) a1), (5, .one (.raw (.pointer none)) (tupv v3 0)), (7, .one (.raw (.pointer none)) (tupv v7 0)), (8, ptr b11 0), (9, .one (.int .i64) o31.1), (10, .one (.int .i64) o31.2.1), (11, .one (.int .i64) s26.2.2.1), (103, .one .bool (r44 != o31.1))]) rfl ?_
                          refine r_nil ?_
                          refine r_less [0, 1, 5, 7, 8, 9, 10, 11, 103] rfl ?_
                          refine r_perm (L' := [Res.disk Try.prog dI (tupv v3 0) o35.2.2, Res.cls CMark (tupv v7 0) ((tupv v3 0), o35.2.1.2.1, o35.2.1.2.2.1, o35.2.1.2.2.2.1, o35.2.1.2.2.2.2), Res.var b11 32 (.arr 2 .str) o31.2.2]) ((List.perm_middle (a := Res.disk Try.prog dI (tupv v3 0) o35.2.2) (l₁ := [Res.cls CMark (tupv v7 0) ((tupv v3 0), o35.2.1.2.1, o35.2.1.2.2.1, o35.2.1.2.2.2.1, o35.2.1.2.2.2.2)]) (l₂ := [Res.var b11 32 (.arr 2 .str) o31.2.2])).trans (.cons _ (List.Perm.refl _))) ?_
                          refine r_then ?_
                          exact r_meetk (r44 != o31.1) () h rfl rfl
                      · intro o43 _ h
                        rw [← hk42] at h
                        try dsimp only at h
                        refine r_pure tabOk 1 [0, 1, 5, 7, 8, 9, 10, 11, 104] (E' := [(0, .one (.sl 33 (.int .u16)) a0), (1, .one (.int .i64) a1), (5, .one (.raw (.pointer none)) (tupv v3 0)), (7, .one (.raw (.pointer none)) (tupv v7 0)), (8, ptr b11 0), (9, .one (.int .i64) o31.1), (10, .one (.int .i64) o31.2.1), (11, .one (.int .i64) s26.2.2.1), (104, .one .bool o43)]) rfl ?_
                        obtain ⟨k46, hk46, h⟩ := bnd_ex h
                        refine r_lsplitk (γ := Unit) 5 (fun (o47 : Bool) _ => [(0, .one (.sl 33 (.int .u16)) a0), (1, .one (.int .i64) a1), (5, .one (.raw (.pointer none)) (tupv v3 0)), (7, .one (.raw (.pointer none)) (tupv v7 0)), (8, ptr b11 0), (9, .one (.int .i64) o31.1), (10, .one (.int .i64) o31.2.1), (11, .one (.int .i64) s26.2.2.1), (109, .one .bool o47)]) (fun _ _ => [Res.disk Try.prog dI (tupv v3 0) o35.2.2, Res.cls CMark (tupv v7 0) ((tupv v3 0), o35.2.1.2.1, o35.2.1.2.2.1, o35.2.1.2.2.2.1, o35.2.1.2.2.2.2), Res.var b11 32 (.arr 2 .str) o31.2.2]) k46 r ?_ ?_
                        · rcases Bool.eq_false_or_eq_true o43 with hh | hh
                          · rw [hh] at h ⊢
                            rw [if_pos rfl] at h
                            refine r_pure tabOk 5 [0, 1, 5, 7, 8, 9, 10, 11, 109] (E' := [(0, .one (.sl 33 (.int .u16)) a0), (1, .one (.int .i64) a1), (5, .one (.raw (.pointer none)) (tupv v3 0)), (7, .one (.raw (.pointer none)) (tupv v7 0)), (8, ptr b11 0), (9, .one (.int .i64) o31.1), (10, .one (.int .i64) o31.2.1), (11, .one (.int .i64) s26.2.2.1), (109, .one .bool true)]) rfl ?_
                            refine r_nil ?_
                            refine r_less [0, 1, 5, 7, 8, 9, 10, 11, 109] rfl ?_
                            refine r_then ?_
                            exact r_meetk true () h rfl rfl
                          · rw [hh] at h ⊢
                            rw [if_neg (by decide)] at h
                            refine r_pure tabOk 1 [0, 1, 5, 7, 8, 9, 10, 11, 104, 105] (E' := [(0, .one (.sl 33 (.int .u16)) a0), (1, .one (.int .i64) a1), (5, .one (.raw (.pointer none)) (tupv v3 0)), (7, .one (.raw (.pointer none)) (tupv v7 0)), (8, ptr b11 0), (9, .one (.int .i64) o31.1), (10, .one (.int .i64) o31.2.1), (11, .one (.int .i64) s26.2.2.1), (104, .one .bool false), (105, .one (.raw (.pointer none)) (tupv v3 0))]) rfl ?_
                            refine r_guard (by rfl) rfl ?_
                            obtain ⟨r48, hr48, h⟩ := bind_ex h
                            refine r_call (Lo := [Res.cls CMark (tupv v7 0) ((tupv v3 0), o35.2.1.2.1, o35.2.1.2.2.1, o35.2.1.2.2.2.1, o35.2.1.2.2.2.2), Res.var b11 32 (.arr 2 .str) o31.2.2]) (disk_Disk_Dirty_ok (tupv v3 0) o35.2.2 [109] _ hr48) (by kernel_rfl) (List.Perm.refl _) rfl rfl fun v49 => ?_
                            refine r_guard (by rfl) rfl ?_
                            refine y (y_lenown tabOk 1 rfl rfl rfl) rfl ?_
                            refine r_pure tabOk 2 [0, 1, 5, 7, 8, 9, 10, 11, 109] (E' := [(0, .one (.sl 33 (.int .u16)) a0), (1, .one (.int .i64) a1), (5, .one (.raw (.pointer none)) (tupv v3 0)), (7, .one (.raw (.pointer none)) (tupv v7 0)), (8, ptr b11 0), (9, .one (.int .i64) o31.1), (10, .one (.int .i64) o31.2.1), (11, .one (.int .i64) s26.2.2.1), (109, .one .bool ((List.length r48 : Int) != 0))]) rfl ?_
                            refine r_nil ?_
                            refine r_less [0, 1, 5, 7, 8, 9, 10, 11, 109] rfl ?_
                            refine r_lose (L' := [Res.disk Try.prog dI (tupv v3 0) o35.2.2, Res.cls CMark (tupv v7 0) ((tupv v3 0), o35.2.1.2.1, o35.2.1.2.2.1, o35.2.1.2.2.2.1, o35.2.1.2.2.2.2), Res.var b11 32 (.arr 2 .str) o31.2.2]) (.cons_cons _ (.cons _ (.cons_cons _ (.cons_cons _ .slnil)))) ?_
                            refine r_then ?_
                            exact r_meetk ((List.length r48 : Int) != 0) () h rfl rfl
                        · intro o47 _ h
                          rw [← hk46] at h
                          try dsimp only at h
                          refine r_nil ?_
                          refine r_then ?_
                          refine r_if (b := o47) rfl (fun hc => ?_) (fun hc => ?_)
                          · rw [if_pos hc] at h
                            refine r_seq ?_
                            refine r_region ?_
                            refine r_pure tabOk 1 [4] (E' := [(4, .one .bool false)]) rfl ?_
                            refine r_nil ?_
                            refine r_then ?_
                            refine r_ret ?_
                            refine t_block ?_
                            refine t_then ?_
                            refine t_then ?_
                            refine t_block ?_
                            refine t_then ?_
                            obtain rfl := Option.some.inj h
                            exact r_ret1 rfl (.tmp rfl) (fun _ _ g => g) (fun _ _ _ => List.nil_sublist _)
                          · rw [if_neg (ne_true_of_eq_false hc)] at h
                            refine r_skip ?_
                            refine r_inblock ?_
                            refine r_then ?_
                            refine r_region ?_
                            refine r_pure tabOk 3 [0, 1, 5, 7, 8, 9, 10, 11] (E' := [(0, .one (.sl 33 (.int .u16)) a0), (1, .one (.int .i64) a1), (5, .one (.raw (.pointer none)) (tupv v3 0)), (7, .one (.raw (.pointer none)) (tupv v7 0)), (8, ptr b11 0), (9, .one (.int .i64) o31.1), (10, .one (.int .i64) o31.2.1), (11, .one (.int .i64) (IntKind.wrap .i64 (s26.2.2.1 + 1)))]) rfl ?_
                            obtain ⟨i50, hi50, h⟩ := bnd_ex h
                            rw [hi50]
                            refine r_nil ?_
                            refine r_then ?_
                            refine r_less [0, 1, 5, 7, 8, 9, 10, 11] rfl ?_
                            refine r_perm (L' := [Res.var b11 32 (.arr 2 .str) o31.2.2, Res.disk Try.prog dI (tupv v3 0) o35.2.2, Res.cls CMark (tupv v7 0) ((tupv v3 0), o35.2.1.2.1, o35.2.1.2.2.1, o35.2.1.2.2.2.1, o35.2.1.2.2.2.2)]) ((List.perm_middle (a := Res.var b11 32 (.arr 2 .str) o31.2.2) (l₁ := [Res.disk Try.prog dI (tupv v3 0) o35.2.2, Res.cls CMark (tupv v7 0) ((tupv v3 0), o35.2.1.2.1, o35.2.1.2.2.1, o35.2.1.2.2.2.1, o35.2.1.2.2.2.2)]) (l₂ := [])).trans (.cons _ (List.Perm.refl _))) ?_
                            exact r_backg (o31.1, o31.2.1, i50, o35.2.2, o35.2.1, o31.2.2) () (Nat.lt_succ_self _) h rfl rfl
          · rw [if_neg (ne_true_of_eq_false hc)] at h
            refine r_exit ?_
            refine e_then ?_
            refine e_then ?_
            refine e_eq ?_
            refine r_then ?_
            refine r_imp_at (R' := Res.clsif CMark (tupv v7 0) ((tupv v3 0), s26.2.2.2.2.1.2.1, s26.2.2.2.2.1.2.2.1, s26.2.2.2.2.1.2.2.2.1, s26.2.2.2.2.1.2.2.2.2) r6.1.1) 2 rfl (clsif_of he23) ?_
            refine r_less [5, 9] rfl ?_
            exact r_meetk (s26.1, s26.2.2.2.2.2, s26.2.2.2.1, s26.2.2.2.2.1) () h rfl rfl
        · intro o13 gg h
          rw [← hk12] at h
          try dsimp only at h
          refine r_seq ?_
          refine r_region ?_
          refine r_pure tabOk 1 [9, 111] (E' := [(9, .one (.int .i64) o13.1), (111, .one (.raw (.pointer none)) (tupv v3 0))]) rfl ?_
          obtain ⟨r14, hr14, h⟩ := bind_ex h
          refine r_call (Lo := [Res.var b11 32 (.arr 2 .str) o13.2.1, Res.clsif CMark (tupv v7 0) ((tupv v3 0), o13.2.2.2.2.1, o13.2.2.2.2.2.1, o13.2.2.2.2.2.2.1, o13.2.2.2.2.2.2.2) r6.1.1]) (mark_Open_ok (tupv v3 0) o13.2.2.1 [109] _ hr14) (by kernel_rfl) ((List.perm_middle (a := Res.disk Try.prog dI (tupv v3 0) o13.2.2.1) (l₁ := [Res.var b11 32 (.arr 2 .str) o13.2.1]) (l₂ := [Res.clsif CMark (tupv v7 0) ((tupv v3 0), o13.2.2.2.2.1, o13.2.2.2.2.2.1, o13.2.2.2.2.2.2.1, o13.2.2.2.2.2.2.2) r6.1.1])).trans (.cons _ (List.Perm.refl _))) rfl rfl fun v15 => ?_
          refine r_pure tabOk 5 [6, 9, 15] (E' := [(6, .one (.int .i64) r14.2.1), (9, .one (.int .i64) o13.1), (15, .one (.raw (.pointer none)) (tupv v15 0))]) rfl ?_
          refine r_nil ?_
          refine r_then ?_
          refine r_seq ?_
          refine r_region ?_
          refine r_pure tabOk 1 [6, 9, 15, 115] (E' := [(6, .one (.int .i64) r14.2.1), (9, .one (.int .i64) o13.1), (15, .one (.raw (.pointer none)) (tupv v15 0)), (115, .one (.raw (.pointer none)) (tupv v15 0))]) rfl ?_
          refine y (y_cnnil 1 rfl rfl Try.underlying28) rfl ?_
          refine r_pure tabOk 1 [6, 9, 15, 117] (E' := [(6, .one (.int .i64) r14.2.1), (9, .one (.int .i64) o13.1), (15, .one (.raw (.pointer none)) (tupv v15 0)), (117, .one .bool (r14.1.1 == 0))]) rfl ?_
          obtain ⟨b16, hbb16, h⟩ := bnd_ex h
          rw [hbb16]
          refine r_lsplit (γ := Unit) 3 (fun _ => [(9, .one (.int .i64) o13.1), (15, .one (.raw (.pointer none)) (tupv v15 0)), (120, .one .bool (b16 && (r14.2.1 == 0)))]) (fun _ => [Res.disk Try.prog dI (tupv v3 0) r14.2.2, Res.clsif CMark (tupv v15 0) ((tupv v3 0), r14.1.2.2.1, r14.1.2.2.2.1, r14.1.2.2.2.2.1, r14.1.2.2.2.2.2) r14.1.1, Res.var b11 32 (.arr 2 .str) o13.2.1, Res.clsif CMark (tupv v7 0) ((tupv v3 0), o13.2.2.2.2.1, o13.2.2.2.2.2.1, o13.2.2.2.2.2.2.1, o13.2.2.2.2.2.2.2) r6.1.1]) ?_ (fun _ => ?_)
          · clear h
            cases b16 with
            | true =>
            refine r_pure tabOk 3 [9, 15, 120] (E' := [(9, .one (.int .i64) o13.1), (15, .one (.raw (.pointer none)) (tupv v15 0)), (120, .one .bool (r14.2.1 == 0))]) rfl ?_
            refine r_nil ?_
            refine r_then ?_
            exact r_meetg () rfl rfl
            | false =>
            refine r_pure tabOk 3 [9, 15, 120] (E' := [(9, .one (.int .i64) o13.1), (15, .one (.raw (.pointer none)) (tupv v15 0)), (120, .one .bool false)]) rfl ?_
            refine r_nil ?_
            refine r_then ?_
            exact r_meetg () rfl rfl
          refine r_pure tabOk 1 [9, 15, 121] (E' := [(9, .one (.int .i64) o13.1), (15, .one (.raw (.pointer none)) (tupv v15 0)), (121, .one .bool (b16 && (r14.2.1 == 0)))]) rfl ?_
          obtain ⟨b17, hbb17, h⟩ := bnd_ex h
          rw [hbb17]
          obtain ⟨k18, hk18, h⟩ := bnd_ex h
          refine r_lsplitk (γ := Unit) 5 (fun (o19 : Bool) _ => [(126, .one .bool o19)]) (fun _ _ => [Res.disk Try.prog dI (tupv v3 0) r14.2.2, Res.clsif CMark (tupv v15 0) ((tupv v3 0), r14.1.2.2.1, r14.1.2.2.2.1, r14.1.2.2.2.2.1, r14.1.2.2.2.2.2) r14.1.1, Res.var b11 32 (.arr 2 .str) o13.2.1, Res.clsif CMark (tupv v7 0) ((tupv v3 0), o13.2.2.2.2.1, o13.2.2.2.2.2.1, o13.2.2.2.2.2.2.1, o13.2.2.2.2.2.2.2) r6.1.1]) k18 r ?_ ?_
          · rcases Bool.eq_false_or_eq_true b17 with hh | hh
            · rw [hh] at h ⊢
              rw [if_pos rfl] at h
              refine r_pure tabOk 1 [9, 121, 122] (E' := [(9, .one (.int .i64) o13.1), (121, .one .bool true), (122, .one (.raw (.pointer none)) (tupv v15 0))]) rfl ?_
              refine r_guard (by rfl) rfl ?_
              obtain ⟨he20, h⟩ := ite_ex h
              refine r_imp_at (R' := Res.cls CMark (tupv v15 0) ((tupv v3 0), r14.1.2.2.1, r14.1.2.2.2.1, r14.1.2.2.2.2.1, r14.1.2.2.2.2.2)) 1 rfl (clsif_cls he20) ?_
              obtain ⟨r21, hr21, h⟩ := bind_ex h
              refine r_call (Lo := [Res.var b11 32 (.arr 2 .str) o13.2.1, Res.clsif CMark (tupv v7 0) ((tupv v3 0), o13.2.2.2.2.1, o13.2.2.2.2.2.1, o13.2.2.2.2.2.2.1, o13.2.2.2.2.2.2.2) r6.1.1]) (mark_Mark_Value_ok (tupv v15 0) (tupv v3 0) r14.1.2 r14.2.2 _ hr21) (by kernel_rfl) ((List.perm_middle (a := Res.cls CMark (tupv v15 0) ((tupv v3 0), r14.1.2.2.1, r14.1.2.2.2.1, r14.1.2.2.2.2.1, r14.1.2.2.2.2.2)) (l₁ := [Res.disk Try.prog dI (tupv v3 0) r14.2.2]) (l₂ := [Res.var b11 32 (.arr 2 .str) o13.2.1, Res.clsif CMark (tupv v7 0) ((tupv v3 0), o13.2.2.2.2.1, o13.2.2.2.2.2.1, o13.2.2.2.2.2.2.1, o13.2.2.2.2.2.2.2) r6.1.1])).trans (.cons _ (List.Perm.refl _))) rfl rfl fun _ => ?_
              refine r_pure tabOk 3 [126] (E' := [(126, .one .bool (r21 == o13.1))]) rfl ?_
              refine r_nil ?_
              refine r_less [126] rfl ?_
              refine r_imp_at (R' := Res.clsif CMark (tupv v15 0) ((tupv v3 0), r14.1.2.2.1, r14.1.2.2.2.1, r14.1.2.2.2.2.1, r14.1.2.2.2.2.2) r14.1.1) 0 rfl (clsif_of he20) ?_
              refine r_perm (L' := [Res.disk Try.prog dI (tupv v3 0) r14.2.2, Res.clsif CMark (tupv v15 0) ((tupv v3 0), r14.1.2.2.1, r14.1.2.2.2.1, r14.1.2.2.2.2.1, r14.1.2.2.2.2.2) r14.1.1, Res.var b11 32 (.arr 2 .str) o13.2.1, Res.clsif CMark (tupv v7 0) ((tupv v3 0), o13.2.2.2.2.1, o13.2.2.2.2.2.1, o13.2.2.2.2.2.2.1, o13.2.2.2.2.2.2.2) r6.1.1]) ((List.perm_middle (a := Res.disk Try.prog dI (tupv v3 0) r14.2.2) (l₁ := [Res.clsif CMark (tupv v15 0) ((tupv v3 0), r14.1.2.2.1, r14.1.2.2.2.1, r14.1.2.2.2.2.1, r14.1.2.2.2.2.2) r14.1.1]) (l₂ := [Res.var b11 32 (.arr 2 .str) o13.2.1, Res.clsif CMark (tupv v7 0) ((tupv v3 0), o13.2.2.2.2.1, o13.2.2.2.2.2.1, o13.2.2.2.2.2.2.1, o13.2.2.2.2.2.2.2) r6.1.1])).trans (.cons _ (List.Perm.refl _))) ?_
              refine r_then ?_
              exact r_meetk (r21 == o13.1) () h rfl rfl
            · rw [hh] at h ⊢
              rw [if_neg (by decide)] at h
              refine r_pure tabOk 5 [126] (E' := [(126, .one .bool false)]) rfl ?_
              refine r_nil ?_
              refine r_less [126] rfl ?_
              refine r_then ?_
              exact r_meetk false () h rfl rfl
          · intro o19 _ h
            rw [← hk18] at h
            try dsimp only at h
            refine r_pure tabOk 1 [4] (E' := [(4, .one .bool o19)]) rfl ?_
            refine r_nil ?_
            refine r_then ?_
            refine r_ret ?_
            obtain rfl := Option.some.inj h
            exact r_ret1 rfl (.tmp rfl) (fun _ _ g => g) (fun _ _ _ => List.nil_sublist _)
end Sx
