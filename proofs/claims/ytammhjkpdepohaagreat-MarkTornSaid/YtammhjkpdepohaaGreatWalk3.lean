/-
  Own work, printed by a program of the same hand. Each function of the code answers what its plain twin reckons.
-/
import Derived.Test.YtammhjkpdepohaaGreatWalk2
namespace Sx
open Go Go.Proofs
set_option maxRecDepth 10000

theorem mark_Mark_Raise_ok (p0 : Value) (p100 : Value) (a0 : Unit × List Int × Int × Int × Unit) (a1 : Int) (a100 : DiskS) (r : Int × (Unit × List Int × Int × Int × Unit) × DiskS) (h : mark_Mark_Raise a0 a1 a100 = some r) : Fn Tryz.prog 16 [.one (.raw (.pointer none)) p0, .one (.int .i64) a1] [Res.cls (CMark p100) p0 a0, Res.disk Tryz.prog dI p100 a100] (fun _ => .one (.int .i64) r.1) (fun _ => [Res.cls (CMark p100) p0 r.2.1, Res.disk Tryz.prog dI p100 r.2.2]) := by
  unfold mark_Mark_Raise at h
  refine enter Tryz.func16 rfl 61 rfl rfl fun F => ?_
  refine r_seq ?_
  refine r_region ?_
  refine r_pure tabOk 1 [0, 1] (E' := [(0, .one (.raw (.pointer none)) p0), (1, .one (.int .i64) a1)]) rfl ?_
  refine r_nil ?_
  refine r_then ?_
  refine r_seq ?_
  refine r_block ?_
  refine r_seq ?_
  refine r_region ?_
  refine r_pure tabOk 1 [0, 1, 8] (E' := [(0, .one (.raw (.pointer none)) p0), (1, .one (.int .i64) a1), (8, .one (.int .i64) a1)]) rfl ?_
  obtain ⟨r1, hr1, h⟩ := bind_ex h
  refine r_calls (mark_right_ok a1 _ hr1) (by kernel_rfl) rfl rfl ?_
  refine r_pure tabOk 2 [0, 1, 7] (E' := [(0, .one (.raw (.pointer none)) p0), (1, .one (.int .i64) a1), (7, .one .bool (!r1))]) rfl ?_
  refine r_nil ?_
  refine r_then ?_
  refine r_if (b := (!r1)) rfl (fun hc => ?_) (fun hc => ?_)
  · rw [if_pos hc] at h
    refine r_seq ?_
    refine r_region ?_
    refine r_pure tabOk 1 [4] (E' := [(4, .one (.int .i64) 1)]) rfl ?_
    refine r_nil ?_
    refine r_then ?_
    refine r_ret ?_
    refine t_block ?_
    refine t_then ?_
    obtain rfl := Option.some.inj h
    exact r_ret1 rfl (.tmp rfl) (fun _ _ g => g) (fun _ _ _ => (.cons_cons _ (.cons_cons _ .slnil)))
  · rw [if_neg (ne_true_of_eq_false hc)] at h
    refine r_seq ?_
    refine r_unCMark fun b2 hp => ?_
    subst hp
    refine r_region ?_
    refine r_pure tabOk 4 [0, 1, 12, 15] (E' := [(0, ptr b2 0), (1, .one (.int .i64) a1), (12, .one (.int .i64) a1), (15, ptr b2 2)]) rfl ?_
    refine y (y_load 0 ((.snd (.snd (.fst .here)))) rfl rfl (by first | rfl | (simp only [Pth.off, T.size]; omega)) (ok_snd (ok_snd (ok_fst ok_here))) ty2) rfl ?_
    refine r_pure tabOk 2 [0, 1, 11] (E' := [(0, ptr b2 0), (1, .one (.int .i64) a1), (11, .one .bool (decide (a1 ≤ a0.2.2.1)))]) rfl ?_
    refine r_nil ?_
    refine r_then ?_
    refine r_if (b := (decide (a1 ≤ a0.2.2.1))) rfl (fun hc => ?_) (fun hc => ?_)
    · rw [if_pos hc] at h
      refine r_seq ?_
      refine r_region ?_
      refine r_pure tabOk 1 [4] (E' := [(4, .one (.int .i64) 0)]) rfl ?_
      refine r_nil ?_
      refine r_then ?_
      refine r_ret ?_
      refine t_block ?_
      refine t_then ?_
      refine r_CMark (x := a0) (q := p100) ?_
      obtain rfl := Option.some.inj h
      exact r_ret1 rfl (.tmp rfl) (fun _ _ g => g) (fun _ _ _ => (.cons_cons _ (.cons_cons _ .slnil)))
    · rw [if_neg (ne_true_of_eq_false hc)] at h
      refine r_skip ?_
      refine r_inblock ?_
      refine r_then ?_
      refine r_seq ?_
      refine r_seq ?_
      refine h_start (S := AllIs [VarIs b2 69 (.pair (.raw (.pointer none)) (.pair .str (.pair (.int .i64) (.pair (.int .i64) .unit)))) (p100, a0.2.1, a0.2.2.1, a0.2.2.2.1, a0.2.2.2.2)]) (by kernel_rfl) ?_
      refine h_take (i := 0) (t := ptr b2 0) (blind_then (blind_then blind_body)) rfl (by kernel_rfl) (by kernel_rfl) (by kernel_rfl) (allis_cons (var_is 0 rfl) allis_nil) (y_pure tabOk rfl) rfl ?_
      refine h_take (i := 1) (t := ptr b2 0) (blind_then (blind_then blind_body)) rfl (by kernel_rfl) (by kernel_rfl) (by kernel_rfl) (allis_cons (var_is 0 rfl) allis_nil) (y_pure tabOk rfl) rfl ?_
      refine h_take (i := 2) (t := ptr b2 0) (blind_then (blind_then blind_body)) rfl (by kernel_rfl) (by kernel_rfl) (by kernel_rfl) (allis_cons (var_is 0 rfl) allis_nil) (y_pure tabOk rfl) rfl ?_
      refine h_take (i := 3) (t := .one (.raw (.pointer none)) p100) (blind_then (blind_then blind_body)) rfl (by kernel_rfl) (by kernel_rfl) (by kernel_rfl) (allis_cons (var_is 0 rfl) allis_nil) (y_held (S := fun w => AllIs [VarIs b2 69 (.pair (.raw (.pointer none)) (.pair .str (.pair (.int .i64) (.pair (.int .i64) .unit)))) (p100, a0.2.1, a0.2.2.1, a0.2.2.2.1, a0.2.2.2.2)] w) (allis_at 0 rfl) 0 ((.fst .here)) rfl rfl rfl (by first | rfl | (simp only [Pth.off, T.size]; omega)) (ok_fst ok_here) ty30) rfl ?_
      refine h_take (i := 4) (t := ptr b2 0) (blind_then (blind_then blind_body)) rfl (by kernel_rfl) (by kernel_rfl) (by kernel_rfl) (allis_cons (var_is 0 rfl) allis_nil) (y_pure tabOk rfl) rfl ?_
      refine h_take (i := 5) (t := ptr b2 0) (blind_then (blind_then blind_body)) rfl (by kernel_rfl) (by kernel_rfl) (by kernel_rfl) (allis_cons (var_is 0 rfl) allis_nil) (y_pure tabOk rfl) rfl ?_
      refine h_take (i := 6) (t := ptr b2 1) (blind_then (blind_then blind_body)) rfl (by kernel_rfl) (by kernel_rfl) (by kernel_rfl) (allis_cons (var_is 0 rfl) allis_nil) (y_pure tabOk rfl) rfl ?_
      refine h_take (i := 7) (t := .one .str a0.2.1) (blind_then (blind_then blind_body)) rfl (by kernel_rfl) (by kernel_rfl) (by kernel_rfl) (allis_cons (var_is 0 rfl) allis_nil) (y_held (S := fun w => AllIs [VarIs b2 69 (.pair (.raw (.pointer none)) (.pair .str (.pair (.int .i64) (.pair (.int .i64) .unit)))) (p100, a0.2.1, a0.2.2.1, a0.2.2.2.1, a0.2.2.2.2)] w) (allis_at 0 rfl) 0 ((.snd (.fst .here))) rfl rfl rfl (by first | rfl | (simp only [Pth.off, T.size]; omega)) (ok_snd (ok_fst ok_here)) ty9) rfl ?_
      refine h_take (i := 8) (t := ptr b2 0) (blind_then (blind_then blind_body)) rfl (by kernel_rfl) (by kernel_rfl) (by kernel_rfl) (allis_cons (var_is 0 rfl) allis_nil) (y_pure tabOk rfl) rfl ?_
      refine h_take (i := 9) (t := ptr b2 0) (blind_then (blind_then blind_body)) rfl (by kernel_rfl) (by kernel_rfl) (by kernel_rfl) (allis_cons (var_is 0 rfl) allis_nil) (y_pure tabOk rfl) rfl ?_
      refine h_take (i := 10) (t := ptr b2 3) (blind_then (blind_then blind_body)) rfl (by kernel_rfl) (by kernel_rfl) (by kernel_rfl) (allis_cons (var_is 0 rfl) allis_nil) (y_pure tabOk rfl) rfl ?_
      refine h_take (i := 11) (t := .one (.int .i64) a0.2.2.2.1) (blind_then (blind_then blind_body)) rfl (by kernel_rfl) (by kernel_rfl) (by kernel_rfl) (allis_cons (var_is 0 rfl) allis_nil) (y_held (S := fun w => AllIs [VarIs b2 69 (.pair (.raw (.pointer none)) (.pair .str (.pair (.int .i64) (.pair (.int .i64) .unit)))) (p100, a0.2.1, a0.2.2.1, a0.2.2.2.1, a0.2.2.2.2)] w) (allis_at 0 rfl) 0 ((.snd (.snd (.snd (.fst .here))))) rfl rfl rfl (by first | rfl | (simp only [Pth.off, T.size]; omega)) (ok_snd (ok_snd (ok_snd (ok_fst ok_here)))) ty3) rfl ?_
      refine h_take (i := 12) (t := .one (.int .i64) (IntKind.wrap .i64 (64 * a0.2.2.2.1))) (blind_then (blind_then blind_body)) rfl (by kernel_rfl) (by kernel_rfl) (by kernel_rfl) (allis_cons (var_is 0 rfl) allis_nil) (y_pure tabOk rfl) rfl ?_
      refine h_take (i := 13) (t := .one (.int .i64) a1) (blind_then (blind_then blind_body)) rfl (by kernel_rfl) (by kernel_rfl) (by kernel_rfl) (allis_cons (var_is 0 rfl) allis_nil) (y_pure tabOk rfl) rfl ?_
      refine h_one (i := 14) (by kernel_rfl) rfl ?_
      obtain ⟨r3, hr3, h⟩ := bind_ex h
      refine r_calls (mark_slot_ok a1 _ hr3) (by kernel_rfl) rfl rfl ?_
      refine r_nil ?_
      refine r_then ?_
      refine h_in (allis_cons (var_is 0 rfl) allis_nil) ?_
      refine r_less [0, 1, 21, 25, 30, 32] rfl ?_
      refine h_one (i := 15) (by kernel_rfl) rfl ?_
      obtain ⟨r4, hr4, h⟩ := bind_ex h
      refine r_call (Lo := [Res.var b2 69 (.pair (.raw (.pointer none)) (.pair .str (.pair (.int .i64) (.pair (.int .i64) .unit)))) (p100, a0.2.1, a0.2.2.1, a0.2.2.2.1, a0.2.2.2.2)]) (disk_Disk_Write_ok p100 a100 a0.2.1 (IntKind.wrap .i64 (64 * a0.2.2.2.1)) r3 _ hr4) (by kernel_rfl) ((List.perm_middle (a := Res.disk Tryz.prog dI p100 a100) (l₁ := [Res.var b2 69 (.pair (.raw (.pointer none)) (.pair .str (.pair (.int .i64) (.pair (.int .i64) .unit)))) (p100, a0.2.1, a0.2.2.1, a0.2.2.2.1, a0.2.2.2.2)]) (l₂ := [])).trans (.cons _ (List.Perm.refl _))) rfl rfl fun _ => ?_
      refine r_nil ?_
      refine r_then ?_
      refine h_in (allis_cons (var_is 1 rfl) allis_nil) ?_
      refine r_less [0, 1, 33] rfl ?_
      refine h_take (i := 16) (t := .one (.int .i64) r4.1) (blind_then (blind_then blind_body)) rfl (by kernel_rfl) (by kernel_rfl) (by kernel_rfl) (allis_cons (var_is 1 rfl) allis_nil) (y_pure tabOk rfl) rfl ?_
      refine h_end (by kernel_rfl) ?_
      refine r_then ?_
      refine r_seq ?_
      refine r_region ?_
      refine r_pure tabOk 2 [0, 1, 5, 35] (E' := [(0, ptr b2 0), (1, .one (.int .i64) a1), (5, .one (.int .i64) r4.1), (35, .one .bool (r4.1 != 0))]) rfl ?_
      refine r_nil ?_
      refine r_then ?_
      refine r_if (b := (r4.1 != 0)) rfl (fun hc => ?_) (fun hc => ?_)
      · rw [if_pos hc] at h
        refine r_seq ?_
        refine r_region ?_
        refine r_pure tabOk 2 [4] (E' := [(4, .one (.int .i64) r4.1)]) rfl ?_
        refine r_nil ?_
        refine r_then ?_
        refine r_ret ?_
        refine t_then ?_
        refine r_perm (L' := [Res.var b2 69 (.pair (.raw (.pointer none)) (.pair .str (.pair (.int .i64) (.pair (.int .i64) .unit)))) (p100, a0.2.1, a0.2.2.1, a0.2.2.2.1, a0.2.2.2.2), Res.disk Tryz.prog dI p100 r4.2]) ((List.perm_middle (a := Res.var b2 69 (.pair (.raw (.pointer none)) (.pair .str (.pair (.int .i64) (.pair (.int .i64) .unit)))) (p100, a0.2.1, a0.2.2.1, a0.2.2.2.1, a0.2.2.2.2)) (l₁ := [Res.disk Tryz.prog dI p100 r4.2]) (l₂ := [])).trans (.cons _ (List.Perm.refl _))) ?_
        refine r_CMark (x := a0) (q := p100) ?_
        obtain rfl := Option.some.inj h
        exact r_ret1 rfl (.tmp rfl) (fun _ _ g => g) (fun _ _ _ => (.cons_cons _ (.cons_cons _ .slnil)))
      · rw [if_neg (ne_true_of_eq_false hc)] at h
        refine r_skip ?_
        refine r_then ?_
        refine r_seq ?_
        refine r_seq ?_
        refine r_any (by kernel_rfl) ?_
        refine a_float (i := 0) (t := ptr b2 0) (blind_then (blind_then blind_body)) rfl (by kernel_rfl) (by kernel_rfl) (by kernel_rfl) (y_pure tabOk rfl) rfl ?_
        refine a_float (i := 4) (t := ptr b2 0) (blind_then (blind_then blind_body)) rfl (by kernel_rfl) (by kernel_rfl) (by kernel_rfl) (y_pure tabOk rfl) rfl ?_
        refine a_two (i := 1) (j := 5) (by kernel_rfl) rfl rfl ?_ ?_
        · refine r_pure tabOk 1 [0, 1, 38, 41] (E' := [(0, ptr b2 0), (1, .one (.int .i64) a1), (38, ptr b2 0), (41, ptr b2 0)]) rfl ?_
          refine r_nil ?_
          refine r_then ?_
          refine r_less [0, 1, 38, 41] rfl ?_
          refine a_float (i := 2) (t := ptr b2 0) (blind_then (blind_then blind_body)) rfl (by kernel_rfl) (by kernel_rfl) (by kernel_rfl) (y_pure tabOk rfl) rfl ?_
          refine a_two (i := 3) (j := 5) (by kernel_rfl) rfl rfl ?_ ?_
          · refine y (y_load 1 ((.fst .here)) rfl rfl (by first | rfl | (simp only [Pth.off, T.size]; omega)) (ok_fst ok_here) ty30) rfl ?_
            refine r_nil ?_
            refine r_then ?_
            refine r_less [0, 1, 40, 41] rfl ?_
            refine a_one (i := 5) (by kernel_rfl) rfl ?_
            refine r_pure tabOk 1 [0, 1, 40, 42] (E' := [(0, ptr b2 0), (1, .one (.int .i64) a1), (40, .one (.raw (.pointer none)) p100), (42, ptr b2 0)]) rfl ?_
            refine r_nil ?_
            refine r_then ?_
            refine r_less [0, 1, 40, 42] rfl ?_
            refine a_float (i := 6) (t := ptr b2 1) (blind_then (blind_then blind_body)) rfl (by kernel_rfl) (by kernel_rfl) (by kernel_rfl) (y_pure tabOk rfl) rfl ?_
            refine a_one (i := 7) (by kernel_rfl) rfl ?_
            refine y (y_load 1 ((.snd (.fst .here))) rfl rfl (by first | rfl | (simp only [Pth.off, T.size]; omega)) (ok_snd (ok_fst ok_here)) ty9) rfl ?_
            refine r_nil ?_
            refine r_then ?_
            refine r_less [0, 1, 40, 44] rfl ?_
            refine a_one (i := 8) (by kernel_rfl) rfl ?_
            obtain ⟨r5, hr5, h⟩ := bind_ex h
            refine r_call (Lo := [Res.var b2 69 (.pair (.raw (.pointer none)) (.pair .str (.pair (.int .i64) (.pair (.int .i64) .unit)))) (p100, a0.2.1, a0.2.2.1, a0.2.2.2.1, a0.2.2.2.2)]) (disk_Disk_Sync_ok p100 r4.2 a0.2.1 _ hr5) (by kernel_rfl) (List.Perm.refl _) rfl rfl fun _ => ?_
            refine r_nil ?_
            refine r_then ?_
            refine r_less [0, 1, 45] rfl ?_
            refine a_float (i := 9) (t := .one (.int .i64) r5.1) (blind_then (blind_then blind_body)) rfl (by kernel_rfl) (by kernel_rfl) (by kernel_rfl) (y_pure tabOk rfl) rfl ?_
            refine a_end (by kernel_rfl) ?_
            refine r_then ?_
            refine r_seq ?_
            refine r_region ?_
            refine r_pure tabOk 2 [0, 1, 6, 47] (E' := [(0, ptr b2 0), (1, .one (.int .i64) a1), (6, .one (.int .i64) r5.1), (47, .one .bool (r5.1 != 0))]) rfl ?_
            refine r_nil ?_
            refine r_then ?_
            refine r_if (b := (r5.1 != 0)) rfl (fun hc => ?_) (fun hc => ?_)
            · rw [if_pos hc] at h
              refine r_seq ?_
              refine r_region ?_
              refine r_pure tabOk 2 [4] (E' := [(4, .one (.int .i64) r5.1)]) rfl ?_
              refine r_nil ?_
              refine r_then ?_
              refine r_ret ?_
              refine t_then ?_
              refine r_perm (L' := [Res.var b2 69 (.pair (.raw (.pointer none)) (.pair .str (.pair (.int .i64) (.pair (.int .i64) .unit)))) (p100, a0.2.1, a0.2.2.1, a0.2.2.2.1, a0.2.2.2.2), Res.disk Tryz.prog dI p100 r5.2]) ((List.perm_middle (a := Res.var b2 69 (.pair (.raw (.pointer none)) (.pair .str (.pair (.int .i64) (.pair (.int .i64) .unit)))) (p100, a0.2.1, a0.2.2.1, a0.2.2.2.1, a0.2.2.2.2)) (l₁ := [Res.disk Tryz.prog dI p100 r5.2]) (l₂ := [])).trans (.cons _ (List.Perm.refl _))) ?_
              refine r_CMark (x := a0) (q := p100) ?_
              obtain rfl := Option.some.inj h
              exact r_ret1 rfl (.tmp rfl) (fun _ _ g => g) (fun _ _ _ => (.cons_cons _ (.cons_cons _ .slnil)))
            · rw [if_neg (ne_true_of_eq_false hc)] at h
              refine r_skip ?_
              refine r_then ?_
              refine r_seq ?_
              refine r_region ?_
              refine r_pure tabOk 6 [49, 50, 51, 54] (E' := [(49, ptr b2 0), (50, ptr b2 0), (51, .one (.int .i64) a1), (54, ptr b2 3)]) rfl ?_
              refine y (y_load 1 ((.snd (.snd (.snd (.fst .here))))) rfl rfl (by first | rfl | (simp only [Pth.off, T.size]; omega)) (ok_snd (ok_snd (ok_snd (ok_fst ok_here)))) ty3) rfl ?_
              refine r_pure tabOk 3 [50, 51, 56, 58] (E' := [(50, ptr b2 0), (51, .one (.int .i64) a1), (56, .one (.int .i64) (IntKind.wrap .i64 (1 - a0.2.2.2.1))), (58, ptr b2 2)]) rfl ?_
              refine r_store 1 ((.snd (.snd (.fst .here)))) rfl rfl rfl (by first | rfl | (simp only [Pth.off, T.size]; omega)) (ok_snd (ok_snd (ok_fst ok_here))) ty2 ?_
              refine r_pure tabOk 2 [56, 60] (E' := [(56, .one (.int .i64) (IntKind.wrap .i64 (1 - a0.2.2.2.1))), (60, ptr b2 3)]) rfl ?_
              refine r_store 1 ((.snd (.snd (.snd (.fst .here))))) rfl rfl rfl (by first | rfl | (simp only [Pth.off, T.size]; omega)) (ok_snd (ok_snd (ok_snd (ok_fst ok_here)))) ty3 ?_
              refine r_nil ?_
              refine r_then ?_
              refine r_seq ?_
              refine r_region ?_
              refine r_pure tabOk 1 [4] (E' := [(4, .one (.int .i64) 0)]) rfl ?_
              refine r_nil ?_
              refine r_then ?_
              refine r_ret ?_
              refine r_perm (L' := [Res.var b2 69 (.pair (.raw (.pointer none)) (.pair .str (.pair (.int .i64) (.pair (.int .i64) .unit)))) (p100, a0.2.1, a1, (IntKind.wrap .i64 (1 - a0.2.2.2.1)), a0.2.2.2.2), Res.disk Tryz.prog dI p100 r5.2]) ((List.perm_middle (a := Res.var b2 69 (.pair (.raw (.pointer none)) (.pair .str (.pair (.int .i64) (.pair (.int .i64) .unit)))) (p100, a0.2.1, a1, (IntKind.wrap .i64 (1 - a0.2.2.2.1)), a0.2.2.2.2)) (l₁ := [Res.disk Tryz.prog dI p100 r5.2]) (l₂ := [])).trans (.cons _ (List.Perm.refl _))) ?_
              refine r_CMark (x := ((), a0.2.1, a1, (IntKind.wrap .i64 (1 - a0.2.2.2.1)), a0.2.2.2.2)) (q := p100) ?_
              obtain rfl := Option.some.inj h
              exact r_ret1 rfl (.tmp rfl) (fun _ _ g => g) (fun _ _ _ => (.cons_cons _ (.cons_cons _ .slnil)))
          · refine r_pure tabOk 1 [0, 1, 39, 42] (E' := [(0, ptr b2 0), (1, .one (.int .i64) a1), (39, ptr b2 0), (42, ptr b2 0)]) rfl ?_
            refine r_nil ?_
            refine r_then ?_
            refine r_less [0, 1, 39, 42] rfl ?_
            refine a_float (i := 6) (t := ptr b2 1) (blind_then (blind_then blind_body)) rfl (by kernel_rfl) (by kernel_rfl) (by kernel_rfl) (y_pure tabOk rfl) rfl ?_
            refine a_pref (fuel := 2) [3, 7] #[true, true, true, true, true, true, true, true, false, false] (by kernel_rfl) ?_
            refine q_y (y_load 1 ((.fst .here)) rfl rfl (by first | rfl | (simp only [Pth.off, T.size]; omega)) (ok_fst ok_here) ty30) rfl ?_
            refine q_y (y_load 1 ((.snd (.fst .here))) rfl rfl (by first | rfl | (simp only [Pth.off, T.size]; omega)) (ok_snd (ok_fst ok_here)) ty9) rfl ?_
            refine q_nil ?_
            refine r_less [0, 1, 40, 44] rfl ?_
            refine a_one (i := 8) (by kernel_rfl) rfl ?_
            obtain ⟨r5, hr5, h⟩ := bind_ex h
            refine r_call (Lo := [Res.var b2 69 (.pair (.raw (.pointer none)) (.pair .str (.pair (.int .i64) (.pair (.int .i64) .unit)))) (p100, a0.2.1, a0.2.2.1, a0.2.2.2.1, a0.2.2.2.2)]) (disk_Disk_Sync_ok p100 r4.2 a0.2.1 _ hr5) (by kernel_rfl) (List.Perm.refl _) rfl rfl fun _ => ?_
            refine r_nil ?_
            refine r_then ?_
            refine r_less [0, 1, 45] rfl ?_
            refine a_float (i := 9) (t := .one (.int .i64) r5.1) (blind_then (blind_then blind_body)) rfl (by kernel_rfl) (by kernel_rfl) (by kernel_rfl) (y_pure tabOk rfl) rfl ?_
            refine a_end (by kernel_rfl) ?_
            refine r_then ?_
            refine r_seq ?_
            refine r_region ?_
            refine r_pure tabOk 2 [0, 1, 6, 47] (E' := [(0, ptr b2 0), (1, .one (.int .i64) a1), (6, .one (.int .i64) r5.1), (47, .one .bool (r5.1 != 0))]) rfl ?_
            refine r_nil ?_
            refine r_then ?_
            refine r_if (b := (r5.1 != 0)) rfl (fun hc => ?_) (fun hc => ?_)
            · rw [if_pos hc] at h
              refine r_seq ?_
              refine r_region ?_
              refine r_pure tabOk 2 [4] (E' := [(4, .one (.int .i64) r5.1)]) rfl ?_
              refine r_nil ?_
              refine r_then ?_
              refine r_ret ?_
              refine t_then ?_
              refine r_perm (L' := [Res.var b2 69 (.pair (.raw (.pointer none)) (.pair .str (.pair (.int .i64) (.pair (.int .i64) .unit)))) (p100, a0.2.1, a0.2.2.1, a0.2.2.2.1, a0.2.2.2.2), Res.disk Tryz.prog dI p100 r5.2]) ((List.perm_middle (a := Res.var b2 69 (.pair (.raw (.pointer none)) (.pair .str (.pair (.int .i64) (.pair (.int .i64) .unit)))) (p100, a0.2.1, a0.2.2.1, a0.2.2.2.1, a0.2.2.2.2)) (l₁ := [Res.disk Tryz.prog dI p100 r5.2]) (l₂ := [])).trans (.cons _ (List.Perm.refl _))) ?_
              refine r_CMark (x := a0) (q := p100) ?_
              obtain rfl := Option.some.inj h
              exact r_ret1 rfl (.tmp rfl) (fun _ _ g => g) (fun _ _ _ => (.cons_cons _ (.cons_cons _ .slnil)))
            · rw [if_neg (ne_true_of_eq_false hc)] at h
              refine r_skip ?_
              refine r_then ?_
              refine r_seq ?_
              refine r_region ?_
              refine r_pure tabOk 6 [49, 50, 51, 54] (E' := [(49, ptr b2 0), (50, ptr b2 0), (51, .one (.int .i64) a1), (54, ptr b2 3)]) rfl ?_
              refine y (y_load 1 ((.snd (.snd (.snd (.fst .here))))) rfl rfl (by first | rfl | (simp only [Pth.off, T.size]; omega)) (ok_snd (ok_snd (ok_snd (ok_fst ok_here)))) ty3) rfl ?_
              refine r_pure tabOk 3 [50, 51, 56, 58] (E' := [(50, ptr b2 0), (51, .one (.int .i64) a1), (56, .one (.int .i64) (IntKind.wrap .i64 (1 - a0.2.2.2.1))), (58, ptr b2 2)]) rfl ?_
              refine r_store 1 ((.snd (.snd (.fst .here)))) rfl rfl rfl (by first | rfl | (simp only [Pth.off, T.size]; omega)) (ok_snd (ok_snd (ok_fst ok_here))) ty2 ?_
              refine r_pure tabOk 2 [56, 60] (E' := [(56, .one (.int .i64) (IntKind.wrap .i64 (1 - a0.2.2.2.1))), (60, ptr b2 3)]) rfl ?_
              refine r_store 1 ((.snd (.snd (.snd (.fst .here))))) rfl rfl rfl (by first | rfl | (simp only [Pth.off, T.size]; omega)) (ok_snd (ok_snd (ok_snd (ok_fst ok_here)))) ty3 ?_
              refine r_nil ?_
              refine r_then ?_
              refine r_seq ?_
              refine r_region ?_
              refine r_pure tabOk 1 [4] (E' := [(4, .one (.int .i64) 0)]) rfl ?_
              refine r_nil ?_
              refine r_then ?_
              refine r_ret ?_
              refine r_perm (L' := [Res.var b2 69 (.pair (.raw (.pointer none)) (.pair .str (.pair (.int .i64) (.pair (.int .i64) .unit)))) (p100, a0.2.1, a1, (IntKind.wrap .i64 (1 - a0.2.2.2.1)), a0.2.2.2.2), Res.disk Tryz.prog dI p100 r5.2]) ((List.perm_middle (a := Res.var b2 69 (.pair (.raw (.pointer none)) (.pair .str (.pair (.int .i64) (.pair (.int .i64) .unit)))) (p100, a0.2.1, a1, (IntKind.wrap .i64 (1 - a0.2.2.2.1)), a0.2.2.2.2)) (l₁ := [Res.disk Tryz.prog dI p100 r5.2]) (l₂ := [])).trans (.cons _ (List.Perm.refl _))) ?_
              refine r_CMark (x := ((), a0.2.1, a1, (IntKind.wrap .i64 (1 - a0.2.2.2.1)), a0.2.2.2.2)) (q := p100) ?_
              obtain rfl := Option.some.inj h
              exact r_ret1 rfl (.tmp rfl) (fun _ _ g => g) (fun _ _ _ => (.cons_cons _ (.cons_cons _ .slnil)))
        · refine r_pure tabOk 1 [0, 1, 37, 42] (E' := [(0, ptr b2 0), (1, .one (.int .i64) a1), (37, ptr b2 0), (42, ptr b2 0)]) rfl ?_
          refine r_nil ?_
          refine r_then ?_
          refine r_less [0, 1, 37, 42] rfl ?_
          refine a_float (i := 6) (t := ptr b2 1) (blind_then (blind_then blind_body)) rfl (by kernel_rfl) (by kernel_rfl) (by kernel_rfl) (y_pure tabOk rfl) rfl ?_
          refine a_two (i := 1) (j := 7) (by kernel_rfl) rfl rfl ?_ ?_
          · refine r_pure tabOk 1 [0, 1, 38, 43] (E' := [(0, ptr b2 0), (1, .one (.int .i64) a1), (38, ptr b2 0), (43, ptr b2 1)]) rfl ?_
            refine r_nil ?_
            refine r_then ?_
            refine r_less [0, 1, 38, 43] rfl ?_
            refine a_float (i := 2) (t := ptr b2 0) (blind_then (blind_then blind_body)) rfl (by kernel_rfl) (by kernel_rfl) (by kernel_rfl) (y_pure tabOk rfl) rfl ?_
            refine a_pref (fuel := 2) [3, 7] #[true, true, true, true, true, true, true, true, false, false] (by kernel_rfl) ?_
            refine q_y (y_load 1 ((.fst .here)) rfl rfl (by first | rfl | (simp only [Pth.off, T.size]; omega)) (ok_fst ok_here) ty30) rfl ?_
            refine q_y (y_load 1 ((.snd (.fst .here))) rfl rfl (by first | rfl | (simp only [Pth.off, T.size]; omega)) (ok_snd (ok_fst ok_here)) ty9) rfl ?_
            refine q_nil ?_
            refine r_less [0, 1, 40, 44] rfl ?_
            refine a_one (i := 8) (by kernel_rfl) rfl ?_
            obtain ⟨r5, hr5, h⟩ := bind_ex h
            refine r_call (Lo := [Res.var b2 69 (.pair (.raw (.pointer none)) (.pair .str (.pair (.int .i64) (.pair (.int .i64) .unit)))) (p100, a0.2.1, a0.2.2.1, a0.2.2.2.1, a0.2.2.2.2)]) (disk_Disk_Sync_ok p100 r4.2 a0.2.1 _ hr5) (by kernel_rfl) (List.Perm.refl _) rfl rfl fun _ => ?_
            refine r_nil ?_
            refine r_then ?_
            refine r_less [0, 1, 45] rfl ?_
            refine a_float (i := 9) (t := .one (.int .i64) r5.1) (blind_then (blind_then blind_body)) rfl (by kernel_rfl) (by kernel_rfl) (by kernel_rfl) (y_pure tabOk rfl) rfl ?_
            refine a_end (by kernel_rfl) ?_
            refine r_then ?_
            refine r_seq ?_
            refine r_region ?_
            refine r_pure tabOk 2 [0, 1, 6, 47] (E' := [(0, ptr b2 0), (1, .one (.int .i64) a1), (6, .one (.int .i64) r5.1), (47, .one .bool (r5.1 != 0))]) rfl ?_
            refine r_nil ?_
            refine r_then ?_
            refine r_if (b := (r5.1 != 0)) rfl (fun hc => ?_) (fun hc => ?_)
            · rw [if_pos hc] at h
              refine r_seq ?_
              refine r_region ?_
              refine r_pure tabOk 2 [4] (E' := [(4, .one (.int .i64) r5.1)]) rfl ?_
              refine r_nil ?_
              refine r_then ?_
              refine r_ret ?_
              refine t_then ?_
              refine r_perm (L' := [Res.var b2 69 (.pair (.raw (.pointer none)) (.pair .str (.pair (.int .i64) (.pair (.int .i64) .unit)))) (p100, a0.2.1, a0.2.2.1, a0.2.2.2.1, a0.2.2.2.2), Res.disk Tryz.prog dI p100 r5.2]) ((List.perm_middle (a := Res.var b2 69 (.pair (.raw (.pointer none)) (.pair .str (.pair (.int .i64) (.pair (.int .i64) .unit)))) (p100, a0.2.1, a0.2.2.1, a0.2.2.2.1, a0.2.2.2.2)) (l₁ := [Res.disk Tryz.prog dI p100 r5.2]) (l₂ := [])).trans (.cons _ (List.Perm.refl _))) ?_
              refine r_CMark (x := a0) (q := p100) ?_
              obtain rfl := Option.some.inj h
              exact r_ret1 rfl (.tmp rfl) (fun _ _ g => g) (fun _ _ _ => (.cons_cons _ (.cons_cons _ .slnil)))
            · rw [if_neg (ne_true_of_eq_false hc)] at h
              refine r_skip ?_
              refine r_then ?_
              refine r_seq ?_
              refine r_region ?_
              refine r_pure tabOk 6 [49, 50, 51, 54] (E' := [(49, ptr b2 0), (50, ptr b2 0), (51, .one (.int .i64) a1), (54, ptr b2 3)]) rfl ?_
              refine y (y_load 1 ((.snd (.snd (.snd (.fst .here))))) rfl rfl (by first | rfl | (simp only [Pth.off, T.size]; omega)) (ok_snd (ok_snd (ok_snd (ok_fst ok_here)))) ty3) rfl ?_
              refine r_pure tabOk 3 [50, 51, 56, 58] (E' := [(50, ptr b2 0), (51, .one (.int .i64) a1), (56, .one (.int .i64) (IntKind.wrap .i64 (1 - a0.2.2.2.1))), (58, ptr b2 2)]) rfl ?_
              refine r_store 1 ((.snd (.snd (.fst .here)))) rfl rfl rfl (by first | rfl | (simp only [Pth.off, T.size]; omega)) (ok_snd (ok_snd (ok_fst ok_here))) ty2 ?_
              refine r_pure tabOk 2 [56, 60] (E' := [(56, .one (.int .i64) (IntKind.wrap .i64 (1 - a0.2.2.2.1))), (60, ptr b2 3)]) rfl ?_
              refine r_store 1 ((.snd (.snd (.snd (.fst .here))))) rfl rfl rfl (by first | rfl | (simp only [Pth.off, T.size]; omega)) (ok_snd (ok_snd (ok_snd (ok_fst ok_here)))) ty3 ?_
              refine r_nil ?_
              refine r_then ?_
              refine r_seq ?_
              refine r_region ?_
              refine r_pure tabOk 1 [4] (E' := [(4, .one (.int .i64) 0)]) rfl ?_
              refine r_nil ?_
              refine r_then ?_
              refine r_ret ?_
              refine r_perm (L' := [Res.var b2 69 (.pair (.raw (.pointer none)) (.pair .str (.pair (.int .i64) (.pair (.int .i64) .unit)))) (p100, a0.2.1, a1, (IntKind.wrap .i64 (1 - a0.2.2.2.1)), a0.2.2.2.2), Res.disk Tryz.prog dI p100 r5.2]) ((List.perm_middle (a := Res.var b2 69 (.pair (.raw (.pointer none)) (.pair .str (.pair (.int .i64) (.pair (.int .i64) .unit)))) (p100, a0.2.1, a1, (IntKind.wrap .i64 (1 - a0.2.2.2.1)), a0.2.2.2.2)) (l₁ := [Res.disk Tryz.prog dI p100 r5.2]) (l₂ := [])).trans (.cons _ (List.Perm.refl _))) ?_
              refine r_CMark (x := ((), a0.2.1, a1, (IntKind.wrap .i64 (1 - a0.2.2.2.1)), a0.2.2.2.2)) (q := p100) ?_
              obtain rfl := Option.some.inj h
              exact r_ret1 rfl (.tmp rfl) (fun _ _ g => g) (fun _ _ _ => (.cons_cons _ (.cons_cons _ .slnil)))
          · refine y (y_load 1 ((.snd (.fst .here))) rfl rfl (by first | rfl | (simp only [Pth.off, T.size]; omega)) (ok_snd (ok_fst ok_here)) ty9) rfl ?_
            refine r_nil ?_
            refine r_then ?_
            refine r_less [0, 1, 37, 44] rfl ?_
            refine a_one (i := 1) (by kernel_rfl) rfl ?_
            refine r_pure tabOk 1 [0, 1, 38, 44] (E' := [(0, ptr b2 0), (1, .one (.int .i64) a1), (38, ptr b2 0), (44, .one .str a0.2.1)]) rfl ?_
            refine r_nil ?_
            refine r_then ?_
            refine r_less [0, 1, 38, 44] rfl ?_
            refine a_float (i := 2) (t := ptr b2 0) (blind_then (blind_then blind_body)) rfl (by kernel_rfl) (by kernel_rfl) (by kernel_rfl) (y_pure tabOk rfl) rfl ?_
            refine a_one (i := 3) (by kernel_rfl) rfl ?_
            refine y (y_load 1 ((.fst .here)) rfl rfl (by first | rfl | (simp only [Pth.off, T.size]; omega)) (ok_fst ok_here) ty30) rfl ?_
            refine r_nil ?_
            refine r_then ?_
            refine r_less [0, 1, 40, 44] rfl ?_
            refine a_one (i := 8) (by kernel_rfl) rfl ?_
            obtain ⟨r5, hr5, h⟩ := bind_ex h
            refine r_call (Lo := [Res.var b2 69 (.pair (.raw (.pointer none)) (.pair .str (.pair (.int .i64) (.pair (.int .i64) .unit)))) (p100, a0.2.1, a0.2.2.1, a0.2.2.2.1, a0.2.2.2.2)]) (disk_Disk_Sync_ok p100 r4.2 a0.2.1 _ hr5) (by kernel_rfl) (List.Perm.refl _) rfl rfl fun _ => ?_
            refine r_nil ?_
            refine r_then ?_
            refine r_less [0, 1, 45] rfl ?_
            refine a_float (i := 9) (t := .one (.int .i64) r5.1) (blind_then (blind_then blind_body)) rfl (by kernel_rfl) (by kernel_rfl) (by kernel_rfl) (y_pure tabOk rfl) rfl ?_
            refine a_end (by kernel_rfl) ?_
            refine r_then ?_
            refine r_seq ?_
            refine r_region ?_
            refine r_pure tabOk 2 [0, 1, 6, 47] (E' := [(0, ptr b2 0), (1, .one (.int .i64) a1), (6, .one (.int .i64) r5.1), (47, .one .bool (r5.1 != 0))]) rfl ?_
            refine r_nil ?_
            refine r_then ?_
            refine r_if (b := (r5.1 != 0)) rfl (fun hc => ?_) (fun hc => ?_)
            · rw [if_pos hc] at h
              refine r_seq ?_
              refine r_region ?_
              refine r_pure tabOk 2 [4] (E' := [(4, .one (.int .i64) r5.1)]) rfl ?_
              refine r_nil ?_
              refine r_then ?_
              refine r_ret ?_
              refine t_then ?_
              refine r_perm (L' := [Res.var b2 69 (.pair (.raw (.pointer none)) (.pair .str (.pair (.int .i64) (.pair (.int .i64) .unit)))) (p100, a0.2.1, a0.2.2.1, a0.2.2.2.1, a0.2.2.2.2), Res.disk Tryz.prog dI p100 r5.2]) ((List.perm_middle (a := Res.var b2 69 (.pair (.raw (.pointer none)) (.pair .str (.pair (.int .i64) (.pair (.int .i64) .unit)))) (p100, a0.2.1, a0.2.2.1, a0.2.2.2.1, a0.2.2.2.2)) (l₁ := [Res.disk Tryz.prog dI p100 r5.2]) (l₂ := [])).trans (.cons _ (List.Perm.refl _))) ?_
              refine r_CMark (x := a0) (q := p100) ?_
              obtain rfl := Option.some.inj h
              exact r_ret1 rfl (.tmp rfl) (fun _ _ g => g) (fun _ _ _ => (.cons_cons _ (.cons_cons _ .slnil)))
            · rw [if_neg (ne_true_of_eq_false hc)] at h
              refine r_skip ?_
              refine r_then ?_
              refine r_seq ?_
              refine r_region ?_
              refine r_pure tabOk 6 [49, 50, 51, 54] (E' := [(49, ptr b2 0), (50, ptr b2 0), (51, .one (.int .i64) a1), (54, ptr b2 3)]) rfl ?_
              refine y (y_load 1 ((.snd (.snd (.snd (.fst .here))))) rfl rfl (by first | rfl | (simp only [Pth.off, T.size]; omega)) (ok_snd (ok_snd (ok_snd (ok_fst ok_here)))) ty3) rfl ?_
              refine r_pure tabOk 3 [50, 51, 56, 58] (E' := [(50, ptr b2 0), (51, .one (.int .i64) a1), (56, .one (.int .i64) (IntKind.wrap .i64 (1 - a0.2.2.2.1))), (58, ptr b2 2)]) rfl ?_
              refine r_store 1 ((.snd (.snd (.fst .here)))) rfl rfl rfl (by first | rfl | (simp only [Pth.off, T.size]; omega)) (ok_snd (ok_snd (ok_fst ok_here))) ty2 ?_
              refine r_pure tabOk 2 [56, 60] (E' := [(56, .one (.int .i64) (IntKind.wrap .i64 (1 - a0.2.2.2.1))), (60, ptr b2 3)]) rfl ?_
              refine r_store 1 ((.snd (.snd (.snd (.fst .here))))) rfl rfl rfl (by first | rfl | (simp only [Pth.off, T.size]; omega)) (ok_snd (ok_snd (ok_snd (ok_fst ok_here)))) ty3 ?_
              refine r_nil ?_
              refine r_then ?_
              refine r_seq ?_
              refine r_region ?_
              refine r_pure tabOk 1 [4] (E' := [(4, .one (.int .i64) 0)]) rfl ?_
              refine r_nil ?_
              refine r_then ?_
              refine r_ret ?_
              refine r_perm (L' := [Res.var b2 69 (.pair (.raw (.pointer none)) (.pair .str (.pair (.int .i64) (.pair (.int .i64) .unit)))) (p100, a0.2.1, a1, (IntKind.wrap .i64 (1 - a0.2.2.2.1)), a0.2.2.2.2), Res.disk Tryz.prog dI p100 r5.2]) ((List.perm_middle (a := Res.var b2 69 (.pair (.raw (.pointer none)) (.pair .str (.pair (.int .i64) (.pair (.int .i64) .unit)))) (p100, a0.2.1, a1, (IntKind.wrap .i64 (1 - a0.2.2.2.1)), a0.2.2.2.2)) (l₁ := [Res.disk Tryz.prog dI p100 r5.2]) (l₂ := [])).trans (.cons _ (List.Perm.refl _))) ?_
              refine r_CMark (x := ((), a0.2.1, a1, (IntKind.wrap .i64 (1 - a0.2.2.2.1)), a0.2.2.2.2)) (q := p100) ?_
              obtain rfl := Option.some.inj h
              exact r_ret1 rfl (.tmp rfl) (fun _ _ g => g) (fun _ _ _ => (.cons_cons _ (.cons_cons _ .slnil)))

theorem sortS : SortOk Tryz.prog 31 Go.Proofs.encStr (fun x y => decide (x ≤ y)) := sortS_of Tryz.laysSortS

theorem disk_Disk_List_ok (p0 : Value) (a0 : DiskS) (r : List (List Int)) (h : disk_Disk_List a0 = some r) : Fn Tryz.prog 18 [.one (.raw NV) p0] [Res.disk Tryz.prog dI p0 a0] (fun v => .one (.raw (.slice none 0 0)) v) (fun v => [Res.disk Tryz.prog dI p0 a0, Res.own v 9 .str r]) := by
  unfold disk_Disk_List at h
  refine enter Tryz.func18 rfl 25 rfl rfl fun F => ?_
  refine r_undisk fun b2 mv1 hp => ?_
  subst hp
  refine r_seq ?_
  refine r_region ?_
  refine r_pure tabOk 1 [0] (E' := [(0, ptr b2 0)]) rfl ?_
  refine r_nil ?_
  refine r_then ?_
  refine r_seq ?_
  refine r_seq ?_
  refine r_region ?_
  refine r_pure tabOk 3 [0, 7] (E' := [(0, ptr b2 0), (7, ptr b2 5)]) rfl ?_
  refine y (y_load 0 (.snd (.snd (.snd (.snd (.snd (.fst .here)))))) rfl rfl (by first | rfl | (simp only [Pth.off, T.size]; omega)) (ok_snd (ok_snd (ok_snd (ok_snd (ok_snd (ok_fst ok_here)))))) ty4) rfl ?_
  refine r_nil ?_
  refine r_then ?_
  refine r_if (b := a0.2.2.2.2.2.1) rfl (fun hc => ?_) (fun hc => ?_)
  · rw [if_pos hc] at h
    refine r_seq ?_
    refine r_region ?_
    refine r_pure tabOk 1 [2] (E' := [(2, .one (.raw (.slice none 0 0)) (.slice none 0 0))]) rfl ?_
    refine r_nil ?_
    refine r_then ?_
    refine r_ret ?_
    refine t_then ?_
    refine r_disk (P := Tryz.prog) (I := dI) (D := a0) ?_
    refine r_nilown (.slice none 0 0) rfl 9 .str ?_
    refine r_swap ?_
    obtain rfl := Option.some.inj h
    exact r_ret1 rfl (.tmp rfl) (fun _ _ g => raw_self g) (fun _ _ g => by obtain ⟨rfl, _⟩ := holds_raw.1 g; exact List.Sublist.refl _)
  · rw [if_neg (ne_true_of_eq_false hc)] at h
    obtain ⟨hlen, h⟩ := ite_ex h
    obtain rfl := Option.some.inj h
    refine r_skip ?_
    refine r_then ?_
    refine r_seq ?_
    refine r_region ?_
    refine r_pure tabOk 1 [0, 3] (E' := [(0, ptr b2 0), (3, .one (.raw (.slice none 0 0)) (.slice none 0 0))]) rfl ?_
    refine r_nil ?_
    refine r_then ?_
    repeat refine r_seq ?_
    refine r_region ?_
    refine r_pure tabOk 3 [0, 3, 11] (E' := [(0, ptr b2 0), (3, .one (.raw (.slice none 0 0)) (.slice none 0 0)), (11, ptr b2 1)]) rfl ?_
    refine y (y_load 0 (.snd (.fst .here)) rfl rfl (by first | rfl | (simp only [Pth.off, T.size]; omega)) (ok_snd (ok_fst ok_here)) ty54) rfl ?_
    refine r_swap ?_
    refine r_drange kstr rfl Tryz.underlying54 rfl fun it6 hn7 => ?_
    refine r_nil ?_
    refine r_then ?_
    refine r_block ?_
    refine r_nilown (.slice none 0 0) rfl 9 .str ?_
    refine r_less [0, 3, 13] rfl ?_
    refine r_fact (p := (([] : List (List Int)) ++ a0.2.1.map (·.1)).Perm (a0.2.1.map (·.1))) (List.Perm.refl _) ?_
    refine r_loopI (σ := List (List Int) × Value × List (List Int)) (fun s => [(0, ptr b2 0), (3, .one (.raw (.slice none 0 0)) s.2.1), (13, .one (.raw (.pointer none)) it6)]) (fun s => [Res.fact ((s.2.2 ++ s.1).Perm (a0.2.1.map (·.1))), Res.own s.2.1 9 .str s.2.2, Res.diter Tryz.prog dI mv1 it6 a0.2.1 s.1 none none, Res.var b2 56 DT (a0.1, mv1, a0.2.2.1, a0.2.2.2.1, a0.2.2.2.2.1, a0.2.2.2.2.2.1, a0.2.2.2.2.2.2, ())]) (fun s => s.1.length) (a0.2.1.map (·.1), .slice none 0 0, []) rfl rfl ?_
    rintro ⟨todo, v8, xs⟩
    refine r_unfact fun hperm => ?_
    refine r_swap ?_
    refine r_seq ?_
    refine r_region ?_
    refine r_dnext kstr rfl rfl (fun ht => ?_) (fun A k B q htk hk => ?_)
    · have hperm2 : xs.Perm (a0.2.1.map (·.1)) := by have hp := hperm; simp only at ht hp; rw [ht, List.append_nil] at hp; exact hp
      refine r_dunrange ?_
      refine r_pure tabOk 1 [0, 3, 15] (E' := [(0, ptr b2 0), (3, .one (.raw (.slice none 0 0)) v8), (15, .one .bool false)]) rfl ?_
      refine r_nil ?_
      refine r_then ?_
      refine r_seq ?_
      refine r_if (b := false) rfl (fun hc => ?_) (fun hc => ?_)
      · cases hc
      · refine r_exit ?_
        refine e_then ?_
        refine e_then ?_
        refine e_eq ?_
        refine r_then ?_
        refine r_dsorted kstr fun hko hso => ?_
        refine r_swap ?_
        refine r_seq ?_
        refine r_region ?_
        refine r_pure tabOk 1 [3, 22] (E' := [(3, .one (.raw (.slice none 0 0)) v8), (22, .one (.raw (.slice none 0 0)) v8)]) rfl ?_
        refine r_call (Lo := [Res.dfiles Tryz.prog dI mv1 a0.2.1, Res.var b2 56 DT (a0.1, mv1, a0.2.2.1, a0.2.2.2.1, a0.2.2.2.2.1, a0.2.2.2.2.2.1, a0.2.2.2.2.2.2, ())]) (sortS_fn sortS hperm2 hso (fun x hx => by obtain ⟨p, hp, rfl⟩ := List.mem_map.1 (hperm2.mem_iff.1 hx); exact (hko p hp).1) (by rw [hperm2.length_eq, List.length_map]; omega) v8) (by kernel_rfl) (List.Perm.refl _) rfl rfl fun _ => ?_
        refine r_nil ?_
        refine r_then ?_
        refine r_seq ?_
        refine r_region ?_
        refine r_pure tabOk 2 [2] (E' := [(2, .one (.raw (.slice none 0 0)) v8)]) rfl ?_
        refine r_nil ?_
        refine r_then ?_
        refine r_ret ?_
        refine r_perm (L' := [Res.var b2 56 DT (a0.1, mv1, a0.2.2.1, a0.2.2.2.1, a0.2.2.2.2.1, a0.2.2.2.2.2.1, a0.2.2.2.2.2.2, ()), Res.dfiles Tryz.prog dI mv1 a0.2.1, Res.own v8 9 .str (a0.2.1.map (·.1))]) ((List.Perm.swap _ _ _).trans ((List.Perm.cons _ (List.Perm.swap _ _ _)).trans (List.Perm.swap _ _ _))) ?_
        refine r_disk (P := Tryz.prog) (I := dI) (D := a0) ?_
        exact r_ret1 rfl (.tmp rfl) (fun _ _ g => raw_self g) (fun _ _ g => by obtain ⟨rfl, _⟩ := holds_raw.1 g; exact List.Sublist.refl _)
    · refine r_pure tabOk 1 [0, 3, 13, 15] (E' := [(0, ptr b2 0), (3, .one (.raw (.slice none 0 0)) v8), (13, .one (.raw (.pointer none)) it6), (15, .one .bool true)]) rfl ?_
      refine r_nil ?_
      refine r_then ?_
      refine r_seq ?_
      refine r_if (b := true) rfl (fun hc => ?_) (fun hc => ?_)
      · refine r_skip ?_
        refine r_then ?_
        refine r_block ?_
        refine r_seq ?_
        refine r_region ?_
        refine y (y_dentry rfl 0 rfl) rfl ?_
        refine r_pure tabOk 2 [0, 3, 4, 13] (E' := [(0, ptr b2 0), (3, .one (.raw (.slice none 0 0)) v8), (4, .one .str k), (13, .one (.raw (.pointer none)) it6)]) rfl ?_
        refine r_nil ?_
        refine r_then ?_
        refine r_region ?_
        refine r_pure tabOk 2 [0, 13, 18, 19] (E' := [(0, ptr b2 0), (13, .one (.raw (.pointer none)) it6), (18, .one (.raw (.slice none 0 0)) v8), (19, .one .str k)]) rfl ?_
        refine r_lits (B := 16) tabOk rfl el9 rfl rfl rfl (.cons rfl .nil) rfl fun v9 => ?_
        have hroom : (List.length xs + List.length [k]) * 16 ≤ 140737488355328 := by
          have e1 := hperm.length_eq
          simp only at htk e1
          rw [htk] at e1
          simp only [List.length_append, List.length_cons, List.length_nil, List.length_map] at e1 ⊢
          omega
        refine r_append (B := 16) tabOk 2 rfl rfl (src_own 0 rfl rfl) rfl el9 rfl rfl hroom rfl fun v10 => ?_
        refine r_pure tabOk 1 [0, 3, 13] (E' := [(0, ptr b2 0), (3, .one (.raw (.slice none 0 0)) v10), (13, .one (.raw (.pointer none)) it6)]) rfl ?_
        refine r_nil ?_
        refine r_inblock ?_
        refine r_then ?_
        refine r_lose (L' := [Res.diter Tryz.prog dI mv1 it6 a0.2.1 (A ++ B) (some (k, q)) none, Res.own v10 9 .str (xs ++ [k]), Res.var b2 56 DT (a0.1, mv1, a0.2.2.1, a0.2.2.2.1, a0.2.2.2.2.1, a0.2.2.2.2.2.1, a0.2.2.2.2.2.2, ())]) (.cons _ (List.Sublist.refl _)) ?_
        refine r_imp_at (R' := Res.diter Tryz.prog dI mv1 it6 a0.2.1 (A ++ B) none none) 0 rfl diter_none ?_
        refine r_swap ?_
        refine r_fact (p := ((xs ++ [k]) ++ (A ++ B)).Perm (a0.2.1.map (·.1))) (by
          have hp := hperm
          simp only at htk hp
          rw [htk] at hp
          refine List.Perm.trans ?_ hp
          rw [List.append_assoc]
          exact List.Perm.append_left _ (List.perm_middle (a := k) (l₁ := A) (l₂ := B)).symm) ?_
        exact r_backI (A ++ B, v10, xs ++ [k]) (by simp only at htk ⊢; rw [htk]; simp) rfl rfl
      · cases hc

theorem escrowlaw19_head_ok  (r : Bool) (h : escrowlaw19_head  = some r) : Pure Tryz.prog 4 [] (.one .bool r) := by
  unfold escrowlaw19_head at h
  refine enter Tryz.func4 rfl 86 rfl rfl fun F => ?_
  refine r_seq ?_
  refine r_region ?_
  refine r_pure tabOk 1 [] (E' := []) rfl ?_
  refine r_nil ?_
  refine r_then ?_
  refine r_seq ?_
  refine r_region ?_
  obtain ⟨r1, hr1, h⟩ := bind_ex h
  refine r_call (Lo := []) (disk_New_ok 1000 _ hr1) (by kernel_rfl) (List.Perm.refl _) rfl rfl fun v2 => ?_
  refine r_pure tabOk 5 [1, 2] (E' := [(1, .one (.raw (.pointer none)) (tupv v2 0)), (2, .one (.int .i64) r1.1)]) rfl ?_
  refine r_nil ?_
  refine r_then ?_
  refine r_seq ?_
  refine r_seq ?_
  refine r_region ?_
  refine r_pure tabOk 1 [1, 2, 11] (E' := [(1, .one (.raw (.pointer none)) (tupv v2 0)), (2, .one (.int .i64) r1.1), (11, .one (.raw (.pointer none)) (tupv v2 0))]) rfl ?_
  refine y (y_dnil 0 rfl rfl Tryz.underlying30) rfl ?_
  refine r_pure tabOk 1 [1, 2, 13] (E' := [(1, .one (.raw (.pointer none)) (tupv v2 0)), (2, .one (.int .i64) r1.1), (13, .one .bool (r1.1 != 0))]) rfl ?_
  obtain ⟨b3, hbb3, h⟩ := bnd_ex h
  rw [hbb3]
  refine r_lsplit (γ := Unit) 3 (fun _ => [(1, .one (.raw (.pointer none)) (tupv v2 0)), (16, .one .bool (b3 || (r1.1 != 0)))]) (fun _ => [Res.diskif Tryz.prog dI (tupv v2 0) r1.2 r1.1]) ?_ (fun _ => ?_)
  · clear h
    cases b3 with
    | true =>
    refine r_pure tabOk 3 [1, 16] (E' := [(1, .one (.raw (.pointer none)) (tupv v2 0)), (16, .one .bool true)]) rfl ?_
    refine r_nil ?_
    refine r_then ?_
    exact r_meetg () rfl rfl
    | false =>
    refine r_pure tabOk 3 [1, 16] (E' := [(1, .one (.raw (.pointer none)) (tupv v2 0)), (16, .one .bool (r1.1 != 0))]) rfl ?_
    refine r_nil ?_
    refine r_then ?_
    exact r_meetg () rfl rfl
  refine r_nil ?_
  refine r_then ?_
  refine r_if (b := (b3 || (r1.1 != 0))) rfl (fun hc => ?_) (fun hc => ?_)
  · rw [if_pos hc] at h
    refine r_seq ?_
    refine r_region ?_
    refine r_pure tabOk 1 [0] (E' := [(0, .one .bool false)]) rfl ?_
    refine r_nil ?_
    refine r_then ?_
    refine r_ret ?_
    refine t_then ?_
    obtain rfl := Option.some.inj h
    exact r_ret1 rfl (.tmp rfl) (fun _ _ g => g) (fun _ _ _ => List.nil_sublist _)
  · rw [if_neg (ne_true_of_eq_false hc)] at h
    refine r_skip ?_
    refine r_then ?_
    refine r_seq ?_
    refine r_region ?_
    refine r_pure tabOk 1 [1, 18] (E' := [(1, .one (.raw (.pointer none)) (tupv v2 0)), (18, .one (.raw (.pointer none)) (tupv v2 0))]) rfl ?_
    obtain ⟨he4, h⟩ := ite_ex h
    refine r_imp_at (R' := Res.disk Tryz.prog dI (tupv v2 0) r1.2) 0 rfl (diskif_disk he4) ?_
    obtain ⟨r5, hr5, h⟩ := bind_ex h
    refine r_call (Lo := []) (mark_Open_ok (tupv v2 0) r1.2 [109] _ hr5) (by kernel_rfl) (List.Perm.refl _) rfl rfl fun v6 => ?_
    refine r_pure tabOk 5 [1, 2, 3] (E' := [(1, .one (.raw (.pointer none)) (tupv v2 0)), (2, .one (.int .i64) r5.2.1), (3, .one (.raw (.pointer none)) (tupv v6 0))]) rfl ?_
    refine r_nil ?_
    refine r_then ?_
    refine r_seq ?_
    refine r_seq ?_
    refine r_region ?_
    refine r_pure tabOk 1 [1, 2, 3, 22] (E' := [(1, .one (.raw (.pointer none)) (tupv v2 0)), (2, .one (.int .i64) r5.2.1), (3, .one (.raw (.pointer none)) (tupv v6 0)), (22, .one (.raw (.pointer none)) (tupv v6 0))]) rfl ?_
    refine y (y_cnil 1 rfl rfl Tryz.underlying35) rfl ?_
    refine r_pure tabOk 1 [1, 2, 3, 24] (E' := [(1, .one (.raw (.pointer none)) (tupv v2 0)), (2, .one (.int .i64) r5.2.1), (3, .one (.raw (.pointer none)) (tupv v6 0)), (24, .one .bool (r5.1.1 != 0))]) rfl ?_
    obtain ⟨b7, hbb7, h⟩ := bnd_ex h
    rw [hbb7]
    refine r_lsplit (γ := Unit) 3 (fun _ => [(1, .one (.raw (.pointer none)) (tupv v2 0)), (3, .one (.raw (.pointer none)) (tupv v6 0)), (27, .one .bool (b7 || (r5.2.1 != 0)))]) (fun _ => [Res.disk Tryz.prog dI (tupv v2 0) r5.2.2, Res.clsif (CMark (tupv v2 0)) (tupv v6 0) r5.1.2 r5.1.1]) ?_ (fun _ => ?_)
    · clear h
      cases b7 with
      | true =>
      refine r_pure tabOk 3 [1, 3, 27] (E' := [(1, .one (.raw (.pointer none)) (tupv v2 0)), (3, .one (.raw (.pointer none)) (tupv v6 0)), (27, .one .bool true)]) rfl ?_
      refine r_nil ?_
      refine r_then ?_
      exact r_meetg () rfl rfl
      | false =>
      refine r_pure tabOk 3 [1, 3, 27] (E' := [(1, .one (.raw (.pointer none)) (tupv v2 0)), (3, .one (.raw (.pointer none)) (tupv v6 0)), (27, .one .bool (r5.2.1 != 0))]) rfl ?_
      refine r_nil ?_
      refine r_then ?_
      exact r_meetg () rfl rfl
    refine r_pure tabOk 1 [1, 3, 28] (E' := [(1, .one (.raw (.pointer none)) (tupv v2 0)), (3, .one (.raw (.pointer none)) (tupv v6 0)), (28, .one .bool (b7 || (r5.2.1 != 0)))]) rfl ?_
    obtain ⟨b8, hbb8, h⟩ := bnd_ex h
    rw [hbb8]
    obtain ⟨k9, hk9, h⟩ := bnd_ex h
    refine r_lsplitk (γ := Unit) 4 (fun (o10 : Bool) _ => [(1, .one (.raw (.pointer none)) (tupv v2 0)), (3, .one (.raw (.pointer none)) (tupv v6 0)), (32, .one .bool o10)]) (fun _ _ => [Res.disk Tryz.prog dI (tupv v2 0) r5.2.2, Res.clsif (CMark (tupv v2 0)) (tupv v6 0) r5.1.2 r5.1.1]) k9 r ?_ ?_
    · rcases Bool.eq_false_or_eq_true b8 with hh | hh
      · rw [hh] at h ⊢
        rw [if_pos rfl] at h
        refine r_pure tabOk 4 [1, 3, 32] (E' := [(1, .one (.raw (.pointer none)) (tupv v2 0)), (3, .one (.raw (.pointer none)) (tupv v6 0)), (32, .one .bool true)]) rfl ?_
        refine r_nil ?_
        refine r_less [1, 3, 32] rfl ?_
        refine r_then ?_
        exact r_meetk true () h rfl rfl
      · rw [hh] at h ⊢
        rw [if_neg (by decide)] at h
        refine r_pure tabOk 1 [1, 3, 28, 29] (E' := [(1, .one (.raw (.pointer none)) (tupv v2 0)), (3, .one (.raw (.pointer none)) (tupv v6 0)), (28, .one .bool false), (29, .one (.raw (.pointer none)) (tupv v6 0))]) rfl ?_
        refine r_guard (by rfl) rfl ?_
        obtain ⟨he11, h⟩ := ite_ex h
        refine r_imp_at (R' := Res.cls (CMark (tupv v2 0)) (tupv v6 0) r5.1.2) 1 rfl (clsif_cls he11) ?_
        obtain ⟨r12, hr12, h⟩ := bind_ex h
        refine r_call (Lo := []) (mark_Mark_Value_ok (tupv v6 0) (tupv v2 0) r5.1.2 r5.2.2 _ hr12) (by kernel_rfl) ((List.perm_middle (a := Res.cls (CMark (tupv v2 0)) (tupv v6 0) r5.1.2) (l₁ := [Res.disk Tryz.prog dI (tupv v2 0) r5.2.2]) (l₂ := [])).trans (.cons _ (List.Perm.refl _))) rfl rfl fun _ => ?_
        refine r_pure tabOk 2 [1, 3, 32] (E' := [(1, .one (.raw (.pointer none)) (tupv v2 0)), (3, .one (.raw (.pointer none)) (tupv v6 0)), (32, .one .bool (r12 != (-1)))]) rfl ?_
        refine r_nil ?_
        refine r_less [1, 3, 32] rfl ?_
        refine r_imp_at (R' := Res.clsif (CMark (tupv v2 0)) (tupv v6 0) r5.1.2 r5.1.1) 0 rfl (clsif_of he11) ?_
        refine r_perm (L' := [Res.disk Tryz.prog dI (tupv v2 0) r5.2.2, Res.clsif (CMark (tupv v2 0)) (tupv v6 0) r5.1.2 r5.1.1]) ((List.perm_middle (a := Res.disk Tryz.prog dI (tupv v2 0) r5.2.2) (l₁ := [Res.clsif (CMark (tupv v2 0)) (tupv v6 0) r5.1.2 r5.1.1]) (l₂ := [])).trans (.cons _ (List.Perm.refl _))) ?_
        refine r_then ?_
        exact r_meetk (r12 != (-1)) () h rfl rfl
    · intro o10 _ h
      rw [← hk9] at h
      try dsimp only at h
      refine r_nil ?_
      refine r_then ?_
      refine r_if (b := o10) rfl (fun hc => ?_) (fun hc => ?_)
      · rw [if_pos hc] at h
        refine r_seq ?_
        refine r_region ?_
        refine r_pure tabOk 1 [0] (E' := [(0, .one .bool false)]) rfl ?_
        refine r_nil ?_
        refine r_then ?_
        refine r_ret ?_
        refine t_then ?_
        obtain rfl := Option.some.inj h
        exact r_ret1 rfl (.tmp rfl) (fun _ _ g => g) (fun _ _ _ => List.nil_sublist _)
      · rw [if_neg (ne_true_of_eq_false hc)] at h
        refine r_skip ?_
        refine r_then ?_
        refine r_seq ?_
        refine r_seq ?_
        refine r_region ?_
        refine r_pure tabOk 1 [1, 3, 33] (E' := [(1, .one (.raw (.pointer none)) (tupv v2 0)), (3, .one (.raw (.pointer none)) (tupv v6 0)), (33, .one (.raw (.pointer none)) (tupv v6 0))]) rfl ?_
        obtain ⟨he13, h⟩ := ite_ex h
        refine r_imp_at (R' := Res.cls (CMark (tupv v2 0)) (tupv v6 0) r5.1.2) 1 rfl (clsif_cls he13) ?_
        obtain ⟨r14, hr14, h⟩ := bind_ex h
        refine r_call (Lo := []) (mark_Mark_Raise_ok (tupv v6 0) (tupv v2 0) r5.1.2 5 r5.2.2 _ hr14) (by kernel_rfl) ((List.perm_middle (a := Res.cls (CMark (tupv v2 0)) (tupv v6 0) r5.1.2) (l₁ := [Res.disk Tryz.prog dI (tupv v2 0) r5.2.2]) (l₂ := [])).trans (.cons _ (List.Perm.refl _))) rfl rfl fun _ => ?_
        refine r_pure tabOk 2 [1, 3, 36] (E' := [(1, .one (.raw (.pointer none)) (tupv v2 0)), (3, .one (.raw (.pointer none)) (tupv v6 0)), (36, .one .bool (r14.1 != 0))]) rfl ?_
        obtain ⟨b15, hbb15, h⟩ := bnd_ex h
        rw [hbb15]
        obtain ⟨k16, hk16, h⟩ := bnd_ex h
        refine r_lsplitk (γ := Unit) 4 (fun (o17 : Bool) _ => [(1, .one (.raw (.pointer none)) (tupv v2 0)), (3, .one (.raw (.pointer none)) (tupv v6 0)), (40, .one .bool o17)]) (fun _ _ => [Res.cls (CMark (tupv v2 0)) (tupv v6 0) r14.2.1, Res.disk Tryz.prog dI (tupv v2 0) r14.2.2]) k16 r ?_ ?_
        · rcases Bool.eq_false_or_eq_true b15 with hh | hh
          · rw [hh] at h ⊢
            rw [if_pos rfl] at h
            refine r_pure tabOk 4 [1, 3, 40] (E' := [(1, .one (.raw (.pointer none)) (tupv v2 0)), (3, .one (.raw (.pointer none)) (tupv v6 0)), (40, .one .bool true)]) rfl ?_
            refine r_nil ?_
            refine r_less [1, 3, 40] rfl ?_
            refine r_then ?_
            exact r_meetk true () h rfl rfl
          · rw [hh] at h ⊢
            rw [if_neg (by decide)] at h
            refine r_pure tabOk 1 [1, 3, 36, 37] (E' := [(1, .one (.raw (.pointer none)) (tupv v2 0)), (3, .one (.raw (.pointer none)) (tupv v6 0)), (36, .one .bool false), (37, .one (.raw (.pointer none)) (tupv v6 0))]) rfl ?_
            refine r_guard (by rfl) rfl ?_
            obtain ⟨r18, hr18, h⟩ := bind_ex h
            refine r_call (Lo := []) (mark_Mark_Value_ok (tupv v6 0) (tupv v2 0) r14.2.1 r14.2.2 _ hr18) (by kernel_rfl) (List.Perm.refl _) rfl rfl fun _ => ?_
            refine r_pure tabOk 2 [1, 3, 40] (E' := [(1, .one (.raw (.pointer none)) (tupv v2 0)), (3, .one (.raw (.pointer none)) (tupv v6 0)), (40, .one .bool (r18 != 5))]) rfl ?_
            refine r_nil ?_
            refine r_less [1, 3, 40] rfl ?_
            refine r_then ?_
            exact r_meetk (r18 != 5) () h rfl rfl
        · intro o17 _ h
          rw [← hk16] at h
          try dsimp only at h
          refine r_pure tabOk 1 [1, 3, 41] (E' := [(1, .one (.raw (.pointer none)) (tupv v2 0)), (3, .one (.raw (.pointer none)) (tupv v6 0)), (41, .one .bool o17)]) rfl ?_
          obtain ⟨k20, hk20, h⟩ := bnd_ex h
          refine r_lsplitk (γ := Unit) 4 (fun (o21 : Bool × (Unit × List Int × Int × Int × Unit) × DiskS) _ => [(1, .one (.raw (.pointer none)) (tupv v2 0)), (3, .one (.raw (.pointer none)) (tupv v6 0)), (45, .one .bool o21.1)]) (fun (o21 : Bool × (Unit × List Int × Int × Int × Unit) × DiskS) _ => [Res.cls (CMark (tupv v2 0)) (tupv v6 0) o21.2.1, Res.disk Tryz.prog dI (tupv v2 0) o21.2.2]) k20 r ?_ ?_
          · rcases Bool.eq_false_or_eq_true o17 with hh | hh
            · rw [hh] at h ⊢
              rw [if_pos rfl] at h
              refine r_pure tabOk 4 [1, 3, 45] (E' := [(1, .one (.raw (.pointer none)) (tupv v2 0)), (3, .one (.raw (.pointer none)) (tupv v6 0)), (45, .one .bool true)]) rfl ?_
              refine r_nil ?_
              refine r_less [1, 3, 45] rfl ?_
              refine r_then ?_
              exact r_meetk (true, r14.2.1, r14.2.2) () h rfl rfl
            · rw [hh] at h ⊢
              rw [if_neg (by decide)] at h
              refine r_pure tabOk 1 [1, 3, 41, 42] (E' := [(1, .one (.raw (.pointer none)) (tupv v2 0)), (3, .one (.raw (.pointer none)) (tupv v6 0)), (41, .one .bool false), (42, .one (.raw (.pointer none)) (tupv v6 0))]) rfl ?_
              refine r_guard (by rfl) rfl ?_
              obtain ⟨r22, hr22, h⟩ := bind_ex h
              refine r_call (Lo := []) (mark_Mark_Raise_ok (tupv v6 0) (tupv v2 0) r14.2.1 3 r14.2.2 _ hr22) (by kernel_rfl) (List.Perm.refl _) rfl rfl fun _ => ?_
              refine r_pure tabOk 2 [1, 3, 45] (E' := [(1, .one (.raw (.pointer none)) (tupv v2 0)), (3, .one (.raw (.pointer none)) (tupv v6 0)), (45, .one .bool (r22.1 != 0))]) rfl ?_
              refine r_nil ?_
              refine r_less [1, 3, 45] rfl ?_
              refine r_then ?_
              exact r_meetk ((r22.1 != 0), r22.2.1, r22.2.2) () h rfl rfl
          · intro o21 _ h
            rw [← hk20] at h
            try dsimp only at h
            refine r_pure tabOk 1 [1, 3, 46] (E' := [(1, .one (.raw (.pointer none)) (tupv v2 0)), (3, .one (.raw (.pointer none)) (tupv v6 0)), (46, .one .bool o21.1)]) rfl ?_
            obtain ⟨k24, hk24, h⟩ := bnd_ex h
            refine r_lsplitk (γ := Unit) 4 (fun (o25 : Bool) _ => [(1, .one (.raw (.pointer none)) (tupv v2 0)), (3, .one (.raw (.pointer none)) (tupv v6 0)), (50, .one .bool o25)]) (fun _ _ => [Res.cls (CMark (tupv v2 0)) (tupv v6 0) o21.2.1, Res.disk Tryz.prog dI (tupv v2 0) o21.2.2]) k24 r ?_ ?_
            · rcases Bool.eq_false_or_eq_true o21.1 with hh | hh
              · rw [hh] at h ⊢
                rw [if_pos rfl] at h
                refine r_pure tabOk 4 [1, 3, 50] (E' := [(1, .one (.raw (.pointer none)) (tupv v2 0)), (3, .one (.raw (.pointer none)) (tupv v6 0)), (50, .one .bool true)]) rfl ?_
                refine r_nil ?_
                refine r_less [1, 3, 50] rfl ?_
                refine r_then ?_
                exact r_meetk true () h rfl rfl
              · rw [hh] at h ⊢
                rw [if_neg (by decide)] at h
                refine r_pure tabOk 1 [1, 3, 46, 47] (E' := [(1, .one (.raw (.pointer none)) (tupv v2 0)), (3, .one (.raw (.pointer none)) (tupv v6 0)), (46, .one .bool false), (47, .one (.raw (.pointer none)) (tupv v6 0))]) rfl ?_
                refine r_guard (by rfl) rfl ?_
                obtain ⟨r26, hr26, h⟩ := bind_ex h
                refine r_call (Lo := []) (mark_Mark_Value_ok (tupv v6 0) (tupv v2 0) o21.2.1 o21.2.2 _ hr26) (by kernel_rfl) (List.Perm.refl _) rfl rfl fun _ => ?_
                refine r_pure tabOk 2 [1, 3, 50] (E' := [(1, .one (.raw (.pointer none)) (tupv v2 0)), (3, .one (.raw (.pointer none)) (tupv v6 0)), (50, .one .bool (r26 != 5))]) rfl ?_
                refine r_nil ?_
                refine r_less [1, 3, 50] rfl ?_
                refine r_then ?_
                exact r_meetk (r26 != 5) () h rfl rfl
            · intro o25 _ h
              rw [← hk24] at h
              try dsimp only at h
              refine r_pure tabOk 1 [1, 3, 51] (E' := [(1, .one (.raw (.pointer none)) (tupv v2 0)), (3, .one (.raw (.pointer none)) (tupv v6 0)), (51, .one .bool o25)]) rfl ?_
              obtain ⟨k28, hk28, h⟩ := bnd_ex h
              refine r_lsplitk (γ := Unit) 4 (fun (o29 : Bool × (Unit × List Int × Int × Int × Unit) × DiskS) _ => [(1, .one (.raw (.pointer none)) (tupv v2 0)), (55, .one .bool o29.1)]) (fun (o29 : Bool × (Unit × List Int × Int × Int × Unit) × DiskS) _ => [Res.cls (CMark (tupv v2 0)) (tupv v6 0) o29.2.1, Res.disk Tryz.prog dI (tupv v2 0) o29.2.2]) k28 r ?_ ?_
              · rcases Bool.eq_false_or_eq_true o25 with hh | hh
                · rw [hh] at h ⊢
                  rw [if_pos rfl] at h
                  refine r_pure tabOk 4 [1, 55] (E' := [(1, .one (.raw (.pointer none)) (tupv v2 0)), (55, .one .bool true)]) rfl ?_
                  refine r_nil ?_
                  refine r_less [1, 55] rfl ?_
                  refine r_then ?_
                  exact r_meetk (true, o21.2.1, o21.2.2) () h rfl rfl
                · rw [hh] at h ⊢
                  rw [if_neg (by decide)] at h
                  refine r_pure tabOk 1 [1, 51, 52] (E' := [(1, .one (.raw (.pointer none)) (tupv v2 0)), (51, .one .bool false), (52, .one (.raw (.pointer none)) (tupv v6 0))]) rfl ?_
                  refine r_guard (by rfl) rfl ?_
                  obtain ⟨r30, hr30, h⟩ := bind_ex h
                  refine r_call (Lo := []) (mark_Mark_Raise_ok (tupv v6 0) (tupv v2 0) o21.2.1 (-2) o21.2.2 _ hr30) (by kernel_rfl) (List.Perm.refl _) rfl rfl fun _ => ?_
                  refine r_pure tabOk 2 [1, 55] (E' := [(1, .one (.raw (.pointer none)) (tupv v2 0)), (55, .one .bool (r30.1 != 1))]) rfl ?_
                  refine r_nil ?_
                  refine r_less [1, 55] rfl ?_
                  refine r_then ?_
                  exact r_meetk ((r30.1 != 1), r30.2.1, r30.2.2) () h rfl rfl
              · intro o29 _ h
                rw [← hk28] at h
                try dsimp only at h
                refine r_nil ?_
                refine r_then ?_
                refine r_if (b := o29.1) rfl (fun hc => ?_) (fun hc => ?_)
                · rw [if_pos hc] at h
                  refine r_seq ?_
                  refine r_region ?_
                  refine r_pure tabOk 1 [0] (E' := [(0, .one .bool false)]) rfl ?_
                  refine r_nil ?_
                  refine r_then ?_
                  refine r_ret ?_
                  refine t_then ?_
                  obtain rfl := Option.some.inj h
                  exact r_ret1 rfl (.tmp rfl) (fun _ _ g => g) (fun _ _ _ => List.nil_sublist _)
                · rw [if_neg (ne_true_of_eq_false hc)] at h
                  refine r_skip ?_
                  refine r_then ?_
                  refine r_seq ?_
                  refine r_region ?_
                  refine r_pure tabOk 1 [1, 57] (E' := [(1, .one (.raw (.pointer none)) (tupv v2 0)), (57, .one (.raw (.pointer none)) (tupv v2 0))]) rfl ?_
                  obtain ⟨r31, hr31, h⟩ := bind_ex h
                  refine r_call (Lo := [Res.cls (CMark (tupv v2 0)) (tupv v6 0) o29.2.1]) (disk_Disk_Read_ok (tupv v2 0) o29.2.2 [109] 64 8 _ hr31) (by kernel_rfl) ((List.perm_middle (a := Res.disk Tryz.prog dI (tupv v2 0) o29.2.2) (l₁ := [Res.cls (CMark (tupv v2 0)) (tupv v6 0) o29.2.1]) (l₂ := [])).trans (.cons _ (List.Perm.refl _))) rfl rfl fun _ => ?_
                  refine r_pure tabOk 5 [1, 2, 4] (E' := [(1, .one (.raw (.pointer none)) (tupv v2 0)), (2, .one (.int .i64) r31.2), (4, .one .str r31.1)]) rfl ?_
                  refine r_nil ?_
                  refine r_then ?_
                  refine r_seq ?_
                  refine r_region ?_
                  refine r_pure tabOk 1 [1, 2, 4, 62] (E' := [(1, .one (.raw (.pointer none)) (tupv v2 0)), (2, .one (.int .i64) r31.2), (4, .one .str r31.1), (62, .one (.raw (.pointer none)) (tupv v2 0))]) rfl ?_
                  obtain ⟨r32, hr32, h⟩ := bind_ex h
                  refine r_call (Lo := [Res.cls (CMark (tupv v2 0)) (tupv v6 0) o29.2.1]) (disk_Disk_Size_ok (tupv v2 0) o29.2.2 [109] _ hr32) (by kernel_rfl) (List.Perm.refl _) rfl rfl fun _ => ?_
                  refine r_pure tabOk 5 [1, 2, 4, 5, 6] (E' := [(1, .one (.raw (.pointer none)) (tupv v2 0)), (2, .one (.int .i64) r31.2), (4, .one .str r31.1), (5, .one (.int .i64) r32.1), (6, .one (.int .i64) r32.2)]) rfl ?_
                  refine r_nil ?_
                  refine r_then ?_
                  refine r_seq ?_
                  refine r_region ?_
                  refine r_pure tabOk 3 [1, 4, 5, 6, 68] (E' := [(1, .one (.raw (.pointer none)) (tupv v2 0)), (4, .one .str r31.1), (5, .one (.int .i64) r32.1), (6, .one (.int .i64) r32.2), (68, .one .bool (r31.2 == 0))]) rfl ?_
                  obtain ⟨b33, hbb33, h⟩ := bnd_ex h
                  rw [hbb33]
                  refine r_lsplit (γ := Unit) 3 (fun _ => [(1, .one (.raw (.pointer none)) (tupv v2 0)), (5, .one (.int .i64) r32.1), (6, .one (.int .i64) r32.2), (71, .one .bool (b33 && (r31.1 == [0, 0, 0, 0, 0, 0, 0, 5])))]) (fun _ => [Res.disk Tryz.prog dI (tupv v2 0) o29.2.2, Res.cls (CMark (tupv v2 0)) (tupv v6 0) o29.2.1]) ?_ (fun _ => ?_)
                  · clear h
                    cases b33 with
                    | true =>
                    refine r_pure tabOk 3 [1, 5, 6, 71] (E' := [(1, .one (.raw (.pointer none)) (tupv v2 0)), (5, .one (.int .i64) r32.1), (6, .one (.int .i64) r32.2), (71, .one .bool (r31.1 == [0, 0, 0, 0, 0, 0, 0, 5]))]) rfl ?_
                    refine r_nil ?_
                    refine r_then ?_
                    exact r_meetg () rfl rfl
                    | false =>
                    refine r_pure tabOk 3 [1, 5, 6, 71] (E' := [(1, .one (.raw (.pointer none)) (tupv v2 0)), (5, .one (.int .i64) r32.1), (6, .one (.int .i64) r32.2), (71, .one .bool false)]) rfl ?_
                    refine r_nil ?_
                    refine r_then ?_
                    exact r_meetg () rfl rfl
                  refine r_pure tabOk 1 [1, 5, 6, 72] (E' := [(1, .one (.raw (.pointer none)) (tupv v2 0)), (5, .one (.int .i64) r32.1), (6, .one (.int .i64) r32.2), (72, .one .bool (b33 && (r31.1 == [0, 0, 0, 0, 0, 0, 0, 5])))]) rfl ?_
                  obtain ⟨b34, hbb34, h⟩ := bnd_ex h
                  rw [hbb34]
                  refine r_lsplit (γ := Unit) 3 (fun _ => [(1, .one (.raw (.pointer none)) (tupv v2 0)), (5, .one (.int .i64) r32.1), (75, .one .bool (b34 && (r32.2 == 0)))]) (fun _ => [Res.disk Tryz.prog dI (tupv v2 0) o29.2.2, Res.cls (CMark (tupv v2 0)) (tupv v6 0) o29.2.1]) ?_ (fun _ => ?_)
                  · clear h
                    cases b34 with
                    | true =>
                    refine r_pure tabOk 3 [1, 5, 75] (E' := [(1, .one (.raw (.pointer none)) (tupv v2 0)), (5, .one (.int .i64) r32.1), (75, .one .bool (r32.2 == 0))]) rfl ?_
                    refine r_nil ?_
                    refine r_then ?_
                    exact r_meetg () rfl rfl
                    | false =>
                    refine r_pure tabOk 3 [1, 5, 75] (E' := [(1, .one (.raw (.pointer none)) (tupv v2 0)), (5, .one (.int .i64) r32.1), (75, .one .bool false)]) rfl ?_
                    refine r_nil ?_
                    refine r_then ?_
                    exact r_meetg () rfl rfl
                  refine r_pure tabOk 1 [1, 5, 76] (E' := [(1, .one (.raw (.pointer none)) (tupv v2 0)), (5, .one (.int .i64) r32.1), (76, .one .bool (b34 && (r32.2 == 0)))]) rfl ?_
                  obtain ⟨b35, hbb35, h⟩ := bnd_ex h
                  rw [hbb35]
                  refine r_lsplit (γ := Unit) 3 (fun _ => [(1, .one (.raw (.pointer none)) (tupv v2 0)), (79, .one .bool (b35 && (r32.1 == 128)))]) (fun _ => [Res.disk Tryz.prog dI (tupv v2 0) o29.2.2, Res.cls (CMark (tupv v2 0)) (tupv v6 0) o29.2.1]) ?_ (fun _ => ?_)
                  · clear h
                    cases b35 with
                    | true =>
                    refine r_pure tabOk 3 [1, 79] (E' := [(1, .one (.raw (.pointer none)) (tupv v2 0)), (79, .one .bool (r32.1 == 128))]) rfl ?_
                    refine r_nil ?_
                    refine r_then ?_
                    exact r_meetg () rfl rfl
                    | false =>
                    refine r_pure tabOk 3 [1, 79] (E' := [(1, .one (.raw (.pointer none)) (tupv v2 0)), (79, .one .bool false)]) rfl ?_
                    refine r_nil ?_
                    refine r_then ?_
                    exact r_meetg () rfl rfl
                  refine r_pure tabOk 1 [1, 80] (E' := [(1, .one (.raw (.pointer none)) (tupv v2 0)), (80, .one .bool (b35 && (r32.1 == 128)))]) rfl ?_
                  obtain ⟨b36, hbb36, h⟩ := bnd_ex h
                  rw [hbb36]
                  obtain ⟨k37, hk37, h⟩ := bnd_ex h
                  refine r_lsplitk (γ := Unit) 5 (fun (o38 : Bool) _ => [(85, .one .bool o38)]) (fun _ _ => [Res.disk Tryz.prog dI (tupv v2 0) o29.2.2, Res.cls (CMark (tupv v2 0)) (tupv v6 0) o29.2.1]) k37 r ?_ ?_
                  · rcases Bool.eq_false_or_eq_true b36 with hh | hh
                    · rw [hh] at h ⊢
                      rw [if_pos rfl] at h
                      refine r_pure tabOk 1 [80, 81] (E' := [(80, .one .bool true), (81, .one (.raw (.pointer none)) (tupv v2 0))]) rfl ?_
                      refine r_guard (by rfl) rfl ?_
                      obtain ⟨r39, hr39, h⟩ := bind_ex h
                      refine r_call (Lo := [Res.cls (CMark (tupv v2 0)) (tupv v6 0) o29.2.1]) (disk_Disk_List_ok (tupv v2 0) o29.2.2 _ hr39) (by kernel_rfl) (List.Perm.refl _) rfl rfl fun v40 => ?_
                      refine r_guard (by rfl) rfl ?_
                      refine y (y_lenown tabOk 1 rfl rfl rfl) rfl ?_
                      refine r_pure tabOk 2 [85] (E' := [(85, .one .bool ((List.length r39 : Int) == 1))]) rfl ?_
                      refine r_nil ?_
                      refine r_less [85] rfl ?_
                      refine r_lose (L' := [Res.disk Tryz.prog dI (tupv v2 0) o29.2.2, Res.cls (CMark (tupv v2 0)) (tupv v6 0) o29.2.1]) (.cons_cons _ (.cons _ (.cons_cons _ .slnil))) ?_
                      refine r_then ?_
                      exact r_meetk ((List.length r39 : Int) == 1) () h rfl rfl
                    · rw [hh] at h ⊢
                      rw [if_neg (by decide)] at h
                      refine r_pure tabOk 5 [85] (E' := [(85, .one .bool false)]) rfl ?_
                      refine r_nil ?_
                      refine r_less [85] rfl ?_
                      refine r_then ?_
                      exact r_meetk false () h rfl rfl
                  · intro o38 _ h
                    rw [← hk37] at h
                    try dsimp only at h
                    refine r_pure tabOk 1 [0] (E' := [(0, .one .bool o38)]) rfl ?_
                    refine r_nil ?_
                    refine r_then ?_
                    refine r_ret ?_
                    obtain rfl := Option.some.inj h
                    exact r_ret1 rfl (.tmp rfl) (fun _ _ g => g) (fun _ _ _ => List.nil_sublist _)

theorem escrowlaw19_least_ok (a0 : Int) (a1 : Int) (r : Int) (h : escrowlaw19_least a0 a1 = some r) : Pure Tryz.prog 5 [.one (.int .i64) a0, .one (.int .i64) a1] (.one (.int .i64) r) := by
  unfold escrowlaw19_least at h
  refine enter Tryz.func5 rfl 15 rfl rfl fun F => ?_
  refine r_seq ?_
  refine r_region ?_
  refine r_pure tabOk 1 [0, 1] (E' := [(0, .one (.int .i64) a0), (1, .one (.int .i64) a1)]) rfl ?_
  refine r_nil ?_
  refine r_then ?_
  refine r_seq ?_
  refine r_region ?_
  refine r_pure tabOk 2 [1, 6, 7] (E' := [(1, .one (.int .i64) a1), (6, .one (.int .i64) a0), (7, .one (.int .i64) a1)]) rfl ?_
  obtain ⟨hc, h⟩ := ite_ex h
  refine y (y_rem rfl rfl hc) rfl ?_
  refine r_pure tabOk 1 [1, 5] (E' := [(1, .one (.int .i64) a1), (5, .one (.int .i64) (Int.tmod a0 a1))]) rfl ?_
  obtain ⟨k1, hk1, h⟩ := bnd_ex h
  rw [hk1]
  refine r_nil ?_
  refine r_then ?_
  obtain ⟨k2, hk2, h⟩ := bnd_ex h
  refine r_joink (γ := Unit) (fun (o3 : Int) _ => [(5, .one (.int .i64) o3)]) (fun (o3 : Int) _ => []) k2 r ?_ ?_
  · refine r_seq ?_
    refine r_region ?_
    refine r_pure tabOk 2 [1, 5, 10] (E' := [(1, .one (.int .i64) a1), (5, .one (.int .i64) k1), (10, .one .bool (decide (k1 < 0)))]) rfl ?_
    refine r_nil ?_
    refine r_then ?_
    refine r_if (b := (decide (k1 < 0))) rfl (fun hc => ?_) (fun hc => ?_)
    · rw [if_pos hc] at h
      refine r_region ?_
      refine r_pure tabOk 4 [5] (E' := [(5, .one (.int .i64) (IntKind.wrap .i64 (k1 + a1)))]) rfl ?_
      obtain ⟨k4, hk4, h⟩ := bnd_ex h
      rw [hk4]
      refine r_nil ?_
      refine r_then ?_
      refine r_less [5] rfl ?_
      exact r_meetk k4 () h rfl rfl
    · rw [if_neg (ne_true_of_eq_false hc)] at h
      refine r_skip ?_
      refine r_then ?_
      refine r_less [5] rfl ?_
      exact r_meetk k1 () h rfl rfl
  · intro o3 gg h
    rw [← hk2] at h
    try dsimp only at h
    refine r_seq ?_
    refine r_region ?_
    refine r_pure tabOk 2 [4] (E' := [(4, .one (.int .i64) o3)]) rfl ?_
    refine r_nil ?_
    refine r_then ?_
    refine r_ret ?_
    obtain rfl := Option.some.inj h
    exact r_ret1 rfl (.tmp rfl) (fun _ _ g => g) (fun _ _ _ => List.nil_sublist _)

theorem escrowlaw19_slot_ok (a0 : Int) (r : List Int) (h : escrowlaw19_slot a0 = some r) : Pure Tryz.prog 6 [.one (.int .i64) a0] (.one .str r) := by
  unfold escrowlaw19_slot at h
  refine enter Tryz.func6 rfl 44 rfl rfl fun F => ?_
  refine r_seq ?_
  refine r_region ?_
  refine r_pure tabOk 1 [0] (E' := [(0, .one (.int .i64) a0)]) rfl ?_
  refine r_nil ?_
  refine r_then ?_
  refine r_seq ?_
  refine r_region ?_
  refine r_pure tabOk 1 [0, 3] (E' := [(0, .one (.int .i64) a0), (3, .one (.raw (.slice none 0 0)) (.slice none 0 0))]) rfl ?_
  refine r_nilown (.slice none 0 0) rfl 5 (.int .u8) ?_
  refine r_nil ?_
  refine r_then ?_
  obtain ⟨k1, hk1, h⟩ := bnd_ex h
  refine r_joink (γ := Value) (fun (o2 : List (Int)) g3 => [(3, .one (.raw (.slice none 0 0)) g3)]) (fun (o2 : List (Int)) g3 => [Res.own g3 5 (.int .u8) o2]) k1 r ?_ ?_
  · refine r_seq ?_
    refine r_region ?_
    refine r_pure tabOk 1 [0, 3, 4] (E' := [(0, .one (.int .i64) a0), (3, .one (.raw (.slice none 0 0)) (.slice none 0 0)), (4, .one (.int .i64) 7)]) rfl ?_
    refine r_nil ?_
    refine r_then ?_
    refine r_block ?_
    refine r_less [0, 3, 4] rfl ?_
    refine r_loopg (γ := Value) (fun (s21 : Int × List (Int)) g22 => [(0, .one (.int .i64) a0), (3, .one (.raw (.slice none 0 0)) g22), (4, .one (.int .i64) s21.1)]) (fun (s21 : Int × List (Int)) g22 => [Res.own g22 5 (.int .u8) s21.2]) (escrowlaw19_slot_l1 a0 k1) (7, []) (.slice none 0 0) h rfl rfl ?_
    clear h
    intro m23 s21 g22 h
    cases m23 with
    | zero => cases h
    | succ m23 =>
    simp only [escrowlaw19_slot_l1] at h
    refine r_seq ?_
    refine r_seq ?_
    refine r_region ?_
    refine r_pure tabOk 2 [0, 3, 4, 7] (E' := [(0, .one (.int .i64) a0), (3, .one (.raw (.slice none 0 0)) g22), (4, .one (.int .i64) s21.1), (7, .one .bool (decide (s21.1 ≥ 0)))]) rfl ?_
    refine r_nil ?_
    refine r_then ?_
    refine r_if (b := (decide (s21.1 ≥ 0))) rfl (fun hc => ?_) (fun hc => ?_)
    · rw [if_pos hc] at h
      refine r_skip ?_
      refine r_then ?_
      refine r_seq ?_
      refine r_block ?_
      refine r_region ?_
      refine r_pure tabOk 7 [0, 4, 10, 16] (E' := [(0, .one (.int .i64) a0), (4, .one (.int .i64) s21.1), (10, .one (.raw (.slice none 0 0)) g22), (16, .one (.int .u8) (IntKind.wrap .u8 (ishr .i64 a0 (IntKind.wrap .u64 (8 * (IntKind.wrap .u64 s21.1))))))]) rfl ?_
      refine r_lits (B := 1) tabOk rfl el5 rfl rfl rfl (.cons rfl .nil) rfl fun v24 => ?_
      obtain ⟨hc, h⟩ := ite_ex h
      refine r_append (B := 1) tabOk 1 rfl rfl (src_own 0 rfl rfl) rfl el5 rfl rfl hc rfl fun v25 => ?_
      refine r_lose (L' := [Res.own v25 5 (.int .u8) (s21.2 ++ [(IntKind.wrap .u8 (ishr .i64 a0 (IntKind.wrap .u64 (8 * (IntKind.wrap .u64 s21.1)))))])]) (.cons _ (.cons_cons _ .slnil)) ?_
      refine r_pure tabOk 1 [0, 3, 4] (E' := [(0, .one (.int .i64) a0), (3, .one (.raw (.slice none 0 0)) v25), (4, .one (.int .i64) s21.1)]) rfl ?_
      refine r_nil ?_
      refine r_inblock ?_
      refine r_then ?_
      refine r_region ?_
      refine r_pure tabOk 3 [0, 3, 4] (E' := [(0, .one (.int .i64) a0), (3, .one (.raw (.slice none 0 0)) v25), (4, .one (.int .i64) (IntKind.wrap .i64 (s21.1 - 1)))]) rfl ?_
      obtain ⟨i26, hi26, h⟩ := bnd_ex h
      rw [hi26]
      refine r_nil ?_
      refine r_then ?_
      refine r_less [0, 3, 4] rfl ?_
      exact r_backg (i26, (s21.2 ++ [(IntKind.wrap .u8 (ishr .i64 a0 (IntKind.wrap .u64 (8 * (IntKind.wrap .u64 s21.1)))))])) v25 (Nat.lt_succ_self _) h rfl rfl
    · rw [if_neg (ne_true_of_eq_false hc)] at h
      refine r_exit ?_
      refine e_then ?_
      refine e_then ?_
      refine e_eq ?_
      refine r_then ?_
      refine r_less [3] rfl ?_
      exact r_meetk s21.2 g22 h rfl rfl
  · intro o2 g3 h
    rw [← hk1] at h
    try dsimp only at h
    refine r_seq ?_
    refine r_region ?_
    refine r_pure tabOk 1 [3, 19] (E' := [(3, .one (.raw (.slice none 0 0)) g3), (19, .one (.raw (.slice none 0 0)) g3)]) rfl ?_
    refine y (y_text tabOk 0 rfl rfl rfl rfl rfl) rfl ?_
    obtain ⟨r4, hr4, h⟩ := bind_ex h
    refine r_calls (crc_Sum_ok o2 _ hr4) (by kernel_rfl) rfl rfl ?_
    refine r_pure tabOk 1 [3, 5] (E' := [(3, .one (.raw (.slice none 0 0)) g3), (5, .one (.int .u32) r4)]) rfl ?_
    refine r_nil ?_
    refine r_then ?_
    refine r_seq ?_
    refine r_region ?_
    refine r_pure tabOk 12 [22, 25, 28, 31, 33] (E' := [(22, .one (.raw (.slice none 0 0)) g3), (25, .one (.int .u8) (IntKind.wrap .u8 (ishr .u32 r4 24))), (28, .one (.int .u8) (IntKind.wrap .u8 (ishr .u32 r4 16))), (31, .one (.int .u8) (IntKind.wrap .u8 (ishr .u32 r4 8))), (33, .one (.int .u8) (IntKind.wrap .u8 r4))]) rfl ?_
    refine r_lits (B := 1) tabOk rfl el5 rfl rfl rfl (.cons rfl (.cons rfl (.cons rfl (.cons rfl .nil)))) rfl fun v5 => ?_
    obtain ⟨hc, h⟩ := ite_ex h
    refine r_append (B := 1) tabOk 1 rfl rfl (src_own 0 rfl rfl) rfl el5 rfl rfl hc rfl fun v6 => ?_
    refine r_lose (L' := [Res.own v6 5 (.int .u8) (o2 ++ [(IntKind.wrap .u8 (ishr .u32 r4 24)), (IntKind.wrap .u8 (ishr .u32 r4 16)), (IntKind.wrap .u8 (ishr .u32 r4 8)), (IntKind.wrap .u8 r4)])]) (.cons _ (.cons_cons _ .slnil)) ?_
    refine r_pure tabOk 1 [3] (E' := [(3, .one (.raw (.slice none 0 0)) v6)]) rfl ?_
    refine r_nil ?_
    refine r_then ?_
    obtain ⟨k7, hk7, h⟩ := bnd_ex h
    refine r_joink (γ := Value) (fun (o8 : List (Int)) g9 => [(3, .one (.raw (.slice none 0 0)) g9)]) (fun (o8 : List (Int)) g9 => [Res.own g9 5 (.int .u8) o8]) k7 r ?_ ?_
    · refine r_block ?_
      refine r_less [3] rfl ?_
      refine r_loopg (γ := Value) (fun (s13 : List (Int)) g14 => [(3, .one (.raw (.slice none 0 0)) g14)]) (fun (s13 : List (Int)) g14 => [Res.own g14 5 (.int .u8) s13]) (escrowlaw19_slot_l0 k7) (o2 ++ [(IntKind.wrap .u8 (ishr .u32 r4 24)), (IntKind.wrap .u8 (ishr .u32 r4 16)), (IntKind.wrap .u8 (ishr .u32 r4 8)), (IntKind.wrap .u8 r4)]) v6 h rfl rfl ?_
      clear h
      intro m15 s13 g14 h
      cases m15 with
      | zero => cases h
      | succ m15 =>
      simp only [escrowlaw19_slot_l0] at h
      refine r_seq ?_
      refine r_seq ?_
      refine r_region ?_
      refine r_pure tabOk 1 [3, 36] (E' := [(3, .one (.raw (.slice none 0 0)) g14), (36, .one (.raw (.slice none 0 0)) g14)]) rfl ?_
      refine y (y_lenown tabOk 0 rfl rfl rfl) rfl ?_
      refine r_pure tabOk 1 [3, 38] (E' := [(3, .one (.raw (.slice none 0 0)) g14), (38, .one .bool (decide ((List.length s13 : Int) < 64)))]) rfl ?_
      refine r_nil ?_
      refine r_then ?_
      refine r_if (b := (decide ((List.length s13 : Int) < 64))) rfl (fun hc => ?_) (fun hc => ?_)
      · rw [if_pos hc] at h
        refine r_skip ?_
        refine r_then ?_
        refine r_block ?_
        refine r_region ?_
        refine r_pure tabOk 1 [39] (E' := [(39, .one (.raw (.slice none 0 0)) g14)]) rfl ?_
        refine r_lits (B := 1) tabOk rfl el5 rfl rfl rfl (.cons rfl .nil) rfl fun v16 => ?_
        obtain ⟨hc, h⟩ := ite_ex h
        refine r_append (B := 1) tabOk 1 rfl rfl (src_own 0 rfl rfl) rfl el5 rfl rfl hc rfl fun v17 => ?_
        refine r_lose (L' := [Res.own v17 5 (.int .u8) (s13 ++ [0])]) (.cons _ (.cons_cons _ .slnil)) ?_
        refine r_pure tabOk 1 [3] (E' := [(3, .one (.raw (.slice none 0 0)) v17)]) rfl ?_
        refine r_nil ?_
        refine r_inblock ?_
        refine r_then ?_
        refine r_less [3] rfl ?_
        exact r_backg (s13 ++ [0]) v17 (Nat.lt_succ_self _) h rfl rfl
      · rw [if_neg (ne_true_of_eq_false hc)] at h
        refine r_exit ?_
        refine e_then ?_
        refine e_then ?_
        refine e_eq ?_
        refine r_then ?_
        refine r_less [3] rfl ?_
        exact r_meetk s13 g14 h rfl rfl
    · intro o8 g9 h
      rw [← hk7] at h
      try dsimp only at h
      refine r_seq ?_
      refine r_region ?_
      refine r_pure tabOk 1 [42] (E' := [(42, .one (.raw (.slice none 0 0)) g9)]) rfl ?_
      refine y (y_text tabOk 0 rfl rfl rfl rfl rfl) rfl ?_
      refine r_pure tabOk 1 [2] (E' := [(2, .one .str o8)]) rfl ?_
      refine r_nil ?_
      refine r_then ?_
      refine r_ret ?_
      obtain rfl := Option.some.inj h
      exact r_ret1 rfl (.tmp rfl) (fun _ _ g => g) (fun _ _ _ => List.nil_sublist _)

theorem escrowlaw19_whole_ok (a0 : List Int) (a1 : Int) (r : Int × Bool) (h : escrowlaw19_whole a0 a1 = some r) : Pure Tryz.prog 7 [.one .str a0, .one (.int .i64) a1] (.tup [⟨(.int .i64), r.1⟩, ⟨.bool, r.2⟩]) := by
  unfold escrowlaw19_whole at h
  refine enter Tryz.func7 rfl 47 rfl rfl fun F => ?_
  refine r_seq ?_
  refine r_region ?_
  refine r_pure tabOk 2 [0, 1] (E' := [(0, .one .str a0), (1, .one (.int .i64) a1)]) rfl ?_
  refine r_nil ?_
  refine r_then ?_
  refine r_seq ?_
  refine r_seq ?_
  refine r_region ?_
  refine r_pure tabOk 6 [0, 1, 14] (E' := [(0, .one .str a0), (1, .one (.int .i64) a1), (14, .one .bool (decide ((List.length a0 : Int) < (IntKind.wrap .i64 ((IntKind.wrap .i64 (64 * a1)) + 12)))))]) rfl ?_
  obtain ⟨t1, ht1, h⟩ := bnd_ex h
  rw [ht1]
  refine r_nil ?_
  refine r_then ?_
  refine r_if (b := t1) rfl (fun hc => ?_) (fun hc => ?_)
  · rw [if_pos hc] at h
    refine r_seq ?_
    refine r_region ?_
    refine r_pure tabOk 2 [4, 5] (E' := [(4, .one (.int .i64) 0), (5, .one .bool false)]) rfl ?_
    refine r_nil ?_
    refine r_then ?_
    refine r_ret ?_
    refine t_then ?_
    obtain rfl := Option.some.inj h
    exact r_rets (rs := [.tmp 4, .tmp 5]) rfl (.cons (.tmp rfl) (.cons (.tmp rfl) (.nil))) rfl (fun _ vs g => tup_ok vs g) (fun _ _ _ => List.nil_sublist _)
  · rw [if_neg (ne_true_of_eq_false hc)] at h
    refine r_skip ?_
    refine r_then ?_
    refine r_seq ?_
    refine r_region ?_
    refine r_pure tabOk 6 [15, 17, 20] (E' := [(15, .one .str a0), (17, .one (.int .i64) (IntKind.wrap .i64 (64 * a1))), (20, .one (.int .i64) (IntKind.wrap .i64 ((IntKind.wrap .i64 (64 * a1)) + 12)))]) rfl ?_
    obtain ⟨hc, h⟩ := ite_ex h
    refine y (y_sub (i := (IntKind.wrap .i64 (64 * a1))) (j := (IntKind.wrap .i64 ((IntKind.wrap .i64 (64 * a1)) + 12))) tabOk rfl rfl rfl hc.1 hc.2.1 hc.2.2 rfl) rfl ?_
    refine r_pure tabOk 1 [6] (E' := [(6, .one .str (List.drop (Int.toNat (IntKind.wrap .i64 (64 * a1))) (List.take (Int.toNat (IntKind.wrap .i64 ((IntKind.wrap .i64 (64 * a1)) + 12))) a0)))]) rfl ?_
    obtain ⟨bx2, hbx2, h⟩ := bnd_ex h
    rw [hbx2]
    refine r_nil ?_
    refine r_then ?_
    refine r_seq ?_
    refine r_region ?_
    refine r_pure tabOk 1 [6, 7] (E' := [(6, .one .str bx2), (7, .one (.int .i64) 0)]) rfl ?_
    refine r_nil ?_
    refine r_then ?_
    obtain ⟨k3, hk3, h⟩ := bnd_ex h
    refine r_joink (γ := Unit) (fun (o4 : Int) _ => [(6, .one .str bx2), (7, .one (.int .i64) o4)]) (fun (o4 : Int) _ => []) k3 r ?_ ?_
    · refine r_seq ?_
      refine r_region ?_
      refine r_pure tabOk 1 [6, 7, 8] (E' := [(6, .one .str bx2), (7, .one (.int .i64) 0), (8, .one (.int .i64) 0)]) rfl ?_
      refine r_nil ?_
      refine r_then ?_
      refine r_block ?_
      refine r_less [6, 7, 8] rfl ?_
      refine r_loopg (γ := Unit) (fun (s11 : Int × Int) _ => [(6, .one .str bx2), (7, .one (.int .i64) s11.1), (8, .one (.int .i64) s11.2)]) (fun (s11 : Int × Int) _ => []) (escrowlaw19_whole_l0 bx2 k3) (0, 0) () h rfl rfl ?_
      clear h
      intro m12 s11 gg h
      cases m12 with
      | zero => cases h
      | succ m12 =>
      simp only [escrowlaw19_whole_l0] at h
      refine r_seq ?_
      refine r_seq ?_
      refine r_region ?_
      refine r_pure tabOk 2 [6, 7, 8, 23] (E' := [(6, .one .str bx2), (7, .one (.int .i64) s11.1), (8, .one (.int .i64) s11.2), (23, .one .bool (decide (s11.2 < 8)))]) rfl ?_
      refine r_nil ?_
      refine r_then ?_
      refine r_if (b := (decide (s11.2 < 8))) rfl (fun hc => ?_) (fun hc => ?_)
      · rw [if_pos hc] at h
        refine r_skip ?_
        refine r_then ?_
        refine r_seq ?_
        refine r_block ?_
        refine r_region ?_
        refine r_pure tabOk 4 [6, 8, 27, 28, 29] (E' := [(6, .one .str bx2), (8, .one (.int .i64) s11.2), (27, .one (.int .i64) (ishl .i64 s11.1 8)), (28, .one .str bx2), (29, .one (.int .i64) s11.2)]) rfl ?_
        obtain ⟨hc, h⟩ := ite_ex h
        refine y (y_byte tabOk rfl rfl hc.1 hc.2 rfl) rfl ?_
        refine r_pure tabOk 3 [6, 7, 8] (E' := [(6, .one .str bx2), (7, .one (.int .i64) (ior .i64 (ishl .i64 s11.1 8) (IntKind.wrap .i64 (List.getD bx2 (Int.toNat s11.2) 0)))), (8, .one (.int .i64) s11.2)]) rfl ?_
        obtain ⟨v13, hv13, h⟩ := bnd_ex h
        rw [hv13]
        refine r_nil ?_
        refine r_inblock ?_
        refine r_then ?_
        refine r_region ?_
        refine r_pure tabOk 3 [6, 7, 8] (E' := [(6, .one .str bx2), (7, .one (.int .i64) v13), (8, .one (.int .i64) (IntKind.wrap .i64 (s11.2 + 1)))]) rfl ?_
        obtain ⟨i14, hi14, h⟩ := bnd_ex h
        rw [hi14]
        refine r_nil ?_
        refine r_then ?_
        refine r_less [6, 7, 8] rfl ?_
        exact r_backg (v13, i14) () (Nat.lt_succ_self _) h rfl rfl
      · rw [if_neg (ne_true_of_eq_false hc)] at h
        refine r_exit ?_
        refine e_then ?_
        refine e_then ?_
        refine e_eq ?_
        refine r_then ?_
        refine r_less [6, 7] rfl ?_
        exact r_meetk s11.1 () h rfl rfl
    · intro o4 gg h
      rw [← hk3] at h
      try dsimp only at h
      refine r_seq ?_
      refine r_drawn (by kernel_rfl) (by kernel_rfl) ?_
      refine q_pure tabOk 4 [6, 7, 33, 36] (E' := [(6, .one .str bx2), (7, .one (.int .i64) o4), (33, .one (.int .i64) o4), (36, .one .bool (decide (o4 ≥ (-1))))]) rfl ?_
      obtain ⟨b5, hbb5, h⟩ := bnd_ex h
      rw [hbb5]
      refine q_lsplit 3 [(6, .one .str bx2), (7, .one (.int .i64) o4), (33, .one (.int .i64) o4), (39, .one .bool (b5 && (decide (o4 < 281474976710656))))] ?_ ?_
      · clear h
        cases b5 with
        | true =>
        refine q_pure tabOk 3 [6, 7, 33, 39] (E' := [(6, .one .str bx2), (7, .one (.int .i64) o4), (33, .one (.int .i64) o4), (39, .one .bool (decide (o4 < 281474976710656)))]) rfl ?_
        refine q_lnil ?_
        exact q_meet rfl
        | false =>
        refine q_pure tabOk 3 [6, 7, 33, 39] (E' := [(6, .one .str bx2), (7, .one (.int .i64) o4), (33, .one (.int .i64) o4), (39, .one .bool false)]) rfl ?_
        refine q_lnil ?_
        exact q_meet rfl
      refine q_pure tabOk 1 [6, 7, 33, 40] (E' := [(6, .one .str bx2), (7, .one (.int .i64) o4), (33, .one (.int .i64) o4), (40, .one .bool (b5 && (decide (o4 < 281474976710656))))]) rfl ?_
      obtain ⟨b6, hbb6, h⟩ := bnd_ex h
      rw [hbb6]
      obtain ⟨k7, hk7, h⟩ := bnd_ex h
      refine q_lsplitk 6 (fun (o8 : Bool) => [(33, .one (.int .i64) o4), (46, .one .bool o8)]) k7 r ?_ ?_
      · rcases Bool.eq_false_or_eq_true b6 with hh | hh
        · rw [hh] at h ⊢
          rw [if_pos rfl] at h
          refine q_pure tabOk 1 [6, 33, 40, 41] (E' := [(6, .one .str bx2), (33, .one (.int .i64) o4), (40, .one .bool true), (41, .one (.int .i64) o4)]) rfl ?_
          refine q_guard (by rfl) rfl ?_
          obtain ⟨r9, hr9, h⟩ := bind_ex h
          refine q_calls (escrowlaw19_slot_ok o4 _ hr9) (by kernel_rfl) rfl rfl rfl ?_
          refine q_guard (by rfl) rfl ?_
          obtain ⟨hc, h⟩ := ite_ex h
          refine q_y (y_sub (i := (0 : Int)) (j := 12) tabOk rfl rfl rfl hc.1 hc.2.1 hc.2.2 rfl) rfl ?_
          refine q_pure tabOk 3 [33, 46] (E' := [(33, .one (.int .i64) o4), (46, .one .bool ((List.drop 0 (List.take 12 r9)) == bx2))]) rfl ?_
          refine q_lnil ?_
          exact q_meetk ((List.drop 0 (List.take 12 r9)) == bx2) [33, 46] h rfl
        · rw [hh] at h ⊢
          rw [if_neg (by decide)] at h
          refine q_pure tabOk 6 [33, 46] (E' := [(33, .one (.int .i64) o4), (46, .one .bool false)]) rfl ?_
          refine q_lnil ?_
          exact q_meetk false [33, 46] h rfl
      · intro o8 h
        rw [← hk7] at h
        try dsimp only at h
        refine q_pure tabOk 2 [4, 5] (E' := [(4, .one (.int .i64) o4), (5, .one .bool o8)]) rfl ?_
        refine q_nil ?_
        refine r_then ?_
        refine r_ret ?_
        obtain rfl := Option.some.inj h
        exact r_rets (rs := [.tmp 4, .tmp 5]) rfl (.cons (.tmp rfl) (.cons (.tmp rfl) (.nil))) rfl (fun _ vs g => tup_ok vs g) (fun _ _ _ => List.nil_sublist _)

theorem escrowlaw19_torn_ok (a0 : List Int) (r : Bool) (h : escrowlaw19_torn a0 = some r) : Pure Tryz.prog 8 [.one .str a0] (.one .bool r) := by
  unfold escrowlaw19_torn at h
  refine enter Tryz.func8 rfl 21 rfl rfl fun F => ?_
  refine r_seq ?_
  refine r_region ?_
  refine r_pure tabOk 1 [0] (E' := [(0, .one .str a0)]) rfl ?_
  refine r_nil ?_
  refine r_then ?_
  refine r_seq ?_
  refine r_region ?_
  refine r_pure tabOk 1 [0, 8] (E' := [(0, .one .str a0), (8, .one .str a0)]) rfl ?_
  obtain ⟨r1, hr1, h⟩ := bind_ex h
  refine r_calls (escrowlaw19_whole_ok a0 0 _ hr1) (by kernel_rfl) rfl rfl ?_
  refine r_pure tabOk 5 [0, 4] (E' := [(0, .one .str a0), (4, .one .bool r1.2)]) rfl ?_
  refine r_nil ?_
  refine r_then ?_
  refine r_seq ?_
  refine r_region ?_
  refine r_pure tabOk 1 [4, 13] (E' := [(4, .one .bool r1.2), (13, .one .str a0)]) rfl ?_
  obtain ⟨r2, hr2, h⟩ := bind_ex h
  refine r_calls (escrowlaw19_whole_ok a0 1 _ hr2) (by kernel_rfl) rfl rfl ?_
  refine r_pure tabOk 5 [4, 6] (E' := [(4, .one .bool r1.2), (6, .one .bool r2.2)]) rfl ?_
  refine r_nil ?_
  refine r_then ?_
  refine r_seq ?_
  refine r_region ?_
  refine r_pure tabOk 2 [6, 18] (E' := [(6, .one .bool r2.2), (18, .one .bool r1.2)]) rfl ?_
  refine r_lsplit (γ := Unit) 2 (fun _ => [(20, .one .bool (r1.2 || r2.2))]) (fun _ => []) ?_ (fun _ => ?_)
  · clear h
    rcases Bool.eq_false_or_eq_true r1.2 with hh | hh
    · rw [hh]
      refine r_pure tabOk 2 [20] (E' := [(20, .one .bool true)]) rfl ?_
      refine r_nil ?_
      refine r_then ?_
      exact r_meetg () rfl rfl
    · rw [hh]
      refine r_pure tabOk 2 [20] (E' := [(20, .one .bool r2.2)]) rfl ?_
      refine r_nil ?_
      refine r_then ?_
      exact r_meetg () rfl rfl
  refine r_pure tabOk 1 [2] (E' := [(2, .one .bool (r1.2 || r2.2))]) rfl ?_
  refine r_nil ?_
  refine r_then ?_
  refine r_ret ?_
  obtain rfl := Option.some.inj h
  exact r_ret1 rfl (.tmp rfl) (fun _ _ g => g) (fun _ _ _ => List.nil_sublist _)

theorem keysOk : KeysOk Tryz.prog 28 (Tryz.laysKeys_ren.f 10) (Tryz.laysKeys_ren.t 23) := keys_of Tryz.laysKeys

theorem sortedOk : SortedOk Tryz.prog 27 (Tryz.laysKeys_ren.f 10) (Tryz.laysKeys_ren.t 23) dI.int := sorted_of Tryz.laysKeys Tryz.laysSorted Tryz.laysSortI rfl rfl (fun _ _ => run_callFunc (by kernel_rfl)) (fun _ _ => run_callFunc (by kernel_rfl))

theorem disk_Disk_Dirty_ok (p0 : Value) (a0 : DiskS) (a1 : List Int) (r : List (Int)) (h : disk_Disk_Dirty a0 a1 = some r) : Fn Tryz.prog 15 [.one (.raw (.pointer none)) p0, .one .str a1] [Res.disk Tryz.prog dI p0 a0] (fun v => .one (.raw (.slice none 0 0)) v) (fun v => [Res.disk Tryz.prog dI p0 a0, Res.own v 3 (.int .i64) r]) := by
  unfold disk_Disk_Dirty at h
  refine enter Tryz.func15 rfl 21 rfl rfl fun F => ?_
  refine r_undisk fun b2 mv1 hp => ?_
  subst hp
  refine r_seq ?_
  refine r_region ?_
  refine r_pure tabOk 1 [0, 1] (E' := [(0, ptr b2 0), (1, .one .str a1)]) rfl ?_
  refine r_nil ?_
  refine r_then ?_
  refine r_seq ?_
  refine r_region ?_
  refine r_pure tabOk 2 [8, 9] (E' := [(8, ptr b2 0), (9, .one .str a1)]) rfl ?_
  obtain ⟨r3, hr3, h⟩ := bind_ex h
  refine r_call (Lo := []) (disk_Disk_found_ok b2 mv1 a0 a1 _ hr3) (by kernel_rfl) (List.Perm.refl _) rfl rfl fun v4 => ?_
  refine r_pure tabOk 5 [5, 6] (E' := [(5, .one (.raw (.pointer none)) (tupv v4 0)), (6, .one (.int .i64) r3)]) rfl ?_
  refine r_nil ?_
  refine r_then ?_
  refine r_seq ?_
  refine r_seq ?_
  refine r_region ?_
  refine r_pure tabOk 2 [5, 14] (E' := [(5, .one (.raw (.pointer none)) (tupv v4 0)), (14, .one .bool (r3 != 0))]) rfl ?_
  refine r_nil ?_
  refine r_then ?_
  refine r_if (b := (r3 != 0)) rfl (fun hc => ?_) (fun hc => ?_)
  · rw [if_pos hc] at h
    refine r_seq ?_
    refine r_region ?_
    refine r_pure tabOk 1 [4] (E' := [(4, .one (.raw (.slice none 0 0)) (.slice none 0 0))]) rfl ?_
    refine r_nil ?_
    refine r_then ?_
    refine r_ret ?_
    refine t_then ?_
    refine r_imp_at (R' := Res.dfiles Tryz.prog dI mv1 a0.2.1) 1 rfl dfound_dfiles ?_
    refine r_disk (P := Tryz.prog) (I := dI) (D := a0) ?_
    refine r_nilown (.slice none 0 0) rfl 3 (.int .i64) ?_
    obtain rfl := Option.some.inj h
    refine r_perm (L' := [Res.disk Tryz.prog dI (.pointer (some ⟨b2, 0, none⟩)) a0, Res.own (.slice none 0 0) 3 (.int .i64) []]) ((List.perm_middle (a := Res.disk Tryz.prog dI (.pointer (some ⟨b2, 0, none⟩)) a0) (l₁ := [Res.own (.slice none 0 0) 3 (.int .i64) []]) (l₂ := [])).trans (.cons _ (List.Perm.refl _))) ?_
    exact r_ret1 rfl (.tmp rfl) (fun _ _ g => holds_raw.2 ⟨rfl, by rw [(holds_raw.1 g).1]; exact (holds_raw.1 g).2⟩) (fun _ _ g => by obtain ⟨rfl, _⟩ := holds_raw.1 g; exact List.Sublist.refl _)
  · rw [if_neg (ne_true_of_eq_false hc)] at h
    refine r_skip ?_
    refine r_then ?_
    refine r_seq ?_
    obtain ⟨hc, h⟩ := ite_ex h
    refine r_imp_at (R' := Res.dat Tryz.prog dI mv1 a0.2.1 a1 (tupv v4 0)) 1 rfl (dfound_dat hc) ?_
    obtain ⟨f5, hf5, h⟩ := bind_ex h
    refine r_perm (L' := [Res.dat Tryz.prog dI mv1 a0.2.1 a1 (tupv v4 0), Res.var b2 56 DT (a0.1, mv1, a0.2.2.1, a0.2.2.2.1, a0.2.2.2.2.1, a0.2.2.2.2.2.1, a0.2.2.2.2.2.2, ())]) ((List.perm_middle (a := Res.dat Tryz.prog dI mv1 a0.2.1 a1 (tupv v4 0)) (l₁ := [Res.var b2 56 DT (a0.1, mv1, a0.2.2.1, a0.2.2.2.1, a0.2.2.2.2.1, a0.2.2.2.2.2.1, a0.2.2.2.2.2.2, ())]) (l₂ := [])).trans (.cons _ (List.Perm.refl _))) ?_
    refine r_dfocus kstr hf5 fun fb6 sv7 tv8 dv9 hq => ?_
    rw [hq]
    clear hq
    refine r_region ?_
    refine r_pure tabOk 3 [17] (E' := [(17, ptr fb6 2)]) rfl ?_
    refine y (y_load 0 ((.snd (.snd (.fst .here)))) rfl rfl (by first | rfl | (simp only [Pth.off, T.size]; omega)) (ok_snd (ok_snd (ok_fst ok_here))) ty59) rfl ?_
    obtain ⟨hc, h⟩ := ite_ex h
    refine r_sortedkeys keysOk sortedOk (by kernel_rfl) (by kernel_rfl) kint 3 rfl rfl hc rfl rfl rfl fun v10 => ?_
    refine r_pure tabOk 1 [4] (E' := [(4, .one (.raw (.slice none 0 0)) v10)]) rfl ?_
    refine r_nil ?_
    refine r_then ?_
    refine r_ret ?_
    refine r_perm (L' := [Res.var fb6 61 FT (sv7, tv8, dv9, ()), Res.own sv7 5 (.int .u8) f5.1, Res.own tv8 5 (.int .u8) f5.2.1, Res.dirty Tryz.prog dI dv9 f5.2.2, Res.dhole Tryz.prog dI mv1 a0.2.1 a1 (.pointer (some ⟨fb6, 0, none⟩)), Res.own v10 3 (.int .i64) f5.2.2, Res.var b2 56 DT (a0.1, mv1, a0.2.2.1, a0.2.2.2.1, a0.2.2.2.2.1, a0.2.2.2.2.2.1, a0.2.2.2.2.2.2, ())]) ((List.perm_middle (a := Res.var fb6 61 FT (sv7, tv8, dv9, ())) (l₁ := [Res.own v10 3 (.int .i64) f5.2.2]) (l₂ := [Res.own sv7 5 (.int .u8) f5.1, Res.own tv8 5 (.int .u8) f5.2.1, Res.dirty Tryz.prog dI dv9 f5.2.2, Res.dhole Tryz.prog dI mv1 a0.2.1 a1 (.pointer (some ⟨fb6, 0, none⟩)), Res.var b2 56 DT (a0.1, mv1, a0.2.2.1, a0.2.2.2.1, a0.2.2.2.2.1, a0.2.2.2.2.2.1, a0.2.2.2.2.2.2, ())])).trans (.cons _ ((List.perm_middle (a := Res.own sv7 5 (.int .u8) f5.1) (l₁ := [Res.own v10 3 (.int .i64) f5.2.2]) (l₂ := [Res.own tv8 5 (.int .u8) f5.2.1, Res.dirty Tryz.prog dI dv9 f5.2.2, Res.dhole Tryz.prog dI mv1 a0.2.1 a1 (.pointer (some ⟨fb6, 0, none⟩)), Res.var b2 56 DT (a0.1, mv1, a0.2.2.1, a0.2.2.2.1, a0.2.2.2.2.1, a0.2.2.2.2.2.1, a0.2.2.2.2.2.2, ())])).trans (.cons _ ((List.perm_middle (a := Res.own tv8 5 (.int .u8) f5.2.1) (l₁ := [Res.own v10 3 (.int .i64) f5.2.2]) (l₂ := [Res.dirty Tryz.prog dI dv9 f5.2.2, Res.dhole Tryz.prog dI mv1 a0.2.1 a1 (.pointer (some ⟨fb6, 0, none⟩)), Res.var b2 56 DT (a0.1, mv1, a0.2.2.1, a0.2.2.2.1, a0.2.2.2.2.1, a0.2.2.2.2.2.1, a0.2.2.2.2.2.2, ())])).trans (.cons _ ((List.perm_middle (a := Res.dirty Tryz.prog dI dv9 f5.2.2) (l₁ := [Res.own v10 3 (.int .i64) f5.2.2]) (l₂ := [Res.dhole Tryz.prog dI mv1 a0.2.1 a1 (.pointer (some ⟨fb6, 0, none⟩)), Res.var b2 56 DT (a0.1, mv1, a0.2.2.1, a0.2.2.2.1, a0.2.2.2.2.1, a0.2.2.2.2.2.1, a0.2.2.2.2.2.2, ())])).trans (.cons _ ((List.perm_middle (a := Res.dhole Tryz.prog dI mv1 a0.2.1 a1 (.pointer (some ⟨fb6, 0, none⟩))) (l₁ := [Res.own v10 3 (.int .i64) f5.2.2]) (l₂ := [Res.var b2 56 DT (a0.1, mv1, a0.2.2.1, a0.2.2.2.1, a0.2.2.2.2.1, a0.2.2.2.2.2.1, a0.2.2.2.2.2.2, ())])).trans (.cons _ (List.Perm.refl _))))))))))) ?_
    refine r_dunfocus_same (P := Tryz.prog) (I := dI) kstr hf5 ?_
    refine r_imp_at (R' := Res.dfiles Tryz.prog dI mv1 a0.2.1) 0 rfl dat_dfiles ?_
    refine r_perm (L' := [Res.var b2 56 DT (a0.1, mv1, a0.2.2.1, a0.2.2.2.1, a0.2.2.2.2.1, a0.2.2.2.2.2.1, a0.2.2.2.2.2.2, ()), Res.dfiles Tryz.prog dI mv1 a0.2.1, Res.own v10 3 (.int .i64) f5.2.2]) ((List.perm_middle (a := Res.var b2 56 DT (a0.1, mv1, a0.2.2.1, a0.2.2.2.1, a0.2.2.2.2.1, a0.2.2.2.2.2.1, a0.2.2.2.2.2.2, ())) (l₁ := [Res.dfiles Tryz.prog dI mv1 a0.2.1, Res.own v10 3 (.int .i64) f5.2.2]) (l₂ := [])).trans (.cons _ (List.Perm.refl _))) ?_
    refine r_disk (P := Tryz.prog) (I := dI) (D := a0) ?_
    obtain rfl := Option.some.inj h
    refine r_perm (L' := [Res.disk Tryz.prog dI (.pointer (some ⟨b2, 0, none⟩)) a0, Res.own v10 3 (.int .i64) f5.2.2]) (List.Perm.refl _) ?_
    exact r_ret1 rfl (.tmp rfl) (fun _ _ g => holds_raw.2 ⟨rfl, by rw [(holds_raw.1 g).1]; exact (holds_raw.1 g).2⟩) (fun _ _ g => by obtain ⟨rfl, _⟩ := holds_raw.1 g; exact List.Sublist.refl _)

theorem escrowlaw19_anew_ok (a0 : List Int) (a1 : Int) (r : Bool) (h : escrowlaw19_anew a0 a1 = some r) : Pure Tryz.prog 13 [.one .str a0, .one (.int .i64) a1] (.one .bool r) := by
  unfold escrowlaw19_anew at h
  refine enter Tryz.func13 rfl 117 rfl rfl fun F => ?_
  refine r_seq ?_
  refine r_region ?_
  refine r_pure tabOk 1 [0, 1] (E' := [(0, .one .str a0), (1, .one (.int .i64) a1)]) rfl ?_
  refine r_nil ?_
  refine r_then ?_
  refine r_seq ?_
  refine r_region ?_
  refine r_pure tabOk 1 [0, 15] (E' := [(0, .one .str a0), (15, .one (.int .i64) a1)]) rfl ?_
  obtain ⟨r1, hr1, h⟩ := bind_ex h
  refine r_calls (escrowlaw19_least_ok a1 140 _ hr1) (by kernel_rfl) rfl rfl ?_
  refine r_pure tabOk 1 [0, 5] (E' := [(0, .one .str a0), (5, .one (.int .i64) r1)]) rfl ?_
  refine r_nil ?_
  refine r_then ?_
  refine r_seq ?_
  refine r_region ?_
  refine r_pure tabOk 2 [5, 17, 18] (E' := [(5, .one (.int .i64) r1), (17, .one .str a0), (18, .one .str a0)]) rfl ?_
  obtain ⟨hc, h⟩ := ite_ex h
  refine y (y_cat rfl rfl hc) rfl ?_
  refine r_pure tabOk 1 [5, 6] (E' := [(5, .one (.int .i64) r1), (6, .one .str (a0 ++ a0))]) rfl ?_
  obtain ⟨long2, hlong2, h⟩ := bnd_ex h
  rw [hlong2]
  refine r_nil ?_
  refine r_then ?_
  refine r_seq ?_
  refine r_region ?_
  obtain ⟨r3, hr3, h⟩ := bind_ex h
  refine r_call (Lo := []) (disk_New_ok 400 _ hr3) (by kernel_rfl) (List.Perm.refl _) rfl rfl fun v4 => ?_
  refine r_pure tabOk 5 [5, 6, 7, 8] (E' := [(5, .one (.int .i64) r1), (6, .one .str long2), (7, .one (.raw (.pointer none)) (tupv v4 0)), (8, .one (.int .i64) r3.1)]) rfl ?_
  refine r_nil ?_
  refine r_then ?_
  refine r_seq ?_
  refine r_region ?_
  obtain ⟨r5, hr5, h⟩ := bind_ex h
  refine r_call (Lo := [Res.diskif Tryz.prog dI (tupv v4 0) r3.2 r3.1]) (disk_New_ok 400 _ hr5) (by kernel_rfl) (List.Perm.refl _) rfl rfl fun v6 => ?_
  refine r_pure tabOk 5 [5, 6, 7, 8, 9, 10] (E' := [(5, .one (.int .i64) r1), (6, .one .str long2), (7, .one (.raw (.pointer none)) (tupv v4 0)), (8, .one (.int .i64) r3.1), (9, .one (.raw (.pointer none)) (tupv v6 0)), (10, .one (.int .i64) r5.1)]) rfl ?_
  refine r_nil ?_
  refine r_then ?_
  refine r_seq ?_
  refine r_seq ?_
  refine r_region ?_
  refine r_pure tabOk 1 [5, 6, 7, 8, 9, 10, 28] (E' := [(5, .one (.int .i64) r1), (6, .one .str long2), (7, .one (.raw (.pointer none)) (tupv v4 0)), (8, .one (.int .i64) r3.1), (9, .one (.raw (.pointer none)) (tupv v6 0)), (10, .one (.int .i64) r5.1), (28, .one (.raw (.pointer none)) (tupv v4 0))]) rfl ?_
  refine y (y_dnil 1 rfl rfl Tryz.underlying30) rfl ?_
  refine r_pure tabOk 1 [5, 6, 7, 8, 9, 10, 30] (E' := [(5, .one (.int .i64) r1), (6, .one .str long2), (7, .one (.raw (.pointer none)) (tupv v4 0)), (8, .one (.int .i64) r3.1), (9, .one (.raw (.pointer none)) (tupv v6 0)), (10, .one (.int .i64) r5.1), (30, .one .bool (r3.1 != 0))]) rfl ?_
  obtain ⟨b7, hbb7, h⟩ := bnd_ex h
  rw [hbb7]
  refine r_lsplit (γ := Unit) 3 (fun _ => [(5, .one (.int .i64) r1), (6, .one .str long2), (7, .one (.raw (.pointer none)) (tupv v4 0)), (8, .one (.int .i64) r3.1), (9, .one (.raw (.pointer none)) (tupv v6 0)), (10, .one (.int .i64) r5.1), (33, .one .bool (b7 || (r5.1 != 0)))]) (fun _ => [Res.diskif Tryz.prog dI (tupv v6 0) r5.2 r5.1, Res.diskif Tryz.prog dI (tupv v4 0) r3.2 r3.1]) ?_ (fun _ => ?_)
  · clear h
    cases b7 with
    | true =>
    refine r_pure tabOk 3 [5, 6, 7, 8, 9, 10, 33] (E' := [(5, .one (.int .i64) r1), (6, .one .str long2), (7, .one (.raw (.pointer none)) (tupv v4 0)), (8, .one (.int .i64) r3.1), (9, .one (.raw (.pointer none)) (tupv v6 0)), (10, .one (.int .i64) r5.1), (33, .one .bool true)]) rfl ?_
    refine r_nil ?_
    refine r_then ?_
    exact r_meetg () rfl rfl
    | false =>
    refine r_pure tabOk 1 [5, 6, 7, 8, 9, 10, 30, 31] (E' := [(5, .one (.int .i64) r1), (6, .one .str long2), (7, .one (.raw (.pointer none)) (tupv v4 0)), (8, .one (.int .i64) r3.1), (9, .one (.raw (.pointer none)) (tupv v6 0)), (10, .one (.int .i64) r5.1), (30, .one .bool false), (31, .one (.raw (.pointer none)) (tupv v6 0))]) rfl ?_
    refine r_guard (by rfl) rfl ?_
    refine y (y_dnil 0 rfl rfl Tryz.underlying30) rfl ?_
    refine r_pure tabOk 1 [5, 6, 7, 8, 9, 10, 33] (E' := [(5, .one (.int .i64) r1), (6, .one .str long2), (7, .one (.raw (.pointer none)) (tupv v4 0)), (8, .one (.int .i64) r3.1), (9, .one (.raw (.pointer none)) (tupv v6 0)), (10, .one (.int .i64) r5.1), (33, .one .bool (r5.1 != 0))]) rfl ?_
    refine r_nil ?_
    refine r_then ?_
    exact r_meetg () rfl rfl
  refine r_pure tabOk 1 [5, 6, 7, 8, 9, 10, 34] (E' := [(5, .one (.int .i64) r1), (6, .one .str long2), (7, .one (.raw (.pointer none)) (tupv v4 0)), (8, .one (.int .i64) r3.1), (9, .one (.raw (.pointer none)) (tupv v6 0)), (10, .one (.int .i64) r5.1), (34, .one .bool (b7 || (r5.1 != 0)))]) rfl ?_
  obtain ⟨b8, hbb8, h⟩ := bnd_ex h
  rw [hbb8]
  refine r_lsplit (γ := Unit) 3 (fun _ => [(5, .one (.int .i64) r1), (6, .one .str long2), (7, .one (.raw (.pointer none)) (tupv v4 0)), (9, .one (.raw (.pointer none)) (tupv v6 0)), (10, .one (.int .i64) r5.1), (37, .one .bool (b8 || (r3.1 != 0)))]) (fun _ => [Res.diskif Tryz.prog dI (tupv v6 0) r5.2 r5.1, Res.diskif Tryz.prog dI (tupv v4 0) r3.2 r3.1]) ?_ (fun _ => ?_)
  · clear h
    cases b8 with
    | true =>
    refine r_pure tabOk 3 [5, 6, 7, 9, 10, 37] (E' := [(5, .one (.int .i64) r1), (6, .one .str long2), (7, .one (.raw (.pointer none)) (tupv v4 0)), (9, .one (.raw (.pointer none)) (tupv v6 0)), (10, .one (.int .i64) r5.1), (37, .one .bool true)]) rfl ?_
    refine r_nil ?_
    refine r_then ?_
    exact r_meetg () rfl rfl
    | false =>
    refine r_pure tabOk 3 [5, 6, 7, 9, 10, 37] (E' := [(5, .one (.int .i64) r1), (6, .one .str long2), (7, .one (.raw (.pointer none)) (tupv v4 0)), (9, .one (.raw (.pointer none)) (tupv v6 0)), (10, .one (.int .i64) r5.1), (37, .one .bool (r3.1 != 0))]) rfl ?_
    refine r_nil ?_
    refine r_then ?_
    exact r_meetg () rfl rfl
  refine r_pure tabOk 1 [5, 6, 7, 9, 10, 38] (E' := [(5, .one (.int .i64) r1), (6, .one .str long2), (7, .one (.raw (.pointer none)) (tupv v4 0)), (9, .one (.raw (.pointer none)) (tupv v6 0)), (10, .one (.int .i64) r5.1), (38, .one .bool (b8 || (r3.1 != 0)))]) rfl ?_
  obtain ⟨b9, hbb9, h⟩ := bnd_ex h
  rw [hbb9]
  refine r_lsplit (γ := Unit) 3 (fun _ => [(5, .one (.int .i64) r1), (6, .one .str long2), (7, .one (.raw (.pointer none)) (tupv v4 0)), (9, .one (.raw (.pointer none)) (tupv v6 0)), (41, .one .bool (b9 || (r5.1 != 0)))]) (fun _ => [Res.diskif Tryz.prog dI (tupv v6 0) r5.2 r5.1, Res.diskif Tryz.prog dI (tupv v4 0) r3.2 r3.1]) ?_ (fun _ => ?_)
  · clear h
    cases b9 with
    | true =>
    refine r_pure tabOk 3 [5, 6, 7, 9, 41] (E' := [(5, .one (.int .i64) r1), (6, .one .str long2), (7, .one (.raw (.pointer none)) (tupv v4 0)), (9, .one (.raw (.pointer none)) (tupv v6 0)), (41, .one .bool true)]) rfl ?_
    refine r_nil ?_
    refine r_then ?_
    exact r_meetg () rfl rfl
    | false =>
    refine r_pure tabOk 3 [5, 6, 7, 9, 41] (E' := [(5, .one (.int .i64) r1), (6, .one .str long2), (7, .one (.raw (.pointer none)) (tupv v4 0)), (9, .one (.raw (.pointer none)) (tupv v6 0)), (41, .one .bool (r5.1 != 0))]) rfl ?_
    refine r_nil ?_
    refine r_then ?_
    exact r_meetg () rfl rfl
  refine r_pure tabOk 1 [5, 6, 7, 9, 42] (E' := [(5, .one (.int .i64) r1), (6, .one .str long2), (7, .one (.raw (.pointer none)) (tupv v4 0)), (9, .one (.raw (.pointer none)) (tupv v6 0)), (42, .one .bool (b9 || (r5.1 != 0)))]) rfl ?_
  obtain ⟨b10, hbb10, h⟩ := bnd_ex h
  rw [hbb10]
  obtain ⟨k11, hk11, h⟩ := bnd_ex h
  refine r_lsplitk (γ := Unit) 7 (fun (o12 : Bool × DiskS) _ => [(5, .one (.int .i64) r1), (6, .one .str long2), (7, .one (.raw (.pointer none)) (tupv v4 0)), (9, .one (.raw (.pointer none)) (tupv v6 0)), (49, .one .bool o12.1)]) (fun (o12 : Bool × DiskS) _ => [Res.diskif Tryz.prog dI (tupv v6 0) r5.2 r5.1, Res.diskif Tryz.prog dI (tupv v4 0) o12.2 r3.1]) k11 r ?_ ?_
  · rcases Bool.eq_false_or_eq_true b10 with hh | hh
    · rw [hh] at h ⊢
      rw [if_pos rfl] at h
      refine r_pure tabOk 7 [5, 6, 7, 9, 49] (E' := [(5, .one (.int .i64) r1), (6, .one .str long2), (7, .one (.raw (.pointer none)) (tupv v4 0)), (9, .one (.raw (.pointer none)) (tupv v6 0)), (49, .one .bool true)]) rfl ?_
      refine r_nil ?_
      refine r_less [5, 6, 7, 9, 49] rfl ?_
      refine r_then ?_
      exact r_meetk (true, r3.2) () h rfl rfl
    · rw [hh] at h ⊢
      rw [if_neg (by decide)] at h
      refine r_pure tabOk 3 [5, 6, 7, 9, 42, 43, 44, 45] (E' := [(5, .one (.int .i64) r1), (6, .one .str long2), (7, .one (.raw (.pointer none)) (tupv v4 0)), (9, .one (.raw (.pointer none)) (tupv v6 0)), (42, .one .bool false), (43, .one (.raw (.pointer none)) (tupv v4 0)), (44, .one .str long2), (45, .one (.int .i64) r1)]) rfl ?_
      refine r_guard (by rfl) rfl ?_
      obtain ⟨hc, h⟩ := ite_ex h
      refine y (y_sub (i := (0 : Int)) (j := r1) tabOk rfl rfl rfl hc.1 hc.2.1 hc.2.2 rfl) rfl ?_
      refine r_guard (by rfl) rfl ?_
      obtain ⟨he13, h⟩ := ite_ex h
      refine r_imp_at (R' := Res.disk Tryz.prog dI (tupv v4 0) r3.2) 1 rfl (diskif_disk he13) ?_
      obtain ⟨r14, hr14, h⟩ := bind_ex h
      refine r_call (Lo := [Res.diskif Tryz.prog dI (tupv v6 0) r5.2 r5.1]) (disk_Disk_Write_ok (tupv v4 0) r3.2 [109] 0 (List.drop 0 (List.take (Int.toNat r1) long2)) _ hr14) (by kernel_rfl) ((List.perm_middle (a := Res.disk Tryz.prog dI (tupv v4 0) r3.2) (l₁ := [Res.diskif Tryz.prog dI (tupv v6 0) r5.2 r5.1]) (l₂ := [])).trans (.cons _ (List.Perm.refl _))) rfl rfl fun _ => ?_
      refine r_pure tabOk 2 [5, 6, 7, 9, 49] (E' := [(5, .one (.int .i64) r1), (6, .one .str long2), (7, .one (.raw (.pointer none)) (tupv v4 0)), (9, .one (.raw (.pointer none)) (tupv v6 0)), (49, .one .bool (r14.1 != 0))]) rfl ?_
      refine r_nil ?_
      refine r_less [5, 6, 7, 9, 49] rfl ?_
      refine r_imp_at (R' := Res.diskif Tryz.prog dI (tupv v4 0) r14.2 r3.1) 0 rfl (diskif_of he13) ?_
      refine r_perm (L' := [Res.diskif Tryz.prog dI (tupv v6 0) r5.2 r5.1, Res.diskif Tryz.prog dI (tupv v4 0) r14.2 r3.1]) ((List.perm_middle (a := Res.diskif Tryz.prog dI (tupv v6 0) r5.2 r5.1) (l₁ := [Res.diskif Tryz.prog dI (tupv v4 0) r14.2 r3.1]) (l₂ := [])).trans (.cons _ (List.Perm.refl _))) ?_
      refine r_then ?_
      exact r_meetk ((r14.1 != 0), r14.2) () h rfl rfl
  · intro o12 _ h
    rw [← hk11] at h
    try dsimp only at h
    refine r_pure tabOk 1 [5, 6, 7, 9, 50] (E' := [(5, .one (.int .i64) r1), (6, .one .str long2), (7, .one (.raw (.pointer none)) (tupv v4 0)), (9, .one (.raw (.pointer none)) (tupv v6 0)), (50, .one .bool o12.1)]) rfl ?_
    obtain ⟨k16, hk16, h⟩ := bnd_ex h
    refine r_lsplitk (γ := Unit) 7 (fun (o17 : Bool × DiskS) _ => [(5, .one (.int .i64) r1), (7, .one (.raw (.pointer none)) (tupv v4 0)), (9, .one (.raw (.pointer none)) (tupv v6 0)), (57, .one .bool o17.1)]) (fun (o17 : Bool × DiskS) _ => [Res.diskif Tryz.prog dI (tupv v6 0) o17.2 r5.1, Res.diskif Tryz.prog dI (tupv v4 0) o12.2 r3.1]) k16 r ?_ ?_
    · rcases Bool.eq_false_or_eq_true o12.1 with hh | hh
      · rw [hh] at h ⊢
        rw [if_pos rfl] at h
        refine r_pure tabOk 7 [5, 7, 9, 57] (E' := [(5, .one (.int .i64) r1), (7, .one (.raw (.pointer none)) (tupv v4 0)), (9, .one (.raw (.pointer none)) (tupv v6 0)), (57, .one .bool true)]) rfl ?_
        refine r_nil ?_
        refine r_less [5, 7, 9, 57] rfl ?_
        refine r_then ?_
        exact r_meetk (true, r5.2) () h rfl rfl
      · rw [hh] at h ⊢
        rw [if_neg (by decide)] at h
        refine r_pure tabOk 3 [5, 7, 9, 50, 51, 52, 53] (E' := [(5, .one (.int .i64) r1), (7, .one (.raw (.pointer none)) (tupv v4 0)), (9, .one (.raw (.pointer none)) (tupv v6 0)), (50, .one .bool false), (51, .one (.raw (.pointer none)) (tupv v6 0)), (52, .one .str long2), (53, .one (.int .i64) r1)]) rfl ?_
        refine r_guard (by rfl) rfl ?_
        obtain ⟨hc, h⟩ := ite_ex h
        refine y (y_sub (i := (0 : Int)) (j := r1) tabOk rfl rfl rfl hc.1 hc.2.1 hc.2.2 rfl) rfl ?_
        refine r_guard (by rfl) rfl ?_
        obtain ⟨he18, h⟩ := ite_ex h
        refine r_imp_at (R' := Res.disk Tryz.prog dI (tupv v6 0) r5.2) 0 rfl (diskif_disk he18) ?_
        obtain ⟨r19, hr19, h⟩ := bind_ex h
        refine r_call (Lo := [Res.diskif Tryz.prog dI (tupv v4 0) o12.2 r3.1]) (disk_Disk_Write_ok (tupv v6 0) r5.2 [109, 46, 116, 109, 112] 0 (List.drop 0 (List.take (Int.toNat r1) long2)) _ hr19) (by kernel_rfl) (List.Perm.refl _) rfl rfl fun _ => ?_
        refine r_pure tabOk 2 [5, 7, 9, 57] (E' := [(5, .one (.int .i64) r1), (7, .one (.raw (.pointer none)) (tupv v4 0)), (9, .one (.raw (.pointer none)) (tupv v6 0)), (57, .one .bool (r19.1 != 0))]) rfl ?_
        refine r_nil ?_
        refine r_less [5, 7, 9, 57] rfl ?_
        refine r_imp_at (R' := Res.diskif Tryz.prog dI (tupv v6 0) r19.2 r5.1) 0 rfl (diskif_of he18) ?_
        refine r_then ?_
        exact r_meetk ((r19.1 != 0), r19.2) () h rfl rfl
    · intro o17 _ h
      rw [← hk16] at h
      try dsimp only at h
      refine r_nil ?_
      refine r_then ?_
      refine r_if (b := o17.1) rfl (fun hc => ?_) (fun hc => ?_)
      · rw [if_pos hc] at h
        refine r_seq ?_
        refine r_region ?_
        refine r_pure tabOk 1 [4] (E' := [(4, .one .bool false)]) rfl ?_
        refine r_nil ?_
        refine r_then ?_
        refine r_ret ?_
        refine t_then ?_
        obtain rfl := Option.some.inj h
        exact r_ret1 rfl (.tmp rfl) (fun _ _ g => g) (fun _ _ _ => List.nil_sublist _)
      · rw [if_neg (ne_true_of_eq_false hc)] at h
        refine r_skip ?_
        refine r_then ?_
        refine r_seq ?_
        refine r_region ?_
        refine r_pure tabOk 1 [5, 9, 59] (E' := [(5, .one (.int .i64) r1), (9, .one (.raw (.pointer none)) (tupv v6 0)), (59, .one (.raw (.pointer none)) (tupv v4 0))]) rfl ?_
        obtain ⟨he20, h⟩ := ite_ex h
        refine r_imp_at (R' := Res.disk Tryz.prog dI (tupv v4 0) o12.2) 1 rfl (diskif_disk he20) ?_
        obtain ⟨r21, hr21, h⟩ := bind_ex h
        refine r_call (Lo := [Res.diskif Tryz.prog dI (tupv v6 0) o17.2 r5.1]) (mark_Open_ok (tupv v4 0) o12.2 [109] _ hr21) (by kernel_rfl) ((List.perm_middle (a := Res.disk Tryz.prog dI (tupv v4 0) o12.2) (l₁ := [Res.diskif Tryz.prog dI (tupv v6 0) o17.2 r5.1]) (l₂ := [])).trans (.cons _ (List.Perm.refl _))) rfl rfl fun v22 => ?_
        refine r_pure tabOk 5 [5, 8, 9, 11] (E' := [(5, .one (.int .i64) r1), (8, .one (.int .i64) r21.2.1), (9, .one (.raw (.pointer none)) (tupv v6 0)), (11, .one (.raw (.pointer none)) (tupv v22 0))]) rfl ?_
        refine r_nil ?_
        refine r_then ?_
        refine r_seq ?_
        refine r_region ?_
        refine r_pure tabOk 1 [5, 8, 9, 11, 64] (E' := [(5, .one (.int .i64) r1), (8, .one (.int .i64) r21.2.1), (9, .one (.raw (.pointer none)) (tupv v6 0)), (11, .one (.raw (.pointer none)) (tupv v22 0)), (64, .one (.raw (.pointer none)) (tupv v6 0))]) rfl ?_
        obtain ⟨he23, h⟩ := ite_ex h
        refine r_imp_at (R' := Res.disk Tryz.prog dI (tupv v6 0) o17.2) 2 rfl (diskif_disk he23) ?_
        obtain ⟨r24, hr24, h⟩ := bind_ex h
        refine r_call (Lo := [Res.disk Tryz.prog dI (tupv v4 0) r21.2.2, Res.clsif (CMark (tupv v4 0)) (tupv v22 0) r21.1.2 r21.1.1]) (mark_Open_ok (tupv v6 0) o17.2 [109] _ hr24) (by kernel_rfl) ((List.perm_middle (a := Res.disk Tryz.prog dI (tupv v6 0) o17.2) (l₁ := [Res.disk Tryz.prog dI (tupv v4 0) r21.2.2, Res.clsif (CMark (tupv v4 0)) (tupv v22 0) r21.1.2 r21.1.1]) (l₂ := [])).trans (.cons _ (List.Perm.refl _))) rfl rfl fun v25 => ?_
        refine r_pure tabOk 5 [5, 8, 9, 10, 11, 12] (E' := [(5, .one (.int .i64) r1), (8, .one (.int .i64) r21.2.1), (9, .one (.raw (.pointer none)) (tupv v6 0)), (10, .one (.int .i64) r24.2.1), (11, .one (.raw (.pointer none)) (tupv v22 0)), (12, .one (.raw (.pointer none)) (tupv v25 0))]) rfl ?_
        refine r_nil ?_
        refine r_then ?_
        refine r_seq ?_
        refine r_region ?_
        refine r_pure tabOk 1 [5, 8, 9, 10, 11, 12, 69] (E' := [(5, .one (.int .i64) r1), (8, .one (.int .i64) r21.2.1), (9, .one (.raw (.pointer none)) (tupv v6 0)), (10, .one (.int .i64) r24.2.1), (11, .one (.raw (.pointer none)) (tupv v22 0)), (12, .one (.raw (.pointer none)) (tupv v25 0)), (69, .one (.raw (.pointer none)) (tupv v6 0))]) rfl ?_
        obtain ⟨r26, hr26, h⟩ := bind_ex h
        refine r_call (Lo := [Res.clsif (CMark (tupv v6 0)) (tupv v25 0) r24.1.2 r24.1.1, Res.disk Tryz.prog dI (tupv v4 0) r21.2.2, Res.clsif (CMark (tupv v4 0)) (tupv v22 0) r21.1.2 r21.1.1]) (disk_Disk_Read_ok (tupv v6 0) r24.2.2 [109] 0 200 _ hr26) (by kernel_rfl) (List.Perm.refl _) rfl rfl fun _ => ?_
        refine r_pure tabOk 5 [5, 8, 9, 10, 11, 12, 13, 14] (E' := [(5, .one (.int .i64) r1), (8, .one (.int .i64) r21.2.1), (9, .one (.raw (.pointer none)) (tupv v6 0)), (10, .one (.int .i64) r24.2.1), (11, .one (.raw (.pointer none)) (tupv v22 0)), (12, .one (.raw (.pointer none)) (tupv v25 0)), (13, .one .str r26.1), (14, .one (.int .i64) r26.2)]) rfl ?_
        refine r_nil ?_
        refine r_then ?_
        refine r_seq ?_
        refine r_seq ?_
        refine r_region ?_
        refine r_pure tabOk 3 [8, 9, 10, 11, 12, 13, 14, 75] (E' := [(8, .one (.int .i64) r21.2.1), (9, .one (.raw (.pointer none)) (tupv v6 0)), (10, .one (.int .i64) r24.2.1), (11, .one (.raw (.pointer none)) (tupv v22 0)), (12, .one (.raw (.pointer none)) (tupv v25 0)), (13, .one .str r26.1), (14, .one (.int .i64) r26.2), (75, .one .bool (r1 != 128))]) rfl ?_
        obtain ⟨b27, hbb27, h⟩ := bnd_ex h
        rw [hbb27]
        obtain ⟨k28, hk28, h⟩ := bnd_ex h
        refine r_lsplitk (γ := Unit) 7 (fun (o29 : Bool) _ => [(9, .one (.raw (.pointer none)) (tupv v6 0)), (10, .one (.int .i64) r24.2.1), (12, .one (.raw (.pointer none)) (tupv v25 0)), (13, .one .str r26.1), (14, .one (.int .i64) r26.2), (82, .one .bool o29)]) (fun _ _ => [Res.disk Tryz.prog dI (tupv v6 0) r24.2.2, Res.clsif (CMark (tupv v6 0)) (tupv v25 0) r24.1.2 r24.1.1, Res.disk Tryz.prog dI (tupv v4 0) r21.2.2, Res.clsif (CMark (tupv v4 0)) (tupv v22 0) r21.1.2 r21.1.1]) k28 r ?_ ?_
        · rcases Bool.eq_false_or_eq_true b27 with hh | hh
          · rw [hh] at h ⊢
            rw [if_pos rfl] at h
            refine r_pure tabOk 1 [8, 9, 10, 12, 13, 14, 75, 76] (E' := [(8, .one (.int .i64) r21.2.1), (9, .one (.raw (.pointer none)) (tupv v6 0)), (10, .one (.int .i64) r24.2.1), (12, .one (.raw (.pointer none)) (tupv v25 0)), (13, .one .str r26.1), (14, .one (.int .i64) r26.2), (75, .one .bool true), (76, .one (.raw (.pointer none)) (tupv v22 0))]) rfl ?_
            refine r_guard (by rfl) rfl ?_
            refine y (y_cnnil 3 rfl rfl Tryz.underlying35) rfl ?_
            refine r_pure tabOk 1 [8, 9, 10, 12, 13, 14, 75, 78] (E' := [(8, .one (.int .i64) r21.2.1), (9, .one (.raw (.pointer none)) (tupv v6 0)), (10, .one (.int .i64) r24.2.1), (12, .one (.raw (.pointer none)) (tupv v25 0)), (13, .one .str r26.1), (14, .one (.int .i64) r26.2), (75, .one .bool true), (78, .one .bool (r21.1.1 == 0))]) rfl ?_
            obtain ⟨b30, hbb30, h⟩ := bnd_ex h
            rw [hbb30]
            refine r_lsplit (γ := Unit) 3 (fun _ => [(9, .one (.raw (.pointer none)) (tupv v6 0)), (10, .one (.int .i64) r24.2.1), (12, .one (.raw (.pointer none)) (tupv v25 0)), (13, .one .str r26.1), (14, .one (.int .i64) r26.2), (75, .one .bool true), (81, .one .bool (b30 || (r21.2.1 != 190)))]) (fun _ => [Res.disk Tryz.prog dI (tupv v6 0) r24.2.2, Res.clsif (CMark (tupv v6 0)) (tupv v25 0) r24.1.2 r24.1.1, Res.disk Tryz.prog dI (tupv v4 0) r21.2.2, Res.clsif (CMark (tupv v4 0)) (tupv v22 0) r21.1.2 r21.1.1]) ?_ (fun _ => ?_)
            · clear h
              cases b30 with
              | true =>
              refine r_pure tabOk 3 [9, 10, 12, 13, 14, 75, 81] (E' := [(9, .one (.raw (.pointer none)) (tupv v6 0)), (10, .one (.int .i64) r24.2.1), (12, .one (.raw (.pointer none)) (tupv v25 0)), (13, .one .str r26.1), (14, .one (.int .i64) r26.2), (75, .one .bool true), (81, .one .bool true)]) rfl ?_
              refine r_nil ?_
              refine r_then ?_
              exact r_meetg () rfl rfl
              | false =>
              refine r_pure tabOk 3 [9, 10, 12, 13, 14, 75, 81] (E' := [(9, .one (.raw (.pointer none)) (tupv v6 0)), (10, .one (.int .i64) r24.2.1), (12, .one (.raw (.pointer none)) (tupv v25 0)), (13, .one .str r26.1), (14, .one (.int .i64) r26.2), (75, .one .bool true), (81, .one .bool (r21.2.1 != 190))]) rfl ?_
              refine r_nil ?_
              refine r_then ?_
              exact r_meetg () rfl rfl
            refine r_pure tabOk 1 [9, 10, 12, 13, 14, 82] (E' := [(9, .one (.raw (.pointer none)) (tupv v6 0)), (10, .one (.int .i64) r24.2.1), (12, .one (.raw (.pointer none)) (tupv v25 0)), (13, .one .str r26.1), (14, .one (.int .i64) r26.2), (82, .one .bool (b30 || (r21.2.1 != 190)))]) rfl ?_
            refine r_nil ?_
            refine r_less [9, 10, 12, 13, 14, 82] rfl ?_
            refine r_then ?_
            exact r_meetk (b30 || (r21.2.1 != 190)) () h rfl rfl
          · rw [hh] at h ⊢
            rw [if_neg (by decide)] at h
            refine r_pure tabOk 7 [9, 10, 12, 13, 14, 82] (E' := [(9, .one (.raw (.pointer none)) (tupv v6 0)), (10, .one (.int .i64) r24.2.1), (12, .one (.raw (.pointer none)) (tupv v25 0)), (13, .one .str r26.1), (14, .one (.int .i64) r26.2), (82, .one .bool false)]) rfl ?_
            refine r_nil ?_
            refine r_less [9, 10, 12, 13, 14, 82] rfl ?_
            refine r_then ?_
            exact r_meetk false () h rfl rfl
        · intro o29 _ h
          rw [← hk28] at h
          try dsimp only at h
          refine r_nil ?_
          refine r_then ?_
          refine r_if (b := o29) rfl (fun hc => ?_) (fun hc => ?_)
          · rw [if_pos hc] at h
            refine r_seq ?_
            refine r_region ?_
            refine r_pure tabOk 1 [4] (E' := [(4, .one .bool false)]) rfl ?_
            refine r_nil ?_
            refine r_then ?_
            refine r_ret ?_
            refine t_then ?_
            obtain rfl := Option.some.inj h
            exact r_ret1 rfl (.tmp rfl) (fun _ _ g => g) (fun _ _ _ => List.nil_sublist _)
          · rw [if_neg (ne_true_of_eq_false hc)] at h
            refine r_skip ?_
            refine r_then ?_
            refine r_seq ?_
            refine r_region ?_
            refine r_pure tabOk 1 [9, 10, 12, 13, 14, 83] (E' := [(9, .one (.raw (.pointer none)) (tupv v6 0)), (10, .one (.int .i64) r24.2.1), (12, .one (.raw (.pointer none)) (tupv v25 0)), (13, .one .str r26.1), (14, .one (.int .i64) r26.2), (83, .one (.raw (.pointer none)) (tupv v25 0))]) rfl ?_
            refine y (y_cnnil 1 rfl rfl Tryz.underlying35) rfl ?_
            refine r_pure tabOk 1 [9, 10, 12, 13, 14, 85] (E' := [(9, .one (.raw (.pointer none)) (tupv v6 0)), (10, .one (.int .i64) r24.2.1), (12, .one (.raw (.pointer none)) (tupv v25 0)), (13, .one .str r26.1), (14, .one (.int .i64) r26.2), (85, .one .bool (r24.1.1 == 0))]) rfl ?_
            obtain ⟨b31, hbb31, h⟩ := bnd_ex h
            rw [hbb31]
            refine r_lsplit (γ := Unit) 3 (fun _ => [(9, .one (.raw (.pointer none)) (tupv v6 0)), (12, .one (.raw (.pointer none)) (tupv v25 0)), (13, .one .str r26.1), (14, .one (.int .i64) r26.2), (88, .one .bool (b31 && (r24.2.1 == 0)))]) (fun _ => [Res.disk Tryz.prog dI (tupv v6 0) r24.2.2, Res.clsif (CMark (tupv v6 0)) (tupv v25 0) r24.1.2 r24.1.1, Res.disk Tryz.prog dI (tupv v4 0) r21.2.2, Res.clsif (CMark (tupv v4 0)) (tupv v22 0) r21.1.2 r21.1.1]) ?_ (fun _ => ?_)
            · clear h
              cases b31 with
              | true =>
              refine r_pure tabOk 3 [9, 12, 13, 14, 88] (E' := [(9, .one (.raw (.pointer none)) (tupv v6 0)), (12, .one (.raw (.pointer none)) (tupv v25 0)), (13, .one .str r26.1), (14, .one (.int .i64) r26.2), (88, .one .bool (r24.2.1 == 0))]) rfl ?_
              refine r_nil ?_
              refine r_then ?_
              exact r_meetg () rfl rfl
              | false =>
              refine r_pure tabOk 3 [9, 12, 13, 14, 88] (E' := [(9, .one (.raw (.pointer none)) (tupv v6 0)), (12, .one (.raw (.pointer none)) (tupv v25 0)), (13, .one .str r26.1), (14, .one (.int .i64) r26.2), (88, .one .bool false)]) rfl ?_
              refine r_nil ?_
              refine r_then ?_
              exact r_meetg () rfl rfl
            refine r_pure tabOk 1 [9, 12, 13, 14, 89] (E' := [(9, .one (.raw (.pointer none)) (tupv v6 0)), (12, .one (.raw (.pointer none)) (tupv v25 0)), (13, .one .str r26.1), (14, .one (.int .i64) r26.2), (89, .one .bool (b31 && (r24.2.1 == 0)))]) rfl ?_
            obtain ⟨b32, hbb32, h⟩ := bnd_ex h
            rw [hbb32]
            obtain ⟨k33, hk33, h⟩ := bnd_ex h
            refine r_lsplitk (γ := Unit) 4 (fun (o34 : Bool) _ => [(9, .one (.raw (.pointer none)) (tupv v6 0)), (13, .one .str r26.1), (14, .one (.int .i64) r26.2), (93, .one .bool o34)]) (fun _ _ => [Res.disk Tryz.prog dI (tupv v6 0) r24.2.2, Res.clsif (CMark (tupv v6 0)) (tupv v25 0) r24.1.2 r24.1.1, Res.disk Tryz.prog dI (tupv v4 0) r21.2.2, Res.clsif (CMark (tupv v4 0)) (tupv v22 0) r21.1.2 r21.1.1]) k33 r ?_ ?_
            · rcases Bool.eq_false_or_eq_true b32 with hh | hh
              · rw [hh] at h ⊢
                rw [if_pos rfl] at h
                refine r_pure tabOk 1 [9, 13, 14, 89, 90] (E' := [(9, .one (.raw (.pointer none)) (tupv v6 0)), (13, .one .str r26.1), (14, .one (.int .i64) r26.2), (89, .one .bool true), (90, .one (.raw (.pointer none)) (tupv v25 0))]) rfl ?_
                refine r_guard (by rfl) rfl ?_
                obtain ⟨he35, h⟩ := ite_ex h
                refine r_imp_at (R' := Res.cls (CMark (tupv v6 0)) (tupv v25 0) r24.1.2) 1 rfl (clsif_cls he35) ?_
                obtain ⟨r36, hr36, h⟩ := bind_ex h
                refine r_call (Lo := [Res.disk Tryz.prog dI (tupv v4 0) r21.2.2, Res.clsif (CMark (tupv v4 0)) (tupv v22 0) r21.1.2 r21.1.1]) (mark_Mark_Value_ok (tupv v25 0) (tupv v6 0) r24.1.2 r24.2.2 _ hr36) (by kernel_rfl) ((List.perm_middle (a := Res.cls (CMark (tupv v6 0)) (tupv v25 0) r24.1.2) (l₁ := [Res.disk Tryz.prog dI (tupv v6 0) r24.2.2]) (l₂ := [Res.disk Tryz.prog dI (tupv v4 0) r21.2.2, Res.clsif (CMark (tupv v4 0)) (tupv v22 0) r21.1.2 r21.1.1])).trans (.cons _ (List.Perm.refl _))) rfl rfl fun _ => ?_
                refine r_pure tabOk 2 [9, 13, 14, 93] (E' := [(9, .one (.raw (.pointer none)) (tupv v6 0)), (13, .one .str r26.1), (14, .one (.int .i64) r26.2), (93, .one .bool (r36 == (-1)))]) rfl ?_
                refine r_nil ?_
                refine r_less [9, 13, 14, 93] rfl ?_
                refine r_imp_at (R' := Res.clsif (CMark (tupv v6 0)) (tupv v25 0) r24.1.2 r24.1.1) 0 rfl (clsif_of he35) ?_
                refine r_perm (L' := [Res.disk Tryz.prog dI (tupv v6 0) r24.2.2, Res.clsif (CMark (tupv v6 0)) (tupv v25 0) r24.1.2 r24.1.1, Res.disk Tryz.prog dI (tupv v4 0) r21.2.2, Res.clsif (CMark (tupv v4 0)) (tupv v22 0) r21.1.2 r21.1.1]) ((List.perm_middle (a := Res.disk Tryz.prog dI (tupv v6 0) r24.2.2) (l₁ := [Res.clsif (CMark (tupv v6 0)) (tupv v25 0) r24.1.2 r24.1.1]) (l₂ := [Res.disk Tryz.prog dI (tupv v4 0) r21.2.2, Res.clsif (CMark (tupv v4 0)) (tupv v22 0) r21.1.2 r21.1.1])).trans (.cons _ (List.Perm.refl _))) ?_
                refine r_then ?_
                exact r_meetk (r36 == (-1)) () h rfl rfl
              · rw [hh] at h ⊢
                rw [if_neg (by decide)] at h
                refine r_pure tabOk 4 [9, 13, 14, 93] (E' := [(9, .one (.raw (.pointer none)) (tupv v6 0)), (13, .one .str r26.1), (14, .one (.int .i64) r26.2), (93, .one .bool false)]) rfl ?_
                refine r_nil ?_
                refine r_less [9, 13, 14, 93] rfl ?_
                refine r_then ?_
                exact r_meetk false () h rfl rfl
            · intro o34 _ h
              rw [← hk33] at h
              try dsimp only at h
              refine r_pure tabOk 1 [9, 13, 14, 94] (E' := [(9, .one (.raw (.pointer none)) (tupv v6 0)), (13, .one .str r26.1), (14, .one (.int .i64) r26.2), (94, .one .bool o34)]) rfl ?_
              refine r_lsplit (γ := Unit) 3 (fun _ => [(9, .one (.raw (.pointer none)) (tupv v6 0)), (13, .one .str r26.1), (97, .one .bool (o34 && (r26.2 == 0)))]) (fun _ => [Res.disk Tryz.prog dI (tupv v6 0) r24.2.2, Res.clsif (CMark (tupv v6 0)) (tupv v25 0) r24.1.2 r24.1.1, Res.disk Tryz.prog dI (tupv v4 0) r21.2.2, Res.clsif (CMark (tupv v4 0)) (tupv v22 0) r21.1.2 r21.1.1]) ?_ (fun _ => ?_)
              · clear h
                rcases Bool.eq_false_or_eq_true o34 with hh | hh
                · rw [hh]
                  refine r_pure tabOk 3 [9, 13, 97] (E' := [(9, .one (.raw (.pointer none)) (tupv v6 0)), (13, .one .str r26.1), (97, .one .bool (r26.2 == 0))]) rfl ?_
                  refine r_nil ?_
                  refine r_then ?_
                  exact r_meetg () rfl rfl
                · rw [hh]
                  refine r_pure tabOk 3 [9, 13, 97] (E' := [(9, .one (.raw (.pointer none)) (tupv v6 0)), (13, .one .str r26.1), (97, .one .bool false)]) rfl ?_
                  refine r_nil ?_
                  refine r_then ?_
                  exact r_meetg () rfl rfl
              refine r_pure tabOk 1 [9, 13, 98] (E' := [(9, .one (.raw (.pointer none)) (tupv v6 0)), (13, .one .str r26.1), (98, .one .bool (o34 && (r26.2 == 0)))]) rfl ?_
              obtain ⟨b38, hbb38, h⟩ := bnd_ex h
              rw [hbb38]
              obtain ⟨k39, hk39, h⟩ := bnd_ex h
              refine r_lsplitk (γ := Unit) 6 (fun (o40 : Bool) _ => [(9, .one (.raw (.pointer none)) (tupv v6 0)), (104, .one .bool o40)]) (fun _ _ => [Res.disk Tryz.prog dI (tupv v6 0) r24.2.2, Res.clsif (CMark (tupv v6 0)) (tupv v25 0) r24.1.2 r24.1.1, Res.disk Tryz.prog dI (tupv v4 0) r21.2.2, Res.clsif (CMark (tupv v4 0)) (tupv v22 0) r21.1.2 r21.1.1]) k39 r ?_ ?_
              · rcases Bool.eq_false_or_eq_true b38 with hh | hh
                · rw [hh] at h ⊢
                  rw [if_pos rfl] at h
                  refine r_pure tabOk 1 [9, 98, 99] (E' := [(9, .one (.raw (.pointer none)) (tupv v6 0)), (98, .one .bool true), (99, .one .str r26.1)]) rfl ?_
                  refine r_guard (by rfl) rfl ?_
                  obtain ⟨r41, hr41, h⟩ := bind_ex h
                  refine r_calls (escrowlaw19_slot_ok (-1) _ hr41) (by kernel_rfl) rfl rfl ?_
                  refine r_guard (by rfl) rfl ?_
                  obtain ⟨r42, hr42, h⟩ := bind_ex h
                  refine r_calls (escrowlaw19_slot_ok (-1) _ hr42) (by kernel_rfl) rfl rfl ?_
                  refine r_guard (by rfl) rfl ?_
                  obtain ⟨hc, h⟩ := ite_ex h
                  refine y (y_cat rfl rfl hc) rfl ?_
                  refine r_pure tabOk 2 [9, 104] (E' := [(9, .one (.raw (.pointer none)) (tupv v6 0)), (104, .one .bool (r26.1 == (r41 ++ r42)))]) rfl ?_
                  refine r_nil ?_
                  refine r_less [9, 104] rfl ?_
                  refine r_then ?_
                  exact r_meetk (r26.1 == (r41 ++ r42)) () h rfl rfl
                · rw [hh] at h ⊢
                  rw [if_neg (by decide)] at h
                  refine r_pure tabOk 6 [9, 104] (E' := [(9, .one (.raw (.pointer none)) (tupv v6 0)), (104, .one .bool false)]) rfl ?_
                  refine r_nil ?_
                  refine r_less [9, 104] rfl ?_
                  refine r_then ?_
                  exact r_meetk false () h rfl rfl
              · intro o40 _ h
                rw [← hk39] at h
                try dsimp only at h
                refine r_pure tabOk 1 [9, 105] (E' := [(9, .one (.raw (.pointer none)) (tupv v6 0)), (105, .one .bool o40)]) rfl ?_
                obtain ⟨k44, hk44, h⟩ := bnd_ex h
                refine r_lsplitk (γ := Unit) 5 (fun (o45 : Bool) _ => [(9, .one (.raw (.pointer none)) (tupv v6 0)), (110, .one .bool o45)]) (fun _ _ => [Res.disk Tryz.prog dI (tupv v6 0) r24.2.2, Res.clsif (CMark (tupv v6 0)) (tupv v25 0) r24.1.2 r24.1.1, Res.disk Tryz.prog dI (tupv v4 0) r21.2.2, Res.clsif (CMark (tupv v4 0)) (tupv v22 0) r21.1.2 r21.1.1]) k44 r ?_ ?_
                · rcases Bool.eq_false_or_eq_true o40 with hh | hh
                  · rw [hh] at h ⊢
                    rw [if_pos rfl] at h
                    refine r_pure tabOk 1 [9, 105, 106] (E' := [(9, .one (.raw (.pointer none)) (tupv v6 0)), (105, .one .bool true), (106, .one (.raw (.pointer none)) (tupv v6 0))]) rfl ?_
                    refine r_guard (by rfl) rfl ?_
                    obtain ⟨r46, hr46, h⟩ := bind_ex h
                    refine r_call (Lo := [Res.clsif (CMark (tupv v6 0)) (tupv v25 0) r24.1.2 r24.1.1, Res.disk Tryz.prog dI (tupv v4 0) r21.2.2, Res.clsif (CMark (tupv v4 0)) (tupv v22 0) r21.1.2 r21.1.1]) (disk_Disk_Dirty_ok (tupv v6 0) r24.2.2 [109] _ hr46) (by kernel_rfl) (List.Perm.refl _) rfl rfl fun v47 => ?_
                    refine r_guard (by rfl) rfl ?_
                    refine y (y_lenown tabOk 1 rfl rfl rfl) rfl ?_
                    refine r_pure tabOk 2 [9, 110] (E' := [(9, .one (.raw (.pointer none)) (tupv v6 0)), (110, .one .bool ((List.length r46 : Int) == 0))]) rfl ?_
                    refine r_nil ?_
                    refine r_less [9, 110] rfl ?_
                    refine r_lose (L' := [Res.disk Tryz.prog dI (tupv v6 0) r24.2.2, Res.clsif (CMark (tupv v6 0)) (tupv v25 0) r24.1.2 r24.1.1, Res.disk Tryz.prog dI (tupv v4 0) r21.2.2, Res.clsif (CMark (tupv v4 0)) (tupv v22 0) r21.1.2 r21.1.1]) (.cons_cons _ (.cons _ (.cons_cons _ (.cons_cons _ (.cons_cons _ .slnil))))) ?_
                    refine r_then ?_
                    exact r_meetk ((List.length r46 : Int) == 0) () h rfl rfl
                  · rw [hh] at h ⊢
                    rw [if_neg (by decide)] at h
                    refine r_pure tabOk 5 [9, 110] (E' := [(9, .one (.raw (.pointer none)) (tupv v6 0)), (110, .one .bool false)]) rfl ?_
                    refine r_nil ?_
                    refine r_less [9, 110] rfl ?_
                    refine r_then ?_
                    exact r_meetk false () h rfl rfl
                · intro o45 _ h
                  rw [← hk44] at h
                  try dsimp only at h
                  refine r_pure tabOk 1 [9, 111] (E' := [(9, .one (.raw (.pointer none)) (tupv v6 0)), (111, .one .bool o45)]) rfl ?_
                  obtain ⟨k49, hk49, h⟩ := bnd_ex h
                  refine r_lsplitk (γ := Unit) 5 (fun (o50 : Bool) _ => [(116, .one .bool o50)]) (fun _ _ => [Res.disk Tryz.prog dI (tupv v6 0) r24.2.2, Res.clsif (CMark (tupv v6 0)) (tupv v25 0) r24.1.2 r24.1.1, Res.disk Tryz.prog dI (tupv v4 0) r21.2.2, Res.clsif (CMark (tupv v4 0)) (tupv v22 0) r21.1.2 r21.1.1]) k49 r ?_ ?_
                  · rcases Bool.eq_false_or_eq_true o45 with hh | hh
                    · rw [hh] at h ⊢
                      rw [if_pos rfl] at h
                      refine r_pure tabOk 1 [111, 112] (E' := [(111, .one .bool true), (112, .one (.raw (.pointer none)) (tupv v6 0))]) rfl ?_
                      refine r_guard (by rfl) rfl ?_
                      obtain ⟨r51, hr51, h⟩ := bind_ex h
                      refine r_call (Lo := [Res.clsif (CMark (tupv v6 0)) (tupv v25 0) r24.1.2 r24.1.1, Res.disk Tryz.prog dI (tupv v4 0) r21.2.2, Res.clsif (CMark (tupv v4 0)) (tupv v22 0) r21.1.2 r21.1.1]) (disk_Disk_List_ok (tupv v6 0) r24.2.2 _ hr51) (by kernel_rfl) (List.Perm.refl _) rfl rfl fun v52 => ?_
                      refine r_guard (by rfl) rfl ?_
                      refine y (y_lenown tabOk 1 rfl rfl rfl) rfl ?_
                      refine r_pure tabOk 2 [116] (E' := [(116, .one .bool ((List.length r51 : Int) == 1))]) rfl ?_
                      refine r_nil ?_
                      refine r_less [116] rfl ?_
                      refine r_lose (L' := [Res.disk Tryz.prog dI (tupv v6 0) r24.2.2, Res.clsif (CMark (tupv v6 0)) (tupv v25 0) r24.1.2 r24.1.1, Res.disk Tryz.prog dI (tupv v4 0) r21.2.2, Res.clsif (CMark (tupv v4 0)) (tupv v22 0) r21.1.2 r21.1.1]) (.cons_cons _ (.cons _ (.cons_cons _ (.cons_cons _ (.cons_cons _ .slnil))))) ?_
                      refine r_then ?_
                      exact r_meetk ((List.length r51 : Int) == 1) () h rfl rfl
                    · rw [hh] at h ⊢
                      rw [if_neg (by decide)] at h
                      refine r_pure tabOk 5 [116] (E' := [(116, .one .bool false)]) rfl ?_
                      refine r_nil ?_
                      refine r_less [116] rfl ?_
                      refine r_then ?_
                      exact r_meetk false () h rfl rfl
                  · intro o50 _ h
                    rw [← hk49] at h
                    try dsimp only at h
                    refine r_pure tabOk 1 [4] (E' := [(4, .one .bool o50)]) rfl ?_
                    refine r_nil ?_
                    refine r_then ?_
                    refine r_ret ?_
                    obtain rfl := Option.some.inj h
                    exact r_ret1 rfl (.tmp rfl) (fun _ _ g => g) (fun _ _ _ => List.nil_sublist _)
end Sx
