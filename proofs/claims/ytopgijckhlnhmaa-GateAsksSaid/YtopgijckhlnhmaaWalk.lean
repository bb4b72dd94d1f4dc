/-
  Own work, printed by a program of the same hand. Each function of the code answers what its plain twin reckons.
-/
import Derived.Test.YtopgijckhlnhmaaProg
import Derived.Test.YtopgijckhlnhmaaDefs
import Derived.KernelRfl
namespace Sx
open Go Go.Proofs
set_option maxRecDepth 10000

abbrev Y35 : T := (.pair (.int .i64) (.pair (.int .i64) (.pair (.int .i64) (.pair (.arr 32 (.int .u8)) (.pair .str .unit)))))
abbrev Y24 : T := (.pair (.int .i64) (.pair (.int .i64) .unit))
abbrev Y65 : T := (.pair (.int .i64) (.pair (.arr 32 (.int .u8)) (.pair .bool .unit)))
abbrev Y30 : T := (.pair (.int .i64) (.pair (.int .i64) (.pair (.int .i64) (.pair (.int .i64) (.pair (.sl 35 Y35) (.pair (.sl 35 Y35) (.pair (.int .i64) (.pair (.int .i64) (.pair (.int .i64) (.pair Y24 (.pair Y24 (.pair Y24 (.pair .bool (.pair (.arr 2 (.arr 32 (.int .u8))) (.pair (.arr 32 (.int .u8)) (.pair (.sl 65 Y65) (.pair (.int .i64) (.pair (.int .i64) .unit))))))))))))))))))
abbrev Y32 : T := (.pair (.int .i64) (.pair (.int .i64) (.pair (.int .i64) (.pair (.int .i64) (.pair (.int .i64) (.pair Y24 (.pair (.int .i64) (.pair (.int .i64) (.pair (.int .i64) .unit)))))))))
abbrev Y37 : T := (.pair (.int .i64) (.pair Y30 (.pair (.int .i64) .unit)))
theorem ty2 : tyChk Try.prog (.int .i64) 2 = true := by kernel_rfl
theorem ty3 : tyChk Try.prog (.int .i64) 3 = true := by kernel_rfl
theorem ty22 : tyChk Try.prog (.sl 35 Y35) 22 = true := by kernel_rfl
theorem ty24 : tyChk Try.prog Y24 24 = true := by kernel_rfl
theorem ty30 : tyChk Try.prog Y30 30 = true := by kernel_rfl
theorem ty32 : tyChk Try.prog Y32 32 = true := by kernel_rfl
theorem ty35 : tyChk Try.prog Y35 35 = true := by kernel_rfl
theorem ty37 : tyChk Try.prog Y37 37 = true := by kernel_rfl
theorem tx0 : tyChk Try.prog (.raw (.slice none 0 0)) 22 = true := by kernel_rfl
theorem tx1 : tyChk Try.prog (.pair (.int .i64) (.pair (.int .i64) (.pair (.int .i64) (.pair (.int .i64) (.pair (.raw (.slice none 0 0)) (.pair (.sl 35 Y35) (.pair (.int .i64) (.pair (.int .i64) (.pair (.int .i64) (.pair Y24 (.pair Y24 (.pair Y24 (.pair .bool (.pair (.arr 2 (.arr 32 (.int .u8))) (.pair (.arr 32 (.int .u8)) (.pair (.sl 65 Y65) (.pair (.int .i64) (.pair (.int .i64) .unit)))))))))))))))))) 30 = true := by kernel_rfl
theorem zf24 : (Try.prog.info? 24).bind (·.zero) = some (mk Y24 (zc Y24)) := by kernel_rfl
theorem zf30 : (Try.prog.info? 30).bind (·.zero) = some (mk Y30 (zc Y30)) := by kernel_rfl
theorem zf32 : (Try.prog.info? 32).bind (·.zero) = some (mk Y32 (zc Y32)) := by kernel_rfl
theorem zf35 : (Try.prog.info? 35).bind (·.zero) = some (mk Y35 (zc Y35)) := by kernel_rfl
theorem zf37 : (Try.prog.info? 37).bind (·.zero) = some (mk Y37 (zc Y37)) := by kernel_rfl
theorem el2 : elemChk Try.prog (.int .i64) 2 8 = true := by kernel_rfl
theorem el24 : elemChk Try.prog Y24 24 16 = true := by kernel_rfl
theorem el35 : elemChk Try.prog Y35 35 72 = true := by kernel_rfl
theorem kt24 : Try.prog.keyTypeAt 20 24 = true := by kernel_rfl
theorem eg24 : Try.prog.eqGuardType Try.prog.depth 24 = false := by kernel_rfl
def tab : Tab := { ints := [], strs := [], slices := [(22, 35), (39, 24), (40, 2)], arrs := [], offs := [(24, [0, 1]), (30, [0, 1, 2, 3, 4, 5, 6, 7, 8, 9, 11, 13, 15, 16, 80, 112, 113, 114]), (32, [0, 1, 2, 3, 4, 5, 7, 8, 9]), (37, [0, 1, 116])] }
theorem tabOk : tab.chk Try.prog = true := by kernel_rfl

theorem gate_Of_ok (a0 : Int) (a1 : Int × Int × Int × Int × (List (Int × Int × Int × List (Int) × List Int × Unit)) × (List (Int × Int × Int × List (Int) × List Int × Unit)) × Int × Int × Int × (Int × Int × Unit) × (Int × Int × Unit) × (Int × Int × Unit) × Bool × List (List (Int)) × List (Int) × (List (Int × List (Int) × Bool × Unit)) × Int × Int × Unit) (r : (Int × Int × Int × Int × Int × (Int × Int × Unit) × Int × Int × Int × Unit)) (h : gate_Of a0 a1 = some r) : Pure Try.prog 6 [.one (.int .i64) a0, .one Y30 a1] (.one Y32 r) := by
  unfold gate_Of at h
  refine enter Try.func6 rfl 25 rfl rfl fun F => ?_
  refine r_seq ?_
  refine r_region ?_
  refine r_box rfl rfl fun b1 => ?_
  refine r_alloc (t := Y32) rfl zf32 rfl fun b2 => ?_
  refine r_nil ?_
  refine r_then ?_
  refine r_seq ?_
  refine r_region ?_
  refine r_pure tabOk 2 [3, 4, 5, 6] (E' := [(3, ptr b1 0), (4, ptr b2 0), (5, .one (.int .i64) a0), (6, ptr b1 6)]) rfl ?_
  refine y (y_load 1 ((.snd (.snd (.snd (.snd (.snd (.snd (.fst .here)))))))) rfl rfl (by first | rfl | (simp only [Pth.off, T.size]; omega)) (ok_snd (ok_snd (ok_snd (ok_snd (ok_snd (ok_snd (ok_fst ok_here))))))) ty2) rfl ?_
  refine r_pure tabOk 1 [3, 4, 5, 7, 8] (E' := [(3, ptr b1 0), (4, ptr b2 0), (5, .one (.int .i64) a0), (7, .one (.int .i64) a1.2.2.2.2.2.2.1), (8, ptr b1 7)]) rfl ?_
  refine y (y_load 1 ((.snd (.snd (.snd (.snd (.snd (.snd (.snd (.fst .here))))))))) rfl rfl (by first | rfl | (simp only [Pth.off, T.size]; omega)) (ok_snd (ok_snd (ok_snd (ok_snd (ok_snd (ok_snd (ok_snd (ok_fst ok_here)))))))) ty2) rfl ?_
  refine r_pure tabOk 1 [3, 4, 5, 7, 9, 10] (E' := [(3, ptr b1 0), (4, ptr b2 0), (5, .one (.int .i64) a0), (7, .one (.int .i64) a1.2.2.2.2.2.2.1), (9, .one (.int .i64) a1.2.2.2.2.2.2.2.1), (10, ptr b1 8)]) rfl ?_
  refine y (y_load 1 ((.snd (.snd (.snd (.snd (.snd (.snd (.snd (.snd (.fst .here)))))))))) rfl rfl (by first | rfl | (simp only [Pth.off, T.size]; omega)) (ok_snd (ok_snd (ok_snd (ok_snd (ok_snd (ok_snd (ok_snd (ok_snd (ok_fst ok_here))))))))) ty2) rfl ?_
  refine r_pure tabOk 2 [3, 4, 5, 7, 9, 11, 13] (E' := [(3, ptr b1 0), (4, ptr b2 0), (5, .one (.int .i64) a0), (7, .one (.int .i64) a1.2.2.2.2.2.2.1), (9, .one (.int .i64) a1.2.2.2.2.2.2.2.1), (11, .one (.int .i64) a1.2.2.2.2.2.2.2.2.1), (13, ptr b1 10)]) rfl ?_
  refine y (y_load 1 ((.snd (.snd (.snd (.snd (.snd (.snd (.snd (.snd (.snd (.fst ((.snd (.fst .here)))))))))))))) rfl rfl (by first | rfl | (simp only [Pth.off, T.size]; omega)) (ok_snd (ok_snd (ok_snd (ok_snd (ok_snd (ok_snd (ok_snd (ok_snd (ok_snd (ok_fst (ok_snd (ok_fst ok_here)))))))))))) ty3) rfl ?_
  refine r_pure tabOk 1 [3, 4, 5, 7, 9, 11, 14, 15] (E' := [(3, ptr b1 0), (4, ptr b2 0), (5, .one (.int .i64) a0), (7, .one (.int .i64) a1.2.2.2.2.2.2.1), (9, .one (.int .i64) a1.2.2.2.2.2.2.2.1), (11, .one (.int .i64) a1.2.2.2.2.2.2.2.2.1), (14, .one (.int .i64) a1.2.2.2.2.2.2.2.2.2.1.2.1), (15, ptr b1 11)]) rfl ?_
  refine y (y_load 1 ((.snd (.snd (.snd (.snd (.snd (.snd (.snd (.snd (.snd (.snd (.fst .here)))))))))))) rfl rfl (by first | rfl | (simp only [Pth.off, T.size]; omega)) (ok_snd (ok_snd (ok_snd (ok_snd (ok_snd (ok_snd (ok_snd (ok_snd (ok_snd (ok_snd (ok_fst ok_here))))))))))) ty24) rfl ?_
  refine r_pure tabOk 1 [3, 4, 5, 7, 9, 11, 14, 16, 17] (E' := [(3, ptr b1 0), (4, ptr b2 0), (5, .one (.int .i64) a0), (7, .one (.int .i64) a1.2.2.2.2.2.2.1), (9, .one (.int .i64) a1.2.2.2.2.2.2.2.1), (11, .one (.int .i64) a1.2.2.2.2.2.2.2.2.1), (14, .one (.int .i64) a1.2.2.2.2.2.2.2.2.2.1.2.1), (16, .one Y24 a1.2.2.2.2.2.2.2.2.2.2.1), (17, ptr b1 4)]) rfl ?_
  refine y (y_load 1 ((.snd (.snd (.snd (.snd (.fst .here)))))) rfl rfl (by first | rfl | (simp only [Pth.off, T.size]; omega)) (ok_snd (ok_snd (ok_snd (ok_snd (ok_fst ok_here))))) ty22) rfl ?_
  refine r_pure tabOk 2 [3, 4, 5, 7, 9, 11, 14, 16, 19, 20] (E' := [(3, ptr b1 0), (4, ptr b2 0), (5, .one (.int .i64) a0), (7, .one (.int .i64) a1.2.2.2.2.2.2.1), (9, .one (.int .i64) a1.2.2.2.2.2.2.2.1), (11, .one (.int .i64) a1.2.2.2.2.2.2.2.2.1), (14, .one (.int .i64) a1.2.2.2.2.2.2.2.2.2.1.2.1), (16, .one Y24 a1.2.2.2.2.2.2.2.2.2.2.1), (19, .one (.int .i64) (List.length a1.2.2.2.2.1 : Int)), (20, ptr b1 113)]) rfl ?_
  refine y (y_load 1 ((.snd (.snd (.snd (.snd (.snd (.snd (.snd (.snd (.snd (.snd (.snd (.snd (.snd (.snd (.snd (.snd (.fst .here)))))))))))))))))) rfl rfl (by first | rfl | (simp only [Pth.off, T.size]; omega)) (ok_snd (ok_snd (ok_snd (ok_snd (ok_snd (ok_snd (ok_snd (ok_snd (ok_snd (ok_snd (ok_snd (ok_snd (ok_snd (ok_snd (ok_snd (ok_snd (ok_fst ok_here))))))))))))))))) ty3) rfl ?_
  refine r_pure tabOk 1 [4, 5, 7, 9, 11, 14, 16, 19, 21, 22] (E' := [(4, ptr b2 0), (5, .one (.int .i64) a0), (7, .one (.int .i64) a1.2.2.2.2.2.2.1), (9, .one (.int .i64) a1.2.2.2.2.2.2.2.1), (11, .one (.int .i64) a1.2.2.2.2.2.2.2.2.1), (14, .one (.int .i64) a1.2.2.2.2.2.2.2.2.2.1.2.1), (16, .one Y24 a1.2.2.2.2.2.2.2.2.2.2.1), (19, .one (.int .i64) (List.length a1.2.2.2.2.1 : Int)), (21, .one (.int .i64) a1.2.2.2.2.2.2.2.2.2.2.2.2.2.2.2.2.1), (22, ptr b1 114)]) rfl ?_
  refine y (y_load 1 ((.snd (.snd (.snd (.snd (.snd (.snd (.snd (.snd (.snd (.snd (.snd (.snd (.snd (.snd (.snd (.snd (.snd (.fst .here))))))))))))))))))) rfl rfl (by first | rfl | (simp only [Pth.off, T.size]; omega)) (ok_snd (ok_snd (ok_snd (ok_snd (ok_snd (ok_snd (ok_snd (ok_snd (ok_snd (ok_snd (ok_snd (ok_snd (ok_snd (ok_snd (ok_snd (ok_snd (ok_snd (ok_fst ok_here)))))))))))))))))) ty2) rfl ?_
  refine y (y_build rfl zf32 rfl rfl (.cons ((.fst .here)) rfl rfl ok_here (.cons ((.snd (.fst .here))) rfl rfl ok_here (.cons ((.snd (.snd (.fst .here)))) rfl rfl ok_here (.cons ((.snd (.snd (.snd (.fst .here))))) rfl rfl ok_here (.cons ((.snd (.snd (.snd (.snd (.fst .here)))))) rfl rfl ok_here (.cons ((.snd (.snd (.snd (.snd (.snd (.fst .here))))))) rfl rfl ok_here (.cons ((.snd (.snd (.snd (.snd (.snd (.snd (.fst .here)))))))) rfl rfl ok_here (.cons ((.snd (.snd (.snd (.snd (.snd (.snd (.snd (.fst .here))))))))) rfl rfl ok_here (.cons ((.snd (.snd (.snd (.snd (.snd (.snd (.snd (.snd (.fst .here)))))))))) rfl rfl ok_here .nil)))))))))) rfl ?_
  refine r_store 0 .here rfl rfl rfl (by first | rfl | (simp only [Pth.off, T.size]; omega)) ok_here ty32 ?_
  refine r_nil ?_
  refine r_then ?_
  refine r_ret ?_
  obtain rfl := Option.some.inj h
  exact r_ret1 rfl (.cell 0 .here rfl rfl (by first | rfl | (simp only [Pth.off, T.size]; omega)) ok_here ty32) (fun _ _ g => g) (fun _ _ _ => List.nil_sublist _)

theorem escrowref20_Of_ok (a0 : Int) (a1 : Int × Int × Int × Int × (List (Int × Int × Int × List (Int) × List Int × Unit)) × (List (Int × Int × Int × List (Int) × List Int × Unit)) × Int × Int × Int × (Int × Int × Unit) × (Int × Int × Unit) × (Int × Int × Unit) × Bool × List (List (Int)) × List (Int) × (List (Int × List (Int) × Bool × Unit)) × Int × Int × Unit) (r : (Int × (Int × Int × Int × Int × (List (Int × Int × Int × List (Int) × List Int × Unit)) × (List (Int × Int × Int × List (Int) × List Int × Unit)) × Int × Int × Int × (Int × Int × Unit) × (Int × Int × Unit) × (Int × Int × Unit) × Bool × List (List (Int)) × List (Int) × (List (Int × List (Int) × Bool × Unit)) × Int × Int × Unit) × Int × Unit)) (h : escrowref20_Of a0 a1 = some r) : Pure Try.prog 7 [.one (.int .i64) a0, .one Y30 a1] (.one Y37 r) := by
  unfold escrowref20_Of at h
  refine enter Try.func7 rfl 11 rfl rfl fun F => ?_
  refine r_seq ?_
  refine r_region ?_
  refine r_box rfl rfl fun b1 => ?_
  refine r_alloc (t := Y37) rfl zf37 rfl fun b2 => ?_
  refine r_nil ?_
  refine r_then ?_
  refine r_seq ?_
  refine r_region ?_
  refine r_pure tabOk 1 [3, 4, 5] (E' := [(3, ptr b1 0), (4, ptr b2 0), (5, .one (.int .i64) a0)]) rfl ?_
  refine y (y_load 1 .here rfl rfl (by first | rfl | (simp only [Pth.off, T.size]; omega)) ok_here ty30) rfl ?_
  refine r_pure tabOk 1 [4, 5, 6, 7] (E' := [(4, ptr b2 0), (5, .one (.int .i64) a0), (6, .one Y30 a1), (7, ptr b1 4)]) rfl ?_
  refine y (y_load 1 ((.snd (.snd (.snd (.snd (.fst .here)))))) rfl rfl (by first | rfl | (simp only [Pth.off, T.size]; omega)) (ok_snd (ok_snd (ok_snd (ok_snd (ok_fst ok_here))))) ty22) rfl ?_
  refine r_pure tabOk 1 [4, 5, 6, 9] (E' := [(4, ptr b2 0), (5, .one (.int .i64) a0), (6, .one Y30 a1), (9, .one (.int .i64) (List.length a1.2.2.2.2.1 : Int))]) rfl ?_
  refine y (y_build rfl zf37 rfl rfl (.cons ((.fst .here)) rfl rfl ok_here (.cons ((.snd (.fst .here))) rfl rfl ok_here (.cons ((.snd (.snd (.fst .here)))) rfl rfl ok_here .nil)))) rfl ?_
  refine r_store 0 .here rfl rfl rfl (by first | rfl | (simp only [Pth.off, T.size]; omega)) ok_here ty37 ?_
  refine r_nil ?_
  refine r_then ?_
  refine r_ret ?_
  obtain rfl := Option.some.inj h
  exact r_ret1 rfl (.cell 0 .here rfl rfl (by first | rfl | (simp only [Pth.off, T.size]; omega)) ok_here ty37) (fun _ _ g => g) (fun _ _ _ => List.nil_sublist _)

theorem gate_Gate_still_ok (a0 : Int × Int × Int × Int × Int × (Int × Int × Unit) × Int × Int × Int × Unit) (r : Bool) (h : gate_Gate_still a0 = some r) : Pure Try.prog 15 [.one Y32 a0] (.one .bool r) := by
  unfold gate_Gate_still at h
  refine enter Try.func15 rfl 11 rfl rfl fun F => ?_
  refine r_seq ?_
  refine r_region ?_
  refine r_box rfl rfl fun b1 => ?_
  refine r_pure tabOk 1 [1] (E' := [(1, ptr b1 0)]) rfl ?_
  refine r_nil ?_
  refine r_then ?_
  refine r_seq ?_
  refine r_region ?_
  refine r_pure tabOk 1 [1, 3] (E' := [(1, ptr b1 0), (3, ptr b1 8)]) rfl ?_
  refine y (y_load 0 ((.snd (.snd (.snd (.snd (.snd (.snd (.snd (.fst .here))))))))) rfl rfl (by first | rfl | (simp only [Pth.off, T.size]; omega)) (ok_snd (ok_snd (ok_snd (ok_snd (ok_snd (ok_snd (ok_snd (ok_fst ok_here)))))))) ty3) rfl ?_
  refine r_pure tabOk 2 [1, 6] (E' := [(1, ptr b1 0), (6, .one .bool (a0.2.2.2.2.2.2.2.1 == 0))]) rfl ?_
  obtain ⟨b2, hbb2, h⟩ := bnd_ex h
  rw [hbb2]
  refine r_lsplit (γ := Unit) 4 (fun _ => [(10, .one .bool (b2 && (a0.2.2.2.2.2.2.2.2.1 == (-1))))]) (fun _ => [Res.var b1 32 Y32 a0]) ?_ (fun _ => ?_)
  · clear h
    cases b2 with
    | true =>
    refine r_pure tabOk 1 [6, 7] (E' := [(6, .one .bool true), (7, ptr b1 9)]) rfl ?_
    refine r_guard (by rfl) rfl ?_
    refine y (y_load 0 ((.snd (.snd (.snd (.snd (.snd (.snd (.snd (.snd (.fst .here)))))))))) rfl rfl (by first | rfl | (simp only [Pth.off, T.size]; omega)) (ok_snd (ok_snd (ok_snd (ok_snd (ok_snd (ok_snd (ok_snd (ok_snd (ok_fst ok_here))))))))) ty2) rfl ?_
    refine r_pure tabOk 2 [10] (E' := [(10, .one .bool (a0.2.2.2.2.2.2.2.2.1 == (-1)))]) rfl ?_
    refine r_nil ?_
    refine r_then ?_
    exact r_meetg () rfl rfl
    | false =>
    refine r_pure tabOk 4 [10] (E' := [(10, .one .bool false)]) rfl ?_
    refine r_nil ?_
    refine r_then ?_
    exact r_meetg () rfl rfl
  refine r_pure tabOk 1 [2] (E' := [(2, .one .bool (b2 && (a0.2.2.2.2.2.2.2.2.1 == (-1))))]) rfl ?_
  refine r_nil ?_
  refine r_then ?_
  refine r_ret ?_
  obtain rfl := Option.some.inj h
  exact r_ret1 rfl (.tmp rfl) (fun _ _ g => g) (fun _ _ _ => List.nil_sublist _)

theorem gate_Gate_MaySend_ok (a0 : Int × Int × Int × Int × Int × (Int × Int × Unit) × Int × Int × Int × Unit) (a1 : Int) (r : Bool) (h : gate_Gate_MaySend a0 a1 = some r) : Pure Try.prog 8 [.one Y32 a0, .one (.int .i64) a1] (.one .bool r) := by
  unfold gate_Gate_MaySend at h
  refine enter Try.func8 rfl 23 rfl rfl fun F => ?_
  refine r_seq ?_
  refine r_region ?_
  refine r_box rfl rfl fun b1 => ?_
  refine r_pure tabOk 1 [1, 2] (E' := [(1, .one (.int .i64) a1), (2, ptr b1 0)]) rfl ?_
  refine r_nil ?_
  refine r_then ?_
  refine r_seq ?_
  refine r_region ?_
  refine y (y_load 0 .here rfl rfl (by first | rfl | (simp only [Pth.off, T.size]; omega)) ok_here ty32) rfl ?_
  obtain ⟨r2, hr2, h⟩ := bind_ex h
  refine r_calls (gate_Gate_still_ok a0 _ hr2) (by kernel_rfl) rfl rfl ?_
  refine r_pure tabOk 1 [1, 2, 7] (E' := [(1, .one (.int .i64) a1), (2, ptr b1 0), (7, .one .bool r2)]) rfl ?_
  refine r_lsplit (γ := Unit) 3 (fun _ => [(1, .one (.int .i64) a1), (2, ptr b1 0), (10, .one .bool (r2 && (decide (a1 ≥ 0))))]) (fun _ => [Res.var b1 32 Y32 a0]) ?_ (fun _ => ?_)
  · clear h
    rcases Bool.eq_false_or_eq_true r2 with hh | hh
    · rw [hh]
      refine r_pure tabOk 3 [1, 2, 10] (E' := [(1, .one (.int .i64) a1), (2, ptr b1 0), (10, .one .bool (decide (a1 ≥ 0)))]) rfl ?_
      refine r_nil ?_
      refine r_then ?_
      exact r_meetg () rfl rfl
    · rw [hh]
      refine r_pure tabOk 3 [1, 2, 10] (E' := [(1, .one (.int .i64) a1), (2, ptr b1 0), (10, .one .bool false)]) rfl ?_
      refine r_nil ?_
      refine r_then ?_
      exact r_meetg () rfl rfl
  refine r_pure tabOk 1 [1, 2, 11] (E' := [(1, .one (.int .i64) a1), (2, ptr b1 0), (11, .one .bool (r2 && (decide (a1 ≥ 0))))]) rfl ?_
  obtain ⟨b4, hbb4, h⟩ := bnd_ex h
  rw [hbb4]
  refine r_lsplit (γ := Unit) 5 (fun _ => [(1, .one (.int .i64) a1), (2, ptr b1 0), (16, .one .bool (b4 && (decide (a1 ≤ a0.1))))]) (fun _ => [Res.var b1 32 Y32 a0]) ?_ (fun _ => ?_)
  · clear h
    cases b4 with
    | true =>
    refine r_pure tabOk 2 [1, 2, 11, 12, 13] (E' := [(1, .one (.int .i64) a1), (2, ptr b1 0), (11, .one .bool true), (12, .one (.int .i64) a1), (13, ptr b1 0)]) rfl ?_
    refine r_guard (by rfl) rfl ?_
    refine y (y_load 0 ((.fst .here)) rfl rfl (by first | rfl | (simp only [Pth.off, T.size]; omega)) (ok_fst ok_here) ty2) rfl ?_
    refine r_pure tabOk 2 [1, 2, 16] (E' := [(1, .one (.int .i64) a1), (2, ptr b1 0), (16, .one .bool (decide (a1 ≤ a0.1)))]) rfl ?_
    refine r_nil ?_
    refine r_then ?_
    exact r_meetg () rfl rfl
    | false =>
    refine r_pure tabOk 5 [1, 2, 16] (E' := [(1, .one (.int .i64) a1), (2, ptr b1 0), (16, .one .bool false)]) rfl ?_
    refine r_nil ?_
    refine r_then ?_
    exact r_meetg () rfl rfl
  refine r_pure tabOk 1 [1, 2, 17] (E' := [(1, .one (.int .i64) a1), (2, ptr b1 0), (17, .one .bool (b4 && (decide (a1 ≤ a0.1))))]) rfl ?_
  obtain ⟨b5, hbb5, h⟩ := bnd_ex h
  rw [hbb5]
  refine r_lsplit (γ := Unit) 5 (fun _ => [(22, .one .bool (b5 && (decide (a1 < a0.2.1))))]) (fun _ => [Res.var b1 32 Y32 a0]) ?_ (fun _ => ?_)
  · clear h
    cases b5 with
    | true =>
    refine r_pure tabOk 2 [17, 18, 19] (E' := [(17, .one .bool true), (18, .one (.int .i64) a1), (19, ptr b1 1)]) rfl ?_
    refine r_guard (by rfl) rfl ?_
    refine y (y_load 0 ((.snd (.fst .here))) rfl rfl (by first | rfl | (simp only [Pth.off, T.size]; omega)) (ok_snd (ok_fst ok_here)) ty2) rfl ?_
    refine r_pure tabOk 2 [22] (E' := [(22, .one .bool (decide (a1 < a0.2.1)))]) rfl ?_
    refine r_nil ?_
    refine r_then ?_
    exact r_meetg () rfl rfl
    | false =>
    refine r_pure tabOk 5 [22] (E' := [(22, .one .bool false)]) rfl ?_
    refine r_nil ?_
    refine r_then ?_
    exact r_meetg () rfl rfl
  refine r_pure tabOk 1 [4] (E' := [(4, .one .bool (b5 && (decide (a1 < a0.2.1))))]) rfl ?_
  refine r_nil ?_
  refine r_then ?_
  refine r_ret ?_
  obtain rfl := Option.some.inj h
  exact r_ret1 rfl (.tmp rfl) (fun _ _ g => g) (fun _ _ _ => List.nil_sublist _)

theorem escrowref20_Gate_still_ok (a0 : Int × (Int × Int × Int × Int × (List (Int × Int × Int × List (Int) × List Int × Unit)) × (List (Int × Int × Int × List (Int) × List Int × Unit)) × Int × Int × Int × (Int × Int × Unit) × (Int × Int × Unit) × (Int × Int × Unit) × Bool × List (List (Int)) × List (Int) × (List (Int × List (Int) × Bool × Unit)) × Int × Int × Unit) × Int × Unit) (r : Bool) (h : escrowref20_Gate_still a0 = some r) : Pure Try.prog 16 [.one Y37 a0] (.one .bool r) := by
  unfold escrowref20_Gate_still at h
  refine enter Try.func16 rfl 13 rfl rfl fun F => ?_
  refine r_seq ?_
  refine r_region ?_
  refine r_box rfl rfl fun b1 => ?_
  refine r_pure tabOk 1 [1] (E' := [(1, ptr b1 0)]) rfl ?_
  refine r_nil ?_
  refine r_then ?_
  refine r_seq ?_
  refine r_region ?_
  refine r_pure tabOk 2 [1, 4] (E' := [(1, ptr b1 0), (4, ptr b1 114)]) rfl ?_
  refine y (y_load 0 ((.snd (.fst ((.snd (.snd (.snd (.snd (.snd (.snd (.snd (.snd (.snd (.snd (.snd (.snd (.snd (.snd (.snd (.snd (.fst .here))))))))))))))))))))) rfl rfl (by first | rfl | (simp only [Pth.off, T.size]; omega)) (ok_snd (ok_fst (ok_snd (ok_snd (ok_snd (ok_snd (ok_snd (ok_snd (ok_snd (ok_snd (ok_snd (ok_snd (ok_snd (ok_snd (ok_snd (ok_snd (ok_snd (ok_snd (ok_fst ok_here))))))))))))))))))) ty3) rfl ?_
  refine r_pure tabOk 2 [1, 7] (E' := [(1, ptr b1 0), (7, .one .bool (a0.2.1.2.2.2.2.2.2.2.2.2.2.2.2.2.2.2.2.1 == 0))]) rfl ?_
  obtain ⟨b2, hbb2, h⟩ := bnd_ex h
  rw [hbb2]
  refine r_lsplit (γ := Unit) 5 (fun _ => [(12, .one .bool (b2 && (a0.2.1.2.2.2.2.2.2.2.2.2.2.2.2.2.2.2.2.2.1 == (-1))))]) (fun _ => [Res.var b1 37 Y37 a0]) ?_ (fun _ => ?_)
  · clear h
    cases b2 with
    | true =>
    refine r_pure tabOk 2 [7, 9] (E' := [(7, .one .bool true), (9, ptr b1 115)]) rfl ?_
    refine r_guard (by rfl) rfl ?_
    refine y (y_load 0 ((.snd (.fst ((.snd (.snd (.snd (.snd (.snd (.snd (.snd (.snd (.snd (.snd (.snd (.snd (.snd (.snd (.snd (.snd (.snd (.fst .here)))))))))))))))))))))) rfl rfl (by first | rfl | (simp only [Pth.off, T.size]; omega)) (ok_snd (ok_fst (ok_snd (ok_snd (ok_snd (ok_snd (ok_snd (ok_snd (ok_snd (ok_snd (ok_snd (ok_snd (ok_snd (ok_snd (ok_snd (ok_snd (ok_snd (ok_snd (ok_snd (ok_fst ok_here)))))))))))))))))))) ty2) rfl ?_
    refine r_pure tabOk 2 [12] (E' := [(12, .one .bool (a0.2.1.2.2.2.2.2.2.2.2.2.2.2.2.2.2.2.2.2.1 == (-1)))]) rfl ?_
    refine r_nil ?_
    refine r_then ?_
    exact r_meetg () rfl rfl
    | false =>
    refine r_pure tabOk 5 [12] (E' := [(12, .one .bool false)]) rfl ?_
    refine r_nil ?_
    refine r_then ?_
    exact r_meetg () rfl rfl
  refine r_pure tabOk 1 [2] (E' := [(2, .one .bool (b2 && (a0.2.1.2.2.2.2.2.2.2.2.2.2.2.2.2.2.2.2.2.1 == (-1))))]) rfl ?_
  refine r_nil ?_
  refine r_then ?_
  refine r_ret ?_
  obtain rfl := Option.some.inj h
  exact r_ret1 rfl (.tmp rfl) (fun _ _ g => g) (fun _ _ _ => List.nil_sublist _)

theorem escrowref20_Gate_MaySend_ok (a0 : Int × (Int × Int × Int × Int × (List (Int × Int × Int × List (Int) × List Int × Unit)) × (List (Int × Int × Int × List (Int) × List Int × Unit)) × Int × Int × Int × (Int × Int × Unit) × (Int × Int × Unit) × (Int × Int × Unit) × Bool × List (List (Int)) × List (Int) × (List (Int × List (Int) × Bool × Unit)) × Int × Int × Unit) × Int × Unit) (a1 : Int) (r : Bool) (h : escrowref20_Gate_MaySend a0 a1 = some r) : Pure Try.prog 9 [.one Y37 a0, .one (.int .i64) a1] (.one .bool r) := by
  unfold escrowref20_Gate_MaySend at h
  refine enter Try.func9 rfl 24 rfl rfl fun F => ?_
  refine r_seq ?_
  refine r_region ?_
  refine r_box rfl rfl fun b1 => ?_
  refine r_pure tabOk 1 [1, 2] (E' := [(1, .one (.int .i64) a1), (2, ptr b1 0)]) rfl ?_
  refine r_nil ?_
  refine r_then ?_
  refine r_seq ?_
  refine r_region ?_
  refine y (y_load 0 .here rfl rfl (by first | rfl | (simp only [Pth.off, T.size]; omega)) ok_here ty37) rfl ?_
  obtain ⟨r2, hr2, h⟩ := bind_ex h
  refine r_calls (escrowref20_Gate_still_ok a0 _ hr2) (by kernel_rfl) rfl rfl ?_
  refine r_pure tabOk 1 [1, 2, 7] (E' := [(1, .one (.int .i64) a1), (2, ptr b1 0), (7, .one .bool r2)]) rfl ?_
  refine r_lsplit (γ := Unit) 3 (fun _ => [(1, .one (.int .i64) a1), (2, ptr b1 0), (10, .one .bool (r2 && (decide (a1 ≥ 0))))]) (fun _ => [Res.var b1 37 Y37 a0]) ?_ (fun _ => ?_)
  · clear h
    rcases Bool.eq_false_or_eq_true r2 with hh | hh
    · rw [hh]
      refine r_pure tabOk 3 [1, 2, 10] (E' := [(1, .one (.int .i64) a1), (2, ptr b1 0), (10, .one .bool (decide (a1 ≥ 0)))]) rfl ?_
      refine r_nil ?_
      refine r_then ?_
      exact r_meetg () rfl rfl
    · rw [hh]
      refine r_pure tabOk 3 [1, 2, 10] (E' := [(1, .one (.int .i64) a1), (2, ptr b1 0), (10, .one .bool false)]) rfl ?_
      refine r_nil ?_
      refine r_then ?_
      exact r_meetg () rfl rfl
  refine r_pure tabOk 1 [1, 2, 11] (E' := [(1, .one (.int .i64) a1), (2, ptr b1 0), (11, .one .bool (r2 && (decide (a1 ≥ 0))))]) rfl ?_
  obtain ⟨b4, hbb4, h⟩ := bnd_ex h
  rw [hbb4]
  refine r_lsplit (γ := Unit) 5 (fun _ => [(1, .one (.int .i64) a1), (2, ptr b1 0), (16, .one .bool (b4 && (decide (a1 ≤ a0.1))))]) (fun _ => [Res.var b1 37 Y37 a0]) ?_ (fun _ => ?_)
  · clear h
    cases b4 with
    | true =>
    refine r_pure tabOk 2 [1, 2, 11, 12, 13] (E' := [(1, .one (.int .i64) a1), (2, ptr b1 0), (11, .one .bool true), (12, .one (.int .i64) a1), (13, ptr b1 0)]) rfl ?_
    refine r_guard (by rfl) rfl ?_
    refine y (y_load 0 ((.fst .here)) rfl rfl (by first | rfl | (simp only [Pth.off, T.size]; omega)) (ok_fst ok_here) ty2) rfl ?_
    refine r_pure tabOk 2 [1, 2, 16] (E' := [(1, .one (.int .i64) a1), (2, ptr b1 0), (16, .one .bool (decide (a1 ≤ a0.1)))]) rfl ?_
    refine r_nil ?_
    refine r_then ?_
    exact r_meetg () rfl rfl
    | false =>
    refine r_pure tabOk 5 [1, 2, 16] (E' := [(1, .one (.int .i64) a1), (2, ptr b1 0), (16, .one .bool false)]) rfl ?_
    refine r_nil ?_
    refine r_then ?_
    exact r_meetg () rfl rfl
  refine r_pure tabOk 1 [1, 2, 17] (E' := [(1, .one (.int .i64) a1), (2, ptr b1 0), (17, .one .bool (b4 && (decide (a1 ≤ a0.1))))]) rfl ?_
  obtain ⟨b5, hbb5, h⟩ := bnd_ex h
  rw [hbb5]
  refine r_lsplit (γ := Unit) 6 (fun _ => [(23, .one .bool (b5 && (decide (a1 < a0.2.1.2.2.2.2.2.2.1))))]) (fun _ => [Res.var b1 37 Y37 a0]) ?_ (fun _ => ?_)
  · clear h
    cases b5 with
    | true =>
    refine r_pure tabOk 3 [17, 18, 20] (E' := [(17, .one .bool true), (18, .one (.int .i64) a1), (20, ptr b1 7)]) rfl ?_
    refine r_guard (by rfl) rfl ?_
    refine y (y_load 0 ((.snd (.fst ((.snd (.snd (.snd (.snd (.snd (.snd (.fst .here))))))))))) rfl rfl (by first | rfl | (simp only [Pth.off, T.size]; omega)) (ok_snd (ok_fst (ok_snd (ok_snd (ok_snd (ok_snd (ok_snd (ok_snd (ok_fst ok_here))))))))) ty2) rfl ?_
    refine r_pure tabOk 2 [23] (E' := [(23, .one .bool (decide (a1 < a0.2.1.2.2.2.2.2.2.1)))]) rfl ?_
    refine r_nil ?_
    refine r_then ?_
    exact r_meetg () rfl rfl
    | false =>
    refine r_pure tabOk 6 [23] (E' := [(23, .one .bool false)]) rfl ?_
    refine r_nil ?_
    refine r_then ?_
    exact r_meetg () rfl rfl
  refine r_pure tabOk 1 [4] (E' := [(4, .one .bool (b5 && (decide (a1 < a0.2.1.2.2.2.2.2.2.1))))]) rfl ?_
  refine r_nil ?_
  refine r_then ?_
  refine r_ret ?_
  obtain rfl := Option.some.inj h
  exact r_ret1 rfl (.tmp rfl) (fun _ _ g => g) (fun _ _ _ => List.nil_sublist _)

theorem gate_Gate_MayBroadcast_ok (a0 : Int × Int × Int × Int × Int × (Int × Int × Unit) × Int × Int × Int × Unit) (a1 : Int) (r : Bool) (h : gate_Gate_MayBroadcast a0 a1 = some r) : Pure Try.prog 10 [.one Y32 a0, .one (.int .i64) a1] (.one .bool r) := by
  unfold gate_Gate_MayBroadcast at h
  refine enter Try.func10 rfl 35 rfl rfl fun F => ?_
  refine r_seq ?_
  refine r_region ?_
  refine r_box rfl rfl fun b1 => ?_
  refine r_pure tabOk 1 [1, 2] (E' := [(1, .one (.int .i64) a1), (2, ptr b1 0)]) rfl ?_
  refine r_nil ?_
  refine r_then ?_
  refine r_seq ?_
  refine r_region ?_
  refine r_pure tabOk 2 [1, 2, 5, 6] (E' := [(1, .one (.int .i64) a1), (2, ptr b1 0), (5, .one (.int .i64) a1), (6, ptr b1 1)]) rfl ?_
  refine y (y_load 0 ((.snd (.fst .here))) rfl rfl (by first | rfl | (simp only [Pth.off, T.size]; omega)) (ok_snd (ok_fst ok_here)) ty2) rfl ?_
  refine r_pure tabOk 2 [1, 2, 9] (E' := [(1, .one (.int .i64) a1), (2, ptr b1 0), (9, .one .bool (a1 == a0.2.1))]) rfl ?_
  obtain ⟨b2, hbb2, h⟩ := bnd_ex h
  rw [hbb2]
  refine r_lsplit (γ := Unit) 3 (fun _ => [(1, .one (.int .i64) a1), (2, ptr b1 0), (12, .one .bool (b2 && (decide (a1 ≥ 0))))]) (fun _ => [Res.var b1 32 Y32 a0]) ?_ (fun _ => ?_)
  · clear h
    cases b2 with
    | true =>
    refine r_pure tabOk 3 [1, 2, 12] (E' := [(1, .one (.int .i64) a1), (2, ptr b1 0), (12, .one .bool (decide (a1 ≥ 0)))]) rfl ?_
    refine r_nil ?_
    refine r_then ?_
    exact r_meetg () rfl rfl
    | false =>
    refine r_pure tabOk 3 [1, 2, 12] (E' := [(1, .one (.int .i64) a1), (2, ptr b1 0), (12, .one .bool false)]) rfl ?_
    refine r_nil ?_
    refine r_then ?_
    exact r_meetg () rfl rfl
  refine r_pure tabOk 1 [1, 2, 13] (E' := [(1, .one (.int .i64) a1), (2, ptr b1 0), (13, .one .bool (b2 && (decide (a1 ≥ 0))))]) rfl ?_
  obtain ⟨b3, hbb3, h⟩ := bnd_ex h
  rw [hbb3]
  refine r_lsplit (γ := Unit) 5 (fun _ => [(1, .one (.int .i64) a1), (2, ptr b1 0), (18, .one .bool (b3 && (decide (a1 > a0.1))))]) (fun _ => [Res.var b1 32 Y32 a0]) ?_ (fun _ => ?_)
  · clear h
    cases b3 with
    | true =>
    refine r_pure tabOk 2 [1, 2, 13, 14, 15] (E' := [(1, .one (.int .i64) a1), (2, ptr b1 0), (13, .one .bool true), (14, .one (.int .i64) a1), (15, ptr b1 0)]) rfl ?_
    refine r_guard (by rfl) rfl ?_
    refine y (y_load 0 ((.fst .here)) rfl rfl (by first | rfl | (simp only [Pth.off, T.size]; omega)) (ok_fst ok_here) ty2) rfl ?_
    refine r_pure tabOk 2 [1, 2, 18] (E' := [(1, .one (.int .i64) a1), (2, ptr b1 0), (18, .one .bool (decide (a1 > a0.1)))]) rfl ?_
    refine r_nil ?_
    refine r_then ?_
    exact r_meetg () rfl rfl
    | false =>
    refine r_pure tabOk 5 [1, 2, 18] (E' := [(1, .one (.int .i64) a1), (2, ptr b1 0), (18, .one .bool false)]) rfl ?_
    refine r_nil ?_
    refine r_then ?_
    exact r_meetg () rfl rfl
  refine r_pure tabOk 1 [1, 2, 19] (E' := [(1, .one (.int .i64) a1), (2, ptr b1 0), (19, .one .bool (b3 && (decide (a1 > a0.1))))]) rfl ?_
  obtain ⟨b4, hbb4, h⟩ := bnd_ex h
  rw [hbb4]
  refine r_lsplit (γ := Unit) 4 (fun _ => [(1, .one (.int .i64) a1), (2, ptr b1 0), (23, .one .bool (b4 && (a0.2.2.2.2.2.2.2.1 != 180)))]) (fun _ => [Res.var b1 32 Y32 a0]) ?_ (fun _ => ?_)
  · clear h
    cases b4 with
    | true =>
    refine r_pure tabOk 1 [1, 2, 19, 20] (E' := [(1, .one (.int .i64) a1), (2, ptr b1 0), (19, .one .bool true), (20, ptr b1 8)]) rfl ?_
    refine r_guard (by rfl) rfl ?_
    refine y (y_load 0 ((.snd (.snd (.snd (.snd (.snd (.snd (.snd (.fst .here))))))))) rfl rfl (by first | rfl | (simp only [Pth.off, T.size]; omega)) (ok_snd (ok_snd (ok_snd (ok_snd (ok_snd (ok_snd (ok_snd (ok_fst ok_here)))))))) ty3) rfl ?_
    refine r_pure tabOk 2 [1, 2, 23] (E' := [(1, .one (.int .i64) a1), (2, ptr b1 0), (23, .one .bool (a0.2.2.2.2.2.2.2.1 != 180))]) rfl ?_
    refine r_nil ?_
    refine r_then ?_
    exact r_meetg () rfl rfl
    | false =>
    refine r_pure tabOk 4 [1, 2, 23] (E' := [(1, .one (.int .i64) a1), (2, ptr b1 0), (23, .one .bool false)]) rfl ?_
    refine r_nil ?_
    refine r_then ?_
    exact r_meetg () rfl rfl
  refine r_pure tabOk 1 [1, 2, 24] (E' := [(1, .one (.int .i64) a1), (2, ptr b1 0), (24, .one .bool (b4 && (a0.2.2.2.2.2.2.2.1 != 180)))]) rfl ?_
  obtain ⟨b5, hbb5, h⟩ := bnd_ex h
  rw [hbb5]
  obtain ⟨k6, hk6, h⟩ := bnd_ex h
  refine r_lsplitk (γ := Unit) 10 (fun (o7 : Bool) _ => [(34, .one .bool o7)]) (fun _ _ => [Res.var b1 32 Y32 a0]) k6 r ?_ ?_
  · rcases Bool.eq_false_or_eq_true b5 with hh | hh
    · rw [hh] at h ⊢
      rw [if_pos rfl] at h
      refine r_pure tabOk 1 [1, 2, 24, 25] (E' := [(1, .one (.int .i64) a1), (2, ptr b1 0), (24, .one .bool true), (25, ptr b1 9)]) rfl ?_
      refine r_guard (by rfl) rfl ?_
      refine y (y_load 0 ((.snd (.snd (.snd (.snd (.snd (.snd (.snd (.snd (.fst .here)))))))))) rfl rfl (by first | rfl | (simp only [Pth.off, T.size]; omega)) (ok_snd (ok_snd (ok_snd (ok_snd (ok_snd (ok_snd (ok_snd (ok_snd (ok_fst ok_here))))))))) ty2) rfl ?_
      refine r_pure tabOk 2 [1, 2, 24, 28] (E' := [(1, .one (.int .i64) a1), (2, ptr b1 0), (24, .one .bool true), (28, .one .bool (a0.2.2.2.2.2.2.2.2.1 == (-1)))]) rfl ?_
      obtain ⟨b8, hbb8, h⟩ := bnd_ex h
      rw [hbb8]
      refine r_lsplit (γ := Unit) 5 (fun _ => [(24, .one .bool true), (33, .one .bool (b8 || (a0.2.2.2.2.2.2.2.2.1 == a1)))]) (fun _ => [Res.var b1 32 Y32 a0]) ?_ (fun _ => ?_)
      · clear h
        cases b8 with
        | true =>
        refine r_pure tabOk 5 [24, 33] (E' := [(24, .one .bool true), (33, .one .bool true)]) rfl ?_
        refine r_nil ?_
        refine r_then ?_
        exact r_meetg () rfl rfl
        | false =>
        refine r_pure tabOk 1 [1, 24, 28, 29] (E' := [(1, .one (.int .i64) a1), (24, .one .bool true), (28, .one .bool false), (29, ptr b1 9)]) rfl ?_
        refine r_guard (by rfl) rfl ?_
        refine y (y_load 0 ((.snd (.snd (.snd (.snd (.snd (.snd (.snd (.snd (.fst .here)))))))))) rfl rfl (by first | rfl | (simp only [Pth.off, T.size]; omega)) (ok_snd (ok_snd (ok_snd (ok_snd (ok_snd (ok_snd (ok_snd (ok_snd (ok_fst ok_here))))))))) ty2) rfl ?_
        refine r_pure tabOk 3 [24, 33] (E' := [(24, .one .bool true), (33, .one .bool (a0.2.2.2.2.2.2.2.2.1 == a1))]) rfl ?_
        refine r_nil ?_
        refine r_then ?_
        exact r_meetg () rfl rfl
      refine r_pure tabOk 1 [34] (E' := [(34, .one .bool (b8 || (a0.2.2.2.2.2.2.2.2.1 == a1)))]) rfl ?_
      refine r_nil ?_
      refine r_less [34] rfl ?_
      refine r_then ?_
      exact r_meetk (b8 || (a0.2.2.2.2.2.2.2.2.1 == a1)) () h rfl rfl
    · rw [hh] at h ⊢
      rw [if_neg (by decide)] at h
      refine r_pure tabOk 10 [34] (E' := [(34, .one .bool false)]) rfl ?_
      refine r_nil ?_
      refine r_less [34] rfl ?_
      refine r_then ?_
      exact r_meetk false () h rfl rfl
  · intro o7 _ h
    rw [← hk6] at h
    try dsimp only at h
    refine r_pure tabOk 1 [4] (E' := [(4, .one .bool o7)]) rfl ?_
    refine r_nil ?_
    refine r_then ?_
    refine r_ret ?_
    obtain rfl := Option.some.inj h
    exact r_ret1 rfl (.tmp rfl) (fun _ _ g => g) (fun _ _ _ => List.nil_sublist _)

theorem escrowref20_Gate_MayBroadcast_ok (a0 : Int × (Int × Int × Int × Int × (List (Int × Int × Int × List (Int) × List Int × Unit)) × (List (Int × Int × Int × List (Int) × List Int × Unit)) × Int × Int × Int × (Int × Int × Unit) × (Int × Int × Unit) × (Int × Int × Unit) × Bool × List (List (Int)) × List (Int) × (List (Int × List (Int) × Bool × Unit)) × Int × Int × Unit) × Int × Unit) (a1 : Int) (r : Bool) (h : escrowref20_Gate_MayBroadcast a0 a1 = some r) : Pure Try.prog 11 [.one Y37 a0, .one (.int .i64) a1] (.one .bool r) := by
  unfold escrowref20_Gate_MayBroadcast at h
  refine enter Try.func11 rfl 37 rfl rfl fun F => ?_
  refine r_seq ?_
  refine r_region ?_
  refine r_box rfl rfl fun b1 => ?_
  refine r_pure tabOk 1 [1, 2] (E' := [(1, .one (.int .i64) a1), (2, ptr b1 0)]) rfl ?_
  refine r_nil ?_
  refine r_then ?_
  refine r_seq ?_
  refine r_seq ?_
  refine r_region ?_
  refine r_pure tabOk 3 [1, 2, 5, 7] (E' := [(1, .one (.int .i64) a1), (2, ptr b1 0), (5, .one (.int .i64) a1), (7, ptr b1 7)]) rfl ?_
  refine y (y_load 0 ((.snd (.fst ((.snd (.snd (.snd (.snd (.snd (.snd (.fst .here))))))))))) rfl rfl (by first | rfl | (simp only [Pth.off, T.size]; omega)) (ok_snd (ok_fst (ok_snd (ok_snd (ok_snd (ok_snd (ok_snd (ok_snd (ok_fst ok_here))))))))) ty2) rfl ?_
  refine r_pure tabOk 2 [1, 2, 10] (E' := [(1, .one (.int .i64) a1), (2, ptr b1 0), (10, .one .bool (a1 != a0.2.1.2.2.2.2.2.2.1))]) rfl ?_
  obtain ⟨b2, hbb2, h⟩ := bnd_ex h
  rw [hbb2]
  refine r_lsplit (γ := Unit) 3 (fun _ => [(1, .one (.int .i64) a1), (2, ptr b1 0), (13, .one .bool (b2 || (decide (a1 < 0))))]) (fun _ => [Res.var b1 37 Y37 a0]) ?_ (fun _ => ?_)
  · clear h
    cases b2 with
    | true =>
    refine r_pure tabOk 3 [1, 2, 13] (E' := [(1, .one (.int .i64) a1), (2, ptr b1 0), (13, .one .bool true)]) rfl ?_
    refine r_nil ?_
    refine r_then ?_
    exact r_meetg () rfl rfl
    | false =>
    refine r_pure tabOk 3 [1, 2, 13] (E' := [(1, .one (.int .i64) a1), (2, ptr b1 0), (13, .one .bool (decide (a1 < 0)))]) rfl ?_
    refine r_nil ?_
    refine r_then ?_
    exact r_meetg () rfl rfl
  refine r_pure tabOk 1 [1, 2, 14] (E' := [(1, .one (.int .i64) a1), (2, ptr b1 0), (14, .one .bool (b2 || (decide (a1 < 0))))]) rfl ?_
  obtain ⟨b3, hbb3, h⟩ := bnd_ex h
  rw [hbb3]
  refine r_lsplit (γ := Unit) 5 (fun _ => [(1, .one (.int .i64) a1), (2, ptr b1 0), (19, .one .bool (b3 || (decide (a1 ≤ a0.1))))]) (fun _ => [Res.var b1 37 Y37 a0]) ?_ (fun _ => ?_)
  · clear h
    cases b3 with
    | true =>
    refine r_pure tabOk 5 [1, 2, 19] (E' := [(1, .one (.int .i64) a1), (2, ptr b1 0), (19, .one .bool true)]) rfl ?_
    refine r_nil ?_
    refine r_then ?_
    exact r_meetg () rfl rfl
    | false =>
    refine r_pure tabOk 2 [1, 2, 14, 15, 16] (E' := [(1, .one (.int .i64) a1), (2, ptr b1 0), (14, .one .bool false), (15, .one (.int .i64) a1), (16, ptr b1 0)]) rfl ?_
    refine r_guard (by rfl) rfl ?_
    refine y (y_load 0 ((.fst .here)) rfl rfl (by first | rfl | (simp only [Pth.off, T.size]; omega)) (ok_fst ok_here) ty2) rfl ?_
    refine r_pure tabOk 2 [1, 2, 19] (E' := [(1, .one (.int .i64) a1), (2, ptr b1 0), (19, .one .bool (decide (a1 ≤ a0.1)))]) rfl ?_
    refine r_nil ?_
    refine r_then ?_
    exact r_meetg () rfl rfl
  refine r_pure tabOk 1 [1, 2, 20] (E' := [(1, .one (.int .i64) a1), (2, ptr b1 0), (20, .one .bool (b3 || (decide (a1 ≤ a0.1))))]) rfl ?_
  obtain ⟨b4, hbb4, h⟩ := bnd_ex h
  rw [hbb4]
  refine r_lsplit (γ := Unit) 5 (fun _ => [(1, .one (.int .i64) a1), (2, ptr b1 0), (25, .one .bool (b4 || (a0.2.1.2.2.2.2.2.2.2.2.2.2.2.2.2.2.2.2.1 == 180)))]) (fun _ => [Res.var b1 37 Y37 a0]) ?_ (fun _ => ?_)
  · clear h
    cases b4 with
    | true =>
    refine r_pure tabOk 5 [1, 2, 25] (E' := [(1, .one (.int .i64) a1), (2, ptr b1 0), (25, .one .bool true)]) rfl ?_
    refine r_nil ?_
    refine r_then ?_
    exact r_meetg () rfl rfl
    | false =>
    refine r_pure tabOk 2 [1, 2, 20, 22] (E' := [(1, .one (.int .i64) a1), (2, ptr b1 0), (20, .one .bool false), (22, ptr b1 114)]) rfl ?_
    refine r_guard (by rfl) rfl ?_
    refine y (y_load 0 ((.snd (.fst ((.snd (.snd (.snd (.snd (.snd (.snd (.snd (.snd (.snd (.snd (.snd (.snd (.snd (.snd (.snd (.snd (.fst .here))))))))))))))))))))) rfl rfl (by first | rfl | (simp only [Pth.off, T.size]; omega)) (ok_snd (ok_fst (ok_snd (ok_snd (ok_snd (ok_snd (ok_snd (ok_snd (ok_snd (ok_snd (ok_snd (ok_snd (ok_snd (ok_snd (ok_snd (ok_snd (ok_snd (ok_snd (ok_fst ok_here))))))))))))))))))) ty3) rfl ?_
    refine r_pure tabOk 2 [1, 2, 25] (E' := [(1, .one (.int .i64) a1), (2, ptr b1 0), (25, .one .bool (a0.2.1.2.2.2.2.2.2.2.2.2.2.2.2.2.2.2.2.1 == 180))]) rfl ?_
    refine r_nil ?_
    refine r_then ?_
    exact r_meetg () rfl rfl
  refine r_nil ?_
  refine r_then ?_
  refine r_if (b := (b4 || (a0.2.1.2.2.2.2.2.2.2.2.2.2.2.2.2.2.2.2.1 == 180))) rfl (fun hc => ?_) (fun hc => ?_)
  · rw [if_pos hc] at h
    refine r_seq ?_
    refine r_region ?_
    refine r_pure tabOk 1 [4] (E' := [(4, .one .bool false)]) rfl ?_
    refine r_nil ?_
    refine r_then ?_
    refine r_ret ?_
    refine t_then ?_
    obtain rfl := Option.some.inj h
    exact r_ret1 rfl (.tmp rfl) (fun _ _ g => g) (fun _ _ _ => List.nil_sublist _)
  · rw [if_neg (ne_true_of_eq_false hc)] at h
    refine r_skip ?_
    refine r_then ?_
    refine r_seq ?_
    refine r_region ?_
    refine r_pure tabOk 2 [1, 2, 27] (E' := [(1, .one (.int .i64) a1), (2, ptr b1 0), (27, ptr b1 115)]) rfl ?_
    refine y (y_load 0 ((.snd (.fst ((.snd (.snd (.snd (.snd (.snd (.snd (.snd (.snd (.snd (.snd (.snd (.snd (.snd (.snd (.snd (.snd (.snd (.fst .here)))))))))))))))))))))) rfl rfl (by first | rfl | (simp only [Pth.off, T.size]; omega)) (ok_snd (ok_fst (ok_snd (ok_snd (ok_snd (ok_snd (ok_snd (ok_snd (ok_snd (ok_snd (ok_snd (ok_snd (ok_snd (ok_snd (ok_snd (ok_snd (ok_snd (ok_snd (ok_snd (ok_fst ok_here)))))))))))))))))))) ty2) rfl ?_
    refine r_pure tabOk 2 [1, 2, 30] (E' := [(1, .one (.int .i64) a1), (2, ptr b1 0), (30, .one .bool (a0.2.1.2.2.2.2.2.2.2.2.2.2.2.2.2.2.2.2.2.1 == (-1)))]) rfl ?_
    obtain ⟨b5, hbb5, h⟩ := bnd_ex h
    rw [hbb5]
    refine r_lsplit (γ := Unit) 6 (fun _ => [(36, .one .bool (b5 || (a0.2.1.2.2.2.2.2.2.2.2.2.2.2.2.2.2.2.2.2.1 == a1)))]) (fun _ => [Res.var b1 37 Y37 a0]) ?_ (fun _ => ?_)
    · clear h
      cases b5 with
      | true =>
      refine r_pure tabOk 6 [36] (E' := [(36, .one .bool true)]) rfl ?_
      refine r_nil ?_
      refine r_then ?_
      exact r_meetg () rfl rfl
      | false =>
      refine r_pure tabOk 2 [1, 30, 32] (E' := [(1, .one (.int .i64) a1), (30, .one .bool false), (32, ptr b1 115)]) rfl ?_
      refine r_guard (by rfl) rfl ?_
      refine y (y_load 0 ((.snd (.fst ((.snd (.snd (.snd (.snd (.snd (.snd (.snd (.snd (.snd (.snd (.snd (.snd (.snd (.snd (.snd (.snd (.snd (.fst .here)))))))))))))))))))))) rfl rfl (by first | rfl | (simp only [Pth.off, T.size]; omega)) (ok_snd (ok_fst (ok_snd (ok_snd (ok_snd (ok_snd (ok_snd (ok_snd (ok_snd (ok_snd (ok_snd (ok_snd (ok_snd (ok_snd (ok_snd (ok_snd (ok_snd (ok_snd (ok_snd (ok_fst ok_here)))))))))))))))))))) ty2) rfl ?_
      refine r_pure tabOk 3 [36] (E' := [(36, .one .bool (a0.2.1.2.2.2.2.2.2.2.2.2.2.2.2.2.2.2.2.2.1 == a1))]) rfl ?_
      refine r_nil ?_
      refine r_then ?_
      exact r_meetg () rfl rfl
    refine r_pure tabOk 1 [4] (E' := [(4, .one .bool (b5 || (a0.2.1.2.2.2.2.2.2.2.2.2.2.2.2.2.2.2.2.2.1 == a1)))]) rfl ?_
    refine r_nil ?_
    refine r_then ?_
    refine r_ret ?_
    obtain rfl := Option.some.inj h
    exact r_ret1 rfl (.tmp rfl) (fun _ _ g => g) (fun _ _ _ => List.nil_sublist _)

theorem gate_Gate_MaySign_ok (a0 : Int × Int × Int × Int × Int × (Int × Int × Unit) × Int × Int × Int × Unit) (a1 : Int) (a2 : Int × Int × Unit) (r : Bool) (h : gate_Gate_MaySign a0 a1 a2 = some r) : Pure Try.prog 12 [.one Y32 a0, .one (.int .i64) a1, .one Y24 a2] (.one .bool r) := by
  unfold gate_Gate_MaySign at h
  refine enter Try.func12 rfl 64 rfl rfl fun F => ?_
  refine r_seq ?_
  refine r_region ?_
  refine r_box rfl rfl fun b1 => ?_
  refine r_box rfl rfl fun b2 => ?_
  refine r_pure tabOk 1 [1, 3, 5] (E' := [(1, .one (.int .i64) a1), (3, ptr b1 0), (5, ptr b2 0)]) rfl ?_
  refine r_nil ?_
  refine r_then ?_
  refine r_seq ?_
  refine r_seq ?_
  refine r_region ?_
  refine y (y_load 1 .here rfl rfl (by first | rfl | (simp only [Pth.off, T.size]; omega)) ok_here ty32) rfl ?_
  obtain ⟨r3, hr3, h⟩ := bind_ex h
  refine r_calls (gate_Gate_still_ok a0 _ hr3) (by kernel_rfl) rfl rfl ?_
  refine r_pure tabOk 2 [1, 3, 5, 10] (E' := [(1, .one (.int .i64) a1), (3, ptr b1 0), (5, ptr b2 0), (10, .one .bool (!r3))]) rfl ?_
  obtain ⟨b4, hbb4, h⟩ := bnd_ex h
  rw [hbb4]
  refine r_lsplit (γ := Unit) 3 (fun _ => [(1, .one (.int .i64) a1), (3, ptr b1 0), (5, ptr b2 0), (13, .one .bool (b4 || (decide (a1 < 1))))]) (fun _ => [Res.var b2 24 Y24 a2, Res.var b1 32 Y32 a0]) ?_ (fun _ => ?_)
  · clear h
    cases b4 with
    | true =>
    refine r_pure tabOk 3 [1, 3, 5, 13] (E' := [(1, .one (.int .i64) a1), (3, ptr b1 0), (5, ptr b2 0), (13, .one .bool true)]) rfl ?_
    refine r_nil ?_
    refine r_then ?_
    exact r_meetg () rfl rfl
    | false =>
    refine r_pure tabOk 3 [1, 3, 5, 13] (E' := [(1, .one (.int .i64) a1), (3, ptr b1 0), (5, ptr b2 0), (13, .one .bool (decide (a1 < 1)))]) rfl ?_
    refine r_nil ?_
    refine r_then ?_
    exact r_meetg () rfl rfl
  refine r_nil ?_
  refine r_then ?_
  refine r_if (b := (b4 || (decide (a1 < 1)))) rfl (fun hc => ?_) (fun hc => ?_)
  · rw [if_pos hc] at h
    refine r_seq ?_
    refine r_region ?_
    refine r_pure tabOk 1 [6] (E' := [(6, .one .bool false)]) rfl ?_
    refine r_nil ?_
    refine r_then ?_
    refine r_ret ?_
    refine t_then ?_
    obtain rfl := Option.some.inj h
    exact r_ret1 rfl (.tmp rfl) (fun _ _ g => g) (fun _ _ _ => List.nil_sublist _)
  · rw [if_neg (ne_true_of_eq_false hc)] at h
    refine r_skip ?_
    refine r_then ?_
    refine r_seq ?_
    refine r_seq ?_
    refine r_region ?_
    refine r_pure tabOk 2 [1, 3, 5, 14, 15] (E' := [(1, .one (.int .i64) a1), (3, ptr b1 0), (5, ptr b2 0), (14, .one (.int .i64) a1), (15, ptr b1 2)]) rfl ?_
    refine y (y_load 1 ((.snd (.snd (.fst .here)))) rfl rfl (by first | rfl | (simp only [Pth.off, T.size]; omega)) (ok_snd (ok_snd (ok_fst ok_here))) ty2) rfl ?_
    refine r_pure tabOk 2 [1, 3, 5, 18] (E' := [(1, .one (.int .i64) a1), (3, ptr b1 0), (5, ptr b2 0), (18, .one .bool (a1 == a0.2.2.1))]) rfl ?_
    obtain ⟨b5, hbb5, h⟩ := bnd_ex h
    rw [hbb5]
    refine r_lsplit (γ := Unit) 5 (fun _ => [(1, .one (.int .i64) a1), (3, ptr b1 0), (5, ptr b2 0), (23, .one .bool (b5 && (eqD (.pair (.int .i64) (.pair (.int .i64) .unit)) a2 a0.2.2.2.2.2.1)))]) (fun _ => [Res.var b2 24 Y24 a2, Res.var b1 32 Y32 a0]) ?_ (fun _ => ?_)
    · clear h
      cases b5 with
      | true =>
      refine r_guard (by rfl) rfl ?_
      refine y (y_load 0 .here rfl rfl (by first | rfl | (simp only [Pth.off, T.size]; omega)) ok_here ty24) rfl ?_
      refine r_pure tabOk 1 [1, 3, 5, 18, 19, 20] (E' := [(1, .one (.int .i64) a1), (3, ptr b1 0), (5, ptr b2 0), (18, .one .bool true), (19, .one Y24 a2), (20, ptr b1 5)]) rfl ?_
      refine r_guard (by rfl) rfl ?_
      refine y (y_load 1 ((.snd (.snd (.snd (.snd (.snd (.fst .here))))))) rfl rfl (by first | rfl | (simp only [Pth.off, T.size]; omega)) (ok_snd (ok_snd (ok_snd (ok_snd (ok_snd (ok_fst ok_here)))))) ty24) rfl ?_
      refine r_guard (by rfl) rfl ?_
      refine y (y_eqs 20 rfl rfl rfl rfl ty24 rfl kt24 eg24) rfl ?_
      refine r_pure tabOk 1 [1, 3, 5, 23] (E' := [(1, .one (.int .i64) a1), (3, ptr b1 0), (5, ptr b2 0), (23, .one .bool (eqD (.pair (.int .i64) (.pair (.int .i64) .unit)) a2 a0.2.2.2.2.2.1))]) rfl ?_
      refine r_nil ?_
      refine r_then ?_
      exact r_meetg () rfl rfl
      | false =>
      refine r_pure tabOk 5 [1, 3, 5, 23] (E' := [(1, .one (.int .i64) a1), (3, ptr b1 0), (5, ptr b2 0), (23, .one .bool false)]) rfl ?_
      refine r_nil ?_
      refine r_then ?_
      exact r_meetg () rfl rfl
    refine r_nil ?_
    refine r_then ?_
    refine r_if (b := (b5 && (eqD (.pair (.int .i64) (.pair (.int .i64) .unit)) a2 a0.2.2.2.2.2.1))) rfl (fun hc => ?_) (fun hc => ?_)
    · rw [if_pos hc] at h
      refine r_seq ?_
      refine r_region ?_
      refine r_pure tabOk 1 [6] (E' := [(6, .one .bool true)]) rfl ?_
      refine r_nil ?_
      refine r_then ?_
      refine r_ret ?_
      refine t_then ?_
      obtain rfl := Option.some.inj h
      exact r_ret1 rfl (.tmp rfl) (fun _ _ g => g) (fun _ _ _ => List.nil_sublist _)
    · rw [if_neg (ne_true_of_eq_false hc)] at h
      refine r_skip ?_
      refine r_then ?_
      refine r_seq ?_
      refine r_region ?_
      refine r_pure tabOk 1 [1, 3, 5, 24] (E' := [(1, .one (.int .i64) a1), (3, ptr b1 0), (5, ptr b2 0), (24, ptr b1 2)]) rfl ?_
      refine y (y_load 1 ((.snd (.snd (.fst .here)))) rfl rfl (by first | rfl | (simp only [Pth.off, T.size]; omega)) (ok_snd (ok_snd (ok_fst ok_here))) ty2) rfl ?_
      refine r_pure tabOk 1 [1, 3, 5, 25, 26] (E' := [(1, .one (.int .i64) a1), (3, ptr b1 0), (5, ptr b2 0), (25, .one (.int .i64) a0.2.2.1), (26, ptr b1 3)]) rfl ?_
      refine y (y_load 1 ((.snd (.snd (.snd (.fst .here))))) rfl rfl (by first | rfl | (simp only [Pth.off, T.size]; omega)) (ok_snd (ok_snd (ok_snd (ok_fst ok_here)))) ty2) rfl ?_
      refine r_pure tabOk 2 [1, 3, 5, 29] (E' := [(1, .one (.int .i64) a1), (3, ptr b1 0), (5, ptr b2 0), (29, .one .bool (a0.2.2.1 == a0.2.2.2.1))]) rfl ?_
      obtain ⟨b6, hbb6, h⟩ := bnd_ex h
      rw [hbb6]
      refine r_lsplit (γ := Unit) 6 (fun _ => [(3, ptr b1 0), (5, ptr b2 0), (35, .one .bool (b6 && ((IntKind.wrap .i64 (a1 - 1)) == a0.2.2.1)))]) (fun _ => [Res.var b2 24 Y24 a2, Res.var b1 32 Y32 a0]) ?_ (fun _ => ?_)
      · clear h
        cases b6 with
        | true =>
        refine r_pure tabOk 3 [3, 5, 29, 31, 32] (E' := [(3, ptr b1 0), (5, ptr b2 0), (29, .one .bool true), (31, .one (.int .i64) (IntKind.wrap .i64 (a1 - 1))), (32, ptr b1 2)]) rfl ?_
        refine r_guard (by rfl) rfl ?_
        refine y (y_load 1 ((.snd (.snd (.fst .here)))) rfl rfl (by first | rfl | (simp only [Pth.off, T.size]; omega)) (ok_snd (ok_snd (ok_fst ok_here))) ty2) rfl ?_
        refine r_pure tabOk 2 [3, 5, 35] (E' := [(3, ptr b1 0), (5, ptr b2 0), (35, .one .bool ((IntKind.wrap .i64 (a1 - 1)) == a0.2.2.1))]) rfl ?_
        refine r_nil ?_
        refine r_then ?_
        exact r_meetg () rfl rfl
        | false =>
        refine r_pure tabOk 6 [3, 5, 35] (E' := [(3, ptr b1 0), (5, ptr b2 0), (35, .one .bool false)]) rfl ?_
        refine r_nil ?_
        refine r_then ?_
        exact r_meetg () rfl rfl
      refine r_pure tabOk 1 [3, 5, 36] (E' := [(3, ptr b1 0), (5, ptr b2 0), (36, .one .bool (b6 && ((IntKind.wrap .i64 (a1 - 1)) == a0.2.2.1)))]) rfl ?_
      obtain ⟨b7, hbb7, h⟩ := bnd_ex h
      rw [hbb7]
      refine r_lsplit (γ := Unit) 7 (fun _ => [(3, ptr b1 0), (5, ptr b2 0), (43, .one .bool (b7 && (decide (a2.1 ≥ a0.2.2.2.2.2.1.1))))]) (fun _ => [Res.var b2 24 Y24 a2, Res.var b1 32 Y32 a0]) ?_ (fun _ => ?_)
      · clear h
        cases b7 with
        | true =>
        refine r_pure tabOk 1 [3, 5, 36, 37] (E' := [(3, ptr b1 0), (5, ptr b2 0), (36, .one .bool true), (37, ptr b2 0)]) rfl ?_
        refine r_guard (by rfl) rfl ?_
        refine y (y_load 0 ((.fst .here)) rfl rfl (by first | rfl | (simp only [Pth.off, T.size]; omega)) (ok_fst ok_here) ty3) rfl ?_
        refine r_pure tabOk 2 [3, 5, 36, 38, 40] (E' := [(3, ptr b1 0), (5, ptr b2 0), (36, .one .bool true), (38, .one (.int .i64) a2.1), (40, ptr b1 5)]) rfl ?_
        refine r_guard (by rfl) rfl ?_
        refine y (y_load 1 ((.snd (.snd (.snd (.snd (.snd (.fst ((.fst .here))))))))) rfl rfl (by first | rfl | (simp only [Pth.off, T.size]; omega)) (ok_snd (ok_snd (ok_snd (ok_snd (ok_snd (ok_fst (ok_fst ok_here))))))) ty3) rfl ?_
        refine r_pure tabOk 2 [3, 5, 43] (E' := [(3, ptr b1 0), (5, ptr b2 0), (43, .one .bool (decide (a2.1 ≥ a0.2.2.2.2.2.1.1)))]) rfl ?_
        refine r_nil ?_
        refine r_then ?_
        exact r_meetg () rfl rfl
        | false =>
        refine r_pure tabOk 7 [3, 5, 43] (E' := [(3, ptr b1 0), (5, ptr b2 0), (43, .one .bool false)]) rfl ?_
        refine r_nil ?_
        refine r_then ?_
        exact r_meetg () rfl rfl
      refine r_pure tabOk 1 [3, 5, 44] (E' := [(3, ptr b1 0), (5, ptr b2 0), (44, .one .bool (b7 && (decide (a2.1 ≥ a0.2.2.2.2.2.1.1))))]) rfl ?_
      obtain ⟨b8, hbb8, h⟩ := bnd_ex h
      rw [hbb8]
      refine r_lsplit (γ := Unit) 6 (fun _ => [(3, ptr b1 0), (5, ptr b2 0), (50, .one .bool (b8 && (decide (a2.1 ≤ a0.2.2.2.2.2.2.1))))]) (fun _ => [Res.var b2 24 Y24 a2, Res.var b1 32 Y32 a0]) ?_ (fun _ => ?_)
      · clear h
        cases b8 with
        | true =>
        refine r_pure tabOk 1 [3, 5, 44, 45] (E' := [(3, ptr b1 0), (5, ptr b2 0), (44, .one .bool true), (45, ptr b2 0)]) rfl ?_
        refine r_guard (by rfl) rfl ?_
        refine y (y_load 0 ((.fst .here)) rfl rfl (by first | rfl | (simp only [Pth.off, T.size]; omega)) (ok_fst ok_here) ty3) rfl ?_
        refine r_pure tabOk 1 [3, 5, 44, 46, 47] (E' := [(3, ptr b1 0), (5, ptr b2 0), (44, .one .bool true), (46, .one (.int .i64) a2.1), (47, ptr b1 7)]) rfl ?_
        refine r_guard (by rfl) rfl ?_
        refine y (y_load 1 ((.snd (.snd (.snd (.snd (.snd (.snd (.fst .here)))))))) rfl rfl (by first | rfl | (simp only [Pth.off, T.size]; omega)) (ok_snd (ok_snd (ok_snd (ok_snd (ok_snd (ok_snd (ok_fst ok_here))))))) ty3) rfl ?_
        refine r_pure tabOk 2 [3, 5, 50] (E' := [(3, ptr b1 0), (5, ptr b2 0), (50, .one .bool (decide (a2.1 ≤ a0.2.2.2.2.2.2.1)))]) rfl ?_
        refine r_nil ?_
        refine r_then ?_
        exact r_meetg () rfl rfl
        | false =>
        refine r_pure tabOk 6 [3, 5, 50] (E' := [(3, ptr b1 0), (5, ptr b2 0), (50, .one .bool false)]) rfl ?_
        refine r_nil ?_
        refine r_then ?_
        exact r_meetg () rfl rfl
      refine r_pure tabOk 1 [3, 5, 51] (E' := [(3, ptr b1 0), (5, ptr b2 0), (51, .one .bool (b8 && (decide (a2.1 ≤ a0.2.2.2.2.2.2.1))))]) rfl ?_
      obtain ⟨b9, hbb9, h⟩ := bnd_ex h
      rw [hbb9]
      refine r_lsplit (γ := Unit) 6 (fun _ => [(3, ptr b1 0), (5, ptr b2 0), (57, .one .bool (b9 && (a2.2.1 == a0.2.2.2.2.1)))]) (fun _ => [Res.var b2 24 Y24 a2, Res.var b1 32 Y32 a0]) ?_ (fun _ => ?_)
      · clear h
        cases b9 with
        | true =>
        refine r_pure tabOk 1 [3, 5, 51, 52] (E' := [(3, ptr b1 0), (5, ptr b2 0), (51, .one .bool true), (52, ptr b2 1)]) rfl ?_
        refine r_guard (by rfl) rfl ?_
        refine y (y_load 0 ((.snd (.fst .here))) rfl rfl (by first | rfl | (simp only [Pth.off, T.size]; omega)) (ok_snd (ok_fst ok_here)) ty3) rfl ?_
        refine r_pure tabOk 1 [3, 5, 51, 53, 54] (E' := [(3, ptr b1 0), (5, ptr b2 0), (51, .one .bool true), (53, .one (.int .i64) a2.2.1), (54, ptr b1 4)]) rfl ?_
        refine r_guard (by rfl) rfl ?_
        refine y (y_load 1 ((.snd (.snd (.snd (.snd (.fst .here)))))) rfl rfl (by first | rfl | (simp only [Pth.off, T.size]; omega)) (ok_snd (ok_snd (ok_snd (ok_snd (ok_fst ok_here))))) ty3) rfl ?_
        refine r_pure tabOk 2 [3, 5, 57] (E' := [(3, ptr b1 0), (5, ptr b2 0), (57, .one .bool (a2.2.1 == a0.2.2.2.2.1))]) rfl ?_
        refine r_nil ?_
        refine r_then ?_
        exact r_meetg () rfl rfl
        | false =>
        refine r_pure tabOk 6 [3, 5, 57] (E' := [(3, ptr b1 0), (5, ptr b2 0), (57, .one .bool false)]) rfl ?_
        refine r_nil ?_
        refine r_then ?_
        exact r_meetg () rfl rfl
      refine r_pure tabOk 1 [3, 5, 58] (E' := [(3, ptr b1 0), (5, ptr b2 0), (58, .one .bool (b9 && (a2.2.1 == a0.2.2.2.2.1)))]) rfl ?_
      obtain ⟨b10, hbb10, h⟩ := bnd_ex h
      rw [hbb10]
      refine r_lsplit (γ := Unit) 5 (fun _ => [(63, .one .bool (b10 && (!eqD (.pair (.int .i64) (.pair (.int .i64) .unit)) a2 a0.2.2.2.2.2.1)))]) (fun _ => [Res.var b2 24 Y24 a2, Res.var b1 32 Y32 a0]) ?_ (fun _ => ?_)
      · clear h
        cases b10 with
        | true =>
        refine r_guard (by rfl) rfl ?_
        refine y (y_load 0 .here rfl rfl (by first | rfl | (simp only [Pth.off, T.size]; omega)) ok_here ty24) rfl ?_
        refine r_pure tabOk 1 [58, 59, 60] (E' := [(58, .one .bool true), (59, .one Y24 a2), (60, ptr b1 5)]) rfl ?_
        refine r_guard (by rfl) rfl ?_
        refine y (y_load 1 ((.snd (.snd (.snd (.snd (.snd (.fst .here))))))) rfl rfl (by first | rfl | (simp only [Pth.off, T.size]; omega)) (ok_snd (ok_snd (ok_snd (ok_snd (ok_snd (ok_fst ok_here)))))) ty24) rfl ?_
        refine r_guard (by rfl) rfl ?_
        refine y (y_nes 20 rfl rfl rfl rfl ty24 rfl kt24 eg24) rfl ?_
        refine r_pure tabOk 1 [63] (E' := [(63, .one .bool (!eqD (.pair (.int .i64) (.pair (.int .i64) .unit)) a2 a0.2.2.2.2.2.1))]) rfl ?_
        refine r_nil ?_
        refine r_then ?_
        exact r_meetg () rfl rfl
        | false =>
        refine r_pure tabOk 5 [63] (E' := [(63, .one .bool false)]) rfl ?_
        refine r_nil ?_
        refine r_then ?_
        exact r_meetg () rfl rfl
      refine r_pure tabOk 1 [6] (E' := [(6, .one .bool (b10 && (!eqD (.pair (.int .i64) (.pair (.int .i64) .unit)) a2 a0.2.2.2.2.2.1)))]) rfl ?_
      refine r_nil ?_
      refine r_then ?_
      refine r_ret ?_
      obtain rfl := Option.some.inj h
      exact r_ret1 rfl (.tmp rfl) (fun _ _ g => g) (fun _ _ _ => List.nil_sublist _)

theorem escrowref20_Gate_MaySign_ok (a0 : Int × (Int × Int × Int × Int × (List (Int × Int × Int × List (Int) × List Int × Unit)) × (List (Int × Int × Int × List (Int) × List Int × Unit)) × Int × Int × Int × (Int × Int × Unit) × (Int × Int × Unit) × (Int × Int × Unit) × Bool × List (List (Int)) × List (Int) × (List (Int × List (Int) × Bool × Unit)) × Int × Int × Unit) × Int × Unit) (a1 : Int) (a2 : Int × Int × Unit) (r : Bool) (h : escrowref20_Gate_MaySign a0 a1 a2 = some r) : Pure Try.prog 13 [.one Y37 a0, .one (.int .i64) a1, .one Y24 a2] (.one .bool r) := by
  unfold escrowref20_Gate_MaySign at h
  refine enter Try.func13 rfl 71 rfl rfl fun F => ?_
  refine r_seq ?_
  refine r_region ?_
  refine r_box rfl rfl fun b1 => ?_
  refine r_box rfl rfl fun b2 => ?_
  refine r_pure tabOk 1 [1, 3, 5] (E' := [(1, .one (.int .i64) a1), (3, ptr b1 0), (5, ptr b2 0)]) rfl ?_
  refine r_nil ?_
  refine r_then ?_
  refine r_seq ?_
  refine r_seq ?_
  refine r_region ?_
  refine y (y_load 1 .here rfl rfl (by first | rfl | (simp only [Pth.off, T.size]; omega)) ok_here ty37) rfl ?_
  obtain ⟨r3, hr3, h⟩ := bind_ex h
  refine r_calls (escrowref20_Gate_still_ok a0 _ hr3) (by kernel_rfl) rfl rfl ?_
  refine r_pure tabOk 2 [1, 3, 5, 10] (E' := [(1, .one (.int .i64) a1), (3, ptr b1 0), (5, ptr b2 0), (10, .one .bool (!r3))]) rfl ?_
  obtain ⟨b4, hbb4, h⟩ := bnd_ex h
  rw [hbb4]
  refine r_lsplit (γ := Unit) 3 (fun _ => [(1, .one (.int .i64) a1), (3, ptr b1 0), (5, ptr b2 0), (13, .one .bool (b4 || (decide (a1 < 1))))]) (fun _ => [Res.var b2 24 Y24 a2, Res.var b1 37 Y37 a0]) ?_ (fun _ => ?_)
  · clear h
    cases b4 with
    | true =>
    refine r_pure tabOk 3 [1, 3, 5, 13] (E' := [(1, .one (.int .i64) a1), (3, ptr b1 0), (5, ptr b2 0), (13, .one .bool true)]) rfl ?_
    refine r_nil ?_
    refine r_then ?_
    exact r_meetg () rfl rfl
    | false =>
    refine r_pure tabOk 3 [1, 3, 5, 13] (E' := [(1, .one (.int .i64) a1), (3, ptr b1 0), (5, ptr b2 0), (13, .one .bool (decide (a1 < 1)))]) rfl ?_
    refine r_nil ?_
    refine r_then ?_
    exact r_meetg () rfl rfl
  refine r_nil ?_
  refine r_then ?_
  refine r_if (b := (b4 || (decide (a1 < 1)))) rfl (fun hc => ?_) (fun hc => ?_)
  · rw [if_pos hc] at h
    refine r_seq ?_
    refine r_region ?_
    refine r_pure tabOk 1 [6] (E' := [(6, .one .bool false)]) rfl ?_
    refine r_nil ?_
    refine r_then ?_
    refine r_ret ?_
    refine t_then ?_
    obtain rfl := Option.some.inj h
    exact r_ret1 rfl (.tmp rfl) (fun _ _ g => g) (fun _ _ _ => List.nil_sublist _)
  · rw [if_neg (ne_true_of_eq_false hc)] at h
    refine r_skip ?_
    refine r_then ?_
    refine r_seq ?_
    refine r_seq ?_
    refine r_region ?_
    refine r_pure tabOk 3 [1, 3, 5, 14, 16] (E' := [(1, .one (.int .i64) a1), (3, ptr b1 0), (5, ptr b2 0), (14, .one (.int .i64) a1), (16, ptr b1 8)]) rfl ?_
    refine y (y_load 1 ((.snd (.fst ((.snd (.snd (.snd (.snd (.snd (.snd (.snd (.fst .here)))))))))))) rfl rfl (by first | rfl | (simp only [Pth.off, T.size]; omega)) (ok_snd (ok_fst (ok_snd (ok_snd (ok_snd (ok_snd (ok_snd (ok_snd (ok_snd (ok_fst ok_here)))))))))) ty2) rfl ?_
    refine r_pure tabOk 2 [1, 3, 5, 19] (E' := [(1, .one (.int .i64) a1), (3, ptr b1 0), (5, ptr b2 0), (19, .one .bool (a1 == a0.2.1.2.2.2.2.2.2.2.1))]) rfl ?_
    obtain ⟨b5, hbb5, h⟩ := bnd_ex h
    rw [hbb5]
    refine r_lsplit (γ := Unit) 6 (fun _ => [(1, .one (.int .i64) a1), (3, ptr b1 0), (5, ptr b2 0), (25, .one .bool (b5 && (eqD (.pair (.int .i64) (.pair (.int .i64) .unit)) a2 a0.2.1.2.2.2.2.2.2.2.2.2.2.1)))]) (fun _ => [Res.var b2 24 Y24 a2, Res.var b1 37 Y37 a0]) ?_ (fun _ => ?_)
    · clear h
      cases b5 with
      | true =>
      refine r_guard (by rfl) rfl ?_
      refine y (y_load 0 .here rfl rfl (by first | rfl | (simp only [Pth.off, T.size]; omega)) ok_here ty24) rfl ?_
      refine r_pure tabOk 2 [1, 3, 5, 19, 20, 22] (E' := [(1, .one (.int .i64) a1), (3, ptr b1 0), (5, ptr b2 0), (19, .one .bool true), (20, .one Y24 a2), (22, ptr b1 12)]) rfl ?_
      refine r_guard (by rfl) rfl ?_
      refine y (y_load 1 ((.snd (.fst ((.snd (.snd (.snd (.snd (.snd (.snd (.snd (.snd (.snd (.snd (.fst .here))))))))))))))) rfl rfl (by first | rfl | (simp only [Pth.off, T.size]; omega)) (ok_snd (ok_fst (ok_snd (ok_snd (ok_snd (ok_snd (ok_snd (ok_snd (ok_snd (ok_snd (ok_snd (ok_snd (ok_fst ok_here))))))))))))) ty24) rfl ?_
      refine r_guard (by rfl) rfl ?_
      refine y (y_eqs 20 rfl rfl rfl rfl ty24 rfl kt24 eg24) rfl ?_
      refine r_pure tabOk 1 [1, 3, 5, 25] (E' := [(1, .one (.int .i64) a1), (3, ptr b1 0), (5, ptr b2 0), (25, .one .bool (eqD (.pair (.int .i64) (.pair (.int .i64) .unit)) a2 a0.2.1.2.2.2.2.2.2.2.2.2.2.1))]) rfl ?_
      refine r_nil ?_
      refine r_then ?_
      exact r_meetg () rfl rfl
      | false =>
      refine r_pure tabOk 6 [1, 3, 5, 25] (E' := [(1, .one (.int .i64) a1), (3, ptr b1 0), (5, ptr b2 0), (25, .one .bool false)]) rfl ?_
      refine r_nil ?_
      refine r_then ?_
      exact r_meetg () rfl rfl
    refine r_nil ?_
    refine r_then ?_
    refine r_if (b := (b5 && (eqD (.pair (.int .i64) (.pair (.int .i64) .unit)) a2 a0.2.1.2.2.2.2.2.2.2.2.2.2.1))) rfl (fun hc => ?_) (fun hc => ?_)
    · rw [if_pos hc] at h
      refine r_seq ?_
      refine r_region ?_
      refine r_pure tabOk 1 [6] (E' := [(6, .one .bool true)]) rfl ?_
      refine r_nil ?_
      refine r_then ?_
      refine r_ret ?_
      refine t_then ?_
      obtain rfl := Option.some.inj h
      exact r_ret1 rfl (.tmp rfl) (fun _ _ g => g) (fun _ _ _ => List.nil_sublist _)
    · rw [if_neg (ne_true_of_eq_false hc)] at h
      refine r_skip ?_
      refine r_then ?_
      refine r_seq ?_
      refine r_seq ?_
      refine r_region ?_
      refine r_pure tabOk 2 [1, 3, 5, 27] (E' := [(1, .one (.int .i64) a1), (3, ptr b1 0), (5, ptr b2 0), (27, ptr b1 8)]) rfl ?_
      refine y (y_load 1 ((.snd (.fst ((.snd (.snd (.snd (.snd (.snd (.snd (.snd (.fst .here)))))))))))) rfl rfl (by first | rfl | (simp only [Pth.off, T.size]; omega)) (ok_snd (ok_fst (ok_snd (ok_snd (ok_snd (ok_snd (ok_snd (ok_snd (ok_snd (ok_fst ok_here)))))))))) ty2) rfl ?_
      refine r_pure tabOk 2 [1, 3, 5, 28, 30] (E' := [(1, .one (.int .i64) a1), (3, ptr b1 0), (5, ptr b2 0), (28, .one (.int .i64) a0.2.1.2.2.2.2.2.2.2.1), (30, ptr b1 9)]) rfl ?_
      refine y (y_load 1 ((.snd (.fst ((.snd (.snd (.snd (.snd (.snd (.snd (.snd (.snd (.fst .here))))))))))))) rfl rfl (by first | rfl | (simp only [Pth.off, T.size]; omega)) (ok_snd (ok_fst (ok_snd (ok_snd (ok_snd (ok_snd (ok_snd (ok_snd (ok_snd (ok_snd (ok_fst ok_here))))))))))) ty2) rfl ?_
      refine r_pure tabOk 2 [1, 3, 5, 33] (E' := [(1, .one (.int .i64) a1), (3, ptr b1 0), (5, ptr b2 0), (33, .one .bool (a0.2.1.2.2.2.2.2.2.2.1 != a0.2.1.2.2.2.2.2.2.2.2.1))]) rfl ?_
      obtain ⟨b6, hbb6, h⟩ := bnd_ex h
      rw [hbb6]
      refine r_lsplit (γ := Unit) 7 (fun _ => [(3, ptr b1 0), (5, ptr b2 0), (40, .one .bool (b6 || ((IntKind.wrap .i64 (a1 - 1)) != a0.2.1.2.2.2.2.2.2.2.1)))]) (fun _ => [Res.var b2 24 Y24 a2, Res.var b1 37 Y37 a0]) ?_ (fun _ => ?_)
      · clear h
        cases b6 with
        | true =>
        refine r_pure tabOk 7 [3, 5, 40] (E' := [(3, ptr b1 0), (5, ptr b2 0), (40, .one .bool true)]) rfl ?_
        refine r_nil ?_
        refine r_then ?_
        exact r_meetg () rfl rfl
        | false =>
        refine r_pure tabOk 4 [3, 5, 33, 35, 37] (E' := [(3, ptr b1 0), (5, ptr b2 0), (33, .one .bool false), (35, .one (.int .i64) (IntKind.wrap .i64 (a1 - 1))), (37, ptr b1 8)]) rfl ?_
        refine r_guard (by rfl) rfl ?_
        refine y (y_load 1 ((.snd (.fst ((.snd (.snd (.snd (.snd (.snd (.snd (.snd (.fst .here)))))))))))) rfl rfl (by first | rfl | (simp only [Pth.off, T.size]; omega)) (ok_snd (ok_fst (ok_snd (ok_snd (ok_snd (ok_snd (ok_snd (ok_snd (ok_snd (ok_fst ok_here)))))))))) ty2) rfl ?_
        refine r_pure tabOk 2 [3, 5, 40] (E' := [(3, ptr b1 0), (5, ptr b2 0), (40, .one .bool ((IntKind.wrap .i64 (a1 - 1)) != a0.2.1.2.2.2.2.2.2.2.1))]) rfl ?_
        refine r_nil ?_
        refine r_then ?_
        exact r_meetg () rfl rfl
      refine r_nil ?_
      refine r_then ?_
      refine r_if (b := (b6 || ((IntKind.wrap .i64 (a1 - 1)) != a0.2.1.2.2.2.2.2.2.2.1))) rfl (fun hc => ?_) (fun hc => ?_)
      · rw [if_pos hc] at h
        refine r_seq ?_
        refine r_region ?_
        refine r_pure tabOk 1 [6] (E' := [(6, .one .bool false)]) rfl ?_
        refine r_nil ?_
        refine r_then ?_
        refine r_ret ?_
        refine t_then ?_
        obtain rfl := Option.some.inj h
        exact r_ret1 rfl (.tmp rfl) (fun _ _ g => g) (fun _ _ _ => List.nil_sublist _)
      · rw [if_neg (ne_true_of_eq_false hc)] at h
        refine r_skip ?_
        refine r_then ?_
        refine r_seq ?_
        refine r_region ?_
        refine r_pure tabOk 1 [3, 5, 41] (E' := [(3, ptr b1 0), (5, ptr b2 0), (41, ptr b2 0)]) rfl ?_
        refine y (y_load 0 ((.fst .here)) rfl rfl (by first | rfl | (simp only [Pth.off, T.size]; omega)) (ok_fst ok_here) ty3) rfl ?_
        refine r_pure tabOk 3 [3, 5, 42, 45] (E' := [(3, ptr b1 0), (5, ptr b2 0), (42, .one (.int .i64) a2.1), (45, ptr b1 12)]) rfl ?_
        refine y (y_load 1 ((.snd (.fst ((.snd (.snd (.snd (.snd (.snd (.snd (.snd (.snd (.snd (.snd (.fst ((.fst .here))))))))))))))))) rfl rfl (by first | rfl | (simp only [Pth.off, T.size]; omega)) (ok_snd (ok_fst (ok_snd (ok_snd (ok_snd (ok_snd (ok_snd (ok_snd (ok_snd (ok_snd (ok_snd (ok_snd (ok_fst (ok_fst ok_here)))))))))))))) ty3) rfl ?_
        refine r_pure tabOk 2 [3, 5, 48] (E' := [(3, ptr b1 0), (5, ptr b2 0), (48, .one .bool (decide (a2.1 ≥ a0.2.1.2.2.2.2.2.2.2.2.2.2.1.1)))]) rfl ?_
        obtain ⟨b7, hbb7, h⟩ := bnd_ex h
        rw [hbb7]
        refine r_lsplit (γ := Unit) 6 (fun _ => [(3, ptr b1 0), (5, ptr b2 0), (54, .one .bool (b7 && (decide (a2.1 ≤ a0.2.2.1))))]) (fun _ => [Res.var b2 24 Y24 a2, Res.var b1 37 Y37 a0]) ?_ (fun _ => ?_)
        · clear h
          cases b7 with
          | true =>
          refine r_pure tabOk 1 [3, 5, 48, 49] (E' := [(3, ptr b1 0), (5, ptr b2 0), (48, .one .bool true), (49, ptr b2 0)]) rfl ?_
          refine r_guard (by rfl) rfl ?_
          refine y (y_load 0 ((.fst .here)) rfl rfl (by first | rfl | (simp only [Pth.off, T.size]; omega)) (ok_fst ok_here) ty3) rfl ?_
          refine r_pure tabOk 1 [3, 5, 48, 50, 51] (E' := [(3, ptr b1 0), (5, ptr b2 0), (48, .one .bool true), (50, .one (.int .i64) a2.1), (51, ptr b1 116)]) rfl ?_
          refine r_guard (by rfl) rfl ?_
          refine y (y_load 1 ((.snd (.snd (.fst .here)))) rfl rfl (by first | rfl | (simp only [Pth.off, T.size]; omega)) (ok_snd (ok_snd (ok_fst ok_here))) ty3) rfl ?_
          refine r_pure tabOk 2 [3, 5, 54] (E' := [(3, ptr b1 0), (5, ptr b2 0), (54, .one .bool (decide (a2.1 ≤ a0.2.2.1)))]) rfl ?_
          refine r_nil ?_
          refine r_then ?_
          exact r_meetg () rfl rfl
          | false =>
          refine r_pure tabOk 6 [3, 5, 54] (E' := [(3, ptr b1 0), (5, ptr b2 0), (54, .one .bool false)]) rfl ?_
          refine r_nil ?_
          refine r_then ?_
          exact r_meetg () rfl rfl
        refine r_pure tabOk 1 [3, 5, 55] (E' := [(3, ptr b1 0), (5, ptr b2 0), (55, .one .bool (b7 && (decide (a2.1 ≤ a0.2.2.1))))]) rfl ?_
        obtain ⟨b8, hbb8, h⟩ := bnd_ex h
        rw [hbb8]
        refine r_lsplit (γ := Unit) 8 (fun _ => [(3, ptr b1 0), (5, ptr b2 0), (63, .one .bool (b8 && (a2.2.1 == a0.2.1.2.2.2.2.2.2.2.2.2.1.2.1)))]) (fun _ => [Res.var b2 24 Y24 a2, Res.var b1 37 Y37 a0]) ?_ (fun _ => ?_)
        · clear h
          cases b8 with
          | true =>
          refine r_pure tabOk 1 [3, 5, 55, 56] (E' := [(3, ptr b1 0), (5, ptr b2 0), (55, .one .bool true), (56, ptr b2 1)]) rfl ?_
          refine r_guard (by rfl) rfl ?_
          refine y (y_load 0 ((.snd (.fst .here))) rfl rfl (by first | rfl | (simp only [Pth.off, T.size]; omega)) (ok_snd (ok_fst ok_here)) ty3) rfl ?_
          refine r_pure tabOk 3 [3, 5, 55, 57, 60] (E' := [(3, ptr b1 0), (5, ptr b2 0), (55, .one .bool true), (57, .one (.int .i64) a2.2.1), (60, ptr b1 11)]) rfl ?_
          refine r_guard (by rfl) rfl ?_
          refine y (y_load 1 ((.snd (.fst ((.snd (.snd (.snd (.snd (.snd (.snd (.snd (.snd (.snd (.fst ((.snd (.fst .here))))))))))))))))) rfl rfl (by first | rfl | (simp only [Pth.off, T.size]; omega)) (ok_snd (ok_fst (ok_snd (ok_snd (ok_snd (ok_snd (ok_snd (ok_snd (ok_snd (ok_snd (ok_snd (ok_fst (ok_snd (ok_fst ok_here)))))))))))))) ty3) rfl ?_
          refine r_pure tabOk 2 [3, 5, 63] (E' := [(3, ptr b1 0), (5, ptr b2 0), (63, .one .bool (a2.2.1 == a0.2.1.2.2.2.2.2.2.2.2.2.1.2.1))]) rfl ?_
          refine r_nil ?_
          refine r_then ?_
          exact r_meetg () rfl rfl
          | false =>
          refine r_pure tabOk 8 [3, 5, 63] (E' := [(3, ptr b1 0), (5, ptr b2 0), (63, .one .bool false)]) rfl ?_
          refine r_nil ?_
          refine r_then ?_
          exact r_meetg () rfl rfl
        refine r_pure tabOk 1 [3, 5, 64] (E' := [(3, ptr b1 0), (5, ptr b2 0), (64, .one .bool (b8 && (a2.2.1 == a0.2.1.2.2.2.2.2.2.2.2.2.1.2.1)))]) rfl ?_
        obtain ⟨b9, hbb9, h⟩ := bnd_ex h
        rw [hbb9]
        refine r_lsplit (γ := Unit) 6 (fun _ => [(70, .one .bool (b9 && (!eqD (.pair (.int .i64) (.pair (.int .i64) .unit)) a2 a0.2.1.2.2.2.2.2.2.2.2.2.2.1)))]) (fun _ => [Res.var b2 24 Y24 a2, Res.var b1 37 Y37 a0]) ?_ (fun _ => ?_)
        · clear h
          cases b9 with
          | true =>
          refine r_guard (by rfl) rfl ?_
          refine y (y_load 0 .here rfl rfl (by first | rfl | (simp only [Pth.off, T.size]; omega)) ok_here ty24) rfl ?_
          refine r_pure tabOk 2 [64, 65, 67] (E' := [(64, .one .bool true), (65, .one Y24 a2), (67, ptr b1 12)]) rfl ?_
          refine r_guard (by rfl) rfl ?_
          refine y (y_load 1 ((.snd (.fst ((.snd (.snd (.snd (.snd (.snd (.snd (.snd (.snd (.snd (.snd (.fst .here))))))))))))))) rfl rfl (by first | rfl | (simp only [Pth.off, T.size]; omega)) (ok_snd (ok_fst (ok_snd (ok_snd (ok_snd (ok_snd (ok_snd (ok_snd (ok_snd (ok_snd (ok_snd (ok_snd (ok_fst ok_here))))))))))))) ty24) rfl ?_
          refine r_guard (by rfl) rfl ?_
          refine y (y_nes 20 rfl rfl rfl rfl ty24 rfl kt24 eg24) rfl ?_
          refine r_pure tabOk 1 [70] (E' := [(70, .one .bool (!eqD (.pair (.int .i64) (.pair (.int .i64) .unit)) a2 a0.2.1.2.2.2.2.2.2.2.2.2.2.1))]) rfl ?_
          refine r_nil ?_
          refine r_then ?_
          exact r_meetg () rfl rfl
          | false =>
          refine r_pure tabOk 6 [70] (E' := [(70, .one .bool false)]) rfl ?_
          refine r_nil ?_
          refine r_then ?_
          exact r_meetg () rfl rfl
        refine r_pure tabOk 1 [6] (E' := [(6, .one .bool (b9 && (!eqD (.pair (.int .i64) (.pair (.int .i64) .unit)) a2 a0.2.1.2.2.2.2.2.2.2.2.2.2.1)))]) rfl ?_
        obtain ⟨t10, ht10, h⟩ := bnd_ex h
        rw [ht10]
        refine r_nil ?_
        refine r_then ?_
        refine r_ret ?_
        obtain rfl := Option.some.inj h
        exact r_ret1 rfl (.tmp rfl) (fun _ _ g => g) (fun _ _ _ => List.nil_sublist _)

theorem escrowlaw20_example_ok  (r : (Int × Int × Int × Int × (List (Int × Int × Int × List (Int) × List Int × Unit)) × (List (Int × Int × Int × List (Int) × List Int × Unit)) × Int × Int × Int × (Int × Int × Unit) × (Int × Int × Unit) × (Int × Int × Unit) × Bool × List (List (Int)) × List (Int) × (List (Int × List (Int) × Bool × Unit)) × Int × Int × Unit)) (h : escrowlaw20_example  = some r) : Pure Try.prog 17 [] (.one Y30 r) := by
  unfold escrowlaw20_example at h
  refine enter Try.func17 rfl 5 rfl rfl fun F => ?_
  refine r_seq ?_
  refine r_region ?_
  refine r_alloc (t := Y30) rfl zf30 rfl fun b1 => ?_
  refine r_nil ?_
  refine r_then ?_
  refine r_seq ?_
  refine r_region ?_
  refine y (y_build rfl zf24 rfl rfl (.cons ((.fst .here)) rfl rfl ok_here (.cons ((.snd (.fst .here))) rfl rfl ok_here .nil))) rfl ?_
  refine y (y_build rfl zf24 rfl rfl (.cons ((.fst .here)) rfl rfl ok_here (.cons ((.snd (.fst .here))) rfl rfl ok_here .nil))) rfl ?_
  obtain ⟨hc, h⟩ := ite_ex h
  refine r_make (B := 72) tabOk rfl el35 rfl zf35 rfl rfl rfl hc.1 hc.2 rfl fun v2 => ?_
  refine r_freeze (i := 0) (k := 3) rfl rfl ?_
  refine y (y_build rfl zf30 rfl rfl (.cons ((.snd (.snd (.snd (.snd (.snd (.snd (.fst .here)))))))) rfl rfl ok_here (.cons ((.snd (.snd (.snd (.snd (.snd (.snd (.snd (.fst .here))))))))) rfl rfl ok_here (.cons ((.snd (.snd (.snd (.snd (.snd (.snd (.snd (.snd (.fst .here)))))))))) rfl rfl ok_here (.cons ((.snd (.snd (.snd (.snd (.snd (.snd (.snd (.snd (.snd (.fst .here))))))))))) rfl rfl ok_here (.cons ((.snd (.snd (.snd (.snd (.snd (.snd (.snd (.snd (.snd (.snd (.fst .here)))))))))))) rfl rfl ok_here (.cons ((.snd (.snd (.snd (.snd (.fst .here)))))) rfl rfl ok_here (.cons ((.snd (.snd (.snd (.snd (.snd (.snd (.snd (.snd (.snd (.snd (.snd (.snd (.snd (.snd (.snd (.snd (.snd (.fst .here))))))))))))))))))) rfl rfl ok_here .nil)))))))) rfl ?_
  refine r_store 0 .here rfl rfl rfl (by first | rfl | (simp only [Pth.off, T.size]; omega)) ok_here ty30 ?_
  refine r_nil ?_
  refine r_then ?_
  refine r_ret ?_
  obtain rfl := Option.some.inj h
  exact r_ret1 rfl (.cell 0 .here rfl rfl (by first | rfl | (simp only [Pth.off, T.size]; omega)) ok_here ty30) (fun _ _ g => g) (fun _ _ _ => List.nil_sublist _)

theorem escrowlaw20_first_ok  (r : Bool) (h : escrowlaw20_first  = some r) : Pure Try.prog 14 [] (.one .bool r) := by
  unfold escrowlaw20_first at h
  refine enter Try.func14 rfl 36 rfl rfl fun F => ?_
  refine r_seq ?_
  refine r_region ?_
  refine r_pure tabOk 1 [] (E' := []) rfl ?_
  refine r_nil ?_
  refine r_then ?_
  refine r_seq ?_
  refine r_region ?_
  obtain ⟨r1, hr1, h⟩ := bind_ex h
  refine r_calls (escrowlaw20_example_ok  _ hr1) (by kernel_rfl) rfl rfl ?_
  obtain ⟨r2, hr2, h⟩ := bind_ex h
  refine r_calls (gate_Of_ok 1 r1 _ hr2) (by kernel_rfl) rfl rfl ?_
  refine r_alloc (t := Y32) rfl zf32 rfl fun b3 => ?_
  refine r_store 0 .here rfl rfl rfl (by first | rfl | (simp only [Pth.off, T.size]; omega)) ok_here ty32 ?_
  refine r_nil ?_
  refine r_then ?_
  refine r_seq ?_
  refine r_region ?_
  refine y (y_load 0 .here rfl rfl (by first | rfl | (simp only [Pth.off, T.size]; omega)) ok_here ty32) rfl ?_
  obtain ⟨r4, hr4, h⟩ := bind_ex h
  refine r_calls (gate_Gate_MayBroadcast_ok r2 2 _ hr4) (by kernel_rfl) rfl rfl ?_
  refine r_pure tabOk 1 [1, 6] (E' := [(1, ptr b3 0), (6, .one .bool r4)]) rfl ?_
  obtain ⟨k6, hk6, h⟩ := bnd_ex h
  refine r_lsplitk (γ := Unit) 4 (fun (o7 : Bool) _ => [(1, ptr b3 0), (10, .one .bool o7)]) (fun _ _ => [Res.var b3 32 Y32 r2]) k6 r ?_ ?_
  · rcases Bool.eq_false_or_eq_true r4 with hh | hh
    · rw [hh] at h ⊢
      rw [if_pos rfl] at h
      refine r_guard (by rfl) rfl ?_
      refine y (y_load 0 .here rfl rfl (by first | rfl | (simp only [Pth.off, T.size]; omega)) ok_here ty32) rfl ?_
      refine r_guard (by rfl) rfl ?_
      obtain ⟨r8, hr8, h⟩ := bind_ex h
      refine r_calls (gate_Gate_MayBroadcast_ok r2 1 _ hr8) (by kernel_rfl) rfl rfl ?_
      refine r_pure tabOk 2 [1, 10] (E' := [(1, ptr b3 0), (10, .one .bool (!r8))]) rfl ?_
      refine r_nil ?_
      refine r_less [1, 10] rfl ?_
      refine r_then ?_
      exact r_meetk (!r8) () h rfl rfl
    · rw [hh] at h ⊢
      rw [if_neg (by decide)] at h
      refine r_pure tabOk 4 [1, 10] (E' := [(1, ptr b3 0), (10, .one .bool false)]) rfl ?_
      refine r_nil ?_
      refine r_less [1, 10] rfl ?_
      refine r_then ?_
      exact r_meetk false () h rfl rfl
  · intro o7 _ h
    rw [← hk6] at h
    try dsimp only at h
    refine r_pure tabOk 1 [1, 11] (E' := [(1, ptr b3 0), (11, .one .bool o7)]) rfl ?_
    obtain ⟨k10, hk10, h⟩ := bnd_ex h
    refine r_lsplitk (γ := Unit) 3 (fun (o11 : Bool) _ => [(1, ptr b3 0), (14, .one .bool o11)]) (fun _ _ => [Res.var b3 32 Y32 r2]) k10 r ?_ ?_
    · rcases Bool.eq_false_or_eq_true o7 with hh | hh
      · rw [hh] at h ⊢
        rw [if_pos rfl] at h
        refine r_guard (by rfl) rfl ?_
        refine y (y_load 0 .here rfl rfl (by first | rfl | (simp only [Pth.off, T.size]; omega)) ok_here ty32) rfl ?_
        refine r_guard (by rfl) rfl ?_
        obtain ⟨r12, hr12, h⟩ := bind_ex h
        refine r_calls (gate_Gate_MaySend_ok r2 1 _ hr12) (by kernel_rfl) rfl rfl ?_
        refine r_pure tabOk 1 [1, 14] (E' := [(1, ptr b3 0), (14, .one .bool r12)]) rfl ?_
        refine r_nil ?_
        refine r_less [1, 14] rfl ?_
        refine r_then ?_
        exact r_meetk r12 () h rfl rfl
      · rw [hh] at h ⊢
        rw [if_neg (by decide)] at h
        refine r_pure tabOk 3 [1, 14] (E' := [(1, ptr b3 0), (14, .one .bool false)]) rfl ?_
        refine r_nil ?_
        refine r_less [1, 14] rfl ?_
        refine r_then ?_
        exact r_meetk false () h rfl rfl
    · intro o11 _ h
      rw [← hk10] at h
      try dsimp only at h
      refine r_pure tabOk 1 [1, 15] (E' := [(1, ptr b3 0), (15, .one .bool o11)]) rfl ?_
      obtain ⟨k14, hk14, h⟩ := bnd_ex h
      refine r_lsplitk (γ := Unit) 4 (fun (o15 : Bool) _ => [(1, ptr b3 0), (19, .one .bool o15)]) (fun _ _ => [Res.var b3 32 Y32 r2]) k14 r ?_ ?_
      · rcases Bool.eq_false_or_eq_true o11 with hh | hh
        · rw [hh] at h ⊢
          rw [if_pos rfl] at h
          refine r_guard (by rfl) rfl ?_
          refine y (y_load 0 .here rfl rfl (by first | rfl | (simp only [Pth.off, T.size]; omega)) ok_here ty32) rfl ?_
          refine r_guard (by rfl) rfl ?_
          obtain ⟨r16, hr16, h⟩ := bind_ex h
          refine r_calls (gate_Gate_MaySend_ok r2 2 _ hr16) (by kernel_rfl) rfl rfl ?_
          refine r_pure tabOk 2 [1, 19] (E' := [(1, ptr b3 0), (19, .one .bool (!r16))]) rfl ?_
          refine r_nil ?_
          refine r_less [1, 19] rfl ?_
          refine r_then ?_
          exact r_meetk (!r16) () h rfl rfl
        · rw [hh] at h ⊢
          rw [if_neg (by decide)] at h
          refine r_pure tabOk 4 [1, 19] (E' := [(1, ptr b3 0), (19, .one .bool false)]) rfl ?_
          refine r_nil ?_
          refine r_less [1, 19] rfl ?_
          refine r_then ?_
          exact r_meetk false () h rfl rfl
      · intro o15 _ h
        rw [← hk14] at h
        try dsimp only at h
        refine r_pure tabOk 1 [1, 20] (E' := [(1, ptr b3 0), (20, .one .bool o15)]) rfl ?_
        obtain ⟨k18, hk18, h⟩ := bnd_ex h
        refine r_lsplitk (γ := Unit) 4 (fun (o19 : Bool) _ => [(1, ptr b3 0), (24, .one .bool o19)]) (fun _ _ => [Res.var b3 32 Y32 r2]) k18 r ?_ ?_
        · rcases Bool.eq_false_or_eq_true o15 with hh | hh
          · rw [hh] at h ⊢
            rw [if_pos rfl] at h
            refine r_guard (by rfl) rfl ?_
            refine y (y_load 0 .here rfl rfl (by first | rfl | (simp only [Pth.off, T.size]; omega)) ok_here ty32) rfl ?_
            refine r_guard (by rfl) rfl ?_
            refine y (y_build rfl zf24 rfl rfl (.cons ((.fst .here)) rfl rfl ok_here (.cons ((.snd (.fst .here))) rfl rfl ok_here .nil))) rfl ?_
            refine r_guard (by rfl) rfl ?_
            obtain ⟨r20, hr20, h⟩ := bind_ex h
            refine r_calls (gate_Gate_MaySign_ok r2 1 (1, 2, ()) _ hr20) (by kernel_rfl) rfl rfl ?_
            refine r_pure tabOk 1 [1, 24] (E' := [(1, ptr b3 0), (24, .one .bool r20)]) rfl ?_
            refine r_nil ?_
            refine r_less [1, 24] rfl ?_
            refine r_then ?_
            exact r_meetk r20 () h rfl rfl
          · rw [hh] at h ⊢
            rw [if_neg (by decide)] at h
            refine r_pure tabOk 4 [1, 24] (E' := [(1, ptr b3 0), (24, .one .bool false)]) rfl ?_
            refine r_nil ?_
            refine r_less [1, 24] rfl ?_
            refine r_then ?_
            exact r_meetk false () h rfl rfl
        · intro o19 _ h
          rw [← hk18] at h
          try dsimp only at h
          refine r_pure tabOk 1 [1, 25] (E' := [(1, ptr b3 0), (25, .one .bool o19)]) rfl ?_
          obtain ⟨k22, hk22, h⟩ := bnd_ex h
          refine r_lsplitk (γ := Unit) 4 (fun (o23 : Bool) _ => [(1, ptr b3 0), (29, .one .bool o23)]) (fun _ _ => [Res.var b3 32 Y32 r2]) k22 r ?_ ?_
          · rcases Bool.eq_false_or_eq_true o19 with hh | hh
            · rw [hh] at h ⊢
              rw [if_pos rfl] at h
              refine r_guard (by rfl) rfl ?_
              refine y (y_load 0 .here rfl rfl (by first | rfl | (simp only [Pth.off, T.size]; omega)) ok_here ty32) rfl ?_
              refine r_guard (by rfl) rfl ?_
              refine y (y_build rfl zf24 rfl rfl (.cons ((.fst .here)) rfl rfl ok_here (.cons ((.snd (.fst .here))) rfl rfl ok_here .nil))) rfl ?_
              refine r_guard (by rfl) rfl ?_
              obtain ⟨r24, hr24, h⟩ := bind_ex h
              refine r_calls (gate_Gate_MaySign_ok r2 2 (4, 2, ()) _ hr24) (by kernel_rfl) rfl rfl ?_
              refine r_pure tabOk 1 [1, 29] (E' := [(1, ptr b3 0), (29, .one .bool r24)]) rfl ?_
              refine r_nil ?_
              refine r_less [1, 29] rfl ?_
              refine r_then ?_
              exact r_meetk r24 () h rfl rfl
            · rw [hh] at h ⊢
              rw [if_neg (by decide)] at h
              refine r_pure tabOk 4 [1, 29] (E' := [(1, ptr b3 0), (29, .one .bool false)]) rfl ?_
              refine r_nil ?_
              refine r_less [1, 29] rfl ?_
              refine r_then ?_
              exact r_meetk false () h rfl rfl
          · intro o23 _ h
            rw [← hk22] at h
            try dsimp only at h
            refine r_pure tabOk 1 [1, 30] (E' := [(1, ptr b3 0), (30, .one .bool o23)]) rfl ?_
            obtain ⟨k26, hk26, h⟩ := bnd_ex h
            refine r_lsplitk (γ := Unit) 5 (fun (o27 : Bool) _ => [(35, .one .bool o27)]) (fun _ _ => [Res.var b3 32 Y32 r2]) k26 r ?_ ?_
            · rcases Bool.eq_false_or_eq_true o23 with hh | hh
              · rw [hh] at h ⊢
                rw [if_pos rfl] at h
                refine r_guard (by rfl) rfl ?_
                refine y (y_load 0 .here rfl rfl (by first | rfl | (simp only [Pth.off, T.size]; omega)) ok_here ty32) rfl ?_
                refine r_guard (by rfl) rfl ?_
                refine y (y_build rfl zf24 rfl rfl (.cons ((.fst .here)) rfl rfl ok_here (.cons ((.snd (.fst .here))) rfl rfl ok_here .nil))) rfl ?_
                refine r_guard (by rfl) rfl ?_
                obtain ⟨r28, hr28, h⟩ := bind_ex h
                refine r_calls (gate_Gate_MaySign_ok r2 2 (5, 2, ()) _ hr28) (by kernel_rfl) rfl rfl ?_
                refine r_pure tabOk 2 [35] (E' := [(35, .one .bool (!r28))]) rfl ?_
                refine r_nil ?_
                refine r_less [35] rfl ?_
                refine r_then ?_
                exact r_meetk (!r28) () h rfl rfl
              · rw [hh] at h ⊢
                rw [if_neg (by decide)] at h
                refine r_pure tabOk 5 [35] (E' := [(35, .one .bool false)]) rfl ?_
                refine r_nil ?_
                refine r_less [35] rfl ?_
                refine r_then ?_
                exact r_meetk false () h rfl rfl
            · intro o27 _ h
              rw [← hk26] at h
              try dsimp only at h
              refine r_pure tabOk 1 [0] (E' := [(0, .one .bool o27)]) rfl ?_
              refine r_nil ?_
              refine r_then ?_
              refine r_ret ?_
              obtain rfl := Option.some.inj h
              exact r_ret1 rfl (.tmp rfl) (fun _ _ g => g) (fun _ _ _ => List.nil_sublist _)

theorem escrowlaw20_GateAsks_ok (a0 : Int) (a1 : Int × Int × Int × Int × (List (Int × Int × Int × List (Int) × List Int × Unit)) × (List (Int × Int × Int × List (Int) × List Int × Unit)) × Int × Int × Int × (Int × Int × Unit) × (Int × Int × Unit) × (Int × Int × Unit) × Bool × List (List (Int)) × List (Int) × (List (Int × List (Int) × Bool × Unit)) × Int × Int × Unit) (a2 : Int) (a3 : Int × Int × Unit) (r : Bool) (h : escrowlaw20_GateAsks a0 a1 a2 a3 = some r) : Pure Try.prog 3 [.one (.int .i64) a0, .one Y30 a1, .one (.int .i64) a2, .one Y24 a3] (.one .bool r) := by
  unfold escrowlaw20_GateAsks at h
  refine enter Try.func3 rfl 119 rfl rfl fun F => ?_
  refine r_seq ?_
  refine r_region ?_
  refine r_box rfl rfl fun b1 => ?_
  refine r_box rfl rfl fun b2 => ?_
  refine r_pure tabOk 1 [0, 2, 5, 7] (E' := [(0, .one (.int .i64) a0), (2, .one (.int .i64) a2), (5, ptr b1 0), (7, ptr b2 0)]) rfl ?_
  refine r_nil ?_
  refine r_then ?_
  refine r_seq ?_
  refine r_region ?_
  refine y (y_load 1 .here rfl rfl (by first | rfl | (simp only [Pth.off, T.size]; omega)) ok_here ty30) rfl ?_
  refine r_alloc (t := Y30) rfl zf30 rfl fun b3 => ?_
  refine r_store 0 .here rfl rfl rfl (by first | rfl | (simp only [Pth.off, T.size]; omega)) ok_here ty30 ?_
  refine r_nil ?_
  refine r_then ?_
  refine r_seq ?_
  refine r_region ?_
  refine r_pure tabOk 1 [0, 2, 5, 7, 9, 19] (E' := [(0, .one (.int .i64) a0), (2, .one (.int .i64) a2), (5, ptr b1 0), (7, ptr b2 0), (9, ptr b3 0), (19, ptr b1 4)]) rfl ?_
  refine y (y_load 2 ((.snd (.snd (.snd (.snd (.fst .here)))))) rfl rfl (by first | rfl | (simp only [Pth.off, T.size]; omega)) (ok_snd (ok_snd (ok_snd (ok_snd (ok_fst ok_here))))) ty22) rfl ?_
  refine r_nilown (.slice none 0 0) rfl 35 Y35 ?_
  obtain ⟨hc, h⟩ := ite_ex h
  refine r_append (B := 72) tabOk 0 rfl rfl (src_sl rfl) rfl el35 rfl rfl hc rfl fun v4 => ?_
  refine r_pure tabOk 1 [0, 2, 5, 7, 9, 21, 22] (E' := [(0, .one (.int .i64) a0), (2, .one (.int .i64) a2), (5, ptr b1 0), (7, ptr b2 0), (9, ptr b3 0), (21, .one (.raw (.slice none 0 0)) v4), (22, ptr b3 4)]) rfl ?_
  refine r_storeraw 1 ((.snd (.snd (.snd (.snd (.fst .here)))))) rfl rfl rfl (by first | rfl | (simp only [Pth.off, T.size]; omega)) rfl rfl tx0 ?_
  refine r_nil ?_
  refine r_then ?_
  refine r_seq ?_
  refine r_region ?_
  refine r_pure tabOk 1 [0, 2, 5, 7, 9, 23] (E' := [(0, .one (.int .i64) a0), (2, .one (.int .i64) a2), (5, ptr b1 0), (7, ptr b2 0), (9, ptr b3 0), (23, .one (.int .i64) a0)]) rfl ?_
  refine y (y_load 1 .here rfl rfl (by first | rfl | (simp only [Pth.off, T.size]; omega)) ok_here tx1) rfl ?_
  obtain ⟨r5, hr5, h⟩ := bind_ex h
  refine r_callw (gate_Of_ok a0 ((a1).1, (a1).2.1, (a1).2.2.1, (a1).2.2.2.1, ([] ++ a1.2.2.2.2.1), (a1).2.2.2.2.2) _ hr5) (by kernel_rfl) rfl (.val rfl (.mix rfl (.pair .same (.pair .same (.pair .same (.pair .same (.pair (.own 0 rfl) (.pair .same (.pair .same (.pair .same (.pair .same (.pair .same (.pair .same (.pair .same (.pair .same (.pair .same (.pair .same (.pair .same (.pair .same (.pair .same .same)))))))))))))))))) .nil)) rfl ?_
  refine r_alloc (t := Y32) rfl zf32 rfl fun b6 => ?_
  refine r_store 0 .here rfl rfl rfl (by first | rfl | (simp only [Pth.off, T.size]; omega)) ok_here ty32 ?_
  refine r_nil ?_
  refine r_then ?_
  obtain ⟨k7, hk7, h⟩ := bnd_ex h
  refine r_joink (γ := Value) (fun (o8 : (List (Int × Int × Int × List (Int) × List Int × Unit))) g9 => [(0, .one (.int .i64) a0), (2, .one (.int .i64) a2), (5, ptr b1 0), (7, ptr b2 0), (10, ptr b6 0)]) (fun (o8 : (List (Int × Int × Int × List (Int) × List Int × Unit))) g9 => [Res.var b6 32 Y32 r5, Res.own g9 35 Y35 o8, Res.var b3 30 (.pair (.int .i64) (.pair (.int .i64) (.pair (.int .i64) (.pair (.int .i64) (.pair (.raw (.slice none 0 0)) (.pair (.sl 35 Y35) (.pair (.int .i64) (.pair (.int .i64) (.pair (.int .i64) (.pair Y24 (.pair Y24 (.pair Y24 (.pair .bool (.pair (.arr 2 (.arr 32 (.int .u8))) (.pair (.arr 32 (.int .u8)) (.pair (.sl 65 Y65) (.pair (.int .i64) (.pair (.int .i64) .unit)))))))))))))))))) ((a1).1, (a1).2.1, (a1).2.2.1, (a1).2.2.2.1, g9, (a1).2.2.2.2.2), Res.var b2 24 Y24 a3, Res.var b1 30 Y30 a1]) k7 r ?_ ?_
  · refine r_seq ?_
    refine r_region ?_
    refine r_pure tabOk 1 [0, 2, 5, 7, 9, 10, 11] (E' := [(0, .one (.int .i64) a0), (2, .one (.int .i64) a2), (5, ptr b1 0), (7, ptr b2 0), (9, ptr b3 0), (10, ptr b6 0), (11, .one (.int .i64) 0)]) rfl ?_
    refine r_nil ?_
    refine r_then ?_
    refine r_block ?_
    refine r_less [0, 2, 5, 7, 9, 10, 11] rfl ?_
    refine r_loopg (γ := Value) (fun (s59 : Int × (List (Int × Int × Int × List (Int) × List Int × Unit))) g60 => [(0, .one (.int .i64) a0), (2, .one (.int .i64) a2), (5, ptr b1 0), (7, ptr b2 0), (9, ptr b3 0), (10, ptr b6 0), (11, .one (.int .i64) s59.1)]) (fun (s59 : Int × (List (Int × Int × Int × List (Int) × List Int × Unit))) g60 => [Res.var b6 32 Y32 r5, Res.own g60 35 Y35 s59.2, Res.var b3 30 (.pair (.int .i64) (.pair (.int .i64) (.pair (.int .i64) (.pair (.int .i64) (.pair (.raw (.slice none 0 0)) (.pair (.sl 35 Y35) (.pair (.int .i64) (.pair (.int .i64) (.pair (.int .i64) (.pair Y24 (.pair Y24 (.pair Y24 (.pair .bool (.pair (.arr 2 (.arr 32 (.int .u8))) (.pair (.arr 32 (.int .u8)) (.pair (.sl 65 Y65) (.pair (.int .i64) (.pair (.int .i64) .unit)))))))))))))))))) ((a1).1, (a1).2.1, (a1).2.2.1, (a1).2.2.2.1, g60, (a1).2.2.2.2.2), Res.var b2 24 Y24 a3, Res.var b1 30 Y30 a1]) (escrowlaw20_GateAsks_l2 k7) (0, ([] ++ a1.2.2.2.2.1)) v4 h rfl rfl ?_
    clear h
    intro m61 s59 g60 h
    cases m61 with
    | zero => cases h
    | succ m61 =>
    simp only [escrowlaw20_GateAsks_l2] at h
    refine r_seq ?_
    refine r_seq ?_
    refine r_region ?_
    refine r_pure tabOk 2 [0, 2, 5, 7, 9, 10, 11, 26, 27] (E' := [(0, .one (.int .i64) a0), (2, .one (.int .i64) a2), (5, ptr b1 0), (7, ptr b2 0), (9, ptr b3 0), (10, ptr b6 0), (11, .one (.int .i64) s59.1), (26, .one (.int .i64) s59.1), (27, ptr b3 4)]) rfl ?_
    refine y (y_load 2 ((.snd (.snd (.snd (.snd (.fst .here)))))) rfl rfl (by first | rfl | (simp only [Pth.off, T.size]; omega)) (ok_snd (ok_snd (ok_snd (ok_snd (ok_fst ok_here))))) tx0) rfl ?_
    refine y (y_lenown tabOk 1 rfl rfl rfl) rfl ?_
    refine r_pure tabOk 1 [0, 2, 5, 7, 9, 10, 11, 30] (E' := [(0, .one (.int .i64) a0), (2, .one (.int .i64) a2), (5, ptr b1 0), (7, ptr b2 0), (9, ptr b3 0), (10, ptr b6 0), (11, .one (.int .i64) s59.1), (30, .one .bool (decide (s59.1 < (List.length s59.2 : Int))))]) rfl ?_
    refine r_nil ?_
    refine r_then ?_
    refine r_if (b := (decide (s59.1 < (List.length s59.2 : Int)))) rfl (fun hc => ?_) (fun hc => ?_)
    · rw [if_pos hc] at h
      refine r_skip ?_
      refine r_then ?_
      refine r_seq ?_
      refine r_block ?_
      refine r_region ?_
      refine r_pure tabOk 1 [0, 2, 5, 7, 9, 10, 11, 33] (E' := [(0, .one (.int .i64) a0), (2, .one (.int .i64) a2), (5, ptr b1 0), (7, ptr b2 0), (9, ptr b3 0), (10, ptr b6 0), (11, .one (.int .i64) s59.1), (33, ptr b3 4)]) rfl ?_
      refine y (y_load 2 ((.snd (.snd (.snd (.snd (.fst .here)))))) rfl rfl (by first | rfl | (simp only [Pth.off, T.size]; omega)) (ok_snd (ok_snd (ok_snd (ok_snd (ok_fst ok_here))))) tx0) rfl ?_
      refine r_pure tabOk 1 [0, 2, 5, 7, 9, 10, 11, 34, 35] (E' := [(0, .one (.int .i64) a0), (2, .one (.int .i64) a2), (5, ptr b1 0), (7, ptr b2 0), (9, ptr b3 0), (10, ptr b6 0), (11, .one (.int .i64) s59.1), (34, .one (.raw (.slice none 0 0)) g60), (35, .one (.int .i64) s59.1)]) rfl ?_
      refine y (y_build rfl zf35 rfl rfl (.cons ((.fst .here)) rfl rfl ok_here .nil)) rfl ?_
      obtain ⟨hc, h⟩ := ite_ex h
      refine r_expose 1 rfl (by omega) fun b62 c63 hv => ?_
      rw [hv]
      try clear hv
      refine y (y_iraw tabOk rfl rfl hc.1 (by simpa using hc.2) rfl ty35) rfl ?_
      refine r_sown 1 (Int.toNat s59.1) .here rfl rfl rfl (by omega) (by first | rfl | (simp only [Pth.off, T.size]; omega)) ok_here ty35 ?_
      refine r_nil ?_
      refine r_inblock ?_
      refine r_then ?_
      refine r_region ?_
      refine r_pure tabOk 3 [0, 2, 5, 7, 9, 10, 11] (E' := [(0, .one (.int .i64) a0), (2, .one (.int .i64) a2), (5, ptr b1 0), (7, ptr b2 0), (9, ptr b3 0), (10, ptr b6 0), (11, .one (.int .i64) (IntKind.wrap .i64 (s59.1 + 1)))]) rfl ?_
      obtain ⟨i64, hi64, h⟩ := bnd_ex h
      rw [hi64]
      refine r_nil ?_
      refine r_then ?_
      refine r_less [0, 2, 5, 7, 9, 10, 11] rfl ?_
      exact r_backg (i64, (List.set s59.2 (Int.toNat s59.1) ((-1), 0, 0, (List.replicate 32 (0 : Int)), [], ()))) (.slice (some ⟨b62, 0, none⟩) (List.length s59.2) c63) (Nat.lt_succ_self _) h rfl rfl
    · rw [if_neg (ne_true_of_eq_false hc)] at h
      refine r_exit ?_
      refine e_then ?_
      refine e_then ?_
      refine e_eq ?_
      refine r_then ?_
      refine r_less [0, 2, 5, 7, 10] rfl ?_
      exact r_meetk s59.2 g60 h rfl rfl
  · intro o8 g9 h
    rw [← hk7] at h
    try dsimp only at h
    refine r_seq ?_
    refine r_region ?_
    refine r_pure tabOk 1 [0, 2, 5, 7, 10, 38] (E' := [(0, .one (.int .i64) a0), (2, .one (.int .i64) a2), (5, ptr b1 0), (7, ptr b2 0), (10, ptr b6 0), (38, .one (.int .i64) a0)]) rfl ?_
    refine y (y_load 4 .here rfl rfl (by first | rfl | (simp only [Pth.off, T.size]; omega)) ok_here ty30) rfl ?_
    obtain ⟨r10, hr10, h⟩ := bind_ex h
    refine r_calls (escrowref20_Of_ok a0 a1 _ hr10) (by kernel_rfl) rfl rfl ?_
    refine r_alloc (t := Y37) rfl zf37 rfl fun b11 => ?_
    refine r_store 0 .here rfl rfl rfl (by first | rfl | (simp only [Pth.off, T.size]; omega)) ok_here ty37 ?_
    refine r_nil ?_
    refine r_then ?_
    refine r_seq ?_
    refine r_region ?_
    refine y (y_load 4 .here rfl rfl (by first | rfl | (simp only [Pth.off, T.size]; omega)) ok_here ty24) rfl ?_
    refine r_pure tabOk 1 [0, 2, 5, 10, 12, 41, 42] (E' := [(0, .one (.int .i64) a0), (2, .one (.int .i64) a2), (5, ptr b1 0), (10, ptr b6 0), (12, ptr b11 0), (41, .one Y24 a3), (42, ptr b1 11)]) rfl ?_
    refine y (y_load 5 ((.snd (.snd (.snd (.snd (.snd (.snd (.snd (.snd (.snd (.snd (.fst .here)))))))))))) rfl rfl (by first | rfl | (simp only [Pth.off, T.size]; omega)) (ok_snd (ok_snd (ok_snd (ok_snd (ok_snd (ok_snd (ok_snd (ok_snd (ok_snd (ok_snd (ok_fst ok_here))))))))))) ty24) rfl ?_
    refine r_pure tabOk 1 [0, 2, 5, 10, 12, 41, 43, 44] (E' := [(0, .one (.int .i64) a0), (2, .one (.int .i64) a2), (5, ptr b1 0), (10, ptr b6 0), (12, ptr b11 0), (41, .one Y24 a3), (43, .one Y24 a1.2.2.2.2.2.2.2.2.2.2.1), (44, ptr b1 4)]) rfl ?_
    refine y (y_load 5 ((.snd (.snd (.snd (.snd (.fst .here)))))) rfl rfl (by first | rfl | (simp only [Pth.off, T.size]; omega)) (ok_snd (ok_snd (ok_snd (ok_snd (ok_fst ok_here))))) ty22) rfl ?_
    refine r_pure tabOk 3 [0, 2, 5, 10, 12, 41, 43, 46, 48] (E' := [(0, .one (.int .i64) a0), (2, .one (.int .i64) a2), (5, ptr b1 0), (10, ptr b6 0), (12, ptr b11 0), (41, .one Y24 a3), (43, .one Y24 a1.2.2.2.2.2.2.2.2.2.2.1), (46, .one (.int .i64) (List.length a1.2.2.2.2.1 : Int)), (48, ptr b1 10)]) rfl ?_
    refine y (y_load 5 ((.snd (.snd (.snd (.snd (.snd (.snd (.snd (.snd (.snd (.fst ((.snd (.fst .here)))))))))))))) rfl rfl (by first | rfl | (simp only [Pth.off, T.size]; omega)) (ok_snd (ok_snd (ok_snd (ok_snd (ok_snd (ok_snd (ok_snd (ok_snd (ok_snd (ok_fst (ok_snd (ok_fst ok_here)))))))))))) ty3) rfl ?_
    refine y (y_build rfl zf24 rfl rfl (.cons ((.fst .here)) rfl rfl ok_here (.cons ((.snd (.fst .here))) rfl rfl ok_here .nil))) rfl ?_
    refine r_pure tabOk 2 [0, 2, 5, 10, 12, 41, 43, 50, 52] (E' := [(0, .one (.int .i64) a0), (2, .one (.int .i64) a2), (5, ptr b1 0), (10, ptr b6 0), (12, ptr b11 0), (41, .one Y24 a3), (43, .one Y24 a1.2.2.2.2.2.2.2.2.2.2.1), (50, .one Y24 ((List.length a1.2.2.2.2.1 : Int), a1.2.2.2.2.2.2.2.2.2.1.2.1, ())), (52, ptr b1 11)]) rfl ?_
    refine y (y_load 5 ((.snd (.snd (.snd (.snd (.snd (.snd (.snd (.snd (.snd (.snd (.fst ((.fst .here)))))))))))))) rfl rfl (by first | rfl | (simp only [Pth.off, T.size]; omega)) (ok_snd (ok_snd (ok_snd (ok_snd (ok_snd (ok_snd (ok_snd (ok_snd (ok_snd (ok_snd (ok_fst (ok_fst ok_here)))))))))))) ty3) rfl ?_
    refine r_pure tabOk 2 [0, 2, 5, 10, 12, 41, 43, 50, 53, 55] (E' := [(0, .one (.int .i64) a0), (2, .one (.int .i64) a2), (5, ptr b1 0), (10, ptr b6 0), (12, ptr b11 0), (41, .one Y24 a3), (43, .one Y24 a1.2.2.2.2.2.2.2.2.2.2.1), (50, .one Y24 ((List.length a1.2.2.2.2.1 : Int), a1.2.2.2.2.2.2.2.2.2.1.2.1, ())), (53, .one (.int .i64) a1.2.2.2.2.2.2.2.2.2.2.1.1), (55, ptr b1 10)]) rfl ?_
    refine y (y_load 5 ((.snd (.snd (.snd (.snd (.snd (.snd (.snd (.snd (.snd (.fst ((.snd (.fst .here)))))))))))))) rfl rfl (by first | rfl | (simp only [Pth.off, T.size]; omega)) (ok_snd (ok_snd (ok_snd (ok_snd (ok_snd (ok_snd (ok_snd (ok_snd (ok_snd (ok_fst (ok_snd (ok_fst ok_here)))))))))))) ty3) rfl ?_
    refine y (y_build rfl zf24 rfl rfl (.cons ((.fst .here)) rfl rfl ok_here (.cons ((.snd (.fst .here))) rfl rfl ok_here .nil))) rfl ?_
    refine r_pure tabOk 1 [0, 2, 5, 10, 12, 41, 43, 50, 57, 58] (E' := [(0, .one (.int .i64) a0), (2, .one (.int .i64) a2), (5, ptr b1 0), (10, ptr b6 0), (12, ptr b11 0), (41, .one Y24 a3), (43, .one Y24 a1.2.2.2.2.2.2.2.2.2.2.1), (50, .one Y24 ((List.length a1.2.2.2.2.1 : Int), a1.2.2.2.2.2.2.2.2.2.1.2.1, ())), (57, .one Y24 (a1.2.2.2.2.2.2.2.2.2.2.1.1, a1.2.2.2.2.2.2.2.2.2.1.2.1, ())), (58, ptr b1 13)]) rfl ?_
    refine y (y_load 5 ((.snd (.snd (.snd (.snd (.snd (.snd (.snd (.snd (.snd (.snd (.snd (.fst .here))))))))))))) rfl rfl (by first | rfl | (simp only [Pth.off, T.size]; omega)) (ok_snd (ok_snd (ok_snd (ok_snd (ok_snd (ok_snd (ok_snd (ok_snd (ok_snd (ok_snd (ok_snd (ok_fst ok_here)))))))))))) ty24) rfl ?_
    refine r_lits (B := 16) tabOk rfl el24 rfl rfl rfl (.cons rfl (.cons rfl (.cons rfl (.cons rfl (.cons rfl .nil))))) rfl fun v12 => ?_
    refine r_pure tabOk 1 [0, 2, 5, 10, 12, 13] (E' := [(0, .one (.int .i64) a0), (2, .one (.int .i64) a2), (5, ptr b1 0), (10, ptr b6 0), (12, ptr b11 0), (13, .one (.raw (.slice none 0 0)) v12)]) rfl ?_
    refine r_nil ?_
    refine r_then ?_
    obtain ⟨k13, hk13, h⟩ := bnd_ex h
    refine r_joink (γ := Value × Value) (fun (o14 : List (Int)) g17 => []) (fun (o14 : List (Int)) g17 => [Res.own g17.1 2 (.int .i64) o14, Res.own g17.2 24 Y24 [a3, a1.2.2.2.2.2.2.2.2.2.2.1, ((List.length a1.2.2.2.2.1 : Int), a1.2.2.2.2.2.2.2.2.2.1.2.1, ()), (a1.2.2.2.2.2.2.2.2.2.2.1.1, a1.2.2.2.2.2.2.2.2.2.1.2.1, ()), a1.2.2.2.2.2.2.2.2.2.2.2.1], Res.var b11 37 Y37 r10, Res.var b6 32 Y32 r5, Res.own g9 35 Y35 o8, Res.var b3 30 (.pair (.int .i64) (.pair (.int .i64) (.pair (.int .i64) (.pair (.int .i64) (.pair (.raw (.slice none 0 0)) (.pair (.sl 35 Y35) (.pair (.int .i64) (.pair (.int .i64) (.pair (.int .i64) (.pair Y24 (.pair Y24 (.pair Y24 (.pair .bool (.pair (.arr 2 (.arr 32 (.int .u8))) (.pair (.arr 32 (.int .u8)) (.pair (.sl 65 Y65) (.pair (.int .i64) (.pair (.int .i64) .unit)))))))))))))))))) ((a1).1, (a1).2.1, (a1).2.2.1, (a1).2.2.2.1, g9, (a1).2.2.2.2.2), Res.var b2 24 Y24 a3, Res.var b1 30 Y30 a1]) k13 r ?_ ?_
    · refine r_seq ?_
      refine r_region ?_
      refine r_pure tabOk 2 [0, 5, 10, 12, 13, 61, 62] (E' := [(0, .one (.int .i64) a0), (5, ptr b1 0), (10, ptr b6 0), (12, ptr b11 0), (13, .one (.raw (.slice none 0 0)) v12), (61, .one (.int .i64) a2), (62, ptr b1 6)]) rfl ?_
      refine y (y_load 6 ((.snd (.snd (.snd (.snd (.snd (.snd (.fst .here)))))))) rfl rfl (by first | rfl | (simp only [Pth.off, T.size]; omega)) (ok_snd (ok_snd (ok_snd (ok_snd (ok_snd (ok_snd (ok_fst ok_here))))))) ty2) rfl ?_
      refine r_pure tabOk 1 [0, 5, 10, 12, 13, 61, 63, 64] (E' := [(0, .one (.int .i64) a0), (5, ptr b1 0), (10, ptr b6 0), (12, ptr b11 0), (13, .one (.raw (.slice none 0 0)) v12), (61, .one (.int .i64) a2), (63, .one (.int .i64) a1.2.2.2.2.2.2.1), (64, ptr b1 6)]) rfl ?_
      refine y (y_load 6 ((.snd (.snd (.snd (.snd (.snd (.snd (.fst .here)))))))) rfl rfl (by first | rfl | (simp only [Pth.off, T.size]; omega)) (ok_snd (ok_snd (ok_snd (ok_snd (ok_snd (ok_snd (ok_fst ok_here))))))) ty2) rfl ?_
      refine r_pure tabOk 2 [0, 5, 10, 12, 13, 61, 63, 66, 67] (E' := [(0, .one (.int .i64) a0), (5, ptr b1 0), (10, ptr b6 0), (12, ptr b11 0), (13, .one (.raw (.slice none 0 0)) v12), (61, .one (.int .i64) a2), (63, .one (.int .i64) a1.2.2.2.2.2.2.1), (66, .one (.int .i64) (IntKind.wrap .i64 (a1.2.2.2.2.2.2.1 - 1))), (67, ptr b1 7)]) rfl ?_
      refine y (y_load 6 ((.snd (.snd (.snd (.snd (.snd (.snd (.snd (.fst .here))))))))) rfl rfl (by first | rfl | (simp only [Pth.off, T.size]; omega)) (ok_snd (ok_snd (ok_snd (ok_snd (ok_snd (ok_snd (ok_snd (ok_fst ok_here)))))))) ty2) rfl ?_
      refine r_pure tabOk 1 [0, 5, 10, 12, 13, 61, 63, 66, 68, 69] (E' := [(0, .one (.int .i64) a0), (5, ptr b1 0), (10, ptr b6 0), (12, ptr b11 0), (13, .one (.raw (.slice none 0 0)) v12), (61, .one (.int .i64) a2), (63, .one (.int .i64) a1.2.2.2.2.2.2.1), (66, .one (.int .i64) (IntKind.wrap .i64 (a1.2.2.2.2.2.2.1 - 1))), (68, .one (.int .i64) a1.2.2.2.2.2.2.2.1), (69, ptr b1 7)]) rfl ?_
      refine y (y_load 6 ((.snd (.snd (.snd (.snd (.snd (.snd (.snd (.fst .here))))))))) rfl rfl (by first | rfl | (simp only [Pth.off, T.size]; omega)) (ok_snd (ok_snd (ok_snd (ok_snd (ok_snd (ok_snd (ok_snd (ok_fst ok_here)))))))) ty2) rfl ?_
      refine r_pure tabOk 2 [0, 5, 10, 12, 13, 61, 63, 66, 68, 71, 72] (E' := [(0, .one (.int .i64) a0), (5, ptr b1 0), (10, ptr b6 0), (12, ptr b11 0), (13, .one (.raw (.slice none 0 0)) v12), (61, .one (.int .i64) a2), (63, .one (.int .i64) a1.2.2.2.2.2.2.1), (66, .one (.int .i64) (IntKind.wrap .i64 (a1.2.2.2.2.2.2.1 - 1))), (68, .one (.int .i64) a1.2.2.2.2.2.2.2.1), (71, .one (.int .i64) (IntKind.wrap .i64 (a1.2.2.2.2.2.2.2.1 + 1))), (72, ptr b1 8)]) rfl ?_
      refine y (y_load 6 ((.snd (.snd (.snd (.snd (.snd (.snd (.snd (.snd (.fst .here)))))))))) rfl rfl (by first | rfl | (simp only [Pth.off, T.size]; omega)) (ok_snd (ok_snd (ok_snd (ok_snd (ok_snd (ok_snd (ok_snd (ok_snd (ok_fst ok_here))))))))) ty2) rfl ?_
      refine r_pure tabOk 4 [10, 12, 13, 61, 63, 66, 68, 71, 73, 74, 76, 77] (E' := [(10, ptr b6 0), (12, ptr b11 0), (13, .one (.raw (.slice none 0 0)) v12), (61, .one (.int .i64) a2), (63, .one (.int .i64) a1.2.2.2.2.2.2.1), (66, .one (.int .i64) (IntKind.wrap .i64 (a1.2.2.2.2.2.2.1 - 1))), (68, .one (.int .i64) a1.2.2.2.2.2.2.2.1), (71, .one (.int .i64) (IntKind.wrap .i64 (a1.2.2.2.2.2.2.2.1 + 1))), (73, .one (.int .i64) a1.2.2.2.2.2.2.2.2.1), (74, .one (.int .i64) a0), (76, .one (.int .i64) (IntKind.wrap .i64 (a0 + 1))), (77, ptr b1 114)]) rfl ?_
      refine y (y_load 6 ((.snd (.snd (.snd (.snd (.snd (.snd (.snd (.snd (.snd (.snd (.snd (.snd (.snd (.snd (.snd (.snd (.snd (.fst .here))))))))))))))))))) rfl rfl (by first | rfl | (simp only [Pth.off, T.size]; omega)) (ok_snd (ok_snd (ok_snd (ok_snd (ok_snd (ok_snd (ok_snd (ok_snd (ok_snd (ok_snd (ok_snd (ok_snd (ok_snd (ok_snd (ok_snd (ok_snd (ok_snd (ok_fst ok_here)))))))))))))))))) ty2) rfl ?_
      refine r_lits (B := 8) tabOk rfl el2 rfl rfl rfl (.cons rfl (.cons rfl (.cons rfl (.cons rfl (.cons rfl (.cons rfl (.cons rfl (.cons rfl (.cons rfl (.cons rfl (.cons rfl (.cons rfl .nil)))))))))))) rfl fun v19 => ?_
      refine y (y_lenown tabOk 0 rfl rfl rfl) rfl ?_
      refine r_pure tabOk 1 [10, 12, 13, 79, 80, 81] (E' := [(10, ptr b6 0), (12, ptr b11 0), (13, .one (.raw (.slice none 0 0)) v12), (79, .one (.raw (.slice none 0 0)) v19), (80, .one (.int .i64) (List.length [a2, a1.2.2.2.2.2.2.1, (IntKind.wrap .i64 (a1.2.2.2.2.2.2.1 - 1)), a1.2.2.2.2.2.2.2.1, (IntKind.wrap .i64 (a1.2.2.2.2.2.2.2.1 + 1)), a1.2.2.2.2.2.2.2.2.1, a0, (IntKind.wrap .i64 (a0 + 1)), a1.2.2.2.2.2.2.2.2.2.2.2.2.2.2.2.2.2.1, 0, 1, (-1)] : Int)), (81, .one (.int .i64) 0)]) rfl ?_
      refine r_nil ?_
      refine r_then ?_
      refine r_block ?_
      refine r_less [10, 12, 13, 79, 80, 81] rfl ?_
      refine r_loopg (γ := Value × Value) (fun (s25 : Int) g28 => [(10, ptr b6 0), (12, ptr b11 0), (13, .one (.raw (.slice none 0 0)) g28.2), (79, .one (.raw (.slice none 0 0)) g28.1), (80, .one (.int .i64) (List.length [a2, a1.2.2.2.2.2.2.1, (IntKind.wrap .i64 (a1.2.2.2.2.2.2.1 - 1)), a1.2.2.2.2.2.2.2.1, (IntKind.wrap .i64 (a1.2.2.2.2.2.2.2.1 + 1)), a1.2.2.2.2.2.2.2.2.1, a0, (IntKind.wrap .i64 (a0 + 1)), a1.2.2.2.2.2.2.2.2.2.2.2.2.2.2.2.2.2.1, 0, 1, (-1)] : Int)), (81, .one (.int .i64) s25)]) (fun (s25 : Int) g28 => [Res.own g28.1 2 (.int .i64) [a2, a1.2.2.2.2.2.2.1, (IntKind.wrap .i64 (a1.2.2.2.2.2.2.1 - 1)), a1.2.2.2.2.2.2.2.1, (IntKind.wrap .i64 (a1.2.2.2.2.2.2.2.1 + 1)), a1.2.2.2.2.2.2.2.2.1, a0, (IntKind.wrap .i64 (a0 + 1)), a1.2.2.2.2.2.2.2.2.2.2.2.2.2.2.2.2.2.1, 0, 1, (-1)], Res.own g28.2 24 Y24 [a3, a1.2.2.2.2.2.2.2.2.2.2.1, ((List.length a1.2.2.2.2.1 : Int), a1.2.2.2.2.2.2.2.2.2.1.2.1, ()), (a1.2.2.2.2.2.2.2.2.2.2.1.1, a1.2.2.2.2.2.2.2.2.2.1.2.1, ()), a1.2.2.2.2.2.2.2.2.2.2.2.1], Res.var b11 37 Y37 r10, Res.var b6 32 Y32 r5, Res.own g9 35 Y35 o8, Res.var b3 30 (.pair (.int .i64) (.pair (.int .i64) (.pair (.int .i64) (.pair (.int .i64) (.pair (.raw (.slice none 0 0)) (.pair (.sl 35 Y35) (.pair (.int .i64) (.pair (.int .i64) (.pair (.int .i64) (.pair Y24 (.pair Y24 (.pair Y24 (.pair .bool (.pair (.arr 2 (.arr 32 (.int .u8))) (.pair (.arr 32 (.int .u8)) (.pair (.sl 65 Y65) (.pair (.int .i64) (.pair (.int .i64) .unit)))))))))))))))))) ((a1).1, (a1).2.1, (a1).2.2.1, (a1).2.2.2.1, g9, (a1).2.2.2.2.2), Res.var b2 24 Y24 a3, Res.var b1 30 Y30 a1]) (escrowlaw20_GateAsks_l0 a0 a1 a2 a3 r5 r10 k13) 0 (v19, v12) h rfl rfl ?_
      clear h
      intro m29 s25 g28 h
      cases m29 with
      | zero => cases h
      | succ m29 =>
      simp only [escrowlaw20_GateAsks_l0] at h
      refine r_seq ?_
      refine r_region ?_
      refine r_pure tabOk 1 [10, 12, 13, 79, 80, 81, 82] (E' := [(10, ptr b6 0), (12, ptr b11 0), (13, .one (.raw (.slice none 0 0)) g28.2), (79, .one (.raw (.slice none 0 0)) g28.1), (80, .one (.int .i64) (List.length [a2, a1.2.2.2.2.2.2.1, (IntKind.wrap .i64 (a1.2.2.2.2.2.2.1 - 1)), a1.2.2.2.2.2.2.2.1, (IntKind.wrap .i64 (a1.2.2.2.2.2.2.2.1 + 1)), a1.2.2.2.2.2.2.2.2.1, a0, (IntKind.wrap .i64 (a0 + 1)), a1.2.2.2.2.2.2.2.2.2.2.2.2.2.2.2.2.2.1, 0, 1, (-1)] : Int)), (81, .one (.int .i64) s25), (82, .one .bool (decide (s25 < (List.length [a2, a1.2.2.2.2.2.2.1, (IntKind.wrap .i64 (a1.2.2.2.2.2.2.1 - 1)), a1.2.2.2.2.2.2.2.1, (IntKind.wrap .i64 (a1.2.2.2.2.2.2.2.1 + 1)), a1.2.2.2.2.2.2.2.2.1, a0, (IntKind.wrap .i64 (a0 + 1)), a1.2.2.2.2.2.2.2.2.2.2.2.2.2.2.2.2.2.1, 0, 1, (-1)] : Int))))]) rfl ?_
      obtain ⟨t30, ht30, h⟩ := bnd_ex h
      rw [ht30]
      refine r_nil ?_
      refine r_then ?_
      refine r_seq ?_
      refine r_if (b := t30) rfl (fun hc => ?_) (fun hc => ?_)
      · rw [if_pos hc] at h
        refine r_skip ?_
        refine r_then ?_
        refine r_seq ?_
        refine r_block ?_
        refine r_seq ?_
        refine r_region ?_
        obtain ⟨hc, h⟩ := ite_ex h
        refine r_expose 0 rfl (by omega) fun b31 c32 hv => ?_
        rw [hv]
        try clear hv
        refine y (y_iraw tabOk rfl rfl hc.1 (by simpa using hc.2) rfl ty2) rfl ?_
        refine y (y_lown 0 (Int.toNat s25) .here rfl rfl (by omega) (by first | rfl | (simp only [Pth.off, T.size]; omega)) ok_here ty2) rfl ?_
        refine r_pure tabOk 1 [10, 12, 13, 15, 79, 80, 81] (E' := [(10, ptr b6 0), (12, ptr b11 0), (13, .one (.raw (.slice none 0 0)) g28.2), (15, .one (.int .i64) (List.getD [a2, a1.2.2.2.2.2.2.1, (IntKind.wrap .i64 (a1.2.2.2.2.2.2.1 - 1)), a1.2.2.2.2.2.2.2.1, (IntKind.wrap .i64 (a1.2.2.2.2.2.2.2.1 + 1)), a1.2.2.2.2.2.2.2.2.1, a0, (IntKind.wrap .i64 (a0 + 1)), a1.2.2.2.2.2.2.2.2.2.2.2.2.2.2.2.2.2.1, 0, 1, (-1)] (Int.toNat s25) 0)), (79, .one (.raw (.slice none 0 0)) (.slice (some ⟨b31, 0, none⟩) (List.length [a2, a1.2.2.2.2.2.2.1, (IntKind.wrap .i64 (a1.2.2.2.2.2.2.1 - 1)), a1.2.2.2.2.2.2.2.1, (IntKind.wrap .i64 (a1.2.2.2.2.2.2.2.1 + 1)), a1.2.2.2.2.2.2.2.2.1, a0, (IntKind.wrap .i64 (a0 + 1)), a1.2.2.2.2.2.2.2.2.2.2.2.2.2.2.2.2.2.1, 0, 1, (-1)]) c32)), (80, .one (.int .i64) (List.length [a2, a1.2.2.2.2.2.2.1, (IntKind.wrap .i64 (a1.2.2.2.2.2.2.1 - 1)), a1.2.2.2.2.2.2.2.1, (IntKind.wrap .i64 (a1.2.2.2.2.2.2.2.1 + 1)), a1.2.2.2.2.2.2.2.2.1, a0, (IntKind.wrap .i64 (a0 + 1)), a1.2.2.2.2.2.2.2.2.2.2.2.2.2.2.2.2.2.1, 0, 1, (-1)] : Int)), (81, .one (.int .i64) s25)]) rfl ?_
        obtain ⟨i33, hi33, h⟩ := bnd_ex h
        rw [hi33]
        refine r_nil ?_
        refine r_then ?_
        refine r_seq ?_
        refine r_seq ?_
        refine r_drawn (by kernel_rfl) (by kernel_rfl) ?_
        refine q_y (y_load 3 .here rfl rfl (by first | rfl | (simp only [Pth.off, T.size]; omega)) ok_here ty32) rfl ?_
        refine q_pure tabOk 1 [10, 12, 13, 15, 79, 80, 81, 85, 86] (E' := [(10, ptr b6 0), (12, ptr b11 0), (13, .one (.raw (.slice none 0 0)) g28.2), (15, .one (.int .i64) i33), (79, .one (.raw (.slice none 0 0)) (.slice (some ⟨b31, 0, none⟩) (List.length [a2, a1.2.2.2.2.2.2.1, (IntKind.wrap .i64 (a1.2.2.2.2.2.2.1 - 1)), a1.2.2.2.2.2.2.2.1, (IntKind.wrap .i64 (a1.2.2.2.2.2.2.2.1 + 1)), a1.2.2.2.2.2.2.2.2.1, a0, (IntKind.wrap .i64 (a0 + 1)), a1.2.2.2.2.2.2.2.2.2.2.2.2.2.2.2.2.2.1, 0, 1, (-1)]) c32)), (80, .one (.int .i64) (List.length [a2, a1.2.2.2.2.2.2.1, (IntKind.wrap .i64 (a1.2.2.2.2.2.2.1 - 1)), a1.2.2.2.2.2.2.2.1, (IntKind.wrap .i64 (a1.2.2.2.2.2.2.2.1 + 1)), a1.2.2.2.2.2.2.2.2.1, a0, (IntKind.wrap .i64 (a0 + 1)), a1.2.2.2.2.2.2.2.2.2.2.2.2.2.2.2.2.2.1, 0, 1, (-1)] : Int)), (81, .one (.int .i64) s25), (85, .one Y32 r5), (86, .one (.int .i64) i33)]) rfl ?_
        obtain ⟨r34, hr34, h⟩ := bind_ex h
        refine q_calls (gate_Gate_MaySend_ok r5 i33 _ hr34) (by kernel_rfl) rfl rfl rfl ?_
        refine q_y (y_load 2 .here rfl rfl (by first | rfl | (simp only [Pth.off, T.size]; omega)) ok_here ty37) rfl ?_
        refine q_pure tabOk 1 [10, 12, 13, 15, 79, 80, 81, 87, 88, 89] (E' := [(10, ptr b6 0), (12, ptr b11 0), (13, .one (.raw (.slice none 0 0)) g28.2), (15, .one (.int .i64) i33), (79, .one (.raw (.slice none 0 0)) (.slice (some ⟨b31, 0, none⟩) (List.length [a2, a1.2.2.2.2.2.2.1, (IntKind.wrap .i64 (a1.2.2.2.2.2.2.1 - 1)), a1.2.2.2.2.2.2.2.1, (IntKind.wrap .i64 (a1.2.2.2.2.2.2.2.1 + 1)), a1.2.2.2.2.2.2.2.2.1, a0, (IntKind.wrap .i64 (a0 + 1)), a1.2.2.2.2.2.2.2.2.2.2.2.2.2.2.2.2.2.1, 0, 1, (-1)]) c32)), (80, .one (.int .i64) (List.length [a2, a1.2.2.2.2.2.2.1, (IntKind.wrap .i64 (a1.2.2.2.2.2.2.1 - 1)), a1.2.2.2.2.2.2.2.1, (IntKind.wrap .i64 (a1.2.2.2.2.2.2.2.1 + 1)), a1.2.2.2.2.2.2.2.2.1, a0, (IntKind.wrap .i64 (a0 + 1)), a1.2.2.2.2.2.2.2.2.2.2.2.2.2.2.2.2.2.1, 0, 1, (-1)] : Int)), (81, .one (.int .i64) s25), (87, .one .bool r34), (88, .one Y37 r10), (89, .one (.int .i64) i33)]) rfl ?_
        obtain ⟨r35, hr35, h⟩ := bind_ex h
        refine q_calls (escrowref20_Gate_MaySend_ok r10 i33 _ hr35) (by kernel_rfl) rfl rfl rfl ?_
        refine q_y (y_bne rfl rfl Try.underlying4) rfl ?_
        refine q_pure tabOk 1 [10, 12, 13, 15, 79, 80, 81, 92] (E' := [(10, ptr b6 0), (12, ptr b11 0), (13, .one (.raw (.slice none 0 0)) g28.2), (15, .one (.int .i64) i33), (79, .one (.raw (.slice none 0 0)) (.slice (some ⟨b31, 0, none⟩) (List.length [a2, a1.2.2.2.2.2.2.1, (IntKind.wrap .i64 (a1.2.2.2.2.2.2.1 - 1)), a1.2.2.2.2.2.2.2.1, (IntKind.wrap .i64 (a1.2.2.2.2.2.2.2.1 + 1)), a1.2.2.2.2.2.2.2.2.1, a0, (IntKind.wrap .i64 (a0 + 1)), a1.2.2.2.2.2.2.2.2.2.2.2.2.2.2.2.2.2.1, 0, 1, (-1)]) c32)), (80, .one (.int .i64) (List.length [a2, a1.2.2.2.2.2.2.1, (IntKind.wrap .i64 (a1.2.2.2.2.2.2.1 - 1)), a1.2.2.2.2.2.2.2.1, (IntKind.wrap .i64 (a1.2.2.2.2.2.2.2.1 + 1)), a1.2.2.2.2.2.2.2.2.1, a0, (IntKind.wrap .i64 (a0 + 1)), a1.2.2.2.2.2.2.2.2.2.2.2.2.2.2.2.2.2.1, 0, 1, (-1)] : Int)), (81, .one (.int .i64) s25), (92, .one .bool (r34 != r35))]) rfl ?_
        obtain ⟨b36, hbb36, h⟩ := bnd_ex h
        rw [hbb36]
        obtain ⟨k37, hk37, h⟩ := bnd_ex h
        refine q_lsplitk 8 (fun (o38 : Bool) => [(10, ptr b6 0), (12, ptr b11 0), (13, .one (.raw (.slice none 0 0)) g28.2), (15, .one (.int .i64) i33), (79, .one (.raw (.slice none 0 0)) (.slice (some ⟨b31, 0, none⟩) (List.length [a2, a1.2.2.2.2.2.2.1, (IntKind.wrap .i64 (a1.2.2.2.2.2.2.1 - 1)), a1.2.2.2.2.2.2.2.1, (IntKind.wrap .i64 (a1.2.2.2.2.2.2.2.1 + 1)), a1.2.2.2.2.2.2.2.2.1, a0, (IntKind.wrap .i64 (a0 + 1)), a1.2.2.2.2.2.2.2.2.2.2.2.2.2.2.2.2.2.1, 0, 1, (-1)]) c32)), (80, .one (.int .i64) (List.length [a2, a1.2.2.2.2.2.2.1, (IntKind.wrap .i64 (a1.2.2.2.2.2.2.1 - 1)), a1.2.2.2.2.2.2.2.1, (IntKind.wrap .i64 (a1.2.2.2.2.2.2.2.1 + 1)), a1.2.2.2.2.2.2.2.2.1, a0, (IntKind.wrap .i64 (a0 + 1)), a1.2.2.2.2.2.2.2.2.2.2.2.2.2.2.2.2.2.1, 0, 1, (-1)] : Int)), (81, .one (.int .i64) s25), (100, .one .bool o38)]) k37 r ?_ ?_
        · rcases Bool.eq_false_or_eq_true b36 with hh | hh
          · rw [hh] at h ⊢
            rw [if_pos rfl] at h
            refine q_pure tabOk 8 [10, 12, 13, 15, 79, 80, 81, 100] (E' := [(10, ptr b6 0), (12, ptr b11 0), (13, .one (.raw (.slice none 0 0)) g28.2), (15, .one (.int .i64) i33), (79, .one (.raw (.slice none 0 0)) (.slice (some ⟨b31, 0, none⟩) (List.length [a2, a1.2.2.2.2.2.2.1, (IntKind.wrap .i64 (a1.2.2.2.2.2.2.1 - 1)), a1.2.2.2.2.2.2.2.1, (IntKind.wrap .i64 (a1.2.2.2.2.2.2.2.1 + 1)), a1.2.2.2.2.2.2.2.2.1, a0, (IntKind.wrap .i64 (a0 + 1)), a1.2.2.2.2.2.2.2.2.2.2.2.2.2.2.2.2.2.1, 0, 1, (-1)]) c32)), (80, .one (.int .i64) (List.length [a2, a1.2.2.2.2.2.2.1, (IntKind.wrap .i64 (a1.2.2.2.2.2.2.1 - 1)), a1.2.2.2.2.2.2.2.1, (IntKind.wrap .i64 (a1.2.2.2.2.2.2.2.1 + 1)), a1.2.2.2.2.2.2.2.2.1, a0, (IntKind.wrap .i64 (a0 + 1)), a1.2.2.2.2.2.2.2.2.2.2.2.2.2.2.2.2.2.1, 0, 1, (-1)] : Int)), (81, .one (.int .i64) s25), (100, .one .bool true)]) rfl ?_
            refine q_lnil ?_
            exact q_meetk true [10, 12, 13, 15, 79, 80, 81, 100] h rfl
          · rw [hh] at h ⊢
            rw [if_neg (by decide)] at h
            refine q_guard (by rfl) rfl ?_
            refine q_y (y_load 3 .here rfl rfl (by first | rfl | (simp only [Pth.off, T.size]; omega)) ok_here ty32) rfl ?_
            refine q_pure tabOk 1 [10, 12, 13, 15, 79, 80, 81, 92, 93, 94] (E' := [(10, ptr b6 0), (12, ptr b11 0), (13, .one (.raw (.slice none 0 0)) g28.2), (15, .one (.int .i64) i33), (79, .one (.raw (.slice none 0 0)) (.slice (some ⟨b31, 0, none⟩) (List.length [a2, a1.2.2.2.2.2.2.1, (IntKind.wrap .i64 (a1.2.2.2.2.2.2.1 - 1)), a1.2.2.2.2.2.2.2.1, (IntKind.wrap .i64 (a1.2.2.2.2.2.2.2.1 + 1)), a1.2.2.2.2.2.2.2.2.1, a0, (IntKind.wrap .i64 (a0 + 1)), a1.2.2.2.2.2.2.2.2.2.2.2.2.2.2.2.2.2.1, 0, 1, (-1)]) c32)), (80, .one (.int .i64) (List.length [a2, a1.2.2.2.2.2.2.1, (IntKind.wrap .i64 (a1.2.2.2.2.2.2.1 - 1)), a1.2.2.2.2.2.2.2.1, (IntKind.wrap .i64 (a1.2.2.2.2.2.2.2.1 + 1)), a1.2.2.2.2.2.2.2.2.1, a0, (IntKind.wrap .i64 (a0 + 1)), a1.2.2.2.2.2.2.2.2.2.2.2.2.2.2.2.2.2.1, 0, 1, (-1)] : Int)), (81, .one (.int .i64) s25), (92, .one .bool false), (93, .one Y32 r5), (94, .one (.int .i64) i33)]) rfl ?_
            refine q_guard (by rfl) rfl ?_
            obtain ⟨r39, hr39, h⟩ := bind_ex h
            refine q_calls (gate_Gate_MayBroadcast_ok r5 i33 _ hr39) (by kernel_rfl) rfl rfl rfl ?_
            refine q_guard (by rfl) rfl ?_
            refine q_y (y_load 2 .here rfl rfl (by first | rfl | (simp only [Pth.off, T.size]; omega)) ok_here ty37) rfl ?_
            refine q_pure tabOk 1 [10, 12, 13, 15, 79, 80, 81, 92, 95, 96, 97] (E' := [(10, ptr b6 0), (12, ptr b11 0), (13, .one (.raw (.slice none 0 0)) g28.2), (15, .one (.int .i64) i33), (79, .one (.raw (.slice none 0 0)) (.slice (some ⟨b31, 0, none⟩) (List.length [a2, a1.2.2.2.2.2.2.1, (IntKind.wrap .i64 (a1.2.2.2.2.2.2.1 - 1)), a1.2.2.2.2.2.2.2.1, (IntKind.wrap .i64 (a1.2.2.2.2.2.2.2.1 + 1)), a1.2.2.2.2.2.2.2.2.1, a0, (IntKind.wrap .i64 (a0 + 1)), a1.2.2.2.2.2.2.2.2.2.2.2.2.2.2.2.2.2.1, 0, 1, (-1)]) c32)), (80, .one (.int .i64) (List.length [a2, a1.2.2.2.2.2.2.1, (IntKind.wrap .i64 (a1.2.2.2.2.2.2.1 - 1)), a1.2.2.2.2.2.2.2.1, (IntKind.wrap .i64 (a1.2.2.2.2.2.2.2.1 + 1)), a1.2.2.2.2.2.2.2.2.1, a0, (IntKind.wrap .i64 (a0 + 1)), a1.2.2.2.2.2.2.2.2.2.2.2.2.2.2.2.2.2.1, 0, 1, (-1)] : Int)), (81, .one (.int .i64) s25), (92, .one .bool false), (95, .one .bool r39), (96, .one Y37 r10), (97, .one (.int .i64) i33)]) rfl ?_
            refine q_guard (by rfl) rfl ?_
            obtain ⟨r40, hr40, h⟩ := bind_ex h
            refine q_calls (escrowref20_Gate_MayBroadcast_ok r10 i33 _ hr40) (by kernel_rfl) rfl rfl rfl ?_
            refine q_guard (by rfl) rfl ?_
            refine q_y (y_bne rfl rfl Try.underlying4) rfl ?_
            refine q_pure tabOk 1 [10, 12, 13, 15, 79, 80, 81, 100] (E' := [(10, ptr b6 0), (12, ptr b11 0), (13, .one (.raw (.slice none 0 0)) g28.2), (15, .one (.int .i64) i33), (79, .one (.raw (.slice none 0 0)) (.slice (some ⟨b31, 0, none⟩) (List.length [a2, a1.2.2.2.2.2.2.1, (IntKind.wrap .i64 (a1.2.2.2.2.2.2.1 - 1)), a1.2.2.2.2.2.2.2.1, (IntKind.wrap .i64 (a1.2.2.2.2.2.2.2.1 + 1)), a1.2.2.2.2.2.2.2.2.1, a0, (IntKind.wrap .i64 (a0 + 1)), a1.2.2.2.2.2.2.2.2.2.2.2.2.2.2.2.2.2.1, 0, 1, (-1)]) c32)), (80, .one (.int .i64) (List.length [a2, a1.2.2.2.2.2.2.1, (IntKind.wrap .i64 (a1.2.2.2.2.2.2.1 - 1)), a1.2.2.2.2.2.2.2.1, (IntKind.wrap .i64 (a1.2.2.2.2.2.2.2.1 + 1)), a1.2.2.2.2.2.2.2.2.1, a0, (IntKind.wrap .i64 (a0 + 1)), a1.2.2.2.2.2.2.2.2.2.2.2.2.2.2.2.2.2.1, 0, 1, (-1)] : Int)), (81, .one (.int .i64) s25), (100, .one .bool (r39 != r40))]) rfl ?_
            refine q_lnil ?_
            exact q_meetk (r39 != r40) [10, 12, 13, 15, 79, 80, 81, 100] h rfl
        · intro o38 h
          rw [← hk37] at h
          try dsimp only at h
          refine q_nil ?_
          refine r_then ?_
          refine r_if (b := o38) rfl (fun hc => ?_) (fun hc => ?_)
          · rw [if_pos hc] at h
            refine r_seq ?_
            refine r_region ?_
            refine r_pure tabOk 1 [8] (E' := [(8, .one .bool false)]) rfl ?_
            refine r_nil ?_
            refine r_then ?_
            refine r_ret ?_
            refine t_then ?_
            refine t_block ?_
            refine t_then ?_
            refine t_then ?_
            refine t_block ?_
            refine t_then ?_
            obtain rfl := Option.some.inj h
            exact r_ret1 rfl (.tmp rfl) (fun _ _ g => g) (fun _ _ _ => List.nil_sublist _)
          · rw [if_neg (ne_true_of_eq_false hc)] at h
            refine r_skip ?_
            refine r_then ?_
            refine r_seq ?_
            refine r_region ?_
            refine r_pure tabOk 1 [10, 12, 13, 15, 79, 80, 81, 101] (E' := [(10, ptr b6 0), (12, ptr b11 0), (13, .one (.raw (.slice none 0 0)) g28.2), (15, .one (.int .i64) i33), (79, .one (.raw (.slice none 0 0)) (.slice (some ⟨b31, 0, none⟩) (List.length [a2, a1.2.2.2.2.2.2.1, (IntKind.wrap .i64 (a1.2.2.2.2.2.2.1 - 1)), a1.2.2.2.2.2.2.2.1, (IntKind.wrap .i64 (a1.2.2.2.2.2.2.2.1 + 1)), a1.2.2.2.2.2.2.2.2.1, a0, (IntKind.wrap .i64 (a0 + 1)), a1.2.2.2.2.2.2.2.2.2.2.2.2.2.2.2.2.2.1, 0, 1, (-1)]) c32)), (80, .one (.int .i64) (List.length [a2, a1.2.2.2.2.2.2.1, (IntKind.wrap .i64 (a1.2.2.2.2.2.2.1 - 1)), a1.2.2.2.2.2.2.2.1, (IntKind.wrap .i64 (a1.2.2.2.2.2.2.2.1 + 1)), a1.2.2.2.2.2.2.2.2.1, a0, (IntKind.wrap .i64 (a0 + 1)), a1.2.2.2.2.2.2.2.2.2.2.2.2.2.2.2.2.2.1, 0, 1, (-1)] : Int)), (81, .one (.int .i64) s25), (101, .one (.raw (.slice none 0 0)) g28.2)]) rfl ?_
            refine y (y_lenown tabOk 1 rfl rfl rfl) rfl ?_
            refine r_pure tabOk 1 [10, 12, 13, 15, 79, 80, 81, 101, 102, 103] (E' := [(10, ptr b6 0), (12, ptr b11 0), (13, .one (.raw (.slice none 0 0)) g28.2), (15, .one (.int .i64) i33), (79, .one (.raw (.slice none 0 0)) (.slice (some ⟨b31, 0, none⟩) (List.length [a2, a1.2.2.2.2.2.2.1, (IntKind.wrap .i64 (a1.2.2.2.2.2.2.1 - 1)), a1.2.2.2.2.2.2.2.1, (IntKind.wrap .i64 (a1.2.2.2.2.2.2.2.1 + 1)), a1.2.2.2.2.2.2.2.2.1, a0, (IntKind.wrap .i64 (a0 + 1)), a1.2.2.2.2.2.2.2.2.2.2.2.2.2.2.2.2.2.1, 0, 1, (-1)]) c32)), (80, .one (.int .i64) (List.length [a2, a1.2.2.2.2.2.2.1, (IntKind.wrap .i64 (a1.2.2.2.2.2.2.1 - 1)), a1.2.2.2.2.2.2.2.1, (IntKind.wrap .i64 (a1.2.2.2.2.2.2.2.1 + 1)), a1.2.2.2.2.2.2.2.2.1, a0, (IntKind.wrap .i64 (a0 + 1)), a1.2.2.2.2.2.2.2.2.2.2.2.2.2.2.2.2.2.1, 0, 1, (-1)] : Int)), (81, .one (.int .i64) s25), (101, .one (.raw (.slice none 0 0)) g28.2), (102, .one (.int .i64) (List.length [a3, a1.2.2.2.2.2.2.2.2.2.2.1, ((List.length a1.2.2.2.2.1 : Int), a1.2.2.2.2.2.2.2.2.2.1.2.1, ()), (a1.2.2.2.2.2.2.2.2.2.2.1.1, a1.2.2.2.2.2.2.2.2.2.1.2.1, ()), a1.2.2.2.2.2.2.2.2.2.2.2.1] : Int)), (103, .one (.int .i64) 0)]) rfl ?_
            refine r_nil ?_
            refine r_then ?_
            obtain ⟨k41, hk41, h⟩ := bnd_ex h
            refine r_cutk (γ := Value) (fun (o42 : Unit) g43 => [(10, ptr b6 0), (12, ptr b11 0), (13, .one (.raw (.slice none 0 0)) g43), (79, .one (.raw (.slice none 0 0)) (.slice (some ⟨b31, 0, none⟩) (List.length [a2, a1.2.2.2.2.2.2.1, (IntKind.wrap .i64 (a1.2.2.2.2.2.2.1 - 1)), a1.2.2.2.2.2.2.2.1, (IntKind.wrap .i64 (a1.2.2.2.2.2.2.2.1 + 1)), a1.2.2.2.2.2.2.2.2.1, a0, (IntKind.wrap .i64 (a0 + 1)), a1.2.2.2.2.2.2.2.2.2.2.2.2.2.2.2.2.2.1, 0, 1, (-1)]) c32)), (80, .one (.int .i64) (List.length [a2, a1.2.2.2.2.2.2.1, (IntKind.wrap .i64 (a1.2.2.2.2.2.2.1 - 1)), a1.2.2.2.2.2.2.2.1, (IntKind.wrap .i64 (a1.2.2.2.2.2.2.2.1 + 1)), a1.2.2.2.2.2.2.2.2.1, a0, (IntKind.wrap .i64 (a0 + 1)), a1.2.2.2.2.2.2.2.2.2.2.2.2.2.2.2.2.2.1, 0, 1, (-1)] : Int)), (81, .one (.int .i64) s25)]) (fun (o42 : Unit) g43 => [Res.own (.slice (some ⟨b31, 0, none⟩) (List.length [a2, a1.2.2.2.2.2.2.1, (IntKind.wrap .i64 (a1.2.2.2.2.2.2.1 - 1)), a1.2.2.2.2.2.2.2.1, (IntKind.wrap .i64 (a1.2.2.2.2.2.2.2.1 + 1)), a1.2.2.2.2.2.2.2.2.1, a0, (IntKind.wrap .i64 (a0 + 1)), a1.2.2.2.2.2.2.2.2.2.2.2.2.2.2.2.2.2.1, 0, 1, (-1)]) c32) 2 (.int .i64) [a2, a1.2.2.2.2.2.2.1, (IntKind.wrap .i64 (a1.2.2.2.2.2.2.1 - 1)), a1.2.2.2.2.2.2.2.1, (IntKind.wrap .i64 (a1.2.2.2.2.2.2.2.1 + 1)), a1.2.2.2.2.2.2.2.2.1, a0, (IntKind.wrap .i64 (a0 + 1)), a1.2.2.2.2.2.2.2.2.2.2.2.2.2.2.2.2.2.1, 0, 1, (-1)], Res.own g43 24 Y24 [a3, a1.2.2.2.2.2.2.2.2.2.2.1, ((List.length a1.2.2.2.2.1 : Int), a1.2.2.2.2.2.2.2.2.2.1.2.1, ()), (a1.2.2.2.2.2.2.2.2.2.2.1.1, a1.2.2.2.2.2.2.2.2.2.1.2.1, ()), a1.2.2.2.2.2.2.2.2.2.2.2.1], Res.var b11 37 Y37 r10, Res.var b6 32 Y32 r5, Res.own g9 35 Y35 o8, Res.var b3 30 (.pair (.int .i64) (.pair (.int .i64) (.pair (.int .i64) (.pair (.int .i64) (.pair (.raw (.slice none 0 0)) (.pair (.sl 35 Y35) (.pair (.int .i64) (.pair (.int .i64) (.pair (.int .i64) (.pair Y24 (.pair Y24 (.pair Y24 (.pair .bool (.pair (.arr 2 (.arr 32 (.int .u8))) (.pair (.arr 32 (.int .u8)) (.pair (.sl 65 Y65) (.pair (.int .i64) (.pair (.int .i64) .unit)))))))))))))))))) ((a1).1, (a1).2.1, (a1).2.2.1, (a1).2.2.2.1, g9, (a1).2.2.2.2.2), Res.var b2 24 Y24 a3, Res.var b1 30 Y30 a1]) k41 r ?_ ?_
            · refine r_block ?_
              refine r_less [10, 12, 13, 15, 79, 80, 81, 101, 102, 103] rfl ?_
              refine r_loopg (γ := Value) (fun (s47 : Int) g48 => [(10, ptr b6 0), (12, ptr b11 0), (13, .one (.raw (.slice none 0 0)) g48), (15, .one (.int .i64) i33), (79, .one (.raw (.slice none 0 0)) (.slice (some ⟨b31, 0, none⟩) (List.length [a2, a1.2.2.2.2.2.2.1, (IntKind.wrap .i64 (a1.2.2.2.2.2.2.1 - 1)), a1.2.2.2.2.2.2.2.1, (IntKind.wrap .i64 (a1.2.2.2.2.2.2.2.1 + 1)), a1.2.2.2.2.2.2.2.2.1, a0, (IntKind.wrap .i64 (a0 + 1)), a1.2.2.2.2.2.2.2.2.2.2.2.2.2.2.2.2.2.1, 0, 1, (-1)]) c32)), (80, .one (.int .i64) (List.length [a2, a1.2.2.2.2.2.2.1, (IntKind.wrap .i64 (a1.2.2.2.2.2.2.1 - 1)), a1.2.2.2.2.2.2.2.1, (IntKind.wrap .i64 (a1.2.2.2.2.2.2.2.1 + 1)), a1.2.2.2.2.2.2.2.2.1, a0, (IntKind.wrap .i64 (a0 + 1)), a1.2.2.2.2.2.2.2.2.2.2.2.2.2.2.2.2.2.1, 0, 1, (-1)] : Int)), (81, .one (.int .i64) s25), (101, .one (.raw (.slice none 0 0)) g48), (102, .one (.int .i64) (List.length [a3, a1.2.2.2.2.2.2.2.2.2.2.1, ((List.length a1.2.2.2.2.1 : Int), a1.2.2.2.2.2.2.2.2.2.1.2.1, ()), (a1.2.2.2.2.2.2.2.2.2.2.1.1, a1.2.2.2.2.2.2.2.2.2.1.2.1, ()), a1.2.2.2.2.2.2.2.2.2.2.2.1] : Int)), (103, .one (.int .i64) s47)]) (fun (s47 : Int) g48 => [Res.own (.slice (some ⟨b31, 0, none⟩) (List.length [a2, a1.2.2.2.2.2.2.1, (IntKind.wrap .i64 (a1.2.2.2.2.2.2.1 - 1)), a1.2.2.2.2.2.2.2.1, (IntKind.wrap .i64 (a1.2.2.2.2.2.2.2.1 + 1)), a1.2.2.2.2.2.2.2.2.1, a0, (IntKind.wrap .i64 (a0 + 1)), a1.2.2.2.2.2.2.2.2.2.2.2.2.2.2.2.2.2.1, 0, 1, (-1)]) c32) 2 (.int .i64) [a2, a1.2.2.2.2.2.2.1, (IntKind.wrap .i64 (a1.2.2.2.2.2.2.1 - 1)), a1.2.2.2.2.2.2.2.1, (IntKind.wrap .i64 (a1.2.2.2.2.2.2.2.1 + 1)), a1.2.2.2.2.2.2.2.2.1, a0, (IntKind.wrap .i64 (a0 + 1)), a1.2.2.2.2.2.2.2.2.2.2.2.2.2.2.2.2.2.1, 0, 1, (-1)], Res.own g48 24 Y24 [a3, a1.2.2.2.2.2.2.2.2.2.2.1, ((List.length a1.2.2.2.2.1 : Int), a1.2.2.2.2.2.2.2.2.2.1.2.1, ()), (a1.2.2.2.2.2.2.2.2.2.2.1.1, a1.2.2.2.2.2.2.2.2.2.1.2.1, ()), a1.2.2.2.2.2.2.2.2.2.2.2.1], Res.var b11 37 Y37 r10, Res.var b6 32 Y32 r5, Res.own g9 35 Y35 o8, Res.var b3 30 (.pair (.int .i64) (.pair (.int .i64) (.pair (.int .i64) (.pair (.int .i64) (.pair (.raw (.slice none 0 0)) (.pair (.sl 35 Y35) (.pair (.int .i64) (.pair (.int .i64) (.pair (.int .i64) (.pair Y24 (.pair Y24 (.pair Y24 (.pair .bool (.pair (.arr 2 (.arr 32 (.int .u8))) (.pair (.arr 32 (.int .u8)) (.pair (.sl 65 Y65) (.pair (.int .i64) (.pair (.int .i64) .unit)))))))))))))))))) ((a1).1, (a1).2.1, (a1).2.2.1, (a1).2.2.2.1, g9, (a1).2.2.2.2.2), Res.var b2 24 Y24 a3, Res.var b1 30 Y30 a1]) (escrowlaw20_GateAsks_l1 a1 a3 r5 r10 i33 k41) 0 g28.2 h rfl rfl ?_
              clear h
              intro m49 s47 g48 h
              cases m49 with
              | zero => cases h
              | succ m49 =>
              simp only [escrowlaw20_GateAsks_l1] at h
              refine r_seq ?_
              refine r_region ?_
              refine r_pure tabOk 1 [10, 12, 13, 15, 79, 80, 81, 101, 102, 103, 104] (E' := [(10, ptr b6 0), (12, ptr b11 0), (13, .one (.raw (.slice none 0 0)) g48), (15, .one (.int .i64) i33), (79, .one (.raw (.slice none 0 0)) (.slice (some ⟨b31, 0, none⟩) (List.length [a2, a1.2.2.2.2.2.2.1, (IntKind.wrap .i64 (a1.2.2.2.2.2.2.1 - 1)), a1.2.2.2.2.2.2.2.1, (IntKind.wrap .i64 (a1.2.2.2.2.2.2.2.1 + 1)), a1.2.2.2.2.2.2.2.2.1, a0, (IntKind.wrap .i64 (a0 + 1)), a1.2.2.2.2.2.2.2.2.2.2.2.2.2.2.2.2.2.1, 0, 1, (-1)]) c32)), (80, .one (.int .i64) (List.length [a2, a1.2.2.2.2.2.2.1, (IntKind.wrap .i64 (a1.2.2.2.2.2.2.1 - 1)), a1.2.2.2.2.2.2.2.1, (IntKind.wrap .i64 (a1.2.2.2.2.2.2.2.1 + 1)), a1.2.2.2.2.2.2.2.2.1, a0, (IntKind.wrap .i64 (a0 + 1)), a1.2.2.2.2.2.2.2.2.2.2.2.2.2.2.2.2.2.1, 0, 1, (-1)] : Int)), (81, .one (.int .i64) s25), (101, .one (.raw (.slice none 0 0)) g48), (102, .one (.int .i64) (List.length [a3, a1.2.2.2.2.2.2.2.2.2.2.1, ((List.length a1.2.2.2.2.1 : Int), a1.2.2.2.2.2.2.2.2.2.1.2.1, ()), (a1.2.2.2.2.2.2.2.2.2.2.1.1, a1.2.2.2.2.2.2.2.2.2.1.2.1, ()), a1.2.2.2.2.2.2.2.2.2.2.2.1] : Int)), (103, .one (.int .i64) s47), (104, .one .bool (decide (s47 < (List.length [a3, a1.2.2.2.2.2.2.2.2.2.2.1, ((List.length a1.2.2.2.2.1 : Int), a1.2.2.2.2.2.2.2.2.2.1.2.1, ()), (a1.2.2.2.2.2.2.2.2.2.2.1.1, a1.2.2.2.2.2.2.2.2.2.1.2.1, ()), a1.2.2.2.2.2.2.2.2.2.2.2.1] : Int))))]) rfl ?_
              obtain ⟨t50, ht50, h⟩ := bnd_ex h
              rw [ht50]
              refine r_nil ?_
              refine r_then ?_
              refine r_seq ?_
              refine r_if (b := t50) rfl (fun hc => ?_) (fun hc => ?_)
              · rw [if_pos hc] at h
                refine r_skip ?_
                refine r_then ?_
                refine r_seq ?_
                refine r_block ?_
                refine r_seq ?_
                refine r_region ?_
                obtain ⟨hc, h⟩ := ite_ex h
                refine r_expose 1 rfl (by omega) fun b51 c52 hv => ?_
                rw [hv]
                try clear hv
                refine y (y_iraw tabOk rfl rfl hc.1 (by simpa using hc.2) rfl ty24) rfl ?_
                refine y (y_lown 1 (Int.toNat s47) .here rfl rfl (by omega) (by first | rfl | (simp only [Pth.off, T.size]; omega)) ok_here ty24) rfl ?_
                refine r_alloc (t := Y24) rfl zf24 rfl fun b53 => ?_
                refine r_store 0 .here rfl rfl rfl (by first | rfl | (simp only [Pth.off, T.size]; omega)) ok_here ty24 ?_
                refine r_nil ?_
                refine r_then ?_
                refine r_seq ?_
                refine r_drawn (by kernel_rfl) (by kernel_rfl) ?_
                refine q_y (y_load 4 .here rfl rfl (by first | rfl | (simp only [Pth.off, T.size]; omega)) ok_here ty32) rfl ?_
                refine q_pure tabOk 1 [10, 12, 13, 15, 17, 79, 80, 81, 101, 102, 103, 107, 108] (E' := [(10, ptr b6 0), (12, ptr b11 0), (13, .one (.raw (.slice none 0 0)) (.slice (some ⟨b51, 0, none⟩) (List.length [a3, a1.2.2.2.2.2.2.2.2.2.2.1, ((List.length a1.2.2.2.2.1 : Int), a1.2.2.2.2.2.2.2.2.2.1.2.1, ()), (a1.2.2.2.2.2.2.2.2.2.2.1.1, a1.2.2.2.2.2.2.2.2.2.1.2.1, ()), a1.2.2.2.2.2.2.2.2.2.2.2.1]) c52)), (15, .one (.int .i64) i33), (17, ptr b53 0), (79, .one (.raw (.slice none 0 0)) (.slice (some ⟨b31, 0, none⟩) (List.length [a2, a1.2.2.2.2.2.2.1, (IntKind.wrap .i64 (a1.2.2.2.2.2.2.1 - 1)), a1.2.2.2.2.2.2.2.1, (IntKind.wrap .i64 (a1.2.2.2.2.2.2.2.1 + 1)), a1.2.2.2.2.2.2.2.2.1, a0, (IntKind.wrap .i64 (a0 + 1)), a1.2.2.2.2.2.2.2.2.2.2.2.2.2.2.2.2.2.1, 0, 1, (-1)]) c32)), (80, .one (.int .i64) (List.length [a2, a1.2.2.2.2.2.2.1, (IntKind.wrap .i64 (a1.2.2.2.2.2.2.1 - 1)), a1.2.2.2.2.2.2.2.1, (IntKind.wrap .i64 (a1.2.2.2.2.2.2.2.1 + 1)), a1.2.2.2.2.2.2.2.2.1, a0, (IntKind.wrap .i64 (a0 + 1)), a1.2.2.2.2.2.2.2.2.2.2.2.2.2.2.2.2.2.1, 0, 1, (-1)] : Int)), (81, .one (.int .i64) s25), (101, .one (.raw (.slice none 0 0)) (.slice (some ⟨b51, 0, none⟩) (List.length [a3, a1.2.2.2.2.2.2.2.2.2.2.1, ((List.length a1.2.2.2.2.1 : Int), a1.2.2.2.2.2.2.2.2.2.1.2.1, ()), (a1.2.2.2.2.2.2.2.2.2.2.1.1, a1.2.2.2.2.2.2.2.2.2.1.2.1, ()), a1.2.2.2.2.2.2.2.2.2.2.2.1]) c52)), (102, .one (.int .i64) (List.length [a3, a1.2.2.2.2.2.2.2.2.2.2.1, ((List.length a1.2.2.2.2.1 : Int), a1.2.2.2.2.2.2.2.2.2.1.2.1, ()), (a1.2.2.2.2.2.2.2.2.2.2.1.1, a1.2.2.2.2.2.2.2.2.2.1.2.1, ()), a1.2.2.2.2.2.2.2.2.2.2.2.1] : Int)), (103, .one (.int .i64) s47), (107, .one Y32 r5), (108, .one (.int .i64) i33)]) rfl ?_
                refine q_y (y_load 0 .here rfl rfl (by first | rfl | (simp only [Pth.off, T.size]; omega)) ok_here ty24) rfl ?_
                obtain ⟨r54, hr54, h⟩ := bind_ex h
                refine q_calls (gate_Gate_MaySign_ok r5 i33 (List.getD [a3, a1.2.2.2.2.2.2.2.2.2.2.1, ((List.length a1.2.2.2.2.1 : Int), a1.2.2.2.2.2.2.2.2.2.1.2.1, ()), (a1.2.2.2.2.2.2.2.2.2.2.1.1, a1.2.2.2.2.2.2.2.2.2.1.2.1, ()), a1.2.2.2.2.2.2.2.2.2.2.2.1] (Int.toNat s47) (0, 0, ())) _ hr54) (by kernel_rfl) rfl rfl rfl ?_
                refine q_y (y_load 3 .here rfl rfl (by first | rfl | (simp only [Pth.off, T.size]; omega)) ok_here ty37) rfl ?_
                refine q_pure tabOk 1 [10, 12, 13, 15, 17, 79, 80, 81, 101, 102, 103, 110, 111, 112] (E' := [(10, ptr b6 0), (12, ptr b11 0), (13, .one (.raw (.slice none 0 0)) (.slice (some ⟨b51, 0, none⟩) (List.length [a3, a1.2.2.2.2.2.2.2.2.2.2.1, ((List.length a1.2.2.2.2.1 : Int), a1.2.2.2.2.2.2.2.2.2.1.2.1, ()), (a1.2.2.2.2.2.2.2.2.2.2.1.1, a1.2.2.2.2.2.2.2.2.2.1.2.1, ()), a1.2.2.2.2.2.2.2.2.2.2.2.1]) c52)), (15, .one (.int .i64) i33), (17, ptr b53 0), (79, .one (.raw (.slice none 0 0)) (.slice (some ⟨b31, 0, none⟩) (List.length [a2, a1.2.2.2.2.2.2.1, (IntKind.wrap .i64 (a1.2.2.2.2.2.2.1 - 1)), a1.2.2.2.2.2.2.2.1, (IntKind.wrap .i64 (a1.2.2.2.2.2.2.2.1 + 1)), a1.2.2.2.2.2.2.2.2.1, a0, (IntKind.wrap .i64 (a0 + 1)), a1.2.2.2.2.2.2.2.2.2.2.2.2.2.2.2.2.2.1, 0, 1, (-1)]) c32)), (80, .one (.int .i64) (List.length [a2, a1.2.2.2.2.2.2.1, (IntKind.wrap .i64 (a1.2.2.2.2.2.2.1 - 1)), a1.2.2.2.2.2.2.2.1, (IntKind.wrap .i64 (a1.2.2.2.2.2.2.2.1 + 1)), a1.2.2.2.2.2.2.2.2.1, a0, (IntKind.wrap .i64 (a0 + 1)), a1.2.2.2.2.2.2.2.2.2.2.2.2.2.2.2.2.2.1, 0, 1, (-1)] : Int)), (81, .one (.int .i64) s25), (101, .one (.raw (.slice none 0 0)) (.slice (some ⟨b51, 0, none⟩) (List.length [a3, a1.2.2.2.2.2.2.2.2.2.2.1, ((List.length a1.2.2.2.2.1 : Int), a1.2.2.2.2.2.2.2.2.2.1.2.1, ()), (a1.2.2.2.2.2.2.2.2.2.2.1.1, a1.2.2.2.2.2.2.2.2.2.1.2.1, ()), a1.2.2.2.2.2.2.2.2.2.2.2.1]) c52)), (102, .one (.int .i64) (List.length [a3, a1.2.2.2.2.2.2.2.2.2.2.1, ((List.length a1.2.2.2.2.1 : Int), a1.2.2.2.2.2.2.2.2.2.1.2.1, ()), (a1.2.2.2.2.2.2.2.2.2.2.1.1, a1.2.2.2.2.2.2.2.2.2.1.2.1, ()), a1.2.2.2.2.2.2.2.2.2.2.2.1] : Int)), (103, .one (.int .i64) s47), (110, .one .bool r54), (111, .one Y37 r10), (112, .one (.int .i64) i33)]) rfl ?_
                refine q_y (y_load 0 .here rfl rfl (by first | rfl | (simp only [Pth.off, T.size]; omega)) ok_here ty24) rfl ?_
                obtain ⟨r55, hr55, h⟩ := bind_ex h
                refine q_calls (escrowref20_Gate_MaySign_ok r10 i33 (List.getD [a3, a1.2.2.2.2.2.2.2.2.2.2.1, ((List.length a1.2.2.2.2.1 : Int), a1.2.2.2.2.2.2.2.2.2.1.2.1, ()), (a1.2.2.2.2.2.2.2.2.2.2.1.1, a1.2.2.2.2.2.2.2.2.2.1.2.1, ()), a1.2.2.2.2.2.2.2.2.2.2.2.1] (Int.toNat s47) (0, 0, ())) _ hr55) (by kernel_rfl) rfl rfl rfl ?_
                refine q_y (y_bne rfl rfl Try.underlying4) rfl ?_
                refine q_nil ?_
                refine r_then ?_
                refine r_if (b := (r54 != r55)) rfl (fun hc => ?_) (fun hc => ?_)
                · rw [if_pos hc] at h
                  refine r_seq ?_
                  refine r_region ?_
                  refine r_pure tabOk 1 [8] (E' := [(8, .one .bool false)]) rfl ?_
                  refine r_nil ?_
                  refine r_then ?_
                  refine r_ret ?_
                  refine t_block ?_
                  refine t_then ?_
                  refine t_then ?_
                  refine t_block ?_
                  refine t_then ?_
                  refine t_block ?_
                  refine t_then ?_
                  refine t_then ?_
                  refine t_block ?_
                  refine t_then ?_
                  obtain rfl := Option.some.inj h
                  exact r_ret1 rfl (.tmp rfl) (fun _ _ g => g) (fun _ _ _ => List.nil_sublist _)
                · rw [if_neg (ne_true_of_eq_false hc)] at h
                  refine r_skip ?_
                  refine r_inblock ?_
                  refine r_then ?_
                  refine r_region ?_
                  refine r_pure tabOk 2 [10, 12, 13, 15, 79, 80, 81, 101, 102, 103] (E' := [(10, ptr b6 0), (12, ptr b11 0), (13, .one (.raw (.slice none 0 0)) (.slice (some ⟨b51, 0, none⟩) (List.length [a3, a1.2.2.2.2.2.2.2.2.2.2.1, ((List.length a1.2.2.2.2.1 : Int), a1.2.2.2.2.2.2.2.2.2.1.2.1, ()), (a1.2.2.2.2.2.2.2.2.2.2.1.1, a1.2.2.2.2.2.2.2.2.2.1.2.1, ()), a1.2.2.2.2.2.2.2.2.2.2.2.1]) c52)), (15, .one (.int .i64) i33), (79, .one (.raw (.slice none 0 0)) (.slice (some ⟨b31, 0, none⟩) (List.length [a2, a1.2.2.2.2.2.2.1, (IntKind.wrap .i64 (a1.2.2.2.2.2.2.1 - 1)), a1.2.2.2.2.2.2.2.1, (IntKind.wrap .i64 (a1.2.2.2.2.2.2.2.1 + 1)), a1.2.2.2.2.2.2.2.2.1, a0, (IntKind.wrap .i64 (a0 + 1)), a1.2.2.2.2.2.2.2.2.2.2.2.2.2.2.2.2.2.1, 0, 1, (-1)]) c32)), (80, .one (.int .i64) (List.length [a2, a1.2.2.2.2.2.2.1, (IntKind.wrap .i64 (a1.2.2.2.2.2.2.1 - 1)), a1.2.2.2.2.2.2.2.1, (IntKind.wrap .i64 (a1.2.2.2.2.2.2.2.1 + 1)), a1.2.2.2.2.2.2.2.2.1, a0, (IntKind.wrap .i64 (a0 + 1)), a1.2.2.2.2.2.2.2.2.2.2.2.2.2.2.2.2.2.1, 0, 1, (-1)] : Int)), (81, .one (.int .i64) s25), (101, .one (.raw (.slice none 0 0)) (.slice (some ⟨b51, 0, none⟩) (List.length [a3, a1.2.2.2.2.2.2.2.2.2.2.1, ((List.length a1.2.2.2.2.1 : Int), a1.2.2.2.2.2.2.2.2.2.1.2.1, ()), (a1.2.2.2.2.2.2.2.2.2.2.1.1, a1.2.2.2.2.2.2.2.2.2.1.2.1, ()), a1.2.2.2.2.2.2.2.2.2.2.2.1]) c52)), (102, .one (.int .i64) (List.length [a3, a1.2.2.2.2.2.2.2.2.2.2.1, ((List.length a1.2.2.2.2.1 : Int), a1.2.2.2.2.2.2.2.2.2.1.2.1, ()), (a1.2.2.2.2.2.2.2.2.2.2.1.1, a1.2.2.2.2.2.2.2.2.2.1.2.1, ()), a1.2.2.2.2.2.2.2.2.2.2.2.1] : Int)), (103, .one (.int .i64) (IntKind.wrap .i64 (s47 + 1)))]) rfl ?_
                  refine r_nil ?_
                  refine r_then ?_
                  refine r_less [10, 12, 13, 15, 79, 80, 81, 101, 102, 103] rfl ?_
                  refine r_lose (L' := [Res.own (.slice (some ⟨b31, 0, none⟩) (List.length [a2, a1.2.2.2.2.2.2.1, (IntKind.wrap .i64 (a1.2.2.2.2.2.2.1 - 1)), a1.2.2.2.2.2.2.2.1, (IntKind.wrap .i64 (a1.2.2.2.2.2.2.2.1 + 1)), a1.2.2.2.2.2.2.2.2.1, a0, (IntKind.wrap .i64 (a0 + 1)), a1.2.2.2.2.2.2.2.2.2.2.2.2.2.2.2.2.2.1, 0, 1, (-1)]) c32) 2 (.int .i64) [a2, a1.2.2.2.2.2.2.1, (IntKind.wrap .i64 (a1.2.2.2.2.2.2.1 - 1)), a1.2.2.2.2.2.2.2.1, (IntKind.wrap .i64 (a1.2.2.2.2.2.2.2.1 + 1)), a1.2.2.2.2.2.2.2.2.1, a0, (IntKind.wrap .i64 (a0 + 1)), a1.2.2.2.2.2.2.2.2.2.2.2.2.2.2.2.2.2.1, 0, 1, (-1)], Res.own (.slice (some ⟨b51, 0, none⟩) (List.length [a3, a1.2.2.2.2.2.2.2.2.2.2.1, ((List.length a1.2.2.2.2.1 : Int), a1.2.2.2.2.2.2.2.2.2.1.2.1, ()), (a1.2.2.2.2.2.2.2.2.2.2.1.1, a1.2.2.2.2.2.2.2.2.2.1.2.1, ()), a1.2.2.2.2.2.2.2.2.2.2.2.1]) c52) 24 Y24 [a3, a1.2.2.2.2.2.2.2.2.2.2.1, ((List.length a1.2.2.2.2.1 : Int), a1.2.2.2.2.2.2.2.2.2.1.2.1, ()), (a1.2.2.2.2.2.2.2.2.2.2.1.1, a1.2.2.2.2.2.2.2.2.2.1.2.1, ()), a1.2.2.2.2.2.2.2.2.2.2.2.1], Res.var b11 37 Y37 r10, Res.var b6 32 Y32 r5, Res.own g9 35 Y35 o8, Res.var b3 30 (.pair (.int .i64) (.pair (.int .i64) (.pair (.int .i64) (.pair (.int .i64) (.pair (.raw (.slice none 0 0)) (.pair (.sl 35 Y35) (.pair (.int .i64) (.pair (.int .i64) (.pair (.int .i64) (.pair Y24 (.pair Y24 (.pair Y24 (.pair .bool (.pair (.arr 2 (.arr 32 (.int .u8))) (.pair (.arr 32 (.int .u8)) (.pair (.sl 65 Y65) (.pair (.int .i64) (.pair (.int .i64) .unit)))))))))))))))))) ((a1).1, (a1).2.1, (a1).2.2.1, (a1).2.2.2.1, g9, (a1).2.2.2.2.2), Res.var b2 24 Y24 a3, Res.var b1 30 Y30 a1]) (.cons _ (.cons_cons _ (.cons_cons _ (.cons_cons _ (.cons_cons _ (.cons_cons _ (.cons_cons _ (.cons_cons _ (.cons_cons _ .slnil))))))))) ?_
                  exact r_backg (IntKind.wrap .i64 (s47 + 1)) (.slice (some ⟨b51, 0, none⟩) (List.length [a3, a1.2.2.2.2.2.2.2.2.2.2.1, ((List.length a1.2.2.2.2.1 : Int), a1.2.2.2.2.2.2.2.2.2.1.2.1, ()), (a1.2.2.2.2.2.2.2.2.2.2.1.1, a1.2.2.2.2.2.2.2.2.2.1.2.1, ()), a1.2.2.2.2.2.2.2.2.2.2.2.1]) c52) (Nat.lt_succ_self _) h rfl rfl
              · rw [if_neg (ne_true_of_eq_false hc)] at h
                refine r_exit ?_
                refine e_then ?_
                refine e_then ?_
                refine e_eq ?_
                refine r_then ?_
                refine r_less [10, 12, 13, 79, 80, 81] rfl ?_
                exact r_meetk () g48 h rfl rfl
            · intro o42 g43 h
              rw [← hk41] at h
              try dsimp only at h
              refine r_inblock ?_
              refine r_then ?_
              refine r_region ?_
              refine r_pure tabOk 2 [10, 12, 13, 79, 80, 81] (E' := [(10, ptr b6 0), (12, ptr b11 0), (13, .one (.raw (.slice none 0 0)) g43), (79, .one (.raw (.slice none 0 0)) (.slice (some ⟨b31, 0, none⟩) (List.length [a2, a1.2.2.2.2.2.2.1, (IntKind.wrap .i64 (a1.2.2.2.2.2.2.1 - 1)), a1.2.2.2.2.2.2.2.1, (IntKind.wrap .i64 (a1.2.2.2.2.2.2.2.1 + 1)), a1.2.2.2.2.2.2.2.2.1, a0, (IntKind.wrap .i64 (a0 + 1)), a1.2.2.2.2.2.2.2.2.2.2.2.2.2.2.2.2.2.1, 0, 1, (-1)]) c32)), (80, .one (.int .i64) (List.length [a2, a1.2.2.2.2.2.2.1, (IntKind.wrap .i64 (a1.2.2.2.2.2.2.1 - 1)), a1.2.2.2.2.2.2.2.1, (IntKind.wrap .i64 (a1.2.2.2.2.2.2.2.1 + 1)), a1.2.2.2.2.2.2.2.2.1, a0, (IntKind.wrap .i64 (a0 + 1)), a1.2.2.2.2.2.2.2.2.2.2.2.2.2.2.2.2.2.1, 0, 1, (-1)] : Int)), (81, .one (.int .i64) (IntKind.wrap .i64 (s25 + 1)))]) rfl ?_
              refine r_nil ?_
              refine r_then ?_
              refine r_less [10, 12, 13, 79, 80, 81] rfl ?_
              exact r_backg (IntKind.wrap .i64 (s25 + 1)) ((.slice (some ⟨b31, 0, none⟩) (List.length [a2, a1.2.2.2.2.2.2.1, (IntKind.wrap .i64 (a1.2.2.2.2.2.2.1 - 1)), a1.2.2.2.2.2.2.2.1, (IntKind.wrap .i64 (a1.2.2.2.2.2.2.2.1 + 1)), a1.2.2.2.2.2.2.2.2.1, a0, (IntKind.wrap .i64 (a0 + 1)), a1.2.2.2.2.2.2.2.2.2.2.2.2.2.2.2.2.2.1, 0, 1, (-1)]) c32), g43) (Nat.lt_succ_self _) h rfl rfl
      · rw [if_neg (ne_true_of_eq_false hc)] at h
        refine r_exit ?_
        refine e_then ?_
        refine e_then ?_
        refine e_eq ?_
        refine r_then ?_
        refine r_less [] rfl ?_
        exact r_meetk [a2, a1.2.2.2.2.2.2.1, (IntKind.wrap .i64 (a1.2.2.2.2.2.2.1 - 1)), a1.2.2.2.2.2.2.2.1, (IntKind.wrap .i64 (a1.2.2.2.2.2.2.2.1 + 1)), a1.2.2.2.2.2.2.2.2.1, a0, (IntKind.wrap .i64 (a0 + 1)), a1.2.2.2.2.2.2.2.2.2.2.2.2.2.2.2.2.2.1, 0, 1, (-1)] (g28.1, g28.2) h rfl rfl
    · intro o14 g17 h
      rw [← hk13] at h
      try dsimp only at h
      refine r_seq ?_
      refine r_region ?_
      obtain ⟨r18, hr18, h⟩ := bind_ex h
      refine r_calls (escrowlaw20_first_ok  _ hr18) (by kernel_rfl) rfl rfl ?_
      refine r_pure tabOk 1 [8] (E' := [(8, .one .bool r18)]) rfl ?_
      refine r_nil ?_
      refine r_then ?_
      refine r_ret ?_
      obtain rfl := Option.some.inj h
      exact r_ret1 rfl (.tmp rfl) (fun _ _ g => g) (fun _ _ _ => List.nil_sublist _)
end Sx
