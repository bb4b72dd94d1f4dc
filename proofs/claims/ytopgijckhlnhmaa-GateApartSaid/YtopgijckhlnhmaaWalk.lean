/-
  Own work, printed by a program of the same hand. Each function of the code answers what its plain twin reckons.
-/
import Derived.Test.YtopgijckhlnhmaaProg
import Derived.Test.YtopgijckhlnhmaaDefs
import Derived.KernelRfl
namespace Sx
open Go Go.Proofs
set_option maxRecDepth 10000

abbrev Y35 : T := (.pair (.int .i64) (.pair (.int .i64) (.pair (.int .i64) (.pair (.arr 32 (.int .u8)) (.pair .str .unit)))))
abbrev Y24 : T := (.pair (.int .i64) (.pair (.int .i64) .unit))
abbrev Y65 : T := (.pair (.int .i64) (.pair (.arr 32 (.int .u8)) (.pair .bool .unit)))
abbrev Y30 : T := (.pair (.int .i64) (.pair (.int .i64) (.pair (.int .i64) (.pair (.int .i64) (.pair (.sl 35 Y35) (.pair (.sl 35 Y35) (.pair (.int .i64) (.pair (.int .i64) (.pair (.int .i64) (.pair Y24 (.pair Y24 (.pair Y24 (.pair .bool (.pair (.arr 2 (.arr 32 (.int .u8))) (.pair (.arr 32 (.int .u8)) (.pair (.sl 65 Y65) (.pair (.int .i64) (.pair (.int .i64) .unit))))))))))))))))))
abbrev Y32 : T := (.pair (.int .i64) (.pair (.int .i64) (.pair (.int .i64) (.pair (.int .i64) (.pair (.int .i64) (.pair Y24 (.pair (.int .i64) (.pair (.int .i64) (.pair (.int .i64) .unit)))))))))
theorem ty2 : tyChk Try.prog (.int .i64) 2 = true := by kernel_rfl
theorem ty3 : tyChk Try.prog (.int .i64) 3 = true := by kernel_rfl
theorem ty22 : tyChk Try.prog (.sl 35 Y35) 22 = true := by kernel_rfl
theorem ty24 : tyChk Try.prog Y24 24 = true := by kernel_rfl
theorem ty30 : tyChk Try.prog Y30 30 = true := by kernel_rfl
theorem ty32 : tyChk Try.prog Y32 32 = true := by kernel_rfl
theorem zf24 : (Try.prog.info? 24).bind (·.zero) = some (mk Y24 (zc Y24)) := by kernel_rfl
theorem zf30 : (Try.prog.info? 30).bind (·.zero) = some (mk Y30 (zc Y30)) := by kernel_rfl
theorem zf32 : (Try.prog.info? 32).bind (·.zero) = some (mk Y32 (zc Y32)) := by kernel_rfl
theorem zf35 : (Try.prog.info? 35).bind (·.zero) = some (mk Y35 (zc Y35)) := by kernel_rfl
theorem el35 : elemChk Try.prog Y35 35 72 = true := by kernel_rfl
theorem kt24 : Try.prog.keyTypeAt 20 24 = true := by kernel_rfl
theorem eg24 : Try.prog.eqGuardType Try.prog.depth 24 = false := by kernel_rfl
def tab : Tab := { ints := [], strs := [], slices := [(22, 35)], arrs := [], offs := [(24, [0, 1]), (30, [0, 1, 2, 3, 4, 5, 6, 7, 8, 9, 11, 13, 15, 16, 80, 112, 113, 114]), (32, [0, 1, 2, 3, 4, 5, 7, 8, 9])] }
theorem tabOk : tab.chk Try.prog = true := by kernel_rfl

theorem gate_Of_ok (a0 : Int) (a1 : Int × Int × Int × Int × (List (Int × Int × Int × List (Int) × List Int × Unit)) × (List (Int × Int × Int × List (Int) × List Int × Unit)) × Int × Int × Int × (Int × Int × Unit) × (Int × Int × Unit) × (Int × Int × Unit) × Bool × List (List (Int)) × List (Int) × (List (Int × List (Int) × Bool × Unit)) × Int × Int × Unit) (r : (Int × Int × Int × Int × Int × (Int × Int × Unit) × Int × Int × Int × Unit)) (h : gate_Of a0 a1 = some r) : Pure Try.prog 6 [.one (.int .i64) a0, .one Y30 a1] (.one Y32 r) := by
  unfold gate_Of at h
  refine enter Try.func6 rfl 25 rfl rfl fun F => ?_
  refine r_seq ?_
  refine r_region ?_
  refine r_box rfl rfl fun b1 => ?_
  refine r_alloc (t := Y32) rfl zf32 rfl fun b3 => ?_
  refine r_nil ?_
  refine r_then ?_
  refine r_seq ?_
  refine r_region ?_
  refine r_pure tabOk 2 [3, 4, 5, 6] (E' := [(3, ptr b1 0), (4, ptr b3 0), (5, .one (.int .i64) a0), (6, ptr b1 6)]) rfl ?_
  refine y (y_load 1 ((.snd (.snd (.snd (.snd (.snd (.snd (.fst .here)))))))) rfl rfl (by first | rfl | (simp only [Pth.off, T.size]; omega)) (ok_snd (ok_snd (ok_snd (ok_snd (ok_snd (ok_snd (ok_fst ok_here))))))) ty2) rfl ?_
  refine r_pure tabOk 1 [3, 4, 5, 7, 8] (E' := [(3, ptr b1 0), (4, ptr b3 0), (5, .one (.int .i64) a0), (7, .one (.int .i64) a1.2.2.2.2.2.2.1), (8, ptr b1 7)]) rfl ?_
  refine y (y_load 1 ((.snd (.snd (.snd (.snd (.snd (.snd (.snd (.fst .here))))))))) rfl rfl (by first | rfl | (simp only [Pth.off, T.size]; omega)) (ok_snd (ok_snd (ok_snd (ok_snd (ok_snd (ok_snd (ok_snd (ok_fst ok_here)))))))) ty2) rfl ?_
  refine r_pure tabOk 1 [3, 4, 5, 7, 9, 10] (E' := [(3, ptr b1 0), (4, ptr b3 0), (5, .one (.int .i64) a0), (7, .one (.int .i64) a1.2.2.2.2.2.2.1), (9, .one (.int .i64) a1.2.2.2.2.2.2.2.1), (10, ptr b1 8)]) rfl ?_
  refine y (y_load 1 ((.snd (.snd (.snd (.snd (.snd (.snd (.snd (.snd (.fst .here)))))))))) rfl rfl (by first | rfl | (simp only [Pth.off, T.size]; omega)) (ok_snd (ok_snd (ok_snd (ok_snd (ok_snd (ok_snd (ok_snd (ok_snd (ok_fst ok_here))))))))) ty2) rfl ?_
  refine r_pure tabOk 2 [3, 4, 5, 7, 9, 11, 13] (E' := [(3, ptr b1 0), (4, ptr b3 0), (5, .one (.int .i64) a0), (7, .one (.int .i64) a1.2.2.2.2.2.2.1), (9, .one (.int .i64) a1.2.2.2.2.2.2.2.1), (11, .one (.int .i64) a1.2.2.2.2.2.2.2.2.1), (13, ptr b1 10)]) rfl ?_
  refine y (y_load 1 ((.snd (.snd (.snd (.snd (.snd (.snd (.snd (.snd (.snd (.fst ((.snd (.fst .here)))))))))))))) rfl rfl (by first | rfl | (simp only [Pth.off, T.size]; omega)) (ok_snd (ok_snd (ok_snd (ok_snd (ok_snd (ok_snd (ok_snd (ok_snd (ok_snd (ok_fst (ok_snd (ok_fst ok_here)))))))))))) ty3) rfl ?_
  refine r_pure tabOk 1 [3, 4, 5, 7, 9, 11, 14, 15] (E' := [(3, ptr b1 0), (4, ptr b3 0), (5, .one (.int .i64) a0), (7, .one (.int .i64) a1.2.2.2.2.2.2.1), (9, .one (.int .i64) a1.2.2.2.2.2.2.2.1), (11, .one (.int .i64) a1.2.2.2.2.2.2.2.2.1), (14, .one (.int .i64) a1.2.2.2.2.2.2.2.2.2.1.2.1), (15, ptr b1 11)]) rfl ?_
  refine y (y_load 1 ((.snd (.snd (.snd (.snd (.snd (.snd (.snd (.snd (.snd (.snd (.fst .here)))))))))))) rfl rfl (by first | rfl | (simp only [Pth.off, T.size]; omega)) (ok_snd (ok_snd (ok_snd (ok_snd (ok_snd (ok_snd (ok_snd (ok_snd (ok_snd (ok_snd (ok_fst ok_here))))))))))) ty24) rfl ?_
  refine r_pure tabOk 1 [3, 4, 5, 7, 9, 11, 14, 16, 17] (E' := [(3, ptr b1 0), (4, ptr b3 0), (5, .one (.int .i64) a0), (7, .one (.int .i64) a1.2.2.2.2.2.2.1), (9, .one (.int .i64) a1.2.2.2.2.2.2.2.1), (11, .one (.int .i64) a1.2.2.2.2.2.2.2.2.1), (14, .one (.int .i64) a1.2.2.2.2.2.2.2.2.2.1.2.1), (16, .one Y24 a1.2.2.2.2.2.2.2.2.2.2.1), (17, ptr b1 4)]) rfl ?_
  refine y (y_load 1 ((.snd (.snd (.snd (.snd (.fst .here)))))) rfl rfl (by first | rfl | (simp only [Pth.off, T.size]; omega)) (ok_snd (ok_snd (ok_snd (ok_snd (ok_fst ok_here))))) ty22) rfl ?_
  refine r_pure tabOk 2 [3, 4, 5, 7, 9, 11, 14, 16, 19, 20] (E' := [(3, ptr b1 0), (4, ptr b3 0), (5, .one (.int .i64) a0), (7, .one (.int .i64) a1.2.2.2.2.2.2.1), (9, .one (.int .i64) a1.2.2.2.2.2.2.2.1), (11, .one (.int .i64) a1.2.2.2.2.2.2.2.2.1), (14, .one (.int .i64) a1.2.2.2.2.2.2.2.2.2.1.2.1), (16, .one Y24 a1.2.2.2.2.2.2.2.2.2.2.1), (19, .one (.int .i64) (List.length a1.2.2.2.2.1 : Int)), (20, ptr b1 113)]) rfl ?_
  refine y (y_load 1 ((.snd (.snd (.snd (.snd (.snd (.snd (.snd (.snd (.snd (.snd (.snd (.snd (.snd (.snd (.snd (.snd (.fst .here)))))))))))))))))) rfl rfl (by first | rfl | (simp only [Pth.off, T.size]; omega)) (ok_snd (ok_snd (ok_snd (ok_snd (ok_snd (ok_snd (ok_snd (ok_snd (ok_snd (ok_snd (ok_snd (ok_snd (ok_snd (ok_snd (ok_snd (ok_snd (ok_fst ok_here))))))))))))))))) ty3) rfl ?_
  refine r_pure tabOk 1 [4, 5, 7, 9, 11, 14, 16, 19, 21, 22] (E' := [(4, ptr b3 0), (5, .one (.int .i64) a0), (7, .one (.int .i64) a1.2.2.2.2.2.2.1), (9, .one (.int .i64) a1.2.2.2.2.2.2.2.1), (11, .one (.int .i64) a1.2.2.2.2.2.2.2.2.1), (14, .one (.int .i64) a1.2.2.2.2.2.2.2.2.2.1.2.1), (16, .one Y24 a1.2.2.2.2.2.2.2.2.2.2.1), (19, .one (.int .i64) (List.length a1.2.2.2.2.1 : Int)), (21, .one (.int .i64) a1.2.2.2.2.2.2.2.2.2.2.2.2.2.2.2.2.1), (22, ptr b1 114)]) rfl ?_
  refine y (y_load 1 ((.snd (.snd (.snd (.snd (.snd (.snd (.snd (.snd (.snd (.snd (.snd (.snd (.snd (.snd (.snd (.snd (.snd (.fst .here))))))))))))))))))) rfl rfl (by first | rfl | (simp only [Pth.off, T.size]; omega)) (ok_snd (ok_snd (ok_snd (ok_snd (ok_snd (ok_snd (ok_snd (ok_snd (ok_snd (ok_snd (ok_snd (ok_snd (ok_snd (ok_snd (ok_snd (ok_snd (ok_snd (ok_fst ok_here)))))))))))))))))) ty2) rfl ?_
  refine y (y_build rfl zf32 rfl rfl (.cons ((.fst .here)) rfl rfl ok_here (.cons ((.snd (.fst .here))) rfl rfl ok_here (.cons ((.snd (.snd (.fst .here)))) rfl rfl ok_here (.cons ((.snd (.snd (.snd (.fst .here))))) rfl rfl ok_here (.cons ((.snd (.snd (.snd (.snd (.fst .here)))))) rfl rfl ok_here (.cons ((.snd (.snd (.snd (.snd (.snd (.fst .here))))))) rfl rfl ok_here (.cons ((.snd (.snd (.snd (.snd (.snd (.snd (.fst .here)))))))) rfl rfl ok_here (.cons ((.snd (.snd (.snd (.snd (.snd (.snd (.snd (.fst .here))))))))) rfl rfl ok_here (.cons ((.snd (.snd (.snd (.snd (.snd (.snd (.snd (.snd (.fst .here)))))))))) rfl rfl ok_here .nil)))))))))) rfl ?_
  refine r_store 0 .here rfl rfl rfl (by first | rfl | (simp only [Pth.off, T.size]; omega)) ok_here ty32 ?_
  refine r_nil ?_
  refine r_then ?_
  refine r_ret ?_
  obtain rfl := Option.some.inj h
  exact r_ret1 rfl (.cell 0 .here rfl rfl (by first | rfl | (simp only [Pth.off, T.size]; omega)) ok_here ty32) (fun _ _ g => g) (fun _ _ _ => List.nil_sublist _)

theorem escrowlaw20_example_ok  (r : (Int × Int × Int × Int × (List (Int × Int × Int × List (Int) × List Int × Unit)) × (List (Int × Int × Int × List (Int) × List Int × Unit)) × Int × Int × Int × (Int × Int × Unit) × (Int × Int × Unit) × (Int × Int × Unit) × Bool × List (List (Int)) × List (Int) × (List (Int × List (Int) × Bool × Unit)) × Int × Int × Unit)) (h : escrowlaw20_example  = some r) : Pure Try.prog 17 [] (.one Y30 r) := by
  unfold escrowlaw20_example at h
  refine enter Try.func17 rfl 5 rfl rfl fun F => ?_
  refine r_seq ?_
  refine r_region ?_
  refine r_alloc (t := Y30) rfl zf30 rfl fun b1 => ?_
  refine r_nil ?_
  refine r_then ?_
  refine r_seq ?_
  refine r_region ?_
  refine y (y_build rfl zf24 rfl rfl (.cons ((.fst .here)) rfl rfl ok_here (.cons ((.snd (.fst .here))) rfl rfl ok_here .nil))) rfl ?_
  refine y (y_build rfl zf24 rfl rfl (.cons ((.fst .here)) rfl rfl ok_here (.cons ((.snd (.fst .here))) rfl rfl ok_here .nil))) rfl ?_
  obtain ⟨hc, h⟩ := ite_ex h
  refine r_make (B := 72) tabOk rfl el35 rfl zf35 rfl rfl rfl hc.1 hc.2 rfl fun v3 => ?_
  refine r_freeze (i := 0) (k := 3) rfl rfl ?_
  refine y (y_build rfl zf30 rfl rfl (.cons ((.snd (.snd (.snd (.snd (.snd (.snd (.fst .here)))))))) rfl rfl ok_here (.cons ((.snd (.snd (.snd (.snd (.snd (.snd (.snd (.fst .here))))))))) rfl rfl ok_here (.cons ((.snd (.snd (.snd (.snd (.snd (.snd (.snd (.snd (.fst .here)))))))))) rfl rfl ok_here (.cons ((.snd (.snd (.snd (.snd (.snd (.snd (.snd (.snd (.snd (.fst .here))))))))))) rfl rfl ok_here (.cons ((.snd (.snd (.snd (.snd (.snd (.snd (.snd (.snd (.snd (.snd (.fst .here)))))))))))) rfl rfl ok_here (.cons ((.snd (.snd (.snd (.snd (.fst .here)))))) rfl rfl ok_here (.cons ((.snd (.snd (.snd (.snd (.snd (.snd (.snd (.snd (.snd (.snd (.snd (.snd (.snd (.snd (.snd (.snd (.snd (.fst .here))))))))))))))))))) rfl rfl ok_here .nil)))))))) rfl ?_
  refine r_store 0 .here rfl rfl rfl (by first | rfl | (simp only [Pth.off, T.size]; omega)) ok_here ty30 ?_
  refine r_nil ?_
  refine r_then ?_
  refine r_ret ?_
  obtain rfl := Option.some.inj h
  exact r_ret1 rfl (.cell 0 .here rfl rfl (by first | rfl | (simp only [Pth.off, T.size]; omega)) ok_here ty30) (fun _ _ g => g) (fun _ _ _ => List.nil_sublist _)

theorem gate_Gate_MayBroadcast_ok (a0 : Int × Int × Int × Int × Int × (Int × Int × Unit) × Int × Int × Int × Unit) (a1 : Int) (r : Bool) (h : gate_Gate_MayBroadcast a0 a1 = some r) : Pure Try.prog 10 [.one Y32 a0, .one (.int .i64) a1] (.one .bool r) := by
  unfold gate_Gate_MayBroadcast at h
  refine enter Try.func10 rfl 35 rfl rfl fun F => ?_
  refine r_seq ?_
  refine r_region ?_
  refine r_box rfl rfl fun b1 => ?_
  refine r_pure tabOk 1 [1, 2] (E' := [(1, .one (.int .i64) a1), (2, ptr b1 0)]) rfl ?_
  refine r_nil ?_
  refine r_then ?_
  refine r_seq ?_
  refine r_region ?_
  refine r_pure tabOk 2 [1, 2, 5, 6] (E' := [(1, .one (.int .i64) a1), (2, ptr b1 0), (5, .one (.int .i64) a1), (6, ptr b1 1)]) rfl ?_
  refine y (y_load 0 ((.snd (.fst .here))) rfl rfl (by first | rfl | (simp only [Pth.off, T.size]; omega)) (ok_snd (ok_fst ok_here)) ty2) rfl ?_
  refine r_pure tabOk 2 [1, 2, 9] (E' := [(1, .one (.int .i64) a1), (2, ptr b1 0), (9, .one .bool (a1 == a0.2.1))]) rfl ?_
  obtain ⟨b3, hbb3, h⟩ := bnd_ex h
  rw [hbb3]
  refine r_lsplit (γ := Unit) 3 (fun _ => [(1, .one (.int .i64) a1), (2, ptr b1 0), (12, .one .bool (b3 && (decide (a1 ≥ 0))))]) (fun _ => [Res.var b1 32 Y32 a0]) ?_ (fun _ => ?_)
  · clear h
    cases b3 with
    | true =>
    refine r_pure tabOk 3 [1, 2, 12] (E' := [(1, .one (.int .i64) a1), (2, ptr b1 0), (12, .one .bool (decide (a1 ≥ 0)))]) rfl ?_
    refine r_nil ?_
    refine r_then ?_
    exact r_meetg () rfl rfl
    | false =>
    refine r_pure tabOk 3 [1, 2, 12] (E' := [(1, .one (.int .i64) a1), (2, ptr b1 0), (12, .one .bool false)]) rfl ?_
    refine r_nil ?_
    refine r_then ?_
    exact r_meetg () rfl rfl
  refine r_pure tabOk 1 [1, 2, 13] (E' := [(1, .one (.int .i64) a1), (2, ptr b1 0), (13, .one .bool (b3 && (decide (a1 ≥ 0))))]) rfl ?_
  obtain ⟨b4, hbb4, h⟩ := bnd_ex h
  rw [hbb4]
  refine r_lsplit (γ := Unit) 5 (fun _ => [(1, .one (.int .i64) a1), (2, ptr b1 0), (18, .one .bool (b4 && (decide (a1 > a0.1))))]) (fun _ => [Res.var b1 32 Y32 a0]) ?_ (fun _ => ?_)
  · clear h
    cases b4 with
    | true =>
    refine r_pure tabOk 2 [1, 2, 13, 14, 15] (E' := [(1, .one (.int .i64) a1), (2, ptr b1 0), (13, .one .bool true), (14, .one (.int .i64) a1), (15, ptr b1 0)]) rfl ?_
    refine r_guard (by rfl) rfl ?_
    refine y (y_load 0 ((.fst .here)) rfl rfl (by first | rfl | (simp only [Pth.off, T.size]; omega)) (ok_fst ok_here) ty2) rfl ?_
    refine r_pure tabOk 2 [1, 2, 18] (E' := [(1, .one (.int .i64) a1), (2, ptr b1 0), (18, .one .bool (decide (a1 > a0.1)))]) rfl ?_
    refine r_nil ?_
    refine r_then ?_
    exact r_meetg () rfl rfl
    | false =>
    refine r_pure tabOk 5 [1, 2, 18] (E' := [(1, .one (.int .i64) a1), (2, ptr b1 0), (18, .one .bool false)]) rfl ?_
    refine r_nil ?_
    refine r_then ?_
    exact r_meetg () rfl rfl
  refine r_pure tabOk 1 [1, 2, 19] (E' := [(1, .one (.int .i64) a1), (2, ptr b1 0), (19, .one .bool (b4 && (decide (a1 > a0.1))))]) rfl ?_
  obtain ⟨b5, hbb5, h⟩ := bnd_ex h
  rw [hbb5]
  refine r_lsplit (γ := Unit) 4 (fun _ => [(1, .one (.int .i64) a1), (2, ptr b1 0), (23, .one .bool (b5 && (a0.2.2.2.2.2.2.2.1 != 180)))]) (fun _ => [Res.var b1 32 Y32 a0]) ?_ (fun _ => ?_)
  · clear h
    cases b5 with
    | true =>
    refine r_pure tabOk 1 [1, 2, 19, 20] (E' := [(1, .one (.int .i64) a1), (2, ptr b1 0), (19, .one .bool true), (20, ptr b1 8)]) rfl ?_
    refine r_guard (by rfl) rfl ?_
    refine y (y_load 0 ((.snd (.snd (.snd (.snd (.snd (.snd (.snd (.fst .here))))))))) rfl rfl (by first | rfl | (simp only [Pth.off, T.size]; omega)) (ok_snd (ok_snd (ok_snd (ok_snd (ok_snd (ok_snd (ok_snd (ok_fst ok_here)))))))) ty3) rfl ?_
    refine r_pure tabOk 2 [1, 2, 23] (E' := [(1, .one (.int .i64) a1), (2, ptr b1 0), (23, .one .bool (a0.2.2.2.2.2.2.2.1 != 180))]) rfl ?_
    refine r_nil ?_
    refine r_then ?_
    exact r_meetg () rfl rfl
    | false =>
    refine r_pure tabOk 4 [1, 2, 23] (E' := [(1, .one (.int .i64) a1), (2, ptr b1 0), (23, .one .bool false)]) rfl ?_
    refine r_nil ?_
    refine r_then ?_
    exact r_meetg () rfl rfl
  refine r_pure tabOk 1 [1, 2, 24] (E' := [(1, .one (.int .i64) a1), (2, ptr b1 0), (24, .one .bool (b5 && (a0.2.2.2.2.2.2.2.1 != 180)))]) rfl ?_
  obtain ⟨b6, hbb6, h⟩ := bnd_ex h
  rw [hbb6]
  obtain ⟨k7, hk7, h⟩ := bnd_ex h
  refine r_lsplitk (γ := Unit) 10 (fun (o8 : Bool) _ => [(34, .one .bool o8)]) (fun _ _ => [Res.var b1 32 Y32 a0]) k7 r ?_ ?_
  · rcases Bool.eq_false_or_eq_true b6 with hh | hh
    · rw [hh] at h ⊢
      rw [if_pos rfl] at h
      refine r_pure tabOk 1 [1, 2, 24, 25] (E' := [(1, .one (.int .i64) a1), (2, ptr b1 0), (24, .one .bool true), (25, ptr b1 9)]) rfl ?_
      refine r_guard (by rfl) rfl ?_
      refine y (y_load 0 ((.snd (.snd (.snd (.snd (.snd (.snd (.snd (.snd (.fst .here)))))))))) rfl rfl (by first | rfl | (simp only [Pth.off, T.size]; omega)) (ok_snd (ok_snd (ok_snd (ok_snd (ok_snd (ok_snd (ok_snd (ok_snd (ok_fst ok_here))))))))) ty2) rfl ?_
      refine r_pure tabOk 2 [1, 2, 24, 28] (E' := [(1, .one (.int .i64) a1), (2, ptr b1 0), (24, .one .bool true), (28, .one .bool (a0.2.2.2.2.2.2.2.2.1 == (-1)))]) rfl ?_
      obtain ⟨b9, hbb9, h⟩ := bnd_ex h
      rw [hbb9]
      refine r_lsplit (γ := Unit) 5 (fun _ => [(24, .one .bool true), (33, .one .bool (b9 || (a0.2.2.2.2.2.2.2.2.1 == a1)))]) (fun _ => [Res.var b1 32 Y32 a0]) ?_ (fun _ => ?_)
      · clear h
        cases b9 with
        | true =>
        refine r_pure tabOk 5 [24, 33] (E' := [(24, .one .bool true), (33, .one .bool true)]) rfl ?_
        refine r_nil ?_
        refine r_then ?_
        exact r_meetg () rfl rfl
        | false =>
        refine r_pure tabOk 1 [1, 24, 28, 29] (E' := [(1, .one (.int .i64) a1), (24, .one .bool true), (28, .one .bool false), (29, ptr b1 9)]) rfl ?_
        refine r_guard (by rfl) rfl ?_
        refine y (y_load 0 ((.snd (.snd (.snd (.snd (.snd (.snd (.snd (.snd (.fst .here)))))))))) rfl rfl (by first | rfl | (simp only [Pth.off, T.size]; omega)) (ok_snd (ok_snd (ok_snd (ok_snd (ok_snd (ok_snd (ok_snd (ok_snd (ok_fst ok_here))))))))) ty2) rfl ?_
        refine r_pure tabOk 3 [24, 33] (E' := [(24, .one .bool true), (33, .one .bool (a0.2.2.2.2.2.2.2.2.1 == a1))]) rfl ?_
        refine r_nil ?_
        refine r_then ?_
        exact r_meetg () rfl rfl
      refine r_pure tabOk 1 [34] (E' := [(34, .one .bool (b9 || (a0.2.2.2.2.2.2.2.2.1 == a1)))]) rfl ?_
      refine r_nil ?_
      refine r_less [34] rfl ?_
      refine r_then ?_
      exact r_meetk (b9 || (a0.2.2.2.2.2.2.2.2.1 == a1)) () h rfl rfl
    · rw [hh] at h ⊢
      rw [if_neg (by decide)] at h
      refine r_pure tabOk 10 [34] (E' := [(34, .one .bool false)]) rfl ?_
      refine r_nil ?_
      refine r_less [34] rfl ?_
      refine r_then ?_
      exact r_meetk false () h rfl rfl
  · intro o8 _ h
    rw [← hk7] at h
    try dsimp only at h
    refine r_pure tabOk 1 [4] (E' := [(4, .one .bool o8)]) rfl ?_
    refine r_nil ?_
    refine r_then ?_
    refine r_ret ?_
    obtain rfl := Option.some.inj h
    exact r_ret1 rfl (.tmp rfl) (fun _ _ g => g) (fun _ _ _ => List.nil_sublist _)

theorem gate_Gate_still_ok (a0 : Int × Int × Int × Int × Int × (Int × Int × Unit) × Int × Int × Int × Unit) (r : Bool) (h : gate_Gate_still a0 = some r) : Pure Try.prog 15 [.one Y32 a0] (.one .bool r) := by
  unfold gate_Gate_still at h
  refine enter Try.func15 rfl 11 rfl rfl fun F => ?_
  refine r_seq ?_
  refine r_region ?_
  refine r_box rfl rfl fun b1 => ?_
  refine r_pure tabOk 1 [1] (E' := [(1, ptr b1 0)]) rfl ?_
  refine r_nil ?_
  refine r_then ?_
  refine r_seq ?_
  refine r_region ?_
  refine r_pure tabOk 1 [1, 3] (E' := [(1, ptr b1 0), (3, ptr b1 8)]) rfl ?_
  refine y (y_load 0 ((.snd (.snd (.snd (.snd (.snd (.snd (.snd (.fst .here))))))))) rfl rfl (by first | rfl | (simp only [Pth.off, T.size]; omega)) (ok_snd (ok_snd (ok_snd (ok_snd (ok_snd (ok_snd (ok_snd (ok_fst ok_here)))))))) ty3) rfl ?_
  refine r_pure tabOk 2 [1, 6] (E' := [(1, ptr b1 0), (6, .one .bool (a0.2.2.2.2.2.2.2.1 == 0))]) rfl ?_
  obtain ⟨b3, hbb3, h⟩ := bnd_ex h
  rw [hbb3]
  refine r_lsplit (γ := Unit) 4 (fun _ => [(10, .one .bool (b3 && (a0.2.2.2.2.2.2.2.2.1 == (-1))))]) (fun _ => [Res.var b1 32 Y32 a0]) ?_ (fun _ => ?_)
  · clear h
    cases b3 with
    | true =>
    refine r_pure tabOk 1 [6, 7] (E' := [(6, .one .bool true), (7, ptr b1 9)]) rfl ?_
    refine r_guard (by rfl) rfl ?_
    refine y (y_load 0 ((.snd (.snd (.snd (.snd (.snd (.snd (.snd (.snd (.fst .here)))))))))) rfl rfl (by first | rfl | (simp only [Pth.off, T.size]; omega)) (ok_snd (ok_snd (ok_snd (ok_snd (ok_snd (ok_snd (ok_snd (ok_snd (ok_fst ok_here))))))))) ty2) rfl ?_
    refine r_pure tabOk 2 [10] (E' := [(10, .one .bool (a0.2.2.2.2.2.2.2.2.1 == (-1)))]) rfl ?_
    refine r_nil ?_
    refine r_then ?_
    exact r_meetg () rfl rfl
    | false =>
    refine r_pure tabOk 4 [10] (E' := [(10, .one .bool false)]) rfl ?_
    refine r_nil ?_
    refine r_then ?_
    exact r_meetg () rfl rfl
  refine r_pure tabOk 1 [2] (E' := [(2, .one .bool (b3 && (a0.2.2.2.2.2.2.2.2.1 == (-1))))]) rfl ?_
  refine r_nil ?_
  refine r_then ?_
  refine r_ret ?_
  obtain rfl := Option.some.inj h
  exact r_ret1 rfl (.tmp rfl) (fun _ _ g => g) (fun _ _ _ => List.nil_sublist _)

theorem gate_Gate_MaySend_ok (a0 : Int × Int × Int × Int × Int × (Int × Int × Unit) × Int × Int × Int × Unit) (a1 : Int) (r : Bool) (h : gate_Gate_MaySend a0 a1 = some r) : Pure Try.prog 8 [.one Y32 a0, .one (.int .i64) a1] (.one .bool r) := by
  unfold gate_Gate_MaySend at h
  refine enter Try.func8 rfl 23 rfl rfl fun F => ?_
  refine r_seq ?_
  refine r_region ?_
  refine r_box rfl rfl fun b1 => ?_
  refine r_pure tabOk 1 [1, 2] (E' := [(1, .one (.int .i64) a1), (2, ptr b1 0)]) rfl ?_
  refine r_nil ?_
  refine r_then ?_
  refine r_seq ?_
  refine r_region ?_
  refine y (y_load 0 .here rfl rfl (by first | rfl | (simp only [Pth.off, T.size]; omega)) ok_here ty32) rfl ?_
  obtain ⟨r3, hr3, h⟩ := bind_ex h
  refine r_calls (gate_Gate_still_ok a0 _ hr3) (by kernel_rfl) rfl rfl ?_
  refine r_pure tabOk 1 [1, 2, 7] (E' := [(1, .one (.int .i64) a1), (2, ptr b1 0), (7, .one .bool r3)]) rfl ?_
  refine r_lsplit (γ := Unit) 3 (fun _ => [(1, .one (.int .i64) a1), (2, ptr b1 0), (10, .one .bool (r3 && (decide (a1 ≥ 0))))]) (fun _ => [Res.var b1 32 Y32 a0]) ?_ (fun _ => ?_)
  · clear h
    rcases Bool.eq_false_or_eq_true r3 with hh | hh
    · rw [hh]
      refine r_pure tabOk 3 [1, 2, 10] (E' := [(1, .one (.int .i64) a1), (2, ptr b1 0), (10, .one .bool (decide (a1 ≥ 0)))]) rfl ?_
      refine r_nil ?_
      refine r_then ?_
      exact r_meetg () rfl rfl
    · rw [hh]
      refine r_pure tabOk 3 [1, 2, 10] (E' := [(1, .one (.int .i64) a1), (2, ptr b1 0), (10, .one .bool false)]) rfl ?_
      refine r_nil ?_
      refine r_then ?_
      exact r_meetg () rfl rfl
  refine r_pure tabOk 1 [1, 2, 11] (E' := [(1, .one (.int .i64) a1), (2, ptr b1 0), (11, .one .bool (r3 && (decide (a1 ≥ 0))))]) rfl ?_
  obtain ⟨b5, hbb5, h⟩ := bnd_ex h
  rw [hbb5]
  refine r_lsplit (γ := Unit) 5 (fun _ => [(1, .one (.int .i64) a1), (2, ptr b1 0), (16, .one .bool (b5 && (decide (a1 ≤ a0.1))))]) (fun _ => [Res.var b1 32 Y32 a0]) ?_ (fun _ => ?_)
  · clear h
    cases b5 with
    | true =>
    refine r_pure tabOk 2 [1, 2, 11, 12, 13] (E' := [(1, .one (.int .i64) a1), (2, ptr b1 0), (11, .one .bool true), (12, .one (.int .i64) a1), (13, ptr b1 0)]) rfl ?_
    refine r_guard (by rfl) rfl ?_
    refine y (y_load 0 ((.fst .here)) rfl rfl (by first | rfl | (simp only [Pth.off, T.size]; omega)) (ok_fst ok_here) ty2) rfl ?_
    refine r_pure tabOk 2 [1, 2, 16] (E' := [(1, .one (.int .i64) a1), (2, ptr b1 0), (16, .one .bool (decide (a1 ≤ a0.1)))]) rfl ?_
    refine r_nil ?_
    refine r_then ?_
    exact r_meetg () rfl rfl
    | false =>
    refine r_pure tabOk 5 [1, 2, 16] (E' := [(1, .one (.int .i64) a1), (2, ptr b1 0), (16, .one .bool false)]) rfl ?_
    refine r_nil ?_
    refine r_then ?_
    exact r_meetg () rfl rfl
  refine r_pure tabOk 1 [1, 2, 17] (E' := [(1, .one (.int .i64) a1), (2, ptr b1 0), (17, .one .bool (b5 && (decide (a1 ≤ a0.1))))]) rfl ?_
  obtain ⟨b6, hbb6, h⟩ := bnd_ex h
  rw [hbb6]
  refine r_lsplit (γ := Unit) 5 (fun _ => [(22, .one .bool (b6 && (decide (a1 < a0.2.1))))]) (fun _ => [Res.var b1 32 Y32 a0]) ?_ (fun _ => ?_)
  · clear h
    cases b6 with
    | true =>
    refine r_pure tabOk 2 [17, 18, 19] (E' := [(17, .one .bool true), (18, .one (.int .i64) a1), (19, ptr b1 1)]) rfl ?_
    refine r_guard (by rfl) rfl ?_
    refine y (y_load 0 ((.snd (.fst .here))) rfl rfl (by first | rfl | (simp only [Pth.off, T.size]; omega)) (ok_snd (ok_fst ok_here)) ty2) rfl ?_
    refine r_pure tabOk 2 [22] (E' := [(22, .one .bool (decide (a1 < a0.2.1)))]) rfl ?_
    refine r_nil ?_
    refine r_then ?_
    exact r_meetg () rfl rfl
    | false =>
    refine r_pure tabOk 5 [22] (E' := [(22, .one .bool false)]) rfl ?_
    refine r_nil ?_
    refine r_then ?_
    exact r_meetg () rfl rfl
  refine r_pure tabOk 1 [4] (E' := [(4, .one .bool (b6 && (decide (a1 < a0.2.1))))]) rfl ?_
  refine r_nil ?_
  refine r_then ?_
  refine r_ret ?_
  obtain rfl := Option.some.inj h
  exact r_ret1 rfl (.tmp rfl) (fun _ _ g => g) (fun _ _ _ => List.nil_sublist _)

theorem gate_Gate_MaySign_ok (a0 : Int × Int × Int × Int × Int × (Int × Int × Unit) × Int × Int × Int × Unit) (a1 : Int) (a2 : Int × Int × Unit) (r : Bool) (h : gate_Gate_MaySign a0 a1 a2 = some r) : Pure Try.prog 12 [.one Y32 a0, .one (.int .i64) a1, .one Y24 a2] (.one .bool r) := by
  unfold gate_Gate_MaySign at h
  refine enter Try.func12 rfl 64 rfl rfl fun F => ?_
  refine r_seq ?_
  refine r_region ?_
  refine r_box rfl rfl fun b1 => ?_
  refine r_box rfl rfl fun b3 => ?_
  refine r_pure tabOk 1 [1, 3, 5] (E' := [(1, .one (.int .i64) a1), (3, ptr b1 0), (5, ptr b3 0)]) rfl ?_
  refine r_nil ?_
  refine r_then ?_
  refine r_seq ?_
  refine r_seq ?_
  refine r_region ?_
  refine y (y_load 1 .here rfl rfl (by first | rfl | (simp only [Pth.off, T.size]; omega)) ok_here ty32) rfl ?_
  obtain ⟨r5, hr5, h⟩ := bind_ex h
  refine r_calls (gate_Gate_still_ok a0 _ hr5) (by kernel_rfl) rfl rfl ?_
  refine r_pure tabOk 2 [1, 3, 5, 10] (E' := [(1, .one (.int .i64) a1), (3, ptr b1 0), (5, ptr b3 0), (10, .one .bool (!r5))]) rfl ?_
  obtain ⟨b6, hbb6, h⟩ := bnd_ex h
  rw [hbb6]
  refine r_lsplit (γ := Unit) 3 (fun _ => [(1, .one (.int .i64) a1), (3, ptr b1 0), (5, ptr b3 0), (13, .one .bool (b6 || (decide (a1 < 1))))]) (fun _ => [Res.var b3 24 Y24 a2, Res.var b1 32 Y32 a0]) ?_ (fun _ => ?_)
  · clear h
    cases b6 with
    | true =>
    refine r_pure tabOk 3 [1, 3, 5, 13] (E' := [(1, .one (.int .i64) a1), (3, ptr b1 0), (5, ptr b3 0), (13, .one .bool true)]) rfl ?_
    refine r_nil ?_
    refine r_then ?_
    exact r_meetg () rfl rfl
    | false =>
    refine r_pure tabOk 3 [1, 3, 5, 13] (E' := [(1, .one (.int .i64) a1), (3, ptr b1 0), (5, ptr b3 0), (13, .one .bool (decide (a1 < 1)))]) rfl ?_
    refine r_nil ?_
    refine r_then ?_
    exact r_meetg () rfl rfl
  refine r_nil ?_
  refine r_then ?_
  refine r_if (b := (b6 || (decide (a1 < 1)))) rfl (fun hc => ?_) (fun hc => ?_)
  · rw [if_pos hc] at h
    refine r_seq ?_
    refine r_region ?_
    refine r_pure tabOk 1 [6] (E' := [(6, .one .bool false)]) rfl ?_
    refine r_nil ?_
    refine r_then ?_
    refine r_ret ?_
    refine t_then ?_
    obtain rfl := Option.some.inj h
    exact r_ret1 rfl (.tmp rfl) (fun _ _ g => g) (fun _ _ _ => List.nil_sublist _)
  · rw [if_neg (ne_true_of_eq_false hc)] at h
    refine r_skip ?_
    refine r_then ?_
    refine r_seq ?_
    refine r_seq ?_
    refine r_region ?_
    refine r_pure tabOk 2 [1, 3, 5, 14, 15] (E' := [(1, .one (.int .i64) a1), (3, ptr b1 0), (5, ptr b3 0), (14, .one (.int .i64) a1), (15, ptr b1 2)]) rfl ?_
    refine y (y_load 1 ((.snd (.snd (.fst .here)))) rfl rfl (by first | rfl | (simp only [Pth.off, T.size]; omega)) (ok_snd (ok_snd (ok_fst ok_here))) ty2) rfl ?_
    refine r_pure tabOk 2 [1, 3, 5, 18] (E' := [(1, .one (.int .i64) a1), (3, ptr b1 0), (5, ptr b3 0), (18, .one .bool (a1 == a0.2.2.1))]) rfl ?_
    obtain ⟨b7, hbb7, h⟩ := bnd_ex h
    rw [hbb7]
    refine r_lsplit (γ := Unit) 5 (fun _ => [(1, .one (.int .i64) a1), (3, ptr b1 0), (5, ptr b3 0), (23, .one .bool (b7 && (eqD (.pair (.int .i64) (.pair (.int .i64) .unit)) a2 a0.2.2.2.2.2.1)))]) (fun _ => [Res.var b3 24 Y24 a2, Res.var b1 32 Y32 a0]) ?_ (fun _ => ?_)
    · clear h
      cases b7 with
      | true =>
      refine r_guard (by rfl) rfl ?_
      refine y (y_load 0 .here rfl rfl (by first | rfl | (simp only [Pth.off, T.size]; omega)) ok_here ty24) rfl ?_
      refine r_pure tabOk 1 [1, 3, 5, 18, 19, 20] (E' := [(1, .one (.int .i64) a1), (3, ptr b1 0), (5, ptr b3 0), (18, .one .bool true), (19, .one Y24 a2), (20, ptr b1 5)]) rfl ?_
      refine r_guard (by rfl) rfl ?_
      refine y (y_load 1 ((.snd (.snd (.snd (.snd (.snd (.fst .here))))))) rfl rfl (by first | rfl | (simp only [Pth.off, T.size]; omega)) (ok_snd (ok_snd (ok_snd (ok_snd (ok_snd (ok_fst ok_here)))))) ty24) rfl ?_
      refine r_guard (by rfl) rfl ?_
      refine y (y_eqs 20 rfl rfl rfl rfl ty24 rfl kt24 eg24) rfl ?_
      refine r_pure tabOk 1 [1, 3, 5, 23] (E' := [(1, .one (.int .i64) a1), (3, ptr b1 0), (5, ptr b3 0), (23, .one .bool (eqD (.pair (.int .i64) (.pair (.int .i64) .unit)) a2 a0.2.2.2.2.2.1))]) rfl ?_
      refine r_nil ?_
      refine r_then ?_
      exact r_meetg () rfl rfl
      | false =>
      refine r_pure tabOk 5 [1, 3, 5, 23] (E' := [(1, .one (.int .i64) a1), (3, ptr b1 0), (5, ptr b3 0), (23, .one .bool false)]) rfl ?_
      refine r_nil ?_
      refine r_then ?_
      exact r_meetg () rfl rfl
    refine r_nil ?_
    refine r_then ?_
    refine r_if (b := (b7 && (eqD (.pair (.int .i64) (.pair (.int .i64) .unit)) a2 a0.2.2.2.2.2.1))) rfl (fun hc => ?_) (fun hc => ?_)
    · rw [if_pos hc] at h
      refine r_seq ?_
      refine r_region ?_
      refine r_pure tabOk 1 [6] (E' := [(6, .one .bool true)]) rfl ?_
      refine r_nil ?_
      refine r_then ?_
      refine r_ret ?_
      refine t_then ?_
      obtain rfl := Option.some.inj h
      exact r_ret1 rfl (.tmp rfl) (fun _ _ g => g) (fun _ _ _ => List.nil_sublist _)
    · rw [if_neg (ne_true_of_eq_false hc)] at h
      refine r_skip ?_
      refine r_then ?_
      refine r_seq ?_
      refine r_region ?_
      refine r_pure tabOk 1 [1, 3, 5, 24] (E' := [(1, .one (.int .i64) a1), (3, ptr b1 0), (5, ptr b3 0), (24, ptr b1 2)]) rfl ?_
      refine y (y_load 1 ((.snd (.snd (.fst .here)))) rfl rfl (by first | rfl | (simp only [Pth.off, T.size]; omega)) (ok_snd (ok_snd (ok_fst ok_here))) ty2) rfl ?_
      refine r_pure tabOk 1 [1, 3, 5, 25, 26] (E' := [(1, .one (.int .i64) a1), (3, ptr b1 0), (5, ptr b3 0), (25, .one (.int .i64) a0.2.2.1), (26, ptr b1 3)]) rfl ?_
      refine y (y_load 1 ((.snd (.snd (.snd (.fst .here))))) rfl rfl (by first | rfl | (simp only [Pth.off, T.size]; omega)) (ok_snd (ok_snd (ok_snd (ok_fst ok_here)))) ty2) rfl ?_
      refine r_pure tabOk 2 [1, 3, 5, 29] (E' := [(1, .one (.int .i64) a1), (3, ptr b1 0), (5, ptr b3 0), (29, .one .bool (a0.2.2.1 == a0.2.2.2.1))]) rfl ?_
      obtain ⟨b8, hbb8, h⟩ := bnd_ex h
      rw [hbb8]
      refine r_lsplit (γ := Unit) 6 (fun _ => [(3, ptr b1 0), (5, ptr b3 0), (35, .one .bool (b8 && ((IntKind.wrap .i64 (a1 - 1)) == a0.2.2.1)))]) (fun _ => [Res.var b3 24 Y24 a2, Res.var b1 32 Y32 a0]) ?_ (fun _ => ?_)
      · clear h
        cases b8 with
        | true =>
        refine r_pure tabOk 3 [3, 5, 29, 31, 32] (E' := [(3, ptr b1 0), (5, ptr b3 0), (29, .one .bool true), (31, .one (.int .i64) (IntKind.wrap .i64 (a1 - 1))), (32, ptr b1 2)]) rfl ?_
        refine r_guard (by rfl) rfl ?_
        refine y (y_load 1 ((.snd (.snd (.fst .here)))) rfl rfl (by first | rfl | (simp only [Pth.off, T.size]; omega)) (ok_snd (ok_snd (ok_fst ok_here))) ty2) rfl ?_
        refine r_pure tabOk 2 [3, 5, 35] (E' := [(3, ptr b1 0), (5, ptr b3 0), (35, .one .bool ((IntKind.wrap .i64 (a1 - 1)) == a0.2.2.1))]) rfl ?_
        refine r_nil ?_
        refine r_then ?_
        exact r_meetg () rfl rfl
        | false =>
        refine r_pure tabOk 6 [3, 5, 35] (E' := [(3, ptr b1 0), (5, ptr b3 0), (35, .one .bool false)]) rfl ?_
        refine r_nil ?_
        refine r_then ?_
        exact r_meetg () rfl rfl
      refine r_pure tabOk 1 [3, 5, 36] (E' := [(3, ptr b1 0), (5, ptr b3 0), (36, .one .bool (b8 && ((IntKind.wrap .i64 (a1 - 1)) == a0.2.2.1)))]) rfl ?_
      obtain ⟨b9, hbb9, h⟩ := bnd_ex h
      rw [hbb9]
      refine r_lsplit (γ := Unit) 7 (fun _ => [(3, ptr b1 0), (5, ptr b3 0), (43, .one .bool (b9 && (decide (a2.1 ≥ a0.2.2.2.2.2.1.1))))]) (fun _ => [Res.var b3 24 Y24 a2, Res.var b1 32 Y32 a0]) ?_ (fun _ => ?_)
      · clear h
        cases b9 with
        | true =>
        refine r_pure tabOk 1 [3, 5, 36, 37] (E' := [(3, ptr b1 0), (5, ptr b3 0), (36, .one .bool true), (37, ptr b3 0)]) rfl ?_
        refine r_guard (by rfl) rfl ?_
        refine y (y_load 0 ((.fst .here)) rfl rfl (by first | rfl | (simp only [Pth.off, T.size]; omega)) (ok_fst ok_here) ty3) rfl ?_
        refine r_pure tabOk 2 [3, 5, 36, 38, 40] (E' := [(3, ptr b1 0), (5, ptr b3 0), (36, .one .bool true), (38, .one (.int .i64) a2.1), (40, ptr b1 5)]) rfl ?_
        refine r_guard (by rfl) rfl ?_
        refine y (y_load 1 ((.snd (.snd (.snd (.snd (.snd (.fst ((.fst .here))))))))) rfl rfl (by first | rfl | (simp only [Pth.off, T.size]; omega)) (ok_snd (ok_snd (ok_snd (ok_snd (ok_snd (ok_fst (ok_fst ok_here))))))) ty3) rfl ?_
        refine r_pure tabOk 2 [3, 5, 43] (E' := [(3, ptr b1 0), (5, ptr b3 0), (43, .one .bool (decide (a2.1 ≥ a0.2.2.2.2.2.1.1)))]) rfl ?_
        refine r_nil ?_
        refine r_then ?_
        exact r_meetg () rfl rfl
        | false =>
        refine r_pure tabOk 7 [3, 5, 43] (E' := [(3, ptr b1 0), (5, ptr b3 0), (43, .one .bool false)]) rfl ?_
        refine r_nil ?_
        refine r_then ?_
        exact r_meetg () rfl rfl
      refine r_pure tabOk 1 [3, 5, 44] (E' := [(3, ptr b1 0), (5, ptr b3 0), (44, .one .bool (b9 && (decide (a2.1 ≥ a0.2.2.2.2.2.1.1))))]) rfl ?_
      obtain ⟨b10, hbb10, h⟩ := bnd_ex h
      rw [hbb10]
      refine r_lsplit (γ := Unit) 6 (fun _ => [(3, ptr b1 0), (5, ptr b3 0), (50, .one .bool (b10 && (decide (a2.1 ≤ a0.2.2.2.2.2.2.1))))]) (fun _ => [Res.var b3 24 Y24 a2, Res.var b1 32 Y32 a0]) ?_ (fun _ => ?_)
      · clear h
        cases b10 with
        | true =>
        refine r_pure tabOk 1 [3, 5, 44, 45] (E' := [(3, ptr b1 0), (5, ptr b3 0), (44, .one .bool true), (45, ptr b3 0)]) rfl ?_
        refine r_guard (by rfl) rfl ?_
        refine y (y_load 0 ((.fst .here)) rfl rfl (by first | rfl | (simp only [Pth.off, T.size]; omega)) (ok_fst ok_here) ty3) rfl ?_
        refine r_pure tabOk 1 [3, 5, 44, 46, 47] (E' := [(3, ptr b1 0), (5, ptr b3 0), (44, .one .bool true), (46, .one (.int .i64) a2.1), (47, ptr b1 7)]) rfl ?_
        refine r_guard (by rfl) rfl ?_
        refine y (y_load 1 ((.snd (.snd (.snd (.snd (.snd (.snd (.fst .here)))))))) rfl rfl (by first | rfl | (simp only [Pth.off, T.size]; omega)) (ok_snd (ok_snd (ok_snd (ok_snd (ok_snd (ok_snd (ok_fst ok_here))))))) ty3) rfl ?_
        refine r_pure tabOk 2 [3, 5, 50] (E' := [(3, ptr b1 0), (5, ptr b3 0), (50, .one .bool (decide (a2.1 ≤ a0.2.2.2.2.2.2.1)))]) rfl ?_
        refine r_nil ?_
        refine r_then ?_
        exact r_meetg () rfl rfl
        | false =>
        refine r_pure tabOk 6 [3, 5, 50] (E' := [(3, ptr b1 0), (5, ptr b3 0), (50, .one .bool false)]) rfl ?_
        refine r_nil ?_
        refine r_then ?_
        exact r_meetg () rfl rfl
      refine r_pure tabOk 1 [3, 5, 51] (E' := [(3, ptr b1 0), (5, ptr b3 0), (51, .one .bool (b10 && (decide (a2.1 ≤ a0.2.2.2.2.2.2.1))))]) rfl ?_
      obtain ⟨b11, hbb11, h⟩ := bnd_ex h
      rw [hbb11]
      refine r_lsplit (γ := Unit) 6 (fun _ => [(3, ptr b1 0), (5, ptr b3 0), (57, .one .bool (b11 && (a2.2.1 == a0.2.2.2.2.1)))]) (fun _ => [Res.var b3 24 Y24 a2, Res.var b1 32 Y32 a0]) ?_ (fun _ => ?_)
      · clear h
        cases b11 with
        | true =>
        refine r_pure tabOk 1 [3, 5, 51, 52] (E' := [(3, ptr b1 0), (5, ptr b3 0), (51, .one .bool true), (52, ptr b3 1)]) rfl ?_
        refine r_guard (by rfl) rfl ?_
        refine y (y_load 0 ((.snd (.fst .here))) rfl rfl (by first | rfl | (simp only [Pth.off, T.size]; omega)) (ok_snd (ok_fst ok_here)) ty3) rfl ?_
        refine r_pure tabOk 1 [3, 5, 51, 53, 54] (E' := [(3, ptr b1 0), (5, ptr b3 0), (51, .one .bool true), (53, .one (.int .i64) a2.2.1), (54, ptr b1 4)]) rfl ?_
        refine r_guard (by rfl) rfl ?_
        refine y (y_load 1 ((.snd (.snd (.snd (.snd (.fst .here)))))) rfl rfl (by first | rfl | (simp only [Pth.off, T.size]; omega)) (ok_snd (ok_snd (ok_snd (ok_snd (ok_fst ok_here))))) ty3) rfl ?_
        refine r_pure tabOk 2 [3, 5, 57] (E' := [(3, ptr b1 0), (5, ptr b3 0), (57, .one .bool (a2.2.1 == a0.2.2.2.2.1))]) rfl ?_
        refine r_nil ?_
        refine r_then ?_
        exact r_meetg () rfl rfl
        | false =>
        refine r_pure tabOk 6 [3, 5, 57] (E' := [(3, ptr b1 0), (5, ptr b3 0), (57, .one .bool false)]) rfl ?_
        refine r_nil ?_
        refine r_then ?_
        exact r_meetg () rfl rfl
      refine r_pure tabOk 1 [3, 5, 58] (E' := [(3, ptr b1 0), (5, ptr b3 0), (58, .one .bool (b11 && (a2.2.1 == a0.2.2.2.2.1)))]) rfl ?_
      obtain ⟨b12, hbb12, h⟩ := bnd_ex h
      rw [hbb12]
      refine r_lsplit (γ := Unit) 5 (fun _ => [(63, .one .bool (b12 && (!eqD (.pair (.int .i64) (.pair (.int .i64) .unit)) a2 a0.2.2.2.2.2.1)))]) (fun _ => [Res.var b3 24 Y24 a2, Res.var b1 32 Y32 a0]) ?_ (fun _ => ?_)
      · clear h
        cases b12 with
        | true =>
        refine r_guard (by rfl) rfl ?_
        refine y (y_load 0 .here rfl rfl (by first | rfl | (simp only [Pth.off, T.size]; omega)) ok_here ty24) rfl ?_
        refine r_pure tabOk 1 [58, 59, 60] (E' := [(58, .one .bool true), (59, .one Y24 a2), (60, ptr b1 5)]) rfl ?_
        refine r_guard (by rfl) rfl ?_
        refine y (y_load 1 ((.snd (.snd (.snd (.snd (.snd (.fst .here))))))) rfl rfl (by first | rfl | (simp only [Pth.off, T.size]; omega)) (ok_snd (ok_snd (ok_snd (ok_snd (ok_snd (ok_fst ok_here)))))) ty24) rfl ?_
        refine r_guard (by rfl) rfl ?_
        refine y (y_nes 20 rfl rfl rfl rfl ty24 rfl kt24 eg24) rfl ?_
        refine r_pure tabOk 1 [63] (E' := [(63, .one .bool (!eqD (.pair (.int .i64) (.pair (.int .i64) .unit)) a2 a0.2.2.2.2.2.1))]) rfl ?_
        refine r_nil ?_
        refine r_then ?_
        exact r_meetg () rfl rfl
        | false =>
        refine r_pure tabOk 5 [63] (E' := [(63, .one .bool false)]) rfl ?_
        refine r_nil ?_
        refine r_then ?_
        exact r_meetg () rfl rfl
      refine r_pure tabOk 1 [6] (E' := [(6, .one .bool (b12 && (!eqD (.pair (.int .i64) (.pair (.int .i64) .unit)) a2 a0.2.2.2.2.2.1)))]) rfl ?_
      refine r_nil ?_
      refine r_then ?_
      refine r_ret ?_
      obtain rfl := Option.some.inj h
      exact r_ret1 rfl (.tmp rfl) (fun _ _ g => g) (fun _ _ _ => List.nil_sublist _)

theorem escrowlaw20_first_ok  (r : Bool) (h : escrowlaw20_first  = some r) : Pure Try.prog 14 [] (.one .bool r) := by
  unfold escrowlaw20_first at h
  refine enter Try.func14 rfl 36 rfl rfl fun F => ?_
  refine r_seq ?_
  refine r_region ?_
  refine r_pure tabOk 1 [] (E' := []) rfl ?_
  refine r_nil ?_
  refine r_then ?_
  refine r_seq ?_
  refine r_region ?_
  obtain ⟨r1, hr1, h⟩ := bind_ex h
  refine r_calls (escrowlaw20_example_ok  _ hr1) (by kernel_rfl) rfl rfl ?_
  obtain ⟨r2, hr2, h⟩ := bind_ex h
  refine r_calls (gate_Of_ok 1 r1 _ hr2) (by kernel_rfl) rfl rfl ?_
  refine r_alloc (t := Y32) rfl zf32 rfl fun b3 => ?_
  refine r_store 0 .here rfl rfl rfl (by first | rfl | (simp only [Pth.off, T.size]; omega)) ok_here ty32 ?_
  refine r_nil ?_
  refine r_then ?_
  refine r_seq ?_
  refine r_region ?_
  refine y (y_load 0 .here rfl rfl (by first | rfl | (simp only [Pth.off, T.size]; omega)) ok_here ty32) rfl ?_
  obtain ⟨r5, hr5, h⟩ := bind_ex h
  refine r_calls (gate_Gate_MayBroadcast_ok r2 2 _ hr5) (by kernel_rfl) rfl rfl ?_
  refine r_pure tabOk 1 [1, 6] (E' := [(1, ptr b3 0), (6, .one .bool r5)]) rfl ?_
  obtain ⟨k7, hk7, h⟩ := bnd_ex h
  refine r_lsplitk (γ := Unit) 4 (fun (o8 : Bool) _ => [(1, ptr b3 0), (10, .one .bool o8)]) (fun _ _ => [Res.var b3 32 Y32 r2]) k7 r ?_ ?_
  · rcases Bool.eq_false_or_eq_true r5 with hh | hh
    · rw [hh] at h ⊢
      rw [if_pos rfl] at h
      refine r_guard (by rfl) rfl ?_
      refine y (y_load 0 .here rfl rfl (by first | rfl | (simp only [Pth.off, T.size]; omega)) ok_here ty32) rfl ?_
      refine r_guard (by rfl) rfl ?_
      obtain ⟨r9, hr9, h⟩ := bind_ex h
      refine r_calls (gate_Gate_MayBroadcast_ok r2 1 _ hr9) (by kernel_rfl) rfl rfl ?_
      refine r_pure tabOk 2 [1, 10] (E' := [(1, ptr b3 0), (10, .one .bool (!r9))]) rfl ?_
      refine r_nil ?_
      refine r_less [1, 10] rfl ?_
      refine r_then ?_
      exact r_meetk (!r9) () h rfl rfl
    · rw [hh] at h ⊢
      rw [if_neg (by decide)] at h
      refine r_pure tabOk 4 [1, 10] (E' := [(1, ptr b3 0), (10, .one .bool false)]) rfl ?_
      refine r_nil ?_
      refine r_less [1, 10] rfl ?_
      refine r_then ?_
      exact r_meetk false () h rfl rfl
  · intro o8 _ h
    rw [← hk7] at h
    try dsimp only at h
    refine r_pure tabOk 1 [1, 11] (E' := [(1, ptr b3 0), (11, .one .bool o8)]) rfl ?_
    obtain ⟨k11, hk11, h⟩ := bnd_ex h
    refine r_lsplitk (γ := Unit) 3 (fun (o12 : Bool) _ => [(1, ptr b3 0), (14, .one .bool o12)]) (fun _ _ => [Res.var b3 32 Y32 r2]) k11 r ?_ ?_
    · rcases Bool.eq_false_or_eq_true o8 with hh | hh
      · rw [hh] at h ⊢
        rw [if_pos rfl] at h
        refine r_guard (by rfl) rfl ?_
        refine y (y_load 0 .here rfl rfl (by first | rfl | (simp only [Pth.off, T.size]; omega)) ok_here ty32) rfl ?_
        refine r_guard (by rfl) rfl ?_
        obtain ⟨r13, hr13, h⟩ := bind_ex h
        refine r_calls (gate_Gate_MaySend_ok r2 1 _ hr13) (by kernel_rfl) rfl rfl ?_
        refine r_pure tabOk 1 [1, 14] (E' := [(1, ptr b3 0), (14, .one .bool r13)]) rfl ?_
        refine r_nil ?_
        refine r_less [1, 14] rfl ?_
        refine r_then ?_
        exact r_meetk r13 () h rfl rfl
      · rw [hh] at h ⊢
        rw [if_neg (by decide)] at h
        refine r_pure tabOk 3 [1, 14] (E' := [(1, ptr b3 0), (14, .one .bool false)]) rfl ?_
        refine r_nil ?_
        refine r_less [1, 14] rfl ?_
        refine r_then ?_
        exact r_meetk false () h rfl rfl
    · intro o12 _ h
      rw [← hk11] at h
      try dsimp only at h
      refine r_pure tabOk 1 [1, 15] (E' := [(1, ptr b3 0), (15, .one .bool o12)]) rfl ?_
      obtain ⟨k15, hk15, h⟩ := bnd_ex h
      refine r_lsplitk (γ := Unit) 4 (fun (o16 : Bool) _ => [(1, ptr b3 0), (19, .one .bool o16)]) (fun _ _ => [Res.var b3 32 Y32 r2]) k15 r ?_ ?_
      · rcases Bool.eq_false_or_eq_true o12 with hh | hh
        · rw [hh] at h ⊢
          rw [if_pos rfl] at h
          refine r_guard (by rfl) rfl ?_
          refine y (y_load 0 .here rfl rfl (by first | rfl | (simp only [Pth.off, T.size]; omega)) ok_here ty32) rfl ?_
          refine r_guard (by rfl) rfl ?_
          obtain ⟨r17, hr17, h⟩ := bind_ex h
          refine r_calls (gate_Gate_MaySend_ok r2 2 _ hr17) (by kernel_rfl) rfl rfl ?_
          refine r_pure tabOk 2 [1, 19] (E' := [(1, ptr b3 0), (19, .one .bool (!r17))]) rfl ?_
          refine r_nil ?_
          refine r_less [1, 19] rfl ?_
          refine r_then ?_
          exact r_meetk (!r17) () h rfl rfl
        · rw [hh] at h ⊢
          rw [if_neg (by decide)] at h
          refine r_pure tabOk 4 [1, 19] (E' := [(1, ptr b3 0), (19, .one .bool false)]) rfl ?_
          refine r_nil ?_
          refine r_less [1, 19] rfl ?_
          refine r_then ?_
          exact r_meetk false () h rfl rfl
      · intro o16 _ h
        rw [← hk15] at h
        try dsimp only at h
        refine r_pure tabOk 1 [1, 20] (E' := [(1, ptr b3 0), (20, .one .bool o16)]) rfl ?_
        obtain ⟨k19, hk19, h⟩ := bnd_ex h
        refine r_lsplitk (γ := Unit) 4 (fun (o20 : Bool) _ => [(1, ptr b3 0), (24, .one .bool o20)]) (fun _ _ => [Res.var b3 32 Y32 r2]) k19 r ?_ ?_
        · rcases Bool.eq_false_or_eq_true o16 with hh | hh
          · rw [hh] at h ⊢
            rw [if_pos rfl] at h
            refine r_guard (by rfl) rfl ?_
            refine y (y_load 0 .here rfl rfl (by first | rfl | (simp only [Pth.off, T.size]; omega)) ok_here ty32) rfl ?_
            refine r_guard (by rfl) rfl ?_
            refine y (y_build rfl zf24 rfl rfl (.cons ((.fst .here)) rfl rfl ok_here (.cons ((.snd (.fst .here))) rfl rfl ok_here .nil))) rfl ?_
            refine r_guard (by rfl) rfl ?_
            obtain ⟨r21, hr21, h⟩ := bind_ex h
            refine r_calls (gate_Gate_MaySign_ok r2 1 (1, 2, ()) _ hr21) (by kernel_rfl) rfl rfl ?_
            refine r_pure tabOk 1 [1, 24] (E' := [(1, ptr b3 0), (24, .one .bool r21)]) rfl ?_
            refine r_nil ?_
            refine r_less [1, 24] rfl ?_
            refine r_then ?_
            exact r_meetk r21 () h rfl rfl
          · rw [hh] at h ⊢
            rw [if_neg (by decide)] at h
            refine r_pure tabOk 4 [1, 24] (E' := [(1, ptr b3 0), (24, .one .bool false)]) rfl ?_
            refine r_nil ?_
            refine r_less [1, 24] rfl ?_
            refine r_then ?_
            exact r_meetk false () h rfl rfl
        · intro o20 _ h
          rw [← hk19] at h
          try dsimp only at h
          refine r_pure tabOk 1 [1, 25] (E' := [(1, ptr b3 0), (25, .one .bool o20)]) rfl ?_
          obtain ⟨k23, hk23, h⟩ := bnd_ex h
          refine r_lsplitk (γ := Unit) 4 (fun (o24 : Bool) _ => [(1, ptr b3 0), (29, .one .bool o24)]) (fun _ _ => [Res.var b3 32 Y32 r2]) k23 r ?_ ?_
          · rcases Bool.eq_false_or_eq_true o20 with hh | hh
            · rw [hh] at h ⊢
              rw [if_pos rfl] at h
              refine r_guard (by rfl) rfl ?_
              refine y (y_load 0 .here rfl rfl (by first | rfl | (simp only [Pth.off, T.size]; omega)) ok_here ty32) rfl ?_
              refine r_guard (by rfl) rfl ?_
              refine y (y_build rfl zf24 rfl rfl (.cons ((.fst .here)) rfl rfl ok_here (.cons ((.snd (.fst .here))) rfl rfl ok_here .nil))) rfl ?_
              refine r_guard (by rfl) rfl ?_
              obtain ⟨r25, hr25, h⟩ := bind_ex h
              refine r_calls (gate_Gate_MaySign_ok r2 2 (4, 2, ()) _ hr25) (by kernel_rfl) rfl rfl ?_
              refine r_pure tabOk 1 [1, 29] (E' := [(1, ptr b3 0), (29, .one .bool r25)]) rfl ?_
              refine r_nil ?_
              refine r_less [1, 29] rfl ?_
              refine r_then ?_
              exact r_meetk r25 () h rfl rfl
            · rw [hh] at h ⊢
              rw [if_neg (by decide)] at h
              refine r_pure tabOk 4 [1, 29] (E' := [(1, ptr b3 0), (29, .one .bool false)]) rfl ?_
              refine r_nil ?_
              refine r_less [1, 29] rfl ?_
              refine r_then ?_
              exact r_meetk false () h rfl rfl
          · intro o24 _ h
            rw [← hk23] at h
            try dsimp only at h
            refine r_pure tabOk 1 [1, 30] (E' := [(1, ptr b3 0), (30, .one .bool o24)]) rfl ?_
            obtain ⟨k27, hk27, h⟩ := bnd_ex h
            refine r_lsplitk (γ := Unit) 5 (fun (o28 : Bool) _ => [(35, .one .bool o28)]) (fun _ _ => [Res.var b3 32 Y32 r2]) k27 r ?_ ?_
            · rcases Bool.eq_false_or_eq_true o24 with hh | hh
              · rw [hh] at h ⊢
                rw [if_pos rfl] at h
                refine r_guard (by rfl) rfl ?_
                refine y (y_load 0 .here rfl rfl (by first | rfl | (simp only [Pth.off, T.size]; omega)) ok_here ty32) rfl ?_
                refine r_guard (by rfl) rfl ?_
                refine y (y_build rfl zf24 rfl rfl (.cons ((.fst .here)) rfl rfl ok_here (.cons ((.snd (.fst .here))) rfl rfl ok_here .nil))) rfl ?_
                refine r_guard (by rfl) rfl ?_
                obtain ⟨r29, hr29, h⟩ := bind_ex h
                refine r_calls (gate_Gate_MaySign_ok r2 2 (5, 2, ()) _ hr29) (by kernel_rfl) rfl rfl ?_
                refine r_pure tabOk 2 [35] (E' := [(35, .one .bool (!r29))]) rfl ?_
                refine r_nil ?_
                refine r_less [35] rfl ?_
                refine r_then ?_
                exact r_meetk (!r29) () h rfl rfl
              · rw [hh] at h ⊢
                rw [if_neg (by decide)] at h
                refine r_pure tabOk 5 [35] (E' := [(35, .one .bool false)]) rfl ?_
                refine r_nil ?_
                refine r_less [35] rfl ?_
                refine r_then ?_
                exact r_meetk false () h rfl rfl
            · intro o28 _ h
              rw [← hk27] at h
              try dsimp only at h
              refine r_pure tabOk 1 [0] (E' := [(0, .one .bool o28)]) rfl ?_
              refine r_nil ?_
              refine r_then ?_
              refine r_ret ?_
              obtain rfl := Option.some.inj h
              exact r_ret1 rfl (.tmp rfl) (fun _ _ g => g) (fun _ _ _ => List.nil_sublist _)

theorem escrowlaw20_GateApart_ok (a0 : Int) (a1 : Int) (a2 : Int × Int × Int × Int × (List (Int × Int × Int × List (Int) × List Int × Unit)) × (List (Int × Int × Int × List (Int) × List Int × Unit)) × Int × Int × Int × (Int × Int × Unit) × (Int × Int × Unit) × (Int × Int × Unit) × Bool × List (List (Int)) × List (Int) × (List (Int × List (Int) × Bool × Unit)) × Int × Int × Unit) (a3 : Int) (a4 : Int) (r : Bool) (h : escrowlaw20_GateApart a0 a1 a2 a3 a4 = some r) : Pure Try.prog 4 [.one (.int .i64) a0, .one (.int .i64) a1, .one Y30 a2, .one (.int .i64) a3, .one (.int .i64) a4] (.one .bool r) := by
  unfold escrowlaw20_GateApart at h
  refine enter Try.func4 rfl 143 rfl rfl fun F => ?_
  refine r_seq ?_
  refine r_region ?_
  refine r_box rfl rfl fun b1 => ?_
  refine r_pure tabOk 1 [0, 1, 3, 4, 7] (E' := [(0, .one (.int .i64) a0), (1, .one (.int .i64) a1), (3, .one (.int .i64) a3), (4, .one (.int .i64) a4), (7, ptr b1 0)]) rfl ?_
  refine r_nil ?_
  refine r_then ?_
  refine r_seq ?_
  refine r_region ?_
  refine r_pure tabOk 1 [0, 1, 3, 4, 7, 17] (E' := [(0, .one (.int .i64) a0), (1, .one (.int .i64) a1), (3, .one (.int .i64) a3), (4, .one (.int .i64) a4), (7, ptr b1 0), (17, .one (.int .i64) a0)]) rfl ?_
  refine y (y_load 0 .here rfl rfl (by first | rfl | (simp only [Pth.off, T.size]; omega)) ok_here ty30) rfl ?_
  obtain ⟨r3, hr3, h⟩ := bind_ex h
  refine r_calls (gate_Of_ok a0 a2 _ hr3) (by kernel_rfl) rfl rfl ?_
  refine r_alloc (t := Y32) rfl zf32 rfl fun b4 => ?_
  refine r_store 0 .here rfl rfl rfl (by first | rfl | (simp only [Pth.off, T.size]; omega)) ok_here ty32 ?_
  refine r_nil ?_
  refine r_then ?_
  refine r_seq ?_
  refine r_region ?_
  refine r_pure tabOk 2 [0, 3, 4, 7, 11, 20, 21] (E' := [(0, .one (.int .i64) a0), (3, .one (.int .i64) a3), (4, .one (.int .i64) a4), (7, ptr b1 0), (11, ptr b4 0), (20, .one (.int .i64) a0), (21, .one (.int .i64) a1)]) rfl ?_
  refine y (y_max rfl rfl) rfl ?_
  refine y (y_load 1 .here rfl rfl (by first | rfl | (simp only [Pth.off, T.size]; omega)) ok_here ty30) rfl ?_
  obtain ⟨r6, hr6, h⟩ := bind_ex h
  refine r_calls (gate_Of_ok (max a0 a1) a2 _ hr6) (by kernel_rfl) rfl rfl ?_
  refine r_alloc (t := Y32) rfl zf32 rfl fun b7 => ?_
  refine r_store 0 .here rfl rfl rfl (by first | rfl | (simp only [Pth.off, T.size]; omega)) ok_here ty32 ?_
  refine r_nil ?_
  refine r_then ?_
  refine r_seq ?_
  refine r_seq ?_
  refine r_region ?_
  obtain ⟨r9, hr9, h⟩ := bind_ex h
  refine r_calls (escrowlaw20_first_ok  _ hr9) (by kernel_rfl) rfl rfl ?_
  refine r_pure tabOk 2 [0, 3, 4, 7, 11, 12, 27] (E' := [(0, .one (.int .i64) a0), (3, .one (.int .i64) a3), (4, .one (.int .i64) a4), (7, ptr b1 0), (11, ptr b4 0), (12, ptr b7 0), (27, .one .bool (!r9))]) rfl ?_
  obtain ⟨b10, hbb10, h⟩ := bnd_ex h
  rw [hbb10]
  obtain ⟨k11, hk11, h⟩ := bnd_ex h
  refine r_lsplitk (γ := Unit) 15 (fun (o12 : Bool) _ => [(0, .one (.int .i64) a0), (3, .one (.int .i64) a3), (4, .one (.int .i64) a4), (7, ptr b1 0), (11, ptr b4 0), (12, ptr b7 0), (42, .one .bool o12)]) (fun _ _ => [Res.var b7 32 Y32 r6, Res.var b4 32 Y32 r3, Res.var b1 30 Y30 a2]) k11 r ?_ ?_
  · rcases Bool.eq_false_or_eq_true b10 with hh | hh
    · rw [hh] at h ⊢
      rw [if_pos rfl] at h
      refine r_pure tabOk 15 [0, 3, 4, 7, 11, 12, 42] (E' := [(0, .one (.int .i64) a0), (3, .one (.int .i64) a3), (4, .one (.int .i64) a4), (7, ptr b1 0), (11, ptr b4 0), (12, ptr b7 0), (42, .one .bool true)]) rfl ?_
      refine r_nil ?_
      refine r_less [0, 3, 4, 7, 11, 12, 42] rfl ?_
      refine r_then ?_
      exact r_meetk true () h rfl rfl
    · rw [hh] at h ⊢
      rw [if_neg (by decide)] at h
      refine r_guard (by rfl) rfl ?_
      refine y (y_load 1 .here rfl rfl (by first | rfl | (simp only [Pth.off, T.size]; omega)) ok_here ty32) rfl ?_
      refine r_pure tabOk 1 [0, 3, 4, 7, 11, 12, 27, 28, 29] (E' := [(0, .one (.int .i64) a0), (3, .one (.int .i64) a3), (4, .one (.int .i64) a4), (7, ptr b1 0), (11, ptr b4 0), (12, ptr b7 0), (27, .one .bool false), (28, .one Y32 r3), (29, .one (.int .i64) a3)]) rfl ?_
      refine r_guard (by rfl) rfl ?_
      obtain ⟨r13, hr13, h⟩ := bind_ex h
      refine r_calls (gate_Gate_MayBroadcast_ok r3 a3 _ hr13) (by kernel_rfl) rfl rfl ?_
      refine r_pure tabOk 1 [0, 3, 4, 7, 11, 12, 27, 31] (E' := [(0, .one (.int .i64) a0), (3, .one (.int .i64) a3), (4, .one (.int .i64) a4), (7, ptr b1 0), (11, ptr b4 0), (12, ptr b7 0), (27, .one .bool false), (31, .one .bool r13)]) rfl ?_
      obtain ⟨k15, hk15, h⟩ := bnd_ex h
      refine r_lsplitk (γ := Unit) 10 (fun (o16 : Bool) _ => [(0, .one (.int .i64) a0), (3, .one (.int .i64) a3), (4, .one (.int .i64) a4), (7, ptr b1 0), (11, ptr b4 0), (12, ptr b7 0), (27, .one .bool false), (41, .one .bool o16)]) (fun _ _ => [Res.var b7 32 Y32 r6, Res.var b4 32 Y32 r3, Res.var b1 30 Y30 a2]) k15 r ?_ ?_
      · rcases Bool.eq_false_or_eq_true r13 with hh | hh
        · rw [hh] at h ⊢
          rw [if_pos rfl] at h
          refine r_pure tabOk 2 [0, 3, 4, 7, 11, 12, 27, 31, 32, 33] (E' := [(0, .one (.int .i64) a0), (3, .one (.int .i64) a3), (4, .one (.int .i64) a4), (7, ptr b1 0), (11, ptr b4 0), (12, ptr b7 0), (27, .one .bool false), (31, .one .bool true), (32, .one (.int .i64) a3), (33, ptr b1 6)]) rfl ?_
          refine r_guard (by rfl) rfl ?_
          refine y (y_load 2 ((.snd (.snd (.snd (.snd (.snd (.snd (.fst .here)))))))) rfl rfl (by first | rfl | (simp only [Pth.off, T.size]; omega)) (ok_snd (ok_snd (ok_snd (ok_snd (ok_snd (ok_snd (ok_fst ok_here))))))) ty2) rfl ?_
          refine r_pure tabOk 2 [0, 3, 4, 7, 11, 12, 27, 31, 36] (E' := [(0, .one (.int .i64) a0), (3, .one (.int .i64) a3), (4, .one (.int .i64) a4), (7, ptr b1 0), (11, ptr b4 0), (12, ptr b7 0), (27, .one .bool false), (31, .one .bool true), (36, .one .bool (a3 != a2.2.2.2.2.2.2.1))]) rfl ?_
          obtain ⟨b17, hbb17, h⟩ := bnd_ex h
          rw [hbb17]
          obtain ⟨k18, hk18, h⟩ := bnd_ex h
          refine r_lsplitk (γ := Unit) 4 (fun (o19 : Bool) _ => [(0, .one (.int .i64) a0), (3, .one (.int .i64) a3), (4, .one (.int .i64) a4), (7, ptr b1 0), (11, ptr b4 0), (12, ptr b7 0), (27, .one .bool false), (31, .one .bool true), (40, .one .bool o19)]) (fun _ _ => [Res.var b7 32 Y32 r6, Res.var b4 32 Y32 r3, Res.var b1 30 Y30 a2]) k18 r ?_ ?_
          · rcases Bool.eq_false_or_eq_true b17 with hh | hh
            · rw [hh] at h ⊢
              rw [if_pos rfl] at h
              refine r_pure tabOk 4 [0, 3, 4, 7, 11, 12, 27, 31, 40] (E' := [(0, .one (.int .i64) a0), (3, .one (.int .i64) a3), (4, .one (.int .i64) a4), (7, ptr b1 0), (11, ptr b4 0), (12, ptr b7 0), (27, .one .bool false), (31, .one .bool true), (40, .one .bool true)]) rfl ?_
              refine r_nil ?_
              refine r_less [0, 3, 4, 7, 11, 12, 27, 31, 40] rfl ?_
              refine r_then ?_
              exact r_meetk true () h rfl rfl
            · rw [hh] at h ⊢
              rw [if_neg (by decide)] at h
              refine r_guard (by rfl) rfl ?_
              refine y (y_load 1 .here rfl rfl (by first | rfl | (simp only [Pth.off, T.size]; omega)) ok_here ty32) rfl ?_
              refine r_pure tabOk 1 [0, 3, 4, 7, 11, 12, 27, 31, 36, 37, 38] (E' := [(0, .one (.int .i64) a0), (3, .one (.int .i64) a3), (4, .one (.int .i64) a4), (7, ptr b1 0), (11, ptr b4 0), (12, ptr b7 0), (27, .one .bool false), (31, .one .bool true), (36, .one .bool false), (37, .one Y32 r3), (38, .one (.int .i64) a3)]) rfl ?_
              refine r_guard (by rfl) rfl ?_
              obtain ⟨r20, hr20, h⟩ := bind_ex h
              refine r_calls (gate_Gate_MaySend_ok r3 a3 _ hr20) (by kernel_rfl) rfl rfl ?_
              refine r_pure tabOk 1 [0, 3, 4, 7, 11, 12, 27, 31, 40] (E' := [(0, .one (.int .i64) a0), (3, .one (.int .i64) a3), (4, .one (.int .i64) a4), (7, ptr b1 0), (11, ptr b4 0), (12, ptr b7 0), (27, .one .bool false), (31, .one .bool true), (40, .one .bool r20)]) rfl ?_
              refine r_nil ?_
              refine r_less [0, 3, 4, 7, 11, 12, 27, 31, 40] rfl ?_
              refine r_then ?_
              exact r_meetk r20 () h rfl rfl
          · intro o19 _ h
            rw [← hk18] at h
            try dsimp only at h
            refine r_pure tabOk 1 [0, 3, 4, 7, 11, 12, 27, 41] (E' := [(0, .one (.int .i64) a0), (3, .one (.int .i64) a3), (4, .one (.int .i64) a4), (7, ptr b1 0), (11, ptr b4 0), (12, ptr b7 0), (27, .one .bool false), (41, .one .bool o19)]) rfl ?_
            refine r_nil ?_
            refine r_less [0, 3, 4, 7, 11, 12, 27, 41] rfl ?_
            refine r_then ?_
            exact r_meetk o19 () h rfl rfl
        · rw [hh] at h ⊢
          rw [if_neg (by decide)] at h
          refine r_pure tabOk 10 [0, 3, 4, 7, 11, 12, 27, 41] (E' := [(0, .one (.int .i64) a0), (3, .one (.int .i64) a3), (4, .one (.int .i64) a4), (7, ptr b1 0), (11, ptr b4 0), (12, ptr b7 0), (27, .one .bool false), (41, .one .bool false)]) rfl ?_
          refine r_nil ?_
          refine r_less [0, 3, 4, 7, 11, 12, 27, 41] rfl ?_
          refine r_then ?_
          exact r_meetk false () h rfl rfl
      · intro o16 _ h
        rw [← hk15] at h
        try dsimp only at h
        refine r_pure tabOk 1 [0, 3, 4, 7, 11, 12, 42] (E' := [(0, .one (.int .i64) a0), (3, .one (.int .i64) a3), (4, .one (.int .i64) a4), (7, ptr b1 0), (11, ptr b4 0), (12, ptr b7 0), (42, .one .bool o16)]) rfl ?_
        refine r_nil ?_
        refine r_less [0, 3, 4, 7, 11, 12, 42] rfl ?_
        refine r_then ?_
        exact r_meetk o16 () h rfl rfl
  · intro o12 _ h
    rw [← hk11] at h
    try dsimp only at h
    refine r_pure tabOk 1 [0, 3, 4, 7, 11, 12, 43] (E' := [(0, .one (.int .i64) a0), (3, .one (.int .i64) a3), (4, .one (.int .i64) a4), (7, ptr b1 0), (11, ptr b4 0), (12, ptr b7 0), (43, .one .bool o12)]) rfl ?_
    obtain ⟨k22, hk22, h⟩ := bnd_ex h
    refine r_lsplitk (γ := Unit) 14 (fun (o23 : Bool) _ => [(0, .one (.int .i64) a0), (3, .one (.int .i64) a3), (4, .one (.int .i64) a4), (7, ptr b1 0), (11, ptr b4 0), (12, ptr b7 0), (57, .one .bool o23)]) (fun _ _ => [Res.var b7 32 Y32 r6, Res.var b4 32 Y32 r3, Res.var b1 30 Y30 a2]) k22 r ?_ ?_
    · rcases Bool.eq_false_or_eq_true o12 with hh | hh
      · rw [hh] at h ⊢
        rw [if_pos rfl] at h
        refine r_pure tabOk 14 [0, 3, 4, 7, 11, 12, 57] (E' := [(0, .one (.int .i64) a0), (3, .one (.int .i64) a3), (4, .one (.int .i64) a4), (7, ptr b1 0), (11, ptr b4 0), (12, ptr b7 0), (57, .one .bool true)]) rfl ?_
        refine r_nil ?_
        refine r_less [0, 3, 4, 7, 11, 12, 57] rfl ?_
        refine r_then ?_
        exact r_meetk true () h rfl rfl
      · rw [hh] at h ⊢
        rw [if_neg (by decide)] at h
        refine r_guard (by rfl) rfl ?_
        refine y (y_load 1 .here rfl rfl (by first | rfl | (simp only [Pth.off, T.size]; omega)) ok_here ty32) rfl ?_
        refine r_pure tabOk 1 [0, 3, 4, 7, 11, 12, 43, 44, 45] (E' := [(0, .one (.int .i64) a0), (3, .one (.int .i64) a3), (4, .one (.int .i64) a4), (7, ptr b1 0), (11, ptr b4 0), (12, ptr b7 0), (43, .one .bool false), (44, .one Y32 r3), (45, .one (.int .i64) a3)]) rfl ?_
        refine r_guard (by rfl) rfl ?_
        obtain ⟨r24, hr24, h⟩ := bind_ex h
        refine r_calls (gate_Gate_MayBroadcast_ok r3 a3 _ hr24) (by kernel_rfl) rfl rfl ?_
        refine r_pure tabOk 1 [0, 3, 4, 7, 11, 12, 43, 47] (E' := [(0, .one (.int .i64) a0), (3, .one (.int .i64) a3), (4, .one (.int .i64) a4), (7, ptr b1 0), (11, ptr b4 0), (12, ptr b7 0), (43, .one .bool false), (47, .one .bool r24)]) rfl ?_
        obtain ⟨k26, hk26, h⟩ := bnd_ex h
        refine r_lsplitk (γ := Unit) 4 (fun (o27 : Bool) _ => [(0, .one (.int .i64) a0), (3, .one (.int .i64) a3), (4, .one (.int .i64) a4), (7, ptr b1 0), (11, ptr b4 0), (12, ptr b7 0), (43, .one .bool false), (51, .one .bool o27)]) (fun _ _ => [Res.var b7 32 Y32 r6, Res.var b4 32 Y32 r3, Res.var b1 30 Y30 a2]) k26 r ?_ ?_
        · rcases Bool.eq_false_or_eq_true r24 with hh | hh
          · rw [hh] at h ⊢
            rw [if_pos rfl] at h
            refine r_guard (by rfl) rfl ?_
            refine y (y_load 1 .here rfl rfl (by first | rfl | (simp only [Pth.off, T.size]; omega)) ok_here ty32) rfl ?_
            refine r_pure tabOk 1 [0, 3, 4, 7, 11, 12, 43, 47, 48, 49] (E' := [(0, .one (.int .i64) a0), (3, .one (.int .i64) a3), (4, .one (.int .i64) a4), (7, ptr b1 0), (11, ptr b4 0), (12, ptr b7 0), (43, .one .bool false), (47, .one .bool true), (48, .one Y32 r3), (49, .one (.int .i64) a4)]) rfl ?_
            refine r_guard (by rfl) rfl ?_
            obtain ⟨r28, hr28, h⟩ := bind_ex h
            refine r_calls (gate_Gate_MaySend_ok r3 a4 _ hr28) (by kernel_rfl) rfl rfl ?_
            refine r_pure tabOk 1 [0, 3, 4, 7, 11, 12, 43, 51] (E' := [(0, .one (.int .i64) a0), (3, .one (.int .i64) a3), (4, .one (.int .i64) a4), (7, ptr b1 0), (11, ptr b4 0), (12, ptr b7 0), (43, .one .bool false), (51, .one .bool r28)]) rfl ?_
            refine r_nil ?_
            refine r_less [0, 3, 4, 7, 11, 12, 43, 51] rfl ?_
            refine r_then ?_
            exact r_meetk r28 () h rfl rfl
          · rw [hh] at h ⊢
            rw [if_neg (by decide)] at h
            refine r_pure tabOk 4 [0, 3, 4, 7, 11, 12, 43, 51] (E' := [(0, .one (.int .i64) a0), (3, .one (.int .i64) a3), (4, .one (.int .i64) a4), (7, ptr b1 0), (11, ptr b4 0), (12, ptr b7 0), (43, .one .bool false), (51, .one .bool false)]) rfl ?_
            refine r_nil ?_
            refine r_less [0, 3, 4, 7, 11, 12, 43, 51] rfl ?_
            refine r_then ?_
            exact r_meetk false () h rfl rfl
        · intro o27 _ h
          rw [← hk26] at h
          try dsimp only at h
          refine r_pure tabOk 1 [0, 3, 4, 7, 11, 12, 43, 52] (E' := [(0, .one (.int .i64) a0), (3, .one (.int .i64) a3), (4, .one (.int .i64) a4), (7, ptr b1 0), (11, ptr b4 0), (12, ptr b7 0), (43, .one .bool false), (52, .one .bool o27)]) rfl ?_
          refine r_lsplit (γ := Unit) 4 (fun _ => [(0, .one (.int .i64) a0), (3, .one (.int .i64) a3), (4, .one (.int .i64) a4), (7, ptr b1 0), (11, ptr b4 0), (12, ptr b7 0), (43, .one .bool false), (56, .one .bool (o27 && (decide (a3 ≤ a4))))]) (fun _ => [Res.var b7 32 Y32 r6, Res.var b4 32 Y32 r3, Res.var b1 30 Y30 a2]) ?_ (fun _ => ?_)
          · clear h
            rcases Bool.eq_false_or_eq_true o27 with hh | hh
            · rw [hh]
              refine r_pure tabOk 4 [0, 3, 4, 7, 11, 12, 43, 56] (E' := [(0, .one (.int .i64) a0), (3, .one (.int .i64) a3), (4, .one (.int .i64) a4), (7, ptr b1 0), (11, ptr b4 0), (12, ptr b7 0), (43, .one .bool false), (56, .one .bool (decide (a3 ≤ a4)))]) rfl ?_
              refine r_nil ?_
              refine r_then ?_
              exact r_meetg () rfl rfl
            · rw [hh]
              refine r_pure tabOk 4 [0, 3, 4, 7, 11, 12, 43, 56] (E' := [(0, .one (.int .i64) a0), (3, .one (.int .i64) a3), (4, .one (.int .i64) a4), (7, ptr b1 0), (11, ptr b4 0), (12, ptr b7 0), (43, .one .bool false), (56, .one .bool false)]) rfl ?_
              refine r_nil ?_
              refine r_then ?_
              exact r_meetg () rfl rfl
          refine r_pure tabOk 1 [0, 3, 4, 7, 11, 12, 57] (E' := [(0, .one (.int .i64) a0), (3, .one (.int .i64) a3), (4, .one (.int .i64) a4), (7, ptr b1 0), (11, ptr b4 0), (12, ptr b7 0), (57, .one .bool (o27 && (decide (a3 ≤ a4))))]) rfl ?_
          refine r_nil ?_
          refine r_less [0, 3, 4, 7, 11, 12, 57] rfl ?_
          refine r_then ?_
          exact r_meetk (o27 && (decide (a3 ≤ a4))) () h rfl rfl
    · intro o23 _ h
      rw [← hk22] at h
      try dsimp only at h
      refine r_nil ?_
      refine r_then ?_
      refine r_if (b := o23) rfl (fun hc => ?_) (fun hc => ?_)
      · rw [if_pos hc] at h
        refine r_seq ?_
        refine r_region ?_
        refine r_pure tabOk 1 [10] (E' := [(10, .one .bool false)]) rfl ?_
        refine r_nil ?_
        refine r_then ?_
        refine r_ret ?_
        refine t_then ?_
        obtain rfl := Option.some.inj h
        exact r_ret1 rfl (.tmp rfl) (fun _ _ g => g) (fun _ _ _ => List.nil_sublist _)
      · rw [if_neg (ne_true_of_eq_false hc)] at h
        refine r_skip ?_
        refine r_then ?_
        refine r_seq ?_
        refine r_seq ?_
        refine r_region ?_
        refine y (y_load 0 .here rfl rfl (by first | rfl | (simp only [Pth.off, T.size]; omega)) ok_here ty32) rfl ?_
        refine r_pure tabOk 1 [0, 3, 4, 7, 11, 12, 58, 59] (E' := [(0, .one (.int .i64) a0), (3, .one (.int .i64) a3), (4, .one (.int .i64) a4), (7, ptr b1 0), (11, ptr b4 0), (12, ptr b7 0), (58, .one Y32 r6), (59, .one (.int .i64) a3)]) rfl ?_
        obtain ⟨r30, hr30, h⟩ := bind_ex h
        refine r_calls (gate_Gate_MayBroadcast_ok r6 a3 _ hr30) (by kernel_rfl) rfl rfl ?_
        refine r_pure tabOk 1 [0, 3, 4, 7, 11, 12, 61] (E' := [(0, .one (.int .i64) a0), (3, .one (.int .i64) a3), (4, .one (.int .i64) a4), (7, ptr b1 0), (11, ptr b4 0), (12, ptr b7 0), (61, .one .bool r30)]) rfl ?_
        obtain ⟨k32, hk32, h⟩ := bnd_ex h
        refine r_lsplitk (γ := Unit) 5 (fun (o33 : Bool) _ => [(0, .one (.int .i64) a0), (3, .one (.int .i64) a3), (4, .one (.int .i64) a4), (7, ptr b1 0), (11, ptr b4 0), (12, ptr b7 0), (66, .one .bool o33)]) (fun _ _ => [Res.var b7 32 Y32 r6, Res.var b4 32 Y32 r3, Res.var b1 30 Y30 a2]) k32 r ?_ ?_
        · rcases Bool.eq_false_or_eq_true r30 with hh | hh
          · rw [hh] at h ⊢
            rw [if_pos rfl] at h
            refine r_guard (by rfl) rfl ?_
            refine y (y_load 1 .here rfl rfl (by first | rfl | (simp only [Pth.off, T.size]; omega)) ok_here ty32) rfl ?_
            refine r_pure tabOk 1 [0, 3, 4, 7, 11, 12, 61, 62, 63] (E' := [(0, .one (.int .i64) a0), (3, .one (.int .i64) a3), (4, .one (.int .i64) a4), (7, ptr b1 0), (11, ptr b4 0), (12, ptr b7 0), (61, .one .bool true), (62, .one Y32 r3), (63, .one (.int .i64) a3)]) rfl ?_
            refine r_guard (by rfl) rfl ?_
            obtain ⟨r34, hr34, h⟩ := bind_ex h
            refine r_calls (gate_Gate_MayBroadcast_ok r3 a3 _ hr34) (by kernel_rfl) rfl rfl ?_
            refine r_pure tabOk 2 [0, 3, 4, 7, 11, 12, 66] (E' := [(0, .one (.int .i64) a0), (3, .one (.int .i64) a3), (4, .one (.int .i64) a4), (7, ptr b1 0), (11, ptr b4 0), (12, ptr b7 0), (66, .one .bool (!r34))]) rfl ?_
            refine r_nil ?_
            refine r_less [0, 3, 4, 7, 11, 12, 66] rfl ?_
            refine r_then ?_
            exact r_meetk (!r34) () h rfl rfl
          · rw [hh] at h ⊢
            rw [if_neg (by decide)] at h
            refine r_pure tabOk 5 [0, 3, 4, 7, 11, 12, 66] (E' := [(0, .one (.int .i64) a0), (3, .one (.int .i64) a3), (4, .one (.int .i64) a4), (7, ptr b1 0), (11, ptr b4 0), (12, ptr b7 0), (66, .one .bool false)]) rfl ?_
            refine r_nil ?_
            refine r_less [0, 3, 4, 7, 11, 12, 66] rfl ?_
            refine r_then ?_
            exact r_meetk false () h rfl rfl
        · intro o33 _ h
          rw [← hk32] at h
          try dsimp only at h
          refine r_pure tabOk 1 [0, 3, 4, 7, 11, 12, 67] (E' := [(0, .one (.int .i64) a0), (3, .one (.int .i64) a3), (4, .one (.int .i64) a4), (7, ptr b1 0), (11, ptr b4 0), (12, ptr b7 0), (67, .one .bool o33)]) rfl ?_
          obtain ⟨k36, hk36, h⟩ := bnd_ex h
          refine r_lsplitk (γ := Unit) 10 (fun (o37 : Bool) _ => [(0, .one (.int .i64) a0), (3, .one (.int .i64) a3), (4, .one (.int .i64) a4), (7, ptr b1 0), (77, .one .bool o37)]) (fun _ _ => [Res.var b7 32 Y32 r6, Res.var b4 32 Y32 r3, Res.var b1 30 Y30 a2]) k36 r ?_ ?_
          · rcases Bool.eq_false_or_eq_true o33 with hh | hh
            · rw [hh] at h ⊢
              rw [if_pos rfl] at h
              refine r_pure tabOk 10 [0, 3, 4, 7, 77] (E' := [(0, .one (.int .i64) a0), (3, .one (.int .i64) a3), (4, .one (.int .i64) a4), (7, ptr b1 0), (77, .one .bool true)]) rfl ?_
              refine r_nil ?_
              refine r_less [0, 3, 4, 7, 77] rfl ?_
              refine r_then ?_
              exact r_meetk true () h rfl rfl
            · rw [hh] at h ⊢
              rw [if_neg (by decide)] at h
              refine r_guard (by rfl) rfl ?_
              refine y (y_load 1 .here rfl rfl (by first | rfl | (simp only [Pth.off, T.size]; omega)) ok_here ty32) rfl ?_
              refine r_pure tabOk 1 [0, 3, 4, 7, 12, 67, 68, 69] (E' := [(0, .one (.int .i64) a0), (3, .one (.int .i64) a3), (4, .one (.int .i64) a4), (7, ptr b1 0), (12, ptr b7 0), (67, .one .bool false), (68, .one Y32 r3), (69, .one (.int .i64) a4)]) rfl ?_
              refine r_guard (by rfl) rfl ?_
              obtain ⟨r38, hr38, h⟩ := bind_ex h
              refine r_calls (gate_Gate_MaySend_ok r3 a4 _ hr38) (by kernel_rfl) rfl rfl ?_
              refine r_pure tabOk 1 [0, 3, 4, 7, 12, 67, 71] (E' := [(0, .one (.int .i64) a0), (3, .one (.int .i64) a3), (4, .one (.int .i64) a4), (7, ptr b1 0), (12, ptr b7 0), (67, .one .bool false), (71, .one .bool r38)]) rfl ?_
              obtain ⟨k40, hk40, h⟩ := bnd_ex h
              refine r_lsplitk (γ := Unit) 5 (fun (o41 : Bool) _ => [(0, .one (.int .i64) a0), (3, .one (.int .i64) a3), (4, .one (.int .i64) a4), (7, ptr b1 0), (67, .one .bool false), (76, .one .bool o41)]) (fun _ _ => [Res.var b7 32 Y32 r6, Res.var b4 32 Y32 r3, Res.var b1 30 Y30 a2]) k40 r ?_ ?_
              · rcases Bool.eq_false_or_eq_true r38 with hh | hh
                · rw [hh] at h ⊢
                  rw [if_pos rfl] at h
                  refine r_guard (by rfl) rfl ?_
                  refine y (y_load 0 .here rfl rfl (by first | rfl | (simp only [Pth.off, T.size]; omega)) ok_here ty32) rfl ?_
                  refine r_pure tabOk 1 [0, 3, 4, 7, 67, 71, 72, 73] (E' := [(0, .one (.int .i64) a0), (3, .one (.int .i64) a3), (4, .one (.int .i64) a4), (7, ptr b1 0), (67, .one .bool false), (71, .one .bool true), (72, .one Y32 r6), (73, .one (.int .i64) a4)]) rfl ?_
                  refine r_guard (by rfl) rfl ?_
                  obtain ⟨r42, hr42, h⟩ := bind_ex h
                  refine r_calls (gate_Gate_MaySend_ok r6 a4 _ hr42) (by kernel_rfl) rfl rfl ?_
                  refine r_pure tabOk 2 [0, 3, 4, 7, 67, 76] (E' := [(0, .one (.int .i64) a0), (3, .one (.int .i64) a3), (4, .one (.int .i64) a4), (7, ptr b1 0), (67, .one .bool false), (76, .one .bool (!r42))]) rfl ?_
                  refine r_nil ?_
                  refine r_less [0, 3, 4, 7, 67, 76] rfl ?_
                  refine r_then ?_
                  exact r_meetk (!r42) () h rfl rfl
                · rw [hh] at h ⊢
                  rw [if_neg (by decide)] at h
                  refine r_pure tabOk 5 [0, 3, 4, 7, 67, 76] (E' := [(0, .one (.int .i64) a0), (3, .one (.int .i64) a3), (4, .one (.int .i64) a4), (7, ptr b1 0), (67, .one .bool false), (76, .one .bool false)]) rfl ?_
                  refine r_nil ?_
                  refine r_less [0, 3, 4, 7, 67, 76] rfl ?_
                  refine r_then ?_
                  exact r_meetk false () h rfl rfl
              · intro o41 _ h
                rw [← hk40] at h
                try dsimp only at h
                refine r_pure tabOk 1 [0, 3, 4, 7, 77] (E' := [(0, .one (.int .i64) a0), (3, .one (.int .i64) a3), (4, .one (.int .i64) a4), (7, ptr b1 0), (77, .one .bool o41)]) rfl ?_
                refine r_nil ?_
                refine r_less [0, 3, 4, 7, 77] rfl ?_
                refine r_then ?_
                exact r_meetk o41 () h rfl rfl
          · intro o37 _ h
            rw [← hk36] at h
            try dsimp only at h
            refine r_nil ?_
            refine r_then ?_
            refine r_if (b := o37) rfl (fun hc => ?_) (fun hc => ?_)
            · rw [if_pos hc] at h
              refine r_seq ?_
              refine r_region ?_
              refine r_pure tabOk 1 [10] (E' := [(10, .one .bool false)]) rfl ?_
              refine r_nil ?_
              refine r_then ?_
              refine r_ret ?_
              refine t_then ?_
              obtain rfl := Option.some.inj h
              exact r_ret1 rfl (.tmp rfl) (fun _ _ g => g) (fun _ _ _ => List.nil_sublist _)
            · rw [if_neg (ne_true_of_eq_false hc)] at h
              refine r_skip ?_
              refine r_then ?_
              refine r_seq ?_
              refine r_region ?_
              refine y (y_load 2 .here rfl rfl (by first | rfl | (simp only [Pth.off, T.size]; omega)) ok_here ty30) rfl ?_
              refine r_alloc (t := Y30) rfl zf30 rfl fun b43 => ?_
              refine r_store 0 .here rfl rfl rfl (by first | rfl | (simp only [Pth.off, T.size]; omega)) ok_here ty30 ?_
              refine r_nil ?_
              refine r_then ?_
              refine r_seq ?_
              refine r_region ?_
              refine r_pure tabOk 1 [0, 3, 4, 7, 13, 79] (E' := [(0, .one (.int .i64) a0), (3, .one (.int .i64) a3), (4, .one (.int .i64) a4), (7, ptr b1 0), (13, ptr b43 0), (79, ptr b43 113)]) rfl ?_
              refine r_store 0 ((.snd (.snd (.snd (.snd (.snd (.snd (.snd (.snd (.snd (.snd (.snd (.snd (.snd (.snd (.snd (.snd (.fst .here)))))))))))))))))) rfl rfl rfl (by first | rfl | (simp only [Pth.off, T.size]; omega)) (ok_snd (ok_snd (ok_snd (ok_snd (ok_snd (ok_snd (ok_snd (ok_snd (ok_snd (ok_snd (ok_snd (ok_snd (ok_snd (ok_snd (ok_snd (ok_snd (ok_fst ok_here))))))))))))))))) ty3 ?_
              refine r_nil ?_
              refine r_then ?_
              refine r_seq ?_
              refine r_region ?_
              refine r_pure tabOk 1 [0, 3, 4, 7, 13, 80] (E' := [(0, .one (.int .i64) a0), (3, .one (.int .i64) a3), (4, .one (.int .i64) a4), (7, ptr b1 0), (13, ptr b43 0), (80, .one (.int .i64) a0)]) rfl ?_
              refine y (y_load 0 .here rfl rfl (by first | rfl | (simp only [Pth.off, T.size]; omega)) ok_here ty30) rfl ?_
              obtain ⟨r45, hr45, h⟩ := bind_ex h
              refine r_calls (gate_Of_ok a0 (a2.1, a2.2.1, a2.2.2.1, a2.2.2.2.1, a2.2.2.2.2.1, a2.2.2.2.2.2.1, a2.2.2.2.2.2.2.1, a2.2.2.2.2.2.2.2.1, a2.2.2.2.2.2.2.2.2.1, a2.2.2.2.2.2.2.2.2.2.1, a2.2.2.2.2.2.2.2.2.2.2.1, a2.2.2.2.2.2.2.2.2.2.2.2.1, a2.2.2.2.2.2.2.2.2.2.2.2.2.1, a2.2.2.2.2.2.2.2.2.2.2.2.2.2.1, a2.2.2.2.2.2.2.2.2.2.2.2.2.2.2.1, a2.2.2.2.2.2.2.2.2.2.2.2.2.2.2.2.1, 180, a2.2.2.2.2.2.2.2.2.2.2.2.2.2.2.2.2.2) _ hr45) (by kernel_rfl) rfl rfl ?_
              refine r_alloc (t := Y32) rfl zf32 rfl fun b46 => ?_
              refine r_store 0 .here rfl rfl rfl (by first | rfl | (simp only [Pth.off, T.size]; omega)) ok_here ty32 ?_
              refine r_nil ?_
              refine r_then ?_
              refine r_seq ?_
              refine r_seq ?_
              refine r_region ?_
              refine y (y_load 0 .here rfl rfl (by first | rfl | (simp only [Pth.off, T.size]; omega)) ok_here ty32) rfl ?_
              refine r_pure tabOk 1 [0, 3, 4, 7, 14, 83, 84] (E' := [(0, .one (.int .i64) a0), (3, .one (.int .i64) a3), (4, .one (.int .i64) a4), (7, ptr b1 0), (14, ptr b46 0), (83, .one Y32 r45), (84, .one (.int .i64) a3)]) rfl ?_
              obtain ⟨r48, hr48, h⟩ := bind_ex h
              refine r_calls (gate_Gate_MayBroadcast_ok r45 a3 _ hr48) (by kernel_rfl) rfl rfl ?_
              refine r_pure tabOk 1 [0, 3, 4, 7, 14, 86] (E' := [(0, .one (.int .i64) a0), (3, .one (.int .i64) a3), (4, .one (.int .i64) a4), (7, ptr b1 0), (14, ptr b46 0), (86, .one .bool r48)]) rfl ?_
              obtain ⟨k50, hk50, h⟩ := bnd_ex h
              refine r_lsplitk (γ := Unit) 4 (fun (o51 : Bool) _ => [(0, .one (.int .i64) a0), (3, .one (.int .i64) a3), (4, .one (.int .i64) a4), (7, ptr b1 0), (14, ptr b46 0), (90, .one .bool o51)]) (fun _ _ => [Res.var b46 32 Y32 r45, Res.var b43 30 Y30 (a2.1, a2.2.1, a2.2.2.1, a2.2.2.2.1, a2.2.2.2.2.1, a2.2.2.2.2.2.1, a2.2.2.2.2.2.2.1, a2.2.2.2.2.2.2.2.1, a2.2.2.2.2.2.2.2.2.1, a2.2.2.2.2.2.2.2.2.2.1, a2.2.2.2.2.2.2.2.2.2.2.1, a2.2.2.2.2.2.2.2.2.2.2.2.1, a2.2.2.2.2.2.2.2.2.2.2.2.2.1, a2.2.2.2.2.2.2.2.2.2.2.2.2.2.1, a2.2.2.2.2.2.2.2.2.2.2.2.2.2.2.1, a2.2.2.2.2.2.2.2.2.2.2.2.2.2.2.2.1, 180, a2.2.2.2.2.2.2.2.2.2.2.2.2.2.2.2.2.2), Res.var b7 32 Y32 r6, Res.var b4 32 Y32 r3, Res.var b1 30 Y30 a2]) k50 r ?_ ?_
              · rcases Bool.eq_false_or_eq_true r48 with hh | hh
                · rw [hh] at h ⊢
                  rw [if_pos rfl] at h
                  refine r_pure tabOk 4 [0, 3, 4, 7, 14, 90] (E' := [(0, .one (.int .i64) a0), (3, .one (.int .i64) a3), (4, .one (.int .i64) a4), (7, ptr b1 0), (14, ptr b46 0), (90, .one .bool true)]) rfl ?_
                  refine r_nil ?_
                  refine r_less [0, 3, 4, 7, 14, 90] rfl ?_
                  refine r_then ?_
                  exact r_meetk true () h rfl rfl
                · rw [hh] at h ⊢
                  rw [if_neg (by decide)] at h
                  refine r_guard (by rfl) rfl ?_
                  refine y (y_load 0 .here rfl rfl (by first | rfl | (simp only [Pth.off, T.size]; omega)) ok_here ty32) rfl ?_
                  refine r_pure tabOk 1 [0, 3, 4, 7, 14, 86, 87, 88] (E' := [(0, .one (.int .i64) a0), (3, .one (.int .i64) a3), (4, .one (.int .i64) a4), (7, ptr b1 0), (14, ptr b46 0), (86, .one .bool false), (87, .one Y32 r45), (88, .one (.int .i64) a4)]) rfl ?_
                  refine r_guard (by rfl) rfl ?_
                  obtain ⟨r52, hr52, h⟩ := bind_ex h
                  refine r_calls (gate_Gate_MaySend_ok r45 a4 _ hr52) (by kernel_rfl) rfl rfl ?_
                  refine r_pure tabOk 1 [0, 3, 4, 7, 14, 90] (E' := [(0, .one (.int .i64) a0), (3, .one (.int .i64) a3), (4, .one (.int .i64) a4), (7, ptr b1 0), (14, ptr b46 0), (90, .one .bool r52)]) rfl ?_
                  refine r_nil ?_
                  refine r_less [0, 3, 4, 7, 14, 90] rfl ?_
                  refine r_then ?_
                  exact r_meetk r52 () h rfl rfl
              · intro o51 _ h
                rw [← hk50] at h
                try dsimp only at h
                refine r_pure tabOk 1 [0, 3, 4, 7, 14, 91] (E' := [(0, .one (.int .i64) a0), (3, .one (.int .i64) a3), (4, .one (.int .i64) a4), (7, ptr b1 0), (14, ptr b46 0), (91, .one .bool o51)]) rfl ?_
                obtain ⟨k54, hk54, h⟩ := bnd_ex h
                refine r_lsplitk (γ := Unit) 6 (fun (o55 : Bool) _ => [(0, .one (.int .i64) a0), (3, .one (.int .i64) a3), (4, .one (.int .i64) a4), (7, ptr b1 0), (14, ptr b46 0), (97, .one .bool o55)]) (fun _ _ => [Res.var b46 32 Y32 r45, Res.var b43 30 Y30 (a2.1, a2.2.1, a2.2.2.1, a2.2.2.2.1, a2.2.2.2.2.1, a2.2.2.2.2.2.1, a2.2.2.2.2.2.2.1, a2.2.2.2.2.2.2.2.1, a2.2.2.2.2.2.2.2.2.1, a2.2.2.2.2.2.2.2.2.2.1, a2.2.2.2.2.2.2.2.2.2.2.1, a2.2.2.2.2.2.2.2.2.2.2.2.1, a2.2.2.2.2.2.2.2.2.2.2.2.2.1, a2.2.2.2.2.2.2.2.2.2.2.2.2.2.1, a2.2.2.2.2.2.2.2.2.2.2.2.2.2.2.1, a2.2.2.2.2.2.2.2.2.2.2.2.2.2.2.2.1, 180, a2.2.2.2.2.2.2.2.2.2.2.2.2.2.2.2.2.2), Res.var b7 32 Y32 r6, Res.var b4 32 Y32 r3, Res.var b1 30 Y30 a2]) k54 r ?_ ?_
                · rcases Bool.eq_false_or_eq_true o51 with hh | hh
                  · rw [hh] at h ⊢
                    rw [if_pos rfl] at h
                    refine r_pure tabOk 6 [0, 3, 4, 7, 14, 97] (E' := [(0, .one (.int .i64) a0), (3, .one (.int .i64) a3), (4, .one (.int .i64) a4), (7, ptr b1 0), (14, ptr b46 0), (97, .one .bool true)]) rfl ?_
                    refine r_nil ?_
                    refine r_less [0, 3, 4, 7, 14, 97] rfl ?_
                    refine r_then ?_
                    exact r_meetk true () h rfl rfl
                  · rw [hh] at h ⊢
                    rw [if_neg (by decide)] at h
                    refine r_guard (by rfl) rfl ?_
                    refine y (y_load 0 .here rfl rfl (by first | rfl | (simp only [Pth.off, T.size]; omega)) ok_here ty32) rfl ?_
                    refine r_pure tabOk 2 [0, 3, 4, 7, 14, 91, 92, 93, 94] (E' := [(0, .one (.int .i64) a0), (3, .one (.int .i64) a3), (4, .one (.int .i64) a4), (7, ptr b1 0), (14, ptr b46 0), (91, .one .bool false), (92, .one Y32 r45), (93, .one (.int .i64) a3), (94, ptr b1 11)]) rfl ?_
                    refine r_guard (by rfl) rfl ?_
                    refine y (y_load 4 ((.snd (.snd (.snd (.snd (.snd (.snd (.snd (.snd (.snd (.snd (.fst .here)))))))))))) rfl rfl (by first | rfl | (simp only [Pth.off, T.size]; omega)) (ok_snd (ok_snd (ok_snd (ok_snd (ok_snd (ok_snd (ok_snd (ok_snd (ok_snd (ok_snd (ok_fst ok_here))))))))))) ty24) rfl ?_
                    refine r_guard (by rfl) rfl ?_
                    obtain ⟨r56, hr56, h⟩ := bind_ex h
                    refine r_calls (gate_Gate_MaySign_ok r45 a3 a2.2.2.2.2.2.2.2.2.2.2.1 _ hr56) (by kernel_rfl) rfl rfl ?_
                    refine r_pure tabOk 1 [0, 3, 4, 7, 14, 97] (E' := [(0, .one (.int .i64) a0), (3, .one (.int .i64) a3), (4, .one (.int .i64) a4), (7, ptr b1 0), (14, ptr b46 0), (97, .one .bool r56)]) rfl ?_
                    refine r_nil ?_
                    refine r_less [0, 3, 4, 7, 14, 97] rfl ?_
                    refine r_then ?_
                    exact r_meetk r56 () h rfl rfl
                · intro o55 _ h
                  rw [← hk54] at h
                  try dsimp only at h
                  refine r_pure tabOk 1 [0, 3, 4, 7, 14, 98] (E' := [(0, .one (.int .i64) a0), (3, .one (.int .i64) a3), (4, .one (.int .i64) a4), (7, ptr b1 0), (14, ptr b46 0), (98, .one .bool o55)]) rfl ?_
                  obtain ⟨k58, hk58, h⟩ := bnd_ex h
                  refine r_lsplitk (γ := Unit) 11 (fun (o59 : Bool) _ => [(0, .one (.int .i64) a0), (3, .one (.int .i64) a3), (4, .one (.int .i64) a4), (7, ptr b1 0), (109, .one .bool o59)]) (fun _ _ => [Res.var b46 32 Y32 r45, Res.var b43 30 Y30 (a2.1, a2.2.1, a2.2.2.1, a2.2.2.2.1, a2.2.2.2.2.1, a2.2.2.2.2.2.1, a2.2.2.2.2.2.2.1, a2.2.2.2.2.2.2.2.1, a2.2.2.2.2.2.2.2.2.1, a2.2.2.2.2.2.2.2.2.2.1, a2.2.2.2.2.2.2.2.2.2.2.1, a2.2.2.2.2.2.2.2.2.2.2.2.1, a2.2.2.2.2.2.2.2.2.2.2.2.2.1, a2.2.2.2.2.2.2.2.2.2.2.2.2.2.1, a2.2.2.2.2.2.2.2.2.2.2.2.2.2.2.1, a2.2.2.2.2.2.2.2.2.2.2.2.2.2.2.2.1, 180, a2.2.2.2.2.2.2.2.2.2.2.2.2.2.2.2.2.2), Res.var b7 32 Y32 r6, Res.var b4 32 Y32 r3, Res.var b1 30 Y30 a2]) k58 r ?_ ?_
                  · rcases Bool.eq_false_or_eq_true o55 with hh | hh
                    · rw [hh] at h ⊢
                      rw [if_pos rfl] at h
                      refine r_pure tabOk 11 [0, 3, 4, 7, 109] (E' := [(0, .one (.int .i64) a0), (3, .one (.int .i64) a3), (4, .one (.int .i64) a4), (7, ptr b1 0), (109, .one .bool true)]) rfl ?_
                      refine r_nil ?_
                      refine r_less [0, 3, 4, 7, 109] rfl ?_
                      refine r_then ?_
                      exact r_meetk true () h rfl rfl
                    · rw [hh] at h ⊢
                      rw [if_neg (by decide)] at h
                      refine r_guard (by rfl) rfl ?_
                      refine y (y_load 0 .here rfl rfl (by first | rfl | (simp only [Pth.off, T.size]; omega)) ok_here ty32) rfl ?_
                      refine r_pure tabOk 2 [0, 3, 4, 7, 98, 99, 100, 101] (E' := [(0, .one (.int .i64) a0), (3, .one (.int .i64) a3), (4, .one (.int .i64) a4), (7, ptr b1 0), (98, .one .bool false), (99, .one Y32 r45), (100, .one (.int .i64) a4), (101, ptr b1 4)]) rfl ?_
                      refine r_guard (by rfl) rfl ?_
                      refine y (y_load 4 ((.snd (.snd (.snd (.snd (.fst .here)))))) rfl rfl (by first | rfl | (simp only [Pth.off, T.size]; omega)) (ok_snd (ok_snd (ok_snd (ok_snd (ok_fst ok_here))))) ty22) rfl ?_
                      refine r_pure tabOk 3 [0, 3, 4, 7, 98, 99, 100, 103, 105] (E' := [(0, .one (.int .i64) a0), (3, .one (.int .i64) a3), (4, .one (.int .i64) a4), (7, ptr b1 0), (98, .one .bool false), (99, .one Y32 r45), (100, .one (.int .i64) a4), (103, .one (.int .i64) (List.length a2.2.2.2.2.1 : Int)), (105, ptr b1 10)]) rfl ?_
                      refine r_guard (by rfl) rfl ?_
                      refine y (y_load 4 ((.snd (.snd (.snd (.snd (.snd (.snd (.snd (.snd (.snd (.fst ((.snd (.fst .here)))))))))))))) rfl rfl (by first | rfl | (simp only [Pth.off, T.size]; omega)) (ok_snd (ok_snd (ok_snd (ok_snd (ok_snd (ok_snd (ok_snd (ok_snd (ok_snd (ok_fst (ok_snd (ok_fst ok_here)))))))))))) ty3) rfl ?_
                      refine r_guard (by rfl) rfl ?_
                      refine y (y_build rfl zf24 rfl rfl (.cons ((.fst .here)) rfl rfl ok_here (.cons ((.snd (.fst .here))) rfl rfl ok_here .nil))) rfl ?_
                      refine r_guard (by rfl) rfl ?_
                      obtain ⟨r60, hr60, h⟩ := bind_ex h
                      refine r_calls (gate_Gate_MaySign_ok r45 a4 ((List.length a2.2.2.2.2.1 : Int), a2.2.2.2.2.2.2.2.2.2.1.2.1, ()) _ hr60) (by kernel_rfl) rfl rfl ?_
                      refine r_pure tabOk 1 [0, 3, 4, 7, 109] (E' := [(0, .one (.int .i64) a0), (3, .one (.int .i64) a3), (4, .one (.int .i64) a4), (7, ptr b1 0), (109, .one .bool r60)]) rfl ?_
                      refine r_nil ?_
                      refine r_less [0, 3, 4, 7, 109] rfl ?_
                      refine r_then ?_
                      exact r_meetk r60 () h rfl rfl
                  · intro o59 _ h
                    rw [← hk58] at h
                    try dsimp only at h
                    refine r_nil ?_
                    refine r_then ?_
                    refine r_if (b := o59) rfl (fun hc => ?_) (fun hc => ?_)
                    · rw [if_pos hc] at h
                      refine r_seq ?_
                      refine r_region ?_
                      refine r_pure tabOk 1 [10] (E' := [(10, .one .bool false)]) rfl ?_
                      refine r_nil ?_
                      refine r_then ?_
                      refine r_ret ?_
                      refine t_then ?_
                      obtain rfl := Option.some.inj h
                      exact r_ret1 rfl (.tmp rfl) (fun _ _ g => g) (fun _ _ _ => List.nil_sublist _)
                    · rw [if_neg (ne_true_of_eq_false hc)] at h
                      refine r_skip ?_
                      refine r_then ?_
                      refine r_seq ?_
                      refine r_region ?_
                      refine y (y_load 4 .here rfl rfl (by first | rfl | (simp only [Pth.off, T.size]; omega)) ok_here ty30) rfl ?_
                      refine r_alloc (t := Y30) rfl zf30 rfl fun b61 => ?_
                      refine r_store 0 .here rfl rfl rfl (by first | rfl | (simp only [Pth.off, T.size]; omega)) ok_here ty30 ?_
                      refine r_nil ?_
                      refine r_then ?_
                      refine r_seq ?_
                      refine r_region ?_
                      refine r_pure tabOk 2 [0, 3, 4, 7, 15, 111, 112] (E' := [(0, .one (.int .i64) a0), (3, .one (.int .i64) a3), (4, .one (.int .i64) a4), (7, ptr b1 0), (15, ptr b61 0), (111, .one (.int .i64) a3), (112, ptr b61 114)]) rfl ?_
                      refine r_store 0 ((.snd (.snd (.snd (.snd (.snd (.snd (.snd (.snd (.snd (.snd (.snd (.snd (.snd (.snd (.snd (.snd (.snd (.fst .here))))))))))))))))))) rfl rfl rfl (by first | rfl | (simp only [Pth.off, T.size]; omega)) (ok_snd (ok_snd (ok_snd (ok_snd (ok_snd (ok_snd (ok_snd (ok_snd (ok_snd (ok_snd (ok_snd (ok_snd (ok_snd (ok_snd (ok_snd (ok_snd (ok_snd (ok_fst ok_here)))))))))))))))))) ty2 ?_
                      refine r_nil ?_
                      refine r_then ?_
                      refine r_seq ?_
                      refine r_region ?_
                      refine r_pure tabOk 1 [3, 4, 7, 15, 113] (E' := [(3, .one (.int .i64) a3), (4, .one (.int .i64) a4), (7, ptr b1 0), (15, ptr b61 0), (113, .one (.int .i64) a0)]) rfl ?_
                      refine y (y_load 0 .here rfl rfl (by first | rfl | (simp only [Pth.off, T.size]; omega)) ok_here ty30) rfl ?_
                      obtain ⟨r63, hr63, h⟩ := bind_ex h
                      refine r_calls (gate_Of_ok a0 (a2.1, a2.2.1, a2.2.2.1, a2.2.2.2.1, a2.2.2.2.2.1, a2.2.2.2.2.2.1, a2.2.2.2.2.2.2.1, a2.2.2.2.2.2.2.2.1, a2.2.2.2.2.2.2.2.2.1, a2.2.2.2.2.2.2.2.2.2.1, a2.2.2.2.2.2.2.2.2.2.2.1, a2.2.2.2.2.2.2.2.2.2.2.2.1, a2.2.2.2.2.2.2.2.2.2.2.2.2.1, a2.2.2.2.2.2.2.2.2.2.2.2.2.2.1, a2.2.2.2.2.2.2.2.2.2.2.2.2.2.2.1, a2.2.2.2.2.2.2.2.2.2.2.2.2.2.2.2.1, a2.2.2.2.2.2.2.2.2.2.2.2.2.2.2.2.2.1, a3, a2.2.2.2.2.2.2.2.2.2.2.2.2.2.2.2.2.2.2) _ hr63) (by kernel_rfl) rfl rfl ?_
                      refine r_alloc (t := Y32) rfl zf32 rfl fun b64 => ?_
                      refine r_store 0 .here rfl rfl rfl (by first | rfl | (simp only [Pth.off, T.size]; omega)) ok_here ty32 ?_
                      refine r_nil ?_
                      refine r_then ?_
                      refine r_seq ?_
                      refine r_region ?_
                      refine r_pure tabOk 3 [3, 4, 7, 16, 118] (E' := [(3, .one (.int .i64) a3), (4, .one (.int .i64) a4), (7, ptr b1 0), (16, ptr b64 0), (118, .one .bool (a3 == (-1)))]) rfl ?_
                      obtain ⟨b66, hbb66, h⟩ := bnd_ex h
                      rw [hbb66]
                      obtain ⟨k67, hk67, h⟩ := bnd_ex h
                      refine r_lsplitk (γ := Unit) 24 (fun (o68 : Bool) _ => [(142, .one .bool o68)]) (fun _ _ => [Res.var b64 32 Y32 r63, Res.var b61 30 Y30 (a2.1, a2.2.1, a2.2.2.1, a2.2.2.2.1, a2.2.2.2.2.1, a2.2.2.2.2.2.1, a2.2.2.2.2.2.2.1, a2.2.2.2.2.2.2.2.1, a2.2.2.2.2.2.2.2.2.1, a2.2.2.2.2.2.2.2.2.2.1, a2.2.2.2.2.2.2.2.2.2.2.1, a2.2.2.2.2.2.2.2.2.2.2.2.1, a2.2.2.2.2.2.2.2.2.2.2.2.2.1, a2.2.2.2.2.2.2.2.2.2.2.2.2.2.1, a2.2.2.2.2.2.2.2.2.2.2.2.2.2.2.1, a2.2.2.2.2.2.2.2.2.2.2.2.2.2.2.2.1, a2.2.2.2.2.2.2.2.2.2.2.2.2.2.2.2.2.1, a3, a2.2.2.2.2.2.2.2.2.2.2.2.2.2.2.2.2.2.2), Res.var b46 32 Y32 r45, Res.var b43 30 Y30 (a2.1, a2.2.1, a2.2.2.1, a2.2.2.2.1, a2.2.2.2.2.1, a2.2.2.2.2.2.1, a2.2.2.2.2.2.2.1, a2.2.2.2.2.2.2.2.1, a2.2.2.2.2.2.2.2.2.1, a2.2.2.2.2.2.2.2.2.2.1, a2.2.2.2.2.2.2.2.2.2.2.1, a2.2.2.2.2.2.2.2.2.2.2.2.1, a2.2.2.2.2.2.2.2.2.2.2.2.2.1, a2.2.2.2.2.2.2.2.2.2.2.2.2.2.1, a2.2.2.2.2.2.2.2.2.2.2.2.2.2.2.1, a2.2.2.2.2.2.2.2.2.2.2.2.2.2.2.2.1, 180, a2.2.2.2.2.2.2.2.2.2.2.2.2.2.2.2.2.2), Res.var b7 32 Y32 r6, Res.var b4 32 Y32 r3, Res.var b1 30 Y30 a2]) k67 r ?_ ?_
                      · rcases Bool.eq_false_or_eq_true b66 with hh | hh
                        · rw [hh] at h ⊢
                          rw [if_pos rfl] at h
                          refine r_pure tabOk 24 [142] (E' := [(142, .one .bool true)]) rfl ?_
                          refine r_nil ?_
                          refine r_less [142] rfl ?_
                          refine r_then ?_
                          exact r_meetk true () h rfl rfl
                        · rw [hh] at h ⊢
                          rw [if_neg (by decide)] at h
                          refine r_guard (by rfl) rfl ?_
                          refine y (y_load 0 .here rfl rfl (by first | rfl | (simp only [Pth.off, T.size]; omega)) ok_here ty32) rfl ?_
                          refine r_pure tabOk 1 [3, 4, 7, 16, 118, 119, 120] (E' := [(3, .one (.int .i64) a3), (4, .one (.int .i64) a4), (7, ptr b1 0), (16, ptr b64 0), (118, .one .bool false), (119, .one Y32 r63), (120, .one (.int .i64) a4)]) rfl ?_
                          refine r_guard (by rfl) rfl ?_
                          obtain ⟨r69, hr69, h⟩ := bind_ex h
                          refine r_calls (gate_Gate_MaySend_ok r63 a4 _ hr69) (by kernel_rfl) rfl rfl ?_
                          refine r_pure tabOk 2 [3, 4, 7, 16, 118, 123] (E' := [(3, .one (.int .i64) a3), (4, .one (.int .i64) a4), (7, ptr b1 0), (16, ptr b64 0), (118, .one .bool false), (123, .one .bool (!r69))]) rfl ?_
                          obtain ⟨b70, hbb70, h⟩ := bnd_ex h
                          rw [hbb70]
                          obtain ⟨k71, hk71, h⟩ := bnd_ex h
                          refine r_lsplitk (γ := Unit) 7 (fun (o72 : Bool) _ => [(3, .one (.int .i64) a3), (4, .one (.int .i64) a4), (16, ptr b64 0), (118, .one .bool false), (130, .one .bool o72)]) (fun _ _ => [Res.var b64 32 Y32 r63, Res.var b61 30 Y30 (a2.1, a2.2.1, a2.2.2.1, a2.2.2.2.1, a2.2.2.2.2.1, a2.2.2.2.2.2.1, a2.2.2.2.2.2.2.1, a2.2.2.2.2.2.2.2.1, a2.2.2.2.2.2.2.2.2.1, a2.2.2.2.2.2.2.2.2.2.1, a2.2.2.2.2.2.2.2.2.2.2.1, a2.2.2.2.2.2.2.2.2.2.2.2.1, a2.2.2.2.2.2.2.2.2.2.2.2.2.1, a2.2.2.2.2.2.2.2.2.2.2.2.2.2.1, a2.2.2.2.2.2.2.2.2.2.2.2.2.2.2.1, a2.2.2.2.2.2.2.2.2.2.2.2.2.2.2.2.1, a2.2.2.2.2.2.2.2.2.2.2.2.2.2.2.2.2.1, a3, a2.2.2.2.2.2.2.2.2.2.2.2.2.2.2.2.2.2.2), Res.var b46 32 Y32 r45, Res.var b43 30 Y30 (a2.1, a2.2.1, a2.2.2.1, a2.2.2.2.1, a2.2.2.2.2.1, a2.2.2.2.2.2.1, a2.2.2.2.2.2.2.1, a2.2.2.2.2.2.2.2.1, a2.2.2.2.2.2.2.2.2.1, a2.2.2.2.2.2.2.2.2.2.1, a2.2.2.2.2.2.2.2.2.2.2.1, a2.2.2.2.2.2.2.2.2.2.2.2.1, a2.2.2.2.2.2.2.2.2.2.2.2.2.1, a2.2.2.2.2.2.2.2.2.2.2.2.2.2.1, a2.2.2.2.2.2.2.2.2.2.2.2.2.2.2.1, a2.2.2.2.2.2.2.2.2.2.2.2.2.2.2.2.1, 180, a2.2.2.2.2.2.2.2.2.2.2.2.2.2.2.2.2.2), Res.var b7 32 Y32 r6, Res.var b4 32 Y32 r3, Res.var b1 30 Y30 a2]) k71 r ?_ ?_
                          · rcases Bool.eq_false_or_eq_true b70 with hh | hh
                            · rw [hh] at h ⊢
                              rw [if_pos rfl] at h
                              refine r_guard (by rfl) rfl ?_
                              refine y (y_load 0 .here rfl rfl (by first | rfl | (simp only [Pth.off, T.size]; omega)) ok_here ty32) rfl ?_
                              refine r_pure tabOk 2 [3, 4, 16, 118, 123, 124, 125, 126] (E' := [(3, .one (.int .i64) a3), (4, .one (.int .i64) a4), (16, ptr b64 0), (118, .one .bool false), (123, .one .bool true), (124, .one Y32 r63), (125, .one (.int .i64) a4), (126, ptr b1 11)]) rfl ?_
                              refine r_guard (by rfl) rfl ?_
                              refine y (y_load 6 ((.snd (.snd (.snd (.snd (.snd (.snd (.snd (.snd (.snd (.snd (.fst .here)))))))))))) rfl rfl (by first | rfl | (simp only [Pth.off, T.size]; omega)) (ok_snd (ok_snd (ok_snd (ok_snd (ok_snd (ok_snd (ok_snd (ok_snd (ok_snd (ok_snd (ok_fst ok_here))))))))))) ty24) rfl ?_
                              refine r_guard (by rfl) rfl ?_
                              obtain ⟨r73, hr73, h⟩ := bind_ex h
                              refine r_calls (gate_Gate_MaySign_ok r63 a4 a2.2.2.2.2.2.2.2.2.2.2.1 _ hr73) (by kernel_rfl) rfl rfl ?_
                              refine r_pure tabOk 2 [3, 4, 16, 118, 130] (E' := [(3, .one (.int .i64) a3), (4, .one (.int .i64) a4), (16, ptr b64 0), (118, .one .bool false), (130, .one .bool (!r73))]) rfl ?_
                              refine r_nil ?_
                              refine r_less [3, 4, 16, 118, 130] rfl ?_
                              refine r_then ?_
                              exact r_meetk (!r73) () h rfl rfl
                            · rw [hh] at h ⊢
                              rw [if_neg (by decide)] at h
                              refine r_pure tabOk 7 [3, 4, 16, 118, 130] (E' := [(3, .one (.int .i64) a3), (4, .one (.int .i64) a4), (16, ptr b64 0), (118, .one .bool false), (130, .one .bool false)]) rfl ?_
                              refine r_nil ?_
                              refine r_less [3, 4, 16, 118, 130] rfl ?_
                              refine r_then ?_
                              exact r_meetk false () h rfl rfl
                          · intro o72 _ h
                            rw [← hk71] at h
                            try dsimp only at h
                            refine r_pure tabOk 1 [3, 4, 16, 118, 131] (E' := [(3, .one (.int .i64) a3), (4, .one (.int .i64) a4), (16, ptr b64 0), (118, .one .bool false), (131, .one .bool o72)]) rfl ?_
                            obtain ⟨k75, hk75, h⟩ := bnd_ex h
                            refine r_lsplitk (γ := Unit) 10 (fun (o76 : Bool) _ => [(118, .one .bool false), (141, .one .bool o76)]) (fun _ _ => [Res.var b64 32 Y32 r63, Res.var b61 30 Y30 (a2.1, a2.2.1, a2.2.2.1, a2.2.2.2.1, a2.2.2.2.2.1, a2.2.2.2.2.2.1, a2.2.2.2.2.2.2.1, a2.2.2.2.2.2.2.2.1, a2.2.2.2.2.2.2.2.2.1, a2.2.2.2.2.2.2.2.2.2.1, a2.2.2.2.2.2.2.2.2.2.2.1, a2.2.2.2.2.2.2.2.2.2.2.2.1, a2.2.2.2.2.2.2.2.2.2.2.2.2.1, a2.2.2.2.2.2.2.2.2.2.2.2.2.2.1, a2.2.2.2.2.2.2.2.2.2.2.2.2.2.2.1, a2.2.2.2.2.2.2.2.2.2.2.2.2.2.2.2.1, a2.2.2.2.2.2.2.2.2.2.2.2.2.2.2.2.2.1, a3, a2.2.2.2.2.2.2.2.2.2.2.2.2.2.2.2.2.2.2), Res.var b46 32 Y32 r45, Res.var b43 30 Y30 (a2.1, a2.2.1, a2.2.2.1, a2.2.2.2.1, a2.2.2.2.2.1, a2.2.2.2.2.2.1, a2.2.2.2.2.2.2.1, a2.2.2.2.2.2.2.2.1, a2.2.2.2.2.2.2.2.2.1, a2.2.2.2.2.2.2.2.2.2.1, a2.2.2.2.2.2.2.2.2.2.2.1, a2.2.2.2.2.2.2.2.2.2.2.2.1, a2.2.2.2.2.2.2.2.2.2.2.2.2.1, a2.2.2.2.2.2.2.2.2.2.2.2.2.2.1, a2.2.2.2.2.2.2.2.2.2.2.2.2.2.2.1, a2.2.2.2.2.2.2.2.2.2.2.2.2.2.2.2.1, 180, a2.2.2.2.2.2.2.2.2.2.2.2.2.2.2.2.2.2), Res.var b7 32 Y32 r6, Res.var b4 32 Y32 r3, Res.var b1 30 Y30 a2]) k75 r ?_ ?_
                            · rcases Bool.eq_false_or_eq_true o72 with hh | hh
                              · rw [hh] at h ⊢
                                rw [if_pos rfl] at h
                                refine r_guard (by rfl) rfl ?_
                                refine y (y_load 0 .here rfl rfl (by first | rfl | (simp only [Pth.off, T.size]; omega)) ok_here ty32) rfl ?_
                                refine r_pure tabOk 1 [3, 4, 118, 131, 132, 133] (E' := [(3, .one (.int .i64) a3), (4, .one (.int .i64) a4), (118, .one .bool false), (131, .one .bool true), (132, .one Y32 r63), (133, .one (.int .i64) a4)]) rfl ?_
                                refine r_guard (by rfl) rfl ?_
                                obtain ⟨r77, hr77, h⟩ := bind_ex h
                                refine r_calls (gate_Gate_MayBroadcast_ok r63 a4 _ hr77) (by kernel_rfl) rfl rfl ?_
                                refine r_pure tabOk 2 [3, 4, 118, 131, 136] (E' := [(3, .one (.int .i64) a3), (4, .one (.int .i64) a4), (118, .one .bool false), (131, .one .bool true), (136, .one .bool (!r77))]) rfl ?_
                                obtain ⟨b78, hbb78, h⟩ := bnd_ex h
                                rw [hbb78]
                                refine r_lsplit (γ := Unit) 4 (fun _ => [(118, .one .bool false), (131, .one .bool true), (140, .one .bool (b78 || (a3 == a4)))]) (fun _ => [Res.var b64 32 Y32 r63, Res.var b61 30 Y30 (a2.1, a2.2.1, a2.2.2.1, a2.2.2.2.1, a2.2.2.2.2.1, a2.2.2.2.2.2.1, a2.2.2.2.2.2.2.1, a2.2.2.2.2.2.2.2.1, a2.2.2.2.2.2.2.2.2.1, a2.2.2.2.2.2.2.2.2.2.1, a2.2.2.2.2.2.2.2.2.2.2.1, a2.2.2.2.2.2.2.2.2.2.2.2.1, a2.2.2.2.2.2.2.2.2.2.2.2.2.1, a2.2.2.2.2.2.2.2.2.2.2.2.2.2.1, a2.2.2.2.2.2.2.2.2.2.2.2.2.2.2.1, a2.2.2.2.2.2.2.2.2.2.2.2.2.2.2.2.1, a2.2.2.2.2.2.2.2.2.2.2.2.2.2.2.2.2.1, a3, a2.2.2.2.2.2.2.2.2.2.2.2.2.2.2.2.2.2.2), Res.var b46 32 Y32 r45, Res.var b43 30 Y30 (a2.1, a2.2.1, a2.2.2.1, a2.2.2.2.1, a2.2.2.2.2.1, a2.2.2.2.2.2.1, a2.2.2.2.2.2.2.1, a2.2.2.2.2.2.2.2.1, a2.2.2.2.2.2.2.2.2.1, a2.2.2.2.2.2.2.2.2.2.1, a2.2.2.2.2.2.2.2.2.2.2.1, a2.2.2.2.2.2.2.2.2.2.2.2.1, a2.2.2.2.2.2.2.2.2.2.2.2.2.1, a2.2.2.2.2.2.2.2.2.2.2.2.2.2.1, a2.2.2.2.2.2.2.2.2.2.2.2.2.2.2.1, a2.2.2.2.2.2.2.2.2.2.2.2.2.2.2.2.1, 180, a2.2.2.2.2.2.2.2.2.2.2.2.2.2.2.2.2.2), Res.var b7 32 Y32 r6, Res.var b4 32 Y32 r3, Res.var b1 30 Y30 a2]) ?_ (fun _ => ?_)
                                · clear h
                                  cases b78 with
                                  | true =>
                                  refine r_pure tabOk 4 [118, 131, 140] (E' := [(118, .one .bool false), (131, .one .bool true), (140, .one .bool true)]) rfl ?_
                                  refine r_nil ?_
                                  refine r_then ?_
                                  exact r_meetg () rfl rfl
                                  | false =>
                                  refine r_pure tabOk 4 [118, 131, 140] (E' := [(118, .one .bool false), (131, .one .bool true), (140, .one .bool (a3 == a4))]) rfl ?_
                                  refine r_nil ?_
                                  refine r_then ?_
                                  exact r_meetg () rfl rfl
                                refine r_pure tabOk 1 [118, 141] (E' := [(118, .one .bool false), (141, .one .bool (b78 || (a3 == a4)))]) rfl ?_
                                refine r_nil ?_
                                refine r_less [118, 141] rfl ?_
                                refine r_then ?_
                                exact r_meetk (b78 || (a3 == a4)) () h rfl rfl
                              · rw [hh] at h ⊢
                                rw [if_neg (by decide)] at h
                                refine r_pure tabOk 10 [118, 141] (E' := [(118, .one .bool false), (141, .one .bool false)]) rfl ?_
                                refine r_nil ?_
                                refine r_less [118, 141] rfl ?_
                                refine r_then ?_
                                exact r_meetk false () h rfl rfl
                            · intro o76 _ h
                              rw [← hk75] at h
                              try dsimp only at h
                              refine r_pure tabOk 1 [142] (E' := [(142, .one .bool o76)]) rfl ?_
                              refine r_nil ?_
                              refine r_less [142] rfl ?_
                              refine r_then ?_
                              exact r_meetk o76 () h rfl rfl
                      · intro o68 _ h
                        rw [← hk67] at h
                        try dsimp only at h
                        refine r_pure tabOk 1 [10] (E' := [(10, .one .bool o68)]) rfl ?_
                        refine r_nil ?_
                        refine r_then ?_
                        refine r_ret ?_
                        obtain rfl := Option.some.inj h
                        exact r_ret1 rfl (.tmp rfl) (fun _ _ g => g) (fun _ _ _ => List.nil_sublist _)

theorem escrowlaw20_GateOne_ok (a0 : Int) (a1 : Int × Int × Int × Int × (List (Int × Int × Int × List (Int) × List Int × Unit)) × (List (Int × Int × Int × List (Int) × List Int × Unit)) × Int × Int × Int × (Int × Int × Unit) × (Int × Int × Unit) × (Int × Int × Unit) × Bool × List (List (Int)) × List (Int) × (List (Int × List (Int) × Bool × Unit)) × Int × Int × Unit) (a2 : Int) (a3 : Int × Int × Unit) (a4 : Int × Int × Unit) (a5 : Int) (r : Bool) (h : escrowlaw20_GateOne a0 a1 a2 a3 a4 a5 = some r) : Pure Try.prog 5 [.one (.int .i64) a0, .one Y30 a1, .one (.int .i64) a2, .one Y24 a3, .one Y24 a4, .one (.int .i64) a5] (.one .bool r) := by
  unfold escrowlaw20_GateOne at h
  refine enter Try.func5 rfl 143 rfl rfl fun F => ?_
  refine r_seq ?_
  refine r_region ?_
  refine r_box rfl rfl fun b1 => ?_
  refine r_box rfl rfl fun b3 => ?_
  refine r_box rfl rfl fun b5 => ?_
  refine r_pure tabOk 1 [0, 2, 5, 7, 9, 10] (E' := [(0, .one (.int .i64) a0), (2, .one (.int .i64) a2), (5, .one (.int .i64) a5), (7, ptr b1 0), (9, ptr b3 0), (10, ptr b5 0)]) rfl ?_
  refine r_nil ?_
  refine r_then ?_
  refine r_seq ?_
  refine r_region ?_
  refine r_pure tabOk 1 [0, 2, 5, 7, 9, 10, 16] (E' := [(0, .one (.int .i64) a0), (2, .one (.int .i64) a2), (5, .one (.int .i64) a5), (7, ptr b1 0), (9, ptr b3 0), (10, ptr b5 0), (16, .one (.int .i64) a0)]) rfl ?_
  refine y (y_load 2 .here rfl rfl (by first | rfl | (simp only [Pth.off, T.size]; omega)) ok_here ty30) rfl ?_
  obtain ⟨r7, hr7, h⟩ := bind_ex h
  refine r_calls (gate_Of_ok a0 a1 _ hr7) (by kernel_rfl) rfl rfl ?_
  refine r_alloc (t := Y32) rfl zf32 rfl fun b8 => ?_
  refine r_store 0 .here rfl rfl rfl (by first | rfl | (simp only [Pth.off, T.size]; omega)) ok_here ty32 ?_
  refine r_nil ?_
  refine r_then ?_
  refine r_seq ?_
  refine r_seq ?_
  refine r_region ?_
  obtain ⟨r10, hr10, h⟩ := bind_ex h
  refine r_calls (escrowlaw20_first_ok  _ hr10) (by kernel_rfl) rfl rfl ?_
  refine r_pure tabOk 1 [0, 2, 5, 7, 9, 10, 13, 20] (E' := [(0, .one (.int .i64) a0), (2, .one (.int .i64) a2), (5, .one (.int .i64) a5), (7, ptr b1 0), (9, ptr b3 0), (10, ptr b5 0), (13, ptr b8 0), (20, .one .bool (!r10))]) rfl ?_
  refine r_nil ?_
  refine r_then ?_
  refine r_if (b := (!r10)) rfl (fun hc => ?_) (fun hc => ?_)
  · rw [if_pos hc] at h
    refine r_seq ?_
    refine r_region ?_
    refine r_pure tabOk 1 [12] (E' := [(12, .one .bool false)]) rfl ?_
    refine r_nil ?_
    refine r_then ?_
    refine r_ret ?_
    refine t_then ?_
    obtain rfl := Option.some.inj h
    exact r_ret1 rfl (.tmp rfl) (fun _ _ g => g) (fun _ _ _ => List.nil_sublist _)
  · rw [if_neg (ne_true_of_eq_false hc)] at h
    refine r_skip ?_
    refine r_then ?_
    refine r_seq ?_
    refine r_seq ?_
    refine r_region ?_
    refine y (y_load 0 .here rfl rfl (by first | rfl | (simp only [Pth.off, T.size]; omega)) ok_here ty32) rfl ?_
    refine r_pure tabOk 1 [0, 2, 5, 7, 9, 10, 21, 22] (E' := [(0, .one (.int .i64) a0), (2, .one (.int .i64) a2), (5, .one (.int .i64) a5), (7, ptr b1 0), (9, ptr b3 0), (10, ptr b5 0), (21, .one Y32 r7), (22, .one (.int .i64) a2)]) rfl ?_
    refine y (y_load 2 .here rfl rfl (by first | rfl | (simp only [Pth.off, T.size]; omega)) ok_here ty24) rfl ?_
    obtain ⟨r11, hr11, h⟩ := bind_ex h
    refine r_calls (gate_Gate_MaySign_ok r7 a2 a3 _ hr11) (by kernel_rfl) rfl rfl ?_
    refine r_pure tabOk 1 [0, 2, 5, 7, 9, 10, 25] (E' := [(0, .one (.int .i64) a0), (2, .one (.int .i64) a2), (5, .one (.int .i64) a5), (7, ptr b1 0), (9, ptr b3 0), (10, ptr b5 0), (25, .one .bool (!r11))]) rfl ?_
    refine r_nil ?_
    refine r_then ?_
    refine r_if (b := (!r11)) rfl (fun hc => ?_) (fun hc => ?_)
    · rw [if_pos hc] at h
      refine r_seq ?_
      refine r_region ?_
      refine r_pure tabOk 1 [12] (E' := [(12, .one .bool true)]) rfl ?_
      refine r_nil ?_
      refine r_then ?_
      refine r_ret ?_
      refine t_then ?_
      obtain rfl := Option.some.inj h
      exact r_ret1 rfl (.tmp rfl) (fun _ _ g => g) (fun _ _ _ => List.nil_sublist _)
    · rw [if_neg (ne_true_of_eq_false hc)] at h
      refine r_skip ?_
      refine r_then ?_
      refine r_seq ?_
      refine r_seq ?_
      refine r_region ?_
      refine r_pure tabOk 3 [0, 2, 5, 7, 9, 10, 28] (E' := [(0, .one (.int .i64) a0), (2, .one (.int .i64) a2), (5, .one (.int .i64) a5), (7, ptr b1 0), (9, ptr b3 0), (10, ptr b5 0), (28, .one .bool (decide (a2 < 1)))]) rfl ?_
      obtain ⟨b12, hbb12, h⟩ := bnd_ex h
      rw [hbb12]
      obtain ⟨k13, hk13, h⟩ := bnd_ex h
      refine r_lsplitk (γ := Unit) 12 (fun (o14 : Bool) _ => [(0, .one (.int .i64) a0), (2, .one (.int .i64) a2), (5, .one (.int .i64) a5), (7, ptr b1 0), (9, ptr b3 0), (10, ptr b5 0), (40, .one .bool o14)]) (fun _ _ => [Res.var b8 32 Y32 r7, Res.var b5 24 Y24 a4, Res.var b3 24 Y24 a3, Res.var b1 30 Y30 a1]) k13 r ?_ ?_
      · rcases Bool.eq_false_or_eq_true b12 with hh | hh
        · rw [hh] at h ⊢
          rw [if_pos rfl] at h
          refine r_pure tabOk 12 [0, 2, 5, 7, 9, 10, 40] (E' := [(0, .one (.int .i64) a0), (2, .one (.int .i64) a2), (5, .one (.int .i64) a5), (7, ptr b1 0), (9, ptr b3 0), (10, ptr b5 0), (40, .one .bool true)]) rfl ?_
          refine r_nil ?_
          refine r_less [0, 2, 5, 7, 9, 10, 40] rfl ?_
          refine r_then ?_
          exact r_meetk true () h rfl rfl
        · rw [hh] at h ⊢
          rw [if_neg (by decide)] at h
          refine r_pure tabOk 2 [0, 2, 5, 7, 9, 10, 28, 29, 30] (E' := [(0, .one (.int .i64) a0), (2, .one (.int .i64) a2), (5, .one (.int .i64) a5), (7, ptr b1 0), (9, ptr b3 0), (10, ptr b5 0), (28, .one .bool false), (29, .one (.int .i64) a2), (30, ptr b1 7)]) rfl ?_
          refine r_guard (by rfl) rfl ?_
          refine y (y_load 3 ((.snd (.snd (.snd (.snd (.snd (.snd (.snd (.fst .here))))))))) rfl rfl (by first | rfl | (simp only [Pth.off, T.size]; omega)) (ok_snd (ok_snd (ok_snd (ok_snd (ok_snd (ok_snd (ok_snd (ok_fst ok_here)))))))) ty2) rfl ?_
          refine r_pure tabOk 2 [0, 2, 5, 7, 9, 10, 28, 33] (E' := [(0, .one (.int .i64) a0), (2, .one (.int .i64) a2), (5, .one (.int .i64) a5), (7, ptr b1 0), (9, ptr b3 0), (10, ptr b5 0), (28, .one .bool false), (33, .one .bool (a2 != a1.2.2.2.2.2.2.2.1))]) rfl ?_
          obtain ⟨b15, hbb15, h⟩ := bnd_ex h
          rw [hbb15]
          refine r_lsplit (γ := Unit) 6 (fun _ => [(0, .one (.int .i64) a0), (2, .one (.int .i64) a2), (5, .one (.int .i64) a5), (7, ptr b1 0), (9, ptr b3 0), (10, ptr b5 0), (28, .one .bool false), (39, .one .bool (b15 && ((IntKind.wrap .i64 (a2 - 1)) != a1.2.2.2.2.2.2.2.1)))]) (fun _ => [Res.var b8 32 Y32 r7, Res.var b5 24 Y24 a4, Res.var b3 24 Y24 a3, Res.var b1 30 Y30 a1]) ?_ (fun _ => ?_)
          · clear h
            cases b15 with
            | true =>
            refine r_pure tabOk 3 [0, 2, 5, 7, 9, 10, 28, 33, 35, 36] (E' := [(0, .one (.int .i64) a0), (2, .one (.int .i64) a2), (5, .one (.int .i64) a5), (7, ptr b1 0), (9, ptr b3 0), (10, ptr b5 0), (28, .one .bool false), (33, .one .bool true), (35, .one (.int .i64) (IntKind.wrap .i64 (a2 - 1))), (36, ptr b1 7)]) rfl ?_
            refine r_guard (by rfl) rfl ?_
            refine y (y_load 3 ((.snd (.snd (.snd (.snd (.snd (.snd (.snd (.fst .here))))))))) rfl rfl (by first | rfl | (simp only [Pth.off, T.size]; omega)) (ok_snd (ok_snd (ok_snd (ok_snd (ok_snd (ok_snd (ok_snd (ok_fst ok_here)))))))) ty2) rfl ?_
            refine r_pure tabOk 2 [0, 2, 5, 7, 9, 10, 28, 39] (E' := [(0, .one (.int .i64) a0), (2, .one (.int .i64) a2), (5, .one (.int .i64) a5), (7, ptr b1 0), (9, ptr b3 0), (10, ptr b5 0), (28, .one .bool false), (39, .one .bool ((IntKind.wrap .i64 (a2 - 1)) != a1.2.2.2.2.2.2.2.1))]) rfl ?_
            refine r_nil ?_
            refine r_then ?_
            exact r_meetg () rfl rfl
            | false =>
            refine r_pure tabOk 6 [0, 2, 5, 7, 9, 10, 28, 39] (E' := [(0, .one (.int .i64) a0), (2, .one (.int .i64) a2), (5, .one (.int .i64) a5), (7, ptr b1 0), (9, ptr b3 0), (10, ptr b5 0), (28, .one .bool false), (39, .one .bool false)]) rfl ?_
            refine r_nil ?_
            refine r_then ?_
            exact r_meetg () rfl rfl
          refine r_pure tabOk 1 [0, 2, 5, 7, 9, 10, 40] (E' := [(0, .one (.int .i64) a0), (2, .one (.int .i64) a2), (5, .one (.int .i64) a5), (7, ptr b1 0), (9, ptr b3 0), (10, ptr b5 0), (40, .one .bool (b15 && ((IntKind.wrap .i64 (a2 - 1)) != a1.2.2.2.2.2.2.2.1)))]) rfl ?_
          refine r_nil ?_
          refine r_less [0, 2, 5, 7, 9, 10, 40] rfl ?_
          refine r_then ?_
          exact r_meetk (b15 && ((IntKind.wrap .i64 (a2 - 1)) != a1.2.2.2.2.2.2.2.1)) () h rfl rfl
      · intro o14 _ h
        rw [← hk13] at h
        try dsimp only at h
        refine r_pure tabOk 1 [0, 2, 5, 7, 9, 10, 41] (E' := [(0, .one (.int .i64) a0), (2, .one (.int .i64) a2), (5, .one (.int .i64) a5), (7, ptr b1 0), (9, ptr b3 0), (10, ptr b5 0), (41, .one .bool o14)]) rfl ?_
        obtain ⟨k17, hk17, h⟩ := bnd_ex h
        refine r_lsplitk (γ := Unit) 11 (fun (o18 : Bool) _ => [(0, .one (.int .i64) a0), (2, .one (.int .i64) a2), (5, .one (.int .i64) a5), (7, ptr b1 0), (9, ptr b3 0), (10, ptr b5 0), (52, .one .bool o18)]) (fun _ _ => [Res.var b8 32 Y32 r7, Res.var b5 24 Y24 a4, Res.var b3 24 Y24 a3, Res.var b1 30 Y30 a1]) k17 r ?_ ?_
        · rcases Bool.eq_false_or_eq_true o14 with hh | hh
          · rw [hh] at h ⊢
            rw [if_pos rfl] at h
            refine r_pure tabOk 11 [0, 2, 5, 7, 9, 10, 52] (E' := [(0, .one (.int .i64) a0), (2, .one (.int .i64) a2), (5, .one (.int .i64) a5), (7, ptr b1 0), (9, ptr b3 0), (10, ptr b5 0), (52, .one .bool true)]) rfl ?_
            refine r_nil ?_
            refine r_less [0, 2, 5, 7, 9, 10, 52] rfl ?_
            refine r_then ?_
            exact r_meetk true () h rfl rfl
          · rw [hh] at h ⊢
            rw [if_neg (by decide)] at h
            refine r_pure tabOk 2 [0, 2, 5, 7, 9, 10, 41, 42, 43] (E' := [(0, .one (.int .i64) a0), (2, .one (.int .i64) a2), (5, .one (.int .i64) a5), (7, ptr b1 0), (9, ptr b3 0), (10, ptr b5 0), (41, .one .bool false), (42, .one (.int .i64) a2), (43, ptr b1 7)]) rfl ?_
            refine r_guard (by rfl) rfl ?_
            refine y (y_load 3 ((.snd (.snd (.snd (.snd (.snd (.snd (.snd (.fst .here))))))))) rfl rfl (by first | rfl | (simp only [Pth.off, T.size]; omega)) (ok_snd (ok_snd (ok_snd (ok_snd (ok_snd (ok_snd (ok_snd (ok_fst ok_here)))))))) ty2) rfl ?_
            refine r_pure tabOk 2 [0, 2, 5, 7, 9, 10, 41, 46] (E' := [(0, .one (.int .i64) a0), (2, .one (.int .i64) a2), (5, .one (.int .i64) a5), (7, ptr b1 0), (9, ptr b3 0), (10, ptr b5 0), (41, .one .bool false), (46, .one .bool (a2 == a1.2.2.2.2.2.2.2.1))]) rfl ?_
            obtain ⟨b19, hbb19, h⟩ := bnd_ex h
            rw [hbb19]
            refine r_lsplit (γ := Unit) 5 (fun _ => [(0, .one (.int .i64) a0), (2, .one (.int .i64) a2), (5, .one (.int .i64) a5), (7, ptr b1 0), (9, ptr b3 0), (10, ptr b5 0), (41, .one .bool false), (51, .one .bool (b19 && (!eqD (.pair (.int .i64) (.pair (.int .i64) .unit)) a3 a1.2.2.2.2.2.2.2.2.2.2.1)))]) (fun _ => [Res.var b8 32 Y32 r7, Res.var b5 24 Y24 a4, Res.var b3 24 Y24 a3, Res.var b1 30 Y30 a1]) ?_ (fun _ => ?_)
            · clear h
              cases b19 with
              | true =>
              refine r_guard (by rfl) rfl ?_
              refine y (y_load 2 .here rfl rfl (by first | rfl | (simp only [Pth.off, T.size]; omega)) ok_here ty24) rfl ?_
              refine r_pure tabOk 1 [0, 2, 5, 7, 9, 10, 41, 46, 47, 48] (E' := [(0, .one (.int .i64) a0), (2, .one (.int .i64) a2), (5, .one (.int .i64) a5), (7, ptr b1 0), (9, ptr b3 0), (10, ptr b5 0), (41, .one .bool false), (46, .one .bool true), (47, .one Y24 a3), (48, ptr b1 11)]) rfl ?_
              refine r_guard (by rfl) rfl ?_
              refine y (y_load 3 ((.snd (.snd (.snd (.snd (.snd (.snd (.snd (.snd (.snd (.snd (.fst .here)))))))))))) rfl rfl (by first | rfl | (simp only [Pth.off, T.size]; omega)) (ok_snd (ok_snd (ok_snd (ok_snd (ok_snd (ok_snd (ok_snd (ok_snd (ok_snd (ok_snd (ok_fst ok_here))))))))))) ty24) rfl ?_
              refine r_guard (by rfl) rfl ?_
              refine y (y_nes 20 rfl rfl rfl rfl ty24 rfl kt24 eg24) rfl ?_
              refine r_pure tabOk 1 [0, 2, 5, 7, 9, 10, 41, 51] (E' := [(0, .one (.int .i64) a0), (2, .one (.int .i64) a2), (5, .one (.int .i64) a5), (7, ptr b1 0), (9, ptr b3 0), (10, ptr b5 0), (41, .one .bool false), (51, .one .bool (!eqD (.pair (.int .i64) (.pair (.int .i64) .unit)) a3 a1.2.2.2.2.2.2.2.2.2.2.1))]) rfl ?_
              refine r_nil ?_
              refine r_then ?_
              exact r_meetg () rfl rfl
              | false =>
              refine r_pure tabOk 5 [0, 2, 5, 7, 9, 10, 41, 51] (E' := [(0, .one (.int .i64) a0), (2, .one (.int .i64) a2), (5, .one (.int .i64) a5), (7, ptr b1 0), (9, ptr b3 0), (10, ptr b5 0), (41, .one .bool false), (51, .one .bool false)]) rfl ?_
              refine r_nil ?_
              refine r_then ?_
              exact r_meetg () rfl rfl
            refine r_pure tabOk 1 [0, 2, 5, 7, 9, 10, 52] (E' := [(0, .one (.int .i64) a0), (2, .one (.int .i64) a2), (5, .one (.int .i64) a5), (7, ptr b1 0), (9, ptr b3 0), (10, ptr b5 0), (52, .one .bool (b19 && (!eqD (.pair (.int .i64) (.pair (.int .i64) .unit)) a3 a1.2.2.2.2.2.2.2.2.2.2.1)))]) rfl ?_
            refine r_nil ?_
            refine r_less [0, 2, 5, 7, 9, 10, 52] rfl ?_
            refine r_then ?_
            exact r_meetk (b19 && (!eqD (.pair (.int .i64) (.pair (.int .i64) .unit)) a3 a1.2.2.2.2.2.2.2.2.2.2.1)) () h rfl rfl
        · intro o18 _ h
          rw [← hk17] at h
          try dsimp only at h
          refine r_pure tabOk 1 [0, 2, 5, 7, 9, 10, 53] (E' := [(0, .one (.int .i64) a0), (2, .one (.int .i64) a2), (5, .one (.int .i64) a5), (7, ptr b1 0), (9, ptr b3 0), (10, ptr b5 0), (53, .one .bool o18)]) rfl ?_
          obtain ⟨k21, hk21, h⟩ := bnd_ex h
          refine r_lsplitk (γ := Unit) 26 (fun (o22 : Bool) _ => [(0, .one (.int .i64) a0), (2, .one (.int .i64) a2), (5, .one (.int .i64) a5), (7, ptr b1 0), (9, ptr b3 0), (10, ptr b5 0), (79, .one .bool o22)]) (fun _ _ => [Res.var b8 32 Y32 r7, Res.var b5 24 Y24 a4, Res.var b3 24 Y24 a3, Res.var b1 30 Y30 a1]) k21 r ?_ ?_
          · rcases Bool.eq_false_or_eq_true o18 with hh | hh
            · rw [hh] at h ⊢
              rw [if_pos rfl] at h
              refine r_pure tabOk 26 [0, 2, 5, 7, 9, 10, 79] (E' := [(0, .one (.int .i64) a0), (2, .one (.int .i64) a2), (5, .one (.int .i64) a5), (7, ptr b1 0), (9, ptr b3 0), (10, ptr b5 0), (79, .one .bool true)]) rfl ?_
              refine r_nil ?_
              refine r_less [0, 2, 5, 7, 9, 10, 79] rfl ?_
              refine r_then ?_
              exact r_meetk true () h rfl rfl
            · rw [hh] at h ⊢
              rw [if_neg (by decide)] at h
              refine r_pure tabOk 2 [0, 2, 5, 7, 9, 10, 53, 54, 55] (E' := [(0, .one (.int .i64) a0), (2, .one (.int .i64) a2), (5, .one (.int .i64) a5), (7, ptr b1 0), (9, ptr b3 0), (10, ptr b5 0), (53, .one .bool false), (54, .one (.int .i64) a2), (55, ptr b1 7)]) rfl ?_
              refine r_guard (by rfl) rfl ?_
              refine y (y_load 3 ((.snd (.snd (.snd (.snd (.snd (.snd (.snd (.fst .here))))))))) rfl rfl (by first | rfl | (simp only [Pth.off, T.size]; omega)) (ok_snd (ok_snd (ok_snd (ok_snd (ok_snd (ok_snd (ok_snd (ok_fst ok_here)))))))) ty2) rfl ?_
              refine r_pure tabOk 2 [0, 2, 5, 7, 9, 10, 53, 58] (E' := [(0, .one (.int .i64) a0), (2, .one (.int .i64) a2), (5, .one (.int .i64) a5), (7, ptr b1 0), (9, ptr b3 0), (10, ptr b5 0), (53, .one .bool false), (58, .one .bool (a2 != a1.2.2.2.2.2.2.2.1))]) rfl ?_
              obtain ⟨b23, hbb23, h⟩ := bnd_ex h
              rw [hbb23]
              obtain ⟨k24, hk24, h⟩ := bnd_ex h
              refine r_lsplitk (γ := Unit) 20 (fun (o25 : Bool) _ => [(0, .one (.int .i64) a0), (2, .one (.int .i64) a2), (5, .one (.int .i64) a5), (7, ptr b1 0), (9, ptr b3 0), (10, ptr b5 0), (53, .one .bool false), (78, .one .bool o25)]) (fun _ _ => [Res.var b8 32 Y32 r7, Res.var b5 24 Y24 a4, Res.var b3 24 Y24 a3, Res.var b1 30 Y30 a1]) k24 r ?_ ?_
              · rcases Bool.eq_false_or_eq_true b23 with hh | hh
                · rw [hh] at h ⊢
                  rw [if_pos rfl] at h
                  refine r_pure tabOk 1 [0, 2, 5, 7, 9, 10, 53, 58, 59] (E' := [(0, .one (.int .i64) a0), (2, .one (.int .i64) a2), (5, .one (.int .i64) a5), (7, ptr b1 0), (9, ptr b3 0), (10, ptr b5 0), (53, .one .bool false), (58, .one .bool true), (59, ptr b1 7)]) rfl ?_
                  refine r_guard (by rfl) rfl ?_
                  refine y (y_load 3 ((.snd (.snd (.snd (.snd (.snd (.snd (.snd (.fst .here))))))))) rfl rfl (by first | rfl | (simp only [Pth.off, T.size]; omega)) (ok_snd (ok_snd (ok_snd (ok_snd (ok_snd (ok_snd (ok_snd (ok_fst ok_here)))))))) ty2) rfl ?_
                  refine r_pure tabOk 1 [0, 2, 5, 7, 9, 10, 53, 58, 60, 61] (E' := [(0, .one (.int .i64) a0), (2, .one (.int .i64) a2), (5, .one (.int .i64) a5), (7, ptr b1 0), (9, ptr b3 0), (10, ptr b5 0), (53, .one .bool false), (58, .one .bool true), (60, .one (.int .i64) a1.2.2.2.2.2.2.2.1), (61, ptr b1 8)]) rfl ?_
                  refine r_guard (by rfl) rfl ?_
                  refine y (y_load 3 ((.snd (.snd (.snd (.snd (.snd (.snd (.snd (.snd (.fst .here)))))))))) rfl rfl (by first | rfl | (simp only [Pth.off, T.size]; omega)) (ok_snd (ok_snd (ok_snd (ok_snd (ok_snd (ok_snd (ok_snd (ok_snd (ok_fst ok_here))))))))) ty2) rfl ?_
                  refine r_pure tabOk 2 [0, 2, 5, 7, 9, 10, 53, 58, 64] (E' := [(0, .one (.int .i64) a0), (2, .one (.int .i64) a2), (5, .one (.int .i64) a5), (7, ptr b1 0), (9, ptr b3 0), (10, ptr b5 0), (53, .one .bool false), (58, .one .bool true), (64, .one .bool (a1.2.2.2.2.2.2.2.1 != a1.2.2.2.2.2.2.2.2.1))]) rfl ?_
                  obtain ⟨b26, hbb26, h⟩ := bnd_ex h
                  rw [hbb26]
                  refine r_lsplit (γ := Unit) 5 (fun _ => [(0, .one (.int .i64) a0), (2, .one (.int .i64) a2), (5, .one (.int .i64) a5), (7, ptr b1 0), (9, ptr b3 0), (10, ptr b5 0), (53, .one .bool false), (58, .one .bool true), (69, .one .bool (b26 || (eqD (.pair (.int .i64) (.pair (.int .i64) .unit)) a3 a1.2.2.2.2.2.2.2.2.2.2.1)))]) (fun _ => [Res.var b8 32 Y32 r7, Res.var b5 24 Y24 a4, Res.var b3 24 Y24 a3, Res.var b1 30 Y30 a1]) ?_ (fun _ => ?_)
                  · clear h
                    cases b26 with
                    | true =>
                    refine r_pure tabOk 5 [0, 2, 5, 7, 9, 10, 53, 58, 69] (E' := [(0, .one (.int .i64) a0), (2, .one (.int .i64) a2), (5, .one (.int .i64) a5), (7, ptr b1 0), (9, ptr b3 0), (10, ptr b5 0), (53, .one .bool false), (58, .one .bool true), (69, .one .bool true)]) rfl ?_
                    refine r_nil ?_
                    refine r_then ?_
                    exact r_meetg () rfl rfl
                    | false =>
                    refine r_guard (by rfl) rfl ?_
                    refine y (y_load 2 .here rfl rfl (by first | rfl | (simp only [Pth.off, T.size]; omega)) ok_here ty24) rfl ?_
                    refine r_pure tabOk 1 [0, 2, 5, 7, 9, 10, 53, 58, 64, 65, 66] (E' := [(0, .one (.int .i64) a0), (2, .one (.int .i64) a2), (5, .one (.int .i64) a5), (7, ptr b1 0), (9, ptr b3 0), (10, ptr b5 0), (53, .one .bool false), (58, .one .bool true), (64, .one .bool false), (65, .one Y24 a3), (66, ptr b1 11)]) rfl ?_
                    refine r_guard (by rfl) rfl ?_
                    refine y (y_load 3 ((.snd (.snd (.snd (.snd (.snd (.snd (.snd (.snd (.snd (.snd (.fst .here)))))))))))) rfl rfl (by first | rfl | (simp only [Pth.off, T.size]; omega)) (ok_snd (ok_snd (ok_snd (ok_snd (ok_snd (ok_snd (ok_snd (ok_snd (ok_snd (ok_snd (ok_fst ok_here))))))))))) ty24) rfl ?_
                    refine r_guard (by rfl) rfl ?_
                    refine y (y_eqs 20 rfl rfl rfl rfl ty24 rfl kt24 eg24) rfl ?_
                    refine r_pure tabOk 1 [0, 2, 5, 7, 9, 10, 53, 58, 69] (E' := [(0, .one (.int .i64) a0), (2, .one (.int .i64) a2), (5, .one (.int .i64) a5), (7, ptr b1 0), (9, ptr b3 0), (10, ptr b5 0), (53, .one .bool false), (58, .one .bool true), (69, .one .bool (eqD (.pair (.int .i64) (.pair (.int .i64) .unit)) a3 a1.2.2.2.2.2.2.2.2.2.2.1))]) rfl ?_
                    refine r_nil ?_
                    refine r_then ?_
                    exact r_meetg () rfl rfl
                  refine r_pure tabOk 1 [0, 2, 5, 7, 9, 10, 53, 58, 70] (E' := [(0, .one (.int .i64) a0), (2, .one (.int .i64) a2), (5, .one (.int .i64) a5), (7, ptr b1 0), (9, ptr b3 0), (10, ptr b5 0), (53, .one .bool false), (58, .one .bool true), (70, .one .bool (b26 || (eqD (.pair (.int .i64) (.pair (.int .i64) .unit)) a3 a1.2.2.2.2.2.2.2.2.2.2.1)))]) rfl ?_
                  obtain ⟨b27, hbb27, h⟩ := bnd_ex h
                  rw [hbb27]
                  refine r_lsplit (γ := Unit) 7 (fun _ => [(0, .one (.int .i64) a0), (2, .one (.int .i64) a2), (5, .one (.int .i64) a5), (7, ptr b1 0), (9, ptr b3 0), (10, ptr b5 0), (53, .one .bool false), (58, .one .bool true), (77, .one .bool (b27 || (decide (a3.1 > (List.length a1.2.2.2.2.1 : Int)))))]) (fun _ => [Res.var b8 32 Y32 r7, Res.var b5 24 Y24 a4, Res.var b3 24 Y24 a3, Res.var b1 30 Y30 a1]) ?_ (fun _ => ?_)
                  · clear h
                    cases b27 with
                    | true =>
                    refine r_pure tabOk 7 [0, 2, 5, 7, 9, 10, 53, 58, 77] (E' := [(0, .one (.int .i64) a0), (2, .one (.int .i64) a2), (5, .one (.int .i64) a5), (7, ptr b1 0), (9, ptr b3 0), (10, ptr b5 0), (53, .one .bool false), (58, .one .bool true), (77, .one .bool true)]) rfl ?_
                    refine r_nil ?_
                    refine r_then ?_
                    exact r_meetg () rfl rfl
                    | false =>
                    refine r_pure tabOk 1 [0, 2, 5, 7, 9, 10, 53, 58, 70, 71] (E' := [(0, .one (.int .i64) a0), (2, .one (.int .i64) a2), (5, .one (.int .i64) a5), (7, ptr b1 0), (9, ptr b3 0), (10, ptr b5 0), (53, .one .bool false), (58, .one .bool true), (70, .one .bool false), (71, ptr b3 0)]) rfl ?_
                    refine r_guard (by rfl) rfl ?_
                    refine y (y_load 2 ((.fst .here)) rfl rfl (by first | rfl | (simp only [Pth.off, T.size]; omega)) (ok_fst ok_here) ty3) rfl ?_
                    refine r_pure tabOk 1 [0, 2, 5, 7, 9, 10, 53, 58, 70, 72, 73] (E' := [(0, .one (.int .i64) a0), (2, .one (.int .i64) a2), (5, .one (.int .i64) a5), (7, ptr b1 0), (9, ptr b3 0), (10, ptr b5 0), (53, .one .bool false), (58, .one .bool true), (70, .one .bool false), (72, .one (.int .i64) a3.1), (73, ptr b1 4)]) rfl ?_
                    refine r_guard (by rfl) rfl ?_
                    refine y (y_load 3 ((.snd (.snd (.snd (.snd (.fst .here)))))) rfl rfl (by first | rfl | (simp only [Pth.off, T.size]; omega)) (ok_snd (ok_snd (ok_snd (ok_snd (ok_fst ok_here))))) ty22) rfl ?_
                    refine r_pure tabOk 3 [0, 2, 5, 7, 9, 10, 53, 58, 77] (E' := [(0, .one (.int .i64) a0), (2, .one (.int .i64) a2), (5, .one (.int .i64) a5), (7, ptr b1 0), (9, ptr b3 0), (10, ptr b5 0), (53, .one .bool false), (58, .one .bool true), (77, .one .bool (decide (a3.1 > (List.length a1.2.2.2.2.1 : Int))))]) rfl ?_
                    refine r_nil ?_
                    refine r_then ?_
                    exact r_meetg () rfl rfl
                  refine r_pure tabOk 1 [0, 2, 5, 7, 9, 10, 53, 78] (E' := [(0, .one (.int .i64) a0), (2, .one (.int .i64) a2), (5, .one (.int .i64) a5), (7, ptr b1 0), (9, ptr b3 0), (10, ptr b5 0), (53, .one .bool false), (78, .one .bool (b27 || (decide (a3.1 > (List.length a1.2.2.2.2.1 : Int)))))]) rfl ?_
                  refine r_nil ?_
                  refine r_less [0, 2, 5, 7, 9, 10, 53, 78] rfl ?_
                  refine r_then ?_
                  exact r_meetk (b27 || (decide (a3.1 > (List.length a1.2.2.2.2.1 : Int)))) () h rfl rfl
                · rw [hh] at h ⊢
                  rw [if_neg (by decide)] at h
                  refine r_pure tabOk 20 [0, 2, 5, 7, 9, 10, 53, 78] (E' := [(0, .one (.int .i64) a0), (2, .one (.int .i64) a2), (5, .one (.int .i64) a5), (7, ptr b1 0), (9, ptr b3 0), (10, ptr b5 0), (53, .one .bool false), (78, .one .bool false)]) rfl ?_
                  refine r_nil ?_
                  refine r_less [0, 2, 5, 7, 9, 10, 53, 78] rfl ?_
                  refine r_then ?_
                  exact r_meetk false () h rfl rfl
              · intro o25 _ h
                rw [← hk24] at h
                try dsimp only at h
                refine r_pure tabOk 1 [0, 2, 5, 7, 9, 10, 79] (E' := [(0, .one (.int .i64) a0), (2, .one (.int .i64) a2), (5, .one (.int .i64) a5), (7, ptr b1 0), (9, ptr b3 0), (10, ptr b5 0), (79, .one .bool o25)]) rfl ?_
                refine r_nil ?_
                refine r_less [0, 2, 5, 7, 9, 10, 79] rfl ?_
                refine r_then ?_
                exact r_meetk o25 () h rfl rfl
          · intro o22 _ h
            rw [← hk21] at h
            try dsimp only at h
            refine r_nil ?_
            refine r_then ?_
            refine r_if (b := o22) rfl (fun hc => ?_) (fun hc => ?_)
            · rw [if_pos hc] at h
              refine r_seq ?_
              refine r_region ?_
              refine r_pure tabOk 1 [12] (E' := [(12, .one .bool false)]) rfl ?_
              refine r_nil ?_
              refine r_then ?_
              refine r_ret ?_
              refine t_then ?_
              obtain rfl := Option.some.inj h
              exact r_ret1 rfl (.tmp rfl) (fun _ _ g => g) (fun _ _ _ => List.nil_sublist _)
            · rw [if_neg (ne_true_of_eq_false hc)] at h
              refine r_skip ?_
              refine r_then ?_
              refine r_seq ?_
              refine r_region ?_
              refine y (y_load 3 .here rfl rfl (by first | rfl | (simp only [Pth.off, T.size]; omega)) ok_here ty30) rfl ?_
              refine r_alloc (t := Y30) rfl zf30 rfl fun b28 => ?_
              refine r_store 0 .here rfl rfl rfl (by first | rfl | (simp only [Pth.off, T.size]; omega)) ok_here ty30 ?_
              refine r_nil ?_
              refine r_then ?_
              refine r_seq ?_
              refine r_region ?_
              refine r_pure tabOk 2 [0, 2, 5, 7, 9, 10, 14, 81, 82] (E' := [(0, .one (.int .i64) a0), (2, .one (.int .i64) a2), (5, .one (.int .i64) a5), (7, ptr b1 0), (9, ptr b3 0), (10, ptr b5 0), (14, ptr b28 0), (81, .one (.int .i64) a2), (82, ptr b28 7)]) rfl ?_
              refine r_store 0 ((.snd (.snd (.snd (.snd (.snd (.snd (.snd (.fst .here))))))))) rfl rfl rfl (by first | rfl | (simp only [Pth.off, T.size]; omega)) (ok_snd (ok_snd (ok_snd (ok_snd (ok_snd (ok_snd (ok_snd (ok_fst ok_here)))))))) ty2 ?_
              refine r_nil ?_
              refine r_then ?_
              refine r_seq ?_
              refine r_region ?_
              refine y (y_load 3 .here rfl rfl (by first | rfl | (simp only [Pth.off, T.size]; omega)) ok_here ty24) rfl ?_
              refine r_pure tabOk 1 [0, 2, 5, 7, 9, 10, 14, 83, 84] (E' := [(0, .one (.int .i64) a0), (2, .one (.int .i64) a2), (5, .one (.int .i64) a5), (7, ptr b1 0), (9, ptr b3 0), (10, ptr b5 0), (14, ptr b28 0), (83, .one Y24 a3), (84, ptr b28 11)]) rfl ?_
              refine r_store 0 ((.snd (.snd (.snd (.snd (.snd (.snd (.snd (.snd (.snd (.snd (.fst .here)))))))))))) rfl rfl rfl (by first | rfl | (simp only [Pth.off, T.size]; omega)) (ok_snd (ok_snd (ok_snd (ok_snd (ok_snd (ok_snd (ok_snd (ok_snd (ok_snd (ok_snd (ok_fst ok_here))))))))))) ty24 ?_
              refine r_nil ?_
              refine r_then ?_
              refine r_seq ?_
              refine r_seq ?_
              refine r_region ?_
              refine r_pure tabOk 1 [0, 2, 5, 7, 9, 10, 14, 85] (E' := [(0, .one (.int .i64) a0), (2, .one (.int .i64) a2), (5, .one (.int .i64) a5), (7, ptr b1 0), (9, ptr b3 0), (10, ptr b5 0), (14, ptr b28 0), (85, ptr b28 7)]) rfl ?_
              refine y (y_load 0 ((.snd (.snd (.snd (.snd (.snd (.snd (.snd (.fst .here))))))))) rfl rfl (by first | rfl | (simp only [Pth.off, T.size]; omega)) (ok_snd (ok_snd (ok_snd (ok_snd (ok_snd (ok_snd (ok_snd (ok_fst ok_here)))))))) ty2) rfl ?_
              refine r_pure tabOk 1 [0, 2, 5, 7, 9, 10, 14, 86, 87] (E' := [(0, .one (.int .i64) a0), (2, .one (.int .i64) a2), (5, .one (.int .i64) a5), (7, ptr b1 0), (9, ptr b3 0), (10, ptr b5 0), (14, ptr b28 0), (86, .one (.int .i64) (((a1.1, a1.2.1, a1.2.2.1, a1.2.2.2.1, a1.2.2.2.2.1, a1.2.2.2.2.2.1, a1.2.2.2.2.2.2.1, a2, a1.2.2.2.2.2.2.2.2).1, (a1.1, a1.2.1, a1.2.2.1, a1.2.2.2.1, a1.2.2.2.2.1, a1.2.2.2.2.2.1, a1.2.2.2.2.2.2.1, a2, a1.2.2.2.2.2.2.2.2).2.1, (a1.1, a1.2.1, a1.2.2.1, a1.2.2.2.1, a1.2.2.2.2.1, a1.2.2.2.2.2.1, a1.2.2.2.2.2.2.1, a2, a1.2.2.2.2.2.2.2.2).2.2.1, (a1.1, a1.2.1, a1.2.2.1, a1.2.2.2.1, a1.2.2.2.2.1, a1.2.2.2.2.2.1, a1.2.2.2.2.2.2.1, a2, a1.2.2.2.2.2.2.2.2).2.2.2.1, (a1.1, a1.2.1, a1.2.2.1, a1.2.2.2.1, a1.2.2.2.2.1, a1.2.2.2.2.2.1, a1.2.2.2.2.2.2.1, a2, a1.2.2.2.2.2.2.2.2).2.2.2.2.1, (a1.1, a1.2.1, a1.2.2.1, a1.2.2.2.1, a1.2.2.2.2.1, a1.2.2.2.2.2.1, a1.2.2.2.2.2.2.1, a2, a1.2.2.2.2.2.2.2.2).2.2.2.2.2.1, (a1.1, a1.2.1, a1.2.2.1, a1.2.2.2.1, a1.2.2.2.2.1, a1.2.2.2.2.2.1, a1.2.2.2.2.2.2.1, a2, a1.2.2.2.2.2.2.2.2).2.2.2.2.2.2.1, (a1.1, a1.2.1, a1.2.2.1, a1.2.2.2.1, a1.2.2.2.2.1, a1.2.2.2.2.2.1, a1.2.2.2.2.2.2.1, a2, a1.2.2.2.2.2.2.2.2).2.2.2.2.2.2.2.1, (a1.1, a1.2.1, a1.2.2.1, a1.2.2.2.1, a1.2.2.2.2.1, a1.2.2.2.2.2.1, a1.2.2.2.2.2.2.1, a2, a1.2.2.2.2.2.2.2.2).2.2.2.2.2.2.2.2.1, (a1.1, a1.2.1, a1.2.2.1, a1.2.2.2.1, a1.2.2.2.2.1, a1.2.2.2.2.2.1, a1.2.2.2.2.2.2.1, a2, a1.2.2.2.2.2.2.2.2).2.2.2.2.2.2.2.2.2.1, a3, (a1.1, a1.2.1, a1.2.2.1, a1.2.2.2.1, a1.2.2.2.2.1, a1.2.2.2.2.2.1, a1.2.2.2.2.2.2.1, a2, a1.2.2.2.2.2.2.2.2).2.2.2.2.2.2.2.2.2.2.2).2.2.2.2.2.2.2.1)), (87, ptr b28 8)]) rfl ?_
              refine y (y_load 0 ((.snd (.snd (.snd (.snd (.snd (.snd (.snd (.snd (.fst .here)))))))))) rfl rfl (by first | rfl | (simp only [Pth.off, T.size]; omega)) (ok_snd (ok_snd (ok_snd (ok_snd (ok_snd (ok_snd (ok_snd (ok_snd (ok_fst ok_here))))))))) ty2) rfl ?_
              refine r_pure tabOk 1 [0, 2, 5, 7, 9, 10, 14, 89] (E' := [(0, .one (.int .i64) a0), (2, .one (.int .i64) a2), (5, .one (.int .i64) a5), (7, ptr b1 0), (9, ptr b3 0), (10, ptr b5 0), (14, ptr b28 0), (89, .one .bool ((((a1.1, a1.2.1, a1.2.2.1, a1.2.2.2.1, a1.2.2.2.2.1, a1.2.2.2.2.2.1, a1.2.2.2.2.2.2.1, a2, a1.2.2.2.2.2.2.2.2).1, (a1.1, a1.2.1, a1.2.2.1, a1.2.2.2.1, a1.2.2.2.2.1, a1.2.2.2.2.2.1, a1.2.2.2.2.2.2.1, a2, a1.2.2.2.2.2.2.2.2).2.1, (a1.1, a1.2.1, a1.2.2.1, a1.2.2.2.1, a1.2.2.2.2.1, a1.2.2.2.2.2.1, a1.2.2.2.2.2.2.1, a2, a1.2.2.2.2.2.2.2.2).2.2.1, (a1.1, a1.2.1, a1.2.2.1, a1.2.2.2.1, a1.2.2.2.2.1, a1.2.2.2.2.2.1, a1.2.2.2.2.2.2.1, a2, a1.2.2.2.2.2.2.2.2).2.2.2.1, (a1.1, a1.2.1, a1.2.2.1, a1.2.2.2.1, a1.2.2.2.2.1, a1.2.2.2.2.2.1, a1.2.2.2.2.2.2.1, a2, a1.2.2.2.2.2.2.2.2).2.2.2.2.1, (a1.1, a1.2.1, a1.2.2.1, a1.2.2.2.1, a1.2.2.2.2.1, a1.2.2.2.2.2.1, a1.2.2.2.2.2.2.1, a2, a1.2.2.2.2.2.2.2.2).2.2.2.2.2.1, (a1.1, a1.2.1, a1.2.2.1, a1.2.2.2.1, a1.2.2.2.2.1, a1.2.2.2.2.2.1, a1.2.2.2.2.2.2.1, a2, a1.2.2.2.2.2.2.2.2).2.2.2.2.2.2.1, (a1.1, a1.2.1, a1.2.2.1, a1.2.2.2.1, a1.2.2.2.2.1, a1.2.2.2.2.2.1, a1.2.2.2.2.2.2.1, a2, a1.2.2.2.2.2.2.2.2).2.2.2.2.2.2.2.1, (a1.1, a1.2.1, a1.2.2.1, a1.2.2.2.1, a1.2.2.2.2.1, a1.2.2.2.2.2.1, a1.2.2.2.2.2.2.1, a2, a1.2.2.2.2.2.2.2.2).2.2.2.2.2.2.2.2.1, (a1.1, a1.2.1, a1.2.2.1, a1.2.2.2.1, a1.2.2.2.2.1, a1.2.2.2.2.2.1, a1.2.2.2.2.2.2.1, a2, a1.2.2.2.2.2.2.2.2).2.2.2.2.2.2.2.2.2.1, a3, (a1.1, a1.2.1, a1.2.2.1, a1.2.2.2.1, a1.2.2.2.2.1, a1.2.2.2.2.2.1, a1.2.2.2.2.2.2.1, a2, a1.2.2.2.2.2.2.2.2).2.2.2.2.2.2.2.2.2.2.2).2.2.2.2.2.2.2.1) == (((a1.1, a1.2.1, a1.2.2.1, a1.2.2.2.1, a1.2.2.2.2.1, a1.2.2.2.2.2.1, a1.2.2.2.2.2.2.1, a2, a1.2.2.2.2.2.2.2.2).1, (a1.1, a1.2.1, a1.2.2.1, a1.2.2.2.1, a1.2.2.2.2.1, a1.2.2.2.2.2.1, a1.2.2.2.2.2.2.1, a2, a1.2.2.2.2.2.2.2.2).2.1, (a1.1, a1.2.1, a1.2.2.1, a1.2.2.2.1, a1.2.2.2.2.1, a1.2.2.2.2.2.1, a1.2.2.2.2.2.2.1, a2, a1.2.2.2.2.2.2.2.2).2.2.1, (a1.1, a1.2.1, a1.2.2.1, a1.2.2.2.1, a1.2.2.2.2.1, a1.2.2.2.2.2.1, a1.2.2.2.2.2.2.1, a2, a1.2.2.2.2.2.2.2.2).2.2.2.1, (a1.1, a1.2.1, a1.2.2.1, a1.2.2.2.1, a1.2.2.2.2.1, a1.2.2.2.2.2.1, a1.2.2.2.2.2.2.1, a2, a1.2.2.2.2.2.2.2.2).2.2.2.2.1, (a1.1, a1.2.1, a1.2.2.1, a1.2.2.2.1, a1.2.2.2.2.1, a1.2.2.2.2.2.1, a1.2.2.2.2.2.2.1, a2, a1.2.2.2.2.2.2.2.2).2.2.2.2.2.1, (a1.1, a1.2.1, a1.2.2.1, a1.2.2.2.1, a1.2.2.2.2.1, a1.2.2.2.2.2.1, a1.2.2.2.2.2.2.1, a2, a1.2.2.2.2.2.2.2.2).2.2.2.2.2.2.1, (a1.1, a1.2.1, a1.2.2.1, a1.2.2.2.1, a1.2.2.2.2.1, a1.2.2.2.2.2.1, a1.2.2.2.2.2.2.1, a2, a1.2.2.2.2.2.2.2.2).2.2.2.2.2.2.2.1, (a1.1, a1.2.1, a1.2.2.1, a1.2.2.2.1, a1.2.2.2.2.1, a1.2.2.2.2.2.1, a1.2.2.2.2.2.2.1, a2, a1.2.2.2.2.2.2.2.2).2.2.2.2.2.2.2.2.1, (a1.1, a1.2.1, a1.2.2.1, a1.2.2.2.1, a1.2.2.2.2.1, a1.2.2.2.2.2.1, a1.2.2.2.2.2.2.1, a2, a1.2.2.2.2.2.2.2.2).2.2.2.2.2.2.2.2.2.1, a3, (a1.1, a1.2.1, a1.2.2.1, a1.2.2.2.1, a1.2.2.2.2.1, a1.2.2.2.2.2.1, a1.2.2.2.2.2.2.1, a2, a1.2.2.2.2.2.2.2.2).2.2.2.2.2.2.2.2.2.2.2).2.2.2.2.2.2.2.2.1)))]) rfl ?_
              obtain ⟨t30, ht30, h⟩ := bnd_ex h
              rw [ht30]
              refine r_pure tabOk 1 [0, 2, 5, 7, 9, 10, 14, 90] (E' := [(0, .one (.int .i64) a0), (2, .one (.int .i64) a2), (5, .one (.int .i64) a5), (7, ptr b1 0), (9, ptr b3 0), (10, ptr b5 0), (14, ptr b28 0), (90, .one .bool t30)]) rfl ?_
              refine r_lsplit (γ := Unit) 5 (fun _ => [(0, .one (.int .i64) a0), (2, .one (.int .i64) a2), (5, .one (.int .i64) a5), (9, ptr b3 0), (10, ptr b5 0), (14, ptr b28 0), (95, .one .bool (t30 && (a2 != a1.2.2.2.2.2.2.2.1)))]) (fun _ => [Res.var b28 30 Y30 ((a1.1, a1.2.1, a1.2.2.1, a1.2.2.2.1, a1.2.2.2.2.1, a1.2.2.2.2.2.1, a1.2.2.2.2.2.2.1, a2, a1.2.2.2.2.2.2.2.2).1, (a1.1, a1.2.1, a1.2.2.1, a1.2.2.2.1, a1.2.2.2.2.1, a1.2.2.2.2.2.1, a1.2.2.2.2.2.2.1, a2, a1.2.2.2.2.2.2.2.2).2.1, (a1.1, a1.2.1, a1.2.2.1, a1.2.2.2.1, a1.2.2.2.2.1, a1.2.2.2.2.2.1, a1.2.2.2.2.2.2.1, a2, a1.2.2.2.2.2.2.2.2).2.2.1, (a1.1, a1.2.1, a1.2.2.1, a1.2.2.2.1, a1.2.2.2.2.1, a1.2.2.2.2.2.1, a1.2.2.2.2.2.2.1, a2, a1.2.2.2.2.2.2.2.2).2.2.2.1, (a1.1, a1.2.1, a1.2.2.1, a1.2.2.2.1, a1.2.2.2.2.1, a1.2.2.2.2.2.1, a1.2.2.2.2.2.2.1, a2, a1.2.2.2.2.2.2.2.2).2.2.2.2.1, (a1.1, a1.2.1, a1.2.2.1, a1.2.2.2.1, a1.2.2.2.2.1, a1.2.2.2.2.2.1, a1.2.2.2.2.2.2.1, a2, a1.2.2.2.2.2.2.2.2).2.2.2.2.2.1, (a1.1, a1.2.1, a1.2.2.1, a1.2.2.2.1, a1.2.2.2.2.1, a1.2.2.2.2.2.1, a1.2.2.2.2.2.2.1, a2, a1.2.2.2.2.2.2.2.2).2.2.2.2.2.2.1, (a1.1, a1.2.1, a1.2.2.1, a1.2.2.2.1, a1.2.2.2.2.1, a1.2.2.2.2.2.1, a1.2.2.2.2.2.2.1, a2, a1.2.2.2.2.2.2.2.2).2.2.2.2.2.2.2.1, (a1.1, a1.2.1, a1.2.2.1, a1.2.2.2.1, a1.2.2.2.2.1, a1.2.2.2.2.2.1, a1.2.2.2.2.2.2.1, a2, a1.2.2.2.2.2.2.2.2).2.2.2.2.2.2.2.2.1, (a1.1, a1.2.1, a1.2.2.1, a1.2.2.2.1, a1.2.2.2.2.1, a1.2.2.2.2.2.1, a1.2.2.2.2.2.2.1, a2, a1.2.2.2.2.2.2.2.2).2.2.2.2.2.2.2.2.2.1, a3, (a1.1, a1.2.1, a1.2.2.1, a1.2.2.2.1, a1.2.2.2.2.1, a1.2.2.2.2.2.1, a1.2.2.2.2.2.2.1, a2, a1.2.2.2.2.2.2.2.2).2.2.2.2.2.2.2.2.2.2.2), Res.var b8 32 Y32 r7, Res.var b5 24 Y24 a4, Res.var b3 24 Y24 a3, Res.var b1 30 Y30 a1]) ?_ (fun _ => ?_)
              · clear h
                rcases Bool.eq_false_or_eq_true t30 with hh | hh
                · rw [hh]
                  refine r_pure tabOk 2 [0, 2, 5, 9, 10, 14, 90, 91, 92] (E' := [(0, .one (.int .i64) a0), (2, .one (.int .i64) a2), (5, .one (.int .i64) a5), (9, ptr b3 0), (10, ptr b5 0), (14, ptr b28 0), (90, .one .bool true), (91, .one (.int .i64) a2), (92, ptr b1 7)]) rfl ?_
                  refine r_guard (by rfl) rfl ?_
                  refine y (y_load 4 ((.snd (.snd (.snd (.snd (.snd (.snd (.snd (.fst .here))))))))) rfl rfl (by first | rfl | (simp only [Pth.off, T.size]; omega)) (ok_snd (ok_snd (ok_snd (ok_snd (ok_snd (ok_snd (ok_snd (ok_fst ok_here)))))))) ty2) rfl ?_
                  refine r_pure tabOk 2 [0, 2, 5, 9, 10, 14, 95] (E' := [(0, .one (.int .i64) a0), (2, .one (.int .i64) a2), (5, .one (.int .i64) a5), (9, ptr b3 0), (10, ptr b5 0), (14, ptr b28 0), (95, .one .bool (a2 != a1.2.2.2.2.2.2.2.1))]) rfl ?_
                  refine r_nil ?_
                  refine r_then ?_
                  exact r_meetg () rfl rfl
                · rw [hh]
                  refine r_pure tabOk 5 [0, 2, 5, 9, 10, 14, 95] (E' := [(0, .one (.int .i64) a0), (2, .one (.int .i64) a2), (5, .one (.int .i64) a5), (9, ptr b3 0), (10, ptr b5 0), (14, ptr b28 0), (95, .one .bool false)]) rfl ?_
                  refine r_nil ?_
                  refine r_then ?_
                  exact r_meetg () rfl rfl
              refine r_nil ?_
              refine r_then ?_
              refine r_if (b := (t30 && (a2 != a1.2.2.2.2.2.2.2.1))) rfl (fun hc => ?_) (fun hc => ?_)
              · rw [if_pos hc] at h
                refine r_seq ?_
                refine r_region ?_
                refine r_pure tabOk 1 [12] (E' := [(12, .one .bool false)]) rfl ?_
                refine r_nil ?_
                refine r_then ?_
                refine r_ret ?_
                refine t_then ?_
                obtain rfl := Option.some.inj h
                exact r_ret1 rfl (.tmp rfl) (fun _ _ g => g) (fun _ _ _ => List.nil_sublist _)
              · rw [if_neg (ne_true_of_eq_false hc)] at h
                refine r_skip ?_
                refine r_then ?_
                refine r_seq ?_
                refine r_region ?_
                refine r_pure tabOk 1 [2, 5, 9, 10, 14, 96] (E' := [(2, .one (.int .i64) a2), (5, .one (.int .i64) a5), (9, ptr b3 0), (10, ptr b5 0), (14, ptr b28 0), (96, .one (.int .i64) a0)]) rfl ?_
                refine y (y_load 0 .here rfl rfl (by first | rfl | (simp only [Pth.off, T.size]; omega)) ok_here ty30) rfl ?_
                obtain ⟨r32, hr32, h⟩ := bind_ex h
                refine r_calls (gate_Of_ok a0 ((a1.1, a1.2.1, a1.2.2.1, a1.2.2.2.1, a1.2.2.2.2.1, a1.2.2.2.2.2.1, a1.2.2.2.2.2.2.1, a2, a1.2.2.2.2.2.2.2.2).1, (a1.1, a1.2.1, a1.2.2.1, a1.2.2.2.1, a1.2.2.2.2.1, a1.2.2.2.2.2.1, a1.2.2.2.2.2.2.1, a2, a1.2.2.2.2.2.2.2.2).2.1, (a1.1, a1.2.1, a1.2.2.1, a1.2.2.2.1, a1.2.2.2.2.1, a1.2.2.2.2.2.1, a1.2.2.2.2.2.2.1, a2, a1.2.2.2.2.2.2.2.2).2.2.1, (a1.1, a1.2.1, a1.2.2.1, a1.2.2.2.1, a1.2.2.2.2.1, a1.2.2.2.2.2.1, a1.2.2.2.2.2.2.1, a2, a1.2.2.2.2.2.2.2.2).2.2.2.1, (a1.1, a1.2.1, a1.2.2.1, a1.2.2.2.1, a1.2.2.2.2.1, a1.2.2.2.2.2.1, a1.2.2.2.2.2.2.1, a2, a1.2.2.2.2.2.2.2.2).2.2.2.2.1, (a1.1, a1.2.1, a1.2.2.1, a1.2.2.2.1, a1.2.2.2.2.1, a1.2.2.2.2.2.1, a1.2.2.2.2.2.2.1, a2, a1.2.2.2.2.2.2.2.2).2.2.2.2.2.1, (a1.1, a1.2.1, a1.2.2.1, a1.2.2.2.1, a1.2.2.2.2.1, a1.2.2.2.2.2.1, a1.2.2.2.2.2.2.1, a2, a1.2.2.2.2.2.2.2.2).2.2.2.2.2.2.1, (a1.1, a1.2.1, a1.2.2.1, a1.2.2.2.1, a1.2.2.2.2.1, a1.2.2.2.2.2.1, a1.2.2.2.2.2.2.1, a2, a1.2.2.2.2.2.2.2.2).2.2.2.2.2.2.2.1, (a1.1, a1.2.1, a1.2.2.1, a1.2.2.2.1, a1.2.2.2.2.1, a1.2.2.2.2.2.1, a1.2.2.2.2.2.2.1, a2, a1.2.2.2.2.2.2.2.2).2.2.2.2.2.2.2.2.1, (a1.1, a1.2.1, a1.2.2.1, a1.2.2.2.1, a1.2.2.2.2.1, a1.2.2.2.2.2.1, a1.2.2.2.2.2.2.1, a2, a1.2.2.2.2.2.2.2.2).2.2.2.2.2.2.2.2.2.1, a3, (a1.1, a1.2.1, a1.2.2.1, a1.2.2.2.1, a1.2.2.2.2.1, a1.2.2.2.2.2.1, a1.2.2.2.2.2.2.1, a2, a1.2.2.2.2.2.2.2.2).2.2.2.2.2.2.2.2.2.2.2) _ hr32) (by kernel_rfl) rfl rfl ?_
                refine r_alloc (t := Y32) rfl zf32 rfl fun b33 => ?_
                refine r_store 0 .here rfl rfl rfl (by first | rfl | (simp only [Pth.off, T.size]; omega)) ok_here ty32 ?_
                refine r_nil ?_
                refine r_then ?_
                refine r_seq ?_
                refine r_seq ?_
                refine r_region ?_
                refine y (y_load 0 .here rfl rfl (by first | rfl | (simp only [Pth.off, T.size]; omega)) ok_here ty32) rfl ?_
                refine r_pure tabOk 1 [2, 5, 9, 10, 14, 15, 99, 100] (E' := [(2, .one (.int .i64) a2), (5, .one (.int .i64) a5), (9, ptr b3 0), (10, ptr b5 0), (14, ptr b28 0), (15, ptr b33 0), (99, .one Y32 r32), (100, .one (.int .i64) a2)]) rfl ?_
                refine y (y_load 4 .here rfl rfl (by first | rfl | (simp only [Pth.off, T.size]; omega)) ok_here ty24) rfl ?_
                obtain ⟨r35, hr35, h⟩ := bind_ex h
                refine r_calls (gate_Gate_MaySign_ok r32 a2 a3 _ hr35) (by kernel_rfl) rfl rfl ?_
                refine r_pure tabOk 2 [2, 5, 9, 10, 14, 15, 104] (E' := [(2, .one (.int .i64) a2), (5, .one (.int .i64) a5), (9, ptr b3 0), (10, ptr b5 0), (14, ptr b28 0), (15, ptr b33 0), (104, .one .bool (!r35))]) rfl ?_
                obtain ⟨b36, hbb36, h⟩ := bnd_ex h
                rw [hbb36]
                obtain ⟨k37, hk37, h⟩ := bnd_ex h
                refine r_lsplitk (γ := Unit) 10 (fun (o38 : Bool) _ => [(2, .one (.int .i64) a2), (5, .one (.int .i64) a5), (10, ptr b5 0), (14, ptr b28 0), (15, ptr b33 0), (114, .one .bool o38)]) (fun _ _ => [Res.var b33 32 Y32 r32, Res.var b28 30 Y30 ((a1.1, a1.2.1, a1.2.2.1, a1.2.2.2.1, a1.2.2.2.2.1, a1.2.2.2.2.2.1, a1.2.2.2.2.2.2.1, a2, a1.2.2.2.2.2.2.2.2).1, (a1.1, a1.2.1, a1.2.2.1, a1.2.2.2.1, a1.2.2.2.2.1, a1.2.2.2.2.2.1, a1.2.2.2.2.2.2.1, a2, a1.2.2.2.2.2.2.2.2).2.1, (a1.1, a1.2.1, a1.2.2.1, a1.2.2.2.1, a1.2.2.2.2.1, a1.2.2.2.2.2.1, a1.2.2.2.2.2.2.1, a2, a1.2.2.2.2.2.2.2.2).2.2.1, (a1.1, a1.2.1, a1.2.2.1, a1.2.2.2.1, a1.2.2.2.2.1, a1.2.2.2.2.2.1, a1.2.2.2.2.2.2.1, a2, a1.2.2.2.2.2.2.2.2).2.2.2.1, (a1.1, a1.2.1, a1.2.2.1, a1.2.2.2.1, a1.2.2.2.2.1, a1.2.2.2.2.2.1, a1.2.2.2.2.2.2.1, a2, a1.2.2.2.2.2.2.2.2).2.2.2.2.1, (a1.1, a1.2.1, a1.2.2.1, a1.2.2.2.1, a1.2.2.2.2.1, a1.2.2.2.2.2.1, a1.2.2.2.2.2.2.1, a2, a1.2.2.2.2.2.2.2.2).2.2.2.2.2.1, (a1.1, a1.2.1, a1.2.2.1, a1.2.2.2.1, a1.2.2.2.2.1, a1.2.2.2.2.2.1, a1.2.2.2.2.2.2.1, a2, a1.2.2.2.2.2.2.2.2).2.2.2.2.2.2.1, (a1.1, a1.2.1, a1.2.2.1, a1.2.2.2.1, a1.2.2.2.2.1, a1.2.2.2.2.2.1, a1.2.2.2.2.2.2.1, a2, a1.2.2.2.2.2.2.2.2).2.2.2.2.2.2.2.1, (a1.1, a1.2.1, a1.2.2.1, a1.2.2.2.1, a1.2.2.2.2.1, a1.2.2.2.2.2.1, a1.2.2.2.2.2.2.1, a2, a1.2.2.2.2.2.2.2.2).2.2.2.2.2.2.2.2.1, (a1.1, a1.2.1, a1.2.2.1, a1.2.2.2.1, a1.2.2.2.2.1, a1.2.2.2.2.2.1, a1.2.2.2.2.2.2.1, a2, a1.2.2.2.2.2.2.2.2).2.2.2.2.2.2.2.2.2.1, a3, (a1.1, a1.2.1, a1.2.2.1, a1.2.2.2.1, a1.2.2.2.2.1, a1.2.2.2.2.2.1, a1.2.2.2.2.2.2.1, a2, a1.2.2.2.2.2.2.2.2).2.2.2.2.2.2.2.2.2.2.2), Res.var b8 32 Y32 r7, Res.var b5 24 Y24 a4, Res.var b3 24 Y24 a3, Res.var b1 30 Y30 a1]) k37 r ?_ ?_
                · rcases Bool.eq_false_or_eq_true b36 with hh | hh
                  · rw [hh] at h ⊢
                    rw [if_pos rfl] at h
                    refine r_pure tabOk 10 [2, 5, 10, 14, 15, 114] (E' := [(2, .one (.int .i64) a2), (5, .one (.int .i64) a5), (10, ptr b5 0), (14, ptr b28 0), (15, ptr b33 0), (114, .one .bool true)]) rfl ?_
                    refine r_nil ?_
                    refine r_less [2, 5, 10, 14, 15, 114] rfl ?_
                    refine r_then ?_
                    exact r_meetk true () h rfl rfl
                  · rw [hh] at h ⊢
                    rw [if_neg (by decide)] at h
                    refine r_guard (by rfl) rfl ?_
                    refine y (y_load 3 .here rfl rfl (by first | rfl | (simp only [Pth.off, T.size]; omega)) ok_here ty24) rfl ?_
                    refine r_guard (by rfl) rfl ?_
                    refine y (y_load 4 .here rfl rfl (by first | rfl | (simp only [Pth.off, T.size]; omega)) ok_here ty24) rfl ?_
                    refine r_guard (by rfl) rfl ?_
                    refine y (y_nes 20 rfl rfl rfl rfl ty24 rfl kt24 eg24) rfl ?_
                    refine r_pure tabOk 1 [2, 5, 10, 14, 15, 104, 108] (E' := [(2, .one (.int .i64) a2), (5, .one (.int .i64) a5), (10, ptr b5 0), (14, ptr b28 0), (15, ptr b33 0), (104, .one .bool false), (108, .one .bool (!eqD (.pair (.int .i64) (.pair (.int .i64) .unit)) a4 a3))]) rfl ?_
                    obtain ⟨b39, hbb39, h⟩ := bnd_ex h
                    rw [hbb39]
                    obtain ⟨k40, hk40, h⟩ := bnd_ex h
                    refine r_lsplitk (γ := Unit) 5 (fun (o41 : Bool) _ => [(2, .one (.int .i64) a2), (5, .one (.int .i64) a5), (10, ptr b5 0), (14, ptr b28 0), (15, ptr b33 0), (104, .one .bool false), (113, .one .bool o41)]) (fun _ _ => [Res.var b33 32 Y32 r32, Res.var b28 30 Y30 ((a1.1, a1.2.1, a1.2.2.1, a1.2.2.2.1, a1.2.2.2.2.1, a1.2.2.2.2.2.1, a1.2.2.2.2.2.2.1, a2, a1.2.2.2.2.2.2.2.2).1, (a1.1, a1.2.1, a1.2.2.1, a1.2.2.2.1, a1.2.2.2.2.1, a1.2.2.2.2.2.1, a1.2.2.2.2.2.2.1, a2, a1.2.2.2.2.2.2.2.2).2.1, (a1.1, a1.2.1, a1.2.2.1, a1.2.2.2.1, a1.2.2.2.2.1, a1.2.2.2.2.2.1, a1.2.2.2.2.2.2.1, a2, a1.2.2.2.2.2.2.2.2).2.2.1, (a1.1, a1.2.1, a1.2.2.1, a1.2.2.2.1, a1.2.2.2.2.1, a1.2.2.2.2.2.1, a1.2.2.2.2.2.2.1, a2, a1.2.2.2.2.2.2.2.2).2.2.2.1, (a1.1, a1.2.1, a1.2.2.1, a1.2.2.2.1, a1.2.2.2.2.1, a1.2.2.2.2.2.1, a1.2.2.2.2.2.2.1, a2, a1.2.2.2.2.2.2.2.2).2.2.2.2.1, (a1.1, a1.2.1, a1.2.2.1, a1.2.2.2.1, a1.2.2.2.2.1, a1.2.2.2.2.2.1, a1.2.2.2.2.2.2.1, a2, a1.2.2.2.2.2.2.2.2).2.2.2.2.2.1, (a1.1, a1.2.1, a1.2.2.1, a1.2.2.2.1, a1.2.2.2.2.1, a1.2.2.2.2.2.1, a1.2.2.2.2.2.2.1, a2, a1.2.2.2.2.2.2.2.2).2.2.2.2.2.2.1, (a1.1, a1.2.1, a1.2.2.1, a1.2.2.2.1, a1.2.2.2.2.1, a1.2.2.2.2.2.1, a1.2.2.2.2.2.2.1, a2, a1.2.2.2.2.2.2.2.2).2.2.2.2.2.2.2.1, (a1.1, a1.2.1, a1.2.2.1, a1.2.2.2.1, a1.2.2.2.2.1, a1.2.2.2.2.2.1, a1.2.2.2.2.2.2.1, a2, a1.2.2.2.2.2.2.2.2).2.2.2.2.2.2.2.2.1, (a1.1, a1.2.1, a1.2.2.1, a1.2.2.2.1, a1.2.2.2.2.1, a1.2.2.2.2.2.1, a1.2.2.2.2.2.2.1, a2, a1.2.2.2.2.2.2.2.2).2.2.2.2.2.2.2.2.2.1, a3, (a1.1, a1.2.1, a1.2.2.1, a1.2.2.2.1, a1.2.2.2.2.1, a1.2.2.2.2.2.1, a1.2.2.2.2.2.2.1, a2, a1.2.2.2.2.2.2.2.2).2.2.2.2.2.2.2.2.2.2.2), Res.var b8 32 Y32 r7, Res.var b5 24 Y24 a4, Res.var b3 24 Y24 a3, Res.var b1 30 Y30 a1]) k40 r ?_ ?_
                    · rcases Bool.eq_false_or_eq_true b39 with hh | hh
                      · rw [hh] at h ⊢
                        rw [if_pos rfl] at h
                        refine r_guard (by rfl) rfl ?_
                        refine y (y_load 0 .here rfl rfl (by first | rfl | (simp only [Pth.off, T.size]; omega)) ok_here ty32) rfl ?_
                        refine r_pure tabOk 1 [2, 5, 10, 14, 15, 104, 108, 109, 110] (E' := [(2, .one (.int .i64) a2), (5, .one (.int .i64) a5), (10, ptr b5 0), (14, ptr b28 0), (15, ptr b33 0), (104, .one .bool false), (108, .one .bool true), (109, .one Y32 r32), (110, .one (.int .i64) a2)]) rfl ?_
                        refine r_guard (by rfl) rfl ?_
                        refine y (y_load 3 .here rfl rfl (by first | rfl | (simp only [Pth.off, T.size]; omega)) ok_here ty24) rfl ?_
                        refine r_guard (by rfl) rfl ?_
                        obtain ⟨r42, hr42, h⟩ := bind_ex h
                        refine r_calls (gate_Gate_MaySign_ok r32 a2 a4 _ hr42) (by kernel_rfl) rfl rfl ?_
                        refine r_pure tabOk 1 [2, 5, 10, 14, 15, 104, 113] (E' := [(2, .one (.int .i64) a2), (5, .one (.int .i64) a5), (10, ptr b5 0), (14, ptr b28 0), (15, ptr b33 0), (104, .one .bool false), (113, .one .bool r42)]) rfl ?_
                        refine r_nil ?_
                        refine r_less [2, 5, 10, 14, 15, 104, 113] rfl ?_
                        refine r_then ?_
                        exact r_meetk r42 () h rfl rfl
                      · rw [hh] at h ⊢
                        rw [if_neg (by decide)] at h
                        refine r_pure tabOk 5 [2, 5, 10, 14, 15, 104, 113] (E' := [(2, .one (.int .i64) a2), (5, .one (.int .i64) a5), (10, ptr b5 0), (14, ptr b28 0), (15, ptr b33 0), (104, .one .bool false), (113, .one .bool false)]) rfl ?_
                        refine r_nil ?_
                        refine r_less [2, 5, 10, 14, 15, 104, 113] rfl ?_
                        refine r_then ?_
                        exact r_meetk false () h rfl rfl
                    · intro o41 _ h
                      rw [← hk40] at h
                      try dsimp only at h
                      refine r_pure tabOk 1 [2, 5, 10, 14, 15, 114] (E' := [(2, .one (.int .i64) a2), (5, .one (.int .i64) a5), (10, ptr b5 0), (14, ptr b28 0), (15, ptr b33 0), (114, .one .bool o41)]) rfl ?_
                      refine r_nil ?_
                      refine r_less [2, 5, 10, 14, 15, 114] rfl ?_
                      refine r_then ?_
                      exact r_meetk o41 () h rfl rfl
                · intro o38 _ h
                  rw [← hk37] at h
                  try dsimp only at h
                  refine r_pure tabOk 1 [2, 5, 10, 14, 15, 115] (E' := [(2, .one (.int .i64) a2), (5, .one (.int .i64) a5), (10, ptr b5 0), (14, ptr b28 0), (15, ptr b33 0), (115, .one .bool o38)]) rfl ?_
                  obtain ⟨k44, hk44, h⟩ := bnd_ex h
                  refine r_lsplitk (γ := Unit) 10 (fun (o45 : Bool) _ => [(2, .one (.int .i64) a2), (5, .one (.int .i64) a5), (10, ptr b5 0), (14, ptr b28 0), (15, ptr b33 0), (125, .one .bool o45)]) (fun _ _ => [Res.var b33 32 Y32 r32, Res.var b28 30 Y30 ((a1.1, a1.2.1, a1.2.2.1, a1.2.2.2.1, a1.2.2.2.2.1, a1.2.2.2.2.2.1, a1.2.2.2.2.2.2.1, a2, a1.2.2.2.2.2.2.2.2).1, (a1.1, a1.2.1, a1.2.2.1, a1.2.2.2.1, a1.2.2.2.2.1, a1.2.2.2.2.2.1, a1.2.2.2.2.2.2.1, a2, a1.2.2.2.2.2.2.2.2).2.1, (a1.1, a1.2.1, a1.2.2.1, a1.2.2.2.1, a1.2.2.2.2.1, a1.2.2.2.2.2.1, a1.2.2.2.2.2.2.1, a2, a1.2.2.2.2.2.2.2.2).2.2.1, (a1.1, a1.2.1, a1.2.2.1, a1.2.2.2.1, a1.2.2.2.2.1, a1.2.2.2.2.2.1, a1.2.2.2.2.2.2.1, a2, a1.2.2.2.2.2.2.2.2).2.2.2.1, (a1.1, a1.2.1, a1.2.2.1, a1.2.2.2.1, a1.2.2.2.2.1, a1.2.2.2.2.2.1, a1.2.2.2.2.2.2.1, a2, a1.2.2.2.2.2.2.2.2).2.2.2.2.1, (a1.1, a1.2.1, a1.2.2.1, a1.2.2.2.1, a1.2.2.2.2.1, a1.2.2.2.2.2.1, a1.2.2.2.2.2.2.1, a2, a1.2.2.2.2.2.2.2.2).2.2.2.2.2.1, (a1.1, a1.2.1, a1.2.2.1, a1.2.2.2.1, a1.2.2.2.2.1, a1.2.2.2.2.2.1, a1.2.2.2.2.2.2.1, a2, a1.2.2.2.2.2.2.2.2).2.2.2.2.2.2.1, (a1.1, a1.2.1, a1.2.2.1, a1.2.2.2.1, a1.2.2.2.2.1, a1.2.2.2.2.2.1, a1.2.2.2.2.2.2.1, a2, a1.2.2.2.2.2.2.2.2).2.2.2.2.2.2.2.1, (a1.1, a1.2.1, a1.2.2.1, a1.2.2.2.1, a1.2.2.2.2.1, a1.2.2.2.2.2.1, a1.2.2.2.2.2.2.1, a2, a1.2.2.2.2.2.2.2.2).2.2.2.2.2.2.2.2.1, (a1.1, a1.2.1, a1.2.2.1, a1.2.2.2.1, a1.2.2.2.2.1, a1.2.2.2.2.2.1, a1.2.2.2.2.2.2.1, a2, a1.2.2.2.2.2.2.2.2).2.2.2.2.2.2.2.2.2.1, a3, (a1.1, a1.2.1, a1.2.2.1, a1.2.2.2.1, a1.2.2.2.2.1, a1.2.2.2.2.2.1, a1.2.2.2.2.2.2.1, a2, a1.2.2.2.2.2.2.2.2).2.2.2.2.2.2.2.2.2.2.2), Res.var b8 32 Y32 r7, Res.var b5 24 Y24 a4, Res.var b3 24 Y24 a3, Res.var b1 30 Y30 a1]) k44 r ?_ ?_
                  · rcases Bool.eq_false_or_eq_true o38 with hh | hh
                    · rw [hh] at h ⊢
                      rw [if_pos rfl] at h
                      refine r_pure tabOk 10 [2, 5, 10, 14, 15, 125] (E' := [(2, .one (.int .i64) a2), (5, .one (.int .i64) a5), (10, ptr b5 0), (14, ptr b28 0), (15, ptr b33 0), (125, .one .bool true)]) rfl ?_
                      refine r_nil ?_
                      refine r_less [2, 5, 10, 14, 15, 125] rfl ?_
                      refine r_then ?_
                      exact r_meetk true () h rfl rfl
                    · rw [hh] at h ⊢
                      rw [if_neg (by decide)] at h
                      refine r_pure tabOk 4 [2, 5, 10, 14, 15, 115, 119] (E' := [(2, .one (.int .i64) a2), (5, .one (.int .i64) a5), (10, ptr b5 0), (14, ptr b28 0), (15, ptr b33 0), (115, .one .bool false), (119, .one .bool (decide (a5 < a2)))]) rfl ?_
                      obtain ⟨b46, hbb46, h⟩ := bnd_ex h
                      rw [hbb46]
                      obtain ⟨k47, hk47, h⟩ := bnd_ex h
                      refine r_lsplitk (γ := Unit) 5 (fun (o48 : Bool) _ => [(2, .one (.int .i64) a2), (5, .one (.int .i64) a5), (10, ptr b5 0), (14, ptr b28 0), (15, ptr b33 0), (115, .one .bool false), (124, .one .bool o48)]) (fun _ _ => [Res.var b33 32 Y32 r32, Res.var b28 30 Y30 ((a1.1, a1.2.1, a1.2.2.1, a1.2.2.2.1, a1.2.2.2.2.1, a1.2.2.2.2.2.1, a1.2.2.2.2.2.2.1, a2, a1.2.2.2.2.2.2.2.2).1, (a1.1, a1.2.1, a1.2.2.1, a1.2.2.2.1, a1.2.2.2.2.1, a1.2.2.2.2.2.1, a1.2.2.2.2.2.2.1, a2, a1.2.2.2.2.2.2.2.2).2.1, (a1.1, a1.2.1, a1.2.2.1, a1.2.2.2.1, a1.2.2.2.2.1, a1.2.2.2.2.2.1, a1.2.2.2.2.2.2.1, a2, a1.2.2.2.2.2.2.2.2).2.2.1, (a1.1, a1.2.1, a1.2.2.1, a1.2.2.2.1, a1.2.2.2.2.1, a1.2.2.2.2.2.1, a1.2.2.2.2.2.2.1, a2, a1.2.2.2.2.2.2.2.2).2.2.2.1, (a1.1, a1.2.1, a1.2.2.1, a1.2.2.2.1, a1.2.2.2.2.1, a1.2.2.2.2.2.1, a1.2.2.2.2.2.2.1, a2, a1.2.2.2.2.2.2.2.2).2.2.2.2.1, (a1.1, a1.2.1, a1.2.2.1, a1.2.2.2.1, a1.2.2.2.2.1, a1.2.2.2.2.2.1, a1.2.2.2.2.2.2.1, a2, a1.2.2.2.2.2.2.2.2).2.2.2.2.2.1, (a1.1, a1.2.1, a1.2.2.1, a1.2.2.2.1, a1.2.2.2.2.1, a1.2.2.2.2.2.1, a1.2.2.2.2.2.2.1, a2, a1.2.2.2.2.2.2.2.2).2.2.2.2.2.2.1, (a1.1, a1.2.1, a1.2.2.1, a1.2.2.2.1, a1.2.2.2.2.1, a1.2.2.2.2.2.1, a1.2.2.2.2.2.2.1, a2, a1.2.2.2.2.2.2.2.2).2.2.2.2.2.2.2.1, (a1.1, a1.2.1, a1.2.2.1, a1.2.2.2.1, a1.2.2.2.2.1, a1.2.2.2.2.2.1, a1.2.2.2.2.2.2.1, a2, a1.2.2.2.2.2.2.2.2).2.2.2.2.2.2.2.2.1, (a1.1, a1.2.1, a1.2.2.1, a1.2.2.2.1, a1.2.2.2.2.1, a1.2.2.2.2.2.1, a1.2.2.2.2.2.2.1, a2, a1.2.2.2.2.2.2.2.2).2.2.2.2.2.2.2.2.2.1, a3, (a1.1, a1.2.1, a1.2.2.1, a1.2.2.2.1, a1.2.2.2.2.1, a1.2.2.2.2.2.1, a1.2.2.2.2.2.2.1, a2, a1.2.2.2.2.2.2.2.2).2.2.2.2.2.2.2.2.2.2.2), Res.var b8 32 Y32 r7, Res.var b5 24 Y24 a4, Res.var b3 24 Y24 a3, Res.var b1 30 Y30 a1]) k47 r ?_ ?_
                      · rcases Bool.eq_false_or_eq_true b46 with hh | hh
                        · rw [hh] at h ⊢
                          rw [if_pos rfl] at h
                          refine r_guard (by rfl) rfl ?_
                          refine y (y_load 0 .here rfl rfl (by first | rfl | (simp only [Pth.off, T.size]; omega)) ok_here ty32) rfl ?_
                          refine r_pure tabOk 1 [2, 5, 10, 14, 15, 115, 119, 120, 121] (E' := [(2, .one (.int .i64) a2), (5, .one (.int .i64) a5), (10, ptr b5 0), (14, ptr b28 0), (15, ptr b33 0), (115, .one .bool false), (119, .one .bool true), (120, .one Y32 r32), (121, .one (.int .i64) a5)]) rfl ?_
                          refine r_guard (by rfl) rfl ?_
                          refine y (y_load 3 .here rfl rfl (by first | rfl | (simp only [Pth.off, T.size]; omega)) ok_here ty24) rfl ?_
                          refine r_guard (by rfl) rfl ?_
                          obtain ⟨r49, hr49, h⟩ := bind_ex h
                          refine r_calls (gate_Gate_MaySign_ok r32 a5 a4 _ hr49) (by kernel_rfl) rfl rfl ?_
                          refine r_pure tabOk 1 [2, 5, 10, 14, 15, 115, 124] (E' := [(2, .one (.int .i64) a2), (5, .one (.int .i64) a5), (10, ptr b5 0), (14, ptr b28 0), (15, ptr b33 0), (115, .one .bool false), (124, .one .bool r49)]) rfl ?_
                          refine r_nil ?_
                          refine r_less [2, 5, 10, 14, 15, 115, 124] rfl ?_
                          refine r_then ?_
                          exact r_meetk r49 () h rfl rfl
                        · rw [hh] at h ⊢
                          rw [if_neg (by decide)] at h
                          refine r_pure tabOk 5 [2, 5, 10, 14, 15, 115, 124] (E' := [(2, .one (.int .i64) a2), (5, .one (.int .i64) a5), (10, ptr b5 0), (14, ptr b28 0), (15, ptr b33 0), (115, .one .bool false), (124, .one .bool false)]) rfl ?_
                          refine r_nil ?_
                          refine r_less [2, 5, 10, 14, 15, 115, 124] rfl ?_
                          refine r_then ?_
                          exact r_meetk false () h rfl rfl
                      · intro o48 _ h
                        rw [← hk47] at h
                        try dsimp only at h
                        refine r_pure tabOk 1 [2, 5, 10, 14, 15, 125] (E' := [(2, .one (.int .i64) a2), (5, .one (.int .i64) a5), (10, ptr b5 0), (14, ptr b28 0), (15, ptr b33 0), (125, .one .bool o48)]) rfl ?_
                        refine r_nil ?_
                        refine r_less [2, 5, 10, 14, 15, 125] rfl ?_
                        refine r_then ?_
                        exact r_meetk o48 () h rfl rfl
                  · intro o45 _ h
                    rw [← hk44] at h
                    try dsimp only at h
                    refine r_nil ?_
                    refine r_then ?_
                    refine r_if (b := o45) rfl (fun hc => ?_) (fun hc => ?_)
                    · rw [if_pos hc] at h
                      refine r_seq ?_
                      refine r_region ?_
                      refine r_pure tabOk 1 [12] (E' := [(12, .one .bool false)]) rfl ?_
                      refine r_nil ?_
                      refine r_then ?_
                      refine r_ret ?_
                      refine t_then ?_
                      obtain rfl := Option.some.inj h
                      exact r_ret1 rfl (.tmp rfl) (fun _ _ g => g) (fun _ _ _ => List.nil_sublist _)
                    · rw [if_neg (ne_true_of_eq_false hc)] at h
                      refine r_skip ?_
                      refine r_then ?_
                      refine r_seq ?_
                      refine r_region ?_
                      refine r_pure tabOk 1 [2, 5, 10, 14, 15, 126] (E' := [(2, .one (.int .i64) a2), (5, .one (.int .i64) a5), (10, ptr b5 0), (14, ptr b28 0), (15, ptr b33 0), (126, ptr b28 7)]) rfl ?_
                      refine y (y_load 1 ((.snd (.snd (.snd (.snd (.snd (.snd (.snd (.fst .here))))))))) rfl rfl (by first | rfl | (simp only [Pth.off, T.size]; omega)) (ok_snd (ok_snd (ok_snd (ok_snd (ok_snd (ok_snd (ok_snd (ok_fst ok_here)))))))) ty2) rfl ?_
                      refine r_pure tabOk 1 [2, 5, 10, 15, 127, 128] (E' := [(2, .one (.int .i64) a2), (5, .one (.int .i64) a5), (10, ptr b5 0), (15, ptr b33 0), (127, .one (.int .i64) (((a1.1, a1.2.1, a1.2.2.1, a1.2.2.2.1, a1.2.2.2.2.1, a1.2.2.2.2.2.1, a1.2.2.2.2.2.2.1, a2, a1.2.2.2.2.2.2.2.2).1, (a1.1, a1.2.1, a1.2.2.1, a1.2.2.2.1, a1.2.2.2.2.1, a1.2.2.2.2.2.1, a1.2.2.2.2.2.2.1, a2, a1.2.2.2.2.2.2.2.2).2.1, (a1.1, a1.2.1, a1.2.2.1, a1.2.2.2.1, a1.2.2.2.2.1, a1.2.2.2.2.2.1, a1.2.2.2.2.2.2.1, a2, a1.2.2.2.2.2.2.2.2).2.2.1, (a1.1, a1.2.1, a1.2.2.1, a1.2.2.2.1, a1.2.2.2.2.1, a1.2.2.2.2.2.1, a1.2.2.2.2.2.2.1, a2, a1.2.2.2.2.2.2.2.2).2.2.2.1, (a1.1, a1.2.1, a1.2.2.1, a1.2.2.2.1, a1.2.2.2.2.1, a1.2.2.2.2.2.1, a1.2.2.2.2.2.2.1, a2, a1.2.2.2.2.2.2.2.2).2.2.2.2.1, (a1.1, a1.2.1, a1.2.2.1, a1.2.2.2.1, a1.2.2.2.2.1, a1.2.2.2.2.2.1, a1.2.2.2.2.2.2.1, a2, a1.2.2.2.2.2.2.2.2).2.2.2.2.2.1, (a1.1, a1.2.1, a1.2.2.1, a1.2.2.2.1, a1.2.2.2.2.1, a1.2.2.2.2.2.1, a1.2.2.2.2.2.2.1, a2, a1.2.2.2.2.2.2.2.2).2.2.2.2.2.2.1, (a1.1, a1.2.1, a1.2.2.1, a1.2.2.2.1, a1.2.2.2.2.1, a1.2.2.2.2.2.1, a1.2.2.2.2.2.2.1, a2, a1.2.2.2.2.2.2.2.2).2.2.2.2.2.2.2.1, (a1.1, a1.2.1, a1.2.2.1, a1.2.2.2.1, a1.2.2.2.2.1, a1.2.2.2.2.2.1, a1.2.2.2.2.2.2.1, a2, a1.2.2.2.2.2.2.2.2).2.2.2.2.2.2.2.2.1, (a1.1, a1.2.1, a1.2.2.1, a1.2.2.2.1, a1.2.2.2.2.1, a1.2.2.2.2.2.1, a1.2.2.2.2.2.2.1, a2, a1.2.2.2.2.2.2.2.2).2.2.2.2.2.2.2.2.2.1, a3, (a1.1, a1.2.1, a1.2.2.1, a1.2.2.2.1, a1.2.2.2.2.1, a1.2.2.2.2.2.1, a1.2.2.2.2.2.2.1, a2, a1.2.2.2.2.2.2.2.2).2.2.2.2.2.2.2.2.2.2.2).2.2.2.2.2.2.2.1)), (128, ptr b28 8)]) rfl ?_
                      refine y (y_load 1 ((.snd (.snd (.snd (.snd (.snd (.snd (.snd (.snd (.fst .here)))))))))) rfl rfl (by first | rfl | (simp only [Pth.off, T.size]; omega)) (ok_snd (ok_snd (ok_snd (ok_snd (ok_snd (ok_snd (ok_snd (ok_snd (ok_fst ok_here))))))))) ty2) rfl ?_
                      refine r_pure tabOk 1 [2, 5, 10, 15, 130] (E' := [(2, .one (.int .i64) a2), (5, .one (.int .i64) a5), (10, ptr b5 0), (15, ptr b33 0), (130, .one .bool ((((a1.1, a1.2.1, a1.2.2.1, a1.2.2.2.1, a1.2.2.2.2.1, a1.2.2.2.2.2.1, a1.2.2.2.2.2.2.1, a2, a1.2.2.2.2.2.2.2.2).1, (a1.1, a1.2.1, a1.2.2.1, a1.2.2.2.1, a1.2.2.2.2.1, a1.2.2.2.2.2.1, a1.2.2.2.2.2.2.1, a2, a1.2.2.2.2.2.2.2.2).2.1, (a1.1, a1.2.1, a1.2.2.1, a1.2.2.2.1, a1.2.2.2.2.1, a1.2.2.2.2.2.1, a1.2.2.2.2.2.2.1, a2, a1.2.2.2.2.2.2.2.2).2.2.1, (a1.1, a1.2.1, a1.2.2.1, a1.2.2.2.1, a1.2.2.2.2.1, a1.2.2.2.2.2.1, a1.2.2.2.2.2.2.1, a2, a1.2.2.2.2.2.2.2.2).2.2.2.1, (a1.1, a1.2.1, a1.2.2.1, a1.2.2.2.1, a1.2.2.2.2.1, a1.2.2.2.2.2.1, a1.2.2.2.2.2.2.1, a2, a1.2.2.2.2.2.2.2.2).2.2.2.2.1, (a1.1, a1.2.1, a1.2.2.1, a1.2.2.2.1, a1.2.2.2.2.1, a1.2.2.2.2.2.1, a1.2.2.2.2.2.2.1, a2, a1.2.2.2.2.2.2.2.2).2.2.2.2.2.1, (a1.1, a1.2.1, a1.2.2.1, a1.2.2.2.1, a1.2.2.2.2.1, a1.2.2.2.2.2.1, a1.2.2.2.2.2.2.1, a2, a1.2.2.2.2.2.2.2.2).2.2.2.2.2.2.1, (a1.1, a1.2.1, a1.2.2.1, a1.2.2.2.1, a1.2.2.2.2.1, a1.2.2.2.2.2.1, a1.2.2.2.2.2.2.1, a2, a1.2.2.2.2.2.2.2.2).2.2.2.2.2.2.2.1, (a1.1, a1.2.1, a1.2.2.1, a1.2.2.2.1, a1.2.2.2.2.1, a1.2.2.2.2.2.1, a1.2.2.2.2.2.2.1, a2, a1.2.2.2.2.2.2.2.2).2.2.2.2.2.2.2.2.1, (a1.1, a1.2.1, a1.2.2.1, a1.2.2.2.1, a1.2.2.2.2.1, a1.2.2.2.2.2.1, a1.2.2.2.2.2.2.1, a2, a1.2.2.2.2.2.2.2.2).2.2.2.2.2.2.2.2.2.1, a3, (a1.1, a1.2.1, a1.2.2.1, a1.2.2.2.1, a1.2.2.2.2.1, a1.2.2.2.2.2.1, a1.2.2.2.2.2.2.1, a2, a1.2.2.2.2.2.2.2.2).2.2.2.2.2.2.2.2.2.2.2).2.2.2.2.2.2.2.1) == (((a1.1, a1.2.1, a1.2.2.1, a1.2.2.2.1, a1.2.2.2.2.1, a1.2.2.2.2.2.1, a1.2.2.2.2.2.2.1, a2, a1.2.2.2.2.2.2.2.2).1, (a1.1, a1.2.1, a1.2.2.1, a1.2.2.2.1, a1.2.2.2.2.1, a1.2.2.2.2.2.1, a1.2.2.2.2.2.2.1, a2, a1.2.2.2.2.2.2.2.2).2.1, (a1.1, a1.2.1, a1.2.2.1, a1.2.2.2.1, a1.2.2.2.2.1, a1.2.2.2.2.2.1, a1.2.2.2.2.2.2.1, a2, a1.2.2.2.2.2.2.2.2).2.2.1, (a1.1, a1.2.1, a1.2.2.1, a1.2.2.2.1, a1.2.2.2.2.1, a1.2.2.2.2.2.1, a1.2.2.2.2.2.2.1, a2, a1.2.2.2.2.2.2.2.2).2.2.2.1, (a1.1, a1.2.1, a1.2.2.1, a1.2.2.2.1, a1.2.2.2.2.1, a1.2.2.2.2.2.1, a1.2.2.2.2.2.2.1, a2, a1.2.2.2.2.2.2.2.2).2.2.2.2.1, (a1.1, a1.2.1, a1.2.2.1, a1.2.2.2.1, a1.2.2.2.2.1, a1.2.2.2.2.2.1, a1.2.2.2.2.2.2.1, a2, a1.2.2.2.2.2.2.2.2).2.2.2.2.2.1, (a1.1, a1.2.1, a1.2.2.1, a1.2.2.2.1, a1.2.2.2.2.1, a1.2.2.2.2.2.1, a1.2.2.2.2.2.2.1, a2, a1.2.2.2.2.2.2.2.2).2.2.2.2.2.2.1, (a1.1, a1.2.1, a1.2.2.1, a1.2.2.2.1, a1.2.2.2.2.1, a1.2.2.2.2.2.1, a1.2.2.2.2.2.2.1, a2, a1.2.2.2.2.2.2.2.2).2.2.2.2.2.2.2.1, (a1.1, a1.2.1, a1.2.2.1, a1.2.2.2.1, a1.2.2.2.2.1, a1.2.2.2.2.2.1, a1.2.2.2.2.2.2.1, a2, a1.2.2.2.2.2.2.2.2).2.2.2.2.2.2.2.2.1, (a1.1, a1.2.1, a1.2.2.1, a1.2.2.2.1, a1.2.2.2.2.1, a1.2.2.2.2.2.1, a1.2.2.2.2.2.2.1, a2, a1.2.2.2.2.2.2.2.2).2.2.2.2.2.2.2.2.2.1, a3, (a1.1, a1.2.1, a1.2.2.1, a1.2.2.2.1, a1.2.2.2.2.1, a1.2.2.2.2.2.1, a1.2.2.2.2.2.2.1, a2, a1.2.2.2.2.2.2.2.2).2.2.2.2.2.2.2.2.2.2.2).2.2.2.2.2.2.2.2.1)))]) rfl ?_
                      obtain ⟨t50, ht50, h⟩ := bnd_ex h
                      rw [ht50]
                      refine r_pure tabOk 1 [2, 5, 10, 15, 131] (E' := [(2, .one (.int .i64) a2), (5, .one (.int .i64) a5), (10, ptr b5 0), (15, ptr b33 0), (131, .one .bool t50)]) rfl ?_
                      refine r_lsplit (γ := Unit) 4 (fun _ => [(5, .one (.int .i64) a5), (10, ptr b5 0), (15, ptr b33 0), (135, .one .bool (t50 || (decide (a5 ≤ a2))))]) (fun _ => [Res.var b33 32 Y32 r32, Res.var b28 30 Y30 ((a1.1, a1.2.1, a1.2.2.1, a1.2.2.2.1, a1.2.2.2.2.1, a1.2.2.2.2.2.1, a1.2.2.2.2.2.2.1, a2, a1.2.2.2.2.2.2.2.2).1, (a1.1, a1.2.1, a1.2.2.1, a1.2.2.2.1, a1.2.2.2.2.1, a1.2.2.2.2.2.1, a1.2.2.2.2.2.2.1, a2, a1.2.2.2.2.2.2.2.2).2.1, (a1.1, a1.2.1, a1.2.2.1, a1.2.2.2.1, a1.2.2.2.2.1, a1.2.2.2.2.2.1, a1.2.2.2.2.2.2.1, a2, a1.2.2.2.2.2.2.2.2).2.2.1, (a1.1, a1.2.1, a1.2.2.1, a1.2.2.2.1, a1.2.2.2.2.1, a1.2.2.2.2.2.1, a1.2.2.2.2.2.2.1, a2, a1.2.2.2.2.2.2.2.2).2.2.2.1, (a1.1, a1.2.1, a1.2.2.1, a1.2.2.2.1, a1.2.2.2.2.1, a1.2.2.2.2.2.1, a1.2.2.2.2.2.2.1, a2, a1.2.2.2.2.2.2.2.2).2.2.2.2.1, (a1.1, a1.2.1, a1.2.2.1, a1.2.2.2.1, a1.2.2.2.2.1, a1.2.2.2.2.2.1, a1.2.2.2.2.2.2.1, a2, a1.2.2.2.2.2.2.2.2).2.2.2.2.2.1, (a1.1, a1.2.1, a1.2.2.1, a1.2.2.2.1, a1.2.2.2.2.1, a1.2.2.2.2.2.1, a1.2.2.2.2.2.2.1, a2, a1.2.2.2.2.2.2.2.2).2.2.2.2.2.2.1, (a1.1, a1.2.1, a1.2.2.1, a1.2.2.2.1, a1.2.2.2.2.1, a1.2.2.2.2.2.1, a1.2.2.2.2.2.2.1, a2, a1.2.2.2.2.2.2.2.2).2.2.2.2.2.2.2.1, (a1.1, a1.2.1, a1.2.2.1, a1.2.2.2.1, a1.2.2.2.2.1, a1.2.2.2.2.2.1, a1.2.2.2.2.2.2.1, a2, a1.2.2.2.2.2.2.2.2).2.2.2.2.2.2.2.2.1, (a1.1, a1.2.1, a1.2.2.1, a1.2.2.2.1, a1.2.2.2.2.1, a1.2.2.2.2.2.1, a1.2.2.2.2.2.2.1, a2, a1.2.2.2.2.2.2.2.2).2.2.2.2.2.2.2.2.2.1, a3, (a1.1, a1.2.1, a1.2.2.1, a1.2.2.2.1, a1.2.2.2.2.1, a1.2.2.2.2.2.1, a1.2.2.2.2.2.2.1, a2, a1.2.2.2.2.2.2.2.2).2.2.2.2.2.2.2.2.2.2.2), Res.var b8 32 Y32 r7, Res.var b5 24 Y24 a4, Res.var b3 24 Y24 a3, Res.var b1 30 Y30 a1]) ?_ (fun _ => ?_)
                      · clear h
                        rcases Bool.eq_false_or_eq_true t50 with hh | hh
                        · rw [hh]
                          refine r_pure tabOk 4 [5, 10, 15, 135] (E' := [(5, .one (.int .i64) a5), (10, ptr b5 0), (15, ptr b33 0), (135, .one .bool true)]) rfl ?_
                          refine r_nil ?_
                          refine r_then ?_
                          exact r_meetg () rfl rfl
                        · rw [hh]
                          refine r_pure tabOk 4 [5, 10, 15, 135] (E' := [(5, .one (.int .i64) a5), (10, ptr b5 0), (15, ptr b33 0), (135, .one .bool (decide (a5 ≤ a2)))]) rfl ?_
                          refine r_nil ?_
                          refine r_then ?_
                          exact r_meetg () rfl rfl
                      refine r_pure tabOk 1 [5, 10, 15, 136] (E' := [(5, .one (.int .i64) a5), (10, ptr b5 0), (15, ptr b33 0), (136, .one .bool (t50 || (decide (a5 ≤ a2))))]) rfl ?_
                      obtain ⟨b52, hbb52, h⟩ := bnd_ex h
                      rw [hbb52]
                      obtain ⟨k53, hk53, h⟩ := bnd_ex h
                      refine r_lsplitk (γ := Unit) 6 (fun (o54 : Bool) _ => [(142, .one .bool o54)]) (fun _ _ => [Res.var b33 32 Y32 r32, Res.var b28 30 Y30 ((a1.1, a1.2.1, a1.2.2.1, a1.2.2.2.1, a1.2.2.2.2.1, a1.2.2.2.2.2.1, a1.2.2.2.2.2.2.1, a2, a1.2.2.2.2.2.2.2.2).1, (a1.1, a1.2.1, a1.2.2.1, a1.2.2.2.1, a1.2.2.2.2.1, a1.2.2.2.2.2.1, a1.2.2.2.2.2.2.1, a2, a1.2.2.2.2.2.2.2.2).2.1, (a1.1, a1.2.1, a1.2.2.1, a1.2.2.2.1, a1.2.2.2.2.1, a1.2.2.2.2.2.1, a1.2.2.2.2.2.2.1, a2, a1.2.2.2.2.2.2.2.2).2.2.1, (a1.1, a1.2.1, a1.2.2.1, a1.2.2.2.1, a1.2.2.2.2.1, a1.2.2.2.2.2.1, a1.2.2.2.2.2.2.1, a2, a1.2.2.2.2.2.2.2.2).2.2.2.1, (a1.1, a1.2.1, a1.2.2.1, a1.2.2.2.1, a1.2.2.2.2.1, a1.2.2.2.2.2.1, a1.2.2.2.2.2.2.1, a2, a1.2.2.2.2.2.2.2.2).2.2.2.2.1, (a1.1, a1.2.1, a1.2.2.1, a1.2.2.2.1, a1.2.2.2.2.1, a1.2.2.2.2.2.1, a1.2.2.2.2.2.2.1, a2, a1.2.2.2.2.2.2.2.2).2.2.2.2.2.1, (a1.1, a1.2.1, a1.2.2.1, a1.2.2.2.1, a1.2.2.2.2.1, a1.2.2.2.2.2.1, a1.2.2.2.2.2.2.1, a2, a1.2.2.2.2.2.2.2.2).2.2.2.2.2.2.1, (a1.1, a1.2.1, a1.2.2.1, a1.2.2.2.1, a1.2.2.2.2.1, a1.2.2.2.2.2.1, a1.2.2.2.2.2.2.1, a2, a1.2.2.2.2.2.2.2.2).2.2.2.2.2.2.2.1, (a1.1, a1.2.1, a1.2.2.1, a1.2.2.2.1, a1.2.2.2.2.1, a1.2.2.2.2.2.1, a1.2.2.2.2.2.2.1, a2, a1.2.2.2.2.2.2.2.2).2.2.2.2.2.2.2.2.1, (a1.1, a1.2.1, a1.2.2.1, a1.2.2.2.1, a1.2.2.2.2.1, a1.2.2.2.2.2.1, a1.2.2.2.2.2.2.1, a2, a1.2.2.2.2.2.2.2.2).2.2.2.2.2.2.2.2.2.1, a3, (a1.1, a1.2.1, a1.2.2.1, a1.2.2.2.1, a1.2.2.2.2.1, a1.2.2.2.2.2.1, a1.2.2.2.2.2.2.1, a2, a1.2.2.2.2.2.2.2.2).2.2.2.2.2.2.2.2.2.2.2), Res.var b8 32 Y32 r7, Res.var b5 24 Y24 a4, Res.var b3 24 Y24 a3, Res.var b1 30 Y30 a1]) k53 r ?_ ?_
                      · rcases Bool.eq_false_or_eq_true b52 with hh | hh
                        · rw [hh] at h ⊢
                          rw [if_pos rfl] at h
                          refine r_pure tabOk 6 [142] (E' := [(142, .one .bool true)]) rfl ?_
                          refine r_nil ?_
                          refine r_less [142] rfl ?_
                          refine r_then ?_
                          exact r_meetk true () h rfl rfl
                        · rw [hh] at h ⊢
                          rw [if_neg (by decide)] at h
                          refine r_guard (by rfl) rfl ?_
                          refine y (y_load 0 .here rfl rfl (by first | rfl | (simp only [Pth.off, T.size]; omega)) ok_here ty32) rfl ?_
                          refine r_pure tabOk 1 [10, 136, 137, 138] (E' := [(10, ptr b5 0), (136, .one .bool false), (137, .one Y32 r32), (138, .one (.int .i64) a5)]) rfl ?_
                          refine r_guard (by rfl) rfl ?_
                          refine y (y_load 3 .here rfl rfl (by first | rfl | (simp only [Pth.off, T.size]; omega)) ok_here ty24) rfl ?_
                          refine r_guard (by rfl) rfl ?_
                          obtain ⟨r55, hr55, h⟩ := bind_ex h
                          refine r_calls (gate_Gate_MaySign_ok r32 a5 a4 _ hr55) (by kernel_rfl) rfl rfl ?_
                          refine r_pure tabOk 2 [142] (E' := [(142, .one .bool (!r55))]) rfl ?_
                          refine r_nil ?_
                          refine r_less [142] rfl ?_
                          refine r_then ?_
                          exact r_meetk (!r55) () h rfl rfl
                      · intro o54 _ h
                        rw [← hk53] at h
                        try dsimp only at h
                        refine r_pure tabOk 1 [12] (E' := [(12, .one .bool o54)]) rfl ?_
                        refine r_nil ?_
                        refine r_then ?_
                        refine r_ret ?_
                        obtain rfl := Option.some.inj h
                        exact r_ret1 rfl (.tmp rfl) (fun _ _ g => g) (fun _ _ _ => List.nil_sublist _)
end Sx
