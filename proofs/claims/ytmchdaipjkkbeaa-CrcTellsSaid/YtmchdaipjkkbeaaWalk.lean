/-
  Own work, printed by a program of the same hand. Each function of the code answers what its plain twin reckons.
-/
import Derived.Test.YtmchdaipjkkbeaaProg
import Derived.Test.YtmchdaipjkkbeaaDefs
import Derived.KernelRfl
namespace Sx
open Go Go.Proofs
set_option maxRecDepth 10000

theorem ty5 : tyChk Try.prog (.int .u8) 5 = true := by kernel_rfl
theorem ty22 : tyChk Try.prog (.int .u32) 22 = true := by kernel_rfl
theorem ty34 : tyChk Try.prog (.arr 16 (.int .u32)) 34 = true := by kernel_rfl
theorem ty37 : tyChk Try.prog (.arr 32 (.int .u32)) 37 = true := by kernel_rfl
theorem ty38 : tyChk Try.prog (.arr 32 (.int .u32)) 38 = true := by kernel_rfl
theorem zf34 : (Try.prog.info? 34).bind (·.zero) = some (mk (.arr 16 (.int .u32)) (zc (.arr 16 (.int .u32)))) := by kernel_rfl
theorem zf37 : (Try.prog.info? 37).bind (·.zero) = some (mk (.arr 32 (.int .u32)) (zc (.arr 32 (.int .u32)))) := by kernel_rfl
theorem zf38 : (Try.prog.info? 38).bind (·.zero) = some (mk (.arr 32 (.int .u32)) (zc (.arr 32 (.int .u32)))) := by kernel_rfl
theorem el5 : elemChk Try.prog (.int .u8) 5 1 = true := by kernel_rfl
theorem un34 : Try.prog.underlying 34 = some (.array 16 22) := Try.underlying34
theorem un37 : Try.prog.underlying 37 = some (.array 32 22) := Try.underlying37
theorem un38 : Try.prog.underlying 38 = some (.array 32 22) := Try.underlying38
def tab : Tab := { ints := [(3, .i64), (5, .u8), (22, .u32), (30, .u64)], strs := [(9, ())], slices := [(31, 5)], arrs := [], offs := [] }
theorem tabOk : tab.chk Try.prog = true := by kernel_rfl

theorem crc_steps_ok (a0 : Int) (a1 : Int) (r : Int) (h : crc_steps a0 a1 = some r) : Pure Try.prog 18 [.one (.int .u32) a0, .one (.int .i64) a1] (.one (.int .u32) r) := by
  unfold crc_steps at h
  refine enter Try.func18 rfl 19 rfl rfl fun F => ?_
  refine r_seq ?_
  refine r_region ?_
  refine r_pure tabOk 1 [0, 1] (E' := [(0, .one (.int .u32) a0), (1, .one (.int .i64) a1)]) rfl ?_
  refine r_nil ?_
  refine r_then ?_
  obtain ⟨k1, hk1, h⟩ := bnd_ex h
  refine r_joink (γ := Unit) (fun (o2 : Int) _ => [(0, .one (.int .u32) o2)]) (fun (o2 : Int) _ => []) k1 r ?_ ?_
  · refine r_seq ?_
    refine r_region ?_
    refine r_pure tabOk 2 [0, 6, 7] (E' := [(0, .one (.int .u32) a0), (6, .one (.int .i64) a1), (7, .one (.int .i64) 0)]) rfl ?_
    refine r_nil ?_
    refine r_then ?_
    refine r_block ?_
    refine r_less [0, 6, 7] rfl ?_
    refine r_loopg (γ := Unit) (fun (s4 : Int × Int) _ => [(0, .one (.int .u32) s4.1), (6, .one (.int .i64) a1), (7, .one (.int .i64) s4.2)]) (fun (s4 : Int × Int) _ => []) (crc_steps_l0 a1 k1) (a0, 0) () h rfl rfl ?_
    clear h
    intro m5 s4 gg h
    cases m5 with
    | zero => cases h
    | succ m5 =>
    simp only [crc_steps_l0] at h
    refine r_seq ?_
    refine r_region ?_
    refine r_pure tabOk 1 [0, 6, 7, 8] (E' := [(0, .one (.int .u32) s4.1), (6, .one (.int .i64) a1), (7, .one (.int .i64) s4.2), (8, .one .bool (decide (s4.2 < a1)))]) rfl ?_
    refine r_nil ?_
    refine r_then ?_
    refine r_seq ?_
    refine r_if (b := (decide (s4.2 < a1))) rfl (fun hc => ?_) (fun hc => ?_)
    · rw [if_pos hc] at h
      refine r_skip ?_
      refine r_then ?_
      obtain ⟨k6, hk6, h⟩ := bnd_ex h
      refine r_joink (γ := Unit) (fun (o7 : Int) _ => [(0, .one (.int .u32) o7), (6, .one (.int .i64) a1), (7, .one (.int .i64) s4.2)]) (fun (o7 : Int) _ => []) k6 r ?_ ?_
      · refine r_block ?_
        refine r_seq ?_
        refine r_region ?_
        refine r_pure tabOk 3 [0, 5, 6, 7] (E' := [(0, .one (.int .u32) s4.1), (5, .one (.int .u32) (iand .u32 s4.1 1)), (6, .one (.int .i64) a1), (7, .one (.int .i64) s4.2)]) rfl ?_
        obtain ⟨low8, hlow8, h⟩ := bnd_ex h
        rw [hlow8]
        refine r_nil ?_
        refine r_then ?_
        refine r_seq ?_
        refine r_region ?_
        refine r_pure tabOk 3 [0, 5, 6, 7] (E' := [(0, .one (.int .u32) (ishr .u32 s4.1 1)), (5, .one (.int .u32) low8), (6, .one (.int .i64) a1), (7, .one (.int .i64) s4.2)]) rfl ?_
        obtain ⟨x9, hx9, h⟩ := bnd_ex h
        rw [hx9]
        refine r_nil ?_
        refine r_then ?_
        refine r_seq ?_
        refine r_region ?_
        refine r_pure tabOk 2 [0, 6, 7, 14] (E' := [(0, .one (.int .u32) x9), (6, .one (.int .i64) a1), (7, .one (.int .i64) s4.2), (14, .one .bool (low8 == 1))]) rfl ?_
        refine r_nil ?_
        refine r_then ?_
        refine r_if (b := (low8 == 1)) rfl (fun hc => ?_) (fun hc => ?_)
        · rw [if_pos hc] at h
          refine r_region ?_
          refine r_pure tabOk 3 [0, 6, 7] (E' := [(0, .one (.int .u32) (ixor .u32 x9 2197175160)), (6, .one (.int .i64) a1), (7, .one (.int .i64) s4.2)]) rfl ?_
          obtain ⟨x10, hx10, h⟩ := bnd_ex h
          rw [hx10]
          refine r_nil ?_
          refine r_inblock ?_
          refine r_then ?_
          refine r_less [0, 6, 7] rfl ?_
          exact r_meetk x10 () h rfl rfl
        · rw [if_neg (ne_true_of_eq_false hc)] at h
          refine r_skip ?_
          refine r_inblock ?_
          refine r_then ?_
          refine r_less [0, 6, 7] rfl ?_
          exact r_meetk x9 () h rfl rfl
      · intro o7 gg h
        rw [← hk6] at h
        refine r_region ?_
        refine r_pure tabOk 2 [0, 6, 7] (E' := [(0, .one (.int .u32) o7), (6, .one (.int .i64) a1), (7, .one (.int .i64) (IntKind.wrap .i64 (s4.2 + 1)))]) rfl ?_
        refine r_nil ?_
        refine r_then ?_
        refine r_less [0, 6, 7] rfl ?_
        exact r_backg (o7, (IntKind.wrap .i64 (s4.2 + 1))) () (Nat.lt_succ_self _) h rfl rfl
    · rw [if_neg (ne_true_of_eq_false hc)] at h
      refine r_exit ?_
      refine e_then ?_
      refine e_then ?_
      refine e_eq ?_
      refine r_then ?_
      refine r_less [0] rfl ?_
      exact r_meetk s4.1 () h rfl rfl
  · intro o2 gg h
    rw [← hk1] at h
    refine r_seq ?_
    refine r_region ?_
    refine r_pure tabOk 2 [4] (E' := [(4, .one (.int .u32) o2)]) rfl ?_
    refine r_nil ?_
    refine r_then ?_
    refine r_ret ?_
    obtain rfl := Option.some.inj h
    exact r_ret1 rfl (.tmp rfl) (fun _ _ g => g) (fun _ _ _ => List.nil_sublist _)

theorem crc_halves_ok  (r : List (Int)) (h : crc_halves  = some r) : Pure Try.prog 16 [] (.one (.arr 16 (.int .u32)) r) := by
  unfold crc_halves at h
  refine enter Try.func16 rfl 13 rfl rfl fun F => ?_
  refine r_seq ?_
  refine r_region ?_
  refine r_alloc (t := (.arr 16 (.int .u32))) rfl zf34 rfl fun b1 => ?_
  refine r_nil ?_
  refine r_then ?_
  refine r_seq ?_
  refine r_region ?_
  refine r_alloc (t := (.arr 16 (.int .u32))) rfl zf34 rfl fun b3 => ?_
  refine r_nil ?_
  refine r_then ?_
  obtain ⟨k5, hk5, h⟩ := bnd_ex h
  refine r_joink (γ := Unit) (fun (o6 : List (Int)) _ => [(0, ptr b1 0), (1, ptr b3 0)]) (fun (o6 : List (Int)) _ => [Res.var b3 34 (.arr 16 (.int .u32)) o6, Res.var b1 34 (.arr 16 (.int .u32)) (List.replicate 16 0)]) k5 r ?_ ?_
  · refine r_seq ?_
    refine r_region ?_
    refine r_pure tabOk 1 [0, 1, 3] (E' := [(0, ptr b1 0), (1, ptr b3 0), (3, .one (.int .i64) 0)]) rfl ?_
    refine r_nil ?_
    refine r_then ?_
    refine r_block ?_
    refine r_less [0, 1, 3] rfl ?_
    refine r_loopg (γ := Unit) (fun (s9 : Int × List (Int)) _ => [(0, ptr b1 0), (1, ptr b3 0), (3, .one (.int .i64) s9.1)]) (fun (s9 : Int × List (Int)) _ => [Res.var b3 34 (.arr 16 (.int .u32)) s9.2, Res.var b1 34 (.arr 16 (.int .u32)) (List.replicate 16 0)]) (crc_halves_l0 k5) (0, (List.replicate 16 0)) () h rfl rfl ?_
    clear h
    intro m10 s9 gg h
    cases m10 with
    | zero => cases h
    | succ m10 =>
    simp only [crc_halves_l0] at h
    refine r_seq ?_
    refine r_region ?_
    refine r_pure tabOk 1 [0, 1, 3, 4] (E' := [(0, ptr b1 0), (1, ptr b3 0), (3, .one (.int .i64) s9.1), (4, .one .bool (decide (s9.1 < 16)))]) rfl ?_
    refine r_nil ?_
    refine r_then ?_
    refine r_seq ?_
    refine r_if (b := (decide (s9.1 < 16))) rfl (fun hc => ?_) (fun hc => ?_)
    · rw [if_pos hc] at h
      refine r_skip ?_
      refine r_then ?_
      refine r_seq ?_
      refine r_block ?_
      refine r_seq ?_
      refine r_region ?_
      refine r_pure tabOk 2 [0, 1, 2, 3] (E' := [(0, ptr b1 0), (1, ptr b3 0), (2, .one (.int .i64) s9.1), (3, .one (.int .i64) s9.1)]) rfl ?_
      refine r_nil ?_
      refine r_then ?_
      refine r_region ?_
      refine r_pure tabOk 3 [0, 1, 3, 6, 8] (E' := [(0, ptr b1 0), (1, ptr b3 0), (3, .one (.int .i64) s9.1), (6, .one (.int .i64) s9.1), (8, .one (.int .u32) (IntKind.wrap .u32 s9.1))]) rfl ?_
      obtain ⟨r11, hr11, h⟩ := bind_ex h
      refine r_calls (crc_steps_ok (IntKind.wrap .u32 s9.1) 4 _ hr11) (by kernel_rfl) rfl rfl ?_
      obtain ⟨hc, h⟩ := ite_ex h
      refine y (y_ivar rfl rfl hc.1 hc.2 un34 ty22) rfl ?_
      refine r_store 0 (.elem (Int.toNat s9.1) .here) rfl rfl rfl (by first | rfl | (simp only [Pth.off, T.size]; omega)) (ok_elem (by omega) ok_here) ty22 ?_
      refine r_nil ?_
      refine r_inblock ?_
      refine r_then ?_
      refine r_region ?_
      refine r_pure tabOk 2 [0, 1, 3] (E' := [(0, ptr b1 0), (1, ptr b3 0), (3, .one (.int .i64) (IntKind.wrap .i64 (s9.1 + 1)))]) rfl ?_
      refine r_nil ?_
      refine r_then ?_
      refine r_less [0, 1, 3] rfl ?_
      exact r_backg ((IntKind.wrap .i64 (s9.1 + 1)), (List.set s9.2 (Int.toNat s9.1) r11)) () (Nat.lt_succ_self _) h rfl rfl
    · rw [if_neg (ne_true_of_eq_false hc)] at h
      refine r_exit ?_
      refine e_then ?_
      refine e_then ?_
      refine e_eq ?_
      refine r_then ?_
      refine r_less [0, 1] rfl ?_
      exact r_meetk s9.2 () h rfl rfl
  · intro o6 gg h
    rw [← hk5] at h
    refine r_seq ?_
    refine r_region ?_
    refine y (y_load 0 .here rfl rfl (by first | rfl | (simp only [Pth.off, T.size]; omega)) ok_here ty34) rfl ?_
    refine r_store 1 .here rfl rfl rfl (by first | rfl | (simp only [Pth.off, T.size]; omega)) ok_here ty34 ?_
    refine r_nil ?_
    refine r_then ?_
    refine r_ret ?_
    obtain rfl := Option.some.inj h
    exact r_ret1 rfl (.cell 1 .here rfl rfl (by first | rfl | (simp only [Pth.off, T.size]; omega)) ok_here ty34) (fun _ _ g => g) (fun _ _ _ => List.nil_sublist _)

theorem crc_On_ok (a0 : Int) (a1 : List Int) (r : Int) (h : crc_On a0 a1 = some r) : Pure Try.prog 10 [.one (.int .u32) a0, .one .str a1] (.one (.int .u32) r) := by
  unfold crc_On at h
  refine enter Try.func10 rfl 39 rfl rfl fun F => ?_
  refine r_seq ?_
  refine r_region ?_
  refine r_pure tabOk 1 [0, 1] (E' := [(0, .one (.int .u32) a0), (1, .one .str a1)]) rfl ?_
  refine r_nil ?_
  refine r_then ?_
  refine r_seq ?_
  refine r_region ?_
  obtain ⟨r1, hr1, h⟩ := bind_ex h
  refine r_calls (crc_halves_ok  _ hr1) (by kernel_rfl) rfl rfl ?_
  refine r_alloc (t := (.arr 16 (.int .u32))) rfl zf34 rfl fun b2 => ?_
  refine r_store 0 .here rfl rfl rfl (by first | rfl | (simp only [Pth.off, T.size]; omega)) ok_here ty34 ?_
  refine r_nil ?_
  refine r_then ?_
  refine r_seq ?_
  refine r_region ?_
  refine r_pure tabOk 3 [1, 5, 6] (E' := [(1, .one .str a1), (5, ptr b2 0), (6, .one (.int .u32) (inot .u32 a0))]) rfl ?_
  obtain ⟨x4, hx4, h⟩ := bnd_ex h
  rw [hx4]
  refine r_nil ?_
  refine r_then ?_
  obtain ⟨k5, hk5, h⟩ := bnd_ex h
  refine r_joink (γ := Unit) (fun (o6 : Int) _ => [(6, .one (.int .u32) o6)]) (fun (o6 : Int) _ => [Res.var b2 34 (.arr 16 (.int .u32)) r1]) k5 r ?_ ?_
  · refine r_seq ?_
    refine r_region ?_
    refine r_pure tabOk 3 [1, 5, 6, 12, 13] (E' := [(1, .one .str a1), (5, ptr b2 0), (6, .one (.int .u32) x4), (12, .one (.int .i64) (List.length a1 : Int)), (13, .one (.int .i64) 0)]) rfl ?_
    refine r_nil ?_
    refine r_then ?_
    refine r_block ?_
    refine r_less [1, 5, 6, 12, 13] rfl ?_
    refine r_loopg (γ := Unit) (fun (s8 : Int × Int) _ => [(1, .one .str a1), (5, ptr b2 0), (6, .one (.int .u32) s8.1), (12, .one (.int .i64) (List.length a1 : Int)), (13, .one (.int .i64) s8.2)]) (fun (s8 : Int × Int) _ => [Res.var b2 34 (.arr 16 (.int .u32)) r1]) (crc_On_l0 a1 r1 k5) (x4, 0) () h rfl rfl ?_
    clear h
    intro m9 s8 gg h
    cases m9 with
    | zero => cases h
    | succ m9 =>
    simp only [crc_On_l0] at h
    refine r_seq ?_
    refine r_region ?_
    refine r_pure tabOk 1 [1, 5, 6, 12, 13, 14] (E' := [(1, .one .str a1), (5, ptr b2 0), (6, .one (.int .u32) s8.1), (12, .one (.int .i64) (List.length a1 : Int)), (13, .one (.int .i64) s8.2), (14, .one .bool (decide (s8.2 < (List.length a1 : Int))))]) rfl ?_
    refine r_nil ?_
    refine r_then ?_
    refine r_seq ?_
    refine r_if (b := (decide (s8.2 < (List.length a1 : Int)))) rfl (fun hc => ?_) (fun hc => ?_)
    · rw [if_pos hc] at h
      refine r_skip ?_
      refine r_then ?_
      refine r_seq ?_
      refine r_block ?_
      refine r_seq ?_
      refine r_region ?_
      refine r_pure tabOk 2 [1, 5, 6, 7, 12, 13] (E' := [(1, .one .str a1), (5, ptr b2 0), (6, .one (.int .u32) s8.1), (7, .one (.int .i64) s8.2), (12, .one (.int .i64) (List.length a1 : Int)), (13, .one (.int .i64) s8.2)]) rfl ?_
      refine r_nil ?_
      refine r_then ?_
      refine r_seq ?_
      refine r_region ?_
      refine r_pure tabOk 3 [1, 5, 12, 13, 16, 17, 18] (E' := [(1, .one .str a1), (5, ptr b2 0), (12, .one (.int .i64) (List.length a1 : Int)), (13, .one (.int .i64) s8.2), (16, .one (.int .u32) s8.1), (17, .one .str a1), (18, .one (.int .i64) s8.2)]) rfl ?_
      obtain ⟨hc, h⟩ := ite_ex h
      refine y (y_byte tabOk rfl rfl hc.1 hc.2 rfl) rfl ?_
      refine r_pure tabOk 3 [1, 5, 6, 12, 13] (E' := [(1, .one .str a1), (5, ptr b2 0), (6, .one (.int .u32) (ixor .u32 s8.1 (IntKind.wrap .u32 (List.getD a1 (Int.toNat s8.2) 0)))), (12, .one (.int .i64) (List.length a1 : Int)), (13, .one (.int .i64) s8.2)]) rfl ?_
      obtain ⟨x10, hx10, h⟩ := bnd_ex h
      rw [hx10]
      refine r_nil ?_
      refine r_then ?_
      refine r_seq ?_
      refine r_region ?_
      refine r_pure tabOk 4 [1, 5, 12, 13, 23, 25] (E' := [(1, .one .str a1), (5, ptr b2 0), (12, .one (.int .i64) (List.length a1 : Int)), (13, .one (.int .i64) s8.2), (23, .one (.int .u32) (ishr .u32 x10 4)), (25, .one (.int .u32) (iand .u32 x10 15))]) rfl ?_
      obtain ⟨hc, h⟩ := ite_ex h
      refine y (y_ivar rfl rfl hc.1 hc.2 un34 ty22) rfl ?_
      refine y (y_load 0 (.elem (Int.toNat (iand .u32 x10 15)) .here) rfl rfl (by first | rfl | (simp only [Pth.off, T.size]; omega)) (ok_elem (by omega) ok_here) ty22) rfl ?_
      refine r_pure tabOk 2 [1, 5, 6, 12, 13] (E' := [(1, .one .str a1), (5, ptr b2 0), (6, .one (.int .u32) (ixor .u32 (ishr .u32 x10 4) (List.getD r1 (Int.toNat (iand .u32 x10 15)) 0))), (12, .one (.int .i64) (List.length a1 : Int)), (13, .one (.int .i64) s8.2)]) rfl ?_
      obtain ⟨x11, hx11, h⟩ := bnd_ex h
      rw [hx11]
      refine r_nil ?_
      refine r_then ?_
      refine r_region ?_
      refine r_pure tabOk 4 [1, 5, 12, 13, 30, 32] (E' := [(1, .one .str a1), (5, ptr b2 0), (12, .one (.int .i64) (List.length a1 : Int)), (13, .one (.int .i64) s8.2), (30, .one (.int .u32) (ishr .u32 x11 4)), (32, .one (.int .u32) (iand .u32 x11 15))]) rfl ?_
      obtain ⟨hc, h⟩ := ite_ex h
      refine y (y_ivar rfl rfl hc.1 hc.2 un34 ty22) rfl ?_
      refine y (y_load 0 (.elem (Int.toNat (iand .u32 x11 15)) .here) rfl rfl (by first | rfl | (simp only [Pth.off, T.size]; omega)) (ok_elem (by omega) ok_here) ty22) rfl ?_
      refine r_pure tabOk 2 [1, 5, 6, 12, 13] (E' := [(1, .one .str a1), (5, ptr b2 0), (6, .one (.int .u32) (ixor .u32 (ishr .u32 x11 4) (List.getD r1 (Int.toNat (iand .u32 x11 15)) 0))), (12, .one (.int .i64) (List.length a1 : Int)), (13, .one (.int .i64) s8.2)]) rfl ?_
      obtain ⟨x12, hx12, h⟩ := bnd_ex h
      rw [hx12]
      refine r_nil ?_
      refine r_inblock ?_
      refine r_then ?_
      refine r_region ?_
      refine r_pure tabOk 2 [1, 5, 6, 12, 13] (E' := [(1, .one .str a1), (5, ptr b2 0), (6, .one (.int .u32) x12), (12, .one (.int .i64) (List.length a1 : Int)), (13, .one (.int .i64) (IntKind.wrap .i64 (s8.2 + 1)))]) rfl ?_
      refine r_nil ?_
      refine r_then ?_
      refine r_less [1, 5, 6, 12, 13] rfl ?_
      exact r_backg (x12, (IntKind.wrap .i64 (s8.2 + 1))) () (Nat.lt_succ_self _) h rfl rfl
    · rw [if_neg (ne_true_of_eq_false hc)] at h
      refine r_exit ?_
      refine e_then ?_
      refine e_then ?_
      refine e_eq ?_
      refine r_then ?_
      refine r_less [6] rfl ?_
      exact r_meetk s8.1 () h rfl rfl
  · intro o6 gg h
    rw [← hk5] at h
    refine r_seq ?_
    refine r_region ?_
    refine r_pure tabOk 3 [4] (E' := [(4, .one (.int .u32) (inot .u32 o6))]) rfl ?_
    refine r_nil ?_
    refine r_then ?_
    refine r_ret ?_
    obtain rfl := Option.some.inj h
    exact r_ret1 rfl (.tmp rfl) (fun _ _ g => g) (fun _ _ _ => List.nil_sublist _)

theorem crc_Sum_ok (a0 : List Int) (r : Int) (h : crc_Sum a0 = some r) : Pure Try.prog 9 [.one .str a0] (.one (.int .u32) r) := by
  unfold crc_Sum at h
  refine enter Try.func9 rfl 5 rfl rfl fun F => ?_
  refine r_seq ?_
  refine r_region ?_
  refine r_pure tabOk 1 [0] (E' := [(0, .one .str a0)]) rfl ?_
  refine r_nil ?_
  refine r_then ?_
  refine r_seq ?_
  refine r_region ?_
  refine r_pure tabOk 1 [3] (E' := [(3, .one .str a0)]) rfl ?_
  obtain ⟨r1, hr1, h⟩ := bind_ex h
  refine r_calls (crc_On_ok 0 a0 _ hr1) (by kernel_rfl) rfl rfl ?_
  refine r_pure tabOk 1 [2] (E' := [(2, .one (.int .u32) r1)]) rfl ?_
  refine r_nil ?_
  refine r_then ?_
  refine r_ret ?_
  obtain rfl := Option.some.inj h
  exact r_ret1 rfl (.tmp rfl) (fun _ _ g => g) (fun _ _ _ => List.nil_sublist _)

theorem escrowref01_Step_ok (a0 : Int) (r : Int) (h : escrowref01_Step a0 = some r) : Pure Try.prog 17 [.one (.int .u32) a0] (.one (.int .u32) r) := by
  unfold escrowref01_Step at h
  refine enter Try.func17 rfl 11 rfl rfl fun F => ?_
  refine r_seq ?_
  refine r_region ?_
  refine r_pure tabOk 1 [0] (E' := [(0, .one (.int .u32) a0)]) rfl ?_
  refine r_nil ?_
  refine r_then ?_
  refine r_seq ?_
  refine r_seq ?_
  refine r_region ?_
  refine r_pure tabOk 3 [0, 5] (E' := [(0, .one (.int .u32) a0), (5, .one .bool ((iand .u32 a0 1) == 1))]) rfl ?_
  refine r_nil ?_
  refine r_then ?_
  refine r_if (b := ((iand .u32 a0 1) == 1)) rfl (fun hc => ?_) (fun hc => ?_)
  · rw [if_pos hc] at h
    refine r_seq ?_
    refine r_region ?_
    refine r_pure tabOk 4 [2] (E' := [(2, .one (.int .u32) (ixor .u32 (ishr .u32 a0 1) 2197175160))]) rfl ?_
    refine r_nil ?_
    refine r_then ?_
    refine r_ret ?_
    refine t_then ?_
    obtain rfl := Option.some.inj h
    exact r_ret1 rfl (.tmp rfl) (fun _ _ g => g) (fun _ _ _ => List.nil_sublist _)
  · rw [if_neg (ne_true_of_eq_false hc)] at h
    refine r_skip ?_
    refine r_then ?_
    refine r_seq ?_
    refine r_region ?_
    refine r_pure tabOk 3 [2] (E' := [(2, .one (.int .u32) (ishr .u32 a0 1))]) rfl ?_
    refine r_nil ?_
    refine r_then ?_
    refine r_ret ?_
    obtain rfl := Option.some.inj h
    exact r_ret1 rfl (.tmp rfl) (fun _ _ g => g) (fun _ _ _ => List.nil_sublist _)

theorem escrowref01_On_ok (a0 : Int) (a1 : List Int) (r : Int) (h : escrowref01_On a0 a1 = some r) : Pure Try.prog 13 [.one (.int .u32) a0, .one .str a1] (.one (.int .u32) r) := by
  unfold escrowref01_On at h
  refine enter Try.func13 rfl 30 rfl rfl fun F => ?_
  refine r_seq ?_
  refine r_region ?_
  refine r_pure tabOk 1 [0, 1] (E' := [(0, .one (.int .u32) a0), (1, .one .str a1)]) rfl ?_
  refine r_nil ?_
  refine r_then ?_
  refine r_seq ?_
  refine r_region ?_
  refine r_pure tabOk 3 [1, 5] (E' := [(1, .one .str a1), (5, .one (.int .u32) (inot .u32 a0))]) rfl ?_
  obtain ⟨x1, hx1, h⟩ := bnd_ex h
  rw [hx1]
  refine r_nil ?_
  refine r_then ?_
  obtain ⟨k2, hk2, h⟩ := bnd_ex h
  refine r_joink (γ := Unit) (fun (o3 : Int) _ => [(5, .one (.int .u32) o3)]) (fun (o3 : Int) _ => []) k2 r ?_ ?_
  · refine r_seq ?_
    refine r_region ?_
    refine r_pure tabOk 1 [1, 5, 6] (E' := [(1, .one .str a1), (5, .one (.int .u32) x1), (6, .one (.int .i64) 0)]) rfl ?_
    refine r_nil ?_
    refine r_then ?_
    refine r_block ?_
    refine r_less [1, 5, 6] rfl ?_
    refine r_loopg (γ := Unit) (fun (s5 : Int × Int) _ => [(1, .one .str a1), (5, .one (.int .u32) s5.1), (6, .one (.int .i64) s5.2)]) (fun (s5 : Int × Int) _ => []) (escrowref01_On_l0 a1 k2) (x1, 0) () h rfl rfl ?_
    clear h
    intro m6 s5 gg h
    cases m6 with
    | zero => cases h
    | succ m6 =>
    simp only [escrowref01_On_l0] at h
    refine r_seq ?_
    refine r_seq ?_
    refine r_region ?_
    refine r_pure tabOk 4 [1, 5, 6, 13] (E' := [(1, .one .str a1), (5, .one (.int .u32) s5.1), (6, .one (.int .i64) s5.2), (13, .one .bool (decide (s5.2 < (List.length a1 : Int))))]) rfl ?_
    refine r_nil ?_
    refine r_then ?_
    refine r_if (b := (decide (s5.2 < (List.length a1 : Int)))) rfl (fun hc => ?_) (fun hc => ?_)
    · rw [if_pos hc] at h
      refine r_skip ?_
      refine r_then ?_
      refine r_seq ?_
      refine r_block ?_
      refine r_seq ?_
      refine r_region ?_
      refine r_pure tabOk 3 [1, 6, 16, 17, 18] (E' := [(1, .one .str a1), (6, .one (.int .i64) s5.2), (16, .one (.int .u32) s5.1), (17, .one .str a1), (18, .one (.int .i64) s5.2)]) rfl ?_
      obtain ⟨hc, h⟩ := ite_ex h
      refine y (y_byte tabOk rfl rfl hc.1 hc.2 rfl) rfl ?_
      refine r_pure tabOk 3 [1, 5, 6] (E' := [(1, .one .str a1), (5, .one (.int .u32) (ixor .u32 s5.1 (IntKind.wrap .u32 (List.getD a1 (Int.toNat s5.2) 0)))), (6, .one (.int .i64) s5.2)]) rfl ?_
      obtain ⟨x7, hx7, h⟩ := bnd_ex h
      rw [hx7]
      refine r_nil ?_
      refine r_then ?_
      refine r_seq ?_
      refine r_region ?_
      refine r_pure tabOk 1 [1, 5, 6, 7] (E' := [(1, .one .str a1), (5, .one (.int .u32) x7), (6, .one (.int .i64) s5.2), (7, .one (.int .i64) 0)]) rfl ?_
      refine r_nil ?_
      refine r_then ?_
      obtain ⟨k8, hk8, h⟩ := bnd_ex h
      refine r_cutk (γ := Unit) (fun (o9 : Int) _ => [(1, .one .str a1), (5, .one (.int .u32) o9), (6, .one (.int .i64) s5.2)]) (fun (o9 : Int) _ => []) k8 r ?_ ?_
      · refine r_block ?_
        refine r_less [1, 5, 6, 7] rfl ?_
        refine r_loopg (γ := Unit) (fun (s12 : Int × Int) _ => [(1, .one .str a1), (5, .one (.int .u32) s12.1), (6, .one (.int .i64) s5.2), (7, .one (.int .i64) s12.2)]) (fun (s12 : Int × Int) _ => []) (escrowref01_On_l1 k8) (x7, 0) () h rfl rfl ?_
        clear h
        intro m13 s12 gg h
        cases m13 with
        | zero => cases h
        | succ m13 =>
        simp only [escrowref01_On_l1] at h
        refine r_seq ?_
        refine r_seq ?_
        refine r_region ?_
        refine r_pure tabOk 2 [1, 5, 6, 7, 23] (E' := [(1, .one .str a1), (5, .one (.int .u32) s12.1), (6, .one (.int .i64) s5.2), (7, .one (.int .i64) s12.2), (23, .one .bool (decide (s12.2 < 8)))]) rfl ?_
        refine r_nil ?_
        refine r_then ?_
        refine r_if (b := (decide (s12.2 < 8))) rfl (fun hc => ?_) (fun hc => ?_)
        · rw [if_pos hc] at h
          refine r_skip ?_
          refine r_then ?_
          refine r_seq ?_
          refine r_block ?_
          refine r_region ?_
          refine r_pure tabOk 1 [1, 6, 7, 26] (E' := [(1, .one .str a1), (6, .one (.int .i64) s5.2), (7, .one (.int .i64) s12.2), (26, .one (.int .u32) s12.1)]) rfl ?_
          obtain ⟨r14, hr14, h⟩ := bind_ex h
          refine r_calls (escrowref01_Step_ok s12.1 _ hr14) (by kernel_rfl) rfl rfl ?_
          refine r_pure tabOk 1 [1, 5, 6, 7] (E' := [(1, .one .str a1), (5, .one (.int .u32) r14), (6, .one (.int .i64) s5.2), (7, .one (.int .i64) s12.2)]) rfl ?_
          refine r_nil ?_
          refine r_inblock ?_
          refine r_then ?_
          refine r_region ?_
          refine r_pure tabOk 3 [1, 5, 6, 7] (E' := [(1, .one .str a1), (5, .one (.int .u32) r14), (6, .one (.int .i64) s5.2), (7, .one (.int .i64) (IntKind.wrap .i64 (s12.2 + 1)))]) rfl ?_
          obtain ⟨k15, hk15, h⟩ := bnd_ex h
          rw [hk15]
          refine r_nil ?_
          refine r_then ?_
          refine r_less [1, 5, 6, 7] rfl ?_
          exact r_backg (r14, k15) () (Nat.lt_succ_self _) h rfl rfl
        · rw [if_neg (ne_true_of_eq_false hc)] at h
          refine r_exit ?_
          refine e_then ?_
          refine e_then ?_
          refine e_eq ?_
          refine r_then ?_
          refine r_less [1, 5, 6] rfl ?_
          exact r_meetk s12.1 () h rfl rfl
      · intro o9 gg h
        rw [← hk8] at h
        refine r_inblock ?_
        refine r_then ?_
        refine r_region ?_
        refine r_pure tabOk 3 [1, 5, 6] (E' := [(1, .one .str a1), (5, .one (.int .u32) o9), (6, .one (.int .i64) (IntKind.wrap .i64 (s5.2 + 1)))]) rfl ?_
        obtain ⟨i10, hi10, h⟩ := bnd_ex h
        rw [hi10]
        refine r_nil ?_
        refine r_then ?_
        refine r_less [1, 5, 6] rfl ?_
        exact r_backg (o9, i10) () (Nat.lt_succ_self _) h rfl rfl
    · rw [if_neg (ne_true_of_eq_false hc)] at h
      refine r_exit ?_
      refine e_then ?_
      refine e_then ?_
      refine e_eq ?_
      refine r_then ?_
      refine r_less [5] rfl ?_
      exact r_meetk s5.1 () h rfl rfl
  · intro o3 gg h
    rw [← hk2] at h
    refine r_seq ?_
    refine r_region ?_
    refine r_pure tabOk 3 [4] (E' := [(4, .one (.int .u32) (inot .u32 o3))]) rfl ?_
    refine r_nil ?_
    refine r_then ?_
    refine r_ret ?_
    obtain rfl := Option.some.inj h
    exact r_ret1 rfl (.tmp rfl) (fun _ _ g => g) (fun _ _ _ => List.nil_sublist _)

theorem escrowref01_Sum_ok (a0 : List Int) (r : Int) (h : escrowref01_Sum a0 = some r) : Pure Try.prog 11 [.one .str a0] (.one (.int .u32) r) := by
  unfold escrowref01_Sum at h
  refine enter Try.func11 rfl 5 rfl rfl fun F => ?_
  refine r_seq ?_
  refine r_region ?_
  refine r_pure tabOk 1 [0] (E' := [(0, .one .str a0)]) rfl ?_
  refine r_nil ?_
  refine r_then ?_
  refine r_seq ?_
  refine r_region ?_
  refine r_pure tabOk 1 [3] (E' := [(3, .one .str a0)]) rfl ?_
  obtain ⟨r1, hr1, h⟩ := bind_ex h
  refine r_calls (escrowref01_On_ok 0 a0 _ hr1) (by kernel_rfl) rfl rfl ?_
  refine r_pure tabOk 1 [2] (E' := [(2, .one (.int .u32) r1)]) rfl ?_
  refine r_nil ?_
  refine r_then ?_
  refine r_ret ?_
  obtain rfl := Option.some.inj h
  exact r_ret1 rfl (.tmp rfl) (fun _ _ g => g) (fun _ _ _ => List.nil_sublist _)

theorem crc_turn_of_ok (a0 : List (Int)) (a1 : Int) (r : Int) (h : crc_turn_of a0 a1 = some r) : Pure Try.prog 19 [.one (.arr 32 (.int .u32)) a0, .one (.int .u32) a1] (.one (.int .u32) r) := by
  unfold crc_turn_of at h
  refine enter Try.func19 rfl 22 rfl rfl fun F => ?_
  refine r_seq ?_
  refine r_region ?_
  refine r_box rfl rfl fun b1 => ?_
  refine r_pure tabOk 1 [1, 2] (E' := [(1, .one (.int .u32) a1), (2, ptr b1 0)]) rfl ?_
  refine r_nil ?_
  refine r_then ?_
  refine r_seq ?_
  refine r_region ?_
  refine r_pure tabOk 1 [1, 2, 5] (E' := [(1, .one (.int .u32) a1), (2, ptr b1 0), (5, .one (.int .u32) 0)]) rfl ?_
  refine r_nil ?_
  refine r_then ?_
  obtain ⟨k3, hk3, h⟩ := bnd_ex h
  refine r_joink (γ := Unit) (fun (o4 : Int) _ => [(5, .one (.int .u32) o4)]) (fun (o4 : Int) _ => [Res.var b1 38 (.arr 32 (.int .u32)) a0]) k3 r ?_ ?_
  · refine r_seq ?_
    refine r_region ?_
    refine r_pure tabOk 1 [1, 2, 5, 7] (E' := [(1, .one (.int .u32) a1), (2, ptr b1 0), (5, .one (.int .u32) 0), (7, .one (.int .i64) 0)]) rfl ?_
    refine r_nil ?_
    refine r_then ?_
    refine r_block ?_
    refine r_less [1, 2, 5, 7] rfl ?_
    refine r_loopg (γ := Unit) (fun (s6 : Int × Int) _ => [(1, .one (.int .u32) a1), (2, ptr b1 0), (5, .one (.int .u32) s6.1), (7, .one (.int .i64) s6.2)]) (fun (s6 : Int × Int) _ => [Res.var b1 38 (.arr 32 (.int .u32)) a0]) (crc_turn_of_l0 a0 a1 k3) (0, 0) () h rfl rfl ?_
    clear h
    intro m7 s6 gg h
    cases m7 with
    | zero => cases h
    | succ m7 =>
    simp only [crc_turn_of_l0] at h
    refine r_seq ?_
    refine r_region ?_
    refine r_pure tabOk 1 [1, 2, 5, 7, 8] (E' := [(1, .one (.int .u32) a1), (2, ptr b1 0), (5, .one (.int .u32) s6.1), (7, .one (.int .i64) s6.2), (8, .one .bool (decide (s6.2 < 32)))]) rfl ?_
    refine r_nil ?_
    refine r_then ?_
    refine r_seq ?_
    refine r_if (b := (decide (s6.2 < 32))) rfl (fun hc => ?_) (fun hc => ?_)
    · rw [if_pos hc] at h
      refine r_skip ?_
      refine r_then ?_
      obtain ⟨k8, hk8, h⟩ := bnd_ex h
      refine r_joink (γ := Unit) (fun (o9 : Int) _ => [(1, .one (.int .u32) a1), (2, ptr b1 0), (5, .one (.int .u32) o9), (7, .one (.int .i64) s6.2)]) (fun (o9 : Int) _ => [Res.var b1 38 (.arr 32 (.int .u32)) a0]) k8 r ?_ ?_
      · refine r_block ?_
        refine r_seq ?_
        refine r_region ?_
        refine r_pure tabOk 2 [1, 2, 5, 6, 7] (E' := [(1, .one (.int .u32) a1), (2, ptr b1 0), (5, .one (.int .u32) s6.1), (6, .one (.int .i64) s6.2), (7, .one (.int .i64) s6.2)]) rfl ?_
        refine r_nil ?_
        refine r_then ?_
        refine r_seq ?_
        refine r_region ?_
        refine r_pure tabOk 2 [1, 2, 5, 6, 7, 10, 11] (E' := [(1, .one (.int .u32) a1), (2, ptr b1 0), (5, .one (.int .u32) s6.1), (6, .one (.int .i64) s6.2), (7, .one (.int .i64) s6.2), (10, .one (.int .u32) a1), (11, .one (.int .i64) s6.2)]) rfl ?_
        obtain ⟨hc, h⟩ := ite_ex h
        refine y (y_shr rfl rfl hc) rfl ?_
        refine r_pure tabOk 2 [1, 2, 5, 6, 7, 14] (E' := [(1, .one (.int .u32) a1), (2, ptr b1 0), (5, .one (.int .u32) s6.1), (6, .one (.int .i64) s6.2), (7, .one (.int .i64) s6.2), (14, .one .bool ((iand .u32 (ishr .u32 a1 s6.2) 1) == 1))]) rfl ?_
        refine r_nil ?_
        refine r_then ?_
        refine r_if (b := ((iand .u32 (ishr .u32 a1 s6.2) 1) == 1)) rfl (fun hc => ?_) (fun hc => ?_)
        · rw [if_pos hc] at h
          refine r_region ?_
          refine r_pure tabOk 2 [1, 2, 7, 15, 16] (E' := [(1, .one (.int .u32) a1), (2, ptr b1 0), (7, .one (.int .i64) s6.2), (15, .one (.int .u32) s6.1), (16, .one (.int .i64) s6.2)]) rfl ?_
          obtain ⟨hc, h⟩ := ite_ex h
          refine y (y_ivar rfl rfl hc.1 hc.2 un38 ty22) rfl ?_
          refine y (y_load 0 (.elem (Int.toNat s6.2) .here) rfl rfl (by first | rfl | (simp only [Pth.off, T.size]; omega)) (ok_elem (by omega) ok_here) ty22) rfl ?_
          refine r_pure tabOk 2 [1, 2, 5, 7] (E' := [(1, .one (.int .u32) a1), (2, ptr b1 0), (5, .one (.int .u32) (ixor .u32 s6.1 (List.getD a0 (Int.toNat s6.2) 0))), (7, .one (.int .i64) s6.2)]) rfl ?_
          obtain ⟨y10, hy10, h⟩ := bnd_ex h
          rw [hy10]
          refine r_nil ?_
          refine r_inblock ?_
          refine r_then ?_
          refine r_less [1, 2, 5, 7] rfl ?_
          exact r_meetk y10 () h rfl rfl
        · rw [if_neg (ne_true_of_eq_false hc)] at h
          refine r_skip ?_
          refine r_inblock ?_
          refine r_then ?_
          refine r_less [1, 2, 5, 7] rfl ?_
          exact r_meetk s6.1 () h rfl rfl
      · intro o9 gg h
        rw [← hk8] at h
        refine r_region ?_
        refine r_pure tabOk 2 [1, 2, 5, 7] (E' := [(1, .one (.int .u32) a1), (2, ptr b1 0), (5, .one (.int .u32) o9), (7, .one (.int .i64) (IntKind.wrap .i64 (s6.2 + 1)))]) rfl ?_
        refine r_nil ?_
        refine r_then ?_
        refine r_less [1, 2, 5, 7] rfl ?_
        exact r_backg (o9, (IntKind.wrap .i64 (s6.2 + 1))) () (Nat.lt_succ_self _) h rfl rfl
    · rw [if_neg (ne_true_of_eq_false hc)] at h
      refine r_exit ?_
      refine e_then ?_
      refine e_then ?_
      refine e_eq ?_
      refine r_then ?_
      refine r_less [5] rfl ?_
      exact r_meetk s6.1 () h rfl rfl
  · intro o4 gg h
    rw [← hk3] at h
    refine r_seq ?_
    refine r_region ?_
    refine r_pure tabOk 2 [4] (E' := [(4, .one (.int .u32) o4)]) rfl ?_
    refine r_nil ?_
    refine r_then ?_
    refine r_ret ?_
    obtain rfl := Option.some.inj h
    exact r_ret1 rfl (.tmp rfl) (fun _ _ g => g) (fun _ _ _ => List.nil_sublist _)

theorem crc_turn_twice_ok (a0 : List (Int)) (r : List (Int)) (h : crc_turn_twice a0 = some r) : Pure Try.prog 20 [.one (.arr 32 (.int .u32)) a0] (.one (.arr 32 (.int .u32)) r) := by
  unfold crc_turn_twice at h
  refine enter Try.func20 rfl 17 rfl rfl fun F => ?_
  refine r_seq ?_
  refine r_region ?_
  refine r_box rfl rfl fun b1 => ?_
  refine r_alloc (t := (.arr 32 (.int .u32))) rfl zf38 rfl fun b3 => ?_
  refine r_nil ?_
  refine r_then ?_
  refine r_seq ?_
  refine r_region ?_
  refine r_alloc (t := (.arr 32 (.int .u32))) rfl zf38 rfl fun b5 => ?_
  refine r_nil ?_
  refine r_then ?_
  obtain ⟨k7, hk7, h⟩ := bnd_ex h
  refine r_joink (γ := Unit) (fun (o8 : List (Int)) _ => [(2, ptr b3 0), (3, ptr b5 0)]) (fun (o8 : List (Int)) _ => [Res.var b5 38 (.arr 32 (.int .u32)) o8, Res.var b3 38 (.arr 32 (.int .u32)) (List.replicate 32 0), Res.var b1 38 (.arr 32 (.int .u32)) a0]) k7 r ?_ ?_
  · refine r_seq ?_
    refine r_region ?_
    refine r_pure tabOk 1 [1, 2, 3, 5] (E' := [(1, ptr b1 0), (2, ptr b3 0), (3, ptr b5 0), (5, .one (.int .i64) 0)]) rfl ?_
    refine r_nil ?_
    refine r_then ?_
    refine r_block ?_
    refine r_less [1, 2, 3, 5] rfl ?_
    refine r_loopg (γ := Unit) (fun (s11 : Int × List (Int)) _ => [(1, ptr b1 0), (2, ptr b3 0), (3, ptr b5 0), (5, .one (.int .i64) s11.1)]) (fun (s11 : Int × List (Int)) _ => [Res.var b5 38 (.arr 32 (.int .u32)) s11.2, Res.var b3 38 (.arr 32 (.int .u32)) (List.replicate 32 0), Res.var b1 38 (.arr 32 (.int .u32)) a0]) (crc_turn_twice_l0 a0 k7) (0, (List.replicate 32 0)) () h rfl rfl ?_
    clear h
    intro m12 s11 gg h
    cases m12 with
    | zero => cases h
    | succ m12 =>
    simp only [crc_turn_twice_l0] at h
    refine r_seq ?_
    refine r_region ?_
    refine r_pure tabOk 1 [1, 2, 3, 5, 6] (E' := [(1, ptr b1 0), (2, ptr b3 0), (3, ptr b5 0), (5, .one (.int .i64) s11.1), (6, .one .bool (decide (s11.1 < 32)))]) rfl ?_
    refine r_nil ?_
    refine r_then ?_
    refine r_seq ?_
    refine r_if (b := (decide (s11.1 < 32))) rfl (fun hc => ?_) (fun hc => ?_)
    · rw [if_pos hc] at h
      refine r_skip ?_
      refine r_then ?_
      refine r_seq ?_
      refine r_block ?_
      refine r_seq ?_
      refine r_region ?_
      refine r_pure tabOk 2 [1, 2, 3, 4, 5] (E' := [(1, ptr b1 0), (2, ptr b3 0), (3, ptr b5 0), (4, .one (.int .i64) s11.1), (5, .one (.int .i64) s11.1)]) rfl ?_
      refine r_nil ?_
      refine r_then ?_
      refine r_any (by kernel_rfl) ?_
      refine a_float (i := 0) (t := .one (.int .i64) s11.1) (blind_block (blind_then (blind_then (blind_block (blind_then blind_body))))) rfl (by kernel_rfl) (by kernel_rfl) (by kernel_rfl) (y_pure tabOk rfl) rfl ?_
      refine a_float (i := 2) (t := .one (.int .i64) s11.1) (blind_block (blind_then (blind_then (blind_block (blind_then blind_body))))) rfl (by kernel_rfl) (by kernel_rfl) (by kernel_rfl) (y_pure tabOk rfl) rfl ?_
      obtain ⟨hc, h⟩ := ite_ex h
      refine a_float (i := 3) (t := ptr b1 (0 + (Int.toNat s11.1) * 1)) (blind_block (blind_then (blind_then (blind_block (blind_then blind_body))))) rfl (by kernel_rfl) (by kernel_rfl) (by kernel_rfl) (y_ivar rfl rfl hc.1 hc.2 un38 ty22) rfl ?_
      refine a_two (i := 1) (j := 4) (by kernel_rfl) rfl rfl ?_ ?_
      · refine y (y_load 2 .here rfl rfl (by first | rfl | (simp only [Pth.off, T.size]; omega)) ok_here ty38) rfl ?_
        refine r_nil ?_
        refine r_then ?_
        refine r_less [1, 2, 3, 5, 8, 9, 11] rfl ?_
        refine a_one (i := 4) (by kernel_rfl) rfl ?_
        refine y (y_load 2 (.elem (Int.toNat s11.1) .here) rfl rfl (by first | rfl | (simp only [Pth.off, T.size]; omega)) (ok_elem (by omega) ok_here) ty22) rfl ?_
        refine r_nil ?_
        refine r_then ?_
        refine r_less [1, 2, 3, 5, 8, 9, 12] rfl ?_
        refine a_one (i := 5) (by kernel_rfl) rfl ?_
        obtain ⟨r13, hr13, h⟩ := bind_ex h
        refine r_calls (crc_turn_of_ok a0 (List.getD a0 (Int.toNat s11.1) 0) _ hr13) (by kernel_rfl) rfl rfl ?_
        refine r_nil ?_
        refine r_then ?_
        refine r_less [1, 2, 3, 5, 8, 13] rfl ?_
        obtain ⟨hc, h⟩ := ite_ex h
        refine a_float (i := 6) (t := ptr b5 (0 + (Int.toNat s11.1) * 1)) (blind_block (blind_then (blind_then (blind_block (blind_then blind_body))))) rfl (by kernel_rfl) (by kernel_rfl) (by kernel_rfl) (y_ivar rfl rfl hc.1 hc.2 un38 ty22) rfl ?_
        refine a_one (i := 7) (by kernel_rfl) rfl ?_
        refine r_store 0 (.elem (Int.toNat s11.1) .here) rfl rfl rfl (by first | rfl | (simp only [Pth.off, T.size]; omega)) (ok_elem (by omega) ok_here) ty22 ?_
        refine r_nil ?_
        refine r_then ?_
        refine r_less [1, 2, 3, 5] rfl ?_
        refine a_end (by kernel_rfl) ?_
        refine r_inblock ?_
        refine r_then ?_
        refine r_region ?_
        refine r_pure tabOk 2 [1, 2, 3, 5] (E' := [(1, ptr b1 0), (2, ptr b3 0), (3, ptr b5 0), (5, .one (.int .i64) (IntKind.wrap .i64 (s11.1 + 1)))]) rfl ?_
        refine r_nil ?_
        refine r_then ?_
        refine r_less [1, 2, 3, 5] rfl ?_
        exact r_backg ((IntKind.wrap .i64 (s11.1 + 1)), (List.set s11.2 (Int.toNat s11.1) r13)) () (Nat.lt_succ_self _) h rfl rfl
      · refine y (y_load 2 (.elem (Int.toNat s11.1) .here) rfl rfl (by first | rfl | (simp only [Pth.off, T.size]; omega)) (ok_elem (by omega) ok_here) ty22) rfl ?_
        refine r_nil ?_
        refine r_then ?_
        refine r_less [1, 2, 3, 5, 8, 12] rfl ?_
        refine a_one (i := 1) (by kernel_rfl) rfl ?_
        refine y (y_load 2 .here rfl rfl (by first | rfl | (simp only [Pth.off, T.size]; omega)) ok_here ty38) rfl ?_
        refine r_nil ?_
        refine r_then ?_
        refine r_less [1, 2, 3, 5, 8, 9, 12] rfl ?_
        refine a_one (i := 5) (by kernel_rfl) rfl ?_
        obtain ⟨r13, hr13, h⟩ := bind_ex h
        refine r_calls (crc_turn_of_ok a0 (List.getD a0 (Int.toNat s11.1) 0) _ hr13) (by kernel_rfl) rfl rfl ?_
        refine r_nil ?_
        refine r_then ?_
        refine r_less [1, 2, 3, 5, 8, 13] rfl ?_
        obtain ⟨hc, h⟩ := ite_ex h
        refine a_float (i := 6) (t := ptr b5 (0 + (Int.toNat s11.1) * 1)) (blind_block (blind_then (blind_then (blind_block (blind_then blind_body))))) rfl (by kernel_rfl) (by kernel_rfl) (by kernel_rfl) (y_ivar rfl rfl hc.1 hc.2 un38 ty22) rfl ?_
        refine a_one (i := 7) (by kernel_rfl) rfl ?_
        refine r_store 0 (.elem (Int.toNat s11.1) .here) rfl rfl rfl (by first | rfl | (simp only [Pth.off, T.size]; omega)) (ok_elem (by omega) ok_here) ty22 ?_
        refine r_nil ?_
        refine r_then ?_
        refine r_less [1, 2, 3, 5] rfl ?_
        refine a_end (by kernel_rfl) ?_
        refine r_inblock ?_
        refine r_then ?_
        refine r_region ?_
        refine r_pure tabOk 2 [1, 2, 3, 5] (E' := [(1, ptr b1 0), (2, ptr b3 0), (3, ptr b5 0), (5, .one (.int .i64) (IntKind.wrap .i64 (s11.1 + 1)))]) rfl ?_
        refine r_nil ?_
        refine r_then ?_
        refine r_less [1, 2, 3, 5] rfl ?_
        exact r_backg ((IntKind.wrap .i64 (s11.1 + 1)), (List.set s11.2 (Int.toNat s11.1) r13)) () (Nat.lt_succ_self _) h rfl rfl
    · rw [if_neg (ne_true_of_eq_false hc)] at h
      refine r_exit ?_
      refine e_then ?_
      refine e_then ?_
      refine e_eq ?_
      refine r_then ?_
      refine r_less [2, 3] rfl ?_
      exact r_meetk s11.2 () h rfl rfl
  · intro o8 gg h
    rw [← hk7] at h
    refine r_seq ?_
    refine r_region ?_
    refine y (y_load 0 .here rfl rfl (by first | rfl | (simp only [Pth.off, T.size]; omega)) ok_here ty38) rfl ?_
    refine r_store 1 .here rfl rfl rfl (by first | rfl | (simp only [Pth.off, T.size]; omega)) ok_here ty38 ?_
    refine r_nil ?_
    refine r_then ?_
    refine r_ret ?_
    obtain rfl := Option.some.inj h
    exact r_ret1 rfl (.cell 1 .here rfl rfl (by first | rfl | (simp only [Pth.off, T.size]; omega)) ok_here ty38) (fun _ _ g => g) (fun _ _ _ => List.nil_sublist _)

theorem crc_Join_ok (a0 : Int) (a1 : Int) (a2 : Int) (r : Int) (h : crc_Join a0 a1 a2 = some r) : Pure Try.prog 14 [.one (.int .u32) a0, .one (.int .u32) a1, .one (.int .i64) a2] (.one (.int .u32) r) := by
  unfold crc_Join at h
  refine enter Try.func14 rfl 33 rfl rfl fun F => ?_
  refine r_seq ?_
  refine r_region ?_
  refine r_pure tabOk 1 [0, 1, 2] (E' := [(0, .one (.int .u32) a0), (1, .one (.int .u32) a1), (2, .one (.int .i64) a2)]) rfl ?_
  refine r_nil ?_
  refine r_then ?_
  refine r_seq ?_
  refine r_region ?_
  refine r_alloc (t := (.arr 32 (.int .u32))) rfl zf38 rfl fun b1 => ?_
  refine r_nil ?_
  refine r_then ?_
  obtain ⟨k3, hk3, h⟩ := bnd_ex h
  refine r_joink (γ := Unit) (fun (o4 : List (Int)) _ => [(0, .one (.int .u32) a0), (1, .one (.int .u32) a1), (2, .one (.int .i64) a2), (7, ptr b1 0)]) (fun (o4 : List (Int)) _ => [Res.var b1 38 (.arr 32 (.int .u32)) o4]) k3 r ?_ ?_
  · refine r_seq ?_
    refine r_region ?_
    refine r_pure tabOk 1 [0, 1, 2, 7, 9] (E' := [(0, .one (.int .u32) a0), (1, .one (.int .u32) a1), (2, .one (.int .i64) a2), (7, ptr b1 0), (9, .one (.int .i64) 0)]) rfl ?_
    refine r_nil ?_
    refine r_then ?_
    refine r_block ?_
    refine r_less [0, 1, 2, 7, 9] rfl ?_
    refine r_loopg (γ := Unit) (fun (s18 : Int × List (Int)) _ => [(0, .one (.int .u32) a0), (1, .one (.int .u32) a1), (2, .one (.int .i64) a2), (7, ptr b1 0), (9, .one (.int .i64) s18.1)]) (fun (s18 : Int × List (Int)) _ => [Res.var b1 38 (.arr 32 (.int .u32)) s18.2]) (crc_Join_l1 k3) (0, (List.replicate 32 0)) () h rfl rfl ?_
    clear h
    intro m19 s18 gg h
    cases m19 with
    | zero => cases h
    | succ m19 =>
    simp only [crc_Join_l1] at h
    refine r_seq ?_
    refine r_region ?_
    refine r_pure tabOk 1 [0, 1, 2, 7, 9, 10] (E' := [(0, .one (.int .u32) a0), (1, .one (.int .u32) a1), (2, .one (.int .i64) a2), (7, ptr b1 0), (9, .one (.int .i64) s18.1), (10, .one .bool (decide (s18.1 < 32)))]) rfl ?_
    refine r_nil ?_
    refine r_then ?_
    refine r_seq ?_
    refine r_if (b := (decide (s18.1 < 32))) rfl (fun hc => ?_) (fun hc => ?_)
    · rw [if_pos hc] at h
      refine r_skip ?_
      refine r_then ?_
      refine r_seq ?_
      refine r_block ?_
      refine r_seq ?_
      refine r_region ?_
      refine r_pure tabOk 2 [0, 1, 2, 7, 8, 9] (E' := [(0, .one (.int .u32) a0), (1, .one (.int .u32) a1), (2, .one (.int .i64) a2), (7, ptr b1 0), (8, .one (.int .i64) s18.1), (9, .one (.int .i64) s18.1)]) rfl ?_
      refine r_nil ?_
      refine r_then ?_
      refine r_region ?_
      refine r_pure tabOk 2 [0, 1, 2, 7, 9, 12, 13] (E' := [(0, .one (.int .u32) a0), (1, .one (.int .u32) a1), (2, .one (.int .i64) a2), (7, ptr b1 0), (9, .one (.int .i64) s18.1), (12, .one (.int .i64) s18.1), (13, .one (.int .i64) s18.1)]) rfl ?_
      obtain ⟨hc, h⟩ := ite_ex h
      refine y (y_shl rfl rfl hc) rfl ?_
      obtain ⟨r20, hr20, h⟩ := bind_ex h
      refine r_calls (crc_steps_ok (ishl .u32 1 s18.1) 8 _ hr20) (by kernel_rfl) rfl rfl ?_
      obtain ⟨hc, h⟩ := ite_ex h
      refine y (y_ivar rfl rfl hc.1 hc.2 un38 ty22) rfl ?_
      refine r_store 0 (.elem (Int.toNat s18.1) .here) rfl rfl rfl (by first | rfl | (simp only [Pth.off, T.size]; omega)) (ok_elem (by omega) ok_here) ty22 ?_
      refine r_nil ?_
      refine r_inblock ?_
      refine r_then ?_
      refine r_region ?_
      refine r_pure tabOk 2 [0, 1, 2, 7, 9] (E' := [(0, .one (.int .u32) a0), (1, .one (.int .u32) a1), (2, .one (.int .i64) a2), (7, ptr b1 0), (9, .one (.int .i64) (IntKind.wrap .i64 (s18.1 + 1)))]) rfl ?_
      refine r_nil ?_
      refine r_then ?_
      refine r_less [0, 1, 2, 7, 9] rfl ?_
      exact r_backg ((IntKind.wrap .i64 (s18.1 + 1)), (List.set s18.2 (Int.toNat s18.1) r20)) () (Nat.lt_succ_self _) h rfl rfl
    · rw [if_neg (ne_true_of_eq_false hc)] at h
      refine r_exit ?_
      refine e_then ?_
      refine e_then ?_
      refine e_eq ?_
      refine r_then ?_
      refine r_less [0, 1, 2, 7] rfl ?_
      exact r_meetk s18.2 () h rfl rfl
  · intro o4 gg h
    rw [← hk3] at h
    obtain ⟨k5, hk5, h⟩ := bnd_ex h
    refine r_joink (γ := Unit) (fun (o6 : Int × List (Int)) _ => [(0, .one (.int .u32) o6.1), (1, .one (.int .u32) a1)]) (fun (o6 : Int × List (Int)) _ => [Res.var b1 38 (.arr 32 (.int .u32)) o6.2]) k5 r ?_ ?_
    · refine r_block ?_
      refine r_less [0, 1, 2, 7] rfl ?_
      refine r_loopg (γ := Unit) (fun (s9 : Int × Int × List (Int)) _ => [(0, .one (.int .u32) s9.1), (1, .one (.int .u32) a1), (2, .one (.int .i64) s9.2.1), (7, ptr b1 0)]) (fun (s9 : Int × Int × List (Int)) _ => [Res.var b1 38 (.arr 32 (.int .u32)) s9.2.2]) (crc_Join_l0 k5) (a0, a2, o4) () h rfl rfl ?_
      clear h
      intro m10 s9 gg h
      cases m10 with
      | zero => cases h
      | succ m10 =>
      simp only [crc_Join_l0] at h
      refine r_seq ?_
      refine r_seq ?_
      refine r_region ?_
      refine r_pure tabOk 2 [0, 1, 2, 7, 19] (E' := [(0, .one (.int .u32) s9.1), (1, .one (.int .u32) a1), (2, .one (.int .i64) s9.2.1), (7, ptr b1 0), (19, .one .bool (decide (s9.2.1 > 0)))]) rfl ?_
      refine r_nil ?_
      refine r_then ?_
      refine r_if (b := (decide (s9.2.1 > 0))) rfl (fun hc => ?_) (fun hc => ?_)
      · rw [if_pos hc] at h
        refine r_skip ?_
        refine r_then ?_
        refine r_seq ?_
        refine r_block ?_
        obtain ⟨k11, hk11, h⟩ := bnd_ex h
        refine r_joink (γ := Unit) (fun (o12 : Int) _ => [(0, .one (.int .u32) o12), (1, .one (.int .u32) a1), (2, .one (.int .i64) s9.2.1), (7, ptr b1 0)]) (fun (o12 : Int) _ => [Res.var b1 38 (.arr 32 (.int .u32)) s9.2.2]) k11 r ?_ ?_
        · refine r_seq ?_
          refine r_region ?_
          refine r_pure tabOk 3 [0, 1, 2, 7, 24] (E' := [(0, .one (.int .u32) s9.1), (1, .one (.int .u32) a1), (2, .one (.int .i64) s9.2.1), (7, ptr b1 0), (24, .one .bool ((iand .i64 s9.2.1 1) == 1))]) rfl ?_
          refine r_nil ?_
          refine r_then ?_
          refine r_if (b := ((iand .i64 s9.2.1 1) == 1)) rfl (fun hc => ?_) (fun hc => ?_)
          · rw [if_pos hc] at h
            refine r_region ?_
            refine y (y_load 0 .here rfl rfl (by first | rfl | (simp only [Pth.off, T.size]; omega)) ok_here ty38) rfl ?_
            refine r_pure tabOk 1 [1, 2, 7, 25, 26] (E' := [(1, .one (.int .u32) a1), (2, .one (.int .i64) s9.2.1), (7, ptr b1 0), (25, .one (.arr 32 (.int .u32)) s9.2.2), (26, .one (.int .u32) s9.1)]) rfl ?_
            obtain ⟨r15, hr15, h⟩ := bind_ex h
            refine r_calls (crc_turn_of_ok s9.2.2 s9.1 _ hr15) (by kernel_rfl) rfl rfl ?_
            refine r_pure tabOk 1 [0, 1, 2, 7] (E' := [(0, .one (.int .u32) r15), (1, .one (.int .u32) a1), (2, .one (.int .i64) s9.2.1), (7, ptr b1 0)]) rfl ?_
            refine r_nil ?_
            refine r_then ?_
            refine r_less [0, 1, 2, 7] rfl ?_
            exact r_meetk r15 () h rfl rfl
          · rw [if_neg (ne_true_of_eq_false hc)] at h
            refine r_skip ?_
            refine r_then ?_
            refine r_less [0, 1, 2, 7] rfl ?_
            exact r_meetk s9.1 () h rfl rfl
        · intro o12 gg h
          rw [← hk11] at h
          refine r_region ?_
          refine y (y_load 0 .here rfl rfl (by first | rfl | (simp only [Pth.off, T.size]; omega)) ok_here ty38) rfl ?_
          obtain ⟨r13, hr13, h⟩ := bind_ex h
          refine r_calls (crc_turn_twice_ok s9.2.2 _ hr13) (by kernel_rfl) rfl rfl ?_
          refine r_store 0 .here rfl rfl rfl (by first | rfl | (simp only [Pth.off, T.size]; omega)) ok_here ty38 ?_
          refine r_nil ?_
          refine r_inblock ?_
          refine r_then ?_
          refine r_region ?_
          refine r_pure tabOk 3 [0, 1, 2, 7] (E' := [(0, .one (.int .u32) o12), (1, .one (.int .u32) a1), (2, .one (.int .i64) (ishr .i64 s9.2.1 1)), (7, ptr b1 0)]) rfl ?_
          obtain ⟨n14, hn14, h⟩ := bnd_ex h
          rw [hn14]
          refine r_nil ?_
          refine r_then ?_
          refine r_less [0, 1, 2, 7] rfl ?_
          exact r_backg (o12, n14, r13) () (Nat.lt_succ_self _) h rfl rfl
      · rw [if_neg (ne_true_of_eq_false hc)] at h
        refine r_exit ?_
        refine e_then ?_
        refine e_then ?_
        refine e_eq ?_
        refine r_then ?_
        refine r_less [0, 1] rfl ?_
        exact r_meetk (s9.1, s9.2.2) () h rfl rfl
    · intro o6 gg h
      rw [← hk5] at h
      refine r_seq ?_
      refine r_region ?_
      refine r_pure tabOk 4 [6] (E' := [(6, .one (.int .u32) (ixor .u32 o6.1 a1))]) rfl ?_
      refine r_nil ?_
      refine r_then ?_
      refine r_ret ?_
      obtain rfl := Option.some.inj h
      exact r_ret1 rfl (.tmp rfl) (fun _ _ g => g) (fun _ _ _ => List.nil_sublist _)

theorem escrowlaw01_first_ok  (r : Bool) (h : escrowlaw01_first  = some r) : Pure Try.prog 12 [] (.one .bool r) := by
  unfold escrowlaw01_first at h
  refine enter Try.func12 rfl 11 rfl rfl fun F => ?_
  refine r_seq ?_
  refine r_region ?_
  refine r_pure tabOk 1 [] (E' := []) rfl ?_
  refine r_nil ?_
  refine r_then ?_
  refine r_seq ?_
  refine r_region ?_
  obtain ⟨r1, hr1, h⟩ := bind_ex h
  refine r_calls (crc_Sum_ok [49, 50, 51, 52, 53, 54, 55, 56, 57] _ hr1) (by kernel_rfl) rfl rfl ?_
  refine r_pure tabOk 2 [3] (E' := [(3, .one .bool (r1 == 3808858755))]) rfl ?_
  obtain ⟨b2, hbb2, h⟩ := bnd_ex h
  rw [hbb2]
  obtain ⟨k3, hk3, h⟩ := bnd_ex h
  refine r_lsplitk (γ := Unit) 3 (fun (o4 : Bool) _ => [(6, .one .bool o4)]) (fun _ _ => []) k3 r ?_ ?_
  · rcases Bool.eq_false_or_eq_true b2 with hh | hh
    · rw [hh] at h ⊢
      rw [if_pos rfl] at h
      refine r_guard (by rfl) rfl ?_
      obtain ⟨r5, hr5, h⟩ := bind_ex h
      refine r_calls (crc_On_ok 3251651376 [98, 99] _ hr5) (by kernel_rfl) rfl rfl ?_
      refine r_pure tabOk 2 [6] (E' := [(6, .one .bool (r5 == 910901175))]) rfl ?_
      refine r_nil ?_
      refine r_less [6] rfl ?_
      refine r_then ?_
      exact r_meetk (r5 == 910901175) () h rfl rfl
    · rw [hh] at h ⊢
      rw [if_neg (by decide)] at h
      refine r_pure tabOk 3 [6] (E' := [(6, .one .bool false)]) rfl ?_
      refine r_nil ?_
      refine r_less [6] rfl ?_
      refine r_then ?_
      exact r_meetk false () h rfl rfl
  · intro o4 _ h
    rw [← hk3] at h
    refine r_pure tabOk 1 [7] (E' := [(7, .one .bool o4)]) rfl ?_
    obtain ⟨k7, hk7, h⟩ := bnd_ex h
    refine r_lsplitk (γ := Unit) 3 (fun (o8 : Bool) _ => [(10, .one .bool o8)]) (fun _ _ => []) k7 r ?_ ?_
    · rcases Bool.eq_false_or_eq_true o4 with hh | hh
      · rw [hh] at h ⊢
        rw [if_pos rfl] at h
        refine r_guard (by rfl) rfl ?_
        obtain ⟨r9, hr9, h⟩ := bind_ex h
        refine r_calls (crc_Join_ok 1 0 1 _ hr9) (by kernel_rfl) rfl rfl ?_
        refine r_pure tabOk 2 [10] (E' := [(10, .one .bool (r9 == 4067132163))]) rfl ?_
        refine r_nil ?_
        refine r_less [10] rfl ?_
        refine r_then ?_
        exact r_meetk (r9 == 4067132163) () h rfl rfl
      · rw [hh] at h ⊢
        rw [if_neg (by decide)] at h
        refine r_pure tabOk 3 [10] (E' := [(10, .one .bool false)]) rfl ?_
        refine r_nil ?_
        refine r_less [10] rfl ?_
        refine r_then ?_
        exact r_meetk false () h rfl rfl
    · intro o8 _ h
      rw [← hk7] at h
      refine r_pure tabOk 1 [0] (E' := [(0, .one .bool o8)]) rfl ?_
      refine r_nil ?_
      refine r_then ?_
      refine r_ret ?_
      obtain rfl := Option.some.inj h
      exact r_ret1 rfl (.tmp rfl) (fun _ _ g => g) (fun _ _ _ => List.nil_sublist _)

theorem escrowlaw01_CrcSums_ok (a0 : Int) (a1 : List Int) (r : Bool) (h : escrowlaw01_CrcSums a0 a1 = some r) : Pure Try.prog 3 [.one (.int .u32) a0, .one .str a1] (.one .bool r) := by
  unfold escrowlaw01_CrcSums at h
  refine enter Try.func3 rfl 36 rfl rfl fun F => ?_
  refine r_seq ?_
  refine r_region ?_
  refine r_pure tabOk 1 [0, 1] (E' := [(0, .one (.int .u32) a0), (1, .one .str a1)]) rfl ?_
  refine r_nil ?_
  refine r_then ?_
  refine r_seq ?_
  refine r_region ?_
  refine r_pure tabOk 1 [0, 1, 9] (E' := [(0, .one (.int .u32) a0), (1, .one .str a1), (9, .one .str a1)]) rfl ?_
  obtain ⟨r1, hr1, h⟩ := bind_ex h
  refine r_calls (crc_Sum_ok a1 _ hr1) (by kernel_rfl) rfl rfl ?_
  refine r_pure tabOk 1 [0, 1, 5] (E' := [(0, .one (.int .u32) a0), (1, .one .str a1), (5, .one (.int .u32) r1)]) rfl ?_
  refine r_nil ?_
  refine r_then ?_
  refine r_seq ?_
  refine r_region ?_
  refine r_pure tabOk 2 [0, 1, 5, 11, 12] (E' := [(0, .one (.int .u32) a0), (1, .one .str a1), (5, .one (.int .u32) r1), (11, .one (.int .u32) a0), (12, .one .str a1)]) rfl ?_
  obtain ⟨r2, hr2, h⟩ := bind_ex h
  refine r_calls (crc_On_ok a0 a1 _ hr2) (by kernel_rfl) rfl rfl ?_
  refine r_pure tabOk 1 [0, 1, 5, 6] (E' := [(0, .one (.int .u32) a0), (1, .one .str a1), (5, .one (.int .u32) r1), (6, .one (.int .u32) r2)]) rfl ?_
  refine r_nil ?_
  refine r_then ?_
  refine r_seq ?_
  refine r_region ?_
  refine r_pure tabOk 1 [0, 1, 5, 6, 14] (E' := [(0, .one (.int .u32) a0), (1, .one .str a1), (5, .one (.int .u32) r1), (6, .one (.int .u32) r2), (14, .one .str a1)]) rfl ?_
  obtain ⟨r3, hr3, h⟩ := bind_ex h
  refine r_calls (crc_Sum_ok a1 _ hr3) (by kernel_rfl) rfl rfl ?_
  refine r_pure tabOk 1 [0, 1, 5, 6, 7] (E' := [(0, .one (.int .u32) a0), (1, .one .str a1), (5, .one (.int .u32) r1), (6, .one (.int .u32) r2), (7, .one (.int .u32) r3)]) rfl ?_
  refine r_nil ?_
  refine r_then ?_
  refine r_seq ?_
  refine r_region ?_
  refine r_pure tabOk 1 [0, 1, 5, 6, 7, 16] (E' := [(0, .one (.int .u32) a0), (1, .one .str a1), (5, .one (.int .u32) r1), (6, .one (.int .u32) r2), (7, .one (.int .u32) r3), (16, .one .str a1)]) rfl ?_
  obtain ⟨r4, hr4, h⟩ := bind_ex h
  refine r_calls (escrowref01_Sum_ok a1 _ hr4) (by kernel_rfl) rfl rfl ?_
  refine r_pure tabOk 1 [0, 1, 5, 6, 7, 8] (E' := [(0, .one (.int .u32) a0), (1, .one .str a1), (5, .one (.int .u32) r1), (6, .one (.int .u32) r2), (7, .one (.int .u32) r3), (8, .one (.int .u32) r4)]) rfl ?_
  refine r_nil ?_
  refine r_then ?_
  refine r_seq ?_
  refine r_region ?_
  obtain ⟨r5, hr5, h⟩ := bind_ex h
  refine r_calls (escrowlaw01_first_ok  _ hr5) (by kernel_rfl) rfl rfl ?_
  refine r_pure tabOk 1 [0, 1, 5, 6, 7, 8, 19] (E' := [(0, .one (.int .u32) a0), (1, .one .str a1), (5, .one (.int .u32) r1), (6, .one (.int .u32) r2), (7, .one (.int .u32) r3), (8, .one (.int .u32) r4), (19, .one .bool r5)]) rfl ?_
  refine r_lsplit (γ := Unit) 4 (fun _ => [(0, .one (.int .u32) a0), (1, .one .str a1), (6, .one (.int .u32) r2), (7, .one (.int .u32) r3), (8, .one (.int .u32) r4), (23, .one .bool (r5 && (r1 == r4)))]) (fun _ => []) ?_ (fun _ => ?_)
  · clear h
    rcases Bool.eq_false_or_eq_true r5 with hh | hh
    · rw [hh]
      refine r_pure tabOk 4 [0, 1, 6, 7, 8, 23] (E' := [(0, .one (.int .u32) a0), (1, .one .str a1), (6, .one (.int .u32) r2), (7, .one (.int .u32) r3), (8, .one (.int .u32) r4), (23, .one .bool (r1 == r4))]) rfl ?_
      refine r_nil ?_
      refine r_then ?_
      exact r_meetg () rfl rfl
    · rw [hh]
      refine r_pure tabOk 4 [0, 1, 6, 7, 8, 23] (E' := [(0, .one (.int .u32) a0), (1, .one .str a1), (6, .one (.int .u32) r2), (7, .one (.int .u32) r3), (8, .one (.int .u32) r4), (23, .one .bool false)]) rfl ?_
      refine r_nil ?_
      refine r_then ?_
      exact r_meetg () rfl rfl
  refine r_pure tabOk 1 [0, 1, 6, 7, 8, 24] (E' := [(0, .one (.int .u32) a0), (1, .one .str a1), (6, .one (.int .u32) r2), (7, .one (.int .u32) r3), (8, .one (.int .u32) r4), (24, .one .bool (r5 && (r1 == r4)))]) rfl ?_
  obtain ⟨b7, hbb7, h⟩ := bnd_ex h
  rw [hbb7]
  refine r_lsplit (γ := Unit) 4 (fun _ => [(0, .one (.int .u32) a0), (1, .one .str a1), (6, .one (.int .u32) r2), (28, .one .bool (b7 && (r3 == r4)))]) (fun _ => []) ?_ (fun _ => ?_)
  · clear h
    cases b7 with
    | true =>
    refine r_pure tabOk 4 [0, 1, 6, 28] (E' := [(0, .one (.int .u32) a0), (1, .one .str a1), (6, .one (.int .u32) r2), (28, .one .bool (r3 == r4))]) rfl ?_
    refine r_nil ?_
    refine r_then ?_
    exact r_meetg () rfl rfl
    | false =>
    refine r_pure tabOk 4 [0, 1, 6, 28] (E' := [(0, .one (.int .u32) a0), (1, .one .str a1), (6, .one (.int .u32) r2), (28, .one .bool false)]) rfl ?_
    refine r_nil ?_
    refine r_then ?_
    exact r_meetg () rfl rfl
  refine r_pure tabOk 1 [0, 1, 6, 29] (E' := [(0, .one (.int .u32) a0), (1, .one .str a1), (6, .one (.int .u32) r2), (29, .one .bool (b7 && (r3 == r4)))]) rfl ?_
  obtain ⟨b8, hbb8, h⟩ := bnd_ex h
  rw [hbb8]
  obtain ⟨k9, hk9, h⟩ := bnd_ex h
  refine r_lsplitk (γ := Unit) 6 (fun (o10 : Bool) _ => [(35, .one .bool o10)]) (fun _ _ => []) k9 r ?_ ?_
  · rcases Bool.eq_false_or_eq_true b8 with hh | hh
    · rw [hh] at h ⊢
      rw [if_pos rfl] at h
      refine r_pure tabOk 3 [29, 30, 31, 32] (E' := [(29, .one .bool true), (30, .one (.int .u32) r2), (31, .one (.int .u32) a0), (32, .one .str a1)]) rfl ?_
      refine r_guard (by rfl) rfl ?_
      obtain ⟨r11, hr11, h⟩ := bind_ex h
      refine r_calls (escrowref01_On_ok a0 a1 _ hr11) (by kernel_rfl) rfl rfl ?_
      refine r_pure tabOk 2 [35] (E' := [(35, .one .bool (r2 == r11))]) rfl ?_
      refine r_nil ?_
      refine r_less [35] rfl ?_
      refine r_then ?_
      exact r_meetk (r2 == r11) () h rfl rfl
    · rw [hh] at h ⊢
      rw [if_neg (by decide)] at h
      refine r_pure tabOk 6 [35] (E' := [(35, .one .bool false)]) rfl ?_
      refine r_nil ?_
      refine r_less [35] rfl ?_
      refine r_then ?_
      exact r_meetk false () h rfl rfl
  · intro o10 _ h
    rw [← hk9] at h
    refine r_pure tabOk 1 [4] (E' := [(4, .one .bool o10)]) rfl ?_
    refine r_nil ?_
    refine r_then ?_
    refine r_ret ?_
    obtain rfl := Option.some.inj h
    exact r_ret1 rfl (.tmp rfl) (fun _ _ g => g) (fun _ _ _ => List.nil_sublist _)

theorem escrowref01_turned_ok (a0 : List (Int)) (a1 : Int) (r : Int) (h : escrowref01_turned a0 a1 = some r) : Pure Try.prog 21 [.one (.arr 32 (.int .u32)) a0, .one (.int .u32) a1] (.one (.int .u32) r) := by
  unfold escrowref01_turned at h
  refine enter Try.func21 rfl 22 rfl rfl fun F => ?_
  refine r_seq ?_
  refine r_region ?_
  refine r_box rfl rfl fun b1 => ?_
  refine r_pure tabOk 1 [1, 2] (E' := [(1, .one (.int .u32) a1), (2, ptr b1 0)]) rfl ?_
  refine r_nil ?_
  refine r_then ?_
  refine r_seq ?_
  refine r_region ?_
  refine r_pure tabOk 1 [1, 2, 5] (E' := [(1, .one (.int .u32) a1), (2, ptr b1 0), (5, .one (.int .u32) 0)]) rfl ?_
  refine r_nil ?_
  refine r_then ?_
  obtain ⟨k3, hk3, h⟩ := bnd_ex h
  refine r_joink (γ := Unit) (fun (o4 : Int) _ => [(5, .one (.int .u32) o4)]) (fun (o4 : Int) _ => [Res.var b1 37 (.arr 32 (.int .u32)) a0]) k3 r ?_ ?_
  · refine r_seq ?_
    refine r_region ?_
    refine r_pure tabOk 1 [1, 2, 5, 6] (E' := [(1, .one (.int .u32) a1), (2, ptr b1 0), (5, .one (.int .u32) 0), (6, .one (.int .i64) 0)]) rfl ?_
    refine r_nil ?_
    refine r_then ?_
    refine r_block ?_
    refine r_less [1, 2, 5, 6] rfl ?_
    refine r_loopg (γ := Unit) (fun (s6 : Int × Int) _ => [(1, .one (.int .u32) a1), (2, ptr b1 0), (5, .one (.int .u32) s6.1), (6, .one (.int .i64) s6.2)]) (fun (s6 : Int × Int) _ => [Res.var b1 37 (.arr 32 (.int .u32)) a0]) (escrowref01_turned_l0 a0 a1 k3) (0, 0) () h rfl rfl ?_
    clear h
    intro m7 s6 gg h
    cases m7 with
    | zero => cases h
    | succ m7 =>
    simp only [escrowref01_turned_l0] at h
    refine r_seq ?_
    refine r_seq ?_
    refine r_region ?_
    refine r_pure tabOk 2 [1, 2, 5, 6, 8] (E' := [(1, .one (.int .u32) a1), (2, ptr b1 0), (5, .one (.int .u32) s6.1), (6, .one (.int .i64) s6.2), (8, .one .bool (decide (s6.2 < 32)))]) rfl ?_
    refine r_nil ?_
    refine r_then ?_
    refine r_if (b := (decide (s6.2 < 32))) rfl (fun hc => ?_) (fun hc => ?_)
    · rw [if_pos hc] at h
      refine r_skip ?_
      refine r_then ?_
      obtain ⟨k8, hk8, h⟩ := bnd_ex h
      refine r_joink (γ := Unit) (fun (o9 : Int) _ => [(1, .one (.int .u32) a1), (2, ptr b1 0), (5, .one (.int .u32) o9), (6, .one (.int .i64) s6.2)]) (fun (o9 : Int) _ => [Res.var b1 37 (.arr 32 (.int .u32)) a0]) k8 r ?_ ?_
      · refine r_block ?_
        refine r_seq ?_
        refine r_region ?_
        refine r_pure tabOk 2 [1, 2, 5, 6, 11, 12] (E' := [(1, .one (.int .u32) a1), (2, ptr b1 0), (5, .one (.int .u32) s6.1), (6, .one (.int .i64) s6.2), (11, .one (.int .u32) a1), (12, .one (.int .i64) s6.2)]) rfl ?_
        obtain ⟨hc, h⟩ := ite_ex h
        refine y (y_shr rfl rfl hc) rfl ?_
        refine r_pure tabOk 2 [1, 2, 5, 6, 15] (E' := [(1, .one (.int .u32) a1), (2, ptr b1 0), (5, .one (.int .u32) s6.1), (6, .one (.int .i64) s6.2), (15, .one .bool ((iand .u32 (ishr .u32 a1 s6.2) 1) == 1))]) rfl ?_
        refine r_nil ?_
        refine r_then ?_
        refine r_if (b := ((iand .u32 (ishr .u32 a1 s6.2) 1) == 1)) rfl (fun hc => ?_) (fun hc => ?_)
        · rw [if_pos hc] at h
          refine r_region ?_
          refine r_pure tabOk 2 [1, 2, 6, 16, 17] (E' := [(1, .one (.int .u32) a1), (2, ptr b1 0), (6, .one (.int .i64) s6.2), (16, .one (.int .u32) s6.1), (17, .one (.int .i64) s6.2)]) rfl ?_
          obtain ⟨hc, h⟩ := ite_ex h
          refine y (y_ivar rfl rfl hc.1 hc.2 un37 ty22) rfl ?_
          refine y (y_load 0 (.elem (Int.toNat s6.2) .here) rfl rfl (by first | rfl | (simp only [Pth.off, T.size]; omega)) (ok_elem (by omega) ok_here) ty22) rfl ?_
          refine r_pure tabOk 2 [1, 2, 5, 6] (E' := [(1, .one (.int .u32) a1), (2, ptr b1 0), (5, .one (.int .u32) (ixor .u32 s6.1 (List.getD a0 (Int.toNat s6.2) 0))), (6, .one (.int .i64) s6.2)]) rfl ?_
          obtain ⟨y11, hy11, h⟩ := bnd_ex h
          rw [hy11]
          refine r_nil ?_
          refine r_inblock ?_
          refine r_then ?_
          refine r_less [1, 2, 5, 6] rfl ?_
          exact r_meetk y11 () h rfl rfl
        · rw [if_neg (ne_true_of_eq_false hc)] at h
          refine r_skip ?_
          refine r_inblock ?_
          refine r_then ?_
          refine r_less [1, 2, 5, 6] rfl ?_
          exact r_meetk s6.1 () h rfl rfl
      · intro o9 gg h
        rw [← hk8] at h
        refine r_region ?_
        refine r_pure tabOk 3 [1, 2, 5, 6] (E' := [(1, .one (.int .u32) a1), (2, ptr b1 0), (5, .one (.int .u32) o9), (6, .one (.int .i64) (IntKind.wrap .i64 (s6.2 + 1)))]) rfl ?_
        obtain ⟨i10, hi10, h⟩ := bnd_ex h
        rw [hi10]
        refine r_nil ?_
        refine r_then ?_
        refine r_less [1, 2, 5, 6] rfl ?_
        exact r_backg (o9, i10) () (Nat.lt_succ_self _) h rfl rfl
    · rw [if_neg (ne_true_of_eq_false hc)] at h
      refine r_exit ?_
      refine e_then ?_
      refine e_then ?_
      refine e_eq ?_
      refine r_then ?_
      refine r_less [5] rfl ?_
      exact r_meetk s6.1 () h rfl rfl
  · intro o4 gg h
    rw [← hk3] at h
    refine r_seq ?_
    refine r_region ?_
    refine r_pure tabOk 2 [4] (E' := [(4, .one (.int .u32) o4)]) rfl ?_
    refine r_nil ?_
    refine r_then ?_
    refine r_ret ?_
    obtain rfl := Option.some.inj h
    exact r_ret1 rfl (.tmp rfl) (fun _ _ g => g) (fun _ _ _ => List.nil_sublist _)

theorem escrowref01_Join_ok (a0 : Int) (a1 : Int) (a2 : Int) (r : Int) (h : escrowref01_Join a0 a1 a2 = some r) : Pure Try.prog 15 [.one (.int .u32) a0, .one (.int .u32) a1, .one (.int .i64) a2] (.one (.int .u32) r) := by
  unfold escrowref01_Join at h
  refine enter Try.func15 rfl 53 rfl rfl fun F => ?_
  refine r_seq ?_
  refine r_region ?_
  refine r_pure tabOk 1 [0, 1, 2] (E' := [(0, .one (.int .u32) a0), (1, .one (.int .u32) a1), (2, .one (.int .i64) a2)]) rfl ?_
  refine r_nil ?_
  refine r_then ?_
  refine r_seq ?_
  refine r_region ?_
  refine r_alloc (t := (.arr 32 (.int .u32))) rfl zf37 rfl fun b1 => ?_
  refine r_nil ?_
  refine r_then ?_
  obtain ⟨k3, hk3, h⟩ := bnd_ex h
  refine r_joink (γ := Unit) (fun (o4 : List (Int)) _ => [(0, .one (.int .u32) a0), (1, .one (.int .u32) a1), (2, .one (.int .i64) a2), (7, ptr b1 0)]) (fun (o4 : List (Int)) _ => [Res.var b1 37 (.arr 32 (.int .u32)) o4]) k3 r ?_ ?_
  · refine r_seq ?_
    refine r_region ?_
    refine r_pure tabOk 1 [0, 1, 2, 7, 8] (E' := [(0, .one (.int .u32) a0), (1, .one (.int .u32) a1), (2, .one (.int .i64) a2), (7, ptr b1 0), (8, .one (.int .i64) 0)]) rfl ?_
    refine r_nil ?_
    refine r_then ?_
    refine r_block ?_
    refine r_less [0, 1, 2, 7, 8] rfl ?_
    refine r_loopg (γ := Unit) (fun (s27 : Int × List (Int)) _ => [(0, .one (.int .u32) a0), (1, .one (.int .u32) a1), (2, .one (.int .i64) a2), (7, ptr b1 0), (8, .one (.int .i64) s27.1)]) (fun (s27 : Int × List (Int)) _ => [Res.var b1 37 (.arr 32 (.int .u32)) s27.2]) (escrowref01_Join_l2 k3) (0, (List.replicate 32 0)) () h rfl rfl ?_
    clear h
    intro m28 s27 gg h
    cases m28 with
    | zero => cases h
    | succ m28 =>
    simp only [escrowref01_Join_l2] at h
    refine r_seq ?_
    refine r_seq ?_
    refine r_region ?_
    refine r_pure tabOk 2 [0, 1, 2, 7, 8, 14] (E' := [(0, .one (.int .u32) a0), (1, .one (.int .u32) a1), (2, .one (.int .i64) a2), (7, ptr b1 0), (8, .one (.int .i64) s27.1), (14, .one .bool (decide (s27.1 < 32)))]) rfl ?_
    refine r_nil ?_
    refine r_then ?_
    refine r_if (b := (decide (s27.1 < 32))) rfl (fun hc => ?_) (fun hc => ?_)
    · rw [if_pos hc] at h
      refine r_skip ?_
      refine r_then ?_
      refine r_seq ?_
      refine r_block ?_
      refine r_seq ?_
      refine r_region ?_
      refine r_pure tabOk 1 [0, 1, 2, 7, 8, 17] (E' := [(0, .one (.int .u32) a0), (1, .one (.int .u32) a1), (2, .one (.int .i64) a2), (7, ptr b1 0), (8, .one (.int .i64) s27.1), (17, .one (.int .i64) s27.1)]) rfl ?_
      obtain ⟨hc, h⟩ := ite_ex h
      refine y (y_shl rfl rfl hc) rfl ?_
      refine r_pure tabOk 1 [0, 1, 2, 7, 8, 9] (E' := [(0, .one (.int .u32) a0), (1, .one (.int .u32) a1), (2, .one (.int .i64) a2), (7, ptr b1 0), (8, .one (.int .i64) s27.1), (9, .one (.int .u32) (ishl .u32 1 s27.1))]) rfl ?_
      obtain ⟨x29, hx29, h⟩ := bnd_ex h
      rw [hx29]
      refine r_nil ?_
      refine r_then ?_
      obtain ⟨k30, hk30, h⟩ := bnd_ex h
      refine r_joink (γ := Unit) (fun (o31 : Int) _ => [(0, .one (.int .u32) a0), (1, .one (.int .u32) a1), (2, .one (.int .i64) a2), (7, ptr b1 0), (8, .one (.int .i64) s27.1), (9, .one (.int .u32) o31)]) (fun (o31 : Int) _ => [Res.var b1 37 (.arr 32 (.int .u32)) s27.2]) k30 r ?_ ?_
      · refine r_seq ?_
        refine r_region ?_
        refine r_pure tabOk 1 [0, 1, 2, 7, 8, 9, 10] (E' := [(0, .one (.int .u32) a0), (1, .one (.int .u32) a1), (2, .one (.int .i64) a2), (7, ptr b1 0), (8, .one (.int .i64) s27.1), (9, .one (.int .u32) x29), (10, .one (.int .i64) 0)]) rfl ?_
        refine r_nil ?_
        refine r_then ?_
        refine r_block ?_
        refine r_less [0, 1, 2, 7, 8, 9, 10] rfl ?_
        refine r_loopg (γ := Unit) (fun (s34 : Int × Int) _ => [(0, .one (.int .u32) a0), (1, .one (.int .u32) a1), (2, .one (.int .i64) a2), (7, ptr b1 0), (8, .one (.int .i64) s27.1), (9, .one (.int .u32) s34.1), (10, .one (.int .i64) s34.2)]) (fun (s34 : Int × Int) _ => [Res.var b1 37 (.arr 32 (.int .u32)) s27.2]) (escrowref01_Join_l3 k30) (x29, 0) () h rfl rfl ?_
        clear h
        intro m35 s34 gg h
        cases m35 with
        | zero => cases h
        | succ m35 =>
        simp only [escrowref01_Join_l3] at h
        refine r_seq ?_
        refine r_seq ?_
        refine r_region ?_
        refine r_pure tabOk 2 [0, 1, 2, 7, 8, 9, 10, 20] (E' := [(0, .one (.int .u32) a0), (1, .one (.int .u32) a1), (2, .one (.int .i64) a2), (7, ptr b1 0), (8, .one (.int .i64) s27.1), (9, .one (.int .u32) s34.1), (10, .one (.int .i64) s34.2), (20, .one .bool (decide (s34.2 < 8)))]) rfl ?_
        refine r_nil ?_
        refine r_then ?_
        refine r_if (b := (decide (s34.2 < 8))) rfl (fun hc => ?_) (fun hc => ?_)
        · rw [if_pos hc] at h
          refine r_skip ?_
          refine r_then ?_
          refine r_seq ?_
          refine r_block ?_
          refine r_region ?_
          refine r_pure tabOk 1 [0, 1, 2, 7, 8, 10, 23] (E' := [(0, .one (.int .u32) a0), (1, .one (.int .u32) a1), (2, .one (.int .i64) a2), (7, ptr b1 0), (8, .one (.int .i64) s27.1), (10, .one (.int .i64) s34.2), (23, .one (.int .u32) s34.1)]) rfl ?_
          obtain ⟨r36, hr36, h⟩ := bind_ex h
          refine r_calls (escrowref01_Step_ok s34.1 _ hr36) (by kernel_rfl) rfl rfl ?_
          refine r_pure tabOk 1 [0, 1, 2, 7, 8, 9, 10] (E' := [(0, .one (.int .u32) a0), (1, .one (.int .u32) a1), (2, .one (.int .i64) a2), (7, ptr b1 0), (8, .one (.int .i64) s27.1), (9, .one (.int .u32) r36), (10, .one (.int .i64) s34.2)]) rfl ?_
          refine r_nil ?_
          refine r_inblock ?_
          refine r_then ?_
          refine r_region ?_
          refine r_pure tabOk 3 [0, 1, 2, 7, 8, 9, 10] (E' := [(0, .one (.int .u32) a0), (1, .one (.int .u32) a1), (2, .one (.int .i64) a2), (7, ptr b1 0), (8, .one (.int .i64) s27.1), (9, .one (.int .u32) r36), (10, .one (.int .i64) (IntKind.wrap .i64 (s34.2 + 1)))]) rfl ?_
          obtain ⟨k37, hk37, h⟩ := bnd_ex h
          rw [hk37]
          refine r_nil ?_
          refine r_then ?_
          refine r_less [0, 1, 2, 7, 8, 9, 10] rfl ?_
          exact r_backg (r36, k37) () (Nat.lt_succ_self _) h rfl rfl
        · rw [if_neg (ne_true_of_eq_false hc)] at h
          refine r_exit ?_
          refine e_then ?_
          refine e_then ?_
          refine e_eq ?_
          refine r_then ?_
          refine r_less [0, 1, 2, 7, 8, 9] rfl ?_
          exact r_meetk s34.1 () h rfl rfl
      · intro o31 gg h
        rw [← hk30] at h
        refine r_region ?_
        refine r_pure tabOk 2 [0, 1, 2, 7, 8, 25, 26] (E' := [(0, .one (.int .u32) a0), (1, .one (.int .u32) a1), (2, .one (.int .i64) a2), (7, ptr b1 0), (8, .one (.int .i64) s27.1), (25, .one (.int .i64) s27.1), (26, .one (.int .u32) o31)]) rfl ?_
        obtain ⟨hc, h⟩ := ite_ex h
        refine y (y_ivar rfl rfl hc.1 hc.2 un37 ty22) rfl ?_
        refine r_store 0 (.elem (Int.toNat s27.1) .here) rfl rfl rfl (by first | rfl | (simp only [Pth.off, T.size]; omega)) (ok_elem (by omega) ok_here) ty22 ?_
        refine r_nil ?_
        refine r_inblock ?_
        refine r_then ?_
        refine r_region ?_
        refine r_pure tabOk 3 [0, 1, 2, 7, 8] (E' := [(0, .one (.int .u32) a0), (1, .one (.int .u32) a1), (2, .one (.int .i64) a2), (7, ptr b1 0), (8, .one (.int .i64) (IntKind.wrap .i64 (s27.1 + 1)))]) rfl ?_
        obtain ⟨i32, hi32, h⟩ := bnd_ex h
        rw [hi32]
        refine r_nil ?_
        refine r_then ?_
        refine r_less [0, 1, 2, 7, 8] rfl ?_
        exact r_backg (i32, (List.set s27.2 (Int.toNat s27.1) o31)) () (Nat.lt_succ_self _) h rfl rfl
    · rw [if_neg (ne_true_of_eq_false hc)] at h
      refine r_exit ?_
      refine e_then ?_
      refine e_then ?_
      refine e_eq ?_
      refine r_then ?_
      refine r_less [0, 1, 2, 7] rfl ?_
      exact r_meetk s27.2 () h rfl rfl
  · intro o4 gg h
    rw [← hk3] at h
    obtain ⟨k5, hk5, h⟩ := bnd_ex h
    refine r_joink (γ := Unit) (fun (o6 : Int × List (Int)) _ => [(0, .one (.int .u32) o6.1), (1, .one (.int .u32) a1)]) (fun (o6 : Int × List (Int)) _ => [Res.var b1 37 (.arr 32 (.int .u32)) o6.2]) k5 r ?_ ?_
    · refine r_block ?_
      refine r_less [0, 1, 2, 7] rfl ?_
      refine r_loopg (γ := Unit) (fun (s9 : Int × Int × List (Int)) _ => [(0, .one (.int .u32) s9.1), (1, .one (.int .u32) a1), (2, .one (.int .i64) s9.2.1), (7, ptr b1 0)]) (fun (s9 : Int × Int × List (Int)) _ => [Res.var b1 37 (.arr 32 (.int .u32)) s9.2.2]) (escrowref01_Join_l0 k5) (a0, a2, o4) () h rfl rfl ?_
      clear h
      intro m10 s9 gg h
      cases m10 with
      | zero => cases h
      | succ m10 =>
      simp only [escrowref01_Join_l0] at h
      refine r_seq ?_
      refine r_seq ?_
      refine r_region ?_
      refine r_pure tabOk 2 [0, 1, 2, 7, 29] (E' := [(0, .one (.int .u32) s9.1), (1, .one (.int .u32) a1), (2, .one (.int .i64) s9.2.1), (7, ptr b1 0), (29, .one .bool (decide (s9.2.1 > 0)))]) rfl ?_
      refine r_nil ?_
      refine r_then ?_
      refine r_if (b := (decide (s9.2.1 > 0))) rfl (fun hc => ?_) (fun hc => ?_)
      · rw [if_pos hc] at h
        refine r_skip ?_
        refine r_then ?_
        refine r_seq ?_
        refine r_block ?_
        obtain ⟨k11, hk11, h⟩ := bnd_ex h
        refine r_joink (γ := Unit) (fun (o12 : Int) _ => [(0, .one (.int .u32) o12), (1, .one (.int .u32) a1), (2, .one (.int .i64) s9.2.1), (7, ptr b1 0)]) (fun (o12 : Int) _ => [Res.var b1 37 (.arr 32 (.int .u32)) s9.2.2]) k11 r ?_ ?_
        · refine r_seq ?_
          refine r_region ?_
          refine r_pure tabOk 3 [0, 1, 2, 7, 34] (E' := [(0, .one (.int .u32) s9.1), (1, .one (.int .u32) a1), (2, .one (.int .i64) s9.2.1), (7, ptr b1 0), (34, .one .bool ((Int.tmod s9.2.1 2) == 1))]) rfl ?_
          refine r_nil ?_
          refine r_then ?_
          refine r_if (b := ((Int.tmod s9.2.1 2) == 1)) rfl (fun hc => ?_) (fun hc => ?_)
          · rw [if_pos hc] at h
            refine r_region ?_
            refine y (y_load 0 .here rfl rfl (by first | rfl | (simp only [Pth.off, T.size]; omega)) ok_here ty37) rfl ?_
            refine r_pure tabOk 1 [1, 2, 7, 35, 36] (E' := [(1, .one (.int .u32) a1), (2, .one (.int .i64) s9.2.1), (7, ptr b1 0), (35, .one (.arr 32 (.int .u32)) s9.2.2), (36, .one (.int .u32) s9.1)]) rfl ?_
            obtain ⟨r24, hr24, h⟩ := bind_ex h
            refine r_calls (escrowref01_turned_ok s9.2.2 s9.1 _ hr24) (by kernel_rfl) rfl rfl ?_
            refine r_pure tabOk 1 [0, 1, 2, 7] (E' := [(0, .one (.int .u32) r24), (1, .one (.int .u32) a1), (2, .one (.int .i64) s9.2.1), (7, ptr b1 0)]) rfl ?_
            refine r_nil ?_
            refine r_then ?_
            refine r_less [0, 1, 2, 7] rfl ?_
            exact r_meetk r24 () h rfl rfl
          · rw [if_neg (ne_true_of_eq_false hc)] at h
            refine r_skip ?_
            refine r_then ?_
            refine r_less [0, 1, 2, 7] rfl ?_
            exact r_meetk s9.1 () h rfl rfl
        · intro o12 gg h
          rw [← hk11] at h
          refine r_seq ?_
          refine r_region ?_
          refine r_alloc (t := (.arr 32 (.int .u32))) rfl zf37 rfl fun b13 => ?_
          refine r_nil ?_
          refine r_then ?_
          obtain ⟨k15, hk15, h⟩ := bnd_ex h
          refine r_joink (γ := Unit) (fun (o16 : List (Int)) _ => [(0, .one (.int .u32) o12), (1, .one (.int .u32) a1), (2, .one (.int .i64) s9.2.1), (7, ptr b1 0), (11, ptr b13 0)]) (fun (o16 : List (Int)) _ => [Res.var b13 37 (.arr 32 (.int .u32)) o16, Res.var b1 37 (.arr 32 (.int .u32)) s9.2.2]) k15 r ?_ ?_
          · refine r_seq ?_
            refine r_region ?_
            refine r_pure tabOk 1 [0, 1, 2, 7, 11, 12] (E' := [(0, .one (.int .u32) o12), (1, .one (.int .u32) a1), (2, .one (.int .i64) s9.2.1), (7, ptr b1 0), (11, ptr b13 0), (12, .one (.int .i64) 0)]) rfl ?_
            refine r_nil ?_
            refine r_then ?_
            refine r_block ?_
            refine r_less [0, 1, 2, 7, 11, 12] rfl ?_
            refine r_loopg (γ := Unit) (fun (s20 : Int × List (Int)) _ => [(0, .one (.int .u32) o12), (1, .one (.int .u32) a1), (2, .one (.int .i64) s9.2.1), (7, ptr b1 0), (11, ptr b13 0), (12, .one (.int .i64) s20.1)]) (fun (s20 : Int × List (Int)) _ => [Res.var b13 37 (.arr 32 (.int .u32)) s20.2, Res.var b1 37 (.arr 32 (.int .u32)) s9.2.2]) (escrowref01_Join_l1 s9 k15) (0, (List.replicate 32 0)) () h rfl rfl ?_
            clear h
            intro m21 s20 gg h
            cases m21 with
            | zero => cases h
            | succ m21 =>
            simp only [escrowref01_Join_l1] at h
            refine r_seq ?_
            refine r_seq ?_
            refine r_region ?_
            refine r_pure tabOk 2 [0, 1, 2, 7, 11, 12, 39] (E' := [(0, .one (.int .u32) o12), (1, .one (.int .u32) a1), (2, .one (.int .i64) s9.2.1), (7, ptr b1 0), (11, ptr b13 0), (12, .one (.int .i64) s20.1), (39, .one .bool (decide (s20.1 < 32)))]) rfl ?_
            refine r_nil ?_
            refine r_then ?_
            refine r_if (b := (decide (s20.1 < 32))) rfl (fun hc => ?_) (fun hc => ?_)
            · rw [if_pos hc] at h
              refine r_skip ?_
              refine r_then ?_
              refine r_seq ?_
              refine r_block ?_
              refine r_any (by kernel_rfl) ?_
              refine a_float (i := 0) (t := .one (.int .i64) s20.1) (blind_block (blind_then (blind_then (blind_block (blind_then (blind_block (blind_then (blind_then (blind_block (blind_then blind_body)))))))))) rfl (by kernel_rfl) (by kernel_rfl) (by kernel_rfl) (y_pure tabOk rfl) rfl ?_
              refine a_float (i := 2) (t := .one (.int .i64) s20.1) (blind_block (blind_then (blind_then (blind_block (blind_then (blind_block (blind_then (blind_then (blind_block (blind_then blind_body)))))))))) rfl (by kernel_rfl) (by kernel_rfl) (by kernel_rfl) (y_pure tabOk rfl) rfl ?_
              obtain ⟨hc, h⟩ := ite_ex h
              refine a_float (i := 3) (t := ptr b1 (0 + (Int.toNat s20.1) * 1)) (blind_block (blind_then (blind_then (blind_block (blind_then (blind_block (blind_then (blind_then (blind_block (blind_then blind_body)))))))))) rfl (by kernel_rfl) (by kernel_rfl) (by kernel_rfl) (y_ivar rfl rfl hc.1 hc.2 un37 ty22) rfl ?_
              refine a_two (i := 1) (j := 4) (by kernel_rfl) rfl rfl ?_ ?_
              · refine y (y_load 1 .here rfl rfl (by first | rfl | (simp only [Pth.off, T.size]; omega)) ok_here ty37) rfl ?_
                refine r_nil ?_
                refine r_then ?_
                refine r_less [0, 1, 2, 7, 11, 12, 42, 43, 45] rfl ?_
                refine a_one (i := 4) (by kernel_rfl) rfl ?_
                refine y (y_load 1 (.elem (Int.toNat s20.1) .here) rfl rfl (by first | rfl | (simp only [Pth.off, T.size]; omega)) (ok_elem (by omega) ok_here) ty22) rfl ?_
                refine r_nil ?_
                refine r_then ?_
                refine r_less [0, 1, 2, 7, 11, 12, 42, 43, 46] rfl ?_
                refine a_one (i := 5) (by kernel_rfl) rfl ?_
                obtain ⟨r22, hr22, h⟩ := bind_ex h
                refine r_calls (escrowref01_turned_ok s9.2.2 (List.getD s9.2.2 (Int.toNat s20.1) 0) _ hr22) (by kernel_rfl) rfl rfl ?_
                refine r_nil ?_
                refine r_then ?_
                refine r_less [0, 1, 2, 7, 11, 12, 42, 47] rfl ?_
                obtain ⟨hc, h⟩ := ite_ex h
                refine a_float (i := 6) (t := ptr b13 (0 + (Int.toNat s20.1) * 1)) (blind_block (blind_then (blind_then (blind_block (blind_then (blind_block (blind_then (blind_then (blind_block (blind_then blind_body)))))))))) rfl (by kernel_rfl) (by kernel_rfl) (by kernel_rfl) (y_ivar rfl rfl hc.1 hc.2 un37 ty22) rfl ?_
                refine a_one (i := 7) (by kernel_rfl) rfl ?_
                refine r_store 0 (.elem (Int.toNat s20.1) .here) rfl rfl rfl (by first | rfl | (simp only [Pth.off, T.size]; omega)) (ok_elem (by omega) ok_here) ty22 ?_
                refine r_nil ?_
                refine r_then ?_
                refine r_less [0, 1, 2, 7, 11, 12] rfl ?_
                refine a_end (by kernel_rfl) ?_
                refine r_inblock ?_
                refine r_then ?_
                refine r_region ?_
                refine r_pure tabOk 3 [0, 1, 2, 7, 11, 12] (E' := [(0, .one (.int .u32) o12), (1, .one (.int .u32) a1), (2, .one (.int .i64) s9.2.1), (7, ptr b1 0), (11, ptr b13 0), (12, .one (.int .i64) (IntKind.wrap .i64 (s20.1 + 1)))]) rfl ?_
                obtain ⟨i23, hi23, h⟩ := bnd_ex h
                rw [hi23]
                refine r_nil ?_
                refine r_then ?_
                refine r_less [0, 1, 2, 7, 11, 12] rfl ?_
                exact r_backg (i23, (List.set s20.2 (Int.toNat s20.1) r22)) () (Nat.lt_succ_self _) h rfl rfl
              · refine y (y_load 1 (.elem (Int.toNat s20.1) .here) rfl rfl (by first | rfl | (simp only [Pth.off, T.size]; omega)) (ok_elem (by omega) ok_here) ty22) rfl ?_
                refine r_nil ?_
                refine r_then ?_
                refine r_less [0, 1, 2, 7, 11, 12, 42, 46] rfl ?_
                refine a_one (i := 1) (by kernel_rfl) rfl ?_
                refine y (y_load 1 .here rfl rfl (by first | rfl | (simp only [Pth.off, T.size]; omega)) ok_here ty37) rfl ?_
                refine r_nil ?_
                refine r_then ?_
                refine r_less [0, 1, 2, 7, 11, 12, 42, 43, 46] rfl ?_
                refine a_one (i := 5) (by kernel_rfl) rfl ?_
                obtain ⟨r22, hr22, h⟩ := bind_ex h
                refine r_calls (escrowref01_turned_ok s9.2.2 (List.getD s9.2.2 (Int.toNat s20.1) 0) _ hr22) (by kernel_rfl) rfl rfl ?_
                refine r_nil ?_
                refine r_then ?_
                refine r_less [0, 1, 2, 7, 11, 12, 42, 47] rfl ?_
                obtain ⟨hc, h⟩ := ite_ex h
                refine a_float (i := 6) (t := ptr b13 (0 + (Int.toNat s20.1) * 1)) (blind_block (blind_then (blind_then (blind_block (blind_then (blind_block (blind_then (blind_then (blind_block (blind_then blind_body)))))))))) rfl (by kernel_rfl) (by kernel_rfl) (by kernel_rfl) (y_ivar rfl rfl hc.1 hc.2 un37 ty22) rfl ?_
                refine a_one (i := 7) (by kernel_rfl) rfl ?_
                refine r_store 0 (.elem (Int.toNat s20.1) .here) rfl rfl rfl (by first | rfl | (simp only [Pth.off, T.size]; omega)) (ok_elem (by omega) ok_here) ty22 ?_
                refine r_nil ?_
                refine r_then ?_
                refine r_less [0, 1, 2, 7, 11, 12] rfl ?_
                refine a_end (by kernel_rfl) ?_
                refine r_inblock ?_
                refine r_then ?_
                refine r_region ?_
                refine r_pure tabOk 3 [0, 1, 2, 7, 11, 12] (E' := [(0, .one (.int .u32) o12), (1, .one (.int .u32) a1), (2, .one (.int .i64) s9.2.1), (7, ptr b1 0), (11, ptr b13 0), (12, .one (.int .i64) (IntKind.wrap .i64 (s20.1 + 1)))]) rfl ?_
                obtain ⟨i23, hi23, h⟩ := bnd_ex h
                rw [hi23]
                refine r_nil ?_
                refine r_then ?_
                refine r_less [0, 1, 2, 7, 11, 12] rfl ?_
                exact r_backg (i23, (List.set s20.2 (Int.toNat s20.1) r22)) () (Nat.lt_succ_self _) h rfl rfl
            · rw [if_neg (ne_true_of_eq_false hc)] at h
              refine r_exit ?_
              refine e_then ?_
              refine e_then ?_
              refine e_eq ?_
              refine r_then ?_
              refine r_less [0, 1, 2, 7, 11] rfl ?_
              exact r_meetk s20.2 () h rfl rfl
          · intro o16 gg h
            rw [← hk15] at h
            refine r_region ?_
            refine y (y_load 0 .here rfl rfl (by first | rfl | (simp only [Pth.off, T.size]; omega)) ok_here ty37) rfl ?_
            refine r_store 1 .here rfl rfl rfl (by first | rfl | (simp only [Pth.off, T.size]; omega)) ok_here ty37 ?_
            refine r_nil ?_
            refine r_inblock ?_
            refine r_then ?_
            refine r_region ?_
            refine r_pure tabOk 3 [0, 1, 2, 7] (E' := [(0, .one (.int .u32) o12), (1, .one (.int .u32) a1), (2, .one (.int .i64) (IntKind.wrap .i64 (Int.tdiv s9.2.1 2))), (7, ptr b1 0)]) rfl ?_
            obtain ⟨n17, hn17, h⟩ := bnd_ex h
            rw [hn17]
            refine r_nil ?_
            refine r_then ?_
            refine r_less [0, 1, 2, 7] rfl ?_
            refine r_lose (L' := [Res.var b1 37 (.arr 32 (.int .u32)) o16]) (.cons _ (.cons_cons _ .slnil)) ?_
            exact r_backg (o12, n17, o16) () (Nat.lt_succ_self _) h rfl rfl
      · rw [if_neg (ne_true_of_eq_false hc)] at h
        refine r_exit ?_
        refine e_then ?_
        refine e_then ?_
        refine e_eq ?_
        refine r_then ?_
        refine r_less [0, 1] rfl ?_
        exact r_meetk (s9.1, s9.2.2) () h rfl rfl
    · intro o6 gg h
      rw [← hk5] at h
      refine r_seq ?_
      refine r_region ?_
      refine r_pure tabOk 4 [6] (E' := [(6, .one (.int .u32) (ixor .u32 o6.1 a1))]) rfl ?_
      refine r_nil ?_
      refine r_then ?_
      refine r_ret ?_
      obtain rfl := Option.some.inj h
      exact r_ret1 rfl (.tmp rfl) (fun _ _ g => g) (fun _ _ _ => List.nil_sublist _)

theorem escrowlaw01_CrcJoins_ok (a0 : Int) (a1 : Int) (a2 : Int) (r : Bool) (h : escrowlaw01_CrcJoins a0 a1 a2 = some r) : Pure Try.prog 4 [.one (.int .u32) a0, .one (.int .u32) a1, .one (.int .i64) a2] (.one .bool r) := by
  unfold escrowlaw01_CrcJoins at h
  refine enter Try.func4 rfl 21 rfl rfl fun F => ?_
  refine r_seq ?_
  refine r_region ?_
  refine r_pure tabOk 1 [0, 1, 2] (E' := [(0, .one (.int .u32) a0), (1, .one (.int .u32) a1), (2, .one (.int .i64) a2)]) rfl ?_
  refine r_nil ?_
  refine r_then ?_
  refine r_seq ?_
  refine r_region ?_
  refine r_pure tabOk 3 [0, 1, 2, 8, 9, 10] (E' := [(0, .one (.int .u32) a0), (1, .one (.int .u32) a1), (2, .one (.int .i64) a2), (8, .one (.int .u32) a0), (9, .one (.int .u32) a1), (10, .one (.int .i64) a2)]) rfl ?_
  obtain ⟨r1, hr1, h⟩ := bind_ex h
  refine r_calls (crc_Join_ok a0 a1 a2 _ hr1) (by kernel_rfl) rfl rfl ?_
  refine r_pure tabOk 1 [0, 1, 2, 7] (E' := [(0, .one (.int .u32) a0), (1, .one (.int .u32) a1), (2, .one (.int .i64) a2), (7, .one (.int .u32) r1)]) rfl ?_
  refine r_nil ?_
  refine r_then ?_
  refine r_seq ?_
  refine r_region ?_
  obtain ⟨r2, hr2, h⟩ := bind_ex h
  refine r_calls (escrowlaw01_first_ok  _ hr2) (by kernel_rfl) rfl rfl ?_
  refine r_pure tabOk 1 [0, 1, 2, 7, 13] (E' := [(0, .one (.int .u32) a0), (1, .one (.int .u32) a1), (2, .one (.int .i64) a2), (7, .one (.int .u32) r1), (13, .one .bool r2)]) rfl ?_
  obtain ⟨k4, hk4, h⟩ := bnd_ex h
  refine r_lsplitk (γ := Unit) 7 (fun (o5 : Bool) _ => [(20, .one .bool o5)]) (fun _ _ => []) k4 r ?_ ?_
  · rcases Bool.eq_false_or_eq_true r2 with hh | hh
    · rw [hh] at h ⊢
      rw [if_pos rfl] at h
      refine r_pure tabOk 4 [13, 14, 15, 16, 17] (E' := [(13, .one .bool true), (14, .one (.int .u32) r1), (15, .one (.int .u32) a0), (16, .one (.int .u32) a1), (17, .one (.int .i64) a2)]) rfl ?_
      refine r_guard (by rfl) rfl ?_
      obtain ⟨r6, hr6, h⟩ := bind_ex h
      refine r_calls (escrowref01_Join_ok a0 a1 a2 _ hr6) (by kernel_rfl) rfl rfl ?_
      refine r_pure tabOk 2 [20] (E' := [(20, .one .bool (r1 == r6))]) rfl ?_
      refine r_nil ?_
      refine r_less [20] rfl ?_
      refine r_then ?_
      exact r_meetk (r1 == r6) () h rfl rfl
    · rw [hh] at h ⊢
      rw [if_neg (by decide)] at h
      refine r_pure tabOk 7 [20] (E' := [(20, .one .bool false)]) rfl ?_
      refine r_nil ?_
      refine r_less [20] rfl ?_
      refine r_then ?_
      exact r_meetk false () h rfl rfl
  · intro o5 _ h
    rw [← hk4] at h
    refine r_pure tabOk 1 [6] (E' := [(6, .one .bool o5)]) rfl ?_
    refine r_nil ?_
    refine r_then ?_
    refine r_ret ?_
    obtain rfl := Option.some.inj h
    exact r_ret1 rfl (.tmp rfl) (fun _ _ g => g) (fun _ _ _ => List.nil_sublist _)

theorem escrowlaw01_CrcParts_ok (a0 : List Int) (a1 : List Int) (a2 : List Int) (r : Bool) (h : escrowlaw01_CrcParts a0 a1 a2 = some r) : Pure Try.prog 5 [.one .str a0, .one .str a1, .one .str a2] (.one .bool r) := by
  unfold escrowlaw01_CrcParts at h
  refine enter Try.func5 rfl 86 rfl rfl fun F => ?_
  refine r_seq ?_
  refine r_region ?_
  refine r_pure tabOk 1 [0, 1, 2] (E' := [(0, .one .str a0), (1, .one .str a1), (2, .one .str a2)]) rfl ?_
  refine r_nil ?_
  refine r_then ?_
  refine r_seq ?_
  refine r_seq ?_
  refine r_region ?_
  obtain ⟨r1, hr1, h⟩ := bind_ex h
  refine r_calls (escrowlaw01_first_ok  _ hr1) (by kernel_rfl) rfl rfl ?_
  refine r_pure tabOk 1 [0, 1, 2, 14] (E' := [(0, .one .str a0), (1, .one .str a1), (2, .one .str a2), (14, .one .bool (!r1))]) rfl ?_
  refine r_nil ?_
  refine r_then ?_
  refine r_if (b := (!r1)) rfl (fun hc => ?_) (fun hc => ?_)
  · rw [if_pos hc] at h
    refine r_seq ?_
    refine r_region ?_
    refine r_pure tabOk 1 [6] (E' := [(6, .one .bool false)]) rfl ?_
    refine r_nil ?_
    refine r_then ?_
    refine r_ret ?_
    refine t_then ?_
    obtain rfl := Option.some.inj h
    exact r_ret1 rfl (.tmp rfl) (fun _ _ g => g) (fun _ _ _ => List.nil_sublist _)
  · rw [if_neg (ne_true_of_eq_false hc)] at h
    refine r_skip ?_
    refine r_then ?_
    refine r_seq ?_
    refine r_region ?_
    refine r_pure tabOk 2 [0, 1, 2, 15, 16] (E' := [(0, .one .str a0), (1, .one .str a1), (2, .one .str a2), (15, .one .str a0), (16, .one .str a1)]) rfl ?_
    obtain ⟨hc, h⟩ := ite_ex h
    refine y (y_cat rfl rfl hc) rfl ?_
    refine r_pure tabOk 1 [0, 1, 2, 17, 18] (E' := [(0, .one .str a0), (1, .one .str a1), (2, .one .str a2), (17, .one .str (a0 ++ a1)), (18, .one .str a2)]) rfl ?_
    obtain ⟨hc, h⟩ := ite_ex h
    refine y (y_cat rfl rfl hc) rfl ?_
    obtain ⟨r2, hr2, h⟩ := bind_ex h
    refine r_calls (crc_Sum_ok ((a0 ++ a1) ++ a2) _ hr2) (by kernel_rfl) rfl rfl ?_
    refine r_pure tabOk 1 [0, 1, 2, 7] (E' := [(0, .one .str a0), (1, .one .str a1), (2, .one .str a2), (7, .one (.int .u32) r2)]) rfl ?_
    refine r_nil ?_
    refine r_then ?_
    refine r_seq ?_
    refine r_region ?_
    refine r_pure tabOk 1 [1, 2, 7, 21] (E' := [(1, .one .str a1), (2, .one .str a2), (7, .one (.int .u32) r2), (21, .one .str a0)]) rfl ?_
    obtain ⟨r3, hr3, h⟩ := bind_ex h
    refine r_calls (crc_Sum_ok a0 _ hr3) (by kernel_rfl) rfl rfl ?_
    refine r_pure tabOk 1 [1, 2, 7, 8] (E' := [(1, .one .str a1), (2, .one .str a2), (7, .one (.int .u32) r2), (8, .one (.int .u32) r3)]) rfl ?_
    refine r_nil ?_
    refine r_then ?_
    refine r_seq ?_
    refine r_region ?_
    refine r_pure tabOk 1 [1, 2, 7, 8, 23] (E' := [(1, .one .str a1), (2, .one .str a2), (7, .one (.int .u32) r2), (8, .one (.int .u32) r3), (23, .one .str a1)]) rfl ?_
    obtain ⟨r4, hr4, h⟩ := bind_ex h
    refine r_calls (crc_Sum_ok a1 _ hr4) (by kernel_rfl) rfl rfl ?_
    refine r_pure tabOk 1 [1, 2, 7, 8, 9] (E' := [(1, .one .str a1), (2, .one .str a2), (7, .one (.int .u32) r2), (8, .one (.int .u32) r3), (9, .one (.int .u32) r4)]) rfl ?_
    refine r_nil ?_
    refine r_then ?_
    refine r_seq ?_
    refine r_region ?_
    refine r_pure tabOk 1 [1, 2, 7, 8, 9, 25] (E' := [(1, .one .str a1), (2, .one .str a2), (7, .one (.int .u32) r2), (8, .one (.int .u32) r3), (9, .one (.int .u32) r4), (25, .one .str a2)]) rfl ?_
    obtain ⟨r5, hr5, h⟩ := bind_ex h
    refine r_calls (crc_Sum_ok a2 _ hr5) (by kernel_rfl) rfl rfl ?_
    refine r_pure tabOk 1 [1, 2, 7, 8, 9, 10] (E' := [(1, .one .str a1), (2, .one .str a2), (7, .one (.int .u32) r2), (8, .one (.int .u32) r3), (9, .one (.int .u32) r4), (10, .one (.int .u32) r5)]) rfl ?_
    refine r_nil ?_
    refine r_then ?_
    refine r_seq ?_
    refine r_region ?_
    refine r_pure tabOk 4 [1, 2, 7, 8, 9, 10, 27, 28, 30] (E' := [(1, .one .str a1), (2, .one .str a2), (7, .one (.int .u32) r2), (8, .one (.int .u32) r3), (9, .one (.int .u32) r4), (10, .one (.int .u32) r5), (27, .one (.int .u32) r3), (28, .one (.int .u32) r4), (30, .one (.int .i64) (List.length a1 : Int))]) rfl ?_
    obtain ⟨r6, hr6, h⟩ := bind_ex h
    refine r_calls (crc_Join_ok r3 r4 (List.length a1 : Int) _ hr6) (by kernel_rfl) rfl rfl ?_
    refine r_pure tabOk 3 [1, 2, 7, 8, 9, 10, 31, 32, 34] (E' := [(1, .one .str a1), (2, .one .str a2), (7, .one (.int .u32) r2), (8, .one (.int .u32) r3), (9, .one (.int .u32) r4), (10, .one (.int .u32) r5), (31, .one (.int .u32) r6), (32, .one (.int .u32) r5), (34, .one (.int .i64) (List.length a2 : Int))]) rfl ?_
    obtain ⟨r7, hr7, h⟩ := bind_ex h
    refine r_calls (crc_Join_ok r6 r5 (List.length a2 : Int) _ hr7) (by kernel_rfl) rfl rfl ?_
    refine r_pure tabOk 1 [1, 2, 7, 8, 9, 10, 11] (E' := [(1, .one .str a1), (2, .one .str a2), (7, .one (.int .u32) r2), (8, .one (.int .u32) r3), (9, .one (.int .u32) r4), (10, .one (.int .u32) r5), (11, .one (.int .u32) r7)]) rfl ?_
    refine r_nil ?_
    refine r_then ?_
    refine r_seq ?_
    refine r_region ?_
    refine r_pure tabOk 5 [1, 2, 7, 8, 11, 36, 37, 38, 40] (E' := [(1, .one .str a1), (2, .one .str a2), (7, .one (.int .u32) r2), (8, .one (.int .u32) r3), (11, .one (.int .u32) r7), (36, .one (.int .u32) r3), (37, .one (.int .u32) r4), (38, .one (.int .u32) r5), (40, .one (.int .i64) (List.length a2 : Int))]) rfl ?_
    obtain ⟨r8, hr8, h⟩ := bind_ex h
    refine r_calls (crc_Join_ok r4 r5 (List.length a2 : Int) _ hr8) (by kernel_rfl) rfl rfl ?_
    refine r_pure tabOk 5 [1, 2, 7, 8, 11, 36, 41, 46] (E' := [(1, .one .str a1), (2, .one .str a2), (7, .one (.int .u32) r2), (8, .one (.int .u32) r3), (11, .one (.int .u32) r7), (36, .one (.int .u32) r3), (41, .one (.int .u32) r8), (46, .one (.int .i64) (IntKind.wrap .i64 ((List.length a1 : Int) + (List.length a2 : Int))))]) rfl ?_
    obtain ⟨r9, hr9, h⟩ := bind_ex h
    refine r_calls (crc_Join_ok r3 r8 (IntKind.wrap .i64 ((List.length a1 : Int) + (List.length a2 : Int))) _ hr9) (by kernel_rfl) rfl rfl ?_
    refine r_pure tabOk 1 [1, 2, 7, 8, 11, 12] (E' := [(1, .one .str a1), (2, .one .str a2), (7, .one (.int .u32) r2), (8, .one (.int .u32) r3), (11, .one (.int .u32) r7), (12, .one (.int .u32) r9)]) rfl ?_
    refine r_nil ?_
    refine r_then ?_
    refine r_seq ?_
    refine r_region ?_
    refine r_pure tabOk 2 [1, 2, 7, 8, 11, 12, 48, 49] (E' := [(1, .one .str a1), (2, .one .str a2), (7, .one (.int .u32) r2), (8, .one (.int .u32) r3), (11, .one (.int .u32) r7), (12, .one (.int .u32) r9), (48, .one (.int .u32) r3), (49, .one .str a1)]) rfl ?_
    obtain ⟨r10, hr10, h⟩ := bind_ex h
    refine r_calls (crc_On_ok r3 a1 _ hr10) (by kernel_rfl) rfl rfl ?_
    refine r_pure tabOk 1 [1, 2, 7, 8, 11, 12, 50, 51] (E' := [(1, .one .str a1), (2, .one .str a2), (7, .one (.int .u32) r2), (8, .one (.int .u32) r3), (11, .one (.int .u32) r7), (12, .one (.int .u32) r9), (50, .one (.int .u32) r10), (51, .one .str a2)]) rfl ?_
    obtain ⟨r11, hr11, h⟩ := bind_ex h
    refine r_calls (crc_On_ok r10 a2 _ hr11) (by kernel_rfl) rfl rfl ?_
    refine r_pure tabOk 3 [1, 2, 7, 8, 11, 12, 55] (E' := [(1, .one .str a1), (2, .one .str a2), (7, .one (.int .u32) r2), (8, .one (.int .u32) r3), (11, .one (.int .u32) r7), (12, .one (.int .u32) r9), (55, .one .bool (r11 == r2))]) rfl ?_
    obtain ⟨b12, hbb12, h⟩ := bnd_ex h
    rw [hbb12]
    obtain ⟨k13, hk13, h⟩ := bnd_ex h
    refine r_lsplitk (γ := Unit) 8 (fun (o14 : Bool) _ => [(7, .one (.int .u32) r2), (8, .one (.int .u32) r3), (11, .one (.int .u32) r7), (12, .one (.int .u32) r9), (63, .one .bool o14)]) (fun _ _ => []) k13 r ?_ ?_
    · rcases Bool.eq_false_or_eq_true b12 with hh | hh
      · rw [hh] at h ⊢
        rw [if_pos rfl] at h
        refine r_pure tabOk 3 [7, 8, 11, 12, 55, 56, 57, 58] (E' := [(7, .one (.int .u32) r2), (8, .one (.int .u32) r3), (11, .one (.int .u32) r7), (12, .one (.int .u32) r9), (55, .one .bool true), (56, .one (.int .u32) r3), (57, .one .str a1), (58, .one .str a2)]) rfl ?_
        refine r_guard (by rfl) rfl ?_
        obtain ⟨hc, h⟩ := ite_ex h
        refine y (y_cat rfl rfl hc) rfl ?_
        refine r_guard (by rfl) rfl ?_
        obtain ⟨r15, hr15, h⟩ := bind_ex h
        refine r_calls (crc_On_ok r3 (a1 ++ a2) _ hr15) (by kernel_rfl) rfl rfl ?_
        refine r_pure tabOk 3 [7, 8, 11, 12, 63] (E' := [(7, .one (.int .u32) r2), (8, .one (.int .u32) r3), (11, .one (.int .u32) r7), (12, .one (.int .u32) r9), (63, .one .bool (r15 == r2))]) rfl ?_
        refine r_nil ?_
        refine r_less [7, 8, 11, 12, 63] rfl ?_
        refine r_then ?_
        exact r_meetk (r15 == r2) () h rfl rfl
      · rw [hh] at h ⊢
        rw [if_neg (by decide)] at h
        refine r_pure tabOk 8 [7, 8, 11, 12, 63] (E' := [(7, .one (.int .u32) r2), (8, .one (.int .u32) r3), (11, .one (.int .u32) r7), (12, .one (.int .u32) r9), (63, .one .bool false)]) rfl ?_
        refine r_nil ?_
        refine r_less [7, 8, 11, 12, 63] rfl ?_
        refine r_then ?_
        exact r_meetk false () h rfl rfl
    · intro o14 _ h
      rw [← hk13] at h
      refine r_pure tabOk 1 [7, 8, 11, 12, 64] (E' := [(7, .one (.int .u32) r2), (8, .one (.int .u32) r3), (11, .one (.int .u32) r7), (12, .one (.int .u32) r9), (64, .one .bool o14)]) rfl ?_
      refine r_lsplit (γ := Unit) 4 (fun _ => [(7, .one (.int .u32) r2), (8, .one (.int .u32) r3), (12, .one (.int .u32) r9), (68, .one .bool (o14 && (r7 == r2)))]) (fun _ => []) ?_ (fun _ => ?_)
      · clear h
        rcases Bool.eq_false_or_eq_true o14 with hh | hh
        · rw [hh]
          refine r_pure tabOk 4 [7, 8, 12, 68] (E' := [(7, .one (.int .u32) r2), (8, .one (.int .u32) r3), (12, .one (.int .u32) r9), (68, .one .bool (r7 == r2))]) rfl ?_
          refine r_nil ?_
          refine r_then ?_
          exact r_meetg () rfl rfl
        · rw [hh]
          refine r_pure tabOk 4 [7, 8, 12, 68] (E' := [(7, .one (.int .u32) r2), (8, .one (.int .u32) r3), (12, .one (.int .u32) r9), (68, .one .bool false)]) rfl ?_
          refine r_nil ?_
          refine r_then ?_
          exact r_meetg () rfl rfl
      refine r_pure tabOk 1 [7, 8, 12, 69] (E' := [(7, .one (.int .u32) r2), (8, .one (.int .u32) r3), (12, .one (.int .u32) r9), (69, .one .bool (o14 && (r7 == r2)))]) rfl ?_
      obtain ⟨b17, hbb17, h⟩ := bnd_ex h
      rw [hbb17]
      refine r_lsplit (γ := Unit) 4 (fun _ => [(8, .one (.int .u32) r3), (73, .one .bool (b17 && (r9 == r2)))]) (fun _ => []) ?_ (fun _ => ?_)
      · clear h
        cases b17 with
        | true =>
        refine r_pure tabOk 4 [8, 73] (E' := [(8, .one (.int .u32) r3), (73, .one .bool (r9 == r2))]) rfl ?_
        refine r_nil ?_
        refine r_then ?_
        exact r_meetg () rfl rfl
        | false =>
        refine r_pure tabOk 4 [8, 73] (E' := [(8, .one (.int .u32) r3), (73, .one .bool false)]) rfl ?_
        refine r_nil ?_
        refine r_then ?_
        exact r_meetg () rfl rfl
      refine r_pure tabOk 1 [8, 74] (E' := [(8, .one (.int .u32) r3), (74, .one .bool (b17 && (r9 == r2)))]) rfl ?_
      obtain ⟨b18, hbb18, h⟩ := bnd_ex h
      rw [hbb18]
      obtain ⟨k19, hk19, h⟩ := bnd_ex h
      refine r_lsplitk (γ := Unit) 5 (fun (o20 : Bool) _ => [(8, .one (.int .u32) r3), (79, .one .bool o20)]) (fun _ _ => []) k19 r ?_ ?_
      · rcases Bool.eq_false_or_eq_true b18 with hh | hh
        · rw [hh] at h ⊢
          rw [if_pos rfl] at h
          refine r_pure tabOk 1 [8, 74, 75] (E' := [(8, .one (.int .u32) r3), (74, .one .bool true), (75, .one (.int .u32) r3)]) rfl ?_
          refine r_guard (by rfl) rfl ?_
          obtain ⟨r21, hr21, h⟩ := bind_ex h
          refine r_calls (crc_On_ok r3 [] _ hr21) (by kernel_rfl) rfl rfl ?_
          refine r_pure tabOk 3 [8, 79] (E' := [(8, .one (.int .u32) r3), (79, .one .bool (r21 == r3))]) rfl ?_
          refine r_nil ?_
          refine r_less [8, 79] rfl ?_
          refine r_then ?_
          exact r_meetk (r21 == r3) () h rfl rfl
        · rw [hh] at h ⊢
          rw [if_neg (by decide)] at h
          refine r_pure tabOk 5 [8, 79] (E' := [(8, .one (.int .u32) r3), (79, .one .bool false)]) rfl ?_
          refine r_nil ?_
          refine r_less [8, 79] rfl ?_
          refine r_then ?_
          exact r_meetk false () h rfl rfl
      · intro o20 _ h
        rw [← hk19] at h
        refine r_pure tabOk 1 [8, 80] (E' := [(8, .one (.int .u32) r3), (80, .one .bool o20)]) rfl ?_
        obtain ⟨k23, hk23, h⟩ := bnd_ex h
        refine r_lsplitk (γ := Unit) 5 (fun (o24 : Bool) _ => [(85, .one .bool o24)]) (fun _ _ => []) k23 r ?_ ?_
        · rcases Bool.eq_false_or_eq_true o20 with hh | hh
          · rw [hh] at h ⊢
            rw [if_pos rfl] at h
            refine r_pure tabOk 1 [8, 80, 81] (E' := [(8, .one (.int .u32) r3), (80, .one .bool true), (81, .one (.int .u32) r3)]) rfl ?_
            refine r_guard (by rfl) rfl ?_
            obtain ⟨r25, hr25, h⟩ := bind_ex h
            refine r_calls (crc_Join_ok r3 0 0 _ hr25) (by kernel_rfl) rfl rfl ?_
            refine r_pure tabOk 3 [85] (E' := [(85, .one .bool (r25 == r3))]) rfl ?_
            refine r_nil ?_
            refine r_less [85] rfl ?_
            refine r_then ?_
            exact r_meetk (r25 == r3) () h rfl rfl
          · rw [hh] at h ⊢
            rw [if_neg (by decide)] at h
            refine r_pure tabOk 5 [85] (E' := [(85, .one .bool false)]) rfl ?_
            refine r_nil ?_
            refine r_less [85] rfl ?_
            refine r_then ?_
            exact r_meetk false () h rfl rfl
        · intro o24 _ h
          rw [← hk23] at h
          refine r_pure tabOk 1 [6] (E' := [(6, .one .bool o24)]) rfl ?_
          refine r_nil ?_
          refine r_then ?_
          refine r_ret ?_
          obtain rfl := Option.some.inj h
          exact r_ret1 rfl (.tmp rfl) (fun _ _ g => g) (fun _ _ _ => List.nil_sublist _)

theorem escrowlaw01_CrcTells_ok (a0 : List Int) (a1 : Int) (a2 : Int) (r : Bool) (h : escrowlaw01_CrcTells a0 a1 a2 = some r) : Pure Try.prog 6 [.one .str a0, .one (.int .i64) a1, .one (.int .u32) a2] (.one .bool r) := by
  unfold escrowlaw01_CrcTells at h
  refine enter Try.func6 rfl 68 rfl rfl fun F => ?_
  refine r_seq ?_
  refine r_region ?_
  refine r_pure tabOk 1 [0, 1, 2] (E' := [(0, .one .str a0), (1, .one (.int .i64) a1), (2, .one (.int .u32) a2)]) rfl ?_
  refine r_nil ?_
  refine r_then ?_
  refine r_seq ?_
  refine r_seq ?_
  refine r_region ?_
  obtain ⟨r1, hr1, h⟩ := bind_ex h
  refine r_calls (escrowlaw01_first_ok  _ hr1) (by kernel_rfl) rfl rfl ?_
  refine r_pure tabOk 1 [0, 1, 2, 12] (E' := [(0, .one .str a0), (1, .one (.int .i64) a1), (2, .one (.int .u32) a2), (12, .one .bool (!r1))]) rfl ?_
  refine r_nil ?_
  refine r_then ?_
  refine r_if (b := (!r1)) rfl (fun hc => ?_) (fun hc => ?_)
  · rw [if_pos hc] at h
    refine r_seq ?_
    refine r_region ?_
    refine r_pure tabOk 1 [6] (E' := [(6, .one .bool false)]) rfl ?_
    refine r_nil ?_
    refine r_then ?_
    refine r_ret ?_
    refine t_then ?_
    obtain rfl := Option.some.inj h
    exact r_ret1 rfl (.tmp rfl) (fun _ _ g => g) (fun _ _ _ => List.nil_sublist _)
  · rw [if_neg (ne_true_of_eq_false hc)] at h
    refine r_skip ?_
    refine r_then ?_
    refine r_seq ?_
    refine r_seq ?_
    refine r_region ?_
    refine r_pure tabOk 2 [0, 1, 2, 14] (E' := [(0, .one .str a0), (1, .one (.int .i64) a1), (2, .one (.int .u32) a2), (14, .one .bool (a0 == []))]) rfl ?_
    refine r_nil ?_
    refine r_then ?_
    refine r_if (b := (a0 == [])) rfl (fun hc => ?_) (fun hc => ?_)
    · rw [if_pos hc] at h
      refine r_seq ?_
      refine r_region ?_
      refine r_pure tabOk 1 [6] (E' := [(6, .one .bool true)]) rfl ?_
      refine r_nil ?_
      refine r_then ?_
      refine r_ret ?_
      refine t_then ?_
      obtain rfl := Option.some.inj h
      exact r_ret1 rfl (.tmp rfl) (fun _ _ g => g) (fun _ _ _ => List.nil_sublist _)
    · rw [if_neg (ne_true_of_eq_false hc)] at h
      refine r_skip ?_
      refine r_then ?_
      refine r_seq ?_
      refine r_region ?_
      refine r_pure tabOk 5 [0, 2, 16, 19] (E' := [(0, .one .str a0), (2, .one (.int .u32) a2), (16, .one (.int .u64) (IntKind.wrap .u64 a1)), (19, .one (.int .u64) (IntKind.wrap .u64 (List.length a0 : Int)))]) rfl ?_
      obtain ⟨hc, h⟩ := ite_ex h
      refine y (y_rem rfl rfl hc) rfl ?_
      refine r_pure tabOk 1 [0, 2, 21] (E' := [(0, .one .str a0), (2, .one (.int .u32) a2), (21, .one (.int .i64) (IntKind.wrap .i64 (Int.tmod (IntKind.wrap .u64 a1) (IntKind.wrap .u64 (List.length a0 : Int)))))]) rfl ?_
      obtain ⟨t2, ht2, h⟩ := bnd_ex h
      rw [ht2]
      refine r_pure tabOk 1 [0, 1, 2] (E' := [(0, .one .str a0), (1, .one (.int .i64) t2), (2, .one (.int .u32) a2)]) rfl ?_
      refine r_nil ?_
      refine r_then ?_
      refine r_seq ?_
      refine r_region ?_
      refine r_pure tabOk 1 [0, 1, 2, 7] (E' := [(0, .one .str a0), (1, .one (.int .i64) t2), (2, .one (.int .u32) a2), (7, .one (.raw (.slice none 0 0)) (.slice none 0 0))]) rfl ?_
      refine r_nilown (.slice none 0 0) rfl 5 (.int .u8) ?_
      refine r_nil ?_
      refine r_then ?_
      refine r_seq ?_
      refine r_region ?_
      refine r_pure tabOk 2 [0, 1, 2, 22, 23] (E' := [(0, .one .str a0), (1, .one (.int .i64) t2), (2, .one (.int .u32) a2), (22, .one (.raw (.slice none 0 0)) (.slice none 0 0)), (23, .one .str a0)]) rfl ?_
      obtain ⟨hc, h⟩ := ite_ex h
      refine r_append (B := 1) tabOk 0 rfl rfl (src_str rfl) rfl el5 rfl rfl hc rfl fun v4 => ?_
      refine r_pure tabOk 1 [0, 1, 2, 7] (E' := [(0, .one .str a0), (1, .one (.int .i64) t2), (2, .one (.int .u32) a2), (7, .one (.raw (.slice none 0 0)) v4)]) rfl ?_
      refine r_nil ?_
      refine r_then ?_
      refine r_seq ?_
      refine r_region ?_
      refine r_pure tabOk 1 [0, 1, 2, 7, 8] (E' := [(0, .one .str a0), (1, .one (.int .i64) t2), (2, .one (.int .u32) a2), (7, .one (.raw (.slice none 0 0)) v4), (8, .one .bool false)]) rfl ?_
      refine r_nil ?_
      refine r_then ?_
      obtain ⟨k5, hk5, h⟩ := bnd_ex h
      refine r_joink (γ := Value) (fun (o6 : Bool × List (Int)) g7 => [(0, .one .str a0), (7, .one (.raw (.slice none 0 0)) g7), (8, .one .bool o6.1)]) (fun (o6 : Bool × List (Int)) g7 => [Res.own g7 5 (.int .u8) o6.2]) k5 r ?_ ?_
      · refine r_seq ?_
        refine r_region ?_
        refine r_pure tabOk 1 [0, 1, 2, 7, 8, 9] (E' := [(0, .one .str a0), (1, .one (.int .i64) t2), (2, .one (.int .u32) a2), (7, .one (.raw (.slice none 0 0)) v4), (8, .one .bool false), (9, .one (.int .i64) 0)]) rfl ?_
        refine r_nil ?_
        refine r_then ?_
        refine r_block ?_
        refine r_less [0, 1, 2, 7, 8, 9] rfl ?_
        refine r_loopg (γ := Value) (fun (s13 : Bool × Int × List (Int)) g14 => [(0, .one .str a0), (1, .one (.int .i64) t2), (2, .one (.int .u32) a2), (7, .one (.raw (.slice none 0 0)) g14), (8, .one .bool s13.1), (9, .one (.int .i64) s13.2.1)]) (fun (s13 : Bool × Int × List (Int)) g14 => [Res.own g14 5 (.int .u8) s13.2.2]) (escrowlaw01_CrcTells_l0 a2 t2 k5) (false, 0, ([] ++ a0)) v4 h rfl rfl ?_
        clear h
        intro m15 s13 g14 h
        cases m15 with
        | zero => cases h
        | succ m15 =>
        simp only [escrowlaw01_CrcTells_l0] at h
        refine r_seq ?_
        refine r_seq ?_
        refine r_region ?_
        refine r_pure tabOk 3 [0, 1, 2, 7, 8, 9, 27] (E' := [(0, .one .str a0), (1, .one (.int .i64) t2), (2, .one (.int .u32) a2), (7, .one (.raw (.slice none 0 0)) g14), (8, .one .bool s13.1), (9, .one (.int .i64) s13.2.1), (27, .one .bool (decide (s13.2.1 < 4)))]) rfl ?_
        obtain ⟨b16, hbb16, h⟩ := bnd_ex h
        rw [hbb16]
        refine r_lsplit (γ := Unit) 7 (fun _ => [(0, .one .str a0), (1, .one (.int .i64) t2), (2, .one (.int .u32) a2), (7, .one (.raw (.slice none 0 0)) g14), (8, .one .bool s13.1), (9, .one (.int .i64) s13.2.1), (34, .one .bool (b16 && (decide ((IntKind.wrap .i64 (t2 + s13.2.1)) < (List.length s13.2.2 : Int)))))]) (fun _ => [Res.own g14 5 (.int .u8) s13.2.2]) ?_ (fun _ => ?_)
        · clear h
          cases b16 with
          | true =>
          refine r_pure tabOk 4 [0, 1, 2, 7, 8, 9, 27, 30, 31] (E' := [(0, .one .str a0), (1, .one (.int .i64) t2), (2, .one (.int .u32) a2), (7, .one (.raw (.slice none 0 0)) g14), (8, .one .bool s13.1), (9, .one (.int .i64) s13.2.1), (27, .one .bool true), (30, .one (.int .i64) (IntKind.wrap .i64 (t2 + s13.2.1))), (31, .one (.raw (.slice none 0 0)) g14)]) rfl ?_
          refine r_guard (by rfl) rfl ?_
          refine y (y_lenown tabOk 0 rfl rfl rfl) rfl ?_
          refine r_pure tabOk 2 [0, 1, 2, 7, 8, 9, 34] (E' := [(0, .one .str a0), (1, .one (.int .i64) t2), (2, .one (.int .u32) a2), (7, .one (.raw (.slice none 0 0)) g14), (8, .one .bool s13.1), (9, .one (.int .i64) s13.2.1), (34, .one .bool (decide ((IntKind.wrap .i64 (t2 + s13.2.1)) < (List.length s13.2.2 : Int))))]) rfl ?_
          refine r_nil ?_
          refine r_then ?_
          exact r_meetg () rfl rfl
          | false =>
          refine r_pure tabOk 7 [0, 1, 2, 7, 8, 9, 34] (E' := [(0, .one .str a0), (1, .one (.int .i64) t2), (2, .one (.int .u32) a2), (7, .one (.raw (.slice none 0 0)) g14), (8, .one .bool s13.1), (9, .one (.int .i64) s13.2.1), (34, .one .bool false)]) rfl ?_
          refine r_nil ?_
          refine r_then ?_
          exact r_meetg () rfl rfl
        refine r_nil ?_
        refine r_then ?_
        refine r_if (b := (b16 && (decide ((IntKind.wrap .i64 (t2 + s13.2.1)) < (List.length s13.2.2 : Int))))) rfl (fun hc => ?_) (fun hc => ?_)
        · rw [if_pos hc] at h
          refine r_skip ?_
          refine r_then ?_
          refine r_seq ?_
          refine r_block ?_
          refine r_seq ?_
          refine r_region ?_
          refine r_pure tabOk 3 [0, 1, 2, 7, 8, 9, 37, 39] (E' := [(0, .one .str a0), (1, .one (.int .i64) t2), (2, .one (.int .u32) a2), (7, .one (.raw (.slice none 0 0)) g14), (8, .one .bool s13.1), (9, .one (.int .i64) s13.2.1), (37, .one (.int .u32) a2), (39, .one (.int .i64) (IntKind.wrap .i64 (8 * s13.2.1)))]) rfl ?_
          obtain ⟨hc, h⟩ := ite_ex h
          refine y (y_shr rfl rfl hc) rfl ?_
          refine r_pure tabOk 2 [0, 1, 2, 7, 8, 9, 10] (E' := [(0, .one .str a0), (1, .one (.int .i64) t2), (2, .one (.int .u32) a2), (7, .one (.raw (.slice none 0 0)) g14), (8, .one .bool s13.1), (9, .one (.int .i64) s13.2.1), (10, .one (.int .u8) (IntKind.wrap .u8 (ishr .u32 a2 (IntKind.wrap .i64 (8 * s13.2.1)))))]) rfl ?_
          obtain ⟨x17, hx17, h⟩ := bnd_ex h
          rw [hx17]
          refine r_nil ?_
          refine r_then ?_
          refine r_seq ?_
          refine r_region ?_
          refine r_pure tabOk 8 [0, 1, 2, 7, 8, 9, 10, 42, 45, 46, 49] (E' := [(0, .one .str a0), (1, .one (.int .i64) t2), (2, .one (.int .u32) a2), (7, .one (.raw (.slice none 0 0)) g14), (8, .one .bool s13.1), (9, .one (.int .i64) s13.2.1), (10, .one (.int .u8) x17), (42, .one (.raw (.slice none 0 0)) g14), (45, .one (.int .i64) (IntKind.wrap .i64 (t2 + s13.2.1))), (46, .one (.raw (.slice none 0 0)) g14), (49, .one (.int .i64) (IntKind.wrap .i64 (t2 + s13.2.1)))]) rfl ?_
          obtain ⟨hc, h⟩ := ite_ex h
          refine r_expose 0 rfl (by omega) fun b18 c19 hv => ?_
          rw [hv]
          try clear hv
          refine y (y_iraw tabOk rfl rfl hc.1 (by simpa using hc.2) rfl ty5) rfl ?_
          refine y (y_lown 0 (Int.toNat (IntKind.wrap .i64 (t2 + s13.2.1))) .here rfl rfl (by omega) (by first | rfl | (simp only [Pth.off, T.size]; omega)) ok_here ty5) rfl ?_
          refine r_pure tabOk 2 [0, 1, 2, 7, 8, 9, 10, 42, 45, 53] (E' := [(0, .one .str a0), (1, .one (.int .i64) t2), (2, .one (.int .u32) a2), (7, .one (.raw (.slice none 0 0)) (.slice (some ⟨b18, 0, none⟩) (List.length s13.2.2) c19)), (8, .one .bool s13.1), (9, .one (.int .i64) s13.2.1), (10, .one (.int .u8) x17), (42, .one (.raw (.slice none 0 0)) (.slice (some ⟨b18, 0, none⟩) (List.length s13.2.2) c19)), (45, .one (.int .i64) (IntKind.wrap .i64 (t2 + s13.2.1))), (53, .one (.int .u8) (ixor .u8 (List.getD s13.2.2 (Int.toNat (IntKind.wrap .i64 (t2 + s13.2.1))) 0) x17))]) rfl ?_
          obtain ⟨hc, h⟩ := ite_ex h
          refine y (y_iraw tabOk rfl rfl hc.1 (by simpa using hc.2) rfl ty5) rfl ?_
          refine r_sown 0 (Int.toNat (IntKind.wrap .i64 (t2 + s13.2.1))) .here rfl rfl rfl (by omega) (by first | rfl | (simp only [Pth.off, T.size]; omega)) ok_here ty5 ?_
          refine r_nil ?_
          refine r_then ?_
          refine r_region ?_
          refine r_pure tabOk 2 [0, 1, 2, 7, 9, 10, 56] (E' := [(0, .one .str a0), (1, .one (.int .i64) t2), (2, .one (.int .u32) a2), (7, .one (.raw (.slice none 0 0)) (.slice (some ⟨b18, 0, none⟩) (List.length s13.2.2) c19)), (9, .one (.int .i64) s13.2.1), (10, .one (.int .u8) x17), (56, .one .bool s13.1)]) rfl ?_
          refine r_lsplit (γ := Unit) 3 (fun _ => [(0, .one .str a0), (1, .one (.int .i64) t2), (2, .one (.int .u32) a2), (7, .one (.raw (.slice none 0 0)) (.slice (some ⟨b18, 0, none⟩) (List.length s13.2.2) c19)), (9, .one (.int .i64) s13.2.1), (59, .one .bool (s13.1 || (x17 != 0)))]) (fun _ => [Res.own (.slice (some ⟨b18, 0, none⟩) (List.length s13.2.2) c19) 5 (.int .u8) (List.set s13.2.2 (Int.toNat (IntKind.wrap .i64 (t2 + s13.2.1))) (ixor .u8 (List.getD s13.2.2 (Int.toNat (IntKind.wrap .i64 (t2 + s13.2.1))) 0) x17))]) ?_ (fun _ => ?_)
          · clear h
            rcases Bool.eq_false_or_eq_true s13.1 with hh | hh
            · rw [hh]
              refine r_pure tabOk 3 [0, 1, 2, 7, 9, 59] (E' := [(0, .one .str a0), (1, .one (.int .i64) t2), (2, .one (.int .u32) a2), (7, .one (.raw (.slice none 0 0)) (.slice (some ⟨b18, 0, none⟩) (List.length s13.2.2) c19)), (9, .one (.int .i64) s13.2.1), (59, .one .bool true)]) rfl ?_
              refine r_nil ?_
              refine r_then ?_
              exact r_meetg () rfl rfl
            · rw [hh]
              refine r_pure tabOk 3 [0, 1, 2, 7, 9, 59] (E' := [(0, .one .str a0), (1, .one (.int .i64) t2), (2, .one (.int .u32) a2), (7, .one (.raw (.slice none 0 0)) (.slice (some ⟨b18, 0, none⟩) (List.length s13.2.2) c19)), (9, .one (.int .i64) s13.2.1), (59, .one .bool (x17 != 0))]) rfl ?_
              refine r_nil ?_
              refine r_then ?_
              exact r_meetg () rfl rfl
          refine r_pure tabOk 1 [0, 1, 2, 7, 8, 9] (E' := [(0, .one .str a0), (1, .one (.int .i64) t2), (2, .one (.int .u32) a2), (7, .one (.raw (.slice none 0 0)) (.slice (some ⟨b18, 0, none⟩) (List.length s13.2.2) c19)), (8, .one .bool (s13.1 || (x17 != 0))), (9, .one (.int .i64) s13.2.1)]) rfl ?_
          obtain ⟨changed23, hchanged23, h⟩ := bnd_ex h
          rw [hchanged23]
          refine r_nil ?_
          refine r_inblock ?_
          refine r_then ?_
          refine r_region ?_
          refine r_pure tabOk 3 [0, 1, 2, 7, 8, 9] (E' := [(0, .one .str a0), (1, .one (.int .i64) t2), (2, .one (.int .u32) a2), (7, .one (.raw (.slice none 0 0)) (.slice (some ⟨b18, 0, none⟩) (List.length s13.2.2) c19)), (8, .one .bool changed23), (9, .one (.int .i64) (IntKind.wrap .i64 (s13.2.1 + 1)))]) rfl ?_
          obtain ⟨k24, hk24, h⟩ := bnd_ex h
          rw [hk24]
          refine r_nil ?_
          refine r_then ?_
          refine r_less [0, 1, 2, 7, 8, 9] rfl ?_
          exact r_backg (changed23, k24, (List.set s13.2.2 (Int.toNat (IntKind.wrap .i64 (t2 + s13.2.1))) (ixor .u8 (List.getD s13.2.2 (Int.toNat (IntKind.wrap .i64 (t2 + s13.2.1))) 0) x17))) (.slice (some ⟨b18, 0, none⟩) (List.length s13.2.2) c19) (Nat.lt_succ_self _) h rfl rfl
        · rw [if_neg (ne_true_of_eq_false hc)] at h
          refine r_exit ?_
          refine e_then ?_
          refine e_then ?_
          refine e_eq ?_
          refine r_then ?_
          refine r_less [0, 7, 8] rfl ?_
          exact r_meetk (s13.1, s13.2.2) g14 h rfl rfl
      · intro o6 g7 h
        rw [← hk5] at h
        refine r_seq ?_
        refine r_region ?_
        refine r_pure tabOk 1 [0, 8, 60] (E' := [(0, .one .str a0), (8, .one .bool o6.1), (60, .one (.raw (.slice none 0 0)) g7)]) rfl ?_
        refine y (y_text tabOk 0 rfl rfl rfl rfl rfl) rfl ?_
        obtain ⟨r8, hr8, h⟩ := bind_ex h
        refine r_calls (crc_Sum_ok o6.2 _ hr8) (by kernel_rfl) rfl rfl ?_
        refine r_pure tabOk 1 [8, 62, 63] (E' := [(8, .one .bool o6.1), (62, .one (.int .u32) r8), (63, .one .str a0)]) rfl ?_
        obtain ⟨r9, hr9, h⟩ := bind_ex h
        refine r_calls (crc_Sum_ok a0 _ hr9) (by kernel_rfl) rfl rfl ?_
        refine r_pure tabOk 2 [65, 66] (E' := [(65, .one .bool (r8 != r9)), (66, .one .bool o6.1)]) rfl ?_
        refine y (y_beq rfl rfl Try.underlying4) rfl ?_
        refine r_pure tabOk 1 [6] (E' := [(6, .one .bool ((r8 != r9) == o6.1))]) rfl ?_
        refine r_nil ?_
        refine r_then ?_
        refine r_ret ?_
        obtain rfl := Option.some.inj h
        exact r_ret1 rfl (.tmp rfl) (fun _ _ g => g) (fun _ _ _ => List.nil_sublist _)

theorem escrowlaw01_CrcLinear_ok (a0 : List Int) (a1 : List Int) (a2 : List Int) (r : Bool) (h : escrowlaw01_CrcLinear a0 a1 a2 = some r) : Pure Try.prog 7 [.one .str a0, .one .str a1, .one .str a2] (.one .bool r) := by
  unfold escrowlaw01_CrcLinear at h
  refine enter Try.func7 rfl 63 rfl rfl fun F => ?_
  refine r_seq ?_
  refine r_region ?_
  refine r_pure tabOk 1 [0, 1, 2] (E' := [(0, .one .str a0), (1, .one .str a1), (2, .one .str a2)]) rfl ?_
  refine r_nil ?_
  refine r_then ?_
  refine r_seq ?_
  refine r_seq ?_
  refine r_region ?_
  obtain ⟨r1, hr1, h⟩ := bind_ex h
  refine r_calls (escrowlaw01_first_ok  _ hr1) (by kernel_rfl) rfl rfl ?_
  refine r_pure tabOk 1 [0, 1, 2, 11] (E' := [(0, .one .str a0), (1, .one .str a1), (2, .one .str a2), (11, .one .bool (!r1))]) rfl ?_
  refine r_nil ?_
  refine r_then ?_
  refine r_if (b := (!r1)) rfl (fun hc => ?_) (fun hc => ?_)
  · rw [if_pos hc] at h
    refine r_seq ?_
    refine r_region ?_
    refine r_pure tabOk 1 [6] (E' := [(6, .one .bool false)]) rfl ?_
    refine r_nil ?_
    refine r_then ?_
    refine r_ret ?_
    refine t_then ?_
    obtain rfl := Option.some.inj h
    exact r_ret1 rfl (.tmp rfl) (fun _ _ g => g) (fun _ _ _ => List.nil_sublist _)
  · rw [if_neg (ne_true_of_eq_false hc)] at h
    refine r_skip ?_
    refine r_then ?_
    refine r_seq ?_
    refine r_region ?_
    refine r_pure tabOk 3 [0, 1, 2, 7] (E' := [(0, .one .str a0), (1, .one .str a1), (2, .one .str a2), (7, .one (.int .i64) (List.length a0 : Int))]) rfl ?_
    obtain ⟨n2, hn2, h⟩ := bnd_ex h
    rw [hn2]
    refine r_nil ?_
    refine r_then ?_
    obtain ⟨k3, hk3, h⟩ := bnd_ex h
    refine r_joink (γ := Unit) (fun (o4 : Int) _ => [(0, .one .str a0), (1, .one .str a1), (2, .one .str a2), (7, .one (.int .i64) o4)]) (fun (o4 : Int) _ => []) k3 r ?_ ?_
    · refine r_seq ?_
      refine r_region ?_
      refine r_pure tabOk 4 [0, 1, 2, 7, 17] (E' := [(0, .one .str a0), (1, .one .str a1), (2, .one .str a2), (7, .one (.int .i64) n2), (17, .one .bool (decide ((List.length a1 : Int) < n2)))]) rfl ?_
      refine r_nil ?_
      refine r_then ?_
      refine r_if (b := (decide ((List.length a1 : Int) < n2))) rfl (fun hc => ?_) (fun hc => ?_)
      · rw [if_pos hc] at h
        refine r_region ?_
        refine r_pure tabOk 3 [0, 1, 2, 7] (E' := [(0, .one .str a0), (1, .one .str a1), (2, .one .str a2), (7, .one (.int .i64) (List.length a1 : Int))]) rfl ?_
        obtain ⟨n26, hn26, h⟩ := bnd_ex h
        rw [hn26]
        refine r_nil ?_
        refine r_then ?_
        refine r_less [0, 1, 2, 7] rfl ?_
        exact r_meetk n26 () h rfl rfl
      · rw [if_neg (ne_true_of_eq_false hc)] at h
        refine r_skip ?_
        refine r_then ?_
        refine r_less [0, 1, 2, 7] rfl ?_
        exact r_meetk n2 () h rfl rfl
    · intro o4 gg h
      rw [← hk3] at h
      obtain ⟨k5, hk5, h⟩ := bnd_ex h
      refine r_joink (γ := Unit) (fun (o6 : Int) _ => [(0, .one .str a0), (1, .one .str a1), (2, .one .str a2), (7, .one (.int .i64) o6)]) (fun (o6 : Int) _ => []) k5 r ?_ ?_
      · refine r_seq ?_
        refine r_region ?_
        refine r_pure tabOk 4 [0, 1, 2, 7, 23] (E' := [(0, .one .str a0), (1, .one .str a1), (2, .one .str a2), (7, .one (.int .i64) o4), (23, .one .bool (decide ((List.length a2 : Int) < o4)))]) rfl ?_
        refine r_nil ?_
        refine r_then ?_
        refine r_if (b := (decide ((List.length a2 : Int) < o4))) rfl (fun hc => ?_) (fun hc => ?_)
        · rw [if_pos hc] at h
          refine r_region ?_
          refine r_pure tabOk 3 [0, 1, 2, 7] (E' := [(0, .one .str a0), (1, .one .str a1), (2, .one .str a2), (7, .one (.int .i64) (List.length a2 : Int))]) rfl ?_
          obtain ⟨n25, hn25, h⟩ := bnd_ex h
          rw [hn25]
          refine r_nil ?_
          refine r_then ?_
          refine r_less [0, 1, 2, 7] rfl ?_
          exact r_meetk n25 () h rfl rfl
        · rw [if_neg (ne_true_of_eq_false hc)] at h
          refine r_skip ?_
          refine r_then ?_
          refine r_less [0, 1, 2, 7] rfl ?_
          exact r_meetk o4 () h rfl rfl
      · intro o6 gg h
        rw [← hk5] at h
        refine r_seq ?_
        refine r_region ?_
        refine r_pure tabOk 1 [0, 1, 2, 7, 8] (E' := [(0, .one .str a0), (1, .one .str a1), (2, .one .str a2), (7, .one (.int .i64) o6), (8, .one (.raw (.slice none 0 0)) (.slice none 0 0))]) rfl ?_
        refine r_nilown (.slice none 0 0) rfl 5 (.int .u8) ?_
        refine r_nil ?_
        refine r_then ?_
        obtain ⟨k8, hk8, h⟩ := bnd_ex h
        refine r_joink (γ := Value) (fun (o9 : List (Int)) g10 => [(0, .one .str a0), (1, .one .str a1), (2, .one .str a2), (7, .one (.int .i64) o6), (8, .one (.raw (.slice none 0 0)) g10)]) (fun (o9 : List (Int)) g10 => [Res.own g10 5 (.int .u8) o9]) k8 r ?_ ?_
        · refine r_seq ?_
          refine r_region ?_
          refine r_pure tabOk 1 [0, 1, 2, 7, 8, 9] (E' := [(0, .one .str a0), (1, .one .str a1), (2, .one .str a2), (7, .one (.int .i64) o6), (8, .one (.raw (.slice none 0 0)) (.slice none 0 0)), (9, .one (.int .i64) 0)]) rfl ?_
          refine r_nil ?_
          refine r_then ?_
          refine r_block ?_
          refine r_less [0, 1, 2, 7, 8, 9] rfl ?_
          refine r_loopg (γ := Value) (fun (s18 : Int × List (Int)) g19 => [(0, .one .str a0), (1, .one .str a1), (2, .one .str a2), (7, .one (.int .i64) o6), (8, .one (.raw (.slice none 0 0)) g19), (9, .one (.int .i64) s18.1)]) (fun (s18 : Int × List (Int)) g19 => [Res.own g19 5 (.int .u8) s18.2]) (escrowlaw01_CrcLinear_l0 a0 a1 a2 o6 k8) (0, []) (.slice none 0 0) h rfl rfl ?_
          clear h
          intro m20 s18 g19 h
          cases m20 with
          | zero => cases h
          | succ m20 =>
          simp only [escrowlaw01_CrcLinear_l0] at h
          refine r_seq ?_
          refine r_seq ?_
          refine r_region ?_
          refine r_pure tabOk 3 [0, 1, 2, 7, 8, 9, 28] (E' := [(0, .one .str a0), (1, .one .str a1), (2, .one .str a2), (7, .one (.int .i64) o6), (8, .one (.raw (.slice none 0 0)) g19), (9, .one (.int .i64) s18.1), (28, .one .bool (decide (s18.1 < o6)))]) rfl ?_
          refine r_nil ?_
          refine r_then ?_
          refine r_if (b := (decide (s18.1 < o6))) rfl (fun hc => ?_) (fun hc => ?_)
          · rw [if_pos hc] at h
            refine r_skip ?_
            refine r_then ?_
            refine r_seq ?_
            refine r_block ?_
            refine r_any (by kernel_rfl) ?_
            refine a_float (i := 0) (t := .one (.raw (.slice none 0 0)) g19) (blind_block (blind_then (blind_then (blind_block (blind_then blind_body))))) rfl (by kernel_rfl) (by kernel_rfl) (by kernel_rfl) (y_pure tabOk rfl) rfl ?_
            refine a_float (i := 1) (t := .one .str a0) (blind_block (blind_then (blind_then (blind_block (blind_then blind_body))))) rfl (by kernel_rfl) (by kernel_rfl) (by kernel_rfl) (y_pure tabOk rfl) rfl ?_
            refine a_float (i := 2) (t := .one (.int .i64) s18.1) (blind_block (blind_then (blind_then (blind_block (blind_then blind_body))))) rfl (by kernel_rfl) (by kernel_rfl) (by kernel_rfl) (y_pure tabOk rfl) rfl ?_
            obtain ⟨hc, h⟩ := ite_ex h
            refine a_float (i := 3) (t := .one (.int .u8) (List.getD a0 (Int.toNat s18.1) 0)) (blind_block (blind_then (blind_then (blind_block (blind_then blind_body))))) rfl (by kernel_rfl) (by kernel_rfl) (by kernel_rfl) (y_byte tabOk rfl rfl hc.1 hc.2 rfl) rfl ?_
            refine a_float (i := 4) (t := .one .str a1) (blind_block (blind_then (blind_then (blind_block (blind_then blind_body))))) rfl (by kernel_rfl) (by kernel_rfl) (by kernel_rfl) (y_pure tabOk rfl) rfl ?_
            refine a_float (i := 5) (t := .one (.int .i64) s18.1) (blind_block (blind_then (blind_then (blind_block (blind_then blind_body))))) rfl (by kernel_rfl) (by kernel_rfl) (by kernel_rfl) (y_pure tabOk rfl) rfl ?_
            obtain ⟨hc, h⟩ := ite_ex h
            refine a_float (i := 6) (t := .one (.int .u8) (List.getD a1 (Int.toNat s18.1) 0)) (blind_block (blind_then (blind_then (blind_block (blind_then blind_body))))) rfl (by kernel_rfl) (by kernel_rfl) (by kernel_rfl) (y_byte tabOk rfl rfl hc.1 hc.2 rfl) rfl ?_
            refine a_float (i := 7) (t := .one (.int .u8) (ixor .u8 (List.getD a0 (Int.toNat s18.1) 0) (List.getD a1 (Int.toNat s18.1) 0))) (blind_block (blind_then (blind_then (blind_block (blind_then blind_body))))) rfl (by kernel_rfl) (by kernel_rfl) (by kernel_rfl) (y_pure tabOk rfl) rfl ?_
            refine a_float (i := 8) (t := .one .str a2) (blind_block (blind_then (blind_then (blind_block (blind_then blind_body))))) rfl (by kernel_rfl) (by kernel_rfl) (by kernel_rfl) (y_pure tabOk rfl) rfl ?_
            refine a_float (i := 9) (t := .one (.int .i64) s18.1) (blind_block (blind_then (blind_then (blind_block (blind_then blind_body))))) rfl (by kernel_rfl) (by kernel_rfl) (by kernel_rfl) (y_pure tabOk rfl) rfl ?_
            obtain ⟨hc, h⟩ := ite_ex h
            refine a_float (i := 10) (t := .one (.int .u8) (List.getD a2 (Int.toNat s18.1) 0)) (blind_block (blind_then (blind_then (blind_block (blind_then blind_body))))) rfl (by kernel_rfl) (by kernel_rfl) (by kernel_rfl) (y_byte tabOk rfl rfl hc.1 hc.2 rfl) rfl ?_
            refine a_float (i := 11) (t := .one (.int .u8) (ixor .u8 (ixor .u8 (List.getD a0 (Int.toNat s18.1) 0) (List.getD a1 (Int.toNat s18.1) 0)) (List.getD a2 (Int.toNat s18.1) 0))) (blind_block (blind_then (blind_then (blind_block (blind_then blind_body))))) rfl (by kernel_rfl) (by kernel_rfl) (by kernel_rfl) (y_pure tabOk rfl) rfl ?_
            refine a_one (i := 12) (by kernel_rfl) rfl ?_
            refine r_lits (B := 1) tabOk rfl el5 rfl rfl rfl (.cons rfl .nil) rfl fun v21 => ?_
            refine r_nil ?_
            refine r_then ?_
            refine r_less [0, 1, 2, 7, 8, 9, 31, 43] rfl ?_
            refine a_one (i := 13) (by kernel_rfl) rfl ?_
            obtain ⟨hc, h⟩ := ite_ex h
            refine r_append (B := 1) tabOk 1 rfl rfl (src_own 0 rfl rfl) rfl el5 rfl rfl hc rfl fun v23 => ?_
            refine r_lose (L' := [Res.own v23 5 (.int .u8) (s18.2 ++ [(ixor .u8 (ixor .u8 (List.getD a0 (Int.toNat s18.1) 0) (List.getD a1 (Int.toNat s18.1) 0)) (List.getD a2 (Int.toNat s18.1) 0))])]) (.cons _ (.cons_cons _ .slnil)) ?_
            refine r_nil ?_
            refine r_then ?_
            refine r_less [0, 1, 2, 7, 9, 44] rfl ?_
            refine a_float (i := 14) (t := .one (.raw (.slice none 0 0)) v23) (blind_block (blind_then (blind_then (blind_block (blind_then blind_body))))) rfl (by kernel_rfl) (by kernel_rfl) (by kernel_rfl) (y_pure tabOk rfl) rfl ?_
            refine a_end (by kernel_rfl) ?_
            refine r_inblock ?_
            refine r_then ?_
            refine r_region ?_
            refine r_pure tabOk 3 [0, 1, 2, 7, 8, 9] (E' := [(0, .one .str a0), (1, .one .str a1), (2, .one .str a2), (7, .one (.int .i64) o6), (8, .one (.raw (.slice none 0 0)) v23), (9, .one (.int .i64) (IntKind.wrap .i64 (s18.1 + 1)))]) rfl ?_
            obtain ⟨i24, hi24, h⟩ := bnd_ex h
            rw [hi24]
            refine r_nil ?_
            refine r_then ?_
            refine r_less [0, 1, 2, 7, 8, 9] rfl ?_
            exact r_backg (i24, (s18.2 ++ [(ixor .u8 (ixor .u8 (List.getD a0 (Int.toNat s18.1) 0) (List.getD a1 (Int.toNat s18.1) 0)) (List.getD a2 (Int.toNat s18.1) 0))])) v23 (Nat.lt_succ_self _) h rfl rfl
          · rw [if_neg (ne_true_of_eq_false hc)] at h
            refine r_exit ?_
            refine e_then ?_
            refine e_then ?_
            refine e_eq ?_
            refine r_then ?_
            refine r_less [0, 1, 2, 7, 8] rfl ?_
            exact r_meetk s18.2 g19 h rfl rfl
        · intro o9 g10 h
          rw [← hk8] at h
          refine r_seq ?_
          refine r_drawn (by kernel_rfl) (by kernel_rfl) ?_
          refine q_pure tabOk 2 [1, 2, 7, 8, 45, 46] (E' := [(1, .one .str a1), (2, .one .str a2), (7, .one (.int .i64) o6), (8, .one (.raw (.slice none 0 0)) g10), (45, .one .str a0), (46, .one (.int .i64) o6)]) rfl ?_
          obtain ⟨hc, h⟩ := ite_ex h
          refine q_y (y_sub (i := (0 : Int)) (j := o6) tabOk rfl rfl rfl hc.1 hc.2.1 hc.2.2 rfl) rfl ?_
          obtain ⟨r11, hr11, h⟩ := bind_ex h
          refine q_calls (crc_Sum_ok (List.drop 0 (List.take (Int.toNat o6) a0)) _ hr11) (by kernel_rfl) rfl rfl rfl ?_
          refine q_pure tabOk 2 [2, 7, 8, 48, 49, 50] (E' := [(2, .one .str a2), (7, .one (.int .i64) o6), (8, .one (.raw (.slice none 0 0)) g10), (48, .one (.int .u32) r11), (49, .one .str a1), (50, .one (.int .i64) o6)]) rfl ?_
          obtain ⟨hc, h⟩ := ite_ex h
          refine q_y (y_sub (i := (0 : Int)) (j := o6) tabOk rfl rfl rfl hc.1 hc.2.1 hc.2.2 rfl) rfl ?_
          obtain ⟨r12, hr12, h⟩ := bind_ex h
          refine q_calls (crc_Sum_ok (List.drop 0 (List.take (Int.toNat o6) a1)) _ hr12) (by kernel_rfl) rfl rfl rfl ?_
          refine q_pure tabOk 3 [8, 53, 54, 55] (E' := [(8, .one (.raw (.slice none 0 0)) g10), (53, .one (.int .u32) (ixor .u32 r11 r12)), (54, .one .str a2), (55, .one (.int .i64) o6)]) rfl ?_
          obtain ⟨hc, h⟩ := ite_ex h
          refine q_y (y_sub (i := (0 : Int)) (j := o6) tabOk rfl rfl rfl hc.1 hc.2.1 hc.2.2 rfl) rfl ?_
          obtain ⟨r13, hr13, h⟩ := bind_ex h
          refine q_calls (crc_Sum_ok (List.drop 0 (List.take (Int.toNat o6) a2)) _ hr13) (by kernel_rfl) rfl rfl rfl ?_
          refine q_pure tabOk 2 [58, 59] (E' := [(58, .one (.int .u32) (ixor .u32 (ixor .u32 r11 r12) r13)), (59, .one (.raw (.slice none 0 0)) g10)]) rfl ?_
          refine q_y (y_text tabOk 0 rfl rfl rfl rfl rfl) rfl ?_
          obtain ⟨r14, hr14, h⟩ := bind_ex h
          refine q_calls (crc_Sum_ok o9 _ hr14) (by kernel_rfl) rfl rfl rfl ?_
          refine q_pure tabOk 2 [6] (E' := [(6, .one .bool ((ixor .u32 (ixor .u32 r11 r12) r13) == r14))]) rfl ?_
          refine q_nil ?_
          refine r_then ?_
          refine r_ret ?_
          obtain rfl := Option.some.inj h
          exact r_ret1 rfl (.tmp rfl) (fun _ _ g => g) (fun _ _ _ => List.nil_sublist _)

theorem escrowlaw01_CrcFar_ok (a0 : Int) (a1 : Int) (a2 : Int) (r : Bool) (h : escrowlaw01_CrcFar a0 a1 a2 = some r) : Pure Try.prog 8 [.one (.int .u32) a0, .one (.int .i64) a1, .one (.int .i64) a2] (.one .bool r) := by
  unfold escrowlaw01_CrcFar at h
  refine enter Try.func8 rfl 44 rfl rfl fun F => ?_
  refine r_seq ?_
  refine r_region ?_
  refine r_pure tabOk 1 [0, 1, 2] (E' := [(0, .one (.int .u32) a0), (1, .one (.int .i64) a1), (2, .one (.int .i64) a2)]) rfl ?_
  refine r_nil ?_
  refine r_then ?_
  refine r_seq ?_
  refine r_seq ?_
  refine r_region ?_
  obtain ⟨r1, hr1, h⟩ := bind_ex h
  refine r_calls (escrowlaw01_first_ok  _ hr1) (by kernel_rfl) rfl rfl ?_
  refine r_pure tabOk 1 [0, 1, 2, 10] (E' := [(0, .one (.int .u32) a0), (1, .one (.int .i64) a1), (2, .one (.int .i64) a2), (10, .one .bool (!r1))]) rfl ?_
  refine r_nil ?_
  refine r_then ?_
  refine r_if (b := (!r1)) rfl (fun hc => ?_) (fun hc => ?_)
  · rw [if_pos hc] at h
    refine r_seq ?_
    refine r_region ?_
    refine r_pure tabOk 1 [6] (E' := [(6, .one .bool false)]) rfl ?_
    refine r_nil ?_
    refine r_then ?_
    refine r_ret ?_
    refine t_then ?_
    obtain rfl := Option.some.inj h
    exact r_ret1 rfl (.tmp rfl) (fun _ _ g => g) (fun _ _ _ => List.nil_sublist _)
  · rw [if_neg (ne_true_of_eq_false hc)] at h
    refine r_skip ?_
    refine r_then ?_
    refine r_seq ?_
    refine r_region ?_
    refine r_pure tabOk 3 [0, 1, 2] (E' := [(0, .one (.int .u32) a0), (1, .one (.int .i64) (iand .i64 a1 4611686018427387903)), (2, .one (.int .i64) a2)]) rfl ?_
    obtain ⟨n2, hn2, h⟩ := bnd_ex h
    rw [hn2]
    refine r_nil ?_
    refine r_then ?_
    refine r_seq ?_
    refine r_region ?_
    refine r_pure tabOk 3 [0, 1, 2] (E' := [(0, .one (.int .u32) a0), (1, .one (.int .i64) n2), (2, .one (.int .i64) (iand .i64 a2 4611686018427387903))]) rfl ?_
    obtain ⟨m3, hm3, h⟩ := bnd_ex h
    rw [hm3]
    refine r_nil ?_
    refine r_then ?_
    refine r_seq ?_
    refine r_region ?_
    refine r_pure tabOk 2 [0, 1, 2, 15, 16] (E' := [(0, .one (.int .u32) a0), (1, .one (.int .i64) n2), (2, .one (.int .i64) m3), (15, .one (.int .u32) a0), (16, .one (.int .i64) n2)]) rfl ?_
    obtain ⟨r4, hr4, h⟩ := bind_ex h
    refine r_calls (crc_Join_ok a0 0 n2 _ hr4) (by kernel_rfl) rfl rfl ?_
    refine r_pure tabOk 1 [0, 1, 2, 17, 18] (E' := [(0, .one (.int .u32) a0), (1, .one (.int .i64) n2), (2, .one (.int .i64) m3), (17, .one (.int .u32) r4), (18, .one (.int .i64) m3)]) rfl ?_
    obtain ⟨r5, hr5, h⟩ := bind_ex h
    refine r_calls (crc_Join_ok r4 0 m3 _ hr5) (by kernel_rfl) rfl rfl ?_
    refine r_pure tabOk 1 [0, 1, 2, 7] (E' := [(0, .one (.int .u32) a0), (1, .one (.int .i64) n2), (2, .one (.int .i64) m3), (7, .one (.int .u32) r5)]) rfl ?_
    refine r_nil ?_
    refine r_then ?_
    refine r_seq ?_
    refine r_region ?_
    refine r_pure tabOk 2 [0, 1, 2, 7, 20, 21] (E' := [(0, .one (.int .u32) a0), (1, .one (.int .i64) n2), (2, .one (.int .i64) m3), (7, .one (.int .u32) r5), (20, .one (.int .u32) a0), (21, .one (.int .i64) m3)]) rfl ?_
    obtain ⟨r6, hr6, h⟩ := bind_ex h
    refine r_calls (crc_Join_ok a0 0 m3 _ hr6) (by kernel_rfl) rfl rfl ?_
    refine r_pure tabOk 1 [0, 1, 2, 7, 22, 23] (E' := [(0, .one (.int .u32) a0), (1, .one (.int .i64) n2), (2, .one (.int .i64) m3), (7, .one (.int .u32) r5), (22, .one (.int .u32) r6), (23, .one (.int .i64) n2)]) rfl ?_
    obtain ⟨r7, hr7, h⟩ := bind_ex h
    refine r_calls (crc_Join_ok r6 0 n2 _ hr7) (by kernel_rfl) rfl rfl ?_
    refine r_pure tabOk 1 [0, 1, 2, 7, 8] (E' := [(0, .one (.int .u32) a0), (1, .one (.int .i64) n2), (2, .one (.int .i64) m3), (7, .one (.int .u32) r5), (8, .one (.int .u32) r7)]) rfl ?_
    refine r_nil ?_
    refine r_then ?_
    refine r_seq ?_
    refine r_region ?_
    refine r_pure tabOk 5 [0, 7, 8, 25, 26, 29] (E' := [(0, .one (.int .u32) a0), (7, .one (.int .u32) r5), (8, .one (.int .u32) r7), (25, .one (.int .u32) r5), (26, .one (.int .u32) a0), (29, .one (.int .i64) (IntKind.wrap .i64 (n2 + m3)))]) rfl ?_
    obtain ⟨r8, hr8, h⟩ := bind_ex h
    refine r_calls (crc_Join_ok a0 0 (IntKind.wrap .i64 (n2 + m3)) _ hr8) (by kernel_rfl) rfl rfl ?_
    refine r_pure tabOk 2 [0, 7, 8, 32] (E' := [(0, .one (.int .u32) a0), (7, .one (.int .u32) r5), (8, .one (.int .u32) r7), (32, .one .bool (r5 == r8))]) rfl ?_
    obtain ⟨b9, hbb9, h⟩ := bnd_ex h
    rw [hbb9]
    refine r_lsplit (γ := Unit) 4 (fun _ => [(0, .one (.int .u32) a0), (7, .one (.int .u32) r5), (36, .one .bool (b9 && (r5 == r7)))]) (fun _ => []) ?_ (fun _ => ?_)
    · clear h
      cases b9 with
      | true =>
      refine r_pure tabOk 4 [0, 7, 36] (E' := [(0, .one (.int .u32) a0), (7, .one (.int .u32) r5), (36, .one .bool (r5 == r7))]) rfl ?_
      refine r_nil ?_
      refine r_then ?_
      exact r_meetg () rfl rfl
      | false =>
      refine r_pure tabOk 4 [0, 7, 36] (E' := [(0, .one (.int .u32) a0), (7, .one (.int .u32) r5), (36, .one .bool false)]) rfl ?_
      refine r_nil ?_
      refine r_then ?_
      exact r_meetg () rfl rfl
    refine r_pure tabOk 1 [0, 7, 37] (E' := [(0, .one (.int .u32) a0), (7, .one (.int .u32) r5), (37, .one .bool (b9 && (r5 == r7)))]) rfl ?_
    obtain ⟨b10, hbb10, h⟩ := bnd_ex h
    rw [hbb10]
    refine r_lsplit (γ := Unit) 6 (fun _ => [(43, .one .bool (b10 && ((r5 == 0) == (a0 == 0))))]) (fun _ => []) ?_ (fun _ => ?_)
    · clear h
      cases b10 with
      | true =>
      refine r_pure tabOk 4 [37, 39, 41] (E' := [(37, .one .bool true), (39, .one .bool (r5 == 0)), (41, .one .bool (a0 == 0))]) rfl ?_
      refine r_guard (by rfl) rfl ?_
      refine y (y_beq rfl rfl Try.underlying4) rfl ?_
      refine r_pure tabOk 1 [43] (E' := [(43, .one .bool ((r5 == 0) == (a0 == 0)))]) rfl ?_
      refine r_nil ?_
      refine r_then ?_
      exact r_meetg () rfl rfl
      | false =>
      refine r_pure tabOk 6 [43] (E' := [(43, .one .bool false)]) rfl ?_
      refine r_nil ?_
      refine r_then ?_
      exact r_meetg () rfl rfl
    refine r_pure tabOk 1 [6] (E' := [(6, .one .bool (b10 && ((r5 == 0) == (a0 == 0))))]) rfl ?_
    refine r_nil ?_
    refine r_then ?_
    refine r_ret ?_
    obtain rfl := Option.some.inj h
    exact r_ret1 rfl (.tmp rfl) (fun _ _ g => g) (fun _ _ _ => List.nil_sublist _)
end Sx
