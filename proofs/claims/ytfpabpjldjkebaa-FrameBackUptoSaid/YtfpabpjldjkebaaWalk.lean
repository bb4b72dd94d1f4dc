/-
  Own work, printed by a program of the same hand. Each function of the code answers what its plain twin reckons.
-/
import Derived.Test.YtfpabpjldjkebaaProg
import Derived.Test.YtfpabpjldjkebaaDefs
import Derived.Test.YtfpabpjldjkebaaShelfP
import Derived.KernelRfl
namespace Sx
open Go Go.Proofs
set_option maxRecDepth 10000

theorem ty3 : tyChk Try.prog (.int .i64) 3 = true := by kernel_rfl
theorem ty5 : tyChk Try.prog (.int .u8) 5 = true := by kernel_rfl
theorem ty9 : tyChk Try.prog .str 9 = true := by kernel_rfl
theorem ty46 : tyChk Try.prog (.int .u32) 46 = true := by kernel_rfl
theorem ty53 : tyChk Try.prog (.arr 16 (.int .u32)) 53 = true := by kernel_rfl
theorem zf5 : (Try.prog.info? 5).bind (·.zero) = some (mk (.int .u8) (zc (.int .u8))) := by kernel_rfl
theorem zf53 : (Try.prog.info? 53).bind (·.zero) = some (mk (.arr 16 (.int .u32)) (zc (.arr 16 (.int .u32)))) := by kernel_rfl
theorem el3 : elemChk Try.prog (.int .i64) 3 8 = true := by kernel_rfl
theorem el5 : elemChk Try.prog (.int .u8) 5 1 = true := by kernel_rfl
theorem el9 : elemChk Try.prog .str 9 16 = true := by kernel_rfl
theorem un53 : Try.prog.underlying 53 = some (.array 16 46) := Try.underlying53
def tab : Tab := { ints := [(2, .i64), (3, .i64), (5, .u8), (39, .u64), (45, .u64), (46, .u32)], strs := [(9, ())], slices := [(30, 9), (36, 3), (41, 5)], arrs := [], offs := [] }
theorem tabOk : tab.chk Try.prog = true := by kernel_rfl

theorem frame_laid_ok (a0 : Int) (a1 : Int) (r : List Int) (h : frame_laid a0 a1 = some r) : Pure Try.prog 20 [.one (.int .u64) a0, .one (.int .i64) a1] (.one .str r) := by
  unfold frame_laid at h
  refine enter Try.func20 rfl 28 rfl rfl fun F => ?_
  refine r_seq ?_
  refine r_region ?_
  refine r_pure tabOk 1 [0, 1] (E' := [(0, .one (.int .u64) a0), (1, .one (.int .i64) a1)]) rfl ?_
  refine r_nil ?_
  refine r_then ?_
  refine r_seq ?_
  refine r_region ?_
  refine r_pure tabOk 1 [0, 1, 7] (E' := [(0, .one (.int .u64) a0), (1, .one (.int .i64) a1), (7, .one (.int .i64) a1)]) rfl ?_
  obtain ⟨hc, h⟩ := ite_ex h
  refine r_make (B := 1) tabOk rfl el5 rfl zf5 rfl rfl rfl hc.1 hc.2 rfl fun v1 => ?_
  refine r_pure tabOk 1 [0, 1, 5] (E' := [(0, .one (.int .u64) a0), (1, .one (.int .i64) a1), (5, .one (.raw (.slice none 0 0)) v1)]) rfl ?_
  refine r_nil ?_
  refine r_then ?_
  obtain ⟨k3, hk3, h⟩ := bnd_ex h
  refine r_joink (γ := Value) (fun (o4 : List (Int)) g5 => [(5, .one (.raw (.slice none 0 0)) g5)]) (fun (o4 : List (Int)) g5 => [Res.own g5 5 (.int .u8) o4]) k3 r ?_ ?_
  · refine r_seq ?_
    refine r_region ?_
    refine r_pure tabOk 1 [0, 1, 5, 9] (E' := [(0, .one (.int .u64) a0), (1, .one (.int .i64) a1), (5, .one (.raw (.slice none 0 0)) v1), (9, .one (.raw (.slice none 0 0)) v1)]) rfl ?_
    refine y (y_lenown tabOk 0 rfl rfl rfl) rfl ?_
    refine r_pure tabOk 1 [0, 1, 5, 10, 11] (E' := [(0, .one (.int .u64) a0), (1, .one (.int .i64) a1), (5, .one (.raw (.slice none 0 0)) v1), (10, .one (.int .i64) (List.length (List.replicate (Int.toNat a1) (0 : Int)) : Int)), (11, .one (.int .i64) 0)]) rfl ?_
    refine r_nil ?_
    refine r_then ?_
    refine r_block ?_
    refine r_less [0, 1, 5, 10, 11] rfl ?_
    refine r_loopg (γ := Value) (fun (s9 : Int × List (Int)) g10 => [(0, .one (.int .u64) a0), (1, .one (.int .i64) a1), (5, .one (.raw (.slice none 0 0)) g10), (10, .one (.int .i64) (List.length (List.replicate (Int.toNat a1) (0 : Int)) : Int)), (11, .one (.int .i64) s9.1)]) (fun (s9 : Int × List (Int)) g10 => [Res.own g10 5 (.int .u8) s9.2]) (frame_laid_l0 a0 a1 k3) (0, (List.replicate (Int.toNat a1) (0 : Int))) v1 h rfl rfl ?_
    clear h
    intro m11 s9 g10 h
    cases m11 with
    | zero => cases h
    | succ m11 =>
    simp only [frame_laid_l0] at h
    refine r_seq ?_
    refine r_region ?_
    refine r_pure tabOk 1 [0, 1, 5, 10, 11, 12] (E' := [(0, .one (.int .u64) a0), (1, .one (.int .i64) a1), (5, .one (.raw (.slice none 0 0)) g10), (10, .one (.int .i64) (List.length (List.replicate (Int.toNat a1) (0 : Int)) : Int)), (11, .one (.int .i64) s9.1), (12, .one .bool (decide (s9.1 < (List.length (List.replicate (Int.toNat a1) (0 : Int)) : Int))))]) rfl ?_
    refine r_nil ?_
    refine r_then ?_
    refine r_seq ?_
    refine r_if (b := (decide (s9.1 < (List.length (List.replicate (Int.toNat a1) (0 : Int)) : Int)))) rfl (fun hc => ?_) (fun hc => ?_)
    · rw [if_pos hc] at h
      refine r_skip ?_
      refine r_then ?_
      refine r_seq ?_
      refine r_block ?_
      refine r_seq ?_
      refine r_region ?_
      refine r_pure tabOk 2 [0, 1, 5, 6, 10, 11] (E' := [(0, .one (.int .u64) a0), (1, .one (.int .i64) a1), (5, .one (.raw (.slice none 0 0)) g10), (6, .one (.int .i64) s9.1), (10, .one (.int .i64) (List.length (List.replicate (Int.toNat a1) (0 : Int)) : Int)), (11, .one (.int .i64) s9.1)]) rfl ?_
      refine r_nil ?_
      refine r_then ?_
      refine r_region ?_
      refine r_pure tabOk 8 [0, 1, 5, 10, 11, 14, 15, 16, 21] (E' := [(0, .one (.int .u64) a0), (1, .one (.int .i64) a1), (5, .one (.raw (.slice none 0 0)) g10), (10, .one (.int .i64) (List.length (List.replicate (Int.toNat a1) (0 : Int)) : Int)), (11, .one (.int .i64) s9.1), (14, .one (.raw (.slice none 0 0)) g10), (15, .one (.int .i64) s9.1), (16, .one (.int .u64) a0), (21, .one (.int .i64) (IntKind.wrap .i64 (8 * (IntKind.wrap .i64 ((IntKind.wrap .i64 (a1 - 1)) - s9.1)))))]) rfl ?_
      obtain ⟨hc, h⟩ := ite_ex h
      refine y (y_shr rfl rfl hc) rfl ?_
      refine r_pure tabOk 1 [0, 1, 5, 10, 11, 14, 15, 23] (E' := [(0, .one (.int .u64) a0), (1, .one (.int .i64) a1), (5, .one (.raw (.slice none 0 0)) g10), (10, .one (.int .i64) (List.length (List.replicate (Int.toNat a1) (0 : Int)) : Int)), (11, .one (.int .i64) s9.1), (14, .one (.raw (.slice none 0 0)) g10), (15, .one (.int .i64) s9.1), (23, .one (.int .u8) (IntKind.wrap .u8 (ishr .u64 a0 (IntKind.wrap .i64 (8 * (IntKind.wrap .i64 ((IntKind.wrap .i64 (a1 - 1)) - s9.1)))))))]) rfl ?_
      obtain ⟨t12, ht12, h⟩ := bnd_ex h
      rw [ht12]
      obtain ⟨hc, h⟩ := ite_ex h
      refine r_expose 0 rfl (by omega) fun b13 c14 hv => ?_
      rw [hv]
      try clear hv
      refine y (y_iraw tabOk rfl rfl hc.1 (by simpa using hc.2) rfl ty5) rfl ?_
      refine r_sown 0 (Int.toNat s9.1) .here rfl rfl rfl (by omega) (by first | rfl | (simp only [Pth.off, T.size]; omega)) ok_here ty5 ?_
      refine r_nil ?_
      refine r_inblock ?_
      refine r_then ?_
      refine r_region ?_
      refine r_pure tabOk 2 [0, 1, 5, 10, 11] (E' := [(0, .one (.int .u64) a0), (1, .one (.int .i64) a1), (5, .one (.raw (.slice none 0 0)) (.slice (some ⟨b13, 0, none⟩) (List.length s9.2) c14)), (10, .one (.int .i64) (List.length (List.replicate (Int.toNat a1) (0 : Int)) : Int)), (11, .one (.int .i64) (IntKind.wrap .i64 (s9.1 + 1)))]) rfl ?_
      refine r_nil ?_
      refine r_then ?_
      refine r_less [0, 1, 5, 10, 11] rfl ?_
      exact r_backg ((IntKind.wrap .i64 (s9.1 + 1)), (List.set s9.2 (Int.toNat s9.1) t12)) (.slice (some ⟨b13, 0, none⟩) (List.length s9.2) c14) (Nat.lt_succ_self _) h rfl rfl
    · rw [if_neg (ne_true_of_eq_false hc)] at h
      refine r_exit ?_
      refine e_then ?_
      refine e_then ?_
      refine e_eq ?_
      refine r_then ?_
      refine r_less [5] rfl ?_
      exact r_meetk s9.2 g10 h rfl rfl
  · intro o4 g5 h
    rw [← hk3] at h
    try dsimp only at h
    refine r_seq ?_
    refine r_region ?_
    refine r_pure tabOk 1 [26] (E' := [(26, .one (.raw (.slice none 0 0)) g5)]) rfl ?_
    refine y (y_text tabOk 0 rfl rfl rfl rfl rfl) rfl ?_
    refine r_pure tabOk 1 [4] (E' := [(4, .one .str o4)]) rfl ?_
    refine r_nil ?_
    refine r_then ?_
    refine r_ret ?_
    obtain rfl := Option.some.inj h
    exact r_ret1 rfl (.tmp rfl) (fun _ _ g => g) (fun _ _ _ => List.nil_sublist _)

theorem crc_steps_ok (a0 : Int) (a1 : Int) (r : Int) (h : crc_steps a0 a1 = some r) : Pure Try.prog 37 [.one (.int .u32) a0, .one (.int .i64) a1] (.one (.int .u32) r) := by
  unfold crc_steps at h
  refine enter Try.func37 rfl 19 rfl rfl fun F => ?_
  refine r_seq ?_
  refine r_region ?_
  refine r_pure tabOk 1 [0, 1] (E' := [(0, .one (.int .u32) a0), (1, .one (.int .i64) a1)]) rfl ?_
  refine r_nil ?_
  refine r_then ?_
  obtain ⟨k1, hk1, h⟩ := bnd_ex h
  refine r_joink (γ := Unit) (fun (o2 : Int) _ => [(0, .one (.int .u32) o2)]) (fun (o2 : Int) _ => []) k1 r ?_ ?_
  · refine r_seq ?_
    refine r_region ?_
    refine r_pure tabOk 2 [0, 6, 7] (E' := [(0, .one (.int .u32) a0), (6, .one (.int .i64) a1), (7, .one (.int .i64) 0)]) rfl ?_
    refine r_nil ?_
    refine r_then ?_
    refine r_block ?_
    refine r_less [0, 6, 7] rfl ?_
    refine r_loopg (γ := Unit) (fun (s4 : Int × Int) _ => [(0, .one (.int .u32) s4.1), (6, .one (.int .i64) a1), (7, .one (.int .i64) s4.2)]) (fun (s4 : Int × Int) _ => []) (crc_steps_l0 a1 k1) (a0, 0) () h rfl rfl ?_
    clear h
    intro m5 s4 gg h
    cases m5 with
    | zero => cases h
    | succ m5 =>
    simp only [crc_steps_l0] at h
    refine r_seq ?_
    refine r_region ?_
    refine r_pure tabOk 1 [0, 6, 7, 8] (E' := [(0, .one (.int .u32) s4.1), (6, .one (.int .i64) a1), (7, .one (.int .i64) s4.2), (8, .one .bool (decide (s4.2 < a1)))]) rfl ?_
    refine r_nil ?_
    refine r_then ?_
    refine r_seq ?_
    refine r_if (b := (decide (s4.2 < a1))) rfl (fun hc => ?_) (fun hc => ?_)
    · rw [if_pos hc] at h
      refine r_skip ?_
      refine r_then ?_
      obtain ⟨k6, hk6, h⟩ := bnd_ex h
      refine r_joink (γ := Unit) (fun (o7 : Int) _ => [(0, .one (.int .u32) o7), (6, .one (.int .i64) a1), (7, .one (.int .i64) s4.2)]) (fun (o7 : Int) _ => []) k6 r ?_ ?_
      · refine r_block ?_
        refine r_seq ?_
        refine r_region ?_
        refine r_pure tabOk 3 [0, 5, 6, 7] (E' := [(0, .one (.int .u32) s4.1), (5, .one (.int .u32) (iand .u32 s4.1 1)), (6, .one (.int .i64) a1), (7, .one (.int .i64) s4.2)]) rfl ?_
        obtain ⟨low8, hlow8, h⟩ := bnd_ex h
        rw [hlow8]
        refine r_nil ?_
        refine r_then ?_
        refine r_seq ?_
        refine r_region ?_
        refine r_pure tabOk 3 [0, 5, 6, 7] (E' := [(0, .one (.int .u32) (ishr .u32 s4.1 1)), (5, .one (.int .u32) low8), (6, .one (.int .i64) a1), (7, .one (.int .i64) s4.2)]) rfl ?_
        obtain ⟨x9, hx9, h⟩ := bnd_ex h
        rw [hx9]
        refine r_nil ?_
        refine r_then ?_
        refine r_seq ?_
        refine r_region ?_
        refine r_pure tabOk 2 [0, 6, 7, 14] (E' := [(0, .one (.int .u32) x9), (6, .one (.int .i64) a1), (7, .one (.int .i64) s4.2), (14, .one .bool (low8 == 1))]) rfl ?_
        refine r_nil ?_
        refine r_then ?_
        refine r_if (b := (low8 == 1)) rfl (fun hc => ?_) (fun hc => ?_)
        · rw [if_pos hc] at h
          refine r_region ?_
          refine r_pure tabOk 3 [0, 6, 7] (E' := [(0, .one (.int .u32) (ixor .u32 x9 2197175160)), (6, .one (.int .i64) a1), (7, .one (.int .i64) s4.2)]) rfl ?_
          obtain ⟨x10, hx10, h⟩ := bnd_ex h
          rw [hx10]
          refine r_nil ?_
          refine r_inblock ?_
          refine r_then ?_
          refine r_less [0, 6, 7] rfl ?_
          exact r_meetk x10 () h rfl rfl
        · rw [if_neg (ne_true_of_eq_false hc)] at h
          refine r_skip ?_
          refine r_inblock ?_
          refine r_then ?_
          refine r_less [0, 6, 7] rfl ?_
          exact r_meetk x9 () h rfl rfl
      · intro o7 gg h
        rw [← hk6] at h
        try dsimp only at h
        refine r_region ?_
        refine r_pure tabOk 2 [0, 6, 7] (E' := [(0, .one (.int .u32) o7), (6, .one (.int .i64) a1), (7, .one (.int .i64) (IntKind.wrap .i64 (s4.2 + 1)))]) rfl ?_
        refine r_nil ?_
        refine r_then ?_
        refine r_less [0, 6, 7] rfl ?_
        exact r_backg (o7, (IntKind.wrap .i64 (s4.2 + 1))) () (Nat.lt_succ_self _) h rfl rfl
    · rw [if_neg (ne_true_of_eq_false hc)] at h
      refine r_exit ?_
      refine e_then ?_
      refine e_then ?_
      refine e_eq ?_
      refine r_then ?_
      refine r_less [0] rfl ?_
      exact r_meetk s4.1 () h rfl rfl
  · intro o2 gg h
    rw [← hk1] at h
    try dsimp only at h
    refine r_seq ?_
    refine r_region ?_
    refine r_pure tabOk 2 [4] (E' := [(4, .one (.int .u32) o2)]) rfl ?_
    refine r_nil ?_
    refine r_then ?_
    refine r_ret ?_
    obtain rfl := Option.some.inj h
    exact r_ret1 rfl (.tmp rfl) (fun _ _ g => g) (fun _ _ _ => List.nil_sublist _)

theorem crc_halves_ok  (r : List (Int)) (h : crc_halves  = some r) : Pure Try.prog 29 [] (.one (.arr 16 (.int .u32)) r) := by
  unfold crc_halves at h
  refine enter Try.func29 rfl 13 rfl rfl fun F => ?_
  refine r_seq ?_
  refine r_region ?_
  refine r_alloc (t := (.arr 16 (.int .u32))) rfl zf53 rfl fun b1 => ?_
  refine r_nil ?_
  refine r_then ?_
  refine r_seq ?_
  refine r_region ?_
  refine r_alloc (t := (.arr 16 (.int .u32))) rfl zf53 rfl fun b3 => ?_
  refine r_nil ?_
  refine r_then ?_
  obtain ⟨k5, hk5, h⟩ := bnd_ex h
  refine r_joink (γ := Unit) (fun (o6 : List (Int)) _ => [(0, ptr b1 0), (1, ptr b3 0)]) (fun (o6 : List (Int)) _ => [Res.var b3 53 (.arr 16 (.int .u32)) o6, Res.var b1 53 (.arr 16 (.int .u32)) (List.replicate 16 (0 : Int))]) k5 r ?_ ?_
  · refine r_seq ?_
    refine r_region ?_
    refine r_pure tabOk 1 [0, 1, 3] (E' := [(0, ptr b1 0), (1, ptr b3 0), (3, .one (.int .i64) 0)]) rfl ?_
    refine r_nil ?_
    refine r_then ?_
    refine r_block ?_
    refine r_less [0, 1, 3] rfl ?_
    refine r_loopg (γ := Unit) (fun (s9 : Int × List (Int)) _ => [(0, ptr b1 0), (1, ptr b3 0), (3, .one (.int .i64) s9.1)]) (fun (s9 : Int × List (Int)) _ => [Res.var b3 53 (.arr 16 (.int .u32)) s9.2, Res.var b1 53 (.arr 16 (.int .u32)) (List.replicate 16 (0 : Int))]) (crc_halves_l0 k5) (0, (List.replicate 16 (0 : Int))) () h rfl rfl ?_
    clear h
    intro m10 s9 gg h
    cases m10 with
    | zero => cases h
    | succ m10 =>
    simp only [crc_halves_l0] at h
    refine r_seq ?_
    refine r_region ?_
    refine r_pure tabOk 1 [0, 1, 3, 4] (E' := [(0, ptr b1 0), (1, ptr b3 0), (3, .one (.int .i64) s9.1), (4, .one .bool (decide (s9.1 < 16)))]) rfl ?_
    refine r_nil ?_
    refine r_then ?_
    refine r_seq ?_
    refine r_if (b := (decide (s9.1 < 16))) rfl (fun hc => ?_) (fun hc => ?_)
    · rw [if_pos hc] at h
      refine r_skip ?_
      refine r_then ?_
      refine r_seq ?_
      refine r_block ?_
      refine r_seq ?_
      refine r_region ?_
      refine r_pure tabOk 2 [0, 1, 2, 3] (E' := [(0, ptr b1 0), (1, ptr b3 0), (2, .one (.int .i64) s9.1), (3, .one (.int .i64) s9.1)]) rfl ?_
      refine r_nil ?_
      refine r_then ?_
      refine r_region ?_
      refine r_pure tabOk 3 [0, 1, 3, 6, 8] (E' := [(0, ptr b1 0), (1, ptr b3 0), (3, .one (.int .i64) s9.1), (6, .one (.int .i64) s9.1), (8, .one (.int .u32) (IntKind.wrap .u32 s9.1))]) rfl ?_
      obtain ⟨r11, hr11, h⟩ := bind_ex h
      refine r_calls (crc_steps_ok (IntKind.wrap .u32 s9.1) 4 _ hr11) (by kernel_rfl) rfl rfl ?_
      obtain ⟨hc, h⟩ := ite_ex h
      refine y (y_ivar rfl rfl hc.1 hc.2 un53 ty46) rfl ?_
      refine r_store 0 (.elem (Int.toNat s9.1) .here) rfl rfl rfl (by first | rfl | (simp only [Pth.off, T.size]; omega)) (ok_elem (by omega) ok_here) ty46 ?_
      refine r_nil ?_
      refine r_inblock ?_
      refine r_then ?_
      refine r_region ?_
      refine r_pure tabOk 2 [0, 1, 3] (E' := [(0, ptr b1 0), (1, ptr b3 0), (3, .one (.int .i64) (IntKind.wrap .i64 (s9.1 + 1)))]) rfl ?_
      refine r_nil ?_
      refine r_then ?_
      refine r_less [0, 1, 3] rfl ?_
      exact r_backg ((IntKind.wrap .i64 (s9.1 + 1)), (List.set s9.2 (Int.toNat s9.1) r11)) () (Nat.lt_succ_self _) h rfl rfl
    · rw [if_neg (ne_true_of_eq_false hc)] at h
      refine r_exit ?_
      refine e_then ?_
      refine e_then ?_
      refine e_eq ?_
      refine r_then ?_
      refine r_less [0, 1] rfl ?_
      exact r_meetk s9.2 () h rfl rfl
  · intro o6 gg h
    rw [← hk5] at h
    try dsimp only at h
    refine r_seq ?_
    refine r_region ?_
    refine y (y_load 0 .here rfl rfl (by first | rfl | (simp only [Pth.off, T.size]; omega)) ok_here ty53) rfl ?_
    refine r_store 1 .here rfl rfl rfl (by first | rfl | (simp only [Pth.off, T.size]; omega)) ok_here ty53 ?_
    refine r_nil ?_
    refine r_then ?_
    refine r_ret ?_
    obtain rfl := Option.some.inj h
    exact r_ret1 rfl (.cell 1 .here rfl rfl (by first | rfl | (simp only [Pth.off, T.size]; omega)) ok_here ty53) (fun _ _ g => g) (fun _ _ _ => List.nil_sublist _)

theorem crc_On_ok (a0 : Int) (a1 : List Int) (r : Int) (h : crc_On a0 a1 = some r) : Pure Try.prog 21 [.one (.int .u32) a0, .one .str a1] (.one (.int .u32) r) := by
  unfold crc_On at h
  refine enter Try.func21 rfl 39 rfl rfl fun F => ?_
  refine r_seq ?_
  refine r_region ?_
  refine r_pure tabOk 1 [0, 1] (E' := [(0, .one (.int .u32) a0), (1, .one .str a1)]) rfl ?_
  refine r_nil ?_
  refine r_then ?_
  refine r_seq ?_
  refine r_region ?_
  obtain ⟨r1, hr1, h⟩ := bind_ex h
  refine r_calls (crc_halves_ok  _ hr1) (by kernel_rfl) rfl rfl ?_
  refine r_alloc (t := (.arr 16 (.int .u32))) rfl zf53 rfl fun b2 => ?_
  refine r_store 0 .here rfl rfl rfl (by first | rfl | (simp only [Pth.off, T.size]; omega)) ok_here ty53 ?_
  refine r_nil ?_
  refine r_then ?_
  refine r_seq ?_
  refine r_region ?_
  refine r_pure tabOk 3 [1, 5, 6] (E' := [(1, .one .str a1), (5, ptr b2 0), (6, .one (.int .u32) (inot .u32 a0))]) rfl ?_
  obtain ⟨x4, hx4, h⟩ := bnd_ex h
  rw [hx4]
  refine r_nil ?_
  refine r_then ?_
  obtain ⟨k5, hk5, h⟩ := bnd_ex h
  refine r_joink (γ := Unit) (fun (o6 : Int) _ => [(6, .one (.int .u32) o6)]) (fun (o6 : Int) _ => [Res.var b2 53 (.arr 16 (.int .u32)) r1]) k5 r ?_ ?_
  · refine r_seq ?_
    refine r_region ?_
    refine r_pure tabOk 3 [1, 5, 6, 12, 13] (E' := [(1, .one .str a1), (5, ptr b2 0), (6, .one (.int .u32) x4), (12, .one (.int .i64) (List.length a1 : Int)), (13, .one (.int .i64) 0)]) rfl ?_
    refine r_nil ?_
    refine r_then ?_
    refine r_block ?_
    refine r_less [1, 5, 6, 12, 13] rfl ?_
    refine r_loopg (γ := Unit) (fun (s8 : Int × Int) _ => [(1, .one .str a1), (5, ptr b2 0), (6, .one (.int .u32) s8.1), (12, .one (.int .i64) (List.length a1 : Int)), (13, .one (.int .i64) s8.2)]) (fun (s8 : Int × Int) _ => [Res.var b2 53 (.arr 16 (.int .u32)) r1]) (crc_On_l0 a1 r1 k5) (x4, 0) () h rfl rfl ?_
    clear h
    intro m9 s8 gg h
    cases m9 with
    | zero => cases h
    | succ m9 =>
    simp only [crc_On_l0] at h
    refine r_seq ?_
    refine r_region ?_
    refine r_pure tabOk 1 [1, 5, 6, 12, 13, 14] (E' := [(1, .one .str a1), (5, ptr b2 0), (6, .one (.int .u32) s8.1), (12, .one (.int .i64) (List.length a1 : Int)), (13, .one (.int .i64) s8.2), (14, .one .bool (decide (s8.2 < (List.length a1 : Int))))]) rfl ?_
    refine r_nil ?_
    refine r_then ?_
    refine r_seq ?_
    refine r_if (b := (decide (s8.2 < (List.length a1 : Int)))) rfl (fun hc => ?_) (fun hc => ?_)
    · rw [if_pos hc] at h
      refine r_skip ?_
      refine r_then ?_
      refine r_seq ?_
      refine r_block ?_
      refine r_seq ?_
      refine r_region ?_
      refine r_pure tabOk 2 [1, 5, 6, 7, 12, 13] (E' := [(1, .one .str a1), (5, ptr b2 0), (6, .one (.int .u32) s8.1), (7, .one (.int .i64) s8.2), (12, .one (.int .i64) (List.length a1 : Int)), (13, .one (.int .i64) s8.2)]) rfl ?_
      refine r_nil ?_
      refine r_then ?_
      refine r_seq ?_
      refine r_region ?_
      refine r_pure tabOk 3 [1, 5, 12, 13, 16, 17, 18] (E' := [(1, .one .str a1), (5, ptr b2 0), (12, .one (.int .i64) (List.length a1 : Int)), (13, .one (.int .i64) s8.2), (16, .one (.int .u32) s8.1), (17, .one .str a1), (18, .one (.int .i64) s8.2)]) rfl ?_
      obtain ⟨hc, h⟩ := ite_ex h
      refine y (y_byte tabOk rfl rfl hc.1 hc.2 rfl) rfl ?_
      refine r_pure tabOk 3 [1, 5, 6, 12, 13] (E' := [(1, .one .str a1), (5, ptr b2 0), (6, .one (.int .u32) (ixor .u32 s8.1 (IntKind.wrap .u32 (List.getD a1 (Int.toNat s8.2) 0)))), (12, .one (.int .i64) (List.length a1 : Int)), (13, .one (.int .i64) s8.2)]) rfl ?_
      obtain ⟨x10, hx10, h⟩ := bnd_ex h
      rw [hx10]
      refine r_nil ?_
      refine r_then ?_
      refine r_seq ?_
      refine r_region ?_
      refine r_pure tabOk 4 [1, 5, 12, 13, 23, 25] (E' := [(1, .one .str a1), (5, ptr b2 0), (12, .one (.int .i64) (List.length a1 : Int)), (13, .one (.int .i64) s8.2), (23, .one (.int .u32) (ishr .u32 x10 4)), (25, .one (.int .u32) (iand .u32 x10 15))]) rfl ?_
      obtain ⟨hc, h⟩ := ite_ex h
      refine y (y_ivar rfl rfl hc.1 hc.2 un53 ty46) rfl ?_
      refine y (y_load 0 (.elem (Int.toNat (iand .u32 x10 15)) .here) rfl rfl (by first | rfl | (simp only [Pth.off, T.size]; omega)) (ok_elem (by omega) ok_here) ty46) rfl ?_
      refine r_pure tabOk 2 [1, 5, 6, 12, 13] (E' := [(1, .one .str a1), (5, ptr b2 0), (6, .one (.int .u32) (ixor .u32 (ishr .u32 x10 4) (List.getD r1 (Int.toNat (iand .u32 x10 15)) 0))), (12, .one (.int .i64) (List.length a1 : Int)), (13, .one (.int .i64) s8.2)]) rfl ?_
      obtain ⟨x11, hx11, h⟩ := bnd_ex h
      rw [hx11]
      refine r_nil ?_
      refine r_then ?_
      refine r_region ?_
      refine r_pure tabOk 4 [1, 5, 12, 13, 30, 32] (E' := [(1, .one .str a1), (5, ptr b2 0), (12, .one (.int .i64) (List.length a1 : Int)), (13, .one (.int .i64) s8.2), (30, .one (.int .u32) (ishr .u32 x11 4)), (32, .one (.int .u32) (iand .u32 x11 15))]) rfl ?_
      obtain ⟨hc, h⟩ := ite_ex h
      refine y (y_ivar rfl rfl hc.1 hc.2 un53 ty46) rfl ?_
      refine y (y_load 0 (.elem (Int.toNat (iand .u32 x11 15)) .here) rfl rfl (by first | rfl | (simp only [Pth.off, T.size]; omega)) (ok_elem (by omega) ok_here) ty46) rfl ?_
      refine r_pure tabOk 2 [1, 5, 6, 12, 13] (E' := [(1, .one .str a1), (5, ptr b2 0), (6, .one (.int .u32) (ixor .u32 (ishr .u32 x11 4) (List.getD r1 (Int.toNat (iand .u32 x11 15)) 0))), (12, .one (.int .i64) (List.length a1 : Int)), (13, .one (.int .i64) s8.2)]) rfl ?_
      obtain ⟨x12, hx12, h⟩ := bnd_ex h
      rw [hx12]
      refine r_nil ?_
      refine r_inblock ?_
      refine r_then ?_
      refine r_region ?_
      refine r_pure tabOk 2 [1, 5, 6, 12, 13] (E' := [(1, .one .str a1), (5, ptr b2 0), (6, .one (.int .u32) x12), (12, .one (.int .i64) (List.length a1 : Int)), (13, .one (.int .i64) (IntKind.wrap .i64 (s8.2 + 1)))]) rfl ?_
      refine r_nil ?_
      refine r_then ?_
      refine r_less [1, 5, 6, 12, 13] rfl ?_
      exact r_backg (x12, (IntKind.wrap .i64 (s8.2 + 1))) () (Nat.lt_succ_self _) h rfl rfl
    · rw [if_neg (ne_true_of_eq_false hc)] at h
      refine r_exit ?_
      refine e_then ?_
      refine e_then ?_
      refine e_eq ?_
      refine r_then ?_
      refine r_less [6] rfl ?_
      exact r_meetk s8.1 () h rfl rfl
  · intro o6 gg h
    rw [← hk5] at h
    try dsimp only at h
    refine r_seq ?_
    refine r_region ?_
    refine r_pure tabOk 3 [4] (E' := [(4, .one (.int .u32) (inot .u32 o6))]) rfl ?_
    refine r_nil ?_
    refine r_then ?_
    refine r_ret ?_
    obtain rfl := Option.some.inj h
    exact r_ret1 rfl (.tmp rfl) (fun _ _ g => g) (fun _ _ _ => List.nil_sublist _)

theorem crc_Sum_ok (a0 : List Int) (r : Int) (h : crc_Sum a0 = some r) : Pure Try.prog 22 [.one .str a0] (.one (.int .u32) r) := by
  unfold crc_Sum at h
  refine enter Try.func22 rfl 5 rfl rfl fun F => ?_
  refine r_seq ?_
  refine r_region ?_
  refine r_pure tabOk 1 [0] (E' := [(0, .one .str a0)]) rfl ?_
  refine r_nil ?_
  refine r_then ?_
  refine r_seq ?_
  refine r_region ?_
  refine r_pure tabOk 1 [3] (E' := [(3, .one .str a0)]) rfl ?_
  obtain ⟨r1, hr1, h⟩ := bind_ex h
  refine r_calls (crc_On_ok 0 a0 _ hr1) (by kernel_rfl) rfl rfl ?_
  refine r_pure tabOk 1 [2] (E' := [(2, .one (.int .u32) r1)]) rfl ?_
  refine r_nil ?_
  refine r_then ?_
  refine r_ret ?_
  obtain rfl := Option.some.inj h
  exact r_ret1 rfl (.tmp rfl) (fun _ _ g => g) (fun _ _ _ => List.nil_sublist _)

theorem strings_Repeat_ok (a0 : List Int) (a1 : Int) (r : List Int) (h : strings_Repeat a0 a1 = some r) : Pure Try.prog 23 [.one .str a0, .one (.int .i64) a1] (.one .str r) := repeat_pure Go.Proofs.Try.strings_Repeat a0 a1 r h

theorem frame_Frame_ok (a0 : Int) (a1 : List Int) (r : List Int × Int) (h : frame_Frame a0 a1 = some r) : Pure Try.prog 10 [.one (.int .i64) a0, .one .str a1] (.tup [⟨.str, r.1⟩, ⟨(.int .i64), r.2⟩]) := by
  unfold frame_Frame at h
  refine enter Try.func10 rfl 40 rfl rfl fun F => ?_
  refine r_seq ?_
  refine r_region ?_
  refine r_pure tabOk 2 [0, 1] (E' := [(0, .one (.int .i64) a0), (1, .one .str a1)]) rfl ?_
  refine r_nil ?_
  refine r_then ?_
  refine r_seq ?_
  refine r_seq ?_
  refine r_region ?_
  refine r_pure tabOk 2 [0, 1, 10] (E' := [(0, .one (.int .i64) a0), (1, .one .str a1), (10, .one .bool (decide (a0 < 0)))]) rfl ?_
  refine r_nil ?_
  refine r_then ?_
  refine r_if (b := (decide (a0 < 0))) rfl (fun hc => ?_) (fun hc => ?_)
  · rw [if_pos hc] at h
    refine r_seq ?_
    refine r_region ?_
    refine r_pure tabOk 2 [4, 5] (E' := [(4, .one .str []), (5, .one (.int .i64) 1)]) rfl ?_
    refine r_nil ?_
    refine r_then ?_
    refine r_ret ?_
    refine t_then ?_
    obtain rfl := Option.some.inj h
    exact r_rets (rs := [.tmp 4, .tmp 5]) rfl (.cons (.tmp rfl) (.cons (.tmp rfl) (.nil))) rfl (fun _ vs g => tup_ok vs g) (fun _ _ _ => List.nil_sublist _)
  · rw [if_neg (ne_true_of_eq_false hc)] at h
    refine r_skip ?_
    refine r_then ?_
    refine r_seq ?_
    refine r_seq ?_
    refine r_region ?_
    refine r_pure tabOk 3 [0, 1, 13] (E' := [(0, .one (.int .i64) a0), (1, .one .str a1), (13, .one .bool (decide ((List.length a1 : Int) > 65536)))]) rfl ?_
    refine r_nil ?_
    refine r_then ?_
    refine r_if (b := (decide ((List.length a1 : Int) > 65536))) rfl (fun hc => ?_) (fun hc => ?_)
    · rw [if_pos hc] at h
      refine r_seq ?_
      refine r_region ?_
      refine r_pure tabOk 2 [4, 5] (E' := [(4, .one .str []), (5, .one (.int .i64) 3)]) rfl ?_
      refine r_nil ?_
      refine r_then ?_
      refine r_ret ?_
      refine t_then ?_
      obtain rfl := Option.some.inj h
      exact r_rets (rs := [.tmp 4, .tmp 5]) rfl (.cons (.tmp rfl) (.cons (.tmp rfl) (.nil))) rfl (fun _ vs g => tup_ok vs g) (fun _ _ _ => List.nil_sublist _)
    · rw [if_neg (ne_true_of_eq_false hc)] at h
      refine r_skip ?_
      refine r_then ?_
      refine r_seq ?_
      refine r_region ?_
      refine r_pure tabOk 3 [0, 1, 16] (E' := [(0, .one (.int .i64) a0), (1, .one .str a1), (16, .one (.int .u64) (IntKind.wrap .u64 (List.length a1 : Int)))]) rfl ?_
      obtain ⟨r1, hr1, h⟩ := bind_ex h
      refine r_calls (frame_laid_ok (IntKind.wrap .u64 (List.length a1 : Int)) 4 _ hr1) (by kernel_rfl) rfl rfl ?_
      refine r_pure tabOk 2 [1, 17, 19] (E' := [(1, .one .str a1), (17, .one .str r1), (19, .one (.int .u64) (IntKind.wrap .u64 a0))]) rfl ?_
      obtain ⟨r2, hr2, h⟩ := bind_ex h
      refine r_calls (frame_laid_ok (IntKind.wrap .u64 a0) 8 _ hr2) (by kernel_rfl) rfl rfl ?_
      obtain ⟨hc, h⟩ := ite_ex h
      refine y (y_cat rfl rfl hc) rfl ?_
      refine r_pure tabOk 1 [1, 6] (E' := [(1, .one .str a1), (6, .one .str (r1 ++ r2))]) rfl ?_
      obtain ⟨head3, hhead3, h⟩ := bnd_ex h
      rw [hhead3]
      refine r_nil ?_
      refine r_then ?_
      refine r_seq ?_
      refine r_region ?_
      refine r_pure tabOk 1 [1, 6, 22] (E' := [(1, .one .str a1), (6, .one .str head3), (22, .one .str head3)]) rfl ?_
      obtain ⟨r4, hr4, h⟩ := bind_ex h
      refine r_calls (crc_Sum_ok head3 _ hr4) (by kernel_rfl) rfl rfl ?_
      refine r_pure tabOk 1 [1, 6, 23, 24] (E' := [(1, .one .str a1), (6, .one .str head3), (23, .one (.int .u32) r4), (24, .one .str a1)]) rfl ?_
      obtain ⟨r5, hr5, h⟩ := bind_ex h
      refine r_calls (crc_On_ok r4 a1 _ hr5) (by kernel_rfl) rfl rfl ?_
      refine r_pure tabOk 1 [1, 6, 7] (E' := [(1, .one .str a1), (6, .one .str head3), (7, .one (.int .u32) r5)]) rfl ?_
      refine r_nil ?_
      refine r_then ?_
      refine r_seq ?_
      refine r_region ?_
      refine r_pure tabOk 3 [1, 26, 28] (E' := [(1, .one .str a1), (26, .one .str head3), (28, .one (.int .u64) (IntKind.wrap .u64 r5))]) rfl ?_
      obtain ⟨r6, hr6, h⟩ := bind_ex h
      refine r_calls (frame_laid_ok (IntKind.wrap .u64 r5) 4 _ hr6) (by kernel_rfl) rfl rfl ?_
      obtain ⟨hc, h⟩ := ite_ex h
      refine y (y_cat rfl rfl hc) rfl ?_
      refine r_pure tabOk 1 [30, 31] (E' := [(30, .one .str (head3 ++ r6)), (31, .one .str a1)]) rfl ?_
      obtain ⟨hc, h⟩ := ite_ex h
      refine y (y_cat rfl rfl hc) rfl ?_
      refine r_pure tabOk 1 [8] (E' := [(8, .one .str ((head3 ++ r6) ++ a1))]) rfl ?_
      obtain ⟨f7, hf7, h⟩ := bnd_ex h
      rw [hf7]
      refine r_nil ?_
      refine r_then ?_
      refine r_seq ?_
      refine r_region ?_
      refine r_pure tabOk 5 [33, 37] (E' := [(33, .one .str f7), (37, .one (.int .i64) (iand .i64 (IntKind.wrap .i64 (0 - (List.length f7 : Int))) 63))]) rfl ?_
      obtain ⟨r8, hr8, h⟩ := bind_ex h
      refine r_calls (strings_Repeat_ok [0] (iand .i64 (IntKind.wrap .i64 (0 - (List.length f7 : Int))) 63) _ hr8) (by kernel_rfl) rfl rfl ?_
      obtain ⟨hc, h⟩ := ite_ex h
      refine y (y_cat rfl rfl hc) rfl ?_
      refine r_pure tabOk 2 [4, 5] (E' := [(4, .one .str (f7 ++ r8)), (5, .one (.int .i64) 0)]) rfl ?_
      refine r_nil ?_
      refine r_then ?_
      refine r_ret ?_
      obtain rfl := Option.some.inj h
      exact r_rets (rs := [.tmp 4, .tmp 5]) rfl (.cons (.tmp rfl) (.cons (.tmp rfl) (.nil))) rfl (fun _ vs g => tup_ok vs g) (fun _ _ _ => List.nil_sublist _)

theorem escrowref05_put_ok (p0 : Value) (a0 : List (Int)) (a1 : Int) (a2 : Int) (r : List (Int)) (h : escrowref05_put a0 a1 a2 = some r) : Fn Try.prog 24 [.one (.raw (.slice none 0 0)) p0, .one (.int .i64) a1, .one (.int .i64) a2] [Res.own p0 5 (.int .u8) a0] (fun v => .one (.raw (.slice none 0 0)) v) (fun v => [Res.own v 5 (.int .u8) r]) := by
  unfold escrowref05_put at h
  refine enter Try.func24 rfl 23 rfl rfl fun F => ?_
  refine r_seq ?_
  refine r_region ?_
  refine r_pure tabOk 1 [0, 1, 2] (E' := [(0, .one (.raw (.slice none 0 0)) p0), (1, .one (.int .i64) a1), (2, .one (.int .i64) a2)]) rfl ?_
  refine r_nil ?_
  refine r_then ?_
  obtain ⟨k1, hk1, h⟩ := bnd_ex h
  refine r_joink (γ := Value) (fun (o2 : List (Int)) g3 => [(0, .one (.raw (.slice none 0 0)) g3)]) (fun (o2 : List (Int)) g3 => [Res.own g3 5 (.int .u8) o2]) k1 r ?_ ?_
  · refine r_seq ?_
    refine r_region ?_
    refine r_pure tabOk 3 [0, 1, 7] (E' := [(0, .one (.raw (.slice none 0 0)) p0), (1, .one (.int .i64) a1), (7, .one (.int .i64) (IntKind.wrap .i64 (a2 - 1)))]) rfl ?_
    obtain ⟨k4, hk4, h⟩ := bnd_ex h
    rw [hk4]
    refine r_nil ?_
    refine r_then ?_
    refine r_block ?_
    refine r_less [0, 1, 7] rfl ?_
    refine r_loopg (γ := Value) (fun (s8 : Int × List (Int)) g9 => [(0, .one (.raw (.slice none 0 0)) g9), (1, .one (.int .i64) a1), (7, .one (.int .i64) s8.1)]) (fun (s8 : Int × List (Int)) g9 => [Res.own g9 5 (.int .u8) s8.2]) (escrowref05_put_l0 a1 k1) (k4, a0) p0 h rfl rfl ?_
    clear h
    intro m10 s8 g9 h
    cases m10 with
    | zero => cases h
    | succ m10 =>
    simp only [escrowref05_put_l0] at h
    refine r_seq ?_
    refine r_seq ?_
    refine r_region ?_
    refine r_pure tabOk 2 [0, 1, 7, 11] (E' := [(0, .one (.raw (.slice none 0 0)) g9), (1, .one (.int .i64) a1), (7, .one (.int .i64) s8.1), (11, .one .bool (decide (s8.1 ≥ 0)))]) rfl ?_
    refine r_nil ?_
    refine r_then ?_
    refine r_if (b := (decide (s8.1 ≥ 0))) rfl (fun hc => ?_) (fun hc => ?_)
    · rw [if_pos hc] at h
      refine r_skip ?_
      refine r_then ?_
      refine r_seq ?_
      refine r_block ?_
      refine r_region ?_
      refine r_pure tabOk 4 [1, 7, 14, 15, 17] (E' := [(1, .one (.int .i64) a1), (7, .one (.int .i64) s8.1), (14, .one (.raw (.slice none 0 0)) g9), (15, .one (.int .i64) a1), (17, .one (.int .i64) (IntKind.wrap .i64 (8 * s8.1)))]) rfl ?_
      obtain ⟨hc, h⟩ := ite_ex h
      refine y (y_shr rfl rfl hc) rfl ?_
      refine r_pure tabOk 1 [1, 7, 14, 19] (E' := [(1, .one (.int .i64) a1), (7, .one (.int .i64) s8.1), (14, .one (.raw (.slice none 0 0)) g9), (19, .one (.int .u8) (IntKind.wrap .u8 (ishr .i64 a1 (IntKind.wrap .i64 (8 * s8.1)))))]) rfl ?_
      refine r_lits (B := 1) tabOk rfl el5 rfl rfl rfl (.cons rfl .nil) rfl fun v11 => ?_
      obtain ⟨hc, h⟩ := ite_ex h
      refine r_append (B := 1) tabOk 1 rfl rfl (src_own 0 rfl rfl) rfl el5 rfl rfl hc rfl fun v13 => ?_
      refine r_lose (L' := [Res.own v13 5 (.int .u8) (s8.2 ++ [(IntKind.wrap .u8 (ishr .i64 a1 (IntKind.wrap .i64 (8 * s8.1))))])]) (.cons _ (.cons_cons _ .slnil)) ?_
      refine r_pure tabOk 1 [0, 1, 7] (E' := [(0, .one (.raw (.slice none 0 0)) v13), (1, .one (.int .i64) a1), (7, .one (.int .i64) s8.1)]) rfl ?_
      refine r_nil ?_
      refine r_inblock ?_
      refine r_then ?_
      refine r_region ?_
      refine r_pure tabOk 3 [0, 1, 7] (E' := [(0, .one (.raw (.slice none 0 0)) v13), (1, .one (.int .i64) a1), (7, .one (.int .i64) (IntKind.wrap .i64 (s8.1 - 1)))]) rfl ?_
      obtain ⟨k14, hk14, h⟩ := bnd_ex h
      rw [hk14]
      refine r_nil ?_
      refine r_then ?_
      refine r_less [0, 1, 7] rfl ?_
      exact r_backg (k14, (s8.2 ++ [(IntKind.wrap .u8 (ishr .i64 a1 (IntKind.wrap .i64 (8 * s8.1))))])) v13 (Nat.lt_succ_self _) h rfl rfl
    · rw [if_neg (ne_true_of_eq_false hc)] at h
      refine r_exit ?_
      refine e_then ?_
      refine e_then ?_
      refine e_eq ?_
      refine r_then ?_
      refine r_less [0] rfl ?_
      exact r_meetk s8.2 g9 h rfl rfl
  · intro o2 g3 h
    rw [← hk1] at h
    try dsimp only at h
    refine r_seq ?_
    refine r_region ?_
    refine r_pure tabOk 2 [6] (E' := [(6, .one (.raw (.slice none 0 0)) g3)]) rfl ?_
    refine r_nil ?_
    refine r_then ?_
    refine r_ret ?_
    obtain rfl := Option.some.inj h
    exact r_ret1 rfl (.tmp rfl) (fun _ _ g => holds_raw.2 ⟨rfl, by rw [(holds_raw.1 g).1]; exact (holds_raw.1 g).2⟩) (fun _ _ g => by obtain ⟨rfl, _⟩ := holds_raw.1 g; exact (.cons_cons _ .slnil))

theorem escrowref01_Step_ok (a0 : Int) (r : Int) (h : escrowref01_Step a0 = some r) : Pure Try.prog 35 [.one (.int .u32) a0] (.one (.int .u32) r) := by
  unfold escrowref01_Step at h
  refine enter Try.func35 rfl 11 rfl rfl fun F => ?_
  refine r_seq ?_
  refine r_region ?_
  refine r_pure tabOk 1 [0] (E' := [(0, .one (.int .u32) a0)]) rfl ?_
  refine r_nil ?_
  refine r_then ?_
  refine r_seq ?_
  refine r_seq ?_
  refine r_region ?_
  refine r_pure tabOk 3 [0, 5] (E' := [(0, .one (.int .u32) a0), (5, .one .bool ((iand .u32 a0 1) == 1))]) rfl ?_
  refine r_nil ?_
  refine r_then ?_
  refine r_if (b := ((iand .u32 a0 1) == 1)) rfl (fun hc => ?_) (fun hc => ?_)
  · rw [if_pos hc] at h
    refine r_seq ?_
    refine r_region ?_
    refine r_pure tabOk 4 [2] (E' := [(2, .one (.int .u32) (ixor .u32 (ishr .u32 a0 1) 2197175160))]) rfl ?_
    refine r_nil ?_
    refine r_then ?_
    refine r_ret ?_
    refine t_then ?_
    obtain rfl := Option.some.inj h
    exact r_ret1 rfl (.tmp rfl) (fun _ _ g => g) (fun _ _ _ => List.nil_sublist _)
  · rw [if_neg (ne_true_of_eq_false hc)] at h
    refine r_skip ?_
    refine r_then ?_
    refine r_seq ?_
    refine r_region ?_
    refine r_pure tabOk 3 [2] (E' := [(2, .one (.int .u32) (ishr .u32 a0 1))]) rfl ?_
    refine r_nil ?_
    refine r_then ?_
    refine r_ret ?_
    obtain rfl := Option.some.inj h
    exact r_ret1 rfl (.tmp rfl) (fun _ _ g => g) (fun _ _ _ => List.nil_sublist _)

theorem escrowref01_On_ok (a0 : Int) (a1 : List Int) (r : Int) (h : escrowref01_On a0 a1 = some r) : Pure Try.prog 25 [.one (.int .u32) a0, .one .str a1] (.one (.int .u32) r) := by
  unfold escrowref01_On at h
  refine enter Try.func25 rfl 30 rfl rfl fun F => ?_
  refine r_seq ?_
  refine r_region ?_
  refine r_pure tabOk 1 [0, 1] (E' := [(0, .one (.int .u32) a0), (1, .one .str a1)]) rfl ?_
  refine r_nil ?_
  refine r_then ?_
  refine r_seq ?_
  refine r_region ?_
  refine r_pure tabOk 3 [1, 5] (E' := [(1, .one .str a1), (5, .one (.int .u32) (inot .u32 a0))]) rfl ?_
  obtain ⟨x1, hx1, h⟩ := bnd_ex h
  rw [hx1]
  refine r_nil ?_
  refine r_then ?_
  obtain ⟨k2, hk2, h⟩ := bnd_ex h
  refine r_joink (γ := Unit) (fun (o3 : Int) _ => [(5, .one (.int .u32) o3)]) (fun (o3 : Int) _ => []) k2 r ?_ ?_
  · refine r_seq ?_
    refine r_region ?_
    refine r_pure tabOk 1 [1, 5, 6] (E' := [(1, .one .str a1), (5, .one (.int .u32) x1), (6, .one (.int .i64) 0)]) rfl ?_
    refine r_nil ?_
    refine r_then ?_
    refine r_block ?_
    refine r_less [1, 5, 6] rfl ?_
    refine r_loopg (γ := Unit) (fun (s5 : Int × Int) _ => [(1, .one .str a1), (5, .one (.int .u32) s5.1), (6, .one (.int .i64) s5.2)]) (fun (s5 : Int × Int) _ => []) (escrowref01_On_l0 a1 k2) (x1, 0) () h rfl rfl ?_
    clear h
    intro m6 s5 gg h
    cases m6 with
    | zero => cases h
    | succ m6 =>
    simp only [escrowref01_On_l0] at h
    refine r_seq ?_
    refine r_seq ?_
    refine r_region ?_
    refine r_pure tabOk 4 [1, 5, 6, 13] (E' := [(1, .one .str a1), (5, .one (.int .u32) s5.1), (6, .one (.int .i64) s5.2), (13, .one .bool (decide (s5.2 < (List.length a1 : Int))))]) rfl ?_
    refine r_nil ?_
    refine r_then ?_
    refine r_if (b := (decide (s5.2 < (List.length a1 : Int)))) rfl (fun hc => ?_) (fun hc => ?_)
    · rw [if_pos hc] at h
      refine r_skip ?_
      refine r_then ?_
      refine r_seq ?_
      refine r_block ?_
      refine r_seq ?_
      refine r_region ?_
      refine r_pure tabOk 3 [1, 6, 16, 17, 18] (E' := [(1, .one .str a1), (6, .one (.int .i64) s5.2), (16, .one (.int .u32) s5.1), (17, .one .str a1), (18, .one (.int .i64) s5.2)]) rfl ?_
      obtain ⟨hc, h⟩ := ite_ex h
      refine y (y_byte tabOk rfl rfl hc.1 hc.2 rfl) rfl ?_
      refine r_pure tabOk 3 [1, 5, 6] (E' := [(1, .one .str a1), (5, .one (.int .u32) (ixor .u32 s5.1 (IntKind.wrap .u32 (List.getD a1 (Int.toNat s5.2) 0)))), (6, .one (.int .i64) s5.2)]) rfl ?_
      obtain ⟨x7, hx7, h⟩ := bnd_ex h
      rw [hx7]
      refine r_nil ?_
      refine r_then ?_
      refine r_seq ?_
      refine r_region ?_
      refine r_pure tabOk 1 [1, 5, 6, 7] (E' := [(1, .one .str a1), (5, .one (.int .u32) x7), (6, .one (.int .i64) s5.2), (7, .one (.int .i64) 0)]) rfl ?_
      refine r_nil ?_
      refine r_then ?_
      obtain ⟨k8, hk8, h⟩ := bnd_ex h
      refine r_cutk (γ := Unit) (fun (o9 : Int) _ => [(1, .one .str a1), (5, .one (.int .u32) o9), (6, .one (.int .i64) s5.2)]) (fun (o9 : Int) _ => []) k8 r ?_ ?_
      · refine r_block ?_
        refine r_less [1, 5, 6, 7] rfl ?_
        refine r_loopg (γ := Unit) (fun (s12 : Int × Int) _ => [(1, .one .str a1), (5, .one (.int .u32) s12.1), (6, .one (.int .i64) s5.2), (7, .one (.int .i64) s12.2)]) (fun (s12 : Int × Int) _ => []) (escrowref01_On_l1 k8) (x7, 0) () h rfl rfl ?_
        clear h
        intro m13 s12 gg h
        cases m13 with
        | zero => cases h
        | succ m13 =>
        simp only [escrowref01_On_l1] at h
        refine r_seq ?_
        refine r_seq ?_
        refine r_region ?_
        refine r_pure tabOk 2 [1, 5, 6, 7, 23] (E' := [(1, .one .str a1), (5, .one (.int .u32) s12.1), (6, .one (.int .i64) s5.2), (7, .one (.int .i64) s12.2), (23, .one .bool (decide (s12.2 < 8)))]) rfl ?_
        refine r_nil ?_
        refine r_then ?_
        refine r_if (b := (decide (s12.2 < 8))) rfl (fun hc => ?_) (fun hc => ?_)
        · rw [if_pos hc] at h
          refine r_skip ?_
          refine r_then ?_
          refine r_seq ?_
          refine r_block ?_
          refine r_region ?_
          refine r_pure tabOk 1 [1, 6, 7, 26] (E' := [(1, .one .str a1), (6, .one (.int .i64) s5.2), (7, .one (.int .i64) s12.2), (26, .one (.int .u32) s12.1)]) rfl ?_
          obtain ⟨r14, hr14, h⟩ := bind_ex h
          refine r_calls (escrowref01_Step_ok s12.1 _ hr14) (by kernel_rfl) rfl rfl ?_
          refine r_pure tabOk 1 [1, 5, 6, 7] (E' := [(1, .one .str a1), (5, .one (.int .u32) r14), (6, .one (.int .i64) s5.2), (7, .one (.int .i64) s12.2)]) rfl ?_
          refine r_nil ?_
          refine r_inblock ?_
          refine r_then ?_
          refine r_region ?_
          refine r_pure tabOk 3 [1, 5, 6, 7] (E' := [(1, .one .str a1), (5, .one (.int .u32) r14), (6, .one (.int .i64) s5.2), (7, .one (.int .i64) (IntKind.wrap .i64 (s12.2 + 1)))]) rfl ?_
          obtain ⟨k15, hk15, h⟩ := bnd_ex h
          rw [hk15]
          refine r_nil ?_
          refine r_then ?_
          refine r_less [1, 5, 6, 7] rfl ?_
          exact r_backg (r14, k15) () (Nat.lt_succ_self _) h rfl rfl
        · rw [if_neg (ne_true_of_eq_false hc)] at h
          refine r_exit ?_
          refine e_then ?_
          refine e_then ?_
          refine e_eq ?_
          refine r_then ?_
          refine r_less [1, 5, 6] rfl ?_
          exact r_meetk s12.1 () h rfl rfl
      · intro o9 gg h
        rw [← hk8] at h
        try dsimp only at h
        refine r_inblock ?_
        refine r_then ?_
        refine r_region ?_
        refine r_pure tabOk 3 [1, 5, 6] (E' := [(1, .one .str a1), (5, .one (.int .u32) o9), (6, .one (.int .i64) (IntKind.wrap .i64 (s5.2 + 1)))]) rfl ?_
        obtain ⟨i10, hi10, h⟩ := bnd_ex h
        rw [hi10]
        refine r_nil ?_
        refine r_then ?_
        refine r_less [1, 5, 6] rfl ?_
        exact r_backg (o9, i10) () (Nat.lt_succ_self _) h rfl rfl
    · rw [if_neg (ne_true_of_eq_false hc)] at h
      refine r_exit ?_
      refine e_then ?_
      refine e_then ?_
      refine e_eq ?_
      refine r_then ?_
      refine r_less [5] rfl ?_
      exact r_meetk s5.1 () h rfl rfl
  · intro o3 gg h
    rw [← hk2] at h
    try dsimp only at h
    refine r_seq ?_
    refine r_region ?_
    refine r_pure tabOk 3 [4] (E' := [(4, .one (.int .u32) (inot .u32 o3))]) rfl ?_
    refine r_nil ?_
    refine r_then ?_
    refine r_ret ?_
    obtain rfl := Option.some.inj h
    exact r_ret1 rfl (.tmp rfl) (fun _ _ g => g) (fun _ _ _ => List.nil_sublist _)

theorem escrowref01_Sum_ok (a0 : List Int) (r : Int) (h : escrowref01_Sum a0 = some r) : Pure Try.prog 26 [.one .str a0] (.one (.int .u32) r) := by
  unfold escrowref01_Sum at h
  refine enter Try.func26 rfl 5 rfl rfl fun F => ?_
  refine r_seq ?_
  refine r_region ?_
  refine r_pure tabOk 1 [0] (E' := [(0, .one .str a0)]) rfl ?_
  refine r_nil ?_
  refine r_then ?_
  refine r_seq ?_
  refine r_region ?_
  refine r_pure tabOk 1 [3] (E' := [(3, .one .str a0)]) rfl ?_
  obtain ⟨r1, hr1, h⟩ := bind_ex h
  refine r_calls (escrowref01_On_ok 0 a0 _ hr1) (by kernel_rfl) rfl rfl ?_
  refine r_pure tabOk 1 [2] (E' := [(2, .one (.int .u32) r1)]) rfl ?_
  refine r_nil ?_
  refine r_then ?_
  refine r_ret ?_
  obtain rfl := Option.some.inj h
  exact r_ret1 rfl (.tmp rfl) (fun _ _ g => g) (fun _ _ _ => List.nil_sublist _)

theorem escrowref05_Room_ok (a0 : Int) (r : Int) (h : escrowref05_Room a0 = some r) : Pure Try.prog 27 [.one (.int .i64) a0] (.one (.int .i64) r) := by
  unfold escrowref05_Room at h
  refine enter Try.func27 rfl 9 rfl rfl fun F => ?_
  refine r_seq ?_
  refine r_region ?_
  refine r_pure tabOk 1 [0] (E' := [(0, .one (.int .i64) a0)]) rfl ?_
  refine r_nil ?_
  refine r_then ?_
  refine r_seq ?_
  refine r_region ?_
  refine r_pure tabOk 5 [7] (E' := [(7, .one (.int .i64) (IntKind.wrap .i64 (Int.tdiv (IntKind.wrap .i64 ((IntKind.wrap .i64 ((IntKind.wrap .i64 (16 + a0)) + 64)) - 1)) 64)))]) rfl ?_
  obtain ⟨t1, ht1, h⟩ := bnd_ex h
  rw [ht1]
  refine r_pure tabOk 2 [2] (E' := [(2, .one (.int .i64) (IntKind.wrap .i64 (t1 * 64)))]) rfl ?_
  refine r_nil ?_
  refine r_then ?_
  refine r_ret ?_
  obtain rfl := Option.some.inj h
  exact r_ret1 rfl (.tmp rfl) (fun _ _ g => g) (fun _ _ _ => List.nil_sublist _)

theorem escrowref05_Frame_ok (a0 : Int) (a1 : List Int) (r : List Int × Int) (h : escrowref05_Frame a0 a1 = some r) : Pure Try.prog 11 [.one (.int .i64) a0, .one .str a1] (.tup [⟨.str, r.1⟩, ⟨(.int .i64), r.2⟩]) := by
  unfold escrowref05_Frame at h
  refine enter Try.func11 rfl 42 rfl rfl fun F => ?_
  refine r_seq ?_
  refine r_region ?_
  refine r_pure tabOk 2 [0, 1] (E' := [(0, .one (.int .i64) a0), (1, .one .str a1)]) rfl ?_
  refine r_nil ?_
  refine r_then ?_
  refine r_seq ?_
  refine r_seq ?_
  refine r_region ?_
  refine r_pure tabOk 2 [0, 1, 9] (E' := [(0, .one (.int .i64) a0), (1, .one .str a1), (9, .one .bool (decide (a0 < 0)))]) rfl ?_
  refine r_nil ?_
  refine r_then ?_
  refine r_if (b := (decide (a0 < 0))) rfl (fun hc => ?_) (fun hc => ?_)
  · rw [if_pos hc] at h
    refine r_seq ?_
    refine r_region ?_
    refine r_pure tabOk 2 [4, 5] (E' := [(4, .one .str []), (5, .one (.int .i64) 1)]) rfl ?_
    refine r_nil ?_
    refine r_then ?_
    refine r_ret ?_
    refine t_then ?_
    obtain rfl := Option.some.inj h
    exact r_rets (rs := [.tmp 4, .tmp 5]) rfl (.cons (.tmp rfl) (.cons (.tmp rfl) (.nil))) rfl (fun _ vs g => tup_ok vs g) (fun _ _ _ => List.nil_sublist _)
  · rw [if_neg (ne_true_of_eq_false hc)] at h
    refine r_skip ?_
    refine r_then ?_
    refine r_seq ?_
    refine r_seq ?_
    refine r_region ?_
    refine r_pure tabOk 3 [0, 1, 12] (E' := [(0, .one (.int .i64) a0), (1, .one .str a1), (12, .one .bool (decide ((List.length a1 : Int) > 65536)))]) rfl ?_
    refine r_nil ?_
    refine r_then ?_
    refine r_if (b := (decide ((List.length a1 : Int) > 65536))) rfl (fun hc => ?_) (fun hc => ?_)
    · rw [if_pos hc] at h
      refine r_seq ?_
      refine r_region ?_
      refine r_pure tabOk 2 [4, 5] (E' := [(4, .one .str []), (5, .one (.int .i64) 3)]) rfl ?_
      refine r_nil ?_
      refine r_then ?_
      refine r_ret ?_
      refine t_then ?_
      obtain rfl := Option.some.inj h
      exact r_rets (rs := [.tmp 4, .tmp 5]) rfl (.cons (.tmp rfl) (.cons (.tmp rfl) (.nil))) rfl (fun _ vs g => tup_ok vs g) (fun _ _ _ => List.nil_sublist _)
    · rw [if_neg (ne_true_of_eq_false hc)] at h
      refine r_skip ?_
      refine r_then ?_
      refine r_seq ?_
      refine r_region ?_
      refine r_pure tabOk 2 [0, 1, 14] (E' := [(0, .one (.int .i64) a0), (1, .one .str a1), (14, .one (.int .i64) (List.length a1 : Int))]) rfl ?_
      refine r_nilown (.slice none 0 0) rfl 5 (.int .u8) ?_
      obtain ⟨r2, hr2, h⟩ := bind_ex h
      refine r_call (Lo := []) (escrowref05_put_ok (.slice none 0 0) [] (List.length a1 : Int) 4 _ hr2) (by kernel_rfl) (List.perm_middle (a := Res.own (.slice none 0 0) 5 (.int .u8) []) (l₁ := []) (l₂ := [])) rfl rfl fun v3 => ?_
      refine r_pure tabOk 1 [0, 1, 6] (E' := [(0, .one (.int .i64) a0), (1, .one .str a1), (6, .one (.raw (.slice none 0 0)) v3)]) rfl ?_
      refine r_nil ?_
      refine r_then ?_
      refine r_seq ?_
      refine r_region ?_
      refine r_pure tabOk 2 [1, 16, 17] (E' := [(1, .one .str a1), (16, .one (.raw (.slice none 0 0)) v3), (17, .one (.int .i64) a0)]) rfl ?_
      obtain ⟨r5, hr5, h⟩ := bind_ex h
      refine r_call (Lo := []) (escrowref05_put_ok v3 r2 a0 8 _ hr5) (by kernel_rfl) (List.perm_middle (a := Res.own v3 5 (.int .u8) r2) (l₁ := []) (l₂ := [])) rfl rfl fun v6 => ?_
      refine r_pure tabOk 1 [1, 6] (E' := [(1, .one .str a1), (6, .one (.raw (.slice none 0 0)) v6)]) rfl ?_
      refine r_nil ?_
      refine r_then ?_
      refine r_seq ?_
      refine r_region ?_
      refine r_pure tabOk 1 [1, 6, 19] (E' := [(1, .one .str a1), (6, .one (.raw (.slice none 0 0)) v6), (19, .one (.raw (.slice none 0 0)) v6)]) rfl ?_
      refine y (y_text tabOk 0 rfl rfl rfl rfl rfl) rfl ?_
      obtain ⟨r8, hr8, h⟩ := bind_ex h
      refine r_calls (escrowref01_Sum_ok r5 _ hr8) (by kernel_rfl) rfl rfl ?_
      refine r_pure tabOk 1 [1, 6, 21, 22] (E' := [(1, .one .str a1), (6, .one (.raw (.slice none 0 0)) v6), (21, .one (.int .u32) r8), (22, .one .str a1)]) rfl ?_
      obtain ⟨r9, hr9, h⟩ := bind_ex h
      refine r_calls (escrowref01_On_ok r8 a1 _ hr9) (by kernel_rfl) rfl rfl ?_
      refine r_pure tabOk 1 [1, 6, 7] (E' := [(1, .one .str a1), (6, .one (.raw (.slice none 0 0)) v6), (7, .one (.int .u32) r9)]) rfl ?_
      refine r_nil ?_
      refine r_then ?_
      refine r_seq ?_
      refine r_region ?_
      refine r_pure tabOk 3 [1, 24, 26] (E' := [(1, .one .str a1), (24, .one (.raw (.slice none 0 0)) v6), (26, .one (.int .i64) (IntKind.wrap .i64 r9))]) rfl ?_
      obtain ⟨r10, hr10, h⟩ := bind_ex h
      refine r_call (Lo := []) (escrowref05_put_ok v6 r5 (IntKind.wrap .i64 r9) 4 _ hr10) (by kernel_rfl) (List.perm_middle (a := Res.own v6 5 (.int .u8) r5) (l₁ := []) (l₂ := [])) rfl rfl fun v11 => ?_
      refine r_pure tabOk 1 [1, 6] (E' := [(1, .one .str a1), (6, .one (.raw (.slice none 0 0)) v11)]) rfl ?_
      refine r_nil ?_
      refine r_then ?_
      refine r_seq ?_
      refine r_region ?_
      refine r_pure tabOk 2 [1, 28, 29] (E' := [(1, .one .str a1), (28, .one (.raw (.slice none 0 0)) v11), (29, .one .str a1)]) rfl ?_
      obtain ⟨hc, h⟩ := ite_ex h
      refine r_append (B := 1) tabOk 0 rfl rfl (src_str rfl) rfl el5 rfl rfl hc rfl fun v13 => ?_
      refine r_pure tabOk 1 [1, 6] (E' := [(1, .one .str a1), (6, .one (.raw (.slice none 0 0)) v13)]) rfl ?_
      refine r_nil ?_
      refine r_then ?_
      obtain ⟨k14, hk14, h⟩ := bnd_ex h
      refine r_joink (γ := Value) (fun (o15 : List (Int)) g16 => [(6, .one (.raw (.slice none 0 0)) g16)]) (fun (o15 : List (Int)) g16 => [Res.own g16 5 (.int .u8) o15]) k14 r ?_ ?_
      · refine r_block ?_
        refine r_less [1, 6] rfl ?_
        refine r_loopg (γ := Value) (fun (s20 : List (Int)) g21 => [(1, .one .str a1), (6, .one (.raw (.slice none 0 0)) g21)]) (fun (s20 : List (Int)) g21 => [Res.own g21 5 (.int .u8) s20]) (escrowref05_Frame_l0 a1 k14) (r10 ++ a1) v13 h rfl rfl ?_
        clear h
        intro m22 s20 g21 h
        cases m22 with
        | zero => cases h
        | succ m22 =>
        simp only [escrowref05_Frame_l0] at h
        refine r_seq ?_
        refine r_seq ?_
        refine r_region ?_
        refine r_pure tabOk 1 [1, 6, 31] (E' := [(1, .one .str a1), (6, .one (.raw (.slice none 0 0)) g21), (31, .one (.raw (.slice none 0 0)) g21)]) rfl ?_
        refine y (y_lenown tabOk 0 rfl rfl rfl) rfl ?_
        refine r_pure tabOk 2 [1, 6, 32, 34] (E' := [(1, .one .str a1), (6, .one (.raw (.slice none 0 0)) g21), (32, .one (.int .i64) (List.length s20 : Int)), (34, .one (.int .i64) (List.length a1 : Int))]) rfl ?_
        obtain ⟨r23, hr23, h⟩ := bind_ex h
        refine r_calls (escrowref05_Room_ok (List.length a1 : Int) _ hr23) (by kernel_rfl) rfl rfl ?_
        refine r_pure tabOk 1 [1, 6, 36] (E' := [(1, .one .str a1), (6, .one (.raw (.slice none 0 0)) g21), (36, .one .bool (decide ((List.length s20 : Int) < r23)))]) rfl ?_
        refine r_nil ?_
        refine r_then ?_
        refine r_if (b := (decide ((List.length s20 : Int) < r23))) rfl (fun hc => ?_) (fun hc => ?_)
        · rw [if_pos hc] at h
          refine r_skip ?_
          refine r_then ?_
          refine r_block ?_
          refine r_region ?_
          refine r_pure tabOk 1 [1, 37] (E' := [(1, .one .str a1), (37, .one (.raw (.slice none 0 0)) g21)]) rfl ?_
          refine r_lits (B := 1) tabOk rfl el5 rfl rfl rfl (.cons rfl .nil) rfl fun v24 => ?_
          obtain ⟨hc, h⟩ := ite_ex h
          refine r_append (B := 1) tabOk 1 rfl rfl (src_own 0 rfl rfl) rfl el5 rfl rfl hc rfl fun v26 => ?_
          refine r_lose (L' := [Res.own v26 5 (.int .u8) (s20 ++ [0])]) (.cons _ (.cons_cons _ .slnil)) ?_
          refine r_pure tabOk 1 [1, 6] (E' := [(1, .one .str a1), (6, .one (.raw (.slice none 0 0)) v26)]) rfl ?_
          refine r_nil ?_
          refine r_inblock ?_
          refine r_then ?_
          refine r_less [1, 6] rfl ?_
          exact r_backg (s20 ++ [0]) v26 (Nat.lt_succ_self _) h rfl rfl
        · rw [if_neg (ne_true_of_eq_false hc)] at h
          refine r_exit ?_
          refine e_then ?_
          refine e_then ?_
          refine e_eq ?_
          refine r_then ?_
          refine r_less [6] rfl ?_
          exact r_meetk s20 g21 h rfl rfl
      · intro o15 g16 h
        rw [← hk14] at h
        try dsimp only at h
        refine r_seq ?_
        refine r_region ?_
        refine r_pure tabOk 1 [40] (E' := [(40, .one (.raw (.slice none 0 0)) g16)]) rfl ?_
        refine y (y_text tabOk 0 rfl rfl rfl rfl rfl) rfl ?_
        refine r_pure tabOk 2 [4, 5] (E' := [(4, .one .str o15), (5, .one (.int .i64) 0)]) rfl ?_
        refine r_nil ?_
        refine r_then ?_
        refine r_ret ?_
        obtain rfl := Option.some.inj h
        exact r_rets (rs := [.tmp 4, .tmp 5]) rfl (.cons (.tmp rfl) (.cons (.tmp rfl) (.nil))) rfl (fun _ vs g => tup_ok vs g) (fun _ _ _ => List.nil_sublist _)

theorem internal_stringslite_HasPrefix_ok (a0 : List Int) (a1 : List Int) (r : Bool) (h : internal_stringslite_HasPrefix a0 a1 = some r) : Pure Try.prog 36 [.one .str a0, .one .str a1] (.one .bool r) := by
  unfold internal_stringslite_HasPrefix at h
  refine enter Try.func36 rfl 18 rfl rfl fun F => ?_
  refine r_seq ?_
  refine r_region ?_
  refine r_pure tabOk 1 [0, 1] (E' := [(0, .one .str a0), (1, .one .str a1)]) rfl ?_
  refine r_nil ?_
  refine r_then ?_
  refine r_seq ?_
  refine r_region ?_
  refine r_pure tabOk 6 [0, 1, 10] (E' := [(0, .one .str a0), (1, .one .str a1), (10, .one .bool (decide ((List.length a0 : Int) ≥ (List.length a1 : Int))))]) rfl ?_
  obtain ⟨b1, hbb1, h⟩ := bnd_ex h
  rw [hbb1]
  obtain ⟨k2, hk2, h⟩ := bnd_ex h
  refine r_lsplitk (γ := Unit) 7 (fun (o3 : Bool) _ => [(17, .one .bool o3)]) (fun _ _ => []) k2 r ?_ ?_
  · rcases Bool.eq_false_or_eq_true b1 with hh | hh
    · rw [hh] at h ⊢
      rw [if_pos rfl] at h
      refine r_pure tabOk 3 [1, 10, 11, 13] (E' := [(1, .one .str a1), (10, .one .bool true), (11, .one .str a0), (13, .one (.int .i64) (List.length a1 : Int))]) rfl ?_
      refine r_guard (by rfl) rfl ?_
      obtain ⟨hc, h⟩ := ite_ex h
      refine y (y_sub (i := (0 : Int)) (j := (List.length a1 : Int)) tabOk rfl rfl rfl hc.1 hc.2.1 hc.2.2 rfl) rfl ?_
      refine r_pure tabOk 3 [17] (E' := [(17, .one .bool ((List.drop 0 (List.take (Int.toNat (List.length a1 : Int)) a0)) == a1))]) rfl ?_
      refine r_nil ?_
      refine r_less [17] rfl ?_
      refine r_then ?_
      exact r_meetk ((List.drop 0 (List.take (Int.toNat (List.length a1 : Int)) a0)) == a1) () h rfl rfl
    · rw [hh] at h ⊢
      rw [if_neg (by decide)] at h
      refine r_pure tabOk 7 [17] (E' := [(17, .one .bool false)]) rfl ?_
      refine r_nil ?_
      refine r_less [17] rfl ?_
      refine r_then ?_
      exact r_meetk false () h rfl rfl
  · intro o3 _ h
    rw [← hk2] at h
    try dsimp only at h
    refine r_pure tabOk 1 [4] (E' := [(4, .one .bool o3)]) rfl ?_
    refine r_nil ?_
    refine r_then ?_
    refine r_ret ?_
    obtain rfl := Option.some.inj h
    exact r_ret1 rfl (.tmp rfl) (fun _ _ g => g) (fun _ _ _ => List.nil_sublist _)

theorem strings_HasPrefix_ok (a0 : List Int) (a1 : List Int) (r : Bool) (h : strings_HasPrefix a0 a1 = some r) : Pure Try.prog 28 [.one .str a0, .one .str a1] (.one .bool r) := by
  unfold strings_HasPrefix at h
  refine enter Try.func28 rfl 8 rfl rfl fun F => ?_
  refine r_seq ?_
  refine r_region ?_
  refine r_pure tabOk 1 [0, 1] (E' := [(0, .one .str a0), (1, .one .str a1)]) rfl ?_
  refine r_nil ?_
  refine r_then ?_
  refine r_seq ?_
  refine r_region ?_
  refine r_pure tabOk 2 [5, 6] (E' := [(5, .one .str a0), (6, .one .str a1)]) rfl ?_
  obtain ⟨r1, hr1, h⟩ := bind_ex h
  refine r_calls (internal_stringslite_HasPrefix_ok a0 a1 _ hr1) (by kernel_rfl) rfl rfl ?_
  refine r_pure tabOk 1 [4] (E' := [(4, .one .bool r1)]) rfl ?_
  refine r_nil ?_
  refine r_then ?_
  refine r_ret ?_
  obtain rfl := Option.some.inj h
  exact r_ret1 rfl (.tmp rfl) (fun _ _ g => g) (fun _ _ _ => List.nil_sublist _)

theorem frame_Next_ok (a0 : List Int) (a1 : Int) (a2 : Int) (r : List Int × Int × Int) (h : frame_Next a0 a1 a2 = some r) : Pure Try.prog 13 [.one .str a0, .one (.int .i64) a1, .one (.int .i64) a2] (.tup [⟨.str, r.1⟩, ⟨(.int .i64), r.2.1⟩, ⟨(.int .i64), r.2.2⟩]) := by
  unfold frame_Next at h
  refine enter Try.func13 rfl 77 rfl rfl fun F => ?_
  refine r_seq ?_
  refine r_region ?_
  refine r_pure tabOk 3 [0, 1, 2] (E' := [(0, .one .str a0), (1, .one (.int .i64) a1), (2, .one (.int .i64) a2)]) rfl ?_
  refine r_nil ?_
  refine r_then ?_
  refine r_seq ?_
  refine r_seq ?_
  refine r_region ?_
  refine r_pure tabOk 4 [0, 1, 2, 17] (E' := [(0, .one .str a0), (1, .one (.int .i64) a1), (2, .one (.int .i64) a2), (17, .one .bool (a1 == (List.length a0 : Int)))]) rfl ?_
  refine r_nil ?_
  refine r_then ?_
  refine r_if (b := (a1 == (List.length a0 : Int))) rfl (fun hc => ?_) (fun hc => ?_)
  · rw [if_pos hc] at h
    refine r_seq ?_
    refine r_region ?_
    refine r_pure tabOk 3 [6, 7, 8] (E' := [(6, .one .str []), (7, .one (.int .i64) 0), (8, .one (.int .i64) 0)]) rfl ?_
    refine r_nil ?_
    refine r_then ?_
    refine r_ret ?_
    refine t_then ?_
    obtain rfl := Option.some.inj h
    exact r_rets (rs := [.tmp 6, .tmp 7, .tmp 8]) rfl (.cons (.tmp rfl) (.cons (.tmp rfl) (.cons (.tmp rfl) (.nil)))) rfl (fun _ vs g => tup_ok vs g) (fun _ _ _ => List.nil_sublist _)
  · rw [if_neg (ne_true_of_eq_false hc)] at h
    refine r_skip ?_
    refine r_then ?_
    refine r_seq ?_
    refine r_seq ?_
    refine r_region ?_
    refine r_pure tabOk 3 [0, 1, 2, 20] (E' := [(0, .one .str a0), (1, .one (.int .i64) a1), (2, .one (.int .i64) a2), (20, .one .bool (decide (a1 < 0)))]) rfl ?_
    obtain ⟨b1, hbb1, h⟩ := bnd_ex h
    rw [hbb1]
    refine r_lsplit (γ := Unit) 5 (fun _ => [(0, .one .str a0), (1, .one (.int .i64) a1), (2, .one (.int .i64) a2), (25, .one .bool (b1 || (decide (a1 > (List.length a0 : Int)))))]) (fun _ => []) ?_ (fun _ => ?_)
    · clear h
      cases b1 with
      | true =>
      refine r_pure tabOk 5 [0, 1, 2, 25] (E' := [(0, .one .str a0), (1, .one (.int .i64) a1), (2, .one (.int .i64) a2), (25, .one .bool true)]) rfl ?_
      refine r_nil ?_
      refine r_then ?_
      exact r_meetg () rfl rfl
      | false =>
      refine r_pure tabOk 5 [0, 1, 2, 25] (E' := [(0, .one .str a0), (1, .one (.int .i64) a1), (2, .one (.int .i64) a2), (25, .one .bool (decide (a1 > (List.length a0 : Int))))]) rfl ?_
      refine r_nil ?_
      refine r_then ?_
      exact r_meetg () rfl rfl
    refine r_pure tabOk 1 [0, 1, 2, 26] (E' := [(0, .one .str a0), (1, .one (.int .i64) a1), (2, .one (.int .i64) a2), (26, .one .bool (b1 || (decide (a1 > (List.length a0 : Int)))))]) rfl ?_
    obtain ⟨b2, hbb2, h⟩ := bnd_ex h
    rw [hbb2]
    refine r_lsplit (γ := Unit) 6 (fun _ => [(0, .one .str a0), (1, .one (.int .i64) a1), (2, .one (.int .i64) a2), (32, .one .bool (b2 || (decide ((IntKind.wrap .i64 ((List.length a0 : Int) - a1)) < 16))))]) (fun _ => []) ?_ (fun _ => ?_)
    · clear h
      cases b2 with
      | true =>
      refine r_pure tabOk 6 [0, 1, 2, 32] (E' := [(0, .one .str a0), (1, .one (.int .i64) a1), (2, .one (.int .i64) a2), (32, .one .bool true)]) rfl ?_
      refine r_nil ?_
      refine r_then ?_
      exact r_meetg () rfl rfl
      | false =>
      refine r_pure tabOk 6 [0, 1, 2, 32] (E' := [(0, .one .str a0), (1, .one (.int .i64) a1), (2, .one (.int .i64) a2), (32, .one .bool (decide ((IntKind.wrap .i64 ((List.length a0 : Int) - a1)) < 16)))]) rfl ?_
      refine r_nil ?_
      refine r_then ?_
      exact r_meetg () rfl rfl
    refine r_nil ?_
    refine r_then ?_
    refine r_if (b := (b2 || (decide ((IntKind.wrap .i64 ((List.length a0 : Int) - a1)) < 16)))) rfl (fun hc => ?_) (fun hc => ?_)
    · rw [if_pos hc] at h
      refine r_seq ?_
      refine r_region ?_
      refine r_pure tabOk 3 [6, 7, 8] (E' := [(6, .one .str []), (7, .one (.int .i64) 0), (8, .one (.int .i64) 2)]) rfl ?_
      refine r_nil ?_
      refine r_then ?_
      refine r_ret ?_
      refine t_then ?_
      obtain rfl := Option.some.inj h
      exact r_rets (rs := [.tmp 6, .tmp 7, .tmp 8]) rfl (.cons (.tmp rfl) (.cons (.tmp rfl) (.cons (.tmp rfl) (.nil)))) rfl (fun _ vs g => tup_ok vs g) (fun _ _ _ => List.nil_sublist _)
    · rw [if_neg (ne_true_of_eq_false hc)] at h
      refine r_skip ?_
      refine r_then ?_
      refine r_seq ?_
      refine r_region ?_
      refine r_pure tabOk 2 [2, 33, 34] (E' := [(2, .one (.int .i64) a2), (33, .one .str a0), (34, .one (.int .i64) a1)]) rfl ?_
      obtain ⟨hc, h⟩ := ite_ex h
      refine y (y_sub (i := a1) (j := (List.length a0 : Int)) tabOk rfl rfl rfl hc.1 hc.2.1 hc.2.2 rfl) rfl ?_
      refine r_pure tabOk 1 [0, 2] (E' := [(0, .one .str (List.drop (Int.toNat a1) (List.take (Int.toNat (List.length a0 : Int)) a0))), (2, .one (.int .i64) a2)]) rfl ?_
      obtain ⟨b3, hb3, h⟩ := bnd_ex h
      rw [hb3]
      refine r_nil ?_
      refine r_then ?_
      refine r_seq ?_
      refine r_region ?_
      refine r_pure tabOk 1 [0, 2, 9] (E' := [(0, .one .str b3), (2, .one (.int .i64) a2), (9, .one (.int .i64) 0)]) rfl ?_
      refine r_nil ?_
      refine r_then ?_
      obtain ⟨k4, hk4, h⟩ := bnd_ex h
      refine r_joink (γ := Unit) (fun (o5 : Int) _ => [(0, .one .str b3), (2, .one (.int .i64) a2), (9, .one (.int .i64) o5)]) (fun (o5 : Int) _ => []) k4 r ?_ ?_
      · refine r_seq ?_
        refine r_region ?_
        refine r_pure tabOk 1 [0, 2, 9, 36] (E' := [(0, .one .str b3), (2, .one (.int .i64) a2), (9, .one (.int .i64) 0), (36, .one (.int .i64) 0)]) rfl ?_
        refine r_nil ?_
        refine r_then ?_
        refine r_block ?_
        refine r_less [0, 2, 9, 36] rfl ?_
        refine r_loopg (γ := Unit) (fun (s14 : Int × Int) _ => [(0, .one .str b3), (2, .one (.int .i64) a2), (9, .one (.int .i64) s14.1), (36, .one (.int .i64) s14.2)]) (fun (s14 : Int × Int) _ => []) (frame_Next_l0 b3 k4) (0, 0) () h rfl rfl ?_
        clear h
        intro m15 s14 gg h
        cases m15 with
        | zero => cases h
        | succ m15 =>
        simp only [frame_Next_l0] at h
        refine r_seq ?_
        refine r_region ?_
        refine r_pure tabOk 1 [0, 2, 9, 36, 37] (E' := [(0, .one .str b3), (2, .one (.int .i64) a2), (9, .one (.int .i64) s14.1), (36, .one (.int .i64) s14.2), (37, .one .bool (decide (s14.2 < 4)))]) rfl ?_
        refine r_nil ?_
        refine r_then ?_
        refine r_seq ?_
        refine r_if (b := (decide (s14.2 < 4))) rfl (fun hc => ?_) (fun hc => ?_)
        · rw [if_pos hc] at h
          refine r_skip ?_
          refine r_then ?_
          refine r_seq ?_
          refine r_block ?_
          refine r_seq ?_
          refine r_region ?_
          refine r_pure tabOk 2 [0, 2, 9, 10, 36] (E' := [(0, .one .str b3), (2, .one (.int .i64) a2), (9, .one (.int .i64) s14.1), (10, .one (.int .i64) s14.2), (36, .one (.int .i64) s14.2)]) rfl ?_
          refine r_nil ?_
          refine r_then ?_
          refine r_region ?_
          refine r_pure tabOk 4 [0, 2, 36, 40, 41, 42] (E' := [(0, .one .str b3), (2, .one (.int .i64) a2), (36, .one (.int .i64) s14.2), (40, .one (.int .i64) (ishl .i64 s14.1 8)), (41, .one .str b3), (42, .one (.int .i64) s14.2)]) rfl ?_
          obtain ⟨hc, h⟩ := ite_ex h
          refine y (y_byte tabOk rfl rfl hc.1 hc.2 rfl) rfl ?_
          refine r_pure tabOk 3 [0, 2, 9, 36] (E' := [(0, .one .str b3), (2, .one (.int .i64) a2), (9, .one (.int .i64) (ior .i64 (ishl .i64 s14.1 8) (IntKind.wrap .i64 (List.getD b3 (Int.toNat s14.2) 0)))), (36, .one (.int .i64) s14.2)]) rfl ?_
          obtain ⟨length16, hlength16, h⟩ := bnd_ex h
          rw [hlength16]
          refine r_nil ?_
          refine r_inblock ?_
          refine r_then ?_
          refine r_region ?_
          refine r_pure tabOk 2 [0, 2, 9, 36] (E' := [(0, .one .str b3), (2, .one (.int .i64) a2), (9, .one (.int .i64) length16), (36, .one (.int .i64) (IntKind.wrap .i64 (s14.2 + 1)))]) rfl ?_
          refine r_nil ?_
          refine r_then ?_
          refine r_less [0, 2, 9, 36] rfl ?_
          exact r_backg (length16, (IntKind.wrap .i64 (s14.2 + 1))) () (Nat.lt_succ_self _) h rfl rfl
        · rw [if_neg (ne_true_of_eq_false hc)] at h
          refine r_exit ?_
          refine e_then ?_
          refine e_then ?_
          refine e_eq ?_
          refine r_then ?_
          refine r_less [0, 2, 9] rfl ?_
          exact r_meetk s14.1 () h rfl rfl
      · intro o5 gg h
        rw [← hk4] at h
        try dsimp only at h
        refine r_seq ?_
        refine r_seq ?_
        refine r_region ?_
        refine r_pure tabOk 3 [0, 2, 9, 49] (E' := [(0, .one .str b3), (2, .one (.int .i64) a2), (9, .one (.int .i64) o5), (49, .one .bool (decide (o5 > 65536)))]) rfl ?_
        obtain ⟨b6, hbb6, h⟩ := bnd_ex h
        rw [hbb6]
        refine r_lsplit (γ := Unit) 6 (fun _ => [(0, .one .str b3), (2, .one (.int .i64) a2), (9, .one (.int .i64) o5), (55, .one .bool (b6 || (decide ((IntKind.wrap .i64 ((List.length b3 : Int) - 16)) < o5))))]) (fun _ => []) ?_ (fun _ => ?_)
        · clear h
          cases b6 with
          | true =>
          refine r_pure tabOk 6 [0, 2, 9, 55] (E' := [(0, .one .str b3), (2, .one (.int .i64) a2), (9, .one (.int .i64) o5), (55, .one .bool true)]) rfl ?_
          refine r_nil ?_
          refine r_then ?_
          exact r_meetg () rfl rfl
          | false =>
          refine r_pure tabOk 6 [0, 2, 9, 55] (E' := [(0, .one .str b3), (2, .one (.int .i64) a2), (9, .one (.int .i64) o5), (55, .one .bool (decide ((IntKind.wrap .i64 ((List.length b3 : Int) - 16)) < o5)))]) rfl ?_
          refine r_nil ?_
          refine r_then ?_
          exact r_meetg () rfl rfl
        refine r_nil ?_
        refine r_then ?_
        refine r_if (b := (b6 || (decide ((IntKind.wrap .i64 ((List.length b3 : Int) - 16)) < o5)))) rfl (fun hc => ?_) (fun hc => ?_)
        · rw [if_pos hc] at h
          refine r_seq ?_
          refine r_region ?_
          refine r_pure tabOk 3 [6, 7, 8] (E' := [(6, .one .str []), (7, .one (.int .i64) 0), (8, .one (.int .i64) 2)]) rfl ?_
          refine r_nil ?_
          refine r_then ?_
          refine r_ret ?_
          refine t_then ?_
          obtain rfl := Option.some.inj h
          exact r_rets (rs := [.tmp 6, .tmp 7, .tmp 8]) rfl (.cons (.tmp rfl) (.cons (.tmp rfl) (.cons (.tmp rfl) (.nil)))) rfl (fun _ vs g => tup_ok vs g) (fun _ _ _ => List.nil_sublist _)
        · rw [if_neg (ne_true_of_eq_false hc)] at h
          refine r_skip ?_
          refine r_then ?_
          refine r_seq ?_
          refine r_region ?_
          refine r_pure tabOk 3 [0, 2, 56, 58] (E' := [(0, .one .str b3), (2, .one (.int .i64) a2), (56, .one .str b3), (58, .one (.int .i64) (IntKind.wrap .i64 (16 + o5)))]) rfl ?_
          obtain ⟨hc, h⟩ := ite_ex h
          refine y (y_sub (i := 16) (j := (IntKind.wrap .i64 (16 + o5))) tabOk rfl rfl rfl hc.1 hc.2.1 hc.2.2 rfl) rfl ?_
          refine r_pure tabOk 1 [0, 2, 11] (E' := [(0, .one .str b3), (2, .one (.int .i64) a2), (11, .one .str (List.drop 16 (List.take (Int.toNat (IntKind.wrap .i64 (16 + o5))) b3)))]) rfl ?_
          obtain ⟨payload7, hpayload7, h⟩ := bnd_ex h
          rw [hpayload7]
          refine r_nil ?_
          refine r_then ?_
          refine r_seq ?_
          refine r_region ?_
          refine r_pure tabOk 2 [0, 11, 61, 62] (E' := [(0, .one .str b3), (11, .one .str payload7), (61, .one (.int .i64) a2), (62, .one .str payload7)]) rfl ?_
          obtain ⟨r8, hr8, h⟩ := bind_ex h
          refine r_calls (frame_Frame_ok a2 payload7 _ hr8) (by kernel_rfl) rfl rfl ?_
          refine r_pure tabOk 5 [0, 11, 12, 13] (E' := [(0, .one .str b3), (11, .one .str payload7), (12, .one .str r8.1), (13, .one (.int .i64) r8.2)]) rfl ?_
          refine r_nil ?_
          refine r_then ?_
          refine r_seq ?_
          refine r_region ?_
          refine r_pure tabOk 3 [0, 11, 12, 68] (E' := [(0, .one .str b3), (11, .one .str payload7), (12, .one .str r8.1), (68, .one .bool (r8.2 != 0))]) rfl ?_
          obtain ⟨b9, hbb9, h⟩ := bnd_ex h
          rw [hbb9]
          obtain ⟨k10, hk10, h⟩ := bnd_ex h
          refine r_lsplitk (γ := Unit) 5 (fun (o11 : Bool) _ => [(11, .one .str payload7), (12, .one .str r8.1), (73, .one .bool o11)]) (fun _ _ => []) k10 r ?_ ?_
          · rcases Bool.eq_false_or_eq_true b9 with hh | hh
            · rw [hh] at h ⊢
              rw [if_pos rfl] at h
              refine r_pure tabOk 5 [11, 12, 73] (E' := [(11, .one .str payload7), (12, .one .str r8.1), (73, .one .bool true)]) rfl ?_
              refine r_nil ?_
              refine r_less [11, 12, 73] rfl ?_
              refine r_then ?_
              exact r_meetk true () h rfl rfl
            · rw [hh] at h ⊢
              rw [if_neg (by decide)] at h
              refine r_pure tabOk 2 [11, 12, 68, 69, 70] (E' := [(11, .one .str payload7), (12, .one .str r8.1), (68, .one .bool false), (69, .one .str b3), (70, .one .str r8.1)]) rfl ?_
              refine r_guard (by rfl) rfl ?_
              obtain ⟨r12, hr12, h⟩ := bind_ex h
              refine r_calls (strings_HasPrefix_ok b3 r8.1 _ hr12) (by kernel_rfl) rfl rfl ?_
              refine r_pure tabOk 2 [11, 12, 73] (E' := [(11, .one .str payload7), (12, .one .str r8.1), (73, .one .bool (!r12))]) rfl ?_
              refine r_nil ?_
              refine r_less [11, 12, 73] rfl ?_
              refine r_then ?_
              exact r_meetk (!r12) () h rfl rfl
          · intro o11 _ h
            rw [← hk10] at h
            try dsimp only at h
            refine r_nil ?_
            refine r_then ?_
            refine r_if (b := o11) rfl (fun hc => ?_) (fun hc => ?_)
            · rw [if_pos hc] at h
              refine r_seq ?_
              refine r_region ?_
              refine r_pure tabOk 3 [6, 7, 8] (E' := [(6, .one .str []), (7, .one (.int .i64) 0), (8, .one (.int .i64) 2)]) rfl ?_
              refine r_nil ?_
              refine r_then ?_
              refine r_ret ?_
              obtain rfl := Option.some.inj h
              exact r_rets (rs := [.tmp 6, .tmp 7, .tmp 8]) rfl (.cons (.tmp rfl) (.cons (.tmp rfl) (.cons (.tmp rfl) (.nil)))) rfl (fun _ vs g => tup_ok vs g) (fun _ _ _ => List.nil_sublist _)
            · rw [if_neg (ne_true_of_eq_false hc)] at h
              refine r_seq ?_
              refine r_region ?_
              refine r_pure tabOk 6 [6, 7, 8] (E' := [(6, .one .str payload7), (7, .one (.int .i64) (List.length r8.1 : Int)), (8, .one (.int .i64) 1)]) rfl ?_
              refine r_nil ?_
              refine r_then ?_
              refine r_ret ?_
              obtain rfl := Option.some.inj h
              exact r_rets (rs := [.tmp 6, .tmp 7, .tmp 8]) rfl (.cons (.tmp rfl) (.cons (.tmp rfl) (.cons (.tmp rfl) (.nil)))) rfl (fun _ vs g => tup_ok vs g) (fun _ _ _ => List.nil_sublist _)

theorem frame_Scan_ok (a0 : List Int) (a1 : Int) (r : List (List Int) × Int × Bool) (h : frame_Scan a0 a1 = some r) : Fn Try.prog 15 [.one .str a0, .one (.int .i64) a1] [] (fun v => .tup [⟨.raw (.slice none 0 0), tupv v 0⟩, ⟨(.int .i64), r.2.1⟩, ⟨.bool, r.2.2⟩]) (fun v => [Res.own (tupv v 0) 9 .str r.1]) := by
  unfold frame_Scan at h
  refine enter Try.func15 rfl 52 rfl rfl fun F => ?_
  refine r_seq ?_
  refine r_region ?_
  refine r_pure tabOk 3 [0, 1] (E' := [(0, .one .str a0), (1, .one (.int .i64) a1)]) rfl ?_
  refine r_nil ?_
  refine r_then ?_
  refine r_scope ?_
  refine r_seq ?_
  refine r_region ?_
  refine r_pure tabOk 1 [0, 1, 7] (E' := [(0, .one .str a0), (1, .one (.int .i64) a1), (7, .one (.raw (.slice none 0 0)) (.slice none 0 0))]) rfl ?_
  refine r_nilown (.slice none 0 0) rfl 9 .str ?_
  refine r_nil ?_
  refine r_then ?_
  refine r_seq ?_
  refine r_region ?_
  refine r_pure tabOk 2 [0, 1, 7, 8] (E' := [(0, .one .str a0), (1, .one (.int .i64) a1), (7, .one (.raw (.slice none 0 0)) (.slice none 0 0)), (8, .one (.int .i64) 0)]) rfl ?_
  refine r_nil ?_
  refine r_then ?_
  refine r_seq ?_
  refine r_label ?_
  refine r_then ?_
  obtain ⟨k2, hk2, h⟩ := bnd_ex h
  refine r_joink (γ := Value) (fun (o3 : Int × Bool × List (List Int)) g4 => [(7, .one (.raw (.slice none 0 0)) g4), (8, .one (.int .i64) o3.1), (9, .one .bool o3.2.1)]) (fun (o3 : Int × Bool × List (List Int)) g4 => [Res.own g4 9 .str o3.2.2]) k2 r ?_ ?_
  · refine r_block ?_
    refine r_less [0, 1, 7, 8] rfl ?_
    refine r_loopg (γ := Value) (fun (s8 : Int × Int × List (List Int)) g9 => [(0, .one .str a0), (1, .one (.int .i64) s8.1), (7, .one (.raw (.slice none 0 0)) g9), (8, .one (.int .i64) s8.2.1)]) (fun (s8 : Int × Int × List (List Int)) g9 => [Res.own g9 9 .str s8.2.2]) (frame_Scan_l0 a0 k2) (a1, 0, []) (.slice none 0 0) h rfl rfl ?_
    clear h
    intro m10 s8 g9 h
    cases m10 with
    | zero => cases h
    | succ m10 =>
    simp only [frame_Scan_l0] at h
    refine r_block ?_
    refine r_seq ?_
    refine r_region ?_
    refine r_pure tabOk 3 [0, 1, 7, 8, 14, 15, 16] (E' := [(0, .one .str a0), (1, .one (.int .i64) s8.1), (7, .one (.raw (.slice none 0 0)) g9), (8, .one (.int .i64) s8.2.1), (14, .one .str a0), (15, .one (.int .i64) s8.2.1), (16, .one (.int .i64) s8.1)]) rfl ?_
    obtain ⟨r11, hr11, h⟩ := bind_ex h
    refine r_calls (frame_Next_ok a0 s8.2.1 s8.1 _ hr11) (by kernel_rfl) rfl rfl ?_
    refine r_pure tabOk 7 [0, 1, 7, 8, 10, 11, 12] (E' := [(0, .one .str a0), (1, .one (.int .i64) s8.1), (7, .one (.raw (.slice none 0 0)) g9), (8, .one (.int .i64) s8.2.1), (10, .one .str r11.1), (11, .one (.int .i64) r11.2.1), (12, .one (.int .i64) r11.2.2)]) rfl ?_
    refine r_nil ?_
    refine r_then ?_
    refine r_seq ?_
    refine r_block ?_
    refine r_seq ?_
    refine r_region ?_
    refine r_pure tabOk 3 [0, 1, 7, 8, 10, 11, 12, 21] (E' := [(0, .one .str a0), (1, .one (.int .i64) s8.1), (7, .one (.raw (.slice none 0 0)) g9), (8, .one (.int .i64) s8.2.1), (10, .one .str r11.1), (11, .one (.int .i64) r11.2.1), (12, .one (.int .i64) r11.2.2), (21, .one .bool (r11.2.2 != 1))]) rfl ?_
    refine r_nil ?_
    refine r_then ?_
    refine r_if (b := (r11.2.2 != 1)) rfl (fun hc => ?_) (fun hc => ?_)
    · rw [if_pos hc] at h
      refine r_seq ?_
      refine r_region ?_
      refine r_pure tabOk 3 [7, 8, 9] (E' := [(7, .one (.raw (.slice none 0 0)) g9), (8, .one (.int .i64) s8.2.1), (9, .one .bool (r11.2.2 == 2))]) rfl ?_
      obtain ⟨torn12, htorn12, h⟩ := bnd_ex h
      rw [htorn12]
      refine r_nil ?_
      refine r_then ?_
      refine r_exit ?_
      refine e_ne rfl ?_
      refine e_then ?_
      refine e_ne rfl ?_
      refine e_then ?_
      refine e_eq ?_
      refine r_then ?_
      refine r_less [7, 8, 9] rfl ?_
      exact r_meetk (s8.2.1, torn12, s8.2.2) g9 h rfl rfl
    · rw [if_neg (ne_true_of_eq_false hc)] at h
      refine r_seq ?_
      refine r_region ?_
      refine r_pure tabOk 3 [0, 1, 7, 8, 10, 11, 26] (E' := [(0, .one .str a0), (1, .one (.int .i64) s8.1), (7, .one (.raw (.slice none 0 0)) g9), (8, .one (.int .i64) s8.2.1), (10, .one .str r11.1), (11, .one (.int .i64) r11.2.1), (26, .one .bool (s8.1 == 9223372036854775807))]) rfl ?_
      refine r_nil ?_
      refine r_then ?_
      refine r_if (b := (s8.1 == 9223372036854775807)) rfl (fun hc => ?_) (fun hc => ?_)
      · rw [if_pos hc] at h
        refine r_seq ?_
        refine r_region ?_
        refine r_pure tabOk 2 [0, 8, 11, 29, 30] (E' := [(0, .one .str a0), (8, .one (.int .i64) s8.2.1), (11, .one (.int .i64) r11.2.1), (29, .one (.raw (.slice none 0 0)) g9), (30, .one .str r11.1)]) rfl ?_
        refine r_lits (B := 16) tabOk rfl el9 rfl rfl rfl (.cons rfl .nil) rfl fun v13 => ?_
        obtain ⟨hc, h⟩ := ite_ex h
        refine r_append (B := 16) tabOk 1 rfl rfl (src_own 0 rfl rfl) rfl el9 rfl rfl hc rfl fun v15 => ?_
        refine r_lose (L' := [Res.own v15 9 .str (s8.2.2 ++ [r11.1])]) (.cons _ (.cons_cons _ .slnil)) ?_
        refine r_pure tabOk 1 [0, 7, 8, 11] (E' := [(0, .one .str a0), (7, .one (.raw (.slice none 0 0)) v15), (8, .one (.int .i64) s8.2.1), (11, .one (.int .i64) r11.2.1)]) rfl ?_
        refine r_nil ?_
        refine r_then ?_
        refine r_seq ?_
        refine r_region ?_
        refine r_pure tabOk 4 [0, 7, 8] (E' := [(0, .one .str a0), (7, .one (.raw (.slice none 0 0)) v15), (8, .one (.int .i64) (IntKind.wrap .i64 (s8.2.1 + r11.2.1)))]) rfl ?_
        obtain ⟨at16, hat16, h⟩ := bnd_ex h
        rw [hat16]
        refine r_nil ?_
        refine r_then ?_
        refine r_seq ?_
        refine r_region ?_
        refine r_pure tabOk 5 [7, 8, 9] (E' := [(7, .one (.raw (.slice none 0 0)) v15), (8, .one (.int .i64) at16), (9, .one .bool (decide (at16 < (List.length a0 : Int))))]) rfl ?_
        obtain ⟨torn17, htorn17, h⟩ := bnd_ex h
        rw [htorn17]
        refine r_nil ?_
        refine r_then ?_
        refine r_exit ?_
        refine e_ne rfl ?_
        refine e_then ?_
        refine e_ne rfl ?_
        refine e_then ?_
        refine e_eq ?_
        refine r_then ?_
        refine r_less [7, 8, 9] rfl ?_
        exact r_meetk (at16, torn17, (s8.2.2 ++ [r11.1])) v15 h rfl rfl
      · rw [if_neg (ne_true_of_eq_false hc)] at h
        refine r_skip ?_
        refine r_inblock ?_
        refine r_then ?_
        refine r_seq ?_
        refine r_region ?_
        refine r_pure tabOk 2 [0, 1, 8, 11, 40, 41] (E' := [(0, .one .str a0), (1, .one (.int .i64) s8.1), (8, .one (.int .i64) s8.2.1), (11, .one (.int .i64) r11.2.1), (40, .one (.raw (.slice none 0 0)) g9), (41, .one .str r11.1)]) rfl ?_
        refine r_lits (B := 16) tabOk rfl el9 rfl rfl rfl (.cons rfl .nil) rfl fun v18 => ?_
        obtain ⟨hc, h⟩ := ite_ex h
        refine r_append (B := 16) tabOk 1 rfl rfl (src_own 0 rfl rfl) rfl el9 rfl rfl hc rfl fun v20 => ?_
        refine r_lose (L' := [Res.own v20 9 .str (s8.2.2 ++ [r11.1])]) (.cons _ (.cons_cons _ .slnil)) ?_
        refine r_pure tabOk 1 [0, 1, 7, 8, 11] (E' := [(0, .one .str a0), (1, .one (.int .i64) s8.1), (7, .one (.raw (.slice none 0 0)) v20), (8, .one (.int .i64) s8.2.1), (11, .one (.int .i64) r11.2.1)]) rfl ?_
        refine r_nil ?_
        refine r_then ?_
        refine r_seq ?_
        refine r_region ?_
        refine r_pure tabOk 4 [0, 1, 7, 8] (E' := [(0, .one .str a0), (1, .one (.int .i64) s8.1), (7, .one (.raw (.slice none 0 0)) v20), (8, .one (.int .i64) (IntKind.wrap .i64 (s8.2.1 + r11.2.1)))]) rfl ?_
        obtain ⟨at21, hat21, h⟩ := bnd_ex h
        rw [hat21]
        refine r_nil ?_
        refine r_then ?_
        refine r_region ?_
        refine r_pure tabOk 3 [0, 1, 7, 8] (E' := [(0, .one .str a0), (1, .one (.int .i64) (IntKind.wrap .i64 (s8.1 + 1))), (7, .one (.raw (.slice none 0 0)) v20), (8, .one (.int .i64) at21)]) rfl ?_
        obtain ⟨n22, hn22, h⟩ := bnd_ex h
        rw [hn22]
        refine r_nil ?_
        refine r_inblock ?_
        refine r_then ?_
        refine r_less [0, 1, 7, 8] rfl ?_
        exact r_backg (n22, at21, (s8.2.2 ++ [r11.1])) v20 (Nat.lt_succ_self _) h rfl rfl
  · intro o3 g4 h
    rw [← hk2] at h
    try dsimp only at h
    refine r_seq ?_
    refine r_region ?_
    refine r_pure tabOk 6 [4, 5, 6] (E' := [(4, .one (.raw (.slice none 0 0)) g4), (5, .one (.int .i64) o3.1), (6, .one .bool o3.2.1)]) rfl ?_
    refine r_nil ?_
    refine r_then ?_
    refine r_ret ?_
    refine t_scope ?_
    obtain rfl := Option.some.inj h
    exact r_rets (rs := [.tmp 4, .tmp 5, .tmp 6]) rfl (.cons (.tmp rfl) (.cons (.tmp rfl) (.cons (.tmp rfl) (.nil)))) rfl (fun _ vs g => by cases g with | cons h0 g => cases g with | cons h1 g => cases g with | cons h2 g => cases g; exact ⟨_, rfl, .cons (raw_self h0) (.cons h1 (.cons h2 (.nil)))⟩) (fun _ vs g => by cases g with | cons h0 g => cases g with | cons h1 g => cases g with | cons h2 g => cases g; rw [raw_eq h0]; exact (.cons_cons _ .slnil))

theorem escrowlaw05_first_ok  (r : Bool) (h : escrowlaw05_first  = some r) : Pure Try.prog 12 [] (.one .bool r) := by
  unfold escrowlaw05_first at h
  refine enter Try.func12 rfl 84 rfl rfl fun F => ?_
  refine r_seq ?_
  refine r_region ?_
  refine r_pure tabOk 1 [] (E' := []) rfl ?_
  refine r_nil ?_
  refine r_then ?_
  refine r_seq ?_
  refine r_region ?_
  obtain ⟨r1, hr1, h⟩ := bind_ex h
  refine r_calls (frame_Frame_ok 7 [97, 98] _ hr1) (by kernel_rfl) rfl rfl ?_
  refine r_pure tabOk 5 [1, 2] (E' := [(1, .one .str r1.1), (2, .one (.int .i64) r1.2)]) rfl ?_
  refine r_nil ?_
  refine r_then ?_
  refine r_seq ?_
  refine r_region ?_
  obtain ⟨r2, hr2, h⟩ := bind_ex h
  refine r_calls (frame_Frame_ok (-1) [] _ hr2) (by kernel_rfl) rfl rfl ?_
  refine r_pure tabOk 5 [1, 2, 4] (E' := [(1, .one .str r1.1), (2, .one (.int .i64) r1.2), (4, .one (.int .i64) r2.2)]) rfl ?_
  refine r_nil ?_
  refine r_then ?_
  refine r_seq ?_
  refine r_region ?_
  refine r_pure tabOk 1 [1, 2, 4, 23] (E' := [(1, .one .str r1.1), (2, .one (.int .i64) r1.2), (4, .one (.int .i64) r2.2), (23, .one .str r1.1)]) rfl ?_
  obtain ⟨r3, hr3, h⟩ := bind_ex h
  refine r_calls (frame_Next_ok r1.1 0 7 _ hr3) (by kernel_rfl) rfl rfl ?_
  refine r_pure tabOk 7 [1, 2, 4, 5, 6, 7] (E' := [(1, .one .str r1.1), (2, .one (.int .i64) r1.2), (4, .one (.int .i64) r2.2), (5, .one .str r3.1), (6, .one (.int .i64) r3.2.1), (7, .one (.int .i64) r3.2.2)]) rfl ?_
  refine r_nil ?_
  refine r_then ?_
  refine r_seq ?_
  refine r_region ?_
  refine r_pure tabOk 1 [1, 2, 4, 5, 6, 7, 29] (E' := [(1, .one .str r1.1), (2, .one (.int .i64) r1.2), (4, .one (.int .i64) r2.2), (5, .one .str r3.1), (6, .one (.int .i64) r3.2.1), (7, .one (.int .i64) r3.2.2), (29, .one .str r1.1)]) rfl ?_
  obtain ⟨r4, hr4, h⟩ := bind_ex h
  refine r_calls (frame_Next_ok r1.1 0 8 _ hr4) (by kernel_rfl) rfl rfl ?_
  refine r_pure tabOk 7 [1, 2, 4, 5, 6, 7, 10] (E' := [(1, .one .str r1.1), (2, .one (.int .i64) r1.2), (4, .one (.int .i64) r2.2), (5, .one .str r3.1), (6, .one (.int .i64) r3.2.1), (7, .one (.int .i64) r3.2.2), (10, .one (.int .i64) r4.2.2)]) rfl ?_
  refine r_nil ?_
  refine r_then ?_
  refine r_seq ?_
  refine r_region ?_
  refine r_pure tabOk 1 [1, 2, 4, 5, 6, 7, 10, 35] (E' := [(1, .one .str r1.1), (2, .one (.int .i64) r1.2), (4, .one (.int .i64) r2.2), (5, .one .str r3.1), (6, .one (.int .i64) r3.2.1), (7, .one (.int .i64) r3.2.2), (10, .one (.int .i64) r4.2.2), (35, .one .str r1.1)]) rfl ?_
  obtain ⟨hc, h⟩ := ite_ex h
  refine y (y_cat rfl rfl hc) rfl ?_
  obtain ⟨r5, hr5, h⟩ := bind_ex h
  refine r_call (Lo := []) (frame_Scan_ok (r1.1 ++ [120]) 7 _ hr5) (by kernel_rfl) (by simp) rfl rfl fun v6 => ?_
  refine r_pure tabOk 7 [1, 2, 4, 5, 6, 7, 10, 11, 12, 13] (E' := [(1, .one .str r1.1), (2, .one (.int .i64) r1.2), (4, .one (.int .i64) r2.2), (5, .one .str r3.1), (6, .one (.int .i64) r3.2.1), (7, .one (.int .i64) r3.2.2), (10, .one (.int .i64) r4.2.2), (11, .one (.raw (.slice none 0 0)) (tupv v6 0)), (12, .one (.int .i64) r5.2.1), (13, .one .bool r5.2.2)]) rfl ?_
  refine r_nil ?_
  refine r_then ?_
  refine r_seq ?_
  refine r_seq ?_
  refine r_region ?_
  refine r_pure tabOk 3 [1, 4, 5, 6, 7, 10, 11, 12, 13, 43] (E' := [(1, .one .str r1.1), (4, .one (.int .i64) r2.2), (5, .one .str r3.1), (6, .one (.int .i64) r3.2.1), (7, .one (.int .i64) r3.2.2), (10, .one (.int .i64) r4.2.2), (11, .one (.raw (.slice none 0 0)) (tupv v6 0)), (12, .one (.int .i64) r5.2.1), (13, .one .bool r5.2.2), (43, .one .bool (r1.2 != 0))]) rfl ?_
  obtain ⟨b8, hbb8, h⟩ := bnd_ex h
  rw [hbb8]
  refine r_lsplit (γ := Unit) 3 (fun _ => [(1, .one .str r1.1), (5, .one .str r3.1), (6, .one (.int .i64) r3.2.1), (7, .one (.int .i64) r3.2.2), (10, .one (.int .i64) r4.2.2), (11, .one (.raw (.slice none 0 0)) (tupv v6 0)), (12, .one (.int .i64) r5.2.1), (13, .one .bool r5.2.2), (46, .one .bool (b8 || (r2.2 != 1)))]) (fun _ => [Res.own (tupv v6 0) 9 .str r5.1]) ?_ (fun _ => ?_)
  · clear h
    cases b8 with
    | true =>
    refine r_pure tabOk 3 [1, 5, 6, 7, 10, 11, 12, 13, 46] (E' := [(1, .one .str r1.1), (5, .one .str r3.1), (6, .one (.int .i64) r3.2.1), (7, .one (.int .i64) r3.2.2), (10, .one (.int .i64) r4.2.2), (11, .one (.raw (.slice none 0 0)) (tupv v6 0)), (12, .one (.int .i64) r5.2.1), (13, .one .bool r5.2.2), (46, .one .bool true)]) rfl ?_
    refine r_nil ?_
    refine r_then ?_
    exact r_meetg () rfl rfl
    | false =>
    refine r_pure tabOk 3 [1, 5, 6, 7, 10, 11, 12, 13, 46] (E' := [(1, .one .str r1.1), (5, .one .str r3.1), (6, .one (.int .i64) r3.2.1), (7, .one (.int .i64) r3.2.2), (10, .one (.int .i64) r4.2.2), (11, .one (.raw (.slice none 0 0)) (tupv v6 0)), (12, .one (.int .i64) r5.2.1), (13, .one .bool r5.2.2), (46, .one .bool (r2.2 != 1))]) rfl ?_
    refine r_nil ?_
    refine r_then ?_
    exact r_meetg () rfl rfl
  refine r_pure tabOk 1 [1, 5, 6, 7, 10, 11, 12, 13, 47] (E' := [(1, .one .str r1.1), (5, .one .str r3.1), (6, .one (.int .i64) r3.2.1), (7, .one (.int .i64) r3.2.2), (10, .one (.int .i64) r4.2.2), (11, .one (.raw (.slice none 0 0)) (tupv v6 0)), (12, .one (.int .i64) r5.2.1), (13, .one .bool r5.2.2), (47, .one .bool (b8 || (r2.2 != 1)))]) rfl ?_
  obtain ⟨b9, hbb9, h⟩ := bnd_ex h
  rw [hbb9]
  refine r_lsplit (γ := Unit) 4 (fun _ => [(5, .one .str r3.1), (6, .one (.int .i64) r3.2.1), (7, .one (.int .i64) r3.2.2), (10, .one (.int .i64) r4.2.2), (11, .one (.raw (.slice none 0 0)) (tupv v6 0)), (12, .one (.int .i64) r5.2.1), (13, .one .bool r5.2.2), (51, .one .bool (b9 || ((List.length r1.1 : Int) != 64)))]) (fun _ => [Res.own (tupv v6 0) 9 .str r5.1]) ?_ (fun _ => ?_)
  · clear h
    cases b9 with
    | true =>
    refine r_pure tabOk 4 [5, 6, 7, 10, 11, 12, 13, 51] (E' := [(5, .one .str r3.1), (6, .one (.int .i64) r3.2.1), (7, .one (.int .i64) r3.2.2), (10, .one (.int .i64) r4.2.2), (11, .one (.raw (.slice none 0 0)) (tupv v6 0)), (12, .one (.int .i64) r5.2.1), (13, .one .bool r5.2.2), (51, .one .bool true)]) rfl ?_
    refine r_nil ?_
    refine r_then ?_
    exact r_meetg () rfl rfl
    | false =>
    refine r_pure tabOk 4 [5, 6, 7, 10, 11, 12, 13, 51] (E' := [(5, .one .str r3.1), (6, .one (.int .i64) r3.2.1), (7, .one (.int .i64) r3.2.2), (10, .one (.int .i64) r4.2.2), (11, .one (.raw (.slice none 0 0)) (tupv v6 0)), (12, .one (.int .i64) r5.2.1), (13, .one .bool r5.2.2), (51, .one .bool ((List.length r1.1 : Int) != 64))]) rfl ?_
    refine r_nil ?_
    refine r_then ?_
    exact r_meetg () rfl rfl
  refine r_pure tabOk 1 [5, 6, 7, 10, 11, 12, 13, 52] (E' := [(5, .one .str r3.1), (6, .one (.int .i64) r3.2.1), (7, .one (.int .i64) r3.2.2), (10, .one (.int .i64) r4.2.2), (11, .one (.raw (.slice none 0 0)) (tupv v6 0)), (12, .one (.int .i64) r5.2.1), (13, .one .bool r5.2.2), (52, .one .bool (b9 || ((List.length r1.1 : Int) != 64)))]) rfl ?_
  obtain ⟨b10, hbb10, h⟩ := bnd_ex h
  rw [hbb10]
  refine r_lsplit (γ := Unit) 3 (fun _ => [(6, .one (.int .i64) r3.2.1), (7, .one (.int .i64) r3.2.2), (10, .one (.int .i64) r4.2.2), (11, .one (.raw (.slice none 0 0)) (tupv v6 0)), (12, .one (.int .i64) r5.2.1), (13, .one .bool r5.2.2), (55, .one .bool (b10 || (r3.1 != [97, 98])))]) (fun _ => [Res.own (tupv v6 0) 9 .str r5.1]) ?_ (fun _ => ?_)
  · clear h
    cases b10 with
    | true =>
    refine r_pure tabOk 3 [6, 7, 10, 11, 12, 13, 55] (E' := [(6, .one (.int .i64) r3.2.1), (7, .one (.int .i64) r3.2.2), (10, .one (.int .i64) r4.2.2), (11, .one (.raw (.slice none 0 0)) (tupv v6 0)), (12, .one (.int .i64) r5.2.1), (13, .one .bool r5.2.2), (55, .one .bool true)]) rfl ?_
    refine r_nil ?_
    refine r_then ?_
    exact r_meetg () rfl rfl
    | false =>
    refine r_pure tabOk 3 [6, 7, 10, 11, 12, 13, 55] (E' := [(6, .one (.int .i64) r3.2.1), (7, .one (.int .i64) r3.2.2), (10, .one (.int .i64) r4.2.2), (11, .one (.raw (.slice none 0 0)) (tupv v6 0)), (12, .one (.int .i64) r5.2.1), (13, .one .bool r5.2.2), (55, .one .bool (r3.1 != [97, 98]))]) rfl ?_
    refine r_nil ?_
    refine r_then ?_
    exact r_meetg () rfl rfl
  refine r_pure tabOk 1 [6, 7, 10, 11, 12, 13, 56] (E' := [(6, .one (.int .i64) r3.2.1), (7, .one (.int .i64) r3.2.2), (10, .one (.int .i64) r4.2.2), (11, .one (.raw (.slice none 0 0)) (tupv v6 0)), (12, .one (.int .i64) r5.2.1), (13, .one .bool r5.2.2), (56, .one .bool (b10 || (r3.1 != [97, 98])))]) rfl ?_
  obtain ⟨b11, hbb11, h⟩ := bnd_ex h
  rw [hbb11]
  refine r_lsplit (γ := Unit) 3 (fun _ => [(7, .one (.int .i64) r3.2.2), (10, .one (.int .i64) r4.2.2), (11, .one (.raw (.slice none 0 0)) (tupv v6 0)), (12, .one (.int .i64) r5.2.1), (13, .one .bool r5.2.2), (59, .one .bool (b11 || (r3.2.1 != 64)))]) (fun _ => [Res.own (tupv v6 0) 9 .str r5.1]) ?_ (fun _ => ?_)
  · clear h
    cases b11 with
    | true =>
    refine r_pure tabOk 3 [7, 10, 11, 12, 13, 59] (E' := [(7, .one (.int .i64) r3.2.2), (10, .one (.int .i64) r4.2.2), (11, .one (.raw (.slice none 0 0)) (tupv v6 0)), (12, .one (.int .i64) r5.2.1), (13, .one .bool r5.2.2), (59, .one .bool true)]) rfl ?_
    refine r_nil ?_
    refine r_then ?_
    exact r_meetg () rfl rfl
    | false =>
    refine r_pure tabOk 3 [7, 10, 11, 12, 13, 59] (E' := [(7, .one (.int .i64) r3.2.2), (10, .one (.int .i64) r4.2.2), (11, .one (.raw (.slice none 0 0)) (tupv v6 0)), (12, .one (.int .i64) r5.2.1), (13, .one .bool r5.2.2), (59, .one .bool (r3.2.1 != 64))]) rfl ?_
    refine r_nil ?_
    refine r_then ?_
    exact r_meetg () rfl rfl
  refine r_pure tabOk 1 [7, 10, 11, 12, 13, 60] (E' := [(7, .one (.int .i64) r3.2.2), (10, .one (.int .i64) r4.2.2), (11, .one (.raw (.slice none 0 0)) (tupv v6 0)), (12, .one (.int .i64) r5.2.1), (13, .one .bool r5.2.2), (60, .one .bool (b11 || (r3.2.1 != 64)))]) rfl ?_
  obtain ⟨b12, hbb12, h⟩ := bnd_ex h
  rw [hbb12]
  refine r_lsplit (γ := Unit) 3 (fun _ => [(10, .one (.int .i64) r4.2.2), (11, .one (.raw (.slice none 0 0)) (tupv v6 0)), (12, .one (.int .i64) r5.2.1), (13, .one .bool r5.2.2), (63, .one .bool (b12 || (r3.2.2 != 1)))]) (fun _ => [Res.own (tupv v6 0) 9 .str r5.1]) ?_ (fun _ => ?_)
  · clear h
    cases b12 with
    | true =>
    refine r_pure tabOk 3 [10, 11, 12, 13, 63] (E' := [(10, .one (.int .i64) r4.2.2), (11, .one (.raw (.slice none 0 0)) (tupv v6 0)), (12, .one (.int .i64) r5.2.1), (13, .one .bool r5.2.2), (63, .one .bool true)]) rfl ?_
    refine r_nil ?_
    refine r_then ?_
    exact r_meetg () rfl rfl
    | false =>
    refine r_pure tabOk 3 [10, 11, 12, 13, 63] (E' := [(10, .one (.int .i64) r4.2.2), (11, .one (.raw (.slice none 0 0)) (tupv v6 0)), (12, .one (.int .i64) r5.2.1), (13, .one .bool r5.2.2), (63, .one .bool (r3.2.2 != 1))]) rfl ?_
    refine r_nil ?_
    refine r_then ?_
    exact r_meetg () rfl rfl
  refine r_pure tabOk 1 [10, 11, 12, 13, 64] (E' := [(10, .one (.int .i64) r4.2.2), (11, .one (.raw (.slice none 0 0)) (tupv v6 0)), (12, .one (.int .i64) r5.2.1), (13, .one .bool r5.2.2), (64, .one .bool (b12 || (r3.2.2 != 1)))]) rfl ?_
  obtain ⟨b13, hbb13, h⟩ := bnd_ex h
  rw [hbb13]
  refine r_lsplit (γ := Unit) 3 (fun _ => [(11, .one (.raw (.slice none 0 0)) (tupv v6 0)), (12, .one (.int .i64) r5.2.1), (13, .one .bool r5.2.2), (67, .one .bool (b13 || (r4.2.2 != 2)))]) (fun _ => [Res.own (tupv v6 0) 9 .str r5.1]) ?_ (fun _ => ?_)
  · clear h
    cases b13 with
    | true =>
    refine r_pure tabOk 3 [11, 12, 13, 67] (E' := [(11, .one (.raw (.slice none 0 0)) (tupv v6 0)), (12, .one (.int .i64) r5.2.1), (13, .one .bool r5.2.2), (67, .one .bool true)]) rfl ?_
    refine r_nil ?_
    refine r_then ?_
    exact r_meetg () rfl rfl
    | false =>
    refine r_pure tabOk 3 [11, 12, 13, 67] (E' := [(11, .one (.raw (.slice none 0 0)) (tupv v6 0)), (12, .one (.int .i64) r5.2.1), (13, .one .bool r5.2.2), (67, .one .bool (r4.2.2 != 2))]) rfl ?_
    refine r_nil ?_
    refine r_then ?_
    exact r_meetg () rfl rfl
  refine r_nil ?_
  refine r_then ?_
  refine r_if (b := (b13 || (r4.2.2 != 2))) rfl (fun hc => ?_) (fun hc => ?_)
  · rw [if_pos hc] at h
    refine r_seq ?_
    refine r_region ?_
    refine r_pure tabOk 1 [0] (E' := [(0, .one .bool false)]) rfl ?_
    refine r_nil ?_
    refine r_then ?_
    refine r_ret ?_
    refine t_then ?_
    obtain rfl := Option.some.inj h
    exact r_ret1 rfl (.tmp rfl) (fun _ _ g => g) (fun _ _ _ => List.nil_sublist _)
  · rw [if_neg (ne_true_of_eq_false hc)] at h
    refine r_skip ?_
    refine r_then ?_
    refine r_seq ?_
    refine r_region ?_
    refine r_pure tabOk 1 [11, 12, 13, 68] (E' := [(11, .one (.raw (.slice none 0 0)) (tupv v6 0)), (12, .one (.int .i64) r5.2.1), (13, .one .bool r5.2.2), (68, .one (.raw (.slice none 0 0)) (tupv v6 0))]) rfl ?_
    refine y (y_lenown tabOk 0 rfl rfl rfl) rfl ?_
    refine r_pure tabOk 2 [11, 12, 13, 71] (E' := [(11, .one (.raw (.slice none 0 0)) (tupv v6 0)), (12, .one (.int .i64) r5.2.1), (13, .one .bool r5.2.2), (71, .one .bool ((List.length r5.1 : Int) == 1))]) rfl ?_
    obtain ⟨b14, hbb14, h⟩ := bnd_ex h
    rw [hbb14]
    obtain ⟨k15, hk15, h⟩ := bnd_ex h
    refine r_lsplitk (γ := Unit) 5 (fun (o16 : Bool) _ => [(12, .one (.int .i64) r5.2.1), (13, .one .bool r5.2.2), (76, .one .bool o16)]) (fun _ _ => [Res.own (tupv v6 0) 9 .str r5.1]) k15 r ?_ ?_
    · rcases Bool.eq_false_or_eq_true b14 with hh | hh
      · rw [hh] at h ⊢
        rw [if_pos rfl] at h
        refine r_pure tabOk 1 [12, 13, 71, 72] (E' := [(12, .one (.int .i64) r5.2.1), (13, .one .bool r5.2.2), (71, .one .bool true), (72, .one (.raw (.slice none 0 0)) (tupv v6 0))]) rfl ?_
        refine r_guard (by rfl) rfl ?_
        obtain ⟨hc, h⟩ := ite_ex h
        refine r_expose 0 rfl (by omega) fun b17 c18 hv => ?_
        rw [hv]
        try clear hv
        refine y (y_iraw tabOk rfl rfl hc.1 (by simpa using hc.2) rfl ty9) rfl ?_
        refine r_guard (by rfl) rfl ?_
        refine y (y_lown 0 0 .here rfl rfl (by omega) (by first | rfl | (simp only [Pth.off, T.size]; omega)) ok_here ty9) rfl ?_
        refine r_pure tabOk 2 [12, 13, 76] (E' := [(12, .one (.int .i64) r5.2.1), (13, .one .bool r5.2.2), (76, .one .bool ((List.getD r5.1 0 []) == [97, 98]))]) rfl ?_
        refine r_nil ?_
        refine r_less [12, 13, 76] rfl ?_
        refine r_then ?_
        exact r_meetk ((List.getD r5.1 0 []) == [97, 98]) () h rfl rfl
      · rw [hh] at h ⊢
        rw [if_neg (by decide)] at h
        refine r_pure tabOk 5 [12, 13, 76] (E' := [(12, .one (.int .i64) r5.2.1), (13, .one .bool r5.2.2), (76, .one .bool false)]) rfl ?_
        refine r_nil ?_
        refine r_less [12, 13, 76] rfl ?_
        refine r_then ?_
        exact r_meetk false () h rfl rfl
    · intro o16 _ h
      rw [← hk15] at h
      try dsimp only at h
      refine r_pure tabOk 1 [12, 13, 77] (E' := [(12, .one (.int .i64) r5.2.1), (13, .one .bool r5.2.2), (77, .one .bool o16)]) rfl ?_
      refine r_lsplit (γ := Unit) 3 (fun _ => [(13, .one .bool r5.2.2), (80, .one .bool (o16 && (r5.2.1 == 64)))]) (fun _ => [Res.own (tupv v6 0) 9 .str r5.1]) ?_ (fun _ => ?_)
      · clear h
        rcases Bool.eq_false_or_eq_true o16 with hh | hh
        · rw [hh]
          refine r_pure tabOk 3 [13, 80] (E' := [(13, .one .bool r5.2.2), (80, .one .bool (r5.2.1 == 64))]) rfl ?_
          refine r_nil ?_
          refine r_then ?_
          exact r_meetg () rfl rfl
        · rw [hh]
          refine r_pure tabOk 3 [13, 80] (E' := [(13, .one .bool r5.2.2), (80, .one .bool false)]) rfl ?_
          refine r_nil ?_
          refine r_then ?_
          exact r_meetg () rfl rfl
      refine r_pure tabOk 1 [13, 81] (E' := [(13, .one .bool r5.2.2), (81, .one .bool (o16 && (r5.2.1 == 64)))]) rfl ?_
      obtain ⟨b20, hbb20, h⟩ := bnd_ex h
      rw [hbb20]
      refine r_lsplit (γ := Unit) 2 (fun _ => [(83, .one .bool (b20 && r5.2.2))]) (fun _ => [Res.own (tupv v6 0) 9 .str r5.1]) ?_ (fun _ => ?_)
      · clear h
        cases b20 with
        | true =>
        refine r_pure tabOk 2 [83] (E' := [(83, .one .bool r5.2.2)]) rfl ?_
        refine r_nil ?_
        refine r_then ?_
        exact r_meetg () rfl rfl
        | false =>
        refine r_pure tabOk 2 [83] (E' := [(83, .one .bool false)]) rfl ?_
        refine r_nil ?_
        refine r_then ?_
        exact r_meetg () rfl rfl
      refine r_pure tabOk 1 [0] (E' := [(0, .one .bool (b20 && r5.2.2))]) rfl ?_
      refine r_nil ?_
      refine r_then ?_
      refine r_ret ?_
      obtain rfl := Option.some.inj h
      exact r_ret1 rfl (.tmp rfl) (fun _ _ g => g) (fun _ _ _ => List.nil_sublist _)

theorem escrowlaw05_FrameWrites_ok (a0 : Int) (a1 : List Int) (r : Bool) (h : escrowlaw05_FrameWrites a0 a1 = some r) : Pure Try.prog 3 [.one (.int .i64) a0, .one .str a1] (.one .bool r) := by
  unfold escrowlaw05_FrameWrites at h
  refine enter Try.func3 rfl 32 rfl rfl fun F => ?_
  refine r_seq ?_
  refine r_region ?_
  refine r_pure tabOk 1 [0, 1] (E' := [(0, .one (.int .i64) a0), (1, .one .str a1)]) rfl ?_
  refine r_nil ?_
  refine r_then ?_
  refine r_seq ?_
  refine r_region ?_
  refine r_pure tabOk 2 [0, 1, 10, 11] (E' := [(0, .one (.int .i64) a0), (1, .one .str a1), (10, .one (.int .i64) a0), (11, .one .str a1)]) rfl ?_
  obtain ⟨r1, hr1, h⟩ := bind_ex h
  refine r_calls (frame_Frame_ok a0 a1 _ hr1) (by kernel_rfl) rfl rfl ?_
  refine r_pure tabOk 5 [0, 1, 5, 6] (E' := [(0, .one (.int .i64) a0), (1, .one .str a1), (5, .one .str r1.1), (6, .one (.int .i64) r1.2)]) rfl ?_
  refine r_nil ?_
  refine r_then ?_
  refine r_seq ?_
  refine r_region ?_
  refine r_pure tabOk 2 [5, 6, 16, 17] (E' := [(5, .one .str r1.1), (6, .one (.int .i64) r1.2), (16, .one (.int .i64) a0), (17, .one .str a1)]) rfl ?_
  obtain ⟨r2, hr2, h⟩ := bind_ex h
  refine r_calls (escrowref05_Frame_ok a0 a1 _ hr2) (by kernel_rfl) rfl rfl ?_
  refine r_pure tabOk 5 [5, 6, 7, 8] (E' := [(5, .one .str r1.1), (6, .one (.int .i64) r1.2), (7, .one .str r2.1), (8, .one (.int .i64) r2.2)]) rfl ?_
  refine r_nil ?_
  refine r_then ?_
  refine r_seq ?_
  refine r_region ?_
  obtain ⟨r3, hr3, h⟩ := bind_ex h
  refine r_calls (escrowlaw05_first_ok  _ hr3) (by kernel_rfl) rfl rfl ?_
  refine r_pure tabOk 1 [5, 6, 7, 8, 22] (E' := [(5, .one .str r1.1), (6, .one (.int .i64) r1.2), (7, .one .str r2.1), (8, .one (.int .i64) r2.2), (22, .one .bool r3)]) rfl ?_
  refine r_lsplit (γ := Unit) 4 (fun _ => [(6, .one (.int .i64) r1.2), (8, .one (.int .i64) r2.2), (26, .one .bool (r3 && (r1.1 == r2.1)))]) (fun _ => []) ?_ (fun _ => ?_)
  · clear h
    rcases Bool.eq_false_or_eq_true r3 with hh | hh
    · rw [hh]
      refine r_pure tabOk 4 [6, 8, 26] (E' := [(6, .one (.int .i64) r1.2), (8, .one (.int .i64) r2.2), (26, .one .bool (r1.1 == r2.1))]) rfl ?_
      refine r_nil ?_
      refine r_then ?_
      exact r_meetg () rfl rfl
    · rw [hh]
      refine r_pure tabOk 4 [6, 8, 26] (E' := [(6, .one (.int .i64) r1.2), (8, .one (.int .i64) r2.2), (26, .one .bool false)]) rfl ?_
      refine r_nil ?_
      refine r_then ?_
      exact r_meetg () rfl rfl
  refine r_pure tabOk 1 [6, 8, 27] (E' := [(6, .one (.int .i64) r1.2), (8, .one (.int .i64) r2.2), (27, .one .bool (r3 && (r1.1 == r2.1)))]) rfl ?_
  obtain ⟨b5, hbb5, h⟩ := bnd_ex h
  rw [hbb5]
  refine r_lsplit (γ := Unit) 4 (fun _ => [(31, .one .bool (b5 && (r1.2 == r2.2)))]) (fun _ => []) ?_ (fun _ => ?_)
  · clear h
    cases b5 with
    | true =>
    refine r_pure tabOk 4 [31] (E' := [(31, .one .bool (r1.2 == r2.2))]) rfl ?_
    refine r_nil ?_
    refine r_then ?_
    exact r_meetg () rfl rfl
    | false =>
    refine r_pure tabOk 4 [31] (E' := [(31, .one .bool false)]) rfl ?_
    refine r_nil ?_
    refine r_then ?_
    exact r_meetg () rfl rfl
  refine r_pure tabOk 1 [4] (E' := [(4, .one .bool (b5 && (r1.2 == r2.2)))]) rfl ?_
  refine r_nil ?_
  refine r_then ?_
  refine r_ret ?_
  obtain rfl := Option.some.inj h
  exact r_ret1 rfl (.tmp rfl) (fun _ _ g => g) (fun _ _ _ => List.nil_sublist _)

theorem escrowref05_Next_ok (a0 : List Int) (a1 : Int) (a2 : Int) (r : List Int × Int × Int) (h : escrowref05_Next a0 a1 a2 = some r) : Pure Try.prog 14 [.one .str a0, .one (.int .i64) a1, .one (.int .i64) a2] (.tup [⟨.str, r.1⟩, ⟨(.int .i64), r.2.1⟩, ⟨(.int .i64), r.2.2⟩]) := by
  unfold escrowref05_Next at h
  refine enter Try.func14 rfl 87 rfl rfl fun F => ?_
  refine r_seq ?_
  refine r_region ?_
  refine r_pure tabOk 3 [0, 1, 2] (E' := [(0, .one .str a0), (1, .one (.int .i64) a1), (2, .one (.int .i64) a2)]) rfl ?_
  refine r_nil ?_
  refine r_then ?_
  refine r_seq ?_
  refine r_seq ?_
  refine r_region ?_
  refine r_pure tabOk 4 [0, 1, 2, 17] (E' := [(0, .one .str a0), (1, .one (.int .i64) a1), (2, .one (.int .i64) a2), (17, .one .bool (a1 == (List.length a0 : Int)))]) rfl ?_
  refine r_nil ?_
  refine r_then ?_
  refine r_if (b := (a1 == (List.length a0 : Int))) rfl (fun hc => ?_) (fun hc => ?_)
  · rw [if_pos hc] at h
    refine r_seq ?_
    refine r_region ?_
    refine r_pure tabOk 3 [6, 7, 8] (E' := [(6, .one .str []), (7, .one (.int .i64) 0), (8, .one (.int .i64) 0)]) rfl ?_
    refine r_nil ?_
    refine r_then ?_
    refine r_ret ?_
    refine t_then ?_
    obtain rfl := Option.some.inj h
    exact r_rets (rs := [.tmp 6, .tmp 7, .tmp 8]) rfl (.cons (.tmp rfl) (.cons (.tmp rfl) (.cons (.tmp rfl) (.nil)))) rfl (fun _ vs g => tup_ok vs g) (fun _ _ _ => List.nil_sublist _)
  · rw [if_neg (ne_true_of_eq_false hc)] at h
    refine r_skip ?_
    refine r_then ?_
    refine r_seq ?_
    refine r_seq ?_
    refine r_region ?_
    refine r_pure tabOk 3 [0, 1, 2, 20] (E' := [(0, .one .str a0), (1, .one (.int .i64) a1), (2, .one (.int .i64) a2), (20, .one .bool (decide (a1 < 0)))]) rfl ?_
    obtain ⟨b1, hbb1, h⟩ := bnd_ex h
    rw [hbb1]
    refine r_lsplit (γ := Unit) 5 (fun _ => [(0, .one .str a0), (1, .one (.int .i64) a1), (2, .one (.int .i64) a2), (25, .one .bool (b1 || (decide (a1 > (List.length a0 : Int)))))]) (fun _ => []) ?_ (fun _ => ?_)
    · clear h
      cases b1 with
      | true =>
      refine r_pure tabOk 5 [0, 1, 2, 25] (E' := [(0, .one .str a0), (1, .one (.int .i64) a1), (2, .one (.int .i64) a2), (25, .one .bool true)]) rfl ?_
      refine r_nil ?_
      refine r_then ?_
      exact r_meetg () rfl rfl
      | false =>
      refine r_pure tabOk 5 [0, 1, 2, 25] (E' := [(0, .one .str a0), (1, .one (.int .i64) a1), (2, .one (.int .i64) a2), (25, .one .bool (decide (a1 > (List.length a0 : Int))))]) rfl ?_
      refine r_nil ?_
      refine r_then ?_
      exact r_meetg () rfl rfl
    refine r_pure tabOk 1 [0, 1, 2, 26] (E' := [(0, .one .str a0), (1, .one (.int .i64) a1), (2, .one (.int .i64) a2), (26, .one .bool (b1 || (decide (a1 > (List.length a0 : Int)))))]) rfl ?_
    obtain ⟨b2, hbb2, h⟩ := bnd_ex h
    rw [hbb2]
    refine r_lsplit (γ := Unit) 3 (fun _ => [(0, .one .str a0), (1, .one (.int .i64) a1), (2, .one (.int .i64) a2), (29, .one .bool (b2 || (decide (a2 < 0))))]) (fun _ => []) ?_ (fun _ => ?_)
    · clear h
      cases b2 with
      | true =>
      refine r_pure tabOk 3 [0, 1, 2, 29] (E' := [(0, .one .str a0), (1, .one (.int .i64) a1), (2, .one (.int .i64) a2), (29, .one .bool true)]) rfl ?_
      refine r_nil ?_
      refine r_then ?_
      exact r_meetg () rfl rfl
      | false =>
      refine r_pure tabOk 3 [0, 1, 2, 29] (E' := [(0, .one .str a0), (1, .one (.int .i64) a1), (2, .one (.int .i64) a2), (29, .one .bool (decide (a2 < 0)))]) rfl ?_
      refine r_nil ?_
      refine r_then ?_
      exact r_meetg () rfl rfl
    refine r_pure tabOk 1 [0, 1, 2, 30] (E' := [(0, .one .str a0), (1, .one (.int .i64) a1), (2, .one (.int .i64) a2), (30, .one .bool (b2 || (decide (a2 < 0))))]) rfl ?_
    obtain ⟨b3, hbb3, h⟩ := bnd_ex h
    rw [hbb3]
    refine r_lsplit (γ := Unit) 6 (fun _ => [(0, .one .str a0), (1, .one (.int .i64) a1), (2, .one (.int .i64) a2), (36, .one .bool (b3 || (decide ((IntKind.wrap .i64 ((List.length a0 : Int) - a1)) < 16))))]) (fun _ => []) ?_ (fun _ => ?_)
    · clear h
      cases b3 with
      | true =>
      refine r_pure tabOk 6 [0, 1, 2, 36] (E' := [(0, .one .str a0), (1, .one (.int .i64) a1), (2, .one (.int .i64) a2), (36, .one .bool true)]) rfl ?_
      refine r_nil ?_
      refine r_then ?_
      exact r_meetg () rfl rfl
      | false =>
      refine r_pure tabOk 6 [0, 1, 2, 36] (E' := [(0, .one .str a0), (1, .one (.int .i64) a1), (2, .one (.int .i64) a2), (36, .one .bool (decide ((IntKind.wrap .i64 ((List.length a0 : Int) - a1)) < 16)))]) rfl ?_
      refine r_nil ?_
      refine r_then ?_
      exact r_meetg () rfl rfl
    refine r_nil ?_
    refine r_then ?_
    refine r_if (b := (b3 || (decide ((IntKind.wrap .i64 ((List.length a0 : Int) - a1)) < 16)))) rfl (fun hc => ?_) (fun hc => ?_)
    · rw [if_pos hc] at h
      refine r_seq ?_
      refine r_region ?_
      refine r_pure tabOk 3 [6, 7, 8] (E' := [(6, .one .str []), (7, .one (.int .i64) 0), (8, .one (.int .i64) 2)]) rfl ?_
      refine r_nil ?_
      refine r_then ?_
      refine r_ret ?_
      refine t_then ?_
      obtain rfl := Option.some.inj h
      exact r_rets (rs := [.tmp 6, .tmp 7, .tmp 8]) rfl (.cons (.tmp rfl) (.cons (.tmp rfl) (.cons (.tmp rfl) (.nil)))) rfl (fun _ vs g => tup_ok vs g) (fun _ _ _ => List.nil_sublist _)
    · rw [if_neg (ne_true_of_eq_false hc)] at h
      refine r_skip ?_
      refine r_then ?_
      refine r_seq ?_
      refine r_region ?_
      refine r_pure tabOk 1 [0, 1, 2, 9] (E' := [(0, .one .str a0), (1, .one (.int .i64) a1), (2, .one (.int .i64) a2), (9, .one (.int .i64) 0)]) rfl ?_
      refine r_nil ?_
      refine r_then ?_
      obtain ⟨k4, hk4, h⟩ := bnd_ex h
      refine r_joink (γ := Unit) (fun (o5 : Int) _ => [(0, .one .str a0), (1, .one (.int .i64) a1), (2, .one (.int .i64) a2), (9, .one (.int .i64) o5)]) (fun (o5 : Int) _ => []) k4 r ?_ ?_
      · refine r_seq ?_
        refine r_region ?_
        refine r_pure tabOk 1 [0, 1, 2, 9, 10] (E' := [(0, .one .str a0), (1, .one (.int .i64) a1), (2, .one (.int .i64) a2), (9, .one (.int .i64) 0), (10, .one (.int .i64) 0)]) rfl ?_
        refine r_nil ?_
        refine r_then ?_
        refine r_block ?_
        refine r_less [0, 1, 2, 9, 10] rfl ?_
        refine r_loopg (γ := Unit) (fun (s16 : Int × Int) _ => [(0, .one .str a0), (1, .one (.int .i64) a1), (2, .one (.int .i64) a2), (9, .one (.int .i64) s16.1), (10, .one (.int .i64) s16.2)]) (fun (s16 : Int × Int) _ => []) (escrowref05_Next_l0 a0 a1 k4) (0, 0) () h rfl rfl ?_
        clear h
        intro m17 s16 gg h
        cases m17 with
        | zero => cases h
        | succ m17 =>
        simp only [escrowref05_Next_l0] at h
        refine r_seq ?_
        refine r_seq ?_
        refine r_region ?_
        refine r_pure tabOk 2 [0, 1, 2, 9, 10, 38] (E' := [(0, .one .str a0), (1, .one (.int .i64) a1), (2, .one (.int .i64) a2), (9, .one (.int .i64) s16.1), (10, .one (.int .i64) s16.2), (38, .one .bool (decide (s16.2 < 4)))]) rfl ?_
        refine r_nil ?_
        refine r_then ?_
        refine r_if (b := (decide (s16.2 < 4))) rfl (fun hc => ?_) (fun hc => ?_)
        · rw [if_pos hc] at h
          refine r_skip ?_
          refine r_then ?_
          refine r_seq ?_
          refine r_block ?_
          refine r_region ?_
          refine r_pure tabOk 6 [0, 1, 2, 10, 42, 43, 46] (E' := [(0, .one .str a0), (1, .one (.int .i64) a1), (2, .one (.int .i64) a2), (10, .one (.int .i64) s16.2), (42, .one (.int .i64) (IntKind.wrap .i64 (256 * s16.1))), (43, .one .str a0), (46, .one (.int .i64) (IntKind.wrap .i64 (a1 + s16.2)))]) rfl ?_
          obtain ⟨hc, h⟩ := ite_ex h
          refine y (y_byte tabOk rfl rfl hc.1 hc.2 rfl) rfl ?_
          refine r_pure tabOk 2 [0, 1, 2, 10, 49] (E' := [(0, .one .str a0), (1, .one (.int .i64) a1), (2, .one (.int .i64) a2), (10, .one (.int .i64) s16.2), (49, .one (.int .i64) (IntKind.wrap .i64 ((IntKind.wrap .i64 (256 * s16.1)) + (IntKind.wrap .i64 (List.getD a0 (Int.toNat (IntKind.wrap .i64 (a1 + s16.2))) 0)))))]) rfl ?_
          obtain ⟨t18, ht18, h⟩ := bnd_ex h
          rw [ht18]
          refine r_pure tabOk 1 [0, 1, 2, 9, 10] (E' := [(0, .one .str a0), (1, .one (.int .i64) a1), (2, .one (.int .i64) a2), (9, .one (.int .i64) t18), (10, .one (.int .i64) s16.2)]) rfl ?_
          refine r_nil ?_
          refine r_inblock ?_
          refine r_then ?_
          refine r_region ?_
          refine r_pure tabOk 3 [0, 1, 2, 9, 10] (E' := [(0, .one .str a0), (1, .one (.int .i64) a1), (2, .one (.int .i64) a2), (9, .one (.int .i64) t18), (10, .one (.int .i64) (IntKind.wrap .i64 (s16.2 + 1)))]) rfl ?_
          obtain ⟨i19, hi19, h⟩ := bnd_ex h
          rw [hi19]
          refine r_nil ?_
          refine r_then ?_
          refine r_less [0, 1, 2, 9, 10] rfl ?_
          exact r_backg (t18, i19) () (Nat.lt_succ_self _) h rfl rfl
        · rw [if_neg (ne_true_of_eq_false hc)] at h
          refine r_exit ?_
          refine e_then ?_
          refine e_then ?_
          refine e_eq ?_
          refine r_then ?_
          refine r_less [0, 1, 2, 9] rfl ?_
          exact r_meetk s16.1 () h rfl rfl
      · intro o5 gg h
        rw [← hk4] at h
        try dsimp only at h
        refine r_seq ?_
        refine r_seq ?_
        refine r_region ?_
        refine r_pure tabOk 3 [0, 1, 2, 9, 52] (E' := [(0, .one .str a0), (1, .one (.int .i64) a1), (2, .one (.int .i64) a2), (9, .one (.int .i64) o5), (52, .one .bool (decide (o5 > 65536)))]) rfl ?_
        obtain ⟨b6, hbb6, h⟩ := bnd_ex h
        rw [hbb6]
        obtain ⟨k7, hk7, h⟩ := bnd_ex h
        refine r_lsplitk (γ := Unit) 8 (fun (o8 : Bool) _ => [(0, .one .str a0), (1, .one (.int .i64) a1), (2, .one (.int .i64) a2), (9, .one (.int .i64) o5), (60, .one .bool o8)]) (fun _ _ => []) k7 r ?_ ?_
        · rcases Bool.eq_false_or_eq_true b6 with hh | hh
          · rw [hh] at h ⊢
            rw [if_pos rfl] at h
            refine r_pure tabOk 8 [0, 1, 2, 9, 60] (E' := [(0, .one .str a0), (1, .one (.int .i64) a1), (2, .one (.int .i64) a2), (9, .one (.int .i64) o5), (60, .one .bool true)]) rfl ?_
            refine r_nil ?_
            refine r_less [0, 1, 2, 9, 60] rfl ?_
            refine r_then ?_
            exact r_meetk true () h rfl rfl
          · rw [hh] at h ⊢
            rw [if_neg (by decide)] at h
            refine r_pure tabOk 1 [0, 1, 2, 9, 52, 53] (E' := [(0, .one .str a0), (1, .one (.int .i64) a1), (2, .one (.int .i64) a2), (9, .one (.int .i64) o5), (52, .one .bool false), (53, .one (.int .i64) o5)]) rfl ?_
            refine r_guard (by rfl) rfl ?_
            obtain ⟨r9, hr9, h⟩ := bind_ex h
            refine r_calls (escrowref05_Room_ok o5 _ hr9) (by kernel_rfl) rfl rfl ?_
            refine r_pure tabOk 6 [0, 1, 2, 9, 60] (E' := [(0, .one .str a0), (1, .one (.int .i64) a1), (2, .one (.int .i64) a2), (9, .one (.int .i64) o5), (60, .one .bool (decide (r9 > (IntKind.wrap .i64 ((List.length a0 : Int) - a1)))))]) rfl ?_
            refine r_nil ?_
            refine r_less [0, 1, 2, 9, 60] rfl ?_
            refine r_then ?_
            exact r_meetk (decide (r9 > (IntKind.wrap .i64 ((List.length a0 : Int) - a1)))) () h rfl rfl
        · intro o8 _ h
          rw [← hk7] at h
          try dsimp only at h
          refine r_nil ?_
          refine r_then ?_
          refine r_if (b := o8) rfl (fun hc => ?_) (fun hc => ?_)
          · rw [if_pos hc] at h
            refine r_seq ?_
            refine r_region ?_
            refine r_pure tabOk 3 [6, 7, 8] (E' := [(6, .one .str []), (7, .one (.int .i64) 0), (8, .one (.int .i64) 2)]) rfl ?_
            refine r_nil ?_
            refine r_then ?_
            refine r_ret ?_
            refine t_then ?_
            obtain rfl := Option.some.inj h
            exact r_rets (rs := [.tmp 6, .tmp 7, .tmp 8]) rfl (.cons (.tmp rfl) (.cons (.tmp rfl) (.cons (.tmp rfl) (.nil)))) rfl (fun _ vs g => tup_ok vs g) (fun _ _ _ => List.nil_sublist _)
          · rw [if_neg (ne_true_of_eq_false hc)] at h
            refine r_skip ?_
            refine r_then ?_
            refine r_seq ?_
            refine r_region ?_
            refine r_pure tabOk 7 [0, 1, 2, 9, 61, 63, 67] (E' := [(0, .one .str a0), (1, .one (.int .i64) a1), (2, .one (.int .i64) a2), (9, .one (.int .i64) o5), (61, .one .str a0), (63, .one (.int .i64) (IntKind.wrap .i64 (a1 + 16))), (67, .one (.int .i64) (IntKind.wrap .i64 ((IntKind.wrap .i64 (a1 + 16)) + o5)))]) rfl ?_
            obtain ⟨hc, h⟩ := ite_ex h
            refine y (y_sub (i := (IntKind.wrap .i64 (a1 + 16))) (j := (IntKind.wrap .i64 ((IntKind.wrap .i64 (a1 + 16)) + o5))) tabOk rfl rfl rfl hc.1 hc.2.1 hc.2.2 rfl) rfl ?_
            refine r_pure tabOk 1 [0, 1, 2, 9, 11] (E' := [(0, .one .str a0), (1, .one (.int .i64) a1), (2, .one (.int .i64) a2), (9, .one (.int .i64) o5), (11, .one .str (List.drop (Int.toNat (IntKind.wrap .i64 (a1 + 16))) (List.take (Int.toNat (IntKind.wrap .i64 ((IntKind.wrap .i64 (a1 + 16)) + o5))) a0)))]) rfl ?_
            obtain ⟨payload10, hpayload10, h⟩ := bnd_ex h
            rw [hpayload10]
            refine r_nil ?_
            refine r_then ?_
            refine r_seq ?_
            refine r_region ?_
            refine r_pure tabOk 2 [0, 1, 9, 11, 70, 71] (E' := [(0, .one .str a0), (1, .one (.int .i64) a1), (9, .one (.int .i64) o5), (11, .one .str payload10), (70, .one (.int .i64) a2), (71, .one .str payload10)]) rfl ?_
            obtain ⟨r11, hr11, h⟩ := bind_ex h
            refine r_calls (escrowref05_Frame_ok a2 payload10 _ hr11) (by kernel_rfl) rfl rfl ?_
            refine r_pure tabOk 5 [0, 1, 9, 11, 12] (E' := [(0, .one .str a0), (1, .one (.int .i64) a1), (9, .one (.int .i64) o5), (11, .one .str payload10), (12, .one .str r11.1)]) rfl ?_
            refine r_nil ?_
            refine r_then ?_
            refine r_seq ?_
            refine r_seq ?_
            refine r_region ?_
            refine r_pure tabOk 5 [9, 11, 75, 76, 77, 78, 79] (E' := [(9, .one (.int .i64) o5), (11, .one .str payload10), (75, .one .str r11.1), (76, .one .str a0), (77, .one (.int .i64) a1), (78, .one (.int .i64) a1), (79, .one (.int .i64) o5)]) rfl ?_
            obtain ⟨r12, hr12, h⟩ := bind_ex h
            refine r_calls (escrowref05_Room_ok o5 _ hr12) (by kernel_rfl) rfl rfl ?_
            refine r_pure tabOk 1 [9, 11, 75, 76, 77, 81] (E' := [(9, .one (.int .i64) o5), (11, .one .str payload10), (75, .one .str r11.1), (76, .one .str a0), (77, .one (.int .i64) a1), (81, .one (.int .i64) (IntKind.wrap .i64 (a1 + r12)))]) rfl ?_
            obtain ⟨hc, h⟩ := ite_ex h
            refine y (y_sub (i := a1) (j := (IntKind.wrap .i64 (a1 + r12))) tabOk rfl rfl rfl hc.1 hc.2.1 hc.2.2 rfl) rfl ?_
            refine r_pure tabOk 1 [9, 11, 83] (E' := [(9, .one (.int .i64) o5), (11, .one .str payload10), (83, .one .bool (r11.1 != (List.drop (Int.toNat a1) (List.take (Int.toNat (IntKind.wrap .i64 (a1 + r12))) a0))))]) rfl ?_
            obtain ⟨t13, ht13, h⟩ := bnd_ex h
            rw [ht13]
            refine r_nil ?_
            refine r_then ?_
            refine r_if (b := t13) rfl (fun hc => ?_) (fun hc => ?_)
            · rw [if_pos hc] at h
              refine r_seq ?_
              refine r_region ?_
              refine r_pure tabOk 3 [6, 7, 8] (E' := [(6, .one .str []), (7, .one (.int .i64) 0), (8, .one (.int .i64) 2)]) rfl ?_
              refine r_nil ?_
              refine r_then ?_
              refine r_ret ?_
              refine t_then ?_
              obtain rfl := Option.some.inj h
              exact r_rets (rs := [.tmp 6, .tmp 7, .tmp 8]) rfl (.cons (.tmp rfl) (.cons (.tmp rfl) (.cons (.tmp rfl) (.nil)))) rfl (fun _ vs g => tup_ok vs g) (fun _ _ _ => List.nil_sublist _)
            · rw [if_neg (ne_true_of_eq_false hc)] at h
              refine r_skip ?_
              refine r_then ?_
              refine r_seq ?_
              refine r_region ?_
              refine r_pure tabOk 2 [84, 85] (E' := [(84, .one .str payload10), (85, .one (.int .i64) o5)]) rfl ?_
              obtain ⟨r14, hr14, h⟩ := bind_ex h
              refine r_calls (escrowref05_Room_ok o5 _ hr14) (by kernel_rfl) rfl rfl ?_
              refine r_pure tabOk 3 [6, 7, 8] (E' := [(6, .one .str payload10), (7, .one (.int .i64) r14), (8, .one (.int .i64) 1)]) rfl ?_
              refine r_nil ?_
              refine r_then ?_
              refine r_ret ?_
              obtain rfl := Option.some.inj h
              exact r_rets (rs := [.tmp 6, .tmp 7, .tmp 8]) rfl (.cons (.tmp rfl) (.cons (.tmp rfl) (.cons (.tmp rfl) (.nil)))) rfl (fun _ vs g => tup_ok vs g) (fun _ _ _ => List.nil_sublist _)

theorem escrowlaw05_FrameReads_ok (a0 : List Int) (a1 : Int) (a2 : Int) (r : Bool) (h : escrowlaw05_FrameReads a0 a1 a2 = some r) : Pure Try.prog 4 [.one .str a0, .one (.int .i64) a1, .one (.int .i64) a2] (.one .bool r) := by
  unfold escrowlaw05_FrameReads at h
  refine enter Try.func4 rfl 45 rfl rfl fun F => ?_
  refine r_seq ?_
  refine r_region ?_
  refine r_pure tabOk 1 [0, 1, 2] (E' := [(0, .one .str a0), (1, .one (.int .i64) a1), (2, .one (.int .i64) a2)]) rfl ?_
  refine r_nil ?_
  refine r_then ?_
  refine r_seq ?_
  refine r_region ?_
  refine r_pure tabOk 3 [0, 1, 2, 14, 15, 16] (E' := [(0, .one .str a0), (1, .one (.int .i64) a1), (2, .one (.int .i64) a2), (14, .one .str a0), (15, .one (.int .i64) a1), (16, .one (.int .i64) a2)]) rfl ?_
  obtain ⟨r1, hr1, h⟩ := bind_ex h
  refine r_calls (frame_Next_ok a0 a1 a2 _ hr1) (by kernel_rfl) rfl rfl ?_
  refine r_pure tabOk 7 [0, 1, 2, 7, 8, 9] (E' := [(0, .one .str a0), (1, .one (.int .i64) a1), (2, .one (.int .i64) a2), (7, .one .str r1.1), (8, .one (.int .i64) r1.2.1), (9, .one (.int .i64) r1.2.2)]) rfl ?_
  refine r_nil ?_
  refine r_then ?_
  refine r_seq ?_
  refine r_region ?_
  refine r_pure tabOk 3 [7, 8, 9, 22, 23, 24] (E' := [(7, .one .str r1.1), (8, .one (.int .i64) r1.2.1), (9, .one (.int .i64) r1.2.2), (22, .one .str a0), (23, .one (.int .i64) a1), (24, .one (.int .i64) a2)]) rfl ?_
  obtain ⟨r2, hr2, h⟩ := bind_ex h
  refine r_calls (escrowref05_Next_ok a0 a1 a2 _ hr2) (by kernel_rfl) rfl rfl ?_
  refine r_pure tabOk 7 [7, 8, 9, 10, 11, 12] (E' := [(7, .one .str r1.1), (8, .one (.int .i64) r1.2.1), (9, .one (.int .i64) r1.2.2), (10, .one .str r2.1), (11, .one (.int .i64) r2.2.1), (12, .one (.int .i64) r2.2.2)]) rfl ?_
  refine r_nil ?_
  refine r_then ?_
  refine r_seq ?_
  refine r_region ?_
  obtain ⟨r3, hr3, h⟩ := bind_ex h
  refine r_calls (escrowlaw05_first_ok  _ hr3) (by kernel_rfl) rfl rfl ?_
  refine r_pure tabOk 1 [7, 8, 9, 10, 11, 12, 30] (E' := [(7, .one .str r1.1), (8, .one (.int .i64) r1.2.1), (9, .one (.int .i64) r1.2.2), (10, .one .str r2.1), (11, .one (.int .i64) r2.2.1), (12, .one (.int .i64) r2.2.2), (30, .one .bool r3)]) rfl ?_
  refine r_lsplit (γ := Unit) 4 (fun _ => [(8, .one (.int .i64) r1.2.1), (9, .one (.int .i64) r1.2.2), (11, .one (.int .i64) r2.2.1), (12, .one (.int .i64) r2.2.2), (34, .one .bool (r3 && (r1.1 == r2.1)))]) (fun _ => []) ?_ (fun _ => ?_)
  · clear h
    rcases Bool.eq_false_or_eq_true r3 with hh | hh
    · rw [hh]
      refine r_pure tabOk 4 [8, 9, 11, 12, 34] (E' := [(8, .one (.int .i64) r1.2.1), (9, .one (.int .i64) r1.2.2), (11, .one (.int .i64) r2.2.1), (12, .one (.int .i64) r2.2.2), (34, .one .bool (r1.1 == r2.1))]) rfl ?_
      refine r_nil ?_
      refine r_then ?_
      exact r_meetg () rfl rfl
    · rw [hh]
      refine r_pure tabOk 4 [8, 9, 11, 12, 34] (E' := [(8, .one (.int .i64) r1.2.1), (9, .one (.int .i64) r1.2.2), (11, .one (.int .i64) r2.2.1), (12, .one (.int .i64) r2.2.2), (34, .one .bool false)]) rfl ?_
      refine r_nil ?_
      refine r_then ?_
      exact r_meetg () rfl rfl
  refine r_pure tabOk 1 [8, 9, 11, 12, 35] (E' := [(8, .one (.int .i64) r1.2.1), (9, .one (.int .i64) r1.2.2), (11, .one (.int .i64) r2.2.1), (12, .one (.int .i64) r2.2.2), (35, .one .bool (r3 && (r1.1 == r2.1)))]) rfl ?_
  obtain ⟨b5, hbb5, h⟩ := bnd_ex h
  rw [hbb5]
  refine r_lsplit (γ := Unit) 4 (fun _ => [(9, .one (.int .i64) r1.2.2), (12, .one (.int .i64) r2.2.2), (39, .one .bool (b5 && (r1.2.1 == r2.2.1)))]) (fun _ => []) ?_ (fun _ => ?_)
  · clear h
    cases b5 with
    | true =>
    refine r_pure tabOk 4 [9, 12, 39] (E' := [(9, .one (.int .i64) r1.2.2), (12, .one (.int .i64) r2.2.2), (39, .one .bool (r1.2.1 == r2.2.1))]) rfl ?_
    refine r_nil ?_
    refine r_then ?_
    exact r_meetg () rfl rfl
    | false =>
    refine r_pure tabOk 4 [9, 12, 39] (E' := [(9, .one (.int .i64) r1.2.2), (12, .one (.int .i64) r2.2.2), (39, .one .bool false)]) rfl ?_
    refine r_nil ?_
    refine r_then ?_
    exact r_meetg () rfl rfl
  refine r_pure tabOk 1 [9, 12, 40] (E' := [(9, .one (.int .i64) r1.2.2), (12, .one (.int .i64) r2.2.2), (40, .one .bool (b5 && (r1.2.1 == r2.2.1)))]) rfl ?_
  obtain ⟨b6, hbb6, h⟩ := bnd_ex h
  rw [hbb6]
  refine r_lsplit (γ := Unit) 4 (fun _ => [(44, .one .bool (b6 && (r1.2.2 == r2.2.2)))]) (fun _ => []) ?_ (fun _ => ?_)
  · clear h
    cases b6 with
    | true =>
    refine r_pure tabOk 4 [44] (E' := [(44, .one .bool (r1.2.2 == r2.2.2))]) rfl ?_
    refine r_nil ?_
    refine r_then ?_
    exact r_meetg () rfl rfl
    | false =>
    refine r_pure tabOk 4 [44] (E' := [(44, .one .bool false)]) rfl ?_
    refine r_nil ?_
    refine r_then ?_
    exact r_meetg () rfl rfl
  refine r_pure tabOk 1 [6] (E' := [(6, .one .bool (b6 && (r1.2.2 == r2.2.2)))]) rfl ?_
  refine r_nil ?_
  refine r_then ?_
  refine r_ret ?_
  obtain rfl := Option.some.inj h
  exact r_ret1 rfl (.tmp rfl) (fun _ _ g => g) (fun _ _ _ => List.nil_sublist _)

theorem escrowref05_Scan_ok (a0 : List Int) (a1 : Int) (r : List (List Int) × Int × Bool) (h : escrowref05_Scan a0 a1 = some r) : Fn Try.prog 16 [.one .str a0, .one (.int .i64) a1] [] (fun v => .tup [⟨.raw (.slice none 0 0), tupv v 0⟩, ⟨(.int .i64), r.2.1⟩, ⟨.bool, r.2.2⟩]) (fun v => [Res.own (tupv v 0) 9 .str r.1]) := by
  unfold escrowref05_Scan at h
  refine enter Try.func16 rfl 45 rfl rfl fun F => ?_
  refine r_seq ?_
  refine r_region ?_
  refine r_pure tabOk 3 [0, 1] (E' := [(0, .one .str a0), (1, .one (.int .i64) a1)]) rfl ?_
  refine r_nil ?_
  refine r_then ?_
  refine r_seq ?_
  refine r_region ?_
  refine r_pure tabOk 1 [0, 1, 7] (E' := [(0, .one .str a0), (1, .one (.int .i64) a1), (7, .one (.raw (.slice none 0 0)) (.slice none 0 0))]) rfl ?_
  refine r_nilown (.slice none 0 0) rfl 9 .str ?_
  refine r_nil ?_
  refine r_then ?_
  refine r_seq ?_
  refine r_region ?_
  refine r_pure tabOk 1 [0, 1, 7, 8] (E' := [(0, .one .str a0), (1, .one (.int .i64) a1), (7, .one (.raw (.slice none 0 0)) (.slice none 0 0)), (8, .one (.int .i64) 0)]) rfl ?_
  refine r_nil ?_
  refine r_then ?_
  refine r_block ?_
  refine r_less [0, 1, 7, 8] rfl ?_
  refine r_loopg (γ := Value) (fun (s5 : Int × Int × List (List Int)) g6 => [(0, .one .str a0), (1, .one (.int .i64) s5.1), (7, .one (.raw (.slice none 0 0)) g6), (8, .one (.int .i64) s5.2.1)]) (fun (s5 : Int × Int × List (List Int)) g6 => [Res.own g6 9 .str s5.2.2]) (escrowref05_Scan_l0 a0) (a1, 0, []) (.slice none 0 0) h rfl rfl ?_
  clear h
  intro m7 s5 g6 h
  cases m7 with
  | zero => cases h
  | succ m7 =>
  simp only [escrowref05_Scan_l0] at h
  refine r_block ?_
  refine r_seq ?_
  refine r_region ?_
  refine r_pure tabOk 3 [0, 1, 7, 8, 13, 14, 15] (E' := [(0, .one .str a0), (1, .one (.int .i64) s5.1), (7, .one (.raw (.slice none 0 0)) g6), (8, .one (.int .i64) s5.2.1), (13, .one .str a0), (14, .one (.int .i64) s5.2.1), (15, .one (.int .i64) s5.1)]) rfl ?_
  obtain ⟨r8, hr8, h⟩ := bind_ex h
  refine r_calls (escrowref05_Next_ok a0 s5.2.1 s5.1 _ hr8) (by kernel_rfl) rfl rfl ?_
  refine r_pure tabOk 7 [0, 1, 7, 8, 9, 10, 11] (E' := [(0, .one .str a0), (1, .one (.int .i64) s5.1), (7, .one (.raw (.slice none 0 0)) g6), (8, .one (.int .i64) s5.2.1), (9, .one .str r8.1), (10, .one (.int .i64) r8.2.1), (11, .one (.int .i64) r8.2.2)]) rfl ?_
  refine r_nil ?_
  refine r_then ?_
  refine r_seq ?_
  refine r_seq ?_
  refine r_region ?_
  refine r_pure tabOk 2 [0, 1, 7, 8, 9, 10, 21] (E' := [(0, .one .str a0), (1, .one (.int .i64) s5.1), (7, .one (.raw (.slice none 0 0)) g6), (8, .one (.int .i64) s5.2.1), (9, .one .str r8.1), (10, .one (.int .i64) r8.2.1), (21, .one .bool (r8.2.2 != 1))]) rfl ?_
  refine r_nil ?_
  refine r_then ?_
  refine r_if (b := (r8.2.2 != 1)) rfl (fun hc => ?_) (fun hc => ?_)
  · rw [if_pos hc] at h
    refine r_seq ?_
    refine r_region ?_
    refine r_pure tabOk 9 [4, 5, 6] (E' := [(4, .one (.raw (.slice none 0 0)) g6), (5, .one (.int .i64) s5.2.1), (6, .one .bool (decide (s5.2.1 < (List.length a0 : Int))))]) rfl ?_
    refine r_nil ?_
    refine r_then ?_
    refine r_ret ?_
    refine t_then ?_
    refine t_block ?_
    refine t_then ?_
    refine t_block ?_
    obtain rfl := Option.some.inj h
    exact r_rets (rs := [.tmp 4, .tmp 5, .tmp 6]) rfl (.cons (.tmp rfl) (.cons (.tmp rfl) (.cons (.tmp rfl) (.nil)))) rfl (fun _ vs g => by cases g with | cons h0 g => cases g with | cons h1 g => cases g with | cons h2 g => cases g; exact ⟨_, rfl, .cons (raw_self h0) (.cons h1 (.cons h2 (.nil)))⟩) (fun _ vs g => by cases g with | cons h0 g => cases g with | cons h1 g => cases g with | cons h2 g => cases g; rw [raw_eq h0]; exact (.cons_cons _ .slnil))
  · rw [if_neg (ne_true_of_eq_false hc)] at h
    refine r_skip ?_
    refine r_then ?_
    refine r_seq ?_
    refine r_region ?_
    refine r_pure tabOk 2 [0, 1, 8, 10, 28, 29] (E' := [(0, .one .str a0), (1, .one (.int .i64) s5.1), (8, .one (.int .i64) s5.2.1), (10, .one (.int .i64) r8.2.1), (28, .one (.raw (.slice none 0 0)) g6), (29, .one .str r8.1)]) rfl ?_
    refine r_lits (B := 16) tabOk rfl el9 rfl rfl rfl (.cons rfl .nil) rfl fun v9 => ?_
    obtain ⟨hc, h⟩ := ite_ex h
    refine r_append (B := 16) tabOk 1 rfl rfl (src_own 0 rfl rfl) rfl el9 rfl rfl hc rfl fun v11 => ?_
    refine r_lose (L' := [Res.own v11 9 .str (s5.2.2 ++ [r8.1])]) (.cons _ (.cons_cons _ .slnil)) ?_
    refine r_pure tabOk 1 [0, 1, 7, 8, 10] (E' := [(0, .one .str a0), (1, .one (.int .i64) s5.1), (7, .one (.raw (.slice none 0 0)) v11), (8, .one (.int .i64) s5.2.1), (10, .one (.int .i64) r8.2.1)]) rfl ?_
    refine r_nil ?_
    refine r_then ?_
    refine r_seq ?_
    refine r_region ?_
    refine r_pure tabOk 4 [0, 1, 7, 8] (E' := [(0, .one .str a0), (1, .one (.int .i64) s5.1), (7, .one (.raw (.slice none 0 0)) v11), (8, .one (.int .i64) (IntKind.wrap .i64 (s5.2.1 + r8.2.1)))]) rfl ?_
    obtain ⟨at12, hat12, h⟩ := bnd_ex h
    rw [hat12]
    refine r_nil ?_
    refine r_then ?_
    refine r_seq ?_
    refine r_seq ?_
    refine r_region ?_
    refine r_pure tabOk 2 [0, 1, 7, 8, 36] (E' := [(0, .one .str a0), (1, .one (.int .i64) s5.1), (7, .one (.raw (.slice none 0 0)) v11), (8, .one (.int .i64) at12), (36, .one .bool (s5.1 == 9223372036854775807))]) rfl ?_
    refine r_nil ?_
    refine r_then ?_
    refine r_if (b := (s5.1 == 9223372036854775807)) rfl (fun hc => ?_) (fun hc => ?_)
    · rw [if_pos hc] at h
      refine r_seq ?_
      refine r_region ?_
      refine r_pure tabOk 9 [4, 5, 6] (E' := [(4, .one (.raw (.slice none 0 0)) v11), (5, .one (.int .i64) at12), (6, .one .bool (decide (at12 < (List.length a0 : Int))))]) rfl ?_
      refine r_nil ?_
      refine r_then ?_
      refine r_ret ?_
      refine t_then ?_
      refine t_block ?_
      refine t_then ?_
      refine t_block ?_
      obtain rfl := Option.some.inj h
      exact r_rets (rs := [.tmp 4, .tmp 5, .tmp 6]) rfl (.cons (.tmp rfl) (.cons (.tmp rfl) (.cons (.tmp rfl) (.nil)))) rfl (fun _ vs g => by cases g with | cons h0 g => cases g with | cons h1 g => cases g with | cons h2 g => cases g; exact ⟨_, rfl, .cons (raw_self h0) (.cons h1 (.cons h2 (.nil)))⟩) (fun _ vs g => by cases g with | cons h0 g => cases g with | cons h1 g => cases g with | cons h2 g => cases g; rw [raw_eq h0]; exact (.cons_cons _ .slnil))
    · rw [if_neg (ne_true_of_eq_false hc)] at h
      refine r_skip ?_
      refine r_then ?_
      refine r_region ?_
      refine r_pure tabOk 3 [0, 1, 7, 8] (E' := [(0, .one .str a0), (1, .one (.int .i64) (IntKind.wrap .i64 (s5.1 + 1))), (7, .one (.raw (.slice none 0 0)) v11), (8, .one (.int .i64) at12)]) rfl ?_
      obtain ⟨n13, hn13, h⟩ := bnd_ex h
      rw [hn13]
      refine r_nil ?_
      refine r_inblock ?_
      refine r_then ?_
      refine r_less [0, 1, 7, 8] rfl ?_
      exact r_backg (n13, at12, (s5.2.2 ++ [r8.1])) v11 (Nat.lt_succ_self _) h rfl rfl

theorem escrowlaw05_same_ok (a0 : List (List Int)) (a1 : List (List Int)) (r : Bool) (h : escrowlaw05_same a0 a1 = some r) : Pure Try.prog 17 [.one (.sl 9 .str) a0, .one (.sl 9 .str) a1] (.one .bool r) := by
  unfold escrowlaw05_same at h
  refine enter Try.func17 rfl 26 rfl rfl fun F => ?_
  refine r_seq ?_
  refine r_region ?_
  refine r_pure tabOk 1 [0, 1] (E' := [(0, .one (.sl 9 .str) a0), (1, .one (.sl 9 .str) a1)]) rfl ?_
  refine r_nil ?_
  refine r_then ?_
  refine r_seq ?_
  refine r_seq ?_
  refine r_region ?_
  refine r_pure tabOk 5 [0, 1, 10] (E' := [(0, .one (.sl 9 .str) a0), (1, .one (.sl 9 .str) a1), (10, .one .bool ((List.length a0 : Int) != (List.length a1 : Int)))]) rfl ?_
  refine r_nil ?_
  refine r_then ?_
  refine r_if (b := ((List.length a0 : Int) != (List.length a1 : Int))) rfl (fun hc => ?_) (fun hc => ?_)
  · rw [if_pos hc] at h
    refine r_seq ?_
    refine r_region ?_
    refine r_pure tabOk 1 [4] (E' := [(4, .one .bool false)]) rfl ?_
    refine r_nil ?_
    refine r_then ?_
    refine r_ret ?_
    refine t_then ?_
    obtain rfl := Option.some.inj h
    exact r_ret1 rfl (.tmp rfl) (fun _ _ g => g) (fun _ _ _ => List.nil_sublist _)
  · rw [if_neg (ne_true_of_eq_false hc)] at h
    refine r_skip ?_
    refine r_then ?_
    obtain ⟨k1, hk1, h⟩ := bnd_ex h
    refine r_joink (γ := Unit) (fun (o2 : Unit) _ => []) (fun (o2 : Unit) _ => []) k1 r ?_ ?_
    · refine r_seq ?_
      refine r_region ?_
      refine r_pure tabOk 1 [0, 1, 5] (E' := [(0, .one (.sl 9 .str) a0), (1, .one (.sl 9 .str) a1), (5, .one (.int .i64) 0)]) rfl ?_
      refine r_nil ?_
      refine r_then ?_
      refine r_block ?_
      refine r_less [0, 1, 5] rfl ?_
      refine r_loopg (γ := Unit) (fun (s4 : Int) _ => [(0, .one (.sl 9 .str) a0), (1, .one (.sl 9 .str) a1), (5, .one (.int .i64) s4)]) (fun (s4 : Int) _ => []) (escrowlaw05_same_l0 a0 a1 k1) 0 () h rfl rfl ?_
      clear h
      intro m5 s4 gg h
      cases m5 with
      | zero => cases h
      | succ m5 =>
      simp only [escrowlaw05_same_l0] at h
      refine r_seq ?_
      refine r_seq ?_
      refine r_region ?_
      refine r_pure tabOk 4 [0, 1, 5, 14] (E' := [(0, .one (.sl 9 .str) a0), (1, .one (.sl 9 .str) a1), (5, .one (.int .i64) s4), (14, .one .bool (decide (s4 < (List.length a0 : Int))))]) rfl ?_
      refine r_nil ?_
      refine r_then ?_
      refine r_if (b := (decide (s4 < (List.length a0 : Int)))) rfl (fun hc => ?_) (fun hc => ?_)
      · rw [if_pos hc] at h
        refine r_skip ?_
        refine r_then ?_
        refine r_seq ?_
        refine r_block ?_
        refine r_seq ?_
        refine r_drawn (by kernel_rfl) (by kernel_rfl) ?_
        refine q_pure tabOk 2 [0, 1, 5, 17, 18] (E' := [(0, .one (.sl 9 .str) a0), (1, .one (.sl 9 .str) a1), (5, .one (.int .i64) s4), (17, .one (.sl 9 .str) a0), (18, .one (.int .i64) s4)]) rfl ?_
        obtain ⟨hc, h⟩ := ite_ex h
        refine q_y (y_iref tabOk rfl rfl hc.1 hc.2 rfl ty9) rfl ?_
        refine q_y (y_ref rfl ty9) rfl ?_
        refine q_pure tabOk 2 [0, 1, 5, 20, 21, 22] (E' := [(0, .one (.sl 9 .str) a0), (1, .one (.sl 9 .str) a1), (5, .one (.int .i64) s4), (20, .one .str (List.getD a0 (Int.toNat s4) [])), (21, .one (.sl 9 .str) a1), (22, .one (.int .i64) s4)]) rfl ?_
        obtain ⟨hc, h⟩ := ite_ex h
        refine q_y (y_iref tabOk rfl rfl hc.1 hc.2 rfl ty9) rfl ?_
        refine q_y (y_ref rfl ty9) rfl ?_
        refine q_pure tabOk 1 [0, 1, 5, 25] (E' := [(0, .one (.sl 9 .str) a0), (1, .one (.sl 9 .str) a1), (5, .one (.int .i64) s4), (25, .one .bool ((List.getD a0 (Int.toNat s4) []) != (List.getD a1 (Int.toNat s4) [])))]) rfl ?_
        refine q_nil ?_
        refine r_then ?_
        refine r_if (b := ((List.getD a0 (Int.toNat s4) []) != (List.getD a1 (Int.toNat s4) []))) rfl (fun hc => ?_) (fun hc => ?_)
        · rw [if_pos hc] at h
          refine r_seq ?_
          refine r_region ?_
          refine r_pure tabOk 1 [4] (E' := [(4, .one .bool false)]) rfl ?_
          refine r_nil ?_
          refine r_then ?_
          refine r_ret ?_
          refine t_block ?_
          refine t_then ?_
          refine t_then ?_
          refine t_block ?_
          refine t_then ?_
          obtain rfl := Option.some.inj h
          exact r_ret1 rfl (.tmp rfl) (fun _ _ g => g) (fun _ _ _ => List.nil_sublist _)
        · rw [if_neg (ne_true_of_eq_false hc)] at h
          refine r_skip ?_
          refine r_inblock ?_
          refine r_then ?_
          refine r_region ?_
          refine r_pure tabOk 3 [0, 1, 5] (E' := [(0, .one (.sl 9 .str) a0), (1, .one (.sl 9 .str) a1), (5, .one (.int .i64) (IntKind.wrap .i64 (s4 + 1)))]) rfl ?_
          obtain ⟨i6, hi6, h⟩ := bnd_ex h
          rw [hi6]
          refine r_nil ?_
          refine r_then ?_
          refine r_less [0, 1, 5] rfl ?_
          exact r_backg i6 () (Nat.lt_succ_self _) h rfl rfl
      · rw [if_neg (ne_true_of_eq_false hc)] at h
        refine r_exit ?_
        refine e_then ?_
        refine e_then ?_
        refine e_eq ?_
        refine r_then ?_
        refine r_less [] rfl ?_
        exact r_meetk () () h rfl rfl
    · intro o2 gg h
      rw [← hk1] at h
      try dsimp only at h
      refine r_seq ?_
      refine r_region ?_
      refine r_pure tabOk 1 [4] (E' := [(4, .one .bool true)]) rfl ?_
      refine r_nil ?_
      refine r_then ?_
      refine r_ret ?_
      obtain rfl := Option.some.inj h
      exact r_ret1 rfl (.tmp rfl) (fun _ _ g => g) (fun _ _ _ => List.nil_sublist _)

theorem escrowlaw05_FrameScans_ok (a0 : List Int) (a1 : Int) (r : Bool) (h : escrowlaw05_FrameScans a0 a1 = some r) : Pure Try.prog 5 [.one .str a0, .one (.int .i64) a1] (.one .bool r) := by
  unfold escrowlaw05_FrameScans at h
  refine enter Try.func5 rfl 107 rfl rfl fun F => ?_
  refine r_seq ?_
  refine r_region ?_
  refine r_pure tabOk 1 [0, 1] (E' := [(0, .one .str a0), (1, .one (.int .i64) a1)]) rfl ?_
  refine r_nil ?_
  refine r_then ?_
  refine r_seq ?_
  refine r_seq ?_
  refine r_region ?_
  obtain ⟨r1, hr1, h⟩ := bind_ex h
  refine r_calls (escrowlaw05_first_ok  _ hr1) (by kernel_rfl) rfl rfl ?_
  refine r_pure tabOk 1 [0, 1, 20] (E' := [(0, .one .str a0), (1, .one (.int .i64) a1), (20, .one .bool (!r1))]) rfl ?_
  refine r_nil ?_
  refine r_then ?_
  refine r_if (b := (!r1)) rfl (fun hc => ?_) (fun hc => ?_)
  · rw [if_pos hc] at h
    refine r_seq ?_
    refine r_region ?_
    refine r_pure tabOk 1 [4] (E' := [(4, .one .bool false)]) rfl ?_
    refine r_nil ?_
    refine r_then ?_
    refine r_ret ?_
    refine t_then ?_
    obtain rfl := Option.some.inj h
    exact r_ret1 rfl (.tmp rfl) (fun _ _ g => g) (fun _ _ _ => List.nil_sublist _)
  · rw [if_neg (ne_true_of_eq_false hc)] at h
    refine r_skip ?_
    refine r_then ?_
    refine r_seq ?_
    refine r_region ?_
    refine r_pure tabOk 2 [0, 1, 22, 23] (E' := [(0, .one .str a0), (1, .one (.int .i64) a1), (22, .one .str a0), (23, .one (.int .i64) a1)]) rfl ?_
    obtain ⟨r2, hr2, h⟩ := bind_ex h
    refine r_call (Lo := []) (frame_Scan_ok a0 a1 _ hr2) (by kernel_rfl) (by simp) rfl rfl fun v3 => ?_
    refine r_pure tabOk 7 [0, 1, 5, 6, 7] (E' := [(0, .one .str a0), (1, .one (.int .i64) a1), (5, .one (.raw (.slice none 0 0)) (tupv v3 0)), (6, .one (.int .i64) r2.2.1), (7, .one .bool r2.2.2)]) rfl ?_
    refine r_nil ?_
    refine r_then ?_
    refine r_seq ?_
    refine r_region ?_
    refine r_pure tabOk 2 [0, 1, 5, 6, 7, 29, 30] (E' := [(0, .one .str a0), (1, .one (.int .i64) a1), (5, .one (.raw (.slice none 0 0)) (tupv v3 0)), (6, .one (.int .i64) r2.2.1), (7, .one .bool r2.2.2), (29, .one .str a0), (30, .one (.int .i64) a1)]) rfl ?_
    obtain ⟨r5, hr5, h⟩ := bind_ex h
    refine r_call (Lo := [Res.own (tupv v3 0) 9 .str r2.1]) (frame_Scan_ok a0 a1 _ hr5) (by kernel_rfl) (by simp) rfl rfl fun v6 => ?_
    refine r_pure tabOk 7 [0, 1, 5, 6, 7, 8, 9, 10] (E' := [(0, .one .str a0), (1, .one (.int .i64) a1), (5, .one (.raw (.slice none 0 0)) (tupv v3 0)), (6, .one (.int .i64) r2.2.1), (7, .one .bool r2.2.2), (8, .one (.raw (.slice none 0 0)) (tupv v6 0)), (9, .one (.int .i64) r5.2.1), (10, .one .bool r5.2.2)]) rfl ?_
    refine r_nil ?_
    refine r_then ?_
    refine r_seq ?_
    refine r_region ?_
    refine r_pure tabOk 2 [0, 1, 5, 6, 7, 8, 9, 10, 36, 37] (E' := [(0, .one .str a0), (1, .one (.int .i64) a1), (5, .one (.raw (.slice none 0 0)) (tupv v3 0)), (6, .one (.int .i64) r2.2.1), (7, .one .bool r2.2.2), (8, .one (.raw (.slice none 0 0)) (tupv v6 0)), (9, .one (.int .i64) r5.2.1), (10, .one .bool r5.2.2), (36, .one .str a0), (37, .one (.int .i64) a1)]) rfl ?_
    obtain ⟨r8, hr8, h⟩ := bind_ex h
    refine r_call (Lo := [Res.own (tupv v6 0) 9 .str r5.1, Res.own (tupv v3 0) 9 .str r2.1]) (escrowref05_Scan_ok a0 a1 _ hr8) (by kernel_rfl) (by simp) rfl rfl fun v9 => ?_
    refine r_pure tabOk 7 [0, 1, 5, 6, 7, 8, 9, 10, 11, 12, 13] (E' := [(0, .one .str a0), (1, .one (.int .i64) a1), (5, .one (.raw (.slice none 0 0)) (tupv v3 0)), (6, .one (.int .i64) r2.2.1), (7, .one .bool r2.2.2), (8, .one (.raw (.slice none 0 0)) (tupv v6 0)), (9, .one (.int .i64) r5.2.1), (10, .one .bool r5.2.2), (11, .one (.raw (.slice none 0 0)) (tupv v9 0)), (12, .one (.int .i64) r8.2.1), (13, .one .bool r8.2.2)]) rfl ?_
    refine r_nil ?_
    refine r_then ?_
    refine r_seq ?_
    refine r_seq ?_
    refine r_region ?_
    refine r_pure tabOk 2 [0, 1, 5, 6, 7, 8, 9, 10, 11, 12, 13, 42, 43] (E' := [(0, .one .str a0), (1, .one (.int .i64) a1), (5, .one (.raw (.slice none 0 0)) (tupv v3 0)), (6, .one (.int .i64) r2.2.1), (7, .one .bool r2.2.2), (8, .one (.raw (.slice none 0 0)) (tupv v6 0)), (9, .one (.int .i64) r5.2.1), (10, .one .bool r5.2.2), (11, .one (.raw (.slice none 0 0)) (tupv v9 0)), (12, .one (.int .i64) r8.2.1), (13, .one .bool r8.2.2), (42, .one (.raw (.slice none 0 0)) (tupv v3 0)), (43, .one (.raw (.slice none 0 0)) (tupv v9 0))]) rfl ?_
    obtain ⟨r11, hr11, h⟩ := bind_ex h
    refine r_callw (escrowlaw05_same_ok r2.1 r8.1 _ hr11) (by kernel_rfl) rfl (.own 2 rfl rfl (.own 0 rfl rfl .nil)) rfl ?_
    refine r_pure tabOk 2 [0, 1, 5, 6, 7, 8, 9, 10, 11, 12, 13, 46] (E' := [(0, .one .str a0), (1, .one (.int .i64) a1), (5, .one (.raw (.slice none 0 0)) (tupv v3 0)), (6, .one (.int .i64) r2.2.1), (7, .one .bool r2.2.2), (8, .one (.raw (.slice none 0 0)) (tupv v6 0)), (9, .one (.int .i64) r5.2.1), (10, .one .bool r5.2.2), (11, .one (.raw (.slice none 0 0)) (tupv v9 0)), (12, .one (.int .i64) r8.2.1), (13, .one .bool r8.2.2), (46, .one .bool (!r11))]) rfl ?_
    obtain ⟨b12, hbb12, h⟩ := bnd_ex h
    rw [hbb12]
    obtain ⟨k13, hk13, h⟩ := bnd_ex h
    refine r_lsplitk (γ := Unit) 5 (fun (o14 : Bool) _ => [(0, .one .str a0), (1, .one (.int .i64) a1), (5, .one (.raw (.slice none 0 0)) (tupv v3 0)), (6, .one (.int .i64) r2.2.1), (7, .one .bool r2.2.2), (8, .one (.raw (.slice none 0 0)) (tupv v6 0)), (9, .one (.int .i64) r5.2.1), (10, .one .bool r5.2.2), (11, .one (.raw (.slice none 0 0)) (tupv v9 0)), (12, .one (.int .i64) r8.2.1), (13, .one .bool r8.2.2), (51, .one .bool o14)]) (fun _ _ => [Res.own (tupv v9 0) 9 .str r8.1, Res.own (tupv v6 0) 9 .str r5.1, Res.own (tupv v3 0) 9 .str r2.1]) k13 r ?_ ?_
    · rcases Bool.eq_false_or_eq_true b12 with hh | hh
      · rw [hh] at h ⊢
        rw [if_pos rfl] at h
        refine r_pure tabOk 5 [0, 1, 5, 6, 7, 8, 9, 10, 11, 12, 13, 51] (E' := [(0, .one .str a0), (1, .one (.int .i64) a1), (5, .one (.raw (.slice none 0 0)) (tupv v3 0)), (6, .one (.int .i64) r2.2.1), (7, .one .bool r2.2.2), (8, .one (.raw (.slice none 0 0)) (tupv v6 0)), (9, .one (.int .i64) r5.2.1), (10, .one .bool r5.2.2), (11, .one (.raw (.slice none 0 0)) (tupv v9 0)), (12, .one (.int .i64) r8.2.1), (13, .one .bool r8.2.2), (51, .one .bool true)]) rfl ?_
        refine r_nil ?_
        refine r_less [0, 1, 5, 6, 7, 8, 9, 10, 11, 12, 13, 51] rfl ?_
        refine r_then ?_
        exact r_meetk true () h rfl rfl
      · rw [hh] at h ⊢
        rw [if_neg (by decide)] at h
        refine r_pure tabOk 2 [0, 1, 5, 6, 7, 8, 9, 10, 11, 12, 13, 46, 47, 48] (E' := [(0, .one .str a0), (1, .one (.int .i64) a1), (5, .one (.raw (.slice none 0 0)) (tupv v3 0)), (6, .one (.int .i64) r2.2.1), (7, .one .bool r2.2.2), (8, .one (.raw (.slice none 0 0)) (tupv v6 0)), (9, .one (.int .i64) r5.2.1), (10, .one .bool r5.2.2), (11, .one (.raw (.slice none 0 0)) (tupv v9 0)), (12, .one (.int .i64) r8.2.1), (13, .one .bool r8.2.2), (46, .one .bool false), (47, .one (.raw (.slice none 0 0)) (tupv v6 0)), (48, .one (.raw (.slice none 0 0)) (tupv v9 0))]) rfl ?_
        refine r_guard (by rfl) rfl ?_
        obtain ⟨r15, hr15, h⟩ := bind_ex h
        refine r_callw (escrowlaw05_same_ok r5.1 r8.1 _ hr15) (by kernel_rfl) rfl (.own 1 rfl rfl (.own 0 rfl rfl .nil)) rfl ?_
        refine r_pure tabOk 2 [0, 1, 5, 6, 7, 8, 9, 10, 11, 12, 13, 51] (E' := [(0, .one .str a0), (1, .one (.int .i64) a1), (5, .one (.raw (.slice none 0 0)) (tupv v3 0)), (6, .one (.int .i64) r2.2.1), (7, .one .bool r2.2.2), (8, .one (.raw (.slice none 0 0)) (tupv v6 0)), (9, .one (.int .i64) r5.2.1), (10, .one .bool r5.2.2), (11, .one (.raw (.slice none 0 0)) (tupv v9 0)), (12, .one (.int .i64) r8.2.1), (13, .one .bool r8.2.2), (51, .one .bool (!r15))]) rfl ?_
        refine r_nil ?_
        refine r_less [0, 1, 5, 6, 7, 8, 9, 10, 11, 12, 13, 51] rfl ?_
        refine r_then ?_
        exact r_meetk (!r15) () h rfl rfl
    · intro o14 _ h
      rw [← hk13] at h
      try dsimp only at h
      refine r_pure tabOk 1 [0, 1, 5, 6, 7, 8, 9, 10, 11, 12, 13, 52] (E' := [(0, .one .str a0), (1, .one (.int .i64) a1), (5, .one (.raw (.slice none 0 0)) (tupv v3 0)), (6, .one (.int .i64) r2.2.1), (7, .one .bool r2.2.2), (8, .one (.raw (.slice none 0 0)) (tupv v6 0)), (9, .one (.int .i64) r5.2.1), (10, .one .bool r5.2.2), (11, .one (.raw (.slice none 0 0)) (tupv v9 0)), (12, .one (.int .i64) r8.2.1), (13, .one .bool r8.2.2), (52, .one .bool o14)]) rfl ?_
      refine r_lsplit (γ := Unit) 4 (fun _ => [(0, .one .str a0), (1, .one (.int .i64) a1), (5, .one (.raw (.slice none 0 0)) (tupv v3 0)), (7, .one .bool r2.2.2), (8, .one (.raw (.slice none 0 0)) (tupv v6 0)), (9, .one (.int .i64) r5.2.1), (10, .one .bool r5.2.2), (11, .one (.raw (.slice none 0 0)) (tupv v9 0)), (12, .one (.int .i64) r8.2.1), (13, .one .bool r8.2.2), (56, .one .bool (o14 || (r2.2.1 != r8.2.1)))]) (fun _ => [Res.own (tupv v9 0) 9 .str r8.1, Res.own (tupv v6 0) 9 .str r5.1, Res.own (tupv v3 0) 9 .str r2.1]) ?_ (fun _ => ?_)
      · clear h
        rcases Bool.eq_false_or_eq_true o14 with hh | hh
        · rw [hh]
          refine r_pure tabOk 4 [0, 1, 5, 7, 8, 9, 10, 11, 12, 13, 56] (E' := [(0, .one .str a0), (1, .one (.int .i64) a1), (5, .one (.raw (.slice none 0 0)) (tupv v3 0)), (7, .one .bool r2.2.2), (8, .one (.raw (.slice none 0 0)) (tupv v6 0)), (9, .one (.int .i64) r5.2.1), (10, .one .bool r5.2.2), (11, .one (.raw (.slice none 0 0)) (tupv v9 0)), (12, .one (.int .i64) r8.2.1), (13, .one .bool r8.2.2), (56, .one .bool true)]) rfl ?_
          refine r_nil ?_
          refine r_then ?_
          exact r_meetg () rfl rfl
        · rw [hh]
          refine r_pure tabOk 4 [0, 1, 5, 7, 8, 9, 10, 11, 12, 13, 56] (E' := [(0, .one .str a0), (1, .one (.int .i64) a1), (5, .one (.raw (.slice none 0 0)) (tupv v3 0)), (7, .one .bool r2.2.2), (8, .one (.raw (.slice none 0 0)) (tupv v6 0)), (9, .one (.int .i64) r5.2.1), (10, .one .bool r5.2.2), (11, .one (.raw (.slice none 0 0)) (tupv v9 0)), (12, .one (.int .i64) r8.2.1), (13, .one .bool r8.2.2), (56, .one .bool (r2.2.1 != r8.2.1))]) rfl ?_
          refine r_nil ?_
          refine r_then ?_
          exact r_meetg () rfl rfl
      refine r_pure tabOk 1 [0, 1, 5, 7, 8, 9, 10, 11, 12, 13, 57] (E' := [(0, .one .str a0), (1, .one (.int .i64) a1), (5, .one (.raw (.slice none 0 0)) (tupv v3 0)), (7, .one .bool r2.2.2), (8, .one (.raw (.slice none 0 0)) (tupv v6 0)), (9, .one (.int .i64) r5.2.1), (10, .one .bool r5.2.2), (11, .one (.raw (.slice none 0 0)) (tupv v9 0)), (12, .one (.int .i64) r8.2.1), (13, .one .bool r8.2.2), (57, .one .bool (o14 || (r2.2.1 != r8.2.1)))]) rfl ?_
      obtain ⟨b17, hbb17, h⟩ := bnd_ex h
      rw [hbb17]
      refine r_lsplit (γ := Unit) 4 (fun _ => [(0, .one .str a0), (1, .one (.int .i64) a1), (5, .one (.raw (.slice none 0 0)) (tupv v3 0)), (7, .one .bool r2.2.2), (8, .one (.raw (.slice none 0 0)) (tupv v6 0)), (10, .one .bool r5.2.2), (11, .one (.raw (.slice none 0 0)) (tupv v9 0)), (13, .one .bool r8.2.2), (61, .one .bool (b17 || (r5.2.1 != r8.2.1)))]) (fun _ => [Res.own (tupv v9 0) 9 .str r8.1, Res.own (tupv v6 0) 9 .str r5.1, Res.own (tupv v3 0) 9 .str r2.1]) ?_ (fun _ => ?_)
      · clear h
        cases b17 with
        | true =>
        refine r_pure tabOk 4 [0, 1, 5, 7, 8, 10, 11, 13, 61] (E' := [(0, .one .str a0), (1, .one (.int .i64) a1), (5, .one (.raw (.slice none 0 0)) (tupv v3 0)), (7, .one .bool r2.2.2), (8, .one (.raw (.slice none 0 0)) (tupv v6 0)), (10, .one .bool r5.2.2), (11, .one (.raw (.slice none 0 0)) (tupv v9 0)), (13, .one .bool r8.2.2), (61, .one .bool true)]) rfl ?_
        refine r_nil ?_
        refine r_then ?_
        exact r_meetg () rfl rfl
        | false =>
        refine r_pure tabOk 4 [0, 1, 5, 7, 8, 10, 11, 13, 61] (E' := [(0, .one .str a0), (1, .one (.int .i64) a1), (5, .one (.raw (.slice none 0 0)) (tupv v3 0)), (7, .one .bool r2.2.2), (8, .one (.raw (.slice none 0 0)) (tupv v6 0)), (10, .one .bool r5.2.2), (11, .one (.raw (.slice none 0 0)) (tupv v9 0)), (13, .one .bool r8.2.2), (61, .one .bool (r5.2.1 != r8.2.1))]) rfl ?_
        refine r_nil ?_
        refine r_then ?_
        exact r_meetg () rfl rfl
      refine r_pure tabOk 1 [0, 1, 5, 7, 8, 10, 11, 13, 62] (E' := [(0, .one .str a0), (1, .one (.int .i64) a1), (5, .one (.raw (.slice none 0 0)) (tupv v3 0)), (7, .one .bool r2.2.2), (8, .one (.raw (.slice none 0 0)) (tupv v6 0)), (10, .one .bool r5.2.2), (11, .one (.raw (.slice none 0 0)) (tupv v9 0)), (13, .one .bool r8.2.2), (62, .one .bool (b17 || (r5.2.1 != r8.2.1)))]) rfl ?_
      obtain ⟨b18, hbb18, h⟩ := bnd_ex h
      rw [hbb18]
      refine r_lsplit (γ := Unit) 4 (fun _ => [(0, .one .str a0), (1, .one (.int .i64) a1), (5, .one (.raw (.slice none 0 0)) (tupv v3 0)), (8, .one (.raw (.slice none 0 0)) (tupv v6 0)), (10, .one .bool r5.2.2), (11, .one (.raw (.slice none 0 0)) (tupv v9 0)), (13, .one .bool r8.2.2), (66, .one .bool (b18 || (r2.2.2 != r8.2.2)))]) (fun _ => [Res.own (tupv v9 0) 9 .str r8.1, Res.own (tupv v6 0) 9 .str r5.1, Res.own (tupv v3 0) 9 .str r2.1]) ?_ (fun _ => ?_)
      · clear h
        cases b18 with
        | true =>
        refine r_pure tabOk 4 [0, 1, 5, 8, 10, 11, 13, 66] (E' := [(0, .one .str a0), (1, .one (.int .i64) a1), (5, .one (.raw (.slice none 0 0)) (tupv v3 0)), (8, .one (.raw (.slice none 0 0)) (tupv v6 0)), (10, .one .bool r5.2.2), (11, .one (.raw (.slice none 0 0)) (tupv v9 0)), (13, .one .bool r8.2.2), (66, .one .bool true)]) rfl ?_
        refine r_nil ?_
        refine r_then ?_
        exact r_meetg () rfl rfl
        | false =>
        refine r_pure tabOk 2 [0, 1, 5, 8, 10, 11, 13, 62, 63, 64] (E' := [(0, .one .str a0), (1, .one (.int .i64) a1), (5, .one (.raw (.slice none 0 0)) (tupv v3 0)), (8, .one (.raw (.slice none 0 0)) (tupv v6 0)), (10, .one .bool r5.2.2), (11, .one (.raw (.slice none 0 0)) (tupv v9 0)), (13, .one .bool r8.2.2), (62, .one .bool false), (63, .one .bool r2.2.2), (64, .one .bool r8.2.2)]) rfl ?_
        refine r_guard (by rfl) rfl ?_
        refine y (y_bne rfl rfl Try.underlying4) rfl ?_
        refine r_pure tabOk 1 [0, 1, 5, 8, 10, 11, 13, 66] (E' := [(0, .one .str a0), (1, .one (.int .i64) a1), (5, .one (.raw (.slice none 0 0)) (tupv v3 0)), (8, .one (.raw (.slice none 0 0)) (tupv v6 0)), (10, .one .bool r5.2.2), (11, .one (.raw (.slice none 0 0)) (tupv v9 0)), (13, .one .bool r8.2.2), (66, .one .bool (r2.2.2 != r8.2.2))]) rfl ?_
        refine r_nil ?_
        refine r_then ?_
        exact r_meetg () rfl rfl
      refine r_pure tabOk 1 [0, 1, 5, 8, 10, 11, 13, 67] (E' := [(0, .one .str a0), (1, .one (.int .i64) a1), (5, .one (.raw (.slice none 0 0)) (tupv v3 0)), (8, .one (.raw (.slice none 0 0)) (tupv v6 0)), (10, .one .bool r5.2.2), (11, .one (.raw (.slice none 0 0)) (tupv v9 0)), (13, .one .bool r8.2.2), (67, .one .bool (b18 || (r2.2.2 != r8.2.2)))]) rfl ?_
      obtain ⟨b19, hbb19, h⟩ := bnd_ex h
      rw [hbb19]
      refine r_lsplit (γ := Unit) 4 (fun _ => [(0, .one .str a0), (1, .one (.int .i64) a1), (5, .one (.raw (.slice none 0 0)) (tupv v3 0)), (8, .one (.raw (.slice none 0 0)) (tupv v6 0)), (11, .one (.raw (.slice none 0 0)) (tupv v9 0)), (71, .one .bool (b19 || (r5.2.2 != r8.2.2)))]) (fun _ => [Res.own (tupv v9 0) 9 .str r8.1, Res.own (tupv v6 0) 9 .str r5.1, Res.own (tupv v3 0) 9 .str r2.1]) ?_ (fun _ => ?_)
      · clear h
        cases b19 with
        | true =>
        refine r_pure tabOk 4 [0, 1, 5, 8, 11, 71] (E' := [(0, .one .str a0), (1, .one (.int .i64) a1), (5, .one (.raw (.slice none 0 0)) (tupv v3 0)), (8, .one (.raw (.slice none 0 0)) (tupv v6 0)), (11, .one (.raw (.slice none 0 0)) (tupv v9 0)), (71, .one .bool true)]) rfl ?_
        refine r_nil ?_
        refine r_then ?_
        exact r_meetg () rfl rfl
        | false =>
        refine r_pure tabOk 2 [0, 1, 5, 8, 11, 67, 68, 69] (E' := [(0, .one .str a0), (1, .one (.int .i64) a1), (5, .one (.raw (.slice none 0 0)) (tupv v3 0)), (8, .one (.raw (.slice none 0 0)) (tupv v6 0)), (11, .one (.raw (.slice none 0 0)) (tupv v9 0)), (67, .one .bool false), (68, .one .bool r5.2.2), (69, .one .bool r8.2.2)]) rfl ?_
        refine r_guard (by rfl) rfl ?_
        refine y (y_bne rfl rfl Try.underlying4) rfl ?_
        refine r_pure tabOk 1 [0, 1, 5, 8, 11, 71] (E' := [(0, .one .str a0), (1, .one (.int .i64) a1), (5, .one (.raw (.slice none 0 0)) (tupv v3 0)), (8, .one (.raw (.slice none 0 0)) (tupv v6 0)), (11, .one (.raw (.slice none 0 0)) (tupv v9 0)), (71, .one .bool (r5.2.2 != r8.2.2))]) rfl ?_
        refine r_nil ?_
        refine r_then ?_
        exact r_meetg () rfl rfl
      refine r_nil ?_
      refine r_then ?_
      refine r_if (b := (b19 || (r5.2.2 != r8.2.2))) rfl (fun hc => ?_) (fun hc => ?_)
      · rw [if_pos hc] at h
        refine r_seq ?_
        refine r_region ?_
        refine r_pure tabOk 1 [4] (E' := [(4, .one .bool false)]) rfl ?_
        refine r_nil ?_
        refine r_then ?_
        refine r_ret ?_
        refine t_then ?_
        obtain rfl := Option.some.inj h
        exact r_ret1 rfl (.tmp rfl) (fun _ _ g => g) (fun _ _ _ => List.nil_sublist _)
      · rw [if_neg (ne_true_of_eq_false hc)] at h
        refine r_skip ?_
        refine r_then ?_
        obtain ⟨k20, hk20, h⟩ := bnd_ex h
        refine r_joink (γ := Value) (fun (o21 : List (List Int)) g22 => [(0, .one .str a0), (1, .one (.int .i64) a1), (5, .one (.raw (.slice none 0 0)) g22), (8, .one (.raw (.slice none 0 0)) (tupv v6 0)), (11, .one (.raw (.slice none 0 0)) (tupv v9 0))]) (fun (o21 : List (List Int)) g22 => [Res.own (tupv v9 0) 9 .str r8.1, Res.own (tupv v6 0) 9 .str r5.1, Res.own g22 9 .str o21]) k20 r ?_ ?_
        · refine r_seq ?_
          refine r_region ?_
          refine r_pure tabOk 1 [0, 1, 5, 8, 11, 14] (E' := [(0, .one .str a0), (1, .one (.int .i64) a1), (5, .one (.raw (.slice none 0 0)) (tupv v3 0)), (8, .one (.raw (.slice none 0 0)) (tupv v6 0)), (11, .one (.raw (.slice none 0 0)) (tupv v9 0)), (14, .one (.int .i64) 0)]) rfl ?_
          refine r_nil ?_
          refine r_then ?_
          refine r_block ?_
          refine r_less [0, 1, 5, 8, 11, 14] rfl ?_
          refine r_loopg (γ := Value) (fun (s41 : Int × List (List Int)) g42 => [(0, .one .str a0), (1, .one (.int .i64) a1), (5, .one (.raw (.slice none 0 0)) g42), (8, .one (.raw (.slice none 0 0)) (tupv v6 0)), (11, .one (.raw (.slice none 0 0)) (tupv v9 0)), (14, .one (.int .i64) s41.1)]) (fun (s41 : Int × List (List Int)) g42 => [Res.own (tupv v9 0) 9 .str r8.1, Res.own (tupv v6 0) 9 .str r5.1, Res.own g42 9 .str s41.2]) (escrowlaw05_FrameScans_l0 k20) (0, r2.1) (tupv v3 0) h rfl rfl ?_
          clear h
          intro m43 s41 g42 h
          cases m43 with
          | zero => cases h
          | succ m43 =>
          simp only [escrowlaw05_FrameScans_l0] at h
          refine r_seq ?_
          refine r_seq ?_
          refine r_region ?_
          refine r_pure tabOk 2 [0, 1, 5, 8, 11, 14, 72, 73] (E' := [(0, .one .str a0), (1, .one (.int .i64) a1), (5, .one (.raw (.slice none 0 0)) g42), (8, .one (.raw (.slice none 0 0)) (tupv v6 0)), (11, .one (.raw (.slice none 0 0)) (tupv v9 0)), (14, .one (.int .i64) s41.1), (72, .one (.int .i64) s41.1), (73, .one (.raw (.slice none 0 0)) g42)]) rfl ?_
          refine y (y_lenown tabOk 2 rfl rfl rfl) rfl ?_
          refine r_pure tabOk 1 [0, 1, 5, 8, 11, 14, 75] (E' := [(0, .one .str a0), (1, .one (.int .i64) a1), (5, .one (.raw (.slice none 0 0)) g42), (8, .one (.raw (.slice none 0 0)) (tupv v6 0)), (11, .one (.raw (.slice none 0 0)) (tupv v9 0)), (14, .one (.int .i64) s41.1), (75, .one .bool (decide (s41.1 < (List.length s41.2 : Int))))]) rfl ?_
          refine r_nil ?_
          refine r_then ?_
          refine r_if (b := (decide (s41.1 < (List.length s41.2 : Int)))) rfl (fun hc => ?_) (fun hc => ?_)
          · rw [if_pos hc] at h
            refine r_skip ?_
            refine r_then ?_
            refine r_seq ?_
            refine r_block ?_
            refine r_region ?_
            refine r_pure tabOk 2 [0, 1, 5, 8, 11, 14, 78, 79] (E' := [(0, .one .str a0), (1, .one (.int .i64) a1), (5, .one (.raw (.slice none 0 0)) g42), (8, .one (.raw (.slice none 0 0)) (tupv v6 0)), (11, .one (.raw (.slice none 0 0)) (tupv v9 0)), (14, .one (.int .i64) s41.1), (78, .one (.raw (.slice none 0 0)) g42), (79, .one (.int .i64) s41.1)]) rfl ?_
            obtain ⟨hc, h⟩ := ite_ex h
            refine r_expose 2 rfl (by omega) fun b44 c45 hv => ?_
            rw [hv]
            try clear hv
            refine y (y_iraw tabOk rfl rfl hc.1 (by simpa using hc.2) rfl ty9) rfl ?_
            refine r_sown 2 (Int.toNat s41.1) .here rfl rfl rfl (by omega) (by first | rfl | (simp only [Pth.off, T.size]; omega)) ok_here ty9 ?_
            refine r_nil ?_
            refine r_inblock ?_
            refine r_then ?_
            refine r_region ?_
            refine r_pure tabOk 3 [0, 1, 5, 8, 11, 14] (E' := [(0, .one .str a0), (1, .one (.int .i64) a1), (5, .one (.raw (.slice none 0 0)) (.slice (some ⟨b44, 0, none⟩) (List.length s41.2) c45)), (8, .one (.raw (.slice none 0 0)) (tupv v6 0)), (11, .one (.raw (.slice none 0 0)) (tupv v9 0)), (14, .one (.int .i64) (IntKind.wrap .i64 (s41.1 + 1)))]) rfl ?_
            obtain ⟨i46, hi46, h⟩ := bnd_ex h
            rw [hi46]
            refine r_nil ?_
            refine r_then ?_
            refine r_less [0, 1, 5, 8, 11, 14] rfl ?_
            exact r_backg (i46, (List.set s41.2 (Int.toNat s41.1) [119, 114, 105, 116, 116, 101, 110])) (.slice (some ⟨b44, 0, none⟩) (List.length s41.2) c45) (Nat.lt_succ_self _) h rfl rfl
          · rw [if_neg (ne_true_of_eq_false hc)] at h
            refine r_exit ?_
            refine e_then ?_
            refine e_then ?_
            refine e_eq ?_
            refine r_then ?_
            refine r_less [0, 1, 5, 8, 11] rfl ?_
            exact r_meetk s41.2 g42 h rfl rfl
        · intro o21 g22 h
          rw [← hk20] at h
          try dsimp only at h
          refine r_seq ?_
          refine r_region ?_
          refine r_pure tabOk 1 [0, 1, 8, 11, 81] (E' := [(0, .one .str a0), (1, .one (.int .i64) a1), (8, .one (.raw (.slice none 0 0)) (tupv v6 0)), (11, .one (.raw (.slice none 0 0)) (tupv v9 0)), (81, .one (.raw (.slice none 0 0)) g22)]) rfl ?_
          refine r_lits (B := 16) tabOk rfl el9 rfl rfl rfl (.cons rfl .nil) rfl fun v23 => ?_
          obtain ⟨hc, h⟩ := ite_ex h
          refine r_append (B := 16) tabOk 3 rfl rfl (src_own 0 rfl rfl) rfl el9 rfl rfl hc rfl fun v25 => ?_
          refine r_lose (L' := [Res.own (tupv v9 0) 9 .str r8.1, Res.own (tupv v6 0) 9 .str r5.1, Res.own v25 9 .str (o21 ++ ([[109, 111, 114, 101]]))]) (.cons _ (.cons_cons _ (.cons_cons _ (.cons_cons _ .slnil)))) ?_
          refine r_pure tabOk 1 [0, 1, 8, 11, 15] (E' := [(0, .one .str a0), (1, .one (.int .i64) a1), (8, .one (.raw (.slice none 0 0)) (tupv v6 0)), (11, .one (.raw (.slice none 0 0)) (tupv v9 0)), (15, .one (.raw (.slice none 0 0)) v25)]) rfl ?_
          refine r_nil ?_
          refine r_then ?_
          refine r_seq ?_
          refine r_region ?_
          refine r_pure tabOk 2 [8, 11, 15, 85, 86] (E' := [(8, .one (.raw (.slice none 0 0)) (tupv v6 0)), (11, .one (.raw (.slice none 0 0)) (tupv v9 0)), (15, .one (.raw (.slice none 0 0)) v25), (85, .one .str a0), (86, .one (.int .i64) a1)]) rfl ?_
          obtain ⟨r26, hr26, h⟩ := bind_ex h
          refine r_call (Lo := [Res.own (tupv v9 0) 9 .str r8.1, Res.own (tupv v6 0) 9 .str r5.1, Res.own v25 9 .str (o21 ++ ([[109, 111, 114, 101]]))]) (frame_Scan_ok a0 a1 _ hr26) (by kernel_rfl) (by simp) rfl rfl fun v27 => ?_
          refine r_pure tabOk 7 [8, 11, 15, 16] (E' := [(8, .one (.raw (.slice none 0 0)) (tupv v6 0)), (11, .one (.raw (.slice none 0 0)) (tupv v9 0)), (15, .one (.raw (.slice none 0 0)) v25), (16, .one (.raw (.slice none 0 0)) (tupv v27 0))]) rfl ?_
          refine r_nil ?_
          refine r_then ?_
          refine r_seq ?_
          refine r_region ?_
          refine r_pure tabOk 1 [8, 11, 16, 91] (E' := [(8, .one (.raw (.slice none 0 0)) (tupv v6 0)), (11, .one (.raw (.slice none 0 0)) (tupv v9 0)), (16, .one (.raw (.slice none 0 0)) (tupv v27 0)), (91, .one (.raw (.slice none 0 0)) v25)]) rfl ?_
          refine y (y_lenown tabOk 3 rfl rfl rfl) rfl ?_
          refine r_pure tabOk 1 [8, 11, 16, 92, 93] (E' := [(8, .one (.raw (.slice none 0 0)) (tupv v6 0)), (11, .one (.raw (.slice none 0 0)) (tupv v9 0)), (16, .one (.raw (.slice none 0 0)) (tupv v27 0)), (92, .one (.int .i64) (List.length (o21 ++ ([[109, 111, 114, 101]])) : Int)), (93, .one (.raw (.slice none 0 0)) (tupv v9 0))]) rfl ?_
          refine y (y_lenown tabOk 1 rfl rfl rfl) rfl ?_
          refine r_pure tabOk 2 [8, 11, 16, 96] (E' := [(8, .one (.raw (.slice none 0 0)) (tupv v6 0)), (11, .one (.raw (.slice none 0 0)) (tupv v9 0)), (16, .one (.raw (.slice none 0 0)) (tupv v27 0)), (96, .one .bool ((List.length (o21 ++ ([[109, 111, 114, 101]])) : Int) == (IntKind.wrap .i64 ((List.length r8.1 : Int) + 1))))]) rfl ?_
          obtain ⟨t29, ht29, h⟩ := bnd_ex h
          rw [ht29]
          refine r_pure tabOk 1 [8, 11, 16, 97] (E' := [(8, .one (.raw (.slice none 0 0)) (tupv v6 0)), (11, .one (.raw (.slice none 0 0)) (tupv v9 0)), (16, .one (.raw (.slice none 0 0)) (tupv v27 0)), (97, .one .bool t29)]) rfl ?_
          obtain ⟨k31, hk31, h⟩ := bnd_ex h
          refine r_lsplitk (γ := Unit) 4 (fun (o32 : Bool) _ => [(11, .one (.raw (.slice none 0 0)) (tupv v9 0)), (16, .one (.raw (.slice none 0 0)) (tupv v27 0)), (101, .one .bool o32)]) (fun _ _ => [Res.own (tupv v27 0) 9 .str r26.1, Res.own (tupv v9 0) 9 .str r8.1, Res.own v25 9 .str (o21 ++ ([[109, 111, 114, 101]]))]) k31 r ?_ ?_
          · rcases Bool.eq_false_or_eq_true t29 with hh | hh
            · rw [hh] at h ⊢
              rw [if_pos rfl] at h
              refine r_pure tabOk 2 [11, 16, 97, 98, 99] (E' := [(11, .one (.raw (.slice none 0 0)) (tupv v9 0)), (16, .one (.raw (.slice none 0 0)) (tupv v27 0)), (97, .one .bool true), (98, .one (.raw (.slice none 0 0)) (tupv v6 0)), (99, .one (.raw (.slice none 0 0)) (tupv v9 0))]) rfl ?_
              refine r_guard (by rfl) rfl ?_
              refine r_freeze (i := 2) (k := 98) rfl rfl ?_
              obtain ⟨r33, hr33, h⟩ := bind_ex h
              refine r_callw (escrowlaw05_same_ok r5.1 r8.1 _ hr33) (by kernel_rfl) rfl (.val rfl (.own 1 rfl rfl .nil)) rfl ?_
              refine r_pure tabOk 1 [11, 16, 101] (E' := [(11, .one (.raw (.slice none 0 0)) (tupv v9 0)), (16, .one (.raw (.slice none 0 0)) (tupv v27 0)), (101, .one .bool r33)]) rfl ?_
              refine r_nil ?_
              refine r_less [11, 16, 101] rfl ?_
              refine r_then ?_
              exact r_meetk r33 () h rfl rfl
            · rw [hh] at h ⊢
              rw [if_neg (by decide)] at h
              refine r_pure tabOk 4 [11, 16, 101] (E' := [(11, .one (.raw (.slice none 0 0)) (tupv v9 0)), (16, .one (.raw (.slice none 0 0)) (tupv v27 0)), (101, .one .bool false)]) rfl ?_
              refine r_nil ?_
              refine r_less [11, 16, 101] rfl ?_
              refine r_lose (L' := [Res.own (tupv v27 0) 9 .str r26.1, Res.own (tupv v9 0) 9 .str r8.1, Res.own v25 9 .str (o21 ++ ([[109, 111, 114, 101]]))]) (.cons_cons _ (.cons_cons _ (.cons _ (.cons_cons _ .slnil)))) ?_
              refine r_then ?_
              exact r_meetk false () h rfl rfl
          · intro o32 _ h
            rw [← hk31] at h
            try dsimp only at h
            refine r_pure tabOk 1 [11, 16, 102] (E' := [(11, .one (.raw (.slice none 0 0)) (tupv v9 0)), (16, .one (.raw (.slice none 0 0)) (tupv v27 0)), (102, .one .bool o32)]) rfl ?_
            obtain ⟨k35, hk35, h⟩ := bnd_ex h
            refine r_lsplitk (γ := Unit) 4 (fun (o36 : Bool) _ => [(106, .one .bool o36)]) (fun _ _ => [Res.own v25 9 .str (o21 ++ ([[109, 111, 114, 101]]))]) k35 r ?_ ?_
            · rcases Bool.eq_false_or_eq_true o32 with hh | hh
              · rw [hh] at h ⊢
                rw [if_pos rfl] at h
                refine r_pure tabOk 2 [102, 103, 104] (E' := [(102, .one .bool true), (103, .one (.raw (.slice none 0 0)) (tupv v27 0)), (104, .one (.raw (.slice none 0 0)) (tupv v9 0))]) rfl ?_
                refine r_guard (by rfl) rfl ?_
                refine r_freeze (i := 0) (k := 103) rfl rfl ?_
                refine r_freeze (i := 0) (k := 104) rfl rfl ?_
                obtain ⟨r37, hr37, h⟩ := bind_ex h
                refine r_calls (escrowlaw05_same_ok r26.1 r8.1 _ hr37) (by kernel_rfl) rfl rfl ?_
                refine r_pure tabOk 1 [106] (E' := [(106, .one .bool r37)]) rfl ?_
                refine r_nil ?_
                refine r_less [106] rfl ?_
                refine r_then ?_
                exact r_meetk r37 () h rfl rfl
              · rw [hh] at h ⊢
                rw [if_neg (by decide)] at h
                refine r_pure tabOk 4 [106] (E' := [(106, .one .bool false)]) rfl ?_
                refine r_nil ?_
                refine r_less [106] rfl ?_
                refine r_lose (L' := [Res.own v25 9 .str (o21 ++ ([[109, 111, 114, 101]]))]) (.cons _ (.cons _ (.cons_cons _ .slnil))) ?_
                refine r_then ?_
                exact r_meetk false () h rfl rfl
            · intro o36 _ h
              rw [← hk35] at h
              try dsimp only at h
              refine r_pure tabOk 1 [4] (E' := [(4, .one .bool o36)]) rfl ?_
              refine r_nil ?_
              refine r_then ?_
              refine r_ret ?_
              obtain rfl := Option.some.inj h
              exact r_ret1 rfl (.tmp rfl) (fun _ _ g => g) (fun _ _ _ => List.nil_sublist _)

theorem escrowlaw05_FrameOne_ok (a0 : List Int) (a1 : Int) (a2 : Int) (r : Bool) (h : escrowlaw05_FrameOne a0 a1 a2 = some r) : Pure Try.prog 8 [.one .str a0, .one (.int .i64) a1, .one (.int .i64) a2] (.one .bool r) := by
  unfold escrowlaw05_FrameOne at h
  refine enter Try.func8 rfl 86 rfl rfl fun F => ?_
  refine r_seq ?_
  refine r_region ?_
  refine r_pure tabOk 1 [0, 1, 2] (E' := [(0, .one .str a0), (1, .one (.int .i64) a1), (2, .one (.int .i64) a2)]) rfl ?_
  refine r_nil ?_
  refine r_then ?_
  refine r_seq ?_
  refine r_seq ?_
  refine r_region ?_
  obtain ⟨r1, hr1, h⟩ := bind_ex h
  refine r_calls (escrowlaw05_first_ok  _ hr1) (by kernel_rfl) rfl rfl ?_
  refine r_pure tabOk 1 [0, 1, 2, 13] (E' := [(0, .one .str a0), (1, .one (.int .i64) a1), (2, .one (.int .i64) a2), (13, .one .bool (!r1))]) rfl ?_
  refine r_nil ?_
  refine r_then ?_
  refine r_if (b := (!r1)) rfl (fun hc => ?_) (fun hc => ?_)
  · rw [if_pos hc] at h
    refine r_seq ?_
    refine r_region ?_
    refine r_pure tabOk 1 [6] (E' := [(6, .one .bool false)]) rfl ?_
    refine r_nil ?_
    refine r_then ?_
    refine r_ret ?_
    refine t_then ?_
    obtain rfl := Option.some.inj h
    exact r_ret1 rfl (.tmp rfl) (fun _ _ g => g) (fun _ _ _ => List.nil_sublist _)
  · rw [if_neg (ne_true_of_eq_false hc)] at h
    refine r_skip ?_
    refine r_then ?_
    refine r_seq ?_
    refine r_region ?_
    refine r_pure tabOk 3 [0, 1, 2, 15, 16, 17] (E' := [(0, .one .str a0), (1, .one (.int .i64) a1), (2, .one (.int .i64) a2), (15, .one .str a0), (16, .one (.int .i64) a1), (17, .one (.int .i64) a2)]) rfl ?_
    obtain ⟨r2, hr2, h⟩ := bind_ex h
    refine r_calls (frame_Next_ok a0 a1 a2 _ hr2) (by kernel_rfl) rfl rfl ?_
    refine r_pure tabOk 7 [0, 1, 2, 7, 8, 9] (E' := [(0, .one .str a0), (1, .one (.int .i64) a1), (2, .one (.int .i64) a2), (7, .one .str r2.1), (8, .one (.int .i64) r2.2.1), (9, .one (.int .i64) r2.2.2)]) rfl ?_
    refine r_nil ?_
    refine r_then ?_
    refine r_seq ?_
    refine r_seq ?_
    refine r_region ?_
    refine r_pure tabOk 2 [0, 1, 2, 7, 8, 9, 23] (E' := [(0, .one .str a0), (1, .one (.int .i64) a1), (2, .one (.int .i64) a2), (7, .one .str r2.1), (8, .one (.int .i64) r2.2.1), (9, .one (.int .i64) r2.2.2), (23, .one .bool (r2.2.2 != 1))]) rfl ?_
    refine r_nil ?_
    refine r_then ?_
    refine r_if (b := (r2.2.2 != 1)) rfl (fun hc => ?_) (fun hc => ?_)
    · rw [if_pos hc] at h
      refine r_seq ?_
      refine r_region ?_
      refine r_pure tabOk 6 [7, 8, 9, 25, 29] (E' := [(7, .one .str r2.1), (8, .one (.int .i64) r2.2.1), (9, .one (.int .i64) r2.2.2), (25, .one .bool (r2.2.2 == 0)), (29, .one .bool (a1 == (List.length a0 : Int)))]) rfl ?_
      refine y (y_beq rfl rfl Try.underlying4) rfl ?_
      refine r_pure tabOk 1 [7, 8, 9, 31] (E' := [(7, .one .str r2.1), (8, .one (.int .i64) r2.2.1), (9, .one (.int .i64) r2.2.2), (31, .one .bool ((r2.2.2 == 0) == (a1 == (List.length a0 : Int))))]) rfl ?_
      obtain ⟨b3, hbb3, h⟩ := bnd_ex h
      rw [hbb3]
      obtain ⟨k4, hk4, h⟩ := bnd_ex h
      refine r_lsplitk (γ := Unit) 7 (fun (o5 : Bool) _ => [(7, .one .str r2.1), (8, .one (.int .i64) r2.2.1), (38, .one .bool o5)]) (fun _ _ => []) k4 r ?_ ?_
      · rcases Bool.eq_false_or_eq_true b3 with hh | hh
        · rw [hh] at h ⊢
          rw [if_pos rfl] at h
          refine r_pure tabOk 3 [7, 8, 9, 31, 34] (E' := [(7, .one .str r2.1), (8, .one (.int .i64) r2.2.1), (9, .one (.int .i64) r2.2.2), (31, .one .bool true), (34, .one .bool (r2.2.2 == 0))]) rfl ?_
          obtain ⟨b6, hbb6, h⟩ := bnd_ex h
          rw [hbb6]
          refine r_lsplit (γ := Unit) 3 (fun _ => [(7, .one .str r2.1), (8, .one (.int .i64) r2.2.1), (31, .one .bool true), (37, .one .bool (b6 || (r2.2.2 == 2)))]) (fun _ => []) ?_ (fun _ => ?_)
          · clear h
            cases b6 with
            | true =>
            refine r_pure tabOk 3 [7, 8, 31, 37] (E' := [(7, .one .str r2.1), (8, .one (.int .i64) r2.2.1), (31, .one .bool true), (37, .one .bool true)]) rfl ?_
            refine r_nil ?_
            refine r_then ?_
            exact r_meetg () rfl rfl
            | false =>
            refine r_pure tabOk 3 [7, 8, 31, 37] (E' := [(7, .one .str r2.1), (8, .one (.int .i64) r2.2.1), (31, .one .bool true), (37, .one .bool (r2.2.2 == 2))]) rfl ?_
            refine r_nil ?_
            refine r_then ?_
            exact r_meetg () rfl rfl
          refine r_pure tabOk 1 [7, 8, 38] (E' := [(7, .one .str r2.1), (8, .one (.int .i64) r2.2.1), (38, .one .bool (b6 || (r2.2.2 == 2)))]) rfl ?_
          refine r_nil ?_
          refine r_less [7, 8, 38] rfl ?_
          refine r_then ?_
          exact r_meetk (b6 || (r2.2.2 == 2)) () h rfl rfl
        · rw [hh] at h ⊢
          rw [if_neg (by decide)] at h
          refine r_pure tabOk 7 [7, 8, 38] (E' := [(7, .one .str r2.1), (8, .one (.int .i64) r2.2.1), (38, .one .bool false)]) rfl ?_
          refine r_nil ?_
          refine r_less [7, 8, 38] rfl ?_
          refine r_then ?_
          exact r_meetk false () h rfl rfl
      · intro o5 _ h
        rw [← hk4] at h
        try dsimp only at h
        refine r_pure tabOk 1 [7, 8, 39] (E' := [(7, .one .str r2.1), (8, .one (.int .i64) r2.2.1), (39, .one .bool o5)]) rfl ?_
        refine r_lsplit (γ := Unit) 3 (fun _ => [(8, .one (.int .i64) r2.2.1), (42, .one .bool (o5 && (r2.1 == [])))]) (fun _ => []) ?_ (fun _ => ?_)
        · clear h
          rcases Bool.eq_false_or_eq_true o5 with hh | hh
          · rw [hh]
            refine r_pure tabOk 3 [8, 42] (E' := [(8, .one (.int .i64) r2.2.1), (42, .one .bool (r2.1 == []))]) rfl ?_
            refine r_nil ?_
            refine r_then ?_
            exact r_meetg () rfl rfl
          · rw [hh]
            refine r_pure tabOk 3 [8, 42] (E' := [(8, .one (.int .i64) r2.2.1), (42, .one .bool false)]) rfl ?_
            refine r_nil ?_
            refine r_then ?_
            exact r_meetg () rfl rfl
        refine r_pure tabOk 1 [8, 43] (E' := [(8, .one (.int .i64) r2.2.1), (43, .one .bool (o5 && (r2.1 == [])))]) rfl ?_
        obtain ⟨b8, hbb8, h⟩ := bnd_ex h
        rw [hbb8]
        refine r_lsplit (γ := Unit) 3 (fun _ => [(46, .one .bool (b8 && (r2.2.1 == 0)))]) (fun _ => []) ?_ (fun _ => ?_)
        · clear h
          cases b8 with
          | true =>
          refine r_pure tabOk 3 [46] (E' := [(46, .one .bool (r2.2.1 == 0))]) rfl ?_
          refine r_nil ?_
          refine r_then ?_
          exact r_meetg () rfl rfl
          | false =>
          refine r_pure tabOk 3 [46] (E' := [(46, .one .bool false)]) rfl ?_
          refine r_nil ?_
          refine r_then ?_
          exact r_meetg () rfl rfl
        refine r_pure tabOk 1 [6] (E' := [(6, .one .bool (b8 && (r2.2.1 == 0)))]) rfl ?_
        refine r_nil ?_
        refine r_then ?_
        refine r_ret ?_
        refine t_then ?_
        obtain rfl := Option.some.inj h
        exact r_ret1 rfl (.tmp rfl) (fun _ _ g => g) (fun _ _ _ => List.nil_sublist _)
    · rw [if_neg (ne_true_of_eq_false hc)] at h
      refine r_skip ?_
      refine r_then ?_
      refine r_seq ?_
      refine r_region ?_
      refine r_pure tabOk 2 [0, 1, 2, 7, 8, 48, 49] (E' := [(0, .one .str a0), (1, .one (.int .i64) a1), (2, .one (.int .i64) a2), (7, .one .str r2.1), (8, .one (.int .i64) r2.2.1), (48, .one (.int .i64) a2), (49, .one .str r2.1)]) rfl ?_
      obtain ⟨r9, hr9, h⟩ := bind_ex h
      refine r_calls (frame_Frame_ok a2 r2.1 _ hr9) (by kernel_rfl) rfl rfl ?_
      refine r_pure tabOk 5 [0, 1, 2, 7, 8, 10, 11] (E' := [(0, .one .str a0), (1, .one (.int .i64) a1), (2, .one (.int .i64) a2), (7, .one .str r2.1), (8, .one (.int .i64) r2.2.1), (10, .one .str r9.1), (11, .one (.int .i64) r9.2)]) rfl ?_
      refine r_nil ?_
      refine r_then ?_
      refine r_seq ?_
      refine r_region ?_
      refine r_pure tabOk 3 [0, 1, 2, 7, 8, 10, 55] (E' := [(0, .one .str a0), (1, .one (.int .i64) a1), (2, .one (.int .i64) a2), (7, .one .str r2.1), (8, .one (.int .i64) r2.2.1), (10, .one .str r9.1), (55, .one .bool (r9.2 == 0))]) rfl ?_
      obtain ⟨b10, hbb10, h⟩ := bnd_ex h
      rw [hbb10]
      refine r_lsplit (γ := Unit) 3 (fun _ => [(0, .one .str a0), (1, .one (.int .i64) a1), (7, .one .str r2.1), (8, .one (.int .i64) r2.2.1), (10, .one .str r9.1), (58, .one .bool (b10 && (decide (a2 ≥ 0))))]) (fun _ => []) ?_ (fun _ => ?_)
      · clear h
        cases b10 with
        | true =>
        refine r_pure tabOk 3 [0, 1, 7, 8, 10, 58] (E' := [(0, .one .str a0), (1, .one (.int .i64) a1), (7, .one .str r2.1), (8, .one (.int .i64) r2.2.1), (10, .one .str r9.1), (58, .one .bool (decide (a2 ≥ 0)))]) rfl ?_
        refine r_nil ?_
        refine r_then ?_
        exact r_meetg () rfl rfl
        | false =>
        refine r_pure tabOk 3 [0, 1, 7, 8, 10, 58] (E' := [(0, .one .str a0), (1, .one (.int .i64) a1), (7, .one .str r2.1), (8, .one (.int .i64) r2.2.1), (10, .one .str r9.1), (58, .one .bool false)]) rfl ?_
        refine r_nil ?_
        refine r_then ?_
        exact r_meetg () rfl rfl
      refine r_pure tabOk 1 [0, 1, 7, 8, 10, 59] (E' := [(0, .one .str a0), (1, .one (.int .i64) a1), (7, .one .str r2.1), (8, .one (.int .i64) r2.2.1), (10, .one .str r9.1), (59, .one .bool (b10 && (decide (a2 ≥ 0))))]) rfl ?_
      obtain ⟨b11, hbb11, h⟩ := bnd_ex h
      rw [hbb11]
      refine r_lsplit (γ := Unit) 3 (fun _ => [(0, .one .str a0), (1, .one (.int .i64) a1), (7, .one .str r2.1), (8, .one (.int .i64) r2.2.1), (10, .one .str r9.1), (62, .one .bool (b11 && (decide (a1 ≥ 0))))]) (fun _ => []) ?_ (fun _ => ?_)
      · clear h
        cases b11 with
        | true =>
        refine r_pure tabOk 3 [0, 1, 7, 8, 10, 62] (E' := [(0, .one .str a0), (1, .one (.int .i64) a1), (7, .one .str r2.1), (8, .one (.int .i64) r2.2.1), (10, .one .str r9.1), (62, .one .bool (decide (a1 ≥ 0)))]) rfl ?_
        refine r_nil ?_
        refine r_then ?_
        exact r_meetg () rfl rfl
        | false =>
        refine r_pure tabOk 3 [0, 1, 7, 8, 10, 62] (E' := [(0, .one .str a0), (1, .one (.int .i64) a1), (7, .one .str r2.1), (8, .one (.int .i64) r2.2.1), (10, .one .str r9.1), (62, .one .bool false)]) rfl ?_
        refine r_nil ?_
        refine r_then ?_
        exact r_meetg () rfl rfl
      refine r_pure tabOk 1 [0, 1, 7, 8, 10, 63] (E' := [(0, .one .str a0), (1, .one (.int .i64) a1), (7, .one .str r2.1), (8, .one (.int .i64) r2.2.1), (10, .one .str r9.1), (63, .one .bool (b11 && (decide (a1 ≥ 0))))]) rfl ?_
      obtain ⟨b12, hbb12, h⟩ := bnd_ex h
      rw [hbb12]
      refine r_lsplit (γ := Unit) 7 (fun _ => [(0, .one .str a0), (1, .one (.int .i64) a1), (7, .one .str r2.1), (8, .one (.int .i64) r2.2.1), (10, .one .str r9.1), (70, .one .bool (b12 && (decide ((IntKind.wrap .i64 (a1 + r2.2.1)) ≤ (List.length a0 : Int)))))]) (fun _ => []) ?_ (fun _ => ?_)
      · clear h
        cases b12 with
        | true =>
        refine r_pure tabOk 7 [0, 1, 7, 8, 10, 70] (E' := [(0, .one .str a0), (1, .one (.int .i64) a1), (7, .one .str r2.1), (8, .one (.int .i64) r2.2.1), (10, .one .str r9.1), (70, .one .bool (decide ((IntKind.wrap .i64 (a1 + r2.2.1)) ≤ (List.length a0 : Int))))]) rfl ?_
        refine r_nil ?_
        refine r_then ?_
        exact r_meetg () rfl rfl
        | false =>
        refine r_pure tabOk 7 [0, 1, 7, 8, 10, 70] (E' := [(0, .one .str a0), (1, .one (.int .i64) a1), (7, .one .str r2.1), (8, .one (.int .i64) r2.2.1), (10, .one .str r9.1), (70, .one .bool false)]) rfl ?_
        refine r_nil ?_
        refine r_then ?_
        exact r_meetg () rfl rfl
      refine r_pure tabOk 1 [0, 1, 7, 8, 10, 71] (E' := [(0, .one .str a0), (1, .one (.int .i64) a1), (7, .one .str r2.1), (8, .one (.int .i64) r2.2.1), (10, .one .str r9.1), (71, .one .bool (b12 && (decide ((IntKind.wrap .i64 (a1 + r2.2.1)) ≤ (List.length a0 : Int)))))]) rfl ?_
      obtain ⟨b13, hbb13, h⟩ := bnd_ex h
      rw [hbb13]
      obtain ⟨k14, hk14, h⟩ := bnd_ex h
      refine r_lsplitk (γ := Unit) 9 (fun (o15 : Bool) _ => [(7, .one .str r2.1), (80, .one .bool o15)]) (fun _ _ => []) k14 r ?_ ?_
      · rcases Bool.eq_false_or_eq_true b13 with hh | hh
        · rw [hh] at h ⊢
          rw [if_pos rfl] at h
          refine r_pure tabOk 6 [7, 71, 72, 73, 74, 77] (E' := [(7, .one .str r2.1), (71, .one .bool true), (72, .one .str r9.1), (73, .one .str a0), (74, .one (.int .i64) a1), (77, .one (.int .i64) (IntKind.wrap .i64 (a1 + r2.2.1)))]) rfl ?_
          refine r_guard (by rfl) rfl ?_
          obtain ⟨hc, h⟩ := ite_ex h
          refine y (y_sub (i := a1) (j := (IntKind.wrap .i64 (a1 + r2.2.1))) tabOk rfl rfl rfl hc.1 hc.2.1 hc.2.2 rfl) rfl ?_
          refine r_pure tabOk 1 [7, 71, 79] (E' := [(7, .one .str r2.1), (71, .one .bool true), (79, .one .bool (r9.1 == (List.drop (Int.toNat a1) (List.take (Int.toNat (IntKind.wrap .i64 (a1 + r2.2.1))) a0))))]) rfl ?_
          obtain ⟨t16, ht16, h⟩ := bnd_ex h
          rw [ht16]
          refine r_pure tabOk 1 [7, 80] (E' := [(7, .one .str r2.1), (80, .one .bool t16)]) rfl ?_
          refine r_nil ?_
          refine r_less [7, 80] rfl ?_
          refine r_then ?_
          exact r_meetk t16 () h rfl rfl
        · rw [hh] at h ⊢
          rw [if_neg (by decide)] at h
          refine r_pure tabOk 9 [7, 80] (E' := [(7, .one .str r2.1), (80, .one .bool false)]) rfl ?_
          refine r_nil ?_
          refine r_less [7, 80] rfl ?_
          refine r_then ?_
          exact r_meetk false () h rfl rfl
      · intro o15 _ h
        rw [← hk14] at h
        try dsimp only at h
        refine r_pure tabOk 1 [7, 81] (E' := [(7, .one .str r2.1), (81, .one .bool o15)]) rfl ?_
        refine r_lsplit (γ := Unit) 4 (fun _ => [(85, .one .bool (o15 && (decide ((List.length r2.1 : Int) ≤ 65536))))]) (fun _ => []) ?_ (fun _ => ?_)
        · clear h
          rcases Bool.eq_false_or_eq_true o15 with hh | hh
          · rw [hh]
            refine r_pure tabOk 4 [85] (E' := [(85, .one .bool (decide ((List.length r2.1 : Int) ≤ 65536)))]) rfl ?_
            refine r_nil ?_
            refine r_then ?_
            exact r_meetg () rfl rfl
          · rw [hh]
            refine r_pure tabOk 4 [85] (E' := [(85, .one .bool false)]) rfl ?_
            refine r_nil ?_
            refine r_then ?_
            exact r_meetg () rfl rfl
        refine r_pure tabOk 1 [6] (E' := [(6, .one .bool (o15 && (decide ((List.length r2.1 : Int) ≤ 65536))))]) rfl ?_
        refine r_nil ?_
        refine r_then ?_
        refine r_ret ?_
        obtain rfl := Option.some.inj h
        exact r_ret1 rfl (.tmp rfl) (fun _ _ g => g) (fun _ _ _ => List.nil_sublist _)

theorem escrowlaw05_number_ok (a0 : Int) (r : Int) (h : escrowlaw05_number a0 = some r) : Pure Try.prog 18 [.one (.int .i64) a0] (.one (.int .i64) r) := by
  unfold escrowlaw05_number at h
  refine enter Try.func18 rfl 5 rfl rfl fun F => ?_
  refine r_seq ?_
  refine r_region ?_
  refine r_pure tabOk 1 [0] (E' := [(0, .one (.int .i64) a0)]) rfl ?_
  refine r_nil ?_
  refine r_then ?_
  refine r_seq ?_
  refine r_region ?_
  refine r_pure tabOk 3 [2] (E' := [(2, .one (.int .i64) (iand .i64 a0 1152921504606846975))]) rfl ?_
  refine r_nil ?_
  refine r_then ?_
  refine r_ret ?_
  obtain rfl := Option.some.inj h
  exact r_ret1 rfl (.tmp rfl) (fun _ _ g => g) (fun _ _ _ => List.nil_sublist _)

theorem escrowlaw05_joined_ok (a0 : List (List Int)) (a1 : Int) (r : List Int × List (List Int) × List (Int) × Bool) (h : escrowlaw05_joined a0 a1 = some r) : Fn Try.prog 19 [.one (.sl 9 .str) a0, .one (.int .i64) a1] [] (fun v => .tup [⟨.str, r.1⟩, ⟨.raw (.slice none 0 0), tupv v 1⟩, ⟨.raw (.slice none 0 0), tupv v 2⟩, ⟨.bool, r.2.2.2⟩]) (fun v => [Res.own (tupv v 1) 9 .str r.2.1, Res.own (tupv v 2) 3 (.int .i64) r.2.2.1]) := by
  unfold escrowlaw05_joined at h
  refine enter Try.func19 rfl 86 rfl rfl fun F => ?_
  refine r_seq ?_
  refine r_region ?_
  refine r_pure tabOk 4 [0, 1] (E' := [(0, .one (.sl 9 .str) a0), (1, .one (.int .i64) a1)]) rfl ?_
  refine r_nil ?_
  refine r_then ?_
  refine r_seq ?_
  refine r_region ?_
  refine r_pure tabOk 1 [0, 1, 8] (E' := [(0, .one (.sl 9 .str) a0), (1, .one (.int .i64) a1), (8, .one .str [])]) rfl ?_
  refine r_nil ?_
  refine r_then ?_
  refine r_seq ?_
  refine r_region ?_
  refine r_pure tabOk 1 [0, 1, 8, 9] (E' := [(0, .one (.sl 9 .str) a0), (1, .one (.int .i64) a1), (8, .one .str []), (9, .one (.raw (.slice none 0 0)) (.slice none 0 0))]) rfl ?_
  refine r_nilown (.slice none 0 0) rfl 9 .str ?_
  refine r_nil ?_
  refine r_then ?_
  refine r_seq ?_
  refine r_region ?_
  refine r_pure tabOk 1 [0, 1, 8, 9, 10] (E' := [(0, .one (.sl 9 .str) a0), (1, .one (.int .i64) a1), (8, .one .str []), (9, .one (.raw (.slice none 0 0)) (.slice none 0 0)), (10, .one (.raw (.slice none 0 0)) (.slice none 0 0))]) rfl ?_
  refine r_nilown (.slice none 0 0) rfl 3 (.int .i64) ?_
  refine r_nil ?_
  refine r_then ?_
  obtain ⟨k3, hk3, h⟩ := bnd_ex h
  refine r_joink (γ := Value × Value) (fun (o4 : List Int × List (Int) × List (List Int)) g7 => [(8, .one .str o4.1), (9, .one (.raw (.slice none 0 0)) g7.2), (10, .one (.raw (.slice none 0 0)) g7.1)]) (fun (o4 : List Int × List (Int) × List (List Int)) g7 => [Res.own g7.1 3 (.int .i64) o4.2.1, Res.own g7.2 9 .str o4.2.2]) k3 r ?_ ?_
  · refine r_seq ?_
    refine r_region ?_
    refine r_pure tabOk 1 [0, 1, 8, 9, 10, 11] (E' := [(0, .one (.sl 9 .str) a0), (1, .one (.int .i64) a1), (8, .one .str []), (9, .one (.raw (.slice none 0 0)) (.slice none 0 0)), (10, .one (.raw (.slice none 0 0)) (.slice none 0 0)), (11, .one (.int .i64) 0)]) rfl ?_
    refine r_nil ?_
    refine r_then ?_
    refine r_block ?_
    refine r_less [0, 1, 8, 9, 10, 11] rfl ?_
    refine r_loopg (γ := Value × Value) (fun (s13 : List Int × Int × List (Int) × List (List Int)) g16 => [(0, .one (.sl 9 .str) a0), (1, .one (.int .i64) a1), (8, .one .str s13.1), (9, .one (.raw (.slice none 0 0)) g16.2), (10, .one (.raw (.slice none 0 0)) g16.1), (11, .one (.int .i64) s13.2.1)]) (fun (s13 : List Int × Int × List (Int) × List (List Int)) g16 => [Res.own g16.1 3 (.int .i64) s13.2.2.1, Res.own g16.2 9 .str s13.2.2.2]) (escrowlaw05_joined_l0 a0 a1 k3) ([], 0, [], []) ((.slice none 0 0), (.slice none 0 0)) h rfl rfl ?_
    clear h
    intro m17 s13 g16 h
    cases m17 with
    | zero => cases h
    | succ m17 =>
    simp only [escrowlaw05_joined_l0] at h
    refine r_seq ?_
    refine r_seq ?_
    refine r_region ?_
    refine r_pure tabOk 4 [0, 1, 8, 9, 10, 11, 17] (E' := [(0, .one (.sl 9 .str) a0), (1, .one (.int .i64) a1), (8, .one .str s13.1), (9, .one (.raw (.slice none 0 0)) g16.2), (10, .one (.raw (.slice none 0 0)) g16.1), (11, .one (.int .i64) s13.2.1), (17, .one .bool (decide (s13.2.1 < (List.length a0 : Int))))]) rfl ?_
    refine r_nil ?_
    refine r_then ?_
    refine r_if (b := (decide (s13.2.1 < (List.length a0 : Int)))) rfl (fun hc => ?_) (fun hc => ?_)
    · rw [if_pos hc] at h
      refine r_skip ?_
      refine r_then ?_
      obtain ⟨k18, hk18, h⟩ := bnd_ex h
      refine r_joink (γ := Value × Value) (fun (o19 : List Int × List (Int) × List (List Int)) g22 => [(0, .one (.sl 9 .str) a0), (1, .one (.int .i64) a1), (8, .one .str o19.1), (9, .one (.raw (.slice none 0 0)) g22.2), (10, .one (.raw (.slice none 0 0)) g22.1), (11, .one (.int .i64) s13.2.1)]) (fun (o19 : List Int × List (Int) × List (List Int)) g22 => [Res.own g22.1 3 (.int .i64) o19.2.1, Res.own g22.2 9 .str o19.2.2]) k18 r ?_ ?_
      · refine r_block ?_
        refine r_seq ?_
        refine r_seq ?_
        refine r_region ?_
        refine r_pure tabOk 2 [0, 1, 8, 9, 10, 11, 20, 21] (E' := [(0, .one (.sl 9 .str) a0), (1, .one (.int .i64) a1), (8, .one .str s13.1), (9, .one (.raw (.slice none 0 0)) g16.2), (10, .one (.raw (.slice none 0 0)) g16.1), (11, .one (.int .i64) s13.2.1), (20, .one (.sl 9 .str) a0), (21, .one (.int .i64) s13.2.1)]) rfl ?_
        obtain ⟨hc, h⟩ := ite_ex h
        refine y (y_iref tabOk rfl rfl hc.1 hc.2 rfl ty9) rfl ?_
        refine y (y_ref rfl ty9) rfl ?_
        refine r_pure tabOk 2 [0, 1, 8, 9, 10, 11, 25] (E' := [(0, .one (.sl 9 .str) a0), (1, .one (.int .i64) a1), (8, .one .str s13.1), (9, .one (.raw (.slice none 0 0)) g16.2), (10, .one (.raw (.slice none 0 0)) g16.1), (11, .one (.int .i64) s13.2.1), (25, .one .bool (decide ((List.length (List.getD a0 (Int.toNat s13.2.1) []) : Int) > 65536)))]) rfl ?_
        refine r_nil ?_
        refine r_then ?_
        refine r_if (b := (decide ((List.length (List.getD a0 (Int.toNat s13.2.1) []) : Int) > 65536))) rfl (fun hc => ?_) (fun hc => ?_)
        · rw [if_pos hc] at h
          refine r_exit ?_
          refine e_then ?_
          refine e_eq ?_
          refine r_then ?_
          refine r_less [0, 1, 8, 9, 10, 11] rfl ?_
          exact r_meetk (s13.1, s13.2.2.1, s13.2.2.2) (g16.1, g16.2) h rfl rfl
        · rw [if_neg (ne_true_of_eq_false hc)] at h
          refine r_skip ?_
          refine r_then ?_
          refine r_seq ?_
          refine r_region ?_
          refine r_pure tabOk 2 [0, 1, 8, 9, 10, 11, 27, 28] (E' := [(0, .one (.sl 9 .str) a0), (1, .one (.int .i64) a1), (8, .one .str s13.1), (9, .one (.raw (.slice none 0 0)) g16.2), (10, .one (.raw (.slice none 0 0)) g16.1), (11, .one (.int .i64) s13.2.1), (27, .one (.int .i64) a1), (28, .one (.raw (.slice none 0 0)) g16.2)]) rfl ?_
          refine y (y_lenown tabOk 1 rfl rfl rfl) rfl ?_
          refine r_pure tabOk 3 [0, 1, 8, 9, 10, 11, 30, 31, 32] (E' := [(0, .one (.sl 9 .str) a0), (1, .one (.int .i64) a1), (8, .one .str s13.1), (9, .one (.raw (.slice none 0 0)) g16.2), (10, .one (.raw (.slice none 0 0)) g16.1), (11, .one (.int .i64) s13.2.1), (30, .one (.int .i64) (IntKind.wrap .i64 (a1 + (List.length s13.2.2.2 : Int)))), (31, .one (.sl 9 .str) a0), (32, .one (.int .i64) s13.2.1)]) rfl ?_
          obtain ⟨hc, h⟩ := ite_ex h
          refine y (y_iref tabOk rfl rfl hc.1 hc.2 rfl ty9) rfl ?_
          refine y (y_ref rfl ty9) rfl ?_
          obtain ⟨r24, hr24, h⟩ := bind_ex h
          refine r_calls (frame_Frame_ok (IntKind.wrap .i64 (a1 + (List.length s13.2.2.2 : Int))) (List.getD a0 (Int.toNat s13.2.1) []) _ hr24) (by kernel_rfl) rfl rfl ?_
          refine r_pure tabOk 5 [0, 1, 8, 9, 10, 11, 12, 13] (E' := [(0, .one (.sl 9 .str) a0), (1, .one (.int .i64) a1), (8, .one .str s13.1), (9, .one (.raw (.slice none 0 0)) g16.2), (10, .one (.raw (.slice none 0 0)) g16.1), (11, .one (.int .i64) s13.2.1), (12, .one .str r24.1), (13, .one (.int .i64) r24.2)]) rfl ?_
          refine r_nil ?_
          refine r_then ?_
          refine r_seq ?_
          refine r_seq ?_
          refine r_region ?_
          refine r_pure tabOk 3 [0, 1, 8, 9, 10, 11, 12, 40] (E' := [(0, .one (.sl 9 .str) a0), (1, .one (.int .i64) a1), (8, .one .str s13.1), (9, .one (.raw (.slice none 0 0)) g16.2), (10, .one (.raw (.slice none 0 0)) g16.1), (11, .one (.int .i64) s13.2.1), (12, .one .str r24.1), (40, .one .bool (r24.2 != 0))]) rfl ?_
          obtain ⟨b25, hbb25, h⟩ := bnd_ex h
          rw [hbb25]
          refine r_lsplit (γ := Unit) 5 (fun _ => [(0, .one (.sl 9 .str) a0), (1, .one (.int .i64) a1), (8, .one .str s13.1), (9, .one (.raw (.slice none 0 0)) g16.2), (10, .one (.raw (.slice none 0 0)) g16.1), (11, .one (.int .i64) s13.2.1), (12, .one .str r24.1), (45, .one .bool (b25 || ((Int.tmod (List.length r24.1 : Int) 64) != 0)))]) (fun _ => [Res.own g16.1 3 (.int .i64) s13.2.2.1, Res.own g16.2 9 .str s13.2.2.2]) ?_ (fun _ => ?_)
          · clear h
            cases b25 with
            | true =>
            refine r_pure tabOk 5 [0, 1, 8, 9, 10, 11, 12, 45] (E' := [(0, .one (.sl 9 .str) a0), (1, .one (.int .i64) a1), (8, .one .str s13.1), (9, .one (.raw (.slice none 0 0)) g16.2), (10, .one (.raw (.slice none 0 0)) g16.1), (11, .one (.int .i64) s13.2.1), (12, .one .str r24.1), (45, .one .bool true)]) rfl ?_
            refine r_nil ?_
            refine r_then ?_
            exact r_meetg () rfl rfl
            | false =>
            refine r_pure tabOk 5 [0, 1, 8, 9, 10, 11, 12, 45] (E' := [(0, .one (.sl 9 .str) a0), (1, .one (.int .i64) a1), (8, .one .str s13.1), (9, .one (.raw (.slice none 0 0)) g16.2), (10, .one (.raw (.slice none 0 0)) g16.1), (11, .one (.int .i64) s13.2.1), (12, .one .str r24.1), (45, .one .bool ((Int.tmod (List.length r24.1 : Int) 64) != 0))]) rfl ?_
            refine r_nil ?_
            refine r_then ?_
            exact r_meetg () rfl rfl
          refine r_pure tabOk 1 [0, 1, 8, 9, 10, 11, 12, 46] (E' := [(0, .one (.sl 9 .str) a0), (1, .one (.int .i64) a1), (8, .one .str s13.1), (9, .one (.raw (.slice none 0 0)) g16.2), (10, .one (.raw (.slice none 0 0)) g16.1), (11, .one (.int .i64) s13.2.1), (12, .one .str r24.1), (46, .one .bool (b25 || ((Int.tmod (List.length r24.1 : Int) 64) != 0)))]) rfl ?_
          obtain ⟨b26, hbb26, h⟩ := bnd_ex h
          rw [hbb26]
          obtain ⟨k27, hk27, h⟩ := bnd_ex h
          refine r_lsplitk (γ := Unit) 10 (fun (o28 : Bool) _ => [(0, .one (.sl 9 .str) a0), (1, .one (.int .i64) a1), (8, .one .str s13.1), (9, .one (.raw (.slice none 0 0)) g16.2), (10, .one (.raw (.slice none 0 0)) g16.1), (11, .one (.int .i64) s13.2.1), (12, .one .str r24.1), (56, .one .bool o28)]) (fun _ _ => [Res.own g16.1 3 (.int .i64) s13.2.2.1, Res.own g16.2 9 .str s13.2.2.2]) k27 r ?_ ?_
          · rcases Bool.eq_false_or_eq_true b26 with hh | hh
            · rw [hh] at h ⊢
              rw [if_pos rfl] at h
              refine r_pure tabOk 10 [0, 1, 8, 9, 10, 11, 12, 56] (E' := [(0, .one (.sl 9 .str) a0), (1, .one (.int .i64) a1), (8, .one .str s13.1), (9, .one (.raw (.slice none 0 0)) g16.2), (10, .one (.raw (.slice none 0 0)) g16.1), (11, .one (.int .i64) s13.2.1), (12, .one .str r24.1), (56, .one .bool true)]) rfl ?_
              refine r_nil ?_
              refine r_less [0, 1, 8, 9, 10, 11, 12, 56] rfl ?_
              refine r_then ?_
              exact r_meetk true () h rfl rfl
            · rw [hh] at h ⊢
              rw [if_neg (by decide)] at h
              refine r_pure tabOk 4 [0, 1, 8, 9, 10, 11, 12, 46, 48, 49, 50] (E' := [(0, .one (.sl 9 .str) a0), (1, .one (.int .i64) a1), (8, .one .str s13.1), (9, .one (.raw (.slice none 0 0)) g16.2), (10, .one (.raw (.slice none 0 0)) g16.1), (11, .one (.int .i64) s13.2.1), (12, .one .str r24.1), (46, .one .bool false), (48, .one (.int .i64) (List.length r24.1 : Int)), (49, .one (.sl 9 .str) a0), (50, .one (.int .i64) s13.2.1)]) rfl ?_
              refine r_guard (by rfl) rfl ?_
              obtain ⟨hc, h⟩ := ite_ex h
              refine y (y_iref tabOk rfl rfl hc.1 hc.2 rfl ty9) rfl ?_
              refine r_guard (by rfl) rfl ?_
              refine y (y_ref rfl ty9) rfl ?_
              refine r_pure tabOk 3 [0, 1, 8, 9, 10, 11, 12, 46, 55] (E' := [(0, .one (.sl 9 .str) a0), (1, .one (.int .i64) a1), (8, .one .str s13.1), (9, .one (.raw (.slice none 0 0)) g16.2), (10, .one (.raw (.slice none 0 0)) g16.1), (11, .one (.int .i64) s13.2.1), (12, .one .str r24.1), (46, .one .bool false), (55, .one .bool (decide ((List.length r24.1 : Int) < (IntKind.wrap .i64 (16 + (List.length (List.getD a0 (Int.toNat s13.2.1) []) : Int))))))]) rfl ?_
              obtain ⟨t29, ht29, h⟩ := bnd_ex h
              rw [ht29]
              refine r_pure tabOk 1 [0, 1, 8, 9, 10, 11, 12, 56] (E' := [(0, .one (.sl 9 .str) a0), (1, .one (.int .i64) a1), (8, .one .str s13.1), (9, .one (.raw (.slice none 0 0)) g16.2), (10, .one (.raw (.slice none 0 0)) g16.1), (11, .one (.int .i64) s13.2.1), (12, .one .str r24.1), (56, .one .bool t29)]) rfl ?_
              refine r_nil ?_
              refine r_less [0, 1, 8, 9, 10, 11, 12, 56] rfl ?_
              refine r_then ?_
              exact r_meetk t29 () h rfl rfl
          · intro o28 _ h
            rw [← hk27] at h
            try dsimp only at h
            refine r_pure tabOk 1 [0, 1, 8, 9, 10, 11, 12, 57] (E' := [(0, .one (.sl 9 .str) a0), (1, .one (.int .i64) a1), (8, .one .str s13.1), (9, .one (.raw (.slice none 0 0)) g16.2), (10, .one (.raw (.slice none 0 0)) g16.1), (11, .one (.int .i64) s13.2.1), (12, .one .str r24.1), (57, .one .bool o28)]) rfl ?_
            obtain ⟨k31, hk31, h⟩ := bnd_ex h
            refine r_lsplitk (γ := Unit) 10 (fun (o32 : Bool) _ => [(0, .one (.sl 9 .str) a0), (1, .one (.int .i64) a1), (8, .one .str s13.1), (9, .one (.raw (.slice none 0 0)) g16.2), (10, .one (.raw (.slice none 0 0)) g16.1), (11, .one (.int .i64) s13.2.1), (12, .one .str r24.1), (67, .one .bool o32)]) (fun _ _ => [Res.own g16.1 3 (.int .i64) s13.2.2.1, Res.own g16.2 9 .str s13.2.2.2]) k31 r ?_ ?_
            · rcases Bool.eq_false_or_eq_true o28 with hh | hh
              · rw [hh] at h ⊢
                rw [if_pos rfl] at h
                refine r_pure tabOk 10 [0, 1, 8, 9, 10, 11, 12, 67] (E' := [(0, .one (.sl 9 .str) a0), (1, .one (.int .i64) a1), (8, .one .str s13.1), (9, .one (.raw (.slice none 0 0)) g16.2), (10, .one (.raw (.slice none 0 0)) g16.1), (11, .one (.int .i64) s13.2.1), (12, .one .str r24.1), (67, .one .bool true)]) rfl ?_
                refine r_nil ?_
                refine r_less [0, 1, 8, 9, 10, 11, 12, 67] rfl ?_
                refine r_then ?_
                exact r_meetk true () h rfl rfl
              · rw [hh] at h ⊢
                rw [if_neg (by decide)] at h
                refine r_pure tabOk 4 [0, 1, 8, 9, 10, 11, 12, 57, 59, 60, 61] (E' := [(0, .one (.sl 9 .str) a0), (1, .one (.int .i64) a1), (8, .one .str s13.1), (9, .one (.raw (.slice none 0 0)) g16.2), (10, .one (.raw (.slice none 0 0)) g16.1), (11, .one (.int .i64) s13.2.1), (12, .one .str r24.1), (57, .one .bool false), (59, .one (.int .i64) (List.length r24.1 : Int)), (60, .one (.sl 9 .str) a0), (61, .one (.int .i64) s13.2.1)]) rfl ?_
                refine r_guard (by rfl) rfl ?_
                obtain ⟨hc, h⟩ := ite_ex h
                refine y (y_iref tabOk rfl rfl hc.1 hc.2 rfl ty9) rfl ?_
                refine r_guard (by rfl) rfl ?_
                refine y (y_ref rfl ty9) rfl ?_
                refine r_pure tabOk 3 [0, 1, 8, 9, 10, 11, 12, 57, 66] (E' := [(0, .one (.sl 9 .str) a0), (1, .one (.int .i64) a1), (8, .one .str s13.1), (9, .one (.raw (.slice none 0 0)) g16.2), (10, .one (.raw (.slice none 0 0)) g16.1), (11, .one (.int .i64) s13.2.1), (12, .one .str r24.1), (57, .one .bool false), (66, .one .bool (decide ((List.length r24.1 : Int) ≥ (IntKind.wrap .i64 (80 + (List.length (List.getD a0 (Int.toNat s13.2.1) []) : Int))))))]) rfl ?_
                obtain ⟨t33, ht33, h⟩ := bnd_ex h
                rw [ht33]
                refine r_pure tabOk 1 [0, 1, 8, 9, 10, 11, 12, 67] (E' := [(0, .one (.sl 9 .str) a0), (1, .one (.int .i64) a1), (8, .one .str s13.1), (9, .one (.raw (.slice none 0 0)) g16.2), (10, .one (.raw (.slice none 0 0)) g16.1), (11, .one (.int .i64) s13.2.1), (12, .one .str r24.1), (67, .one .bool t33)]) rfl ?_
                refine r_nil ?_
                refine r_less [0, 1, 8, 9, 10, 11, 12, 67] rfl ?_
                refine r_then ?_
                exact r_meetk t33 () h rfl rfl
            · intro o32 _ h
              rw [← hk31] at h
              try dsimp only at h
              refine r_nil ?_
              refine r_then ?_
              refine r_if (b := o32) rfl (fun hc => ?_) (fun hc => ?_)
              · rw [if_pos hc] at h
                refine r_seq ?_
                refine r_region ?_
                refine r_pure tabOk 4 [4, 5, 6, 7] (E' := [(4, .one .str []), (5, .one (.raw (.slice none 0 0)) (.slice none 0 0)), (6, .one (.raw (.slice none 0 0)) (.slice none 0 0)), (7, .one .bool false)]) rfl ?_
                refine r_nil ?_
                refine r_then ?_
                refine r_ret ?_
                refine t_then ?_
                refine t_block ?_
                refine t_then ?_
                refine t_then ?_
                refine t_block ?_
                refine t_then ?_
                refine r_nilown (.slice none 0 0) rfl 9 .str ?_
                refine r_nilown (.slice none 0 0) rfl 3 (.int .i64) ?_
                obtain rfl := Option.some.inj h
                refine r_lose (L' := [Res.own (.slice none 0 0) 3 (.int .i64) [], Res.own (.slice none 0 0) 9 .str []]) (.cons_cons _ (.cons_cons _ (.cons _ (.cons _ .slnil)))) ?_
                refine r_perm (L' := [Res.own (.slice none 0 0) 9 .str [], Res.own (.slice none 0 0) 3 (.int .i64) []]) ((List.perm_middle (a := Res.own (.slice none 0 0) 9 .str []) (l₁ := [Res.own (.slice none 0 0) 3 (.int .i64) []]) (l₂ := [])).trans (.cons _ (List.Perm.refl _))) ?_
                exact r_rets (rs := [.tmp 4, .tmp 5, .tmp 6, .tmp 7]) rfl (.cons (.tmp rfl) (.cons (.tmp rfl) (.cons (.tmp rfl) (.cons (.tmp rfl) (.nil))))) rfl (fun _ vs g => by cases g with | cons h0 g => cases g with | cons h1 g => cases g with | cons h2 g => cases g with | cons h3 g => cases g; exact ⟨_, rfl, .cons h0 (.cons (raw_self h1) (.cons (raw_self h2) (.cons h3 (.nil))))⟩) (fun _ vs g => by cases g with | cons h0 g => cases g with | cons h1 g => cases g with | cons h2 g => cases g with | cons h3 g => cases g; rw [raw_eq h1]; rw [raw_eq h2]; exact (.cons_cons _ (.cons_cons _ .slnil)))
              · rw [if_neg (ne_true_of_eq_false hc)] at h
                refine r_skip ?_
                refine r_then ?_
                refine r_seq ?_
                refine r_region ?_
                refine r_pure tabOk 2 [0, 1, 9, 10, 11, 68, 69] (E' := [(0, .one (.sl 9 .str) a0), (1, .one (.int .i64) a1), (9, .one (.raw (.slice none 0 0)) g16.2), (10, .one (.raw (.slice none 0 0)) g16.1), (11, .one (.int .i64) s13.2.1), (68, .one .str s13.1), (69, .one .str r24.1)]) rfl ?_
                obtain ⟨hc, h⟩ := ite_ex h
                refine y (y_cat rfl rfl hc) rfl ?_
                refine r_pure tabOk 1 [0, 1, 8, 9, 10, 11] (E' := [(0, .one (.sl 9 .str) a0), (1, .one (.int .i64) a1), (8, .one .str (s13.1 ++ r24.1)), (9, .one (.raw (.slice none 0 0)) g16.2), (10, .one (.raw (.slice none 0 0)) g16.1), (11, .one (.int .i64) s13.2.1)]) rfl ?_
                obtain ⟨b36, hb36, h⟩ := bnd_ex h
                rw [hb36]
                refine r_nil ?_
                refine r_then ?_
                refine r_seq ?_
                refine r_region ?_
                refine r_pure tabOk 3 [0, 1, 8, 10, 11, 71, 72, 73] (E' := [(0, .one (.sl 9 .str) a0), (1, .one (.int .i64) a1), (8, .one .str b36), (10, .one (.raw (.slice none 0 0)) g16.1), (11, .one (.int .i64) s13.2.1), (71, .one (.raw (.slice none 0 0)) g16.2), (72, .one (.sl 9 .str) a0), (73, .one (.int .i64) s13.2.1)]) rfl ?_
                obtain ⟨hc, h⟩ := ite_ex h
                refine y (y_iref tabOk rfl rfl hc.1 hc.2 rfl ty9) rfl ?_
                refine y (y_ref rfl ty9) rfl ?_
                refine r_lits (B := 16) tabOk rfl el9 rfl rfl rfl (.cons rfl .nil) rfl fun v37 => ?_
                obtain ⟨hc, h⟩ := ite_ex h
                refine r_append (B := 16) tabOk 2 rfl rfl (src_own 0 rfl rfl) rfl el9 rfl rfl hc rfl fun v39 => ?_
                refine r_lose (L' := [Res.own g16.1 3 (.int .i64) s13.2.2.1, Res.own v39 9 .str (s13.2.2.2 ++ ([(List.getD a0 (Int.toNat s13.2.1) [])]))]) (.cons _ (.cons_cons _ (.cons_cons _ .slnil))) ?_
                refine r_pure tabOk 1 [0, 1, 8, 9, 10, 11] (E' := [(0, .one (.sl 9 .str) a0), (1, .one (.int .i64) a1), (8, .one .str b36), (9, .one (.raw (.slice none 0 0)) v39), (10, .one (.raw (.slice none 0 0)) g16.1), (11, .one (.int .i64) s13.2.1)]) rfl ?_
                refine r_nil ?_
                refine r_then ?_
                refine r_region ?_
                refine r_pure tabOk 3 [0, 1, 8, 9, 11, 78, 80] (E' := [(0, .one (.sl 9 .str) a0), (1, .one (.int .i64) a1), (8, .one .str b36), (9, .one (.raw (.slice none 0 0)) v39), (11, .one (.int .i64) s13.2.1), (78, .one (.raw (.slice none 0 0)) g16.1), (80, .one (.int .i64) (List.length b36 : Int))]) rfl ?_
                refine r_lits (B := 8) tabOk rfl el3 rfl rfl rfl (.cons rfl .nil) rfl fun v40 => ?_
                obtain ⟨hc, h⟩ := ite_ex h
                refine r_append (B := 8) tabOk 1 rfl rfl (src_own 0 rfl rfl) rfl el3 rfl rfl hc rfl fun v42 => ?_
                refine r_lose (L' := [Res.own v42 3 (.int .i64) (s13.2.2.1 ++ [(List.length b36 : Int)]), Res.own v39 9 .str (s13.2.2.2 ++ ([(List.getD a0 (Int.toNat s13.2.1) [])]))]) (.cons _ (.cons_cons _ (.cons_cons _ .slnil))) ?_
                refine r_pure tabOk 1 [0, 1, 8, 9, 10, 11] (E' := [(0, .one (.sl 9 .str) a0), (1, .one (.int .i64) a1), (8, .one .str b36), (9, .one (.raw (.slice none 0 0)) v39), (10, .one (.raw (.slice none 0 0)) v42), (11, .one (.int .i64) s13.2.1)]) rfl ?_
                refine r_nil ?_
                refine r_inblock ?_
                refine r_then ?_
                refine r_less [0, 1, 8, 9, 10, 11] rfl ?_
                exact r_meetk (b36, (s13.2.2.1 ++ [(List.length b36 : Int)]), (s13.2.2.2 ++ ([(List.getD a0 (Int.toNat s13.2.1) [])]))) (v42, v39) h rfl rfl
      · intro o19 g22 h
        rw [← hk18] at h
        try dsimp only at h
        refine r_region ?_
        refine r_pure tabOk 3 [0, 1, 8, 9, 10, 11] (E' := [(0, .one (.sl 9 .str) a0), (1, .one (.int .i64) a1), (8, .one .str o19.1), (9, .one (.raw (.slice none 0 0)) g22.2), (10, .one (.raw (.slice none 0 0)) g22.1), (11, .one (.int .i64) (IntKind.wrap .i64 (s13.2.1 + 1)))]) rfl ?_
        obtain ⟨i23, hi23, h⟩ := bnd_ex h
        rw [hi23]
        refine r_nil ?_
        refine r_then ?_
        refine r_less [0, 1, 8, 9, 10, 11] rfl ?_
        exact r_backg (o19.1, i23, o19.2.1, o19.2.2) (g22.1, g22.2) (Nat.lt_succ_self _) h rfl rfl
    · rw [if_neg (ne_true_of_eq_false hc)] at h
      refine r_exit ?_
      refine e_then ?_
      refine e_then ?_
      refine e_eq ?_
      refine r_then ?_
      refine r_less [8, 9, 10] rfl ?_
      exact r_meetk (s13.1, s13.2.2.1, s13.2.2.2) (g16.1, g16.2) h rfl rfl
  · intro o4 g7 h
    rw [← hk3] at h
    try dsimp only at h
    refine r_seq ?_
    refine r_region ?_
    refine r_pure tabOk 7 [4, 5, 6, 7] (E' := [(4, .one .str o4.1), (5, .one (.raw (.slice none 0 0)) g7.2), (6, .one (.raw (.slice none 0 0)) g7.1), (7, .one .bool true)]) rfl ?_
    refine r_nil ?_
    refine r_then ?_
    refine r_ret ?_
    obtain rfl := Option.some.inj h
    refine r_perm (L' := [Res.own g7.2 9 .str o4.2.2, Res.own g7.1 3 (.int .i64) o4.2.1]) ((List.perm_middle (a := Res.own g7.2 9 .str o4.2.2) (l₁ := [Res.own g7.1 3 (.int .i64) o4.2.1]) (l₂ := [])).trans (.cons _ (List.Perm.refl _))) ?_
    exact r_rets (rs := [.tmp 4, .tmp 5, .tmp 6, .tmp 7]) rfl (.cons (.tmp rfl) (.cons (.tmp rfl) (.cons (.tmp rfl) (.cons (.tmp rfl) (.nil))))) rfl (fun _ vs g => by cases g with | cons h0 g => cases g with | cons h1 g => cases g with | cons h2 g => cases g with | cons h3 g => cases g; exact ⟨_, rfl, .cons h0 (.cons (raw_self h1) (.cons (raw_self h2) (.cons h3 (.nil))))⟩) (fun _ vs g => by cases g with | cons h0 g => cases g with | cons h1 g => cases g with | cons h2 g => cases g with | cons h3 g => cases g; rw [raw_eq h1]; rw [raw_eq h2]; exact (.cons_cons _ (.cons_cons _ .slnil)))

theorem escrowlaw05_FrameBack_ok (a0 : List (List Int)) (a1 : Int) (a2 : Int) (r : Bool) (h : escrowlaw05_FrameBack a0 a1 a2 = some r) : Pure Try.prog 6 [.one (.sl 9 .str) a0, .one (.int .i64) a1, .one (.int .i64) a2] (.one .bool r) := by
  unfold escrowlaw05_FrameBack at h
  refine enter Try.func6 rfl 106 rfl rfl fun F => ?_
  refine r_seq ?_
  refine r_region ?_
  refine r_pure tabOk 1 [0, 1, 2] (E' := [(0, .one (.sl 9 .str) a0), (1, .one (.int .i64) a1), (2, .one (.int .i64) a2)]) rfl ?_
  refine r_nil ?_
  refine r_then ?_
  refine r_seq ?_
  refine r_seq ?_
  refine r_region ?_
  obtain ⟨r1, hr1, h⟩ := bind_ex h
  refine r_calls (escrowlaw05_first_ok  _ hr1) (by kernel_rfl) rfl rfl ?_
  refine r_pure tabOk 1 [0, 1, 2, 20] (E' := [(0, .one (.sl 9 .str) a0), (1, .one (.int .i64) a1), (2, .one (.int .i64) a2), (20, .one .bool (!r1))]) rfl ?_
  refine r_nil ?_
  refine r_then ?_
  refine r_if (b := (!r1)) rfl (fun hc => ?_) (fun hc => ?_)
  · rw [if_pos hc] at h
    refine r_seq ?_
    refine r_region ?_
    refine r_pure tabOk 1 [6] (E' := [(6, .one .bool false)]) rfl ?_
    refine r_nil ?_
    refine r_then ?_
    refine r_ret ?_
    refine t_then ?_
    obtain rfl := Option.some.inj h
    exact r_ret1 rfl (.tmp rfl) (fun _ _ g => g) (fun _ _ _ => List.nil_sublist _)
  · rw [if_neg (ne_true_of_eq_false hc)] at h
    refine r_skip ?_
    refine r_then ?_
    refine r_seq ?_
    refine r_region ?_
    refine r_pure tabOk 1 [0, 2, 21] (E' := [(0, .one (.sl 9 .str) a0), (2, .one (.int .i64) a2), (21, .one (.int .i64) a1)]) rfl ?_
    obtain ⟨r2, hr2, h⟩ := bind_ex h
    refine r_calls (escrowlaw05_number_ok a1 _ hr2) (by kernel_rfl) rfl rfl ?_
    refine r_pure tabOk 1 [0, 1, 2] (E' := [(0, .one (.sl 9 .str) a0), (1, .one (.int .i64) r2), (2, .one (.int .i64) a2)]) rfl ?_
    refine r_nil ?_
    refine r_then ?_
    refine r_seq ?_
    refine r_region ?_
    refine r_pure tabOk 2 [1, 2, 24, 25] (E' := [(1, .one (.int .i64) r2), (2, .one (.int .i64) a2), (24, .one (.sl 9 .str) a0), (25, .one (.int .i64) r2)]) rfl ?_
    obtain ⟨r3, hr3, h⟩ := bind_ex h
    refine r_call (Lo := []) (escrowlaw05_joined_ok a0 r2 _ hr3) (by kernel_rfl) (by simp) rfl rfl fun v4 => ?_
    refine r_pure tabOk 9 [1, 2, 7, 8, 9, 10] (E' := [(1, .one (.int .i64) r2), (2, .one (.int .i64) a2), (7, .one .str r3.1), (8, .one (.raw (.slice none 0 0)) (tupv v4 1)), (9, .one (.raw (.slice none 0 0)) (tupv v4 2)), (10, .one .bool r3.2.2.2)]) rfl ?_
    refine r_nil ?_
    refine r_then ?_
    refine r_seq ?_
    refine r_seq ?_
    refine r_region ?_
    refine r_pure tabOk 2 [1, 2, 7, 8, 9, 32] (E' := [(1, .one (.int .i64) r2), (2, .one (.int .i64) a2), (7, .one .str r3.1), (8, .one (.raw (.slice none 0 0)) (tupv v4 1)), (9, .one (.raw (.slice none 0 0)) (tupv v4 2)), (32, .one .bool (!r3.2.2.2))]) rfl ?_
    refine r_nil ?_
    refine r_then ?_
    refine r_if (b := (!r3.2.2.2)) rfl (fun hc => ?_) (fun hc => ?_)
    · rw [if_pos hc] at h
      refine r_seq ?_
      refine r_region ?_
      refine r_pure tabOk 1 [6] (E' := [(6, .one .bool false)]) rfl ?_
      refine r_nil ?_
      refine r_then ?_
      refine r_ret ?_
      refine t_then ?_
      obtain rfl := Option.some.inj h
      exact r_ret1 rfl (.tmp rfl) (fun _ _ g => g) (fun _ _ _ => List.nil_sublist _)
    · rw [if_neg (ne_true_of_eq_false hc)] at h
      refine r_skip ?_
      refine r_then ?_
      refine r_seq ?_
      refine r_region ?_
      refine r_pure tabOk 6 [1, 7, 8, 9, 34, 38] (E' := [(1, .one (.int .i64) r2), (7, .one .str r3.1), (8, .one (.raw (.slice none 0 0)) (tupv v4 1)), (9, .one (.raw (.slice none 0 0)) (tupv v4 2)), (34, .one (.int .u64) (IntKind.wrap .u64 a2)), (38, .one (.int .u64) (IntKind.wrap .u64 (IntKind.wrap .i64 ((List.length r3.1 : Int) + 1))))]) rfl ?_
      obtain ⟨hc, h⟩ := ite_ex h
      refine y (y_rem rfl rfl hc) rfl ?_
      refine r_pure tabOk 1 [1, 7, 8, 9, 40] (E' := [(1, .one (.int .i64) r2), (7, .one .str r3.1), (8, .one (.raw (.slice none 0 0)) (tupv v4 1)), (9, .one (.raw (.slice none 0 0)) (tupv v4 2)), (40, .one (.int .i64) (IntKind.wrap .i64 (Int.tmod (IntKind.wrap .u64 a2) (IntKind.wrap .u64 (IntKind.wrap .i64 ((List.length r3.1 : Int) + 1))))))]) rfl ?_
      obtain ⟨t7, ht7, h⟩ := bnd_ex h
      rw [ht7]
      refine r_pure tabOk 1 [1, 2, 7, 8, 9] (E' := [(1, .one (.int .i64) r2), (2, .one (.int .i64) t7), (7, .one .str r3.1), (8, .one (.raw (.slice none 0 0)) (tupv v4 1)), (9, .one (.raw (.slice none 0 0)) (tupv v4 2))]) rfl ?_
      refine r_nil ?_
      refine r_then ?_
      refine r_seq ?_
      refine r_region ?_
      refine r_pure tabOk 2 [1, 2, 7, 8, 9, 42, 43] (E' := [(1, .one (.int .i64) r2), (2, .one (.int .i64) t7), (7, .one .str r3.1), (8, .one (.raw (.slice none 0 0)) (tupv v4 1)), (9, .one (.raw (.slice none 0 0)) (tupv v4 2)), (42, .one .str r3.1), (43, .one (.int .i64) t7)]) rfl ?_
      obtain ⟨hc, h⟩ := ite_ex h
      refine y (y_sub (i := (0 : Int)) (j := t7) tabOk rfl rfl rfl hc.1 hc.2.1 hc.2.2 rfl) rfl ?_
      refine r_pure tabOk 1 [1, 2, 7, 8, 9, 44, 45] (E' := [(1, .one (.int .i64) r2), (2, .one (.int .i64) t7), (7, .one .str r3.1), (8, .one (.raw (.slice none 0 0)) (tupv v4 1)), (9, .one (.raw (.slice none 0 0)) (tupv v4 2)), (44, .one .str (List.drop 0 (List.take (Int.toNat t7) r3.1))), (45, .one (.int .i64) r2)]) rfl ?_
      obtain ⟨r8, hr8, h⟩ := bind_ex h
      refine r_call (Lo := [Res.own (tupv v4 1) 9 .str r3.2.1, Res.own (tupv v4 2) 3 (.int .i64) r3.2.2.1]) (frame_Scan_ok (List.drop 0 (List.take (Int.toNat t7) r3.1)) r2 _ hr8) (by kernel_rfl) (by simp) rfl rfl fun v9 => ?_
      refine r_pure tabOk 7 [1, 2, 7, 8, 9, 11, 12, 13] (E' := [(1, .one (.int .i64) r2), (2, .one (.int .i64) t7), (7, .one .str r3.1), (8, .one (.raw (.slice none 0 0)) (tupv v4 1)), (9, .one (.raw (.slice none 0 0)) (tupv v4 2)), (11, .one (.raw (.slice none 0 0)) (tupv v9 0)), (12, .one (.int .i64) r8.2.1), (13, .one .bool r8.2.2)]) rfl ?_
      refine r_nil ?_
      refine r_then ?_
      refine r_seq ?_
      refine r_region ?_
      refine r_pure tabOk 1 [1, 2, 7, 8, 9, 11, 12, 13, 14] (E' := [(1, .one (.int .i64) r2), (2, .one (.int .i64) t7), (7, .one .str r3.1), (8, .one (.raw (.slice none 0 0)) (tupv v4 1)), (9, .one (.raw (.slice none 0 0)) (tupv v4 2)), (11, .one (.raw (.slice none 0 0)) (tupv v9 0)), (12, .one (.int .i64) r8.2.1), (13, .one .bool r8.2.2), (14, .one (.int .i64) 0)]) rfl ?_
      refine r_nil ?_
      refine r_then ?_
      refine r_seq ?_
      refine r_region ?_
      refine r_pure tabOk 1 [1, 2, 7, 8, 9, 11, 12, 13, 14, 15] (E' := [(1, .one (.int .i64) r2), (2, .one (.int .i64) t7), (7, .one .str r3.1), (8, .one (.raw (.slice none 0 0)) (tupv v4 1)), (9, .one (.raw (.slice none 0 0)) (tupv v4 2)), (11, .one (.raw (.slice none 0 0)) (tupv v9 0)), (12, .one (.int .i64) r8.2.1), (13, .one .bool r8.2.2), (14, .one (.int .i64) 0), (15, .one (.int .i64) 0)]) rfl ?_
      refine r_nil ?_
      refine r_then ?_
      obtain ⟨k11, hk11, h⟩ := bnd_ex h
      refine r_joink (γ := Value) (fun (o12 : Int × Int) g13 => [(1, .one (.int .i64) r2), (2, .one (.int .i64) t7), (7, .one .str r3.1), (8, .one (.raw (.slice none 0 0)) (tupv v4 1)), (11, .one (.raw (.slice none 0 0)) (tupv v9 0)), (12, .one (.int .i64) r8.2.1), (13, .one .bool r8.2.2), (14, .one (.int .i64) o12.1), (15, .one (.int .i64) o12.2)]) (fun (o12 : Int × Int) g13 => [Res.own (tupv v9 0) 9 .str r8.1, Res.own (tupv v4 1) 9 .str r3.2.1, Res.own g13 3 (.int .i64) r3.2.2.1]) k11 r ?_ ?_
      · refine r_block ?_
        refine r_less [1, 2, 7, 8, 9, 11, 12, 13, 14, 15] rfl ?_
        refine r_loopg (γ := Value) (fun (s26 : Int × Int) g27 => [(1, .one (.int .i64) r2), (2, .one (.int .i64) t7), (7, .one .str r3.1), (8, .one (.raw (.slice none 0 0)) (tupv v4 1)), (9, .one (.raw (.slice none 0 0)) g27), (11, .one (.raw (.slice none 0 0)) (tupv v9 0)), (12, .one (.int .i64) r8.2.1), (13, .one .bool r8.2.2), (14, .one (.int .i64) s26.1), (15, .one (.int .i64) s26.2)]) (fun (s26 : Int × Int) g27 => [Res.own (tupv v9 0) 9 .str r8.1, Res.own (tupv v4 1) 9 .str r3.2.1, Res.own g27 3 (.int .i64) r3.2.2.1]) (escrowlaw05_FrameBack_l0 r3 t7 k11) (0, 0) (tupv v4 2) h rfl rfl ?_
        clear h
        intro m28 s26 g27 h
        cases m28 with
        | zero => cases h
        | succ m28 =>
        simp only [escrowlaw05_FrameBack_l0] at h
        refine r_seq ?_
        refine r_seq ?_
        refine r_region ?_
        refine r_pure tabOk 2 [1, 2, 7, 8, 9, 11, 12, 13, 14, 15, 50, 51] (E' := [(1, .one (.int .i64) r2), (2, .one (.int .i64) t7), (7, .one .str r3.1), (8, .one (.raw (.slice none 0 0)) (tupv v4 1)), (9, .one (.raw (.slice none 0 0)) g27), (11, .one (.raw (.slice none 0 0)) (tupv v9 0)), (12, .one (.int .i64) r8.2.1), (13, .one .bool r8.2.2), (14, .one (.int .i64) s26.1), (15, .one (.int .i64) s26.2), (50, .one (.int .i64) s26.1), (51, .one (.raw (.slice none 0 0)) (tupv v4 1))]) rfl ?_
        refine y (y_lenown tabOk 1 rfl rfl rfl) rfl ?_
        refine r_pure tabOk 2 [1, 2, 7, 8, 9, 11, 12, 13, 14, 15, 54] (E' := [(1, .one (.int .i64) r2), (2, .one (.int .i64) t7), (7, .one .str r3.1), (8, .one (.raw (.slice none 0 0)) (tupv v4 1)), (9, .one (.raw (.slice none 0 0)) g27), (11, .one (.raw (.slice none 0 0)) (tupv v9 0)), (12, .one (.int .i64) r8.2.1), (13, .one .bool r8.2.2), (14, .one (.int .i64) s26.1), (15, .one (.int .i64) s26.2), (54, .one .bool (decide (s26.1 < (List.length r3.2.1 : Int))))]) rfl ?_
        obtain ⟨b29, hbb29, h⟩ := bnd_ex h
        rw [hbb29]
        obtain ⟨k30, hk30, h⟩ := bnd_ex h
        refine r_lsplitk (γ := Unit) 7 (fun (o31 : Bool) _ => [(1, .one (.int .i64) r2), (2, .one (.int .i64) t7), (7, .one .str r3.1), (8, .one (.raw (.slice none 0 0)) (tupv v4 1)), (9, .one (.raw (.slice none 0 0)) g27), (11, .one (.raw (.slice none 0 0)) (tupv v9 0)), (12, .one (.int .i64) r8.2.1), (13, .one .bool r8.2.2), (14, .one (.int .i64) s26.1), (15, .one (.int .i64) s26.2), (61, .one .bool o31)]) (fun _ _ => [Res.own (tupv v9 0) 9 .str r8.1, Res.own (tupv v4 1) 9 .str r3.2.1, Res.own g27 3 (.int .i64) r3.2.2.1]) k30 r ?_ ?_
        · rcases Bool.eq_false_or_eq_true b29 with hh | hh
          · rw [hh] at h ⊢
            rw [if_pos rfl] at h
            refine r_pure tabOk 2 [1, 2, 7, 8, 9, 11, 12, 13, 14, 15, 54, 55, 56] (E' := [(1, .one (.int .i64) r2), (2, .one (.int .i64) t7), (7, .one .str r3.1), (8, .one (.raw (.slice none 0 0)) (tupv v4 1)), (9, .one (.raw (.slice none 0 0)) g27), (11, .one (.raw (.slice none 0 0)) (tupv v9 0)), (12, .one (.int .i64) r8.2.1), (13, .one .bool r8.2.2), (14, .one (.int .i64) s26.1), (15, .one (.int .i64) s26.2), (54, .one .bool true), (55, .one (.raw (.slice none 0 0)) g27), (56, .one (.int .i64) s26.1)]) rfl ?_
            refine r_guard (by rfl) rfl ?_
            obtain ⟨hc, h⟩ := ite_ex h
            refine r_expose 2 rfl (by omega) fun b32 c33 hv => ?_
            rw [hv]
            try clear hv
            refine y (y_iraw tabOk rfl rfl hc.1 (by simpa using hc.2) rfl ty3) rfl ?_
            refine r_guard (by rfl) rfl ?_
            refine y (y_lown 2 (Int.toNat s26.1) .here rfl rfl (by omega) (by first | rfl | (simp only [Pth.off, T.size]; omega)) ok_here ty3) rfl ?_
            refine r_pure tabOk 3 [1, 2, 7, 8, 9, 11, 12, 13, 14, 15, 61] (E' := [(1, .one (.int .i64) r2), (2, .one (.int .i64) t7), (7, .one .str r3.1), (8, .one (.raw (.slice none 0 0)) (tupv v4 1)), (9, .one (.raw (.slice none 0 0)) (.slice (some ⟨b32, 0, none⟩) (List.length r3.2.2.1) c33)), (11, .one (.raw (.slice none 0 0)) (tupv v9 0)), (12, .one (.int .i64) r8.2.1), (13, .one .bool r8.2.2), (14, .one (.int .i64) s26.1), (15, .one (.int .i64) s26.2), (61, .one .bool (decide ((List.getD r3.2.2.1 (Int.toNat s26.1) 0) ≤ t7)))]) rfl ?_
            refine r_nil ?_
            refine r_less [1, 2, 7, 8, 9, 11, 12, 13, 14, 15, 61] rfl ?_
            refine r_then ?_
            exact r_meetk (decide ((List.getD r3.2.2.1 (Int.toNat s26.1) 0) ≤ t7)) () h rfl rfl
          · rw [hh] at h ⊢
            rw [if_neg (by decide)] at h
            refine r_pure tabOk 7 [1, 2, 7, 8, 9, 11, 12, 13, 14, 15, 61] (E' := [(1, .one (.int .i64) r2), (2, .one (.int .i64) t7), (7, .one .str r3.1), (8, .one (.raw (.slice none 0 0)) (tupv v4 1)), (9, .one (.raw (.slice none 0 0)) g27), (11, .one (.raw (.slice none 0 0)) (tupv v9 0)), (12, .one (.int .i64) r8.2.1), (13, .one .bool r8.2.2), (14, .one (.int .i64) s26.1), (15, .one (.int .i64) s26.2), (61, .one .bool false)]) rfl ?_
            refine r_nil ?_
            refine r_less [1, 2, 7, 8, 9, 11, 12, 13, 14, 15, 61] rfl ?_
            refine r_then ?_
            exact r_meetk false () h rfl rfl
        · intro o31 _ h
          rw [← hk30] at h
          try dsimp only at h
          refine r_nil ?_
          refine r_then ?_
          refine r_if (b := o31) rfl (fun hc => ?_) (fun hc => ?_)
          · rw [if_pos hc] at h
            refine r_skip ?_
            refine r_then ?_
            refine r_block ?_
            refine r_seq ?_
            refine r_region ?_
            refine r_pure tabOk 2 [1, 2, 7, 8, 9, 11, 12, 13, 14, 62, 63] (E' := [(1, .one (.int .i64) r2), (2, .one (.int .i64) t7), (7, .one .str r3.1), (8, .one (.raw (.slice none 0 0)) (tupv v4 1)), (9, .one (.raw (.slice none 0 0)) g27), (11, .one (.raw (.slice none 0 0)) (tupv v9 0)), (12, .one (.int .i64) r8.2.1), (13, .one .bool r8.2.2), (14, .one (.int .i64) s26.1), (62, .one (.raw (.slice none 0 0)) g27), (63, .one (.int .i64) s26.1)]) rfl ?_
            obtain ⟨hc, h⟩ := ite_ex h
            refine r_expose 2 rfl (by omega) fun b34 c35 hv => ?_
            rw [hv]
            try clear hv
            refine y (y_iraw tabOk rfl rfl hc.1 (by simpa using hc.2) rfl ty3) rfl ?_
            refine y (y_lown 2 (Int.toNat s26.1) .here rfl rfl (by omega) (by first | rfl | (simp only [Pth.off, T.size]; omega)) ok_here ty3) rfl ?_
            refine r_pure tabOk 1 [1, 2, 7, 8, 9, 11, 12, 13, 14, 15] (E' := [(1, .one (.int .i64) r2), (2, .one (.int .i64) t7), (7, .one .str r3.1), (8, .one (.raw (.slice none 0 0)) (tupv v4 1)), (9, .one (.raw (.slice none 0 0)) (.slice (some ⟨b34, 0, none⟩) (List.length r3.2.2.1) c35)), (11, .one (.raw (.slice none 0 0)) (tupv v9 0)), (12, .one (.int .i64) r8.2.1), (13, .one .bool r8.2.2), (14, .one (.int .i64) s26.1), (15, .one (.int .i64) (List.getD r3.2.2.1 (Int.toNat s26.1) 0))]) rfl ?_
            obtain ⟨at36, hat36, h⟩ := bnd_ex h
            rw [hat36]
            refine r_nil ?_
            refine r_then ?_
            refine r_region ?_
            refine r_pure tabOk 3 [1, 2, 7, 8, 9, 11, 12, 13, 14, 15] (E' := [(1, .one (.int .i64) r2), (2, .one (.int .i64) t7), (7, .one .str r3.1), (8, .one (.raw (.slice none 0 0)) (tupv v4 1)), (9, .one (.raw (.slice none 0 0)) (.slice (some ⟨b34, 0, none⟩) (List.length r3.2.2.1) c35)), (11, .one (.raw (.slice none 0 0)) (tupv v9 0)), (12, .one (.int .i64) r8.2.1), (13, .one .bool r8.2.2), (14, .one (.int .i64) (IntKind.wrap .i64 (s26.1 + 1))), (15, .one (.int .i64) at36)]) rfl ?_
            obtain ⟨k37, hk37, h⟩ := bnd_ex h
            rw [hk37]
            refine r_nil ?_
            refine r_inblock ?_
            refine r_then ?_
            refine r_less [1, 2, 7, 8, 9, 11, 12, 13, 14, 15] rfl ?_
            exact r_backg (k37, at36) (.slice (some ⟨b34, 0, none⟩) (List.length r3.2.2.1) c35) (Nat.lt_succ_self _) h rfl rfl
          · rw [if_neg (ne_true_of_eq_false hc)] at h
            refine r_exit ?_
            refine e_then ?_
            refine e_then ?_
            refine e_eq ?_
            refine r_then ?_
            refine r_less [1, 2, 7, 8, 11, 12, 13, 14, 15] rfl ?_
            exact r_meetk (s26.1, s26.2) g27 h rfl rfl
      · intro o12 g13 h
        rw [← hk11] at h
        try dsimp only at h
        refine r_seq ?_
        refine r_seq ?_
        refine r_region ?_
        refine r_pure tabOk 3 [1, 2, 7, 8, 12, 13, 15, 68, 69, 70] (E' := [(1, .one (.int .i64) r2), (2, .one (.int .i64) t7), (7, .one .str r3.1), (8, .one (.raw (.slice none 0 0)) (tupv v4 1)), (12, .one (.int .i64) r8.2.1), (13, .one .bool r8.2.2), (15, .one (.int .i64) o12.2), (68, .one (.raw (.slice none 0 0)) (tupv v9 0)), (69, .one (.raw (.slice none 0 0)) (tupv v4 1)), (70, .one (.int .i64) o12.1)]) rfl ?_
        refine r_freezes (i := 1) 69 [8] (by simp only [List.forall_mem_cons]; exact ⟨rfl, rfl, List.forall_mem_nil _⟩) rfl ?_
        obtain ⟨hc, h⟩ := ite_ex h
        refine y (y_slsub (i := (0 : Int)) (j := o12.1) tabOk rfl rfl rfl hc.1 hc.2.1 hc.2.2 rfl ty9) rfl ?_
        refine r_freeze (i := 0) (k := 68) rfl rfl ?_
        obtain ⟨r14, hr14, h⟩ := bind_ex h
        refine r_calls (escrowlaw05_same_ok r8.1 (List.drop 0 (List.take (Int.toNat o12.1) r3.2.1)) _ hr14) (by kernel_rfl) rfl rfl ?_
        refine r_pure tabOk 2 [1, 2, 7, 8, 12, 13, 15, 74] (E' := [(1, .one (.int .i64) r2), (2, .one (.int .i64) t7), (7, .one .str r3.1), (8, .one (.sl 9 .str) r3.2.1), (12, .one (.int .i64) r8.2.1), (13, .one .bool r8.2.2), (15, .one (.int .i64) o12.2), (74, .one .bool (!r14))]) rfl ?_
        obtain ⟨b15, hbb15, h⟩ := bnd_ex h
        rw [hbb15]
        refine r_lsplit (γ := Unit) 4 (fun _ => [(1, .one (.int .i64) r2), (2, .one (.int .i64) t7), (7, .one .str r3.1), (8, .one (.sl 9 .str) r3.2.1), (13, .one .bool r8.2.2), (15, .one (.int .i64) o12.2), (78, .one .bool (b15 || (r8.2.1 != o12.2)))]) (fun _ => [Res.own g13 3 (.int .i64) r3.2.2.1]) ?_ (fun _ => ?_)
        · clear h
          cases b15 with
          | true =>
          refine r_pure tabOk 4 [1, 2, 7, 8, 13, 15, 78] (E' := [(1, .one (.int .i64) r2), (2, .one (.int .i64) t7), (7, .one .str r3.1), (8, .one (.sl 9 .str) r3.2.1), (13, .one .bool r8.2.2), (15, .one (.int .i64) o12.2), (78, .one .bool true)]) rfl ?_
          refine r_nil ?_
          refine r_then ?_
          exact r_meetg () rfl rfl
          | false =>
          refine r_pure tabOk 4 [1, 2, 7, 8, 13, 15, 78] (E' := [(1, .one (.int .i64) r2), (2, .one (.int .i64) t7), (7, .one .str r3.1), (8, .one (.sl 9 .str) r3.2.1), (13, .one .bool r8.2.2), (15, .one (.int .i64) o12.2), (78, .one .bool (r8.2.1 != o12.2))]) rfl ?_
          refine r_nil ?_
          refine r_then ?_
          exact r_meetg () rfl rfl
        refine r_pure tabOk 1 [1, 2, 7, 8, 13, 15, 79] (E' := [(1, .one (.int .i64) r2), (2, .one (.int .i64) t7), (7, .one .str r3.1), (8, .one (.sl 9 .str) r3.2.1), (13, .one .bool r8.2.2), (15, .one (.int .i64) o12.2), (79, .one .bool (b15 || (r8.2.1 != o12.2)))]) rfl ?_
        obtain ⟨b16, hbb16, h⟩ := bnd_ex h
        rw [hbb16]
        refine r_lsplit (γ := Unit) 6 (fun _ => [(1, .one (.int .i64) r2), (7, .one .str r3.1), (8, .one (.sl 9 .str) r3.2.1), (85, .one .bool (b16 || (r8.2.2 != (decide (o12.2 < t7)))))]) (fun _ => [Res.own g13 3 (.int .i64) r3.2.2.1]) ?_ (fun _ => ?_)
        · clear h
          cases b16 with
          | true =>
          refine r_pure tabOk 6 [1, 7, 8, 85] (E' := [(1, .one (.int .i64) r2), (7, .one .str r3.1), (8, .one (.sl 9 .str) r3.2.1), (85, .one .bool true)]) rfl ?_
          refine r_nil ?_
          refine r_then ?_
          exact r_meetg () rfl rfl
          | false =>
          refine r_pure tabOk 4 [1, 7, 8, 79, 80, 83] (E' := [(1, .one (.int .i64) r2), (7, .one .str r3.1), (8, .one (.sl 9 .str) r3.2.1), (79, .one .bool false), (80, .one .bool r8.2.2), (83, .one .bool (decide (o12.2 < t7)))]) rfl ?_
          refine r_guard (by rfl) rfl ?_
          refine y (y_bne rfl rfl Try.underlying4) rfl ?_
          refine r_pure tabOk 1 [1, 7, 8, 85] (E' := [(1, .one (.int .i64) r2), (7, .one .str r3.1), (8, .one (.sl 9 .str) r3.2.1), (85, .one .bool (r8.2.2 != (decide (o12.2 < t7))))]) rfl ?_
          refine r_nil ?_
          refine r_then ?_
          exact r_meetg () rfl rfl
        refine r_nil ?_
        refine r_then ?_
        refine r_if (b := (b16 || (r8.2.2 != (decide (o12.2 < t7))))) rfl (fun hc => ?_) (fun hc => ?_)
        · rw [if_pos hc] at h
          refine r_seq ?_
          refine r_region ?_
          refine r_pure tabOk 1 [6] (E' := [(6, .one .bool false)]) rfl ?_
          refine r_nil ?_
          refine r_then ?_
          refine r_ret ?_
          refine t_then ?_
          obtain rfl := Option.some.inj h
          exact r_ret1 rfl (.tmp rfl) (fun _ _ g => g) (fun _ _ _ => List.nil_sublist _)
        · rw [if_neg (ne_true_of_eq_false hc)] at h
          refine r_skip ?_
          refine r_then ?_
          refine r_seq ?_
          refine r_region ?_
          refine r_pure tabOk 2 [7, 8, 87, 88] (E' := [(7, .one .str r3.1), (8, .one (.sl 9 .str) r3.2.1), (87, .one .str r3.1), (88, .one (.int .i64) r2)]) rfl ?_
          obtain ⟨r17, hr17, h⟩ := bind_ex h
          refine r_call (Lo := [Res.own g13 3 (.int .i64) r3.2.2.1]) (frame_Scan_ok r3.1 r2 _ hr17) (by kernel_rfl) (by simp) rfl rfl fun v18 => ?_
          refine r_pure tabOk 7 [7, 8, 16, 17, 18] (E' := [(7, .one .str r3.1), (8, .one (.sl 9 .str) r3.2.1), (16, .one (.raw (.slice none 0 0)) (tupv v18 0)), (17, .one (.int .i64) r17.2.1), (18, .one .bool r17.2.2)]) rfl ?_
          refine r_nil ?_
          refine r_then ?_
          refine r_seq ?_
          refine r_region ?_
          refine r_pure tabOk 2 [7, 17, 18, 93, 94] (E' := [(7, .one .str r3.1), (17, .one (.int .i64) r17.2.1), (18, .one .bool r17.2.2), (93, .one (.raw (.slice none 0 0)) (tupv v18 0)), (94, .one (.sl 9 .str) r3.2.1)]) rfl ?_
          refine r_freeze (i := 0) (k := 93) rfl rfl ?_
          obtain ⟨r20, hr20, h⟩ := bind_ex h
          refine r_calls (escrowlaw05_same_ok r17.1 r3.2.1 _ hr20) (by kernel_rfl) rfl rfl ?_
          refine r_pure tabOk 1 [7, 17, 18, 96] (E' := [(7, .one .str r3.1), (17, .one (.int .i64) r17.2.1), (18, .one .bool r17.2.2), (96, .one .bool r20)]) rfl ?_
          refine r_lsplit (γ := Unit) 5 (fun _ => [(18, .one .bool r17.2.2), (101, .one .bool (r20 && (r17.2.1 == (List.length r3.1 : Int))))]) (fun _ => [Res.own g13 3 (.int .i64) r3.2.2.1]) ?_ (fun _ => ?_)
          · clear h
            rcases Bool.eq_false_or_eq_true r20 with hh | hh
            · rw [hh]
              refine r_pure tabOk 5 [18, 101] (E' := [(18, .one .bool r17.2.2), (101, .one .bool (r17.2.1 == (List.length r3.1 : Int)))]) rfl ?_
              refine r_nil ?_
              refine r_then ?_
              exact r_meetg () rfl rfl
            · rw [hh]
              refine r_pure tabOk 5 [18, 101] (E' := [(18, .one .bool r17.2.2), (101, .one .bool false)]) rfl ?_
              refine r_nil ?_
              refine r_then ?_
              exact r_meetg () rfl rfl
          refine r_pure tabOk 1 [18, 102] (E' := [(18, .one .bool r17.2.2), (102, .one .bool (r20 && (r17.2.1 == (List.length r3.1 : Int))))]) rfl ?_
          obtain ⟨b22, hbb22, h⟩ := bnd_ex h
          rw [hbb22]
          refine r_lsplit (γ := Unit) 3 (fun _ => [(105, .one .bool (b22 && (!r17.2.2)))]) (fun _ => [Res.own g13 3 (.int .i64) r3.2.2.1]) ?_ (fun _ => ?_)
          · clear h
            cases b22 with
            | true =>
            refine r_pure tabOk 3 [105] (E' := [(105, .one .bool (!r17.2.2))]) rfl ?_
            refine r_nil ?_
            refine r_then ?_
            exact r_meetg () rfl rfl
            | false =>
            refine r_pure tabOk 3 [105] (E' := [(105, .one .bool false)]) rfl ?_
            refine r_nil ?_
            refine r_then ?_
            exact r_meetg () rfl rfl
          refine r_pure tabOk 1 [6] (E' := [(6, .one .bool (b22 && (!r17.2.2)))]) rfl ?_
          refine r_nil ?_
          refine r_then ?_
          refine r_ret ?_
          obtain rfl := Option.some.inj h
          exact r_ret1 rfl (.tmp rfl) (fun _ _ g => g) (fun _ _ _ => List.nil_sublist _)

theorem escrowlaw05_FrameBehind_ok (a0 : List (List Int)) (a1 : Int) (a2 : Int) (a3 : Int) (a4 : List Int) (r : Bool) (h : escrowlaw05_FrameBehind a0 a1 a2 a3 a4 = some r) : Pure Try.prog 7 [.one (.sl 9 .str) a0, .one (.int .i64) a1, .one (.int .i64) a2, .one (.int .i64) a3, .one .str a4] (.one .bool r) := by
  unfold escrowlaw05_FrameBehind at h
  refine enter Try.func7 rfl 109 rfl rfl fun F => ?_
  refine r_seq ?_
  refine r_region ?_
  refine r_pure tabOk 1 [0, 1, 2, 3, 4] (E' := [(0, .one (.sl 9 .str) a0), (1, .one (.int .i64) a1), (2, .one (.int .i64) a2), (3, .one (.int .i64) a3), (4, .one .str a4)]) rfl ?_
  refine r_nil ?_
  refine r_then ?_
  refine r_seq ?_
  refine r_seq ?_
  refine r_region ?_
  obtain ⟨r1, hr1, h⟩ := bind_ex h
  refine r_calls (escrowlaw05_first_ok  _ hr1) (by kernel_rfl) rfl rfl ?_
  refine r_pure tabOk 1 [0, 1, 2, 3, 4, 23] (E' := [(0, .one (.sl 9 .str) a0), (1, .one (.int .i64) a1), (2, .one (.int .i64) a2), (3, .one (.int .i64) a3), (4, .one .str a4), (23, .one .bool (!r1))]) rfl ?_
  refine r_nil ?_
  refine r_then ?_
  refine r_if (b := (!r1)) rfl (fun hc => ?_) (fun hc => ?_)
  · rw [if_pos hc] at h
    refine r_seq ?_
    refine r_region ?_
    refine r_pure tabOk 1 [10] (E' := [(10, .one .bool false)]) rfl ?_
    refine r_nil ?_
    refine r_then ?_
    refine r_ret ?_
    refine t_then ?_
    obtain rfl := Option.some.inj h
    exact r_ret1 rfl (.tmp rfl) (fun _ _ g => g) (fun _ _ _ => List.nil_sublist _)
  · rw [if_neg (ne_true_of_eq_false hc)] at h
    refine r_skip ?_
    refine r_then ?_
    refine r_seq ?_
    refine r_region ?_
    refine r_pure tabOk 1 [0, 2, 3, 4, 24] (E' := [(0, .one (.sl 9 .str) a0), (2, .one (.int .i64) a2), (3, .one (.int .i64) a3), (4, .one .str a4), (24, .one (.int .i64) a1)]) rfl ?_
    obtain ⟨r2, hr2, h⟩ := bind_ex h
    refine r_calls (escrowlaw05_number_ok a1 _ hr2) (by kernel_rfl) rfl rfl ?_
    refine r_pure tabOk 1 [0, 1, 2, 3, 4] (E' := [(0, .one (.sl 9 .str) a0), (1, .one (.int .i64) r2), (2, .one (.int .i64) a2), (3, .one (.int .i64) a3), (4, .one .str a4)]) rfl ?_
    refine r_nil ?_
    refine r_then ?_
    refine r_seq ?_
    refine r_region ?_
    refine r_pure tabOk 2 [1, 2, 3, 4, 27, 28] (E' := [(1, .one (.int .i64) r2), (2, .one (.int .i64) a2), (3, .one (.int .i64) a3), (4, .one .str a4), (27, .one (.sl 9 .str) a0), (28, .one (.int .i64) r2)]) rfl ?_
    obtain ⟨r3, hr3, h⟩ := bind_ex h
    refine r_call (Lo := []) (escrowlaw05_joined_ok a0 r2 _ hr3) (by kernel_rfl) (by simp) rfl rfl fun v4 => ?_
    refine r_pure tabOk 9 [1, 2, 3, 4, 11, 12, 14] (E' := [(1, .one (.int .i64) r2), (2, .one (.int .i64) a2), (3, .one (.int .i64) a3), (4, .one .str a4), (11, .one .str r3.1), (12, .one (.raw (.slice none 0 0)) (tupv v4 1)), (14, .one .bool r3.2.2.2)]) rfl ?_
    refine r_nil ?_
    refine r_then ?_
    refine r_seq ?_
    refine r_seq ?_
    refine r_region ?_
    refine r_pure tabOk 2 [1, 2, 3, 4, 11, 12, 35] (E' := [(1, .one (.int .i64) r2), (2, .one (.int .i64) a2), (3, .one (.int .i64) a3), (4, .one .str a4), (11, .one .str r3.1), (12, .one (.raw (.slice none 0 0)) (tupv v4 1)), (35, .one .bool (!r3.2.2.2))]) rfl ?_
    refine r_nil ?_
    refine r_then ?_
    refine r_if (b := (!r3.2.2.2)) rfl (fun hc => ?_) (fun hc => ?_)
    · rw [if_pos hc] at h
      refine r_seq ?_
      refine r_region ?_
      refine r_pure tabOk 1 [10] (E' := [(10, .one .bool false)]) rfl ?_
      refine r_nil ?_
      refine r_then ?_
      refine r_ret ?_
      refine t_then ?_
      obtain rfl := Option.some.inj h
      exact r_ret1 rfl (.tmp rfl) (fun _ _ g => g) (fun _ _ _ => List.nil_sublist _)
    · rw [if_neg (ne_true_of_eq_false hc)] at h
      refine r_skip ?_
      refine r_then ?_
      refine r_seq ?_
      refine r_region ?_
      refine r_pure tabOk 1 [1, 2, 3, 4, 11, 12, 15] (E' := [(1, .one (.int .i64) r2), (2, .one (.int .i64) a2), (3, .one (.int .i64) a3), (4, .one .str a4), (11, .one .str r3.1), (12, .one (.raw (.slice none 0 0)) (tupv v4 1)), (15, .one (.raw (.slice none 0 0)) (.slice none 0 0))]) rfl ?_
      refine r_nilown (.slice none 0 0) rfl 5 (.int .u8) ?_
      refine r_nil ?_
      refine r_then ?_
      obtain ⟨k8, hk8, h⟩ := bnd_ex h
      refine r_joink (γ := Value) (fun (o9 : List (Int)) g10 => [(1, .one (.int .i64) r2), (3, .one (.int .i64) a3), (4, .one .str a4), (11, .one .str r3.1), (12, .one (.raw (.slice none 0 0)) (tupv v4 1)), (15, .one (.raw (.slice none 0 0)) g10)]) (fun (o9 : List (Int)) g10 => [Res.own g10 5 (.int .u8) o9, Res.own (tupv v4 1) 9 .str r3.2.1, Res.own (tupv v4 2) 3 (.int .i64) r3.2.2.1]) k8 r ?_ ?_
      · refine r_seq ?_
        refine r_region ?_
        refine r_pure tabOk 1 [1, 2, 3, 4, 11, 12, 15, 16] (E' := [(1, .one (.int .i64) r2), (2, .one (.int .i64) a2), (3, .one (.int .i64) a3), (4, .one .str a4), (11, .one .str r3.1), (12, .one (.raw (.slice none 0 0)) (tupv v4 1)), (15, .one (.raw (.slice none 0 0)) (.slice none 0 0)), (16, .one (.int .i64) 0)]) rfl ?_
        refine r_nil ?_
        refine r_then ?_
        refine r_block ?_
        refine r_less [1, 2, 3, 4, 11, 12, 15, 16] rfl ?_
        refine r_loopg (γ := Value) (fun (s28 : Int × List (Int)) g29 => [(1, .one (.int .i64) r2), (2, .one (.int .i64) a2), (3, .one (.int .i64) a3), (4, .one .str a4), (11, .one .str r3.1), (12, .one (.raw (.slice none 0 0)) (tupv v4 1)), (15, .one (.raw (.slice none 0 0)) g29), (16, .one (.int .i64) s28.1)]) (fun (s28 : Int × List (Int)) g29 => [Res.own g29 5 (.int .u8) s28.2, Res.own (tupv v4 1) 9 .str r3.2.1, Res.own (tupv v4 2) 3 (.int .i64) r3.2.2.1]) (escrowlaw05_FrameBehind_l0 a2 k8) (0, []) (.slice none 0 0) h rfl rfl ?_
        clear h
        intro m30 s28 g29 h
        cases m30 with
        | zero => cases h
        | succ m30 =>
        simp only [escrowlaw05_FrameBehind_l0] at h
        refine r_seq ?_
        refine r_seq ?_
        refine r_region ?_
        refine r_pure tabOk 7 [1, 2, 3, 4, 11, 12, 15, 16, 42] (E' := [(1, .one (.int .i64) r2), (2, .one (.int .i64) a2), (3, .one (.int .i64) a3), (4, .one .str a4), (11, .one .str r3.1), (12, .one (.raw (.slice none 0 0)) (tupv v4 1)), (15, .one (.raw (.slice none 0 0)) g29), (16, .one (.int .i64) s28.1), (42, .one .bool (decide (s28.1 < (IntKind.wrap .i64 (1 + (IntKind.wrap .i64 (Int.tmod (IntKind.wrap .u64 a2) 300)))))))]) rfl ?_
        obtain ⟨t31, ht31, h⟩ := bnd_ex h
        rw [ht31]
        refine r_nil ?_
        refine r_then ?_
        refine r_if (b := t31) rfl (fun hc => ?_) (fun hc => ?_)
        · rw [if_pos hc] at h
          refine r_skip ?_
          refine r_then ?_
          refine r_seq ?_
          refine r_block ?_
          refine r_region ?_
          refine r_pure tabOk 1 [1, 2, 3, 4, 11, 12, 16, 45] (E' := [(1, .one (.int .i64) r2), (2, .one (.int .i64) a2), (3, .one (.int .i64) a3), (4, .one .str a4), (11, .one .str r3.1), (12, .one (.raw (.slice none 0 0)) (tupv v4 1)), (16, .one (.int .i64) s28.1), (45, .one (.raw (.slice none 0 0)) g29)]) rfl ?_
          refine r_lits (B := 1) tabOk rfl el5 rfl rfl rfl (.cons rfl .nil) rfl fun v32 => ?_
          obtain ⟨hc, h⟩ := ite_ex h
          refine r_append (B := 1) tabOk 1 rfl rfl (src_own 0 rfl rfl) rfl el5 rfl rfl hc rfl fun v34 => ?_
          refine r_lose (L' := [Res.own v34 5 (.int .u8) (s28.2 ++ [0]), Res.own (tupv v4 1) 9 .str r3.2.1, Res.own (tupv v4 2) 3 (.int .i64) r3.2.2.1]) (.cons _ (.cons_cons _ (.cons_cons _ (.cons_cons _ .slnil)))) ?_
          refine r_pure tabOk 1 [1, 2, 3, 4, 11, 12, 15, 16] (E' := [(1, .one (.int .i64) r2), (2, .one (.int .i64) a2), (3, .one (.int .i64) a3), (4, .one .str a4), (11, .one .str r3.1), (12, .one (.raw (.slice none 0 0)) (tupv v4 1)), (15, .one (.raw (.slice none 0 0)) v34), (16, .one (.int .i64) s28.1)]) rfl ?_
          refine r_nil ?_
          refine r_inblock ?_
          refine r_then ?_
          refine r_region ?_
          refine r_pure tabOk 3 [1, 2, 3, 4, 11, 12, 15, 16] (E' := [(1, .one (.int .i64) r2), (2, .one (.int .i64) a2), (3, .one (.int .i64) a3), (4, .one .str a4), (11, .one .str r3.1), (12, .one (.raw (.slice none 0 0)) (tupv v4 1)), (15, .one (.raw (.slice none 0 0)) v34), (16, .one (.int .i64) (IntKind.wrap .i64 (s28.1 + 1)))]) rfl ?_
          obtain ⟨i35, hi35, h⟩ := bnd_ex h
          rw [hi35]
          refine r_nil ?_
          refine r_then ?_
          refine r_less [1, 2, 3, 4, 11, 12, 15, 16] rfl ?_
          exact r_backg (i35, (s28.2 ++ [0])) v34 (Nat.lt_succ_self _) h rfl rfl
        · rw [if_neg (ne_true_of_eq_false hc)] at h
          refine r_exit ?_
          refine e_then ?_
          refine e_then ?_
          refine e_eq ?_
          refine r_then ?_
          refine r_less [1, 3, 4, 11, 12, 15] rfl ?_
          exact r_meetk s28.2 g29 h rfl rfl
      · intro o9 g10 h
        rw [← hk8] at h
        try dsimp only at h
        refine r_seq ?_
        refine r_region ?_
        refine r_pure tabOk 2 [1, 3, 4, 11, 12, 49, 50] (E' := [(1, .one (.int .i64) r2), (3, .one (.int .i64) a3), (4, .one .str a4), (11, .one .str r3.1), (12, .one (.raw (.slice none 0 0)) (tupv v4 1)), (49, .one .str r3.1), (50, .one (.raw (.slice none 0 0)) g10)]) rfl ?_
        refine y (y_text tabOk 0 rfl rfl rfl rfl rfl) rfl ?_
        obtain ⟨hc, h⟩ := ite_ex h
        refine y (y_cat rfl rfl hc) rfl ?_
        refine r_pure tabOk 1 [1, 3, 4, 11, 12, 52, 53] (E' := [(1, .one (.int .i64) r2), (3, .one (.int .i64) a3), (4, .one .str a4), (11, .one .str r3.1), (12, .one (.raw (.slice none 0 0)) (tupv v4 1)), (52, .one .str (r3.1 ++ o9)), (53, .one (.int .i64) r2)]) rfl ?_
        obtain ⟨r11, hr11, h⟩ := bind_ex h
        refine r_call (Lo := [Res.own g10 5 (.int .u8) o9, Res.own (tupv v4 1) 9 .str r3.2.1, Res.own (tupv v4 2) 3 (.int .i64) r3.2.2.1]) (frame_Scan_ok (r3.1 ++ o9) r2 _ hr11) (by kernel_rfl) (by simp) rfl rfl fun v12 => ?_
        refine r_pure tabOk 7 [1, 3, 4, 11, 12, 17, 18, 19] (E' := [(1, .one (.int .i64) r2), (3, .one (.int .i64) a3), (4, .one .str a4), (11, .one .str r3.1), (12, .one (.raw (.slice none 0 0)) (tupv v4 1)), (17, .one (.raw (.slice none 0 0)) (tupv v12 0)), (18, .one (.int .i64) r11.2.1), (19, .one .bool r11.2.2)]) rfl ?_
        refine r_nil ?_
        refine r_then ?_
        refine r_seq ?_
        refine r_seq ?_
        refine r_region ?_
        refine r_pure tabOk 2 [1, 3, 4, 11, 12, 18, 19, 58, 59] (E' := [(1, .one (.int .i64) r2), (3, .one (.int .i64) a3), (4, .one .str a4), (11, .one .str r3.1), (12, .one (.raw (.slice none 0 0)) (tupv v4 1)), (18, .one (.int .i64) r11.2.1), (19, .one .bool r11.2.2), (58, .one (.raw (.slice none 0 0)) (tupv v12 0)), (59, .one (.raw (.slice none 0 0)) (tupv v4 1))]) rfl ?_
        refine r_freeze (i := 0) (k := 58) rfl rfl ?_
        obtain ⟨r14, hr14, h⟩ := bind_ex h
        refine r_callw (escrowlaw05_same_ok r11.1 r3.2.1 _ hr14) (by kernel_rfl) rfl (.val rfl (.own 1 rfl rfl .nil)) rfl ?_
        refine r_pure tabOk 2 [1, 3, 4, 11, 12, 18, 19, 62] (E' := [(1, .one (.int .i64) r2), (3, .one (.int .i64) a3), (4, .one .str a4), (11, .one .str r3.1), (12, .one (.raw (.slice none 0 0)) (tupv v4 1)), (18, .one (.int .i64) r11.2.1), (19, .one .bool r11.2.2), (62, .one .bool (!r14))]) rfl ?_
        obtain ⟨b15, hbb15, h⟩ := bnd_ex h
        rw [hbb15]
        refine r_lsplit (γ := Unit) 5 (fun _ => [(1, .one (.int .i64) r2), (3, .one (.int .i64) a3), (4, .one .str a4), (11, .one .str r3.1), (12, .one (.raw (.slice none 0 0)) (tupv v4 1)), (19, .one .bool r11.2.2), (67, .one .bool (b15 || (r11.2.1 != (List.length r3.1 : Int))))]) (fun _ => [Res.own g10 5 (.int .u8) o9, Res.own (tupv v4 1) 9 .str r3.2.1, Res.own (tupv v4 2) 3 (.int .i64) r3.2.2.1]) ?_ (fun _ => ?_)
        · clear h
          cases b15 with
          | true =>
          refine r_pure tabOk 5 [1, 3, 4, 11, 12, 19, 67] (E' := [(1, .one (.int .i64) r2), (3, .one (.int .i64) a3), (4, .one .str a4), (11, .one .str r3.1), (12, .one (.raw (.slice none 0 0)) (tupv v4 1)), (19, .one .bool r11.2.2), (67, .one .bool true)]) rfl ?_
          refine r_nil ?_
          refine r_then ?_
          exact r_meetg () rfl rfl
          | false =>
          refine r_pure tabOk 5 [1, 3, 4, 11, 12, 19, 67] (E' := [(1, .one (.int .i64) r2), (3, .one (.int .i64) a3), (4, .one .str a4), (11, .one .str r3.1), (12, .one (.raw (.slice none 0 0)) (tupv v4 1)), (19, .one .bool r11.2.2), (67, .one .bool (r11.2.1 != (List.length r3.1 : Int)))]) rfl ?_
          refine r_nil ?_
          refine r_then ?_
          exact r_meetg () rfl rfl
        refine r_pure tabOk 1 [1, 3, 4, 11, 12, 19, 68] (E' := [(1, .one (.int .i64) r2), (3, .one (.int .i64) a3), (4, .one .str a4), (11, .one .str r3.1), (12, .one (.raw (.slice none 0 0)) (tupv v4 1)), (19, .one .bool r11.2.2), (68, .one .bool (b15 || (r11.2.1 != (List.length r3.1 : Int))))]) rfl ?_
        obtain ⟨b16, hbb16, h⟩ := bnd_ex h
        rw [hbb16]
        refine r_lsplit (γ := Unit) 3 (fun _ => [(1, .one (.int .i64) r2), (3, .one (.int .i64) a3), (4, .one .str a4), (11, .one .str r3.1), (12, .one (.raw (.slice none 0 0)) (tupv v4 1)), (71, .one .bool (b16 || (!r11.2.2)))]) (fun _ => [Res.own g10 5 (.int .u8) o9, Res.own (tupv v4 1) 9 .str r3.2.1, Res.own (tupv v4 2) 3 (.int .i64) r3.2.2.1]) ?_ (fun _ => ?_)
        · clear h
          cases b16 with
          | true =>
          refine r_pure tabOk 3 [1, 3, 4, 11, 12, 71] (E' := [(1, .one (.int .i64) r2), (3, .one (.int .i64) a3), (4, .one .str a4), (11, .one .str r3.1), (12, .one (.raw (.slice none 0 0)) (tupv v4 1)), (71, .one .bool true)]) rfl ?_
          refine r_nil ?_
          refine r_then ?_
          exact r_meetg () rfl rfl
          | false =>
          refine r_pure tabOk 3 [1, 3, 4, 11, 12, 71] (E' := [(1, .one (.int .i64) r2), (3, .one (.int .i64) a3), (4, .one .str a4), (11, .one .str r3.1), (12, .one (.raw (.slice none 0 0)) (tupv v4 1)), (71, .one .bool (!r11.2.2))]) rfl ?_
          refine r_nil ?_
          refine r_then ?_
          exact r_meetg () rfl rfl
        refine r_nil ?_
        refine r_then ?_
        refine r_if (b := (b16 || (!r11.2.2))) rfl (fun hc => ?_) (fun hc => ?_)
        · rw [if_pos hc] at h
          refine r_seq ?_
          refine r_region ?_
          refine r_pure tabOk 1 [10] (E' := [(10, .one .bool false)]) rfl ?_
          refine r_nil ?_
          refine r_then ?_
          refine r_ret ?_
          refine t_then ?_
          obtain rfl := Option.some.inj h
          exact r_ret1 rfl (.tmp rfl) (fun _ _ g => g) (fun _ _ _ => List.nil_sublist _)
        · rw [if_neg (ne_true_of_eq_false hc)] at h
          refine r_skip ?_
          refine r_then ?_
          refine r_seq ?_
          refine r_region ?_
          refine r_pure tabOk 2 [1, 3, 11, 12, 73, 74] (E' := [(1, .one (.int .i64) r2), (3, .one (.int .i64) a3), (11, .one .str r3.1), (12, .one (.raw (.slice none 0 0)) (tupv v4 1)), (73, .one (.int .i64) a3), (74, .one .str a4)]) rfl ?_
          obtain ⟨r17, hr17, h⟩ := bind_ex h
          refine r_calls (frame_Frame_ok a3 a4 _ hr17) (by kernel_rfl) rfl rfl ?_
          refine r_pure tabOk 5 [1, 3, 11, 12, 20, 21] (E' := [(1, .one (.int .i64) r2), (3, .one (.int .i64) a3), (11, .one .str r3.1), (12, .one (.raw (.slice none 0 0)) (tupv v4 1)), (20, .one .str r17.1), (21, .one (.int .i64) r17.2)]) rfl ?_
          refine r_nil ?_
          refine r_then ?_
          refine r_seq ?_
          refine r_seq ?_
          refine r_region ?_
          refine r_pure tabOk 3 [1, 3, 11, 12, 20, 80] (E' := [(1, .one (.int .i64) r2), (3, .one (.int .i64) a3), (11, .one .str r3.1), (12, .one (.raw (.slice none 0 0)) (tupv v4 1)), (20, .one .str r17.1), (80, .one .bool (r17.2 != 0))]) rfl ?_
          obtain ⟨b18, hbb18, h⟩ := bnd_ex h
          rw [hbb18]
          refine r_lsplit (γ := Unit) 7 (fun _ => [(1, .one (.int .i64) r2), (11, .one .str r3.1), (12, .one (.raw (.slice none 0 0)) (tupv v4 1)), (20, .one .str r17.1), (87, .one .bool (b18 || (a3 == (IntKind.wrap .i64 (r2 + (List.length r3.2.1 : Int))))))]) (fun _ => [Res.own g10 5 (.int .u8) o9, Res.own (tupv v4 1) 9 .str r3.2.1, Res.own (tupv v4 2) 3 (.int .i64) r3.2.2.1]) ?_ (fun _ => ?_)
          · clear h
            cases b18 with
            | true =>
            refine r_pure tabOk 7 [1, 11, 12, 20, 87] (E' := [(1, .one (.int .i64) r2), (11, .one .str r3.1), (12, .one (.raw (.slice none 0 0)) (tupv v4 1)), (20, .one .str r17.1), (87, .one .bool true)]) rfl ?_
            refine r_nil ?_
            refine r_then ?_
            exact r_meetg () rfl rfl
            | false =>
            refine r_pure tabOk 3 [1, 11, 12, 20, 80, 81, 82, 83] (E' := [(1, .one (.int .i64) r2), (11, .one .str r3.1), (12, .one (.raw (.slice none 0 0)) (tupv v4 1)), (20, .one .str r17.1), (80, .one .bool false), (81, .one (.int .i64) a3), (82, .one (.int .i64) r2), (83, .one (.raw (.slice none 0 0)) (tupv v4 1))]) rfl ?_
            refine r_guard (by rfl) rfl ?_
            refine y (y_lenown tabOk 1 rfl rfl rfl) rfl ?_
            refine r_pure tabOk 3 [1, 11, 12, 20, 87] (E' := [(1, .one (.int .i64) r2), (11, .one .str r3.1), (12, .one (.raw (.slice none 0 0)) (tupv v4 1)), (20, .one .str r17.1), (87, .one .bool (a3 == (IntKind.wrap .i64 (r2 + (List.length r3.2.1 : Int)))))]) rfl ?_
            refine r_nil ?_
            refine r_then ?_
            exact r_meetg () rfl rfl
          refine r_nil ?_
          refine r_then ?_
          refine r_if (b := (b18 || (a3 == (IntKind.wrap .i64 (r2 + (List.length r3.2.1 : Int)))))) rfl (fun hc => ?_) (fun hc => ?_)
          · rw [if_pos hc] at h
            refine r_seq ?_
            refine r_region ?_
            refine r_pure tabOk 1 [10] (E' := [(10, .one .bool true)]) rfl ?_
            refine r_nil ?_
            refine r_then ?_
            refine r_ret ?_
            refine t_then ?_
            obtain rfl := Option.some.inj h
            exact r_ret1 rfl (.tmp rfl) (fun _ _ g => g) (fun _ _ _ => List.nil_sublist _)
          · rw [if_neg (ne_true_of_eq_false hc)] at h
            refine r_skip ?_
            refine r_then ?_
            refine r_seq ?_
            refine r_region ?_
            refine r_pure tabOk 2 [1, 11, 12, 89, 90] (E' := [(1, .one (.int .i64) r2), (11, .one .str r3.1), (12, .one (.raw (.slice none 0 0)) (tupv v4 1)), (89, .one .str r3.1), (90, .one .str r17.1)]) rfl ?_
            obtain ⟨hc, h⟩ := ite_ex h
            refine y (y_cat rfl rfl hc) rfl ?_
            refine r_pure tabOk 1 [11, 12, 91, 92] (E' := [(11, .one .str r3.1), (12, .one (.raw (.slice none 0 0)) (tupv v4 1)), (91, .one .str (r3.1 ++ r17.1)), (92, .one (.int .i64) r2)]) rfl ?_
            obtain ⟨r19, hr19, h⟩ := bind_ex h
            refine r_call (Lo := [Res.own g10 5 (.int .u8) o9, Res.own (tupv v4 1) 9 .str r3.2.1, Res.own (tupv v4 2) 3 (.int .i64) r3.2.2.1]) (frame_Scan_ok (r3.1 ++ r17.1) r2 _ hr19) (by kernel_rfl) (by simp) rfl rfl fun v20 => ?_
            refine r_pure tabOk 7 [11, 12, 17, 18, 19] (E' := [(11, .one .str r3.1), (12, .one (.raw (.slice none 0 0)) (tupv v4 1)), (17, .one (.raw (.slice none 0 0)) (tupv v20 0)), (18, .one (.int .i64) r19.2.1), (19, .one .bool r19.2.2)]) rfl ?_
            refine r_nil ?_
            refine r_then ?_
            refine r_seq ?_
            refine r_region ?_
            refine r_pure tabOk 2 [11, 18, 19, 97, 98] (E' := [(11, .one .str r3.1), (18, .one (.int .i64) r19.2.1), (19, .one .bool r19.2.2), (97, .one (.raw (.slice none 0 0)) (tupv v20 0)), (98, .one (.raw (.slice none 0 0)) (tupv v4 1))]) rfl ?_
            refine r_freeze (i := 0) (k := 97) rfl rfl ?_
            refine r_freeze (i := 1) (k := 98) rfl rfl ?_
            obtain ⟨r22, hr22, h⟩ := bind_ex h
            refine r_calls (escrowlaw05_same_ok r19.1 r3.2.1 _ hr22) (by kernel_rfl) rfl rfl ?_
            refine r_pure tabOk 1 [11, 18, 19, 100] (E' := [(11, .one .str r3.1), (18, .one (.int .i64) r19.2.1), (19, .one .bool r19.2.2), (100, .one .bool r22)]) rfl ?_
            refine r_lsplit (γ := Unit) 5 (fun _ => [(19, .one .bool r19.2.2), (105, .one .bool (r22 && (r19.2.1 == (List.length r3.1 : Int))))]) (fun _ => [Res.own g10 5 (.int .u8) o9, Res.own (tupv v4 2) 3 (.int .i64) r3.2.2.1]) ?_ (fun _ => ?_)
            · clear h
              rcases Bool.eq_false_or_eq_true r22 with hh | hh
              · rw [hh]
                refine r_pure tabOk 5 [19, 105] (E' := [(19, .one .bool r19.2.2), (105, .one .bool (r19.2.1 == (List.length r3.1 : Int)))]) rfl ?_
                refine r_nil ?_
                refine r_then ?_
                exact r_meetg () rfl rfl
              · rw [hh]
                refine r_pure tabOk 5 [19, 105] (E' := [(19, .one .bool r19.2.2), (105, .one .bool false)]) rfl ?_
                refine r_nil ?_
                refine r_then ?_
                exact r_meetg () rfl rfl
            refine r_pure tabOk 1 [19, 106] (E' := [(19, .one .bool r19.2.2), (106, .one .bool (r22 && (r19.2.1 == (List.length r3.1 : Int))))]) rfl ?_
            obtain ⟨b24, hbb24, h⟩ := bnd_ex h
            rw [hbb24]
            refine r_lsplit (γ := Unit) 2 (fun _ => [(108, .one .bool (b24 && r19.2.2))]) (fun _ => [Res.own g10 5 (.int .u8) o9, Res.own (tupv v4 2) 3 (.int .i64) r3.2.2.1]) ?_ (fun _ => ?_)
            · clear h
              cases b24 with
              | true =>
              refine r_pure tabOk 2 [108] (E' := [(108, .one .bool r19.2.2)]) rfl ?_
              refine r_nil ?_
              refine r_then ?_
              exact r_meetg () rfl rfl
              | false =>
              refine r_pure tabOk 2 [108] (E' := [(108, .one .bool false)]) rfl ?_
              refine r_nil ?_
              refine r_then ?_
              exact r_meetg () rfl rfl
            refine r_pure tabOk 1 [10] (E' := [(10, .one .bool (b24 && r19.2.2))]) rfl ?_
            refine r_nil ?_
            refine r_then ?_
            refine r_ret ?_
            obtain rfl := Option.some.inj h
            exact r_ret1 rfl (.tmp rfl) (fun _ _ g => g) (fun _ _ _ => List.nil_sublist _)

theorem escrowlaw05_FrameTells_ok (a0 : List (List Int)) (a1 : Int) (a2 : Int) (a3 : Int) (a4 : Int) (r : Bool) (h : escrowlaw05_FrameTells a0 a1 a2 a3 a4 = some r) : Pure Try.prog 9 [.one (.sl 9 .str) a0, .one (.int .i64) a1, .one (.int .i64) a2, .one (.int .i64) a3, .one (.int .u8) a4] (.one .bool r) := by
  unfold escrowlaw05_FrameTells at h
  refine enter Try.func9 rfl 122 rfl rfl fun F => ?_
  refine r_seq ?_
  refine r_region ?_
  refine r_pure tabOk 1 [0, 1, 2, 3, 4] (E' := [(0, .one (.sl 9 .str) a0), (1, .one (.int .i64) a1), (2, .one (.int .i64) a2), (3, .one (.int .i64) a3), (4, .one (.int .u8) a4)]) rfl ?_
  refine r_nil ?_
  refine r_then ?_
  refine r_seq ?_
  refine r_seq ?_
  refine r_region ?_
  obtain ⟨r1, hr1, h⟩ := bind_ex h
  refine r_calls (escrowlaw05_first_ok  _ hr1) (by kernel_rfl) rfl rfl ?_
  refine r_pure tabOk 1 [0, 1, 2, 3, 4, 25] (E' := [(0, .one (.sl 9 .str) a0), (1, .one (.int .i64) a1), (2, .one (.int .i64) a2), (3, .one (.int .i64) a3), (4, .one (.int .u8) a4), (25, .one .bool (!r1))]) rfl ?_
  refine r_nil ?_
  refine r_then ?_
  refine r_if (b := (!r1)) rfl (fun hc => ?_) (fun hc => ?_)
  · rw [if_pos hc] at h
    refine r_seq ?_
    refine r_region ?_
    refine r_pure tabOk 1 [10] (E' := [(10, .one .bool false)]) rfl ?_
    refine r_nil ?_
    refine r_then ?_
    refine r_ret ?_
    refine t_then ?_
    obtain rfl := Option.some.inj h
    exact r_ret1 rfl (.tmp rfl) (fun _ _ g => g) (fun _ _ _ => List.nil_sublist _)
  · rw [if_neg (ne_true_of_eq_false hc)] at h
    refine r_skip ?_
    refine r_then ?_
    refine r_seq ?_
    refine r_region ?_
    refine r_pure tabOk 1 [0, 2, 3, 4, 26] (E' := [(0, .one (.sl 9 .str) a0), (2, .one (.int .i64) a2), (3, .one (.int .i64) a3), (4, .one (.int .u8) a4), (26, .one (.int .i64) a1)]) rfl ?_
    obtain ⟨r2, hr2, h⟩ := bind_ex h
    refine r_calls (escrowlaw05_number_ok a1 _ hr2) (by kernel_rfl) rfl rfl ?_
    refine r_pure tabOk 1 [0, 1, 2, 3, 4] (E' := [(0, .one (.sl 9 .str) a0), (1, .one (.int .i64) r2), (2, .one (.int .i64) a2), (3, .one (.int .i64) a3), (4, .one (.int .u8) a4)]) rfl ?_
    refine r_nil ?_
    refine r_then ?_
    refine r_seq ?_
    refine r_region ?_
    refine r_pure tabOk 2 [1, 2, 3, 4, 29, 30] (E' := [(1, .one (.int .i64) r2), (2, .one (.int .i64) a2), (3, .one (.int .i64) a3), (4, .one (.int .u8) a4), (29, .one (.sl 9 .str) a0), (30, .one (.int .i64) r2)]) rfl ?_
    obtain ⟨r3, hr3, h⟩ := bind_ex h
    refine r_call (Lo := []) (escrowlaw05_joined_ok a0 r2 _ hr3) (by kernel_rfl) (by simp) rfl rfl fun v4 => ?_
    refine r_pure tabOk 9 [1, 2, 3, 4, 11, 12, 13, 14] (E' := [(1, .one (.int .i64) r2), (2, .one (.int .i64) a2), (3, .one (.int .i64) a3), (4, .one (.int .u8) a4), (11, .one .str r3.1), (12, .one (.raw (.slice none 0 0)) (tupv v4 1)), (13, .one (.raw (.slice none 0 0)) (tupv v4 2)), (14, .one .bool r3.2.2.2)]) rfl ?_
    refine r_nil ?_
    refine r_then ?_
    refine r_seq ?_
    refine r_seq ?_
    refine r_region ?_
    refine r_pure tabOk 2 [1, 2, 3, 4, 11, 12, 13, 37] (E' := [(1, .one (.int .i64) r2), (2, .one (.int .i64) a2), (3, .one (.int .i64) a3), (4, .one (.int .u8) a4), (11, .one .str r3.1), (12, .one (.raw (.slice none 0 0)) (tupv v4 1)), (13, .one (.raw (.slice none 0 0)) (tupv v4 2)), (37, .one .bool (!r3.2.2.2))]) rfl ?_
    refine r_nil ?_
    refine r_then ?_
    refine r_if (b := (!r3.2.2.2)) rfl (fun hc => ?_) (fun hc => ?_)
    · rw [if_pos hc] at h
      refine r_seq ?_
      refine r_region ?_
      refine r_pure tabOk 1 [10] (E' := [(10, .one .bool false)]) rfl ?_
      refine r_nil ?_
      refine r_then ?_
      refine r_ret ?_
      refine t_then ?_
      obtain rfl := Option.some.inj h
      exact r_ret1 rfl (.tmp rfl) (fun _ _ g => g) (fun _ _ _ => List.nil_sublist _)
    · rw [if_neg (ne_true_of_eq_false hc)] at h
      refine r_skip ?_
      refine r_then ?_
      refine r_seq ?_
      refine r_seq ?_
      refine r_region ?_
      refine r_pure tabOk 1 [1, 2, 3, 4, 11, 12, 13, 38] (E' := [(1, .one (.int .i64) r2), (2, .one (.int .i64) a2), (3, .one (.int .i64) a3), (4, .one (.int .u8) a4), (11, .one .str r3.1), (12, .one (.raw (.slice none 0 0)) (tupv v4 1)), (13, .one (.raw (.slice none 0 0)) (tupv v4 2)), (38, .one (.raw (.slice none 0 0)) (tupv v4 1))]) rfl ?_
      refine y (y_lenown tabOk 0 rfl rfl rfl) rfl ?_
      refine r_pure tabOk 2 [1, 2, 3, 4, 11, 12, 13, 41] (E' := [(1, .one (.int .i64) r2), (2, .one (.int .i64) a2), (3, .one (.int .i64) a3), (4, .one (.int .u8) a4), (11, .one .str r3.1), (12, .one (.raw (.slice none 0 0)) (tupv v4 1)), (13, .one (.raw (.slice none 0 0)) (tupv v4 2)), (41, .one .bool ((List.length r3.2.1 : Int) == 0))]) rfl ?_
      obtain ⟨b7, hbb7, h⟩ := bnd_ex h
      rw [hbb7]
      refine r_lsplit (γ := Unit) 3 (fun _ => [(1, .one (.int .i64) r2), (2, .one (.int .i64) a2), (3, .one (.int .i64) a3), (4, .one (.int .u8) a4), (11, .one .str r3.1), (12, .one (.raw (.slice none 0 0)) (tupv v4 1)), (13, .one (.raw (.slice none 0 0)) (tupv v4 2)), (44, .one .bool (b7 || (a4 == 0)))]) (fun _ => [Res.own (tupv v4 1) 9 .str r3.2.1, Res.own (tupv v4 2) 3 (.int .i64) r3.2.2.1]) ?_ (fun _ => ?_)
      · clear h
        cases b7 with
        | true =>
        refine r_pure tabOk 3 [1, 2, 3, 4, 11, 12, 13, 44] (E' := [(1, .one (.int .i64) r2), (2, .one (.int .i64) a2), (3, .one (.int .i64) a3), (4, .one (.int .u8) a4), (11, .one .str r3.1), (12, .one (.raw (.slice none 0 0)) (tupv v4 1)), (13, .one (.raw (.slice none 0 0)) (tupv v4 2)), (44, .one .bool true)]) rfl ?_
        refine r_nil ?_
        refine r_then ?_
        exact r_meetg () rfl rfl
        | false =>
        refine r_pure tabOk 3 [1, 2, 3, 4, 11, 12, 13, 44] (E' := [(1, .one (.int .i64) r2), (2, .one (.int .i64) a2), (3, .one (.int .i64) a3), (4, .one (.int .u8) a4), (11, .one .str r3.1), (12, .one (.raw (.slice none 0 0)) (tupv v4 1)), (13, .one (.raw (.slice none 0 0)) (tupv v4 2)), (44, .one .bool (a4 == 0))]) rfl ?_
        refine r_nil ?_
        refine r_then ?_
        exact r_meetg () rfl rfl
      refine r_nil ?_
      refine r_then ?_
      refine r_if (b := (b7 || (a4 == 0))) rfl (fun hc => ?_) (fun hc => ?_)
      · rw [if_pos hc] at h
        refine r_seq ?_
        refine r_region ?_
        refine r_pure tabOk 1 [10] (E' := [(10, .one .bool true)]) rfl ?_
        refine r_nil ?_
        refine r_then ?_
        refine r_ret ?_
        refine t_then ?_
        obtain rfl := Option.some.inj h
        exact r_ret1 rfl (.tmp rfl) (fun _ _ g => g) (fun _ _ _ => List.nil_sublist _)
      · rw [if_neg (ne_true_of_eq_false hc)] at h
        refine r_skip ?_
        refine r_then ?_
        refine r_seq ?_
        refine r_region ?_
        refine r_pure tabOk 3 [1, 3, 4, 11, 12, 13, 46, 47] (E' := [(1, .one (.int .i64) r2), (3, .one (.int .i64) a3), (4, .one (.int .u8) a4), (11, .one .str r3.1), (12, .one (.raw (.slice none 0 0)) (tupv v4 1)), (13, .one (.raw (.slice none 0 0)) (tupv v4 2)), (46, .one (.int .u64) (IntKind.wrap .u64 a2)), (47, .one (.raw (.slice none 0 0)) (tupv v4 1))]) rfl ?_
        refine y (y_lenown tabOk 0 rfl rfl rfl) rfl ?_
        refine r_pure tabOk 1 [1, 3, 4, 11, 12, 13, 46, 49] (E' := [(1, .one (.int .i64) r2), (3, .one (.int .i64) a3), (4, .one (.int .u8) a4), (11, .one .str r3.1), (12, .one (.raw (.slice none 0 0)) (tupv v4 1)), (13, .one (.raw (.slice none 0 0)) (tupv v4 2)), (46, .one (.int .u64) (IntKind.wrap .u64 a2)), (49, .one (.int .u64) (IntKind.wrap .u64 (List.length r3.2.1 : Int)))]) rfl ?_
        obtain ⟨hc, h⟩ := ite_ex h
        refine y (y_rem rfl rfl hc) rfl ?_
        refine r_pure tabOk 1 [1, 3, 4, 11, 12, 13, 51] (E' := [(1, .one (.int .i64) r2), (3, .one (.int .i64) a3), (4, .one (.int .u8) a4), (11, .one .str r3.1), (12, .one (.raw (.slice none 0 0)) (tupv v4 1)), (13, .one (.raw (.slice none 0 0)) (tupv v4 2)), (51, .one (.int .i64) (IntKind.wrap .i64 (Int.tmod (IntKind.wrap .u64 a2) (IntKind.wrap .u64 (List.length r3.2.1 : Int)))))]) rfl ?_
        obtain ⟨t8, ht8, h⟩ := bnd_ex h
        rw [ht8]
        refine r_pure tabOk 1 [1, 2, 3, 4, 11, 12, 13] (E' := [(1, .one (.int .i64) r2), (2, .one (.int .i64) t8), (3, .one (.int .i64) a3), (4, .one (.int .u8) a4), (11, .one .str r3.1), (12, .one (.raw (.slice none 0 0)) (tupv v4 1)), (13, .one (.raw (.slice none 0 0)) (tupv v4 2))]) rfl ?_
        refine r_nil ?_
        refine r_then ?_
        refine r_seq ?_
        refine r_region ?_
        refine r_pure tabOk 1 [1, 2, 3, 4, 11, 12, 13, 15] (E' := [(1, .one (.int .i64) r2), (2, .one (.int .i64) t8), (3, .one (.int .i64) a3), (4, .one (.int .u8) a4), (11, .one .str r3.1), (12, .one (.raw (.slice none 0 0)) (tupv v4 1)), (13, .one (.raw (.slice none 0 0)) (tupv v4 2)), (15, .one (.int .i64) 0)]) rfl ?_
        refine r_nil ?_
        refine r_then ?_
        obtain ⟨k9, hk9, h⟩ := bnd_ex h
        refine r_joink (γ := Value) (fun (o10 : Int) g11 => [(1, .one (.int .i64) r2), (2, .one (.int .i64) t8), (3, .one (.int .i64) a3), (4, .one (.int .u8) a4), (11, .one .str r3.1), (12, .one (.raw (.slice none 0 0)) (tupv v4 1)), (13, .one (.raw (.slice none 0 0)) g11), (15, .one (.int .i64) o10)]) (fun (o10 : Int) g11 => [Res.own (tupv v4 1) 9 .str r3.2.1, Res.own g11 3 (.int .i64) r3.2.2.1]) k9 r ?_ ?_
        · refine r_seq ?_
          refine r_region ?_
          refine r_pure tabOk 2 [1, 2, 3, 4, 11, 12, 13, 15, 53] (E' := [(1, .one (.int .i64) r2), (2, .one (.int .i64) t8), (3, .one (.int .i64) a3), (4, .one (.int .u8) a4), (11, .one .str r3.1), (12, .one (.raw (.slice none 0 0)) (tupv v4 1)), (13, .one (.raw (.slice none 0 0)) (tupv v4 2)), (15, .one (.int .i64) 0), (53, .one .bool (decide (t8 > 0)))]) rfl ?_
          refine r_nil ?_
          refine r_then ?_
          refine r_if (b := (decide (t8 > 0))) rfl (fun hc => ?_) (fun hc => ?_)
          · rw [if_pos hc] at h
            refine r_region ?_
            refine r_pure tabOk 3 [1, 2, 3, 4, 11, 12, 13, 54, 56] (E' := [(1, .one (.int .i64) r2), (2, .one (.int .i64) t8), (3, .one (.int .i64) a3), (4, .one (.int .u8) a4), (11, .one .str r3.1), (12, .one (.raw (.slice none 0 0)) (tupv v4 1)), (13, .one (.raw (.slice none 0 0)) (tupv v4 2)), (54, .one (.raw (.slice none 0 0)) (tupv v4 2)), (56, .one (.int .i64) (IntKind.wrap .i64 (t8 - 1)))]) rfl ?_
            obtain ⟨hc, h⟩ := ite_ex h
            refine r_expose 1 rfl (by omega) fun b31 c32 hv => ?_
            rw [hv]
            try clear hv
            refine y (y_iraw tabOk rfl rfl hc.1 (by simpa using hc.2) rfl ty3) rfl ?_
            refine y (y_lown 1 (Int.toNat (IntKind.wrap .i64 (t8 - 1))) .here rfl rfl (by omega) (by first | rfl | (simp only [Pth.off, T.size]; omega)) ok_here ty3) rfl ?_
            refine r_pure tabOk 1 [1, 2, 3, 4, 11, 12, 13, 15] (E' := [(1, .one (.int .i64) r2), (2, .one (.int .i64) t8), (3, .one (.int .i64) a3), (4, .one (.int .u8) a4), (11, .one .str r3.1), (12, .one (.raw (.slice none 0 0)) (tupv v4 1)), (13, .one (.raw (.slice none 0 0)) (.slice (some ⟨b31, 0, none⟩) (List.length r3.2.2.1) c32)), (15, .one (.int .i64) (List.getD r3.2.2.1 (Int.toNat (IntKind.wrap .i64 (t8 - 1))) 0))]) rfl ?_
            obtain ⟨from33, hfrom33, h⟩ := bnd_ex h
            rw [hfrom33]
            refine r_nil ?_
            refine r_then ?_
            refine r_less [1, 2, 3, 4, 11, 12, 13, 15] rfl ?_
            exact r_meetk from33 (.slice (some ⟨b31, 0, none⟩) (List.length r3.2.2.1) c32) h rfl rfl
          · rw [if_neg (ne_true_of_eq_false hc)] at h
            refine r_skip ?_
            refine r_then ?_
            refine r_less [1, 2, 3, 4, 11, 12, 13, 15] rfl ?_
            exact r_meetk 0 (tupv v4 2) h rfl rfl
        · intro o10 g11 h
          rw [← hk9] at h
          try dsimp only at h
          refine r_seq ?_
          refine r_region ?_
          refine r_pure tabOk 2 [1, 2, 3, 4, 11, 12, 15, 59, 60] (E' := [(1, .one (.int .i64) r2), (2, .one (.int .i64) t8), (3, .one (.int .i64) a3), (4, .one (.int .u8) a4), (11, .one .str r3.1), (12, .one (.raw (.slice none 0 0)) (tupv v4 1)), (15, .one (.int .i64) o10), (59, .one (.raw (.slice none 0 0)) g11), (60, .one (.int .i64) t8)]) rfl ?_
          obtain ⟨hc, h⟩ := ite_ex h
          refine r_expose 1 rfl (by omega) fun b12 c13 hv => ?_
          rw [hv]
          try clear hv
          refine y (y_iraw tabOk rfl rfl hc.1 (by simpa using hc.2) rfl ty3) rfl ?_
          refine y (y_lown 1 (Int.toNat t8) .here rfl rfl (by omega) (by first | rfl | (simp only [Pth.off, T.size]; omega)) ok_here ty3) rfl ?_
          refine r_pure tabOk 3 [1, 2, 3, 4, 11, 12, 15, 16] (E' := [(1, .one (.int .i64) r2), (2, .one (.int .i64) t8), (3, .one (.int .i64) a3), (4, .one (.int .u8) a4), (11, .one .str r3.1), (12, .one (.raw (.slice none 0 0)) (tupv v4 1)), (15, .one (.int .i64) o10), (16, .one (.int .i64) (IntKind.wrap .i64 ((List.getD r3.2.2.1 (Int.toNat t8) 0) - o10)))]) rfl ?_
          obtain ⟨size14, hsize14, h⟩ := bnd_ex h
          rw [hsize14]
          refine r_nil ?_
          refine r_then ?_
          refine r_seq ?_
          refine r_region ?_
          refine r_pure tabOk 7 [1, 2, 4, 11, 12, 15, 66, 68, 71] (E' := [(1, .one (.int .i64) r2), (2, .one (.int .i64) t8), (4, .one (.int .u8) a4), (11, .one .str r3.1), (12, .one (.raw (.slice none 0 0)) (tupv v4 1)), (15, .one (.int .i64) o10), (66, .one (.int .i64) (IntKind.wrap .i64 (o10 + 4))), (68, .one (.int .u64) (IntKind.wrap .u64 a3)), (71, .one (.int .u64) (IntKind.wrap .u64 (IntKind.wrap .i64 (size14 - 4))))]) rfl ?_
          obtain ⟨hc, h⟩ := ite_ex h
          refine y (y_rem rfl rfl hc) rfl ?_
          refine r_pure tabOk 1 [1, 2, 4, 11, 12, 15, 66, 73] (E' := [(1, .one (.int .i64) r2), (2, .one (.int .i64) t8), (4, .one (.int .u8) a4), (11, .one .str r3.1), (12, .one (.raw (.slice none 0 0)) (tupv v4 1)), (15, .one (.int .i64) o10), (66, .one (.int .i64) (IntKind.wrap .i64 (o10 + 4))), (73, .one (.int .i64) (IntKind.wrap .i64 (Int.tmod (IntKind.wrap .u64 a3) (IntKind.wrap .u64 (IntKind.wrap .i64 (size14 - 4))))))]) rfl ?_
          obtain ⟨t15, ht15, h⟩ := bnd_ex h
          rw [ht15]
          refine r_pure tabOk 2 [1, 2, 3, 4, 11, 12, 15] (E' := [(1, .one (.int .i64) r2), (2, .one (.int .i64) t8), (3, .one (.int .i64) (IntKind.wrap .i64 ((IntKind.wrap .i64 (o10 + 4)) + t15))), (4, .one (.int .u8) a4), (11, .one .str r3.1), (12, .one (.raw (.slice none 0 0)) (tupv v4 1)), (15, .one (.int .i64) o10)]) rfl ?_
          obtain ⟨at16, hat16, h⟩ := bnd_ex h
          rw [hat16]
          refine r_nil ?_
          refine r_then ?_
          refine r_seq ?_
          refine r_region ?_
          refine r_pure tabOk 1 [1, 2, 3, 4, 12, 15, 75] (E' := [(1, .one (.int .i64) r2), (2, .one (.int .i64) t8), (3, .one (.int .i64) at16), (4, .one (.int .u8) a4), (12, .one (.raw (.slice none 0 0)) (tupv v4 1)), (15, .one (.int .i64) o10), (75, .one .str r3.1)]) rfl ?_
          refine r_bytes tabOk rfl rfl rfl rfl rfl fun v17 => ?_
          refine r_pure tabOk 1 [1, 2, 3, 4, 12, 15, 17] (E' := [(1, .one (.int .i64) r2), (2, .one (.int .i64) t8), (3, .one (.int .i64) at16), (4, .one (.int .u8) a4), (12, .one (.raw (.slice none 0 0)) (tupv v4 1)), (15, .one (.int .i64) o10), (17, .one (.raw (.slice none 0 0)) v17)]) rfl ?_
          refine r_nil ?_
          refine r_then ?_
          refine r_seq ?_
          refine r_region ?_
          refine r_pure tabOk 4 [1, 2, 4, 12, 15, 17, 77, 78, 79, 80] (E' := [(1, .one (.int .i64) r2), (2, .one (.int .i64) t8), (4, .one (.int .u8) a4), (12, .one (.raw (.slice none 0 0)) (tupv v4 1)), (15, .one (.int .i64) o10), (17, .one (.raw (.slice none 0 0)) v17), (77, .one (.raw (.slice none 0 0)) v17), (78, .one (.int .i64) at16), (79, .one (.raw (.slice none 0 0)) v17), (80, .one (.int .i64) at16)]) rfl ?_
          obtain ⟨hc, h⟩ := ite_ex h
          refine r_expose 0 rfl (by omega) fun b19 c20 hv => ?_
          rw [hv]
          try clear hv
          refine y (y_iraw tabOk rfl rfl hc.1 (by simpa using hc.2) rfl ty5) rfl ?_
          refine y (y_lown 0 (Int.toNat at16) .here rfl rfl (by omega) (by first | rfl | (simp only [Pth.off, T.size]; omega)) ok_here ty5) rfl ?_
          refine r_pure tabOk 2 [1, 2, 12, 15, 17, 77, 78, 84] (E' := [(1, .one (.int .i64) r2), (2, .one (.int .i64) t8), (12, .one (.raw (.slice none 0 0)) (tupv v4 1)), (15, .one (.int .i64) o10), (17, .one (.raw (.slice none 0 0)) (.slice (some ⟨b19, 0, none⟩) (List.length r3.1) c20)), (77, .one (.raw (.slice none 0 0)) (.slice (some ⟨b19, 0, none⟩) (List.length r3.1) c20)), (78, .one (.int .i64) at16), (84, .one (.int .u8) (ixor .u8 (List.getD r3.1 (Int.toNat at16) 0) a4))]) rfl ?_
          obtain ⟨hc, h⟩ := ite_ex h
          refine y (y_iraw tabOk rfl rfl hc.1 (by simpa using hc.2) rfl ty5) rfl ?_
          refine r_sown 0 (Int.toNat at16) .here rfl rfl rfl (by omega) (by first | rfl | (simp only [Pth.off, T.size]; omega)) ok_here ty5 ?_
          refine r_nil ?_
          refine r_then ?_
          refine r_seq ?_
          refine r_region ?_
          refine r_pure tabOk 1 [1, 2, 12, 15, 17, 87] (E' := [(1, .one (.int .i64) r2), (2, .one (.int .i64) t8), (12, .one (.raw (.slice none 0 0)) (tupv v4 1)), (15, .one (.int .i64) o10), (17, .one (.raw (.slice none 0 0)) (.slice (some ⟨b19, 0, none⟩) (List.length r3.1) c20)), (87, .one (.raw (.slice none 0 0)) (.slice (some ⟨b19, 0, none⟩) (List.length r3.1) c20))]) rfl ?_
          refine y (y_text tabOk 0 rfl rfl rfl rfl rfl) rfl ?_
          refine r_pure tabOk 1 [1, 2, 12, 15, 17, 88, 89] (E' := [(1, .one (.int .i64) r2), (2, .one (.int .i64) t8), (12, .one (.raw (.slice none 0 0)) (tupv v4 1)), (15, .one (.int .i64) o10), (17, .one (.raw (.slice none 0 0)) (.slice (some ⟨b19, 0, none⟩) (List.length r3.1) c20)), (88, .one .str (List.set r3.1 (Int.toNat at16) (ixor .u8 (List.getD r3.1 (Int.toNat at16) 0) a4))), (89, .one (.int .i64) r2)]) rfl ?_
          obtain ⟨r23, hr23, h⟩ := bind_ex h
          refine r_call (Lo := [Res.own (.slice (some ⟨b19, 0, none⟩) (List.length r3.1) c20) 5 (.int .u8) (List.set r3.1 (Int.toNat at16) (ixor .u8 (List.getD r3.1 (Int.toNat at16) 0) a4)), Res.own (tupv v4 1) 9 .str r3.2.1, Res.own (.slice (some ⟨b12, 0, none⟩) (List.length r3.2.2.1) c13) 3 (.int .i64) r3.2.2.1]) (frame_Scan_ok (List.set r3.1 (Int.toNat at16) (ixor .u8 (List.getD r3.1 (Int.toNat at16) 0) a4)) r2 _ hr23) (by kernel_rfl) (by simp) rfl rfl fun v24 => ?_
          refine r_pure tabOk 7 [1, 2, 12, 15, 17, 18, 19, 20] (E' := [(1, .one (.int .i64) r2), (2, .one (.int .i64) t8), (12, .one (.raw (.slice none 0 0)) (tupv v4 1)), (15, .one (.int .i64) o10), (17, .one (.raw (.slice none 0 0)) (.slice (some ⟨b19, 0, none⟩) (List.length r3.1) c20)), (18, .one (.raw (.slice none 0 0)) (tupv v24 0)), (19, .one (.int .i64) r23.2.1), (20, .one .bool r23.2.2)]) rfl ?_
          refine r_nil ?_
          refine r_then ?_
          refine r_seq ?_
          refine r_region ?_
          refine r_pure tabOk 1 [1, 2, 12, 15, 18, 19, 20, 95] (E' := [(1, .one (.int .i64) r2), (2, .one (.int .i64) t8), (12, .one (.raw (.slice none 0 0)) (tupv v4 1)), (15, .one (.int .i64) o10), (18, .one (.raw (.slice none 0 0)) (tupv v24 0)), (19, .one (.int .i64) r23.2.1), (20, .one .bool r23.2.2), (95, .one (.raw (.slice none 0 0)) (.slice (some ⟨b19, 0, none⟩) (List.length r3.1) c20))]) rfl ?_
          refine y (y_text tabOk 1 rfl rfl rfl rfl rfl) rfl ?_
          refine r_pure tabOk 4 [2, 12, 15, 18, 19, 20, 96, 97, 100] (E' := [(2, .one (.int .i64) t8), (12, .one (.raw (.slice none 0 0)) (tupv v4 1)), (15, .one (.int .i64) o10), (18, .one (.raw (.slice none 0 0)) (tupv v24 0)), (19, .one (.int .i64) r23.2.1), (20, .one .bool r23.2.2), (96, .one .str (List.set r3.1 (Int.toNat at16) (ixor .u8 (List.getD r3.1 (Int.toNat at16) 0) a4))), (97, .one (.int .i64) o10), (100, .one (.int .i64) (IntKind.wrap .i64 (r2 + t8)))]) rfl ?_
          obtain ⟨r26, hr26, h⟩ := bind_ex h
          refine r_calls (frame_Next_ok (List.set r3.1 (Int.toNat at16) (ixor .u8 (List.getD r3.1 (Int.toNat at16) 0) a4)) o10 (IntKind.wrap .i64 (r2 + t8)) _ hr26) (by kernel_rfl) rfl rfl ?_
          refine r_pure tabOk 7 [2, 12, 15, 18, 19, 20, 23] (E' := [(2, .one (.int .i64) t8), (12, .one (.raw (.slice none 0 0)) (tupv v4 1)), (15, .one (.int .i64) o10), (18, .one (.raw (.slice none 0 0)) (tupv v24 0)), (19, .one (.int .i64) r23.2.1), (20, .one .bool r23.2.2), (23, .one (.int .i64) r26.2.2)]) rfl ?_
          refine r_nil ?_
          refine r_then ?_
          refine r_seq ?_
          refine r_region ?_
          refine r_pure tabOk 3 [15, 19, 20, 23, 105, 106, 107] (E' := [(15, .one (.int .i64) o10), (19, .one (.int .i64) r23.2.1), (20, .one .bool r23.2.2), (23, .one (.int .i64) r26.2.2), (105, .one (.raw (.slice none 0 0)) (tupv v24 0)), (106, .one (.raw (.slice none 0 0)) (tupv v4 1)), (107, .one (.int .i64) t8)]) rfl ?_
          refine r_freeze (i := 2) (k := 106) rfl rfl ?_
          obtain ⟨hc, h⟩ := ite_ex h
          refine y (y_slsub (i := (0 : Int)) (j := t8) tabOk rfl rfl rfl hc.1 hc.2.1 hc.2.2 rfl ty9) rfl ?_
          refine r_freeze (i := 0) (k := 105) rfl rfl ?_
          obtain ⟨r27, hr27, h⟩ := bind_ex h
          refine r_calls (escrowlaw05_same_ok r23.1 (List.drop 0 (List.take (Int.toNat t8) r3.2.1)) _ hr27) (by kernel_rfl) rfl rfl ?_
          refine r_pure tabOk 1 [15, 19, 20, 23, 110] (E' := [(15, .one (.int .i64) o10), (19, .one (.int .i64) r23.2.1), (20, .one .bool r23.2.2), (23, .one (.int .i64) r26.2.2), (110, .one .bool r27)]) rfl ?_
          refine r_lsplit (γ := Unit) 4 (fun _ => [(20, .one .bool r23.2.2), (23, .one (.int .i64) r26.2.2), (114, .one .bool (r27 && (r23.2.1 == o10)))]) (fun _ => [Res.own (.slice (some ⟨b19, 0, none⟩) (List.length r3.1) c20) 5 (.int .u8) (List.set r3.1 (Int.toNat at16) (ixor .u8 (List.getD r3.1 (Int.toNat at16) 0) a4)), Res.own (.slice (some ⟨b12, 0, none⟩) (List.length r3.2.2.1) c13) 3 (.int .i64) r3.2.2.1]) ?_ (fun _ => ?_)
          · clear h
            rcases Bool.eq_false_or_eq_true r27 with hh | hh
            · rw [hh]
              refine r_pure tabOk 4 [20, 23, 114] (E' := [(20, .one .bool r23.2.2), (23, .one (.int .i64) r26.2.2), (114, .one .bool (r23.2.1 == o10))]) rfl ?_
              refine r_nil ?_
              refine r_then ?_
              exact r_meetg () rfl rfl
            · rw [hh]
              refine r_pure tabOk 4 [20, 23, 114] (E' := [(20, .one .bool r23.2.2), (23, .one (.int .i64) r26.2.2), (114, .one .bool false)]) rfl ?_
              refine r_nil ?_
              refine r_then ?_
              exact r_meetg () rfl rfl
          refine r_pure tabOk 1 [20, 23, 115] (E' := [(20, .one .bool r23.2.2), (23, .one (.int .i64) r26.2.2), (115, .one .bool (r27 && (r23.2.1 == o10)))]) rfl ?_
          obtain ⟨b29, hbb29, h⟩ := bnd_ex h
          rw [hbb29]
          refine r_lsplit (γ := Unit) 2 (fun _ => [(23, .one (.int .i64) r26.2.2), (117, .one .bool (b29 && r23.2.2))]) (fun _ => [Res.own (.slice (some ⟨b19, 0, none⟩) (List.length r3.1) c20) 5 (.int .u8) (List.set r3.1 (Int.toNat at16) (ixor .u8 (List.getD r3.1 (Int.toNat at16) 0) a4)), Res.own (.slice (some ⟨b12, 0, none⟩) (List.length r3.2.2.1) c13) 3 (.int .i64) r3.2.2.1]) ?_ (fun _ => ?_)
          · clear h
            cases b29 with
            | true =>
            refine r_pure tabOk 2 [23, 117] (E' := [(23, .one (.int .i64) r26.2.2), (117, .one .bool r23.2.2)]) rfl ?_
            refine r_nil ?_
            refine r_then ?_
            exact r_meetg () rfl rfl
            | false =>
            refine r_pure tabOk 2 [23, 117] (E' := [(23, .one (.int .i64) r26.2.2), (117, .one .bool false)]) rfl ?_
            refine r_nil ?_
            refine r_then ?_
            exact r_meetg () rfl rfl
          refine r_pure tabOk 1 [23, 118] (E' := [(23, .one (.int .i64) r26.2.2), (118, .one .bool (b29 && r23.2.2))]) rfl ?_
          obtain ⟨b30, hbb30, h⟩ := bnd_ex h
          rw [hbb30]
          refine r_lsplit (γ := Unit) 3 (fun _ => [(121, .one .bool (b30 && (r26.2.2 == 2)))]) (fun _ => [Res.own (.slice (some ⟨b19, 0, none⟩) (List.length r3.1) c20) 5 (.int .u8) (List.set r3.1 (Int.toNat at16) (ixor .u8 (List.getD r3.1 (Int.toNat at16) 0) a4)), Res.own (.slice (some ⟨b12, 0, none⟩) (List.length r3.2.2.1) c13) 3 (.int .i64) r3.2.2.1]) ?_ (fun _ => ?_)
          · clear h
            cases b30 with
            | true =>
            refine r_pure tabOk 3 [121] (E' := [(121, .one .bool (r26.2.2 == 2))]) rfl ?_
            refine r_nil ?_
            refine r_then ?_
            exact r_meetg () rfl rfl
            | false =>
            refine r_pure tabOk 3 [121] (E' := [(121, .one .bool false)]) rfl ?_
            refine r_nil ?_
            refine r_then ?_
            exact r_meetg () rfl rfl
          refine r_pure tabOk 1 [10] (E' := [(10, .one .bool (b30 && (r26.2.2 == 2)))]) rfl ?_
          refine r_nil ?_
          refine r_then ?_
          refine r_ret ?_
          obtain rfl := Option.some.inj h
          exact r_ret1 rfl (.tmp rfl) (fun _ _ g => g) (fun _ _ _ => List.nil_sublist _)
end Sx
