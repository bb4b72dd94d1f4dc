/-
  Own work, printed by a program of the same hand. Each function of the code answers what its plain twin reckons.
-/
import Derived.Test.YtammhjkpdepohaaGreatWalk3
namespace Sx
open Go Go.Proofs
set_option maxRecDepth 10000

theorem escrowlaw19_MarkTorn_ok (a0 : Int) (a1 : Int) (a2 : Int) (a3 : Int) (a4 : Int) (r : Bool) (h : escrowlaw19_MarkTorn a0 a1 a2 a3 a4 = some r) : Pure Tryz.prog 3 [.one (.int .i64) a0, .one (.int .i64) a1, .one (.int .i64) a2, .one (.int .u8) a3, .one (.int .i64) a4] (.one .bool r) := by
  unfold escrowlaw19_MarkTorn at h
  refine enter Tryz.func3 rfl 233 rfl rfl fun F => ?_
  refine r_seq ?_
  refine r_region ?_
  refine r_pure tabOk 1 [0, 1, 2, 3, 4] (E' := [(0, .one (.int .i64) a0), (1, .one (.int .i64) a1), (2, .one (.int .i64) a2), (3, .one (.int .u8) a3), (4, .one (.int .i64) a4)]) rfl ?_
  refine r_nil ?_
  refine r_then ?_
  refine r_seq ?_
  refine r_seq ?_
  refine r_region ?_
  obtain ⟨r1, hr1, h⟩ := bind_ex h
  refine r_calls (escrowlaw19_head_ok  _ hr1) (by kernel_rfl) rfl rfl ?_
  refine r_pure tabOk 1 [0, 1, 2, 3, 4, 33] (E' := [(0, .one (.int .i64) a0), (1, .one (.int .i64) a1), (2, .one (.int .i64) a2), (3, .one (.int .u8) a3), (4, .one (.int .i64) a4), (33, .one .bool (!r1))]) rfl ?_
  refine r_nil ?_
  refine r_then ?_
  refine r_if (b := (!r1)) rfl (fun hc => ?_) (fun hc => ?_)
  · rw [if_pos hc] at h
    refine r_seq ?_
    refine r_region ?_
    refine r_pure tabOk 1 [10] (E' := [(10, .one .bool false)]) rfl ?_
    refine r_nil ?_
    refine r_then ?_
    refine r_ret ?_
    refine t_then ?_
    obtain rfl := Option.some.inj h
    exact r_ret1 rfl (.tmp rfl) (fun _ _ g => g) (fun _ _ _ => List.nil_sublist _)
  · rw [if_neg (ne_true_of_eq_false hc)] at h
    refine r_skip ?_
    refine r_then ?_
    refine r_seq ?_
    refine r_region ?_
    refine r_pure tabOk 3 [1, 2, 3, 4, 11] (E' := [(1, .one (.int .i64) a1), (2, .one (.int .i64) a2), (3, .one (.int .u8) a3), (4, .one (.int .i64) a4), (11, .one (.int .i64) (iand .i64 a0 281474976710655))]) rfl ?_
    obtain ⟨ax2, hax2, h⟩ := bnd_ex h
    rw [hax2]
    refine r_nil ?_
    refine r_then ?_
    refine r_seq ?_
    refine r_region ?_
    refine r_pure tabOk 3 [2, 3, 4, 11, 12] (E' := [(2, .one (.int .i64) a2), (3, .one (.int .u8) a3), (4, .one (.int .i64) a4), (11, .one (.int .i64) ax2), (12, .one (.int .i64) (iand .i64 a1 281474976710655))]) rfl ?_
    obtain ⟨bx3, hbx3, h⟩ := bnd_ex h
    rw [hbx3]
    refine r_nil ?_
    refine r_then ?_
    refine r_seq ?_
    refine r_region ?_
    refine r_pure tabOk 1 [3, 4, 11, 12, 38] (E' := [(3, .one (.int .u8) a3), (4, .one (.int .i64) a4), (11, .one (.int .i64) ax2), (12, .one (.int .i64) bx3), (38, .one (.int .i64) a2)]) rfl ?_
    obtain ⟨r4, hr4, h⟩ := bind_ex h
    refine r_calls (escrowlaw19_least_ok a2 12 _ hr4) (by kernel_rfl) rfl rfl ?_
    refine r_pure tabOk 1 [3, 4, 11, 12, 13] (E' := [(3, .one (.int .u8) a3), (4, .one (.int .i64) a4), (11, .one (.int .i64) ax2), (12, .one (.int .i64) bx3), (13, .one (.int .i64) r4)]) rfl ?_
    refine r_nil ?_
    refine r_then ?_
    refine r_seq ?_
    refine r_region ?_
    refine r_pure tabOk 1 [3, 4, 11, 12, 13, 40] (E' := [(3, .one (.int .u8) a3), (4, .one (.int .i64) a4), (11, .one (.int .i64) ax2), (12, .one (.int .i64) bx3), (13, .one (.int .i64) r4), (40, .one (.int .i64) ax2)]) rfl ?_
    obtain ⟨r5, hr5, h⟩ := bind_ex h
    refine r_calls (escrowlaw19_slot_ok ax2 _ hr5) (by kernel_rfl) rfl rfl ?_
    refine r_bytes tabOk rfl rfl rfl rfl rfl fun v6 => ?_
    refine r_pure tabOk 1 [3, 4, 11, 12, 13, 14] (E' := [(3, .one (.int .u8) a3), (4, .one (.int .i64) a4), (11, .one (.int .i64) ax2), (12, .one (.int .i64) bx3), (13, .one (.int .i64) r4), (14, .one (.raw (.slice none 0 0)) v6)]) rfl ?_
    refine r_nil ?_
    refine r_then ?_
    refine r_seq ?_
    refine r_region ?_
    refine r_pure tabOk 1 [3, 4, 11, 12, 13, 14, 43] (E' := [(3, .one (.int .u8) a3), (4, .one (.int .i64) a4), (11, .one (.int .i64) ax2), (12, .one (.int .i64) bx3), (13, .one (.int .i64) r4), (14, .one (.raw (.slice none 0 0)) v6), (43, .one (.int .i64) bx3)]) rfl ?_
    obtain ⟨r7, hr7, h⟩ := bind_ex h
    refine r_calls (escrowlaw19_slot_ok bx3 _ hr7) (by kernel_rfl) rfl rfl ?_
    refine r_bytes tabOk rfl rfl rfl rfl rfl fun v8 => ?_
    refine r_pure tabOk 1 [3, 4, 11, 12, 13, 14, 15] (E' := [(3, .one (.int .u8) a3), (4, .one (.int .i64) a4), (11, .one (.int .i64) ax2), (12, .one (.int .i64) bx3), (13, .one (.int .i64) r4), (14, .one (.raw (.slice none 0 0)) v6), (15, .one (.raw (.slice none 0 0)) v8)]) rfl ?_
    refine r_nil ?_
    refine r_then ?_
    refine r_seq ?_
    refine r_region ?_
    refine r_pure tabOk 4 [3, 4, 11, 12, 13, 14, 15, 46, 47, 48, 49] (E' := [(3, .one (.int .u8) a3), (4, .one (.int .i64) a4), (11, .one (.int .i64) ax2), (12, .one (.int .i64) bx3), (13, .one (.int .i64) r4), (14, .one (.raw (.slice none 0 0)) v6), (15, .one (.raw (.slice none 0 0)) v8), (46, .one (.raw (.slice none 0 0)) v6), (47, .one (.int .i64) r4), (48, .one (.raw (.slice none 0 0)) v6), (49, .one (.int .i64) r4)]) rfl ?_
    obtain ⟨hc, h⟩ := ite_ex h
    refine r_expose 1 rfl (by first | omega | (simp only [List.length_set] at hc ⊢; omega)) fun b9 c10 hv => ?_
    rw [hv]
    try clear hv
    refine y (y_iraw tabOk rfl rfl hc.1 (by first | exact hc.2 | simpa using hc.2) rfl ty5) rfl ?_
    refine y (y_lown 1 (Int.toNat r4) .here rfl rfl (by first | omega | (simp only [List.length_set] at hc ⊢; omega)) (by first | rfl | (simp only [Pth.off, T.size]; omega)) ok_here ty5) rfl ?_
    refine r_pure tabOk 3 [3, 4, 11, 12, 13, 14, 15, 46, 47, 54] (E' := [(3, .one (.int .u8) a3), (4, .one (.int .i64) a4), (11, .one (.int .i64) ax2), (12, .one (.int .i64) bx3), (13, .one (.int .i64) r4), (14, .one (.raw (.slice none 0 0)) (.slice (some ⟨b9, 0, none⟩) (List.length r5) c10)), (15, .one (.raw (.slice none 0 0)) v8), (46, .one (.raw (.slice none 0 0)) (.slice (some ⟨b9, 0, none⟩) (List.length r5) c10)), (47, .one (.int .i64) r4), (54, .one (.int .u8) (ixor .u8 (List.getD r5 (Int.toNat r4) 0) (ior .u8 a3 1)))]) rfl ?_
    obtain ⟨hc, h⟩ := ite_ex h
    refine y (y_iraw tabOk rfl rfl hc.1 (by first | exact hc.2 | simpa using hc.2) rfl ty5) rfl ?_
    refine r_sown 1 (Int.toNat r4) .here rfl rfl rfl (by first | omega | (simp only [List.length_set] at hc ⊢; omega)) (by first | rfl | (simp only [Pth.off, T.size]; omega)) ok_here ty5 ?_
    refine r_nil ?_
    refine r_then ?_
    refine r_seq ?_
    refine r_region ?_
    refine r_pure tabOk 4 [3, 4, 11, 12, 14, 15, 56, 57, 58, 59] (E' := [(3, .one (.int .u8) a3), (4, .one (.int .i64) a4), (11, .one (.int .i64) ax2), (12, .one (.int .i64) bx3), (14, .one (.raw (.slice none 0 0)) (.slice (some ⟨b9, 0, none⟩) (List.length r5) c10)), (15, .one (.raw (.slice none 0 0)) v8), (56, .one (.raw (.slice none 0 0)) v8), (57, .one (.int .i64) r4), (58, .one (.raw (.slice none 0 0)) v8), (59, .one (.int .i64) r4)]) rfl ?_
    obtain ⟨hc, h⟩ := ite_ex h
    refine r_expose 0 rfl (by first | omega | (simp only [List.length_set] at hc ⊢; omega)) fun b13 c14 hv => ?_
    rw [hv]
    try clear hv
    refine y (y_iraw tabOk rfl rfl hc.1 (by first | exact hc.2 | simpa using hc.2) rfl ty5) rfl ?_
    refine y (y_lown 0 (Int.toNat r4) .here rfl rfl (by first | omega | (simp only [List.length_set] at hc ⊢; omega)) (by first | rfl | (simp only [Pth.off, T.size]; omega)) ok_here ty5) rfl ?_
    refine r_pure tabOk 3 [4, 11, 12, 14, 15, 56, 57, 64] (E' := [(4, .one (.int .i64) a4), (11, .one (.int .i64) ax2), (12, .one (.int .i64) bx3), (14, .one (.raw (.slice none 0 0)) (.slice (some ⟨b9, 0, none⟩) (List.length r5) c10)), (15, .one (.raw (.slice none 0 0)) (.slice (some ⟨b13, 0, none⟩) (List.length r7) c14)), (56, .one (.raw (.slice none 0 0)) (.slice (some ⟨b13, 0, none⟩) (List.length r7) c14)), (57, .one (.int .i64) r4), (64, .one (.int .u8) (ixor .u8 (List.getD r7 (Int.toNat r4) 0) (ior .u8 a3 1)))]) rfl ?_
    obtain ⟨hc, h⟩ := ite_ex h
    refine y (y_iraw tabOk rfl rfl hc.1 (by first | exact hc.2 | simpa using hc.2) rfl ty5) rfl ?_
    refine r_sown 0 (Int.toNat r4) .here rfl rfl rfl (by first | omega | (simp only [List.length_set] at hc ⊢; omega)) (by first | rfl | (simp only [Pth.off, T.size]; omega)) ok_here ty5 ?_
    refine r_nil ?_
    refine r_then ?_
    refine r_seq ?_
    have hz17 : 0 < List.length (List.set r5 (Int.toNat r4) (ixor .u8 (List.getD r5 (Int.toNat r4) 0) (ior .u8 a3 1))) := by simp only [List.length_set]; omega
    have hz18 : 0 < List.length (List.set r7 (Int.toNat r4) (ixor .u8 (List.getD r7 (Int.toNat r4) 0) (ior .u8 a3 1))) := by simp only [List.length_set]; omega
    obtain ⟨r19, hr19, h⟩ := bind_ex h
    obtain ⟨hq20, h⟩ := ite_ex h
    obtain ⟨r21, hr21, h⟩ := bind_ex h
    obtain ⟨hq22, h⟩ := ite_ex h
    obtain ⟨hq23, h⟩ := ite_ex h
    refine h_start (S := AllIs [OwnIs b9 5 (.int .u8) (List.set r5 (Int.toNat r4) (ixor .u8 (List.getD r5 (Int.toNat r4) 0) (ior .u8 a3 1))), OwnIs b13 5 (.int .u8) (List.set r7 (Int.toNat r4) (ixor .u8 (List.getD r7 (Int.toNat r4) 0) (ior .u8 a3 1)))]) (by kernel_rfl) ?_
    refine h_meet (γ := Nat) (fun (b24 : Nat) => [(4, .one (.int .i64) a4), (11, .one (.int .i64) ax2), (12, .one (.int .i64) bx3), (16, ptr b24 0)]) (fun (b24 : Nat) => [Res.var b24 26 (.arr 3 .str) [((List.set r5 (Int.toNat r4) (ixor .u8 (List.getD r5 (Int.toNat r4) 0) (ior .u8 a3 1))) ++ r19), (r21 ++ (List.set r7 (Int.toNat r4) (ixor .u8 (List.getD r7 (Int.toNat r4) 0) (ior .u8 a3 1)))), ((List.set r5 (Int.toNat r4) (ixor .u8 (List.getD r5 (Int.toNat r4) 0) (ior .u8 a3 1))) ++ (List.set r7 (Int.toNat r4) (ixor .u8 (List.getD r7 (Int.toNat r4) 0) (ior .u8 a3 1))))], Res.own (.slice (some ⟨b13, 0, none⟩) (List.length r7) c14) 5 (.int .u8) (List.set r7 (Int.toNat r4) (ixor .u8 (List.getD r7 (Int.toNat r4) 0) (ior .u8 a3 1))), Res.own (.slice (some ⟨b9, 0, none⟩) (List.length r5) c10) 5 (.int .u8) (List.set r5 (Int.toNat r4) (ixor .u8 (List.getD r5 (Int.toNat r4) 0) (ior .u8 a3 1)))]) (fun b24 => ?_) (fun rest87 => ?_)
    · refine r_then ?_
      obtain ⟨k25, hk25, h⟩ := bnd_ex h
      refine r_joink (γ := Unit) (fun (o26 : Unit) _ => []) (fun (o26 : Unit) _ => [Res.var b24 26 (.arr 3 .str) [((List.set r5 (Int.toNat r4) (ixor .u8 (List.getD r5 (Int.toNat r4) 0) (ior .u8 a3 1))) ++ r19), (r21 ++ (List.set r7 (Int.toNat r4) (ixor .u8 (List.getD r7 (Int.toNat r4) 0) (ior .u8 a3 1)))), ((List.set r5 (Int.toNat r4) (ixor .u8 (List.getD r5 (Int.toNat r4) 0) (ior .u8 a3 1))) ++ (List.set r7 (Int.toNat r4) (ixor .u8 (List.getD r7 (Int.toNat r4) 0) (ior .u8 a3 1))))], Res.own (.slice (some ⟨b13, 0, none⟩) (List.length r7) c14) 5 (.int .u8) (List.set r7 (Int.toNat r4) (ixor .u8 (List.getD r7 (Int.toNat r4) 0) (ior .u8 a3 1))), Res.own (.slice (some ⟨b9, 0, none⟩) (List.length r5) c10) 5 (.int .u8) (List.set r5 (Int.toNat r4) (ixor .u8 (List.getD r5 (Int.toNat r4) 0) (ior .u8 a3 1)))]) k25 r ?_ ?_
      · refine r_seq ?_
        refine r_region ?_
        refine r_pure tabOk 1 [4, 11, 12, 16, 17] (E' := [(4, .one (.int .i64) a4), (11, .one (.int .i64) ax2), (12, .one (.int .i64) bx3), (16, ptr b24 0), (17, .one (.int .i64) 0)]) rfl ?_
        refine r_nil ?_
        refine r_then ?_
        refine r_block ?_
        refine r_less [4, 11, 12, 16, 17] rfl ?_
        refine r_loopg (γ := Unit) (fun (s28 : Int) _ => [(4, .one (.int .i64) a4), (11, .one (.int .i64) ax2), (12, .one (.int .i64) bx3), (16, ptr b24 0), (17, .one (.int .i64) s28)]) (fun (s28 : Int) _ => [Res.var b24 26 (.arr 3 .str) [((List.set r5 (Int.toNat r4) (ixor .u8 (List.getD r5 (Int.toNat r4) 0) (ior .u8 a3 1))) ++ r19), (r21 ++ (List.set r7 (Int.toNat r4) (ixor .u8 (List.getD r7 (Int.toNat r4) 0) (ior .u8 a3 1)))), ((List.set r5 (Int.toNat r4) (ixor .u8 (List.getD r5 (Int.toNat r4) 0) (ior .u8 a3 1))) ++ (List.set r7 (Int.toNat r4) (ixor .u8 (List.getD r7 (Int.toNat r4) 0) (ior .u8 a3 1))))], Res.own (.slice (some ⟨b13, 0, none⟩) (List.length r7) c14) 5 (.int .u8) (List.set r7 (Int.toNat r4) (ixor .u8 (List.getD r7 (Int.toNat r4) 0) (ior .u8 a3 1))), Res.own (.slice (some ⟨b9, 0, none⟩) (List.length r5) c10) 5 (.int .u8) (List.set r5 (Int.toNat r4) (ixor .u8 (List.getD r5 (Int.toNat r4) 0) (ior .u8 a3 1)))]) (escrowlaw19_MarkTorn_l0 a3 a4 ax2 bx3 r4 r5 r7 r19 r21 k25) 0 () h rfl rfl ?_
        clear h
        intro m29 s28 gg h
        cases m29 with
        | zero => cases h
        | succ m29 =>
        simp only [escrowlaw19_MarkTorn_l0] at h
        refine r_seq ?_
        refine r_seq ?_
        refine r_region ?_
        refine r_pure tabOk 2 [4, 11, 12, 16, 17, 83] (E' := [(4, .one (.int .i64) a4), (11, .one (.int .i64) ax2), (12, .one (.int .i64) bx3), (16, ptr b24 0), (17, .one (.int .i64) s28), (83, .one .bool (decide (s28 < 3)))]) rfl ?_
        refine r_nil ?_
        refine r_then ?_
        refine r_if (b := (decide (s28 < 3))) rfl (fun hc => ?_) (fun hc => ?_)
        · rw [if_pos hc] at h
          refine r_skip ?_
          refine r_then ?_
          obtain ⟨k30, hk30, h⟩ := bnd_ex h
          refine r_joink (γ := Unit) (fun (o31 : Unit) _ => [(4, .one (.int .i64) a4), (11, .one (.int .i64) ax2), (12, .one (.int .i64) bx3), (16, ptr b24 0), (17, .one (.int .i64) s28)]) (fun (o31 : Unit) _ => [Res.var b24 26 (.arr 3 .str) [((List.set r5 (Int.toNat r4) (ixor .u8 (List.getD r5 (Int.toNat r4) 0) (ior .u8 a3 1))) ++ r19), (r21 ++ (List.set r7 (Int.toNat r4) (ixor .u8 (List.getD r7 (Int.toNat r4) 0) (ior .u8 a3 1)))), ((List.set r5 (Int.toNat r4) (ixor .u8 (List.getD r5 (Int.toNat r4) 0) (ior .u8 a3 1))) ++ (List.set r7 (Int.toNat r4) (ixor .u8 (List.getD r7 (Int.toNat r4) 0) (ior .u8 a3 1))))], Res.own (.slice (some ⟨b13, 0, none⟩) (List.length r7) c14) 5 (.int .u8) (List.set r7 (Int.toNat r4) (ixor .u8 (List.getD r7 (Int.toNat r4) 0) (ior .u8 a3 1))), Res.own (.slice (some ⟨b9, 0, none⟩) (List.length r5) c10) 5 (.int .u8) (List.set r5 (Int.toNat r4) (ixor .u8 (List.getD r5 (Int.toNat r4) 0) (ior .u8 a3 1)))]) k30 r ?_ ?_
          · refine r_block ?_
            refine r_seq ?_
            refine r_seq ?_
            refine r_region ?_
            refine r_pure tabOk 1 [4, 11, 12, 16, 17, 87] (E' := [(4, .one (.int .i64) a4), (11, .one (.int .i64) ax2), (12, .one (.int .i64) bx3), (16, ptr b24 0), (17, .one (.int .i64) s28), (87, .one (.int .i64) s28)]) rfl ?_
            obtain ⟨hc, h⟩ := ite_ex h
            refine y (y_ivar rfl rfl hc.1 hc.2 un26 ty9) rfl ?_
            refine y (y_load 0 (.elem (Int.toNat s28) .here) rfl rfl (by first | rfl | (simp only [Pth.off, T.size]; omega)) (ok_elem (by first | omega | (simp only [List.length_set] at hc ⊢; omega)) ok_here) ty9) rfl ?_
            refine r_pure tabOk 2 [4, 11, 12, 16, 17, 89, 91] (E' := [(4, .one (.int .i64) a4), (11, .one (.int .i64) ax2), (12, .one (.int .i64) bx3), (16, ptr b24 0), (17, .one (.int .i64) s28), (89, .one .str (List.getD [((List.set r5 (Int.toNat r4) (ixor .u8 (List.getD r5 (Int.toNat r4) 0) (ior .u8 a3 1))) ++ r19), (r21 ++ (List.set r7 (Int.toNat r4) (ixor .u8 (List.getD r7 (Int.toNat r4) 0) (ior .u8 a3 1)))), ((List.set r5 (Int.toNat r4) (ixor .u8 (List.getD r5 (Int.toNat r4) 0) (ior .u8 a3 1))) ++ (List.set r7 (Int.toNat r4) (ixor .u8 (List.getD r7 (Int.toNat r4) 0) (ior .u8 a3 1))))] (Int.toNat s28) [])), (91, .one (.int .i64) (Int.tmod s28 2))]) rfl ?_
            obtain ⟨r33, hr33, h⟩ := bind_ex h
            refine r_calls (escrowlaw19_whole_ok (List.getD [((List.set r5 (Int.toNat r4) (ixor .u8 (List.getD r5 (Int.toNat r4) 0) (ior .u8 a3 1))) ++ r19), (r21 ++ (List.set r7 (Int.toNat r4) (ixor .u8 (List.getD r7 (Int.toNat r4) 0) (ior .u8 a3 1)))), ((List.set r5 (Int.toNat r4) (ixor .u8 (List.getD r5 (Int.toNat r4) 0) (ior .u8 a3 1))) ++ (List.set r7 (Int.toNat r4) (ixor .u8 (List.getD r7 (Int.toNat r4) 0) (ior .u8 a3 1))))] (Int.toNat s28) []) (Int.tmod s28 2) _ hr33) (by kernel_rfl) rfl rfl ?_
            refine r_pure tabOk 5 [4, 11, 12, 16, 17, 19] (E' := [(4, .one (.int .i64) a4), (11, .one (.int .i64) ax2), (12, .one (.int .i64) bx3), (16, ptr b24 0), (17, .one (.int .i64) s28), (19, .one .bool r33.2)]) rfl ?_
            refine r_nil ?_
            refine r_then ?_
            refine r_seq ?_
            refine r_region ?_
            refine r_pure tabOk 2 [4, 11, 12, 16, 17, 96] (E' := [(4, .one (.int .i64) a4), (11, .one (.int .i64) ax2), (12, .one (.int .i64) bx3), (16, ptr b24 0), (17, .one (.int .i64) s28), (96, .one .bool r33.2)]) rfl ?_
            obtain ⟨k35, hk35, h⟩ := bnd_ex h
            refine r_lsplitk (γ := Unit) 9 (fun (o36 : Bool) _ => [(4, .one (.int .i64) a4), (11, .one (.int .i64) ax2), (12, .one (.int .i64) bx3), (16, ptr b24 0), (17, .one (.int .i64) s28), (105, .one .bool o36)]) (fun _ _ => [Res.var b24 26 (.arr 3 .str) [((List.set r5 (Int.toNat r4) (ixor .u8 (List.getD r5 (Int.toNat r4) 0) (ior .u8 a3 1))) ++ r19), (r21 ++ (List.set r7 (Int.toNat r4) (ixor .u8 (List.getD r7 (Int.toNat r4) 0) (ior .u8 a3 1)))), ((List.set r5 (Int.toNat r4) (ixor .u8 (List.getD r5 (Int.toNat r4) 0) (ior .u8 a3 1))) ++ (List.set r7 (Int.toNat r4) (ixor .u8 (List.getD r7 (Int.toNat r4) 0) (ior .u8 a3 1))))], Res.own (.slice (some ⟨b13, 0, none⟩) (List.length r7) c14) 5 (.int .u8) (List.set r7 (Int.toNat r4) (ixor .u8 (List.getD r7 (Int.toNat r4) 0) (ior .u8 a3 1))), Res.own (.slice (some ⟨b9, 0, none⟩) (List.length r5) c10) 5 (.int .u8) (List.set r5 (Int.toNat r4) (ixor .u8 (List.getD r5 (Int.toNat r4) 0) (ior .u8 a3 1)))]) k35 r ?_ ?_
            · rcases Bool.eq_false_or_eq_true r33.2 with hh | hh
              · rw [hh] at h ⊢
                rw [if_pos rfl] at h
                refine r_pure tabOk 9 [4, 11, 12, 16, 17, 105] (E' := [(4, .one (.int .i64) a4), (11, .one (.int .i64) ax2), (12, .one (.int .i64) bx3), (16, ptr b24 0), (17, .one (.int .i64) s28), (105, .one .bool true)]) rfl ?_
                refine r_nil ?_
                refine r_less [4, 11, 12, 16, 17, 105] rfl ?_
                refine r_then ?_
                exact r_meetk true () h rfl rfl
              · rw [hh] at h ⊢
                rw [if_neg (by decide)] at h
                refine r_pure tabOk 3 [4, 11, 12, 16, 17, 96, 99] (E' := [(4, .one (.int .i64) a4), (11, .one (.int .i64) ax2), (12, .one (.int .i64) bx3), (16, ptr b24 0), (17, .one (.int .i64) s28), (96, .one .bool false), (99, .one .bool (s28 == 2))]) rfl ?_
                obtain ⟨b37, hbb37, h⟩ := bnd_ex h
                rw [hbb37]
                obtain ⟨k38, hk38, h⟩ := bnd_ex h
                refine r_lsplitk (γ := Unit) 5 (fun (o39 : Bool) _ => [(4, .one (.int .i64) a4), (11, .one (.int .i64) ax2), (12, .one (.int .i64) bx3), (16, ptr b24 0), (17, .one (.int .i64) s28), (96, .one .bool false), (104, .one .bool o39)]) (fun _ _ => [Res.var b24 26 (.arr 3 .str) [((List.set r5 (Int.toNat r4) (ixor .u8 (List.getD r5 (Int.toNat r4) 0) (ior .u8 a3 1))) ++ r19), (r21 ++ (List.set r7 (Int.toNat r4) (ixor .u8 (List.getD r7 (Int.toNat r4) 0) (ior .u8 a3 1)))), ((List.set r5 (Int.toNat r4) (ixor .u8 (List.getD r5 (Int.toNat r4) 0) (ior .u8 a3 1))) ++ (List.set r7 (Int.toNat r4) (ixor .u8 (List.getD r7 (Int.toNat r4) 0) (ior .u8 a3 1))))], Res.own (.slice (some ⟨b13, 0, none⟩) (List.length r7) c14) 5 (.int .u8) (List.set r7 (Int.toNat r4) (ixor .u8 (List.getD r7 (Int.toNat r4) 0) (ior .u8 a3 1))), Res.own (.slice (some ⟨b9, 0, none⟩) (List.length r5) c10) 5 (.int .u8) (List.set r5 (Int.toNat r4) (ixor .u8 (List.getD r5 (Int.toNat r4) 0) (ior .u8 a3 1)))]) k38 r ?_ ?_
                · rcases Bool.eq_false_or_eq_true b37 with hh | hh
                  · rw [hh] at h ⊢
                    rw [if_pos rfl] at h
                    refine r_pure tabOk 1 [4, 11, 12, 16, 17, 96, 99, 100] (E' := [(4, .one (.int .i64) a4), (11, .one (.int .i64) ax2), (12, .one (.int .i64) bx3), (16, ptr b24 0), (17, .one (.int .i64) s28), (96, .one .bool false), (99, .one .bool true), (100, .one (.int .i64) s28)]) rfl ?_
                    refine r_guard (by rfl) rfl ?_
                    obtain ⟨hc, h⟩ := ite_ex h
                    refine y (y_ivar rfl rfl hc.1 hc.2 un26 ty9) rfl ?_
                    refine r_guard (by rfl) rfl ?_
                    refine y (y_load 0 (.elem (Int.toNat s28) .here) rfl rfl (by first | rfl | (simp only [Pth.off, T.size]; omega)) (ok_elem (by first | omega | (simp only [List.length_set] at hc ⊢; omega)) ok_here) ty9) rfl ?_
                    refine r_guard (by rfl) rfl ?_
                    obtain ⟨r40, hr40, h⟩ := bind_ex h
                    refine r_calls (escrowlaw19_torn_ok (List.getD [((List.set r5 (Int.toNat r4) (ixor .u8 (List.getD r5 (Int.toNat r4) 0) (ior .u8 a3 1))) ++ r19), (r21 ++ (List.set r7 (Int.toNat r4) (ixor .u8 (List.getD r7 (Int.toNat r4) 0) (ior .u8 a3 1)))), ((List.set r5 (Int.toNat r4) (ixor .u8 (List.getD r5 (Int.toNat r4) 0) (ior .u8 a3 1))) ++ (List.set r7 (Int.toNat r4) (ixor .u8 (List.getD r7 (Int.toNat r4) 0) (ior .u8 a3 1))))] (Int.toNat s28) []) _ hr40) (by kernel_rfl) rfl rfl ?_
                    refine r_pure tabOk 1 [4, 11, 12, 16, 17, 96, 104] (E' := [(4, .one (.int .i64) a4), (11, .one (.int .i64) ax2), (12, .one (.int .i64) bx3), (16, ptr b24 0), (17, .one (.int .i64) s28), (96, .one .bool false), (104, .one .bool r40)]) rfl ?_
                    refine r_nil ?_
                    refine r_less [4, 11, 12, 16, 17, 96, 104] rfl ?_
                    refine r_then ?_
                    exact r_meetk r40 () h rfl rfl
                  · rw [hh] at h ⊢
                    rw [if_neg (by decide)] at h
                    refine r_pure tabOk 5 [4, 11, 12, 16, 17, 96, 104] (E' := [(4, .one (.int .i64) a4), (11, .one (.int .i64) ax2), (12, .one (.int .i64) bx3), (16, ptr b24 0), (17, .one (.int .i64) s28), (96, .one .bool false), (104, .one .bool false)]) rfl ?_
                    refine r_nil ?_
                    refine r_less [4, 11, 12, 16, 17, 96, 104] rfl ?_
                    refine r_then ?_
                    exact r_meetk false () h rfl rfl
                · intro o39 _ h
                  rw [← hk38] at h
                  try dsimp only at h
                  refine r_pure tabOk 1 [4, 11, 12, 16, 17, 105] (E' := [(4, .one (.int .i64) a4), (11, .one (.int .i64) ax2), (12, .one (.int .i64) bx3), (16, ptr b24 0), (17, .one (.int .i64) s28), (105, .one .bool o39)]) rfl ?_
                  refine r_nil ?_
                  refine r_less [4, 11, 12, 16, 17, 105] rfl ?_
                  refine r_then ?_
                  exact r_meetk o39 () h rfl rfl
            · intro o36 _ h
              rw [← hk35] at h
              try dsimp only at h
              refine r_nil ?_
              refine r_then ?_
              refine r_if (b := o36) rfl (fun hc => ?_) (fun hc => ?_)
              · rw [if_pos hc] at h
                refine r_seq ?_
                refine r_region ?_
                refine r_pure tabOk 1 [10] (E' := [(10, .one .bool true)]) rfl ?_
                refine r_nil ?_
                refine r_then ?_
                refine r_ret ?_
                refine t_then ?_
                refine t_block ?_
                refine t_then ?_
                refine t_then ?_
                refine t_block ?_
                refine t_then ?_
                obtain rfl := Option.some.inj h
                exact r_ret1 rfl (.tmp rfl) (fun _ _ g => g) (fun _ _ _ => List.nil_sublist _)
              · rw [if_neg (ne_true_of_eq_false hc)] at h
                refine r_skip ?_
                refine r_then ?_
                refine r_seq ?_
                refine r_region ?_
                obtain ⟨r41, hr41, h⟩ := bind_ex h
                refine r_call (Lo := [Res.var b24 26 (.arr 3 .str) [((List.set r5 (Int.toNat r4) (ixor .u8 (List.getD r5 (Int.toNat r4) 0) (ior .u8 a3 1))) ++ r19), (r21 ++ (List.set r7 (Int.toNat r4) (ixor .u8 (List.getD r7 (Int.toNat r4) 0) (ior .u8 a3 1)))), ((List.set r5 (Int.toNat r4) (ixor .u8 (List.getD r5 (Int.toNat r4) 0) (ior .u8 a3 1))) ++ (List.set r7 (Int.toNat r4) (ixor .u8 (List.getD r7 (Int.toNat r4) 0) (ior .u8 a3 1))))], Res.own (.slice (some ⟨b13, 0, none⟩) (List.length r7) c14) 5 (.int .u8) (List.set r7 (Int.toNat r4) (ixor .u8 (List.getD r7 (Int.toNat r4) 0) (ior .u8 a3 1))), Res.own (.slice (some ⟨b9, 0, none⟩) (List.length r5) c10) 5 (.int .u8) (List.set r5 (Int.toNat r4) (ixor .u8 (List.getD r5 (Int.toNat r4) 0) (ior .u8 a3 1)))]) (disk_New_ok 200 _ hr41) (by kernel_rfl) (List.Perm.refl _) rfl rfl fun v42 => ?_
                refine r_pure tabOk 5 [4, 11, 12, 16, 17, 20, 21] (E' := [(4, .one (.int .i64) a4), (11, .one (.int .i64) ax2), (12, .one (.int .i64) bx3), (16, ptr b24 0), (17, .one (.int .i64) s28), (20, .one (.raw (.pointer none)) (tupv v42 0)), (21, .one (.int .i64) r41.1)]) rfl ?_
                refine r_nil ?_
                refine r_then ?_
                refine r_seq ?_
                refine r_seq ?_
                refine r_region ?_
                refine r_pure tabOk 1 [4, 11, 12, 16, 17, 20, 21, 110] (E' := [(4, .one (.int .i64) a4), (11, .one (.int .i64) ax2), (12, .one (.int .i64) bx3), (16, ptr b24 0), (17, .one (.int .i64) s28), (20, .one (.raw (.pointer none)) (tupv v42 0)), (21, .one (.int .i64) r41.1), (110, .one (.raw (.pointer none)) (tupv v42 0))]) rfl ?_
                refine y (y_dnil 0 rfl rfl Tryz.underlying30) rfl ?_
                refine r_pure tabOk 1 [4, 11, 12, 16, 17, 20, 21, 112] (E' := [(4, .one (.int .i64) a4), (11, .one (.int .i64) ax2), (12, .one (.int .i64) bx3), (16, ptr b24 0), (17, .one (.int .i64) s28), (20, .one (.raw (.pointer none)) (tupv v42 0)), (21, .one (.int .i64) r41.1), (112, .one .bool (r41.1 != 0))]) rfl ?_
                obtain ⟨b43, hbb43, h⟩ := bnd_ex h
                rw [hbb43]
                refine r_lsplit (γ := Unit) 3 (fun _ => [(4, .one (.int .i64) a4), (11, .one (.int .i64) ax2), (12, .one (.int .i64) bx3), (16, ptr b24 0), (17, .one (.int .i64) s28), (20, .one (.raw (.pointer none)) (tupv v42 0)), (115, .one .bool (b43 || (r41.1 != 0)))]) (fun _ => [Res.diskif Tryz.prog dI (tupv v42 0) r41.2 r41.1, Res.var b24 26 (.arr 3 .str) [((List.set r5 (Int.toNat r4) (ixor .u8 (List.getD r5 (Int.toNat r4) 0) (ior .u8 a3 1))) ++ r19), (r21 ++ (List.set r7 (Int.toNat r4) (ixor .u8 (List.getD r7 (Int.toNat r4) 0) (ior .u8 a3 1)))), ((List.set r5 (Int.toNat r4) (ixor .u8 (List.getD r5 (Int.toNat r4) 0) (ior .u8 a3 1))) ++ (List.set r7 (Int.toNat r4) (ixor .u8 (List.getD r7 (Int.toNat r4) 0) (ior .u8 a3 1))))], Res.own (.slice (some ⟨b13, 0, none⟩) (List.length r7) c14) 5 (.int .u8) (List.set r7 (Int.toNat r4) (ixor .u8 (List.getD r7 (Int.toNat r4) 0) (ior .u8 a3 1))), Res.own (.slice (some ⟨b9, 0, none⟩) (List.length r5) c10) 5 (.int .u8) (List.set r5 (Int.toNat r4) (ixor .u8 (List.getD r5 (Int.toNat r4) 0) (ior .u8 a3 1)))]) ?_ (fun _ => ?_)
                · clear h
                  cases b43 with
                  | true =>
                  refine r_pure tabOk 3 [4, 11, 12, 16, 17, 20, 115] (E' := [(4, .one (.int .i64) a4), (11, .one (.int .i64) ax2), (12, .one (.int .i64) bx3), (16, ptr b24 0), (17, .one (.int .i64) s28), (20, .one (.raw (.pointer none)) (tupv v42 0)), (115, .one .bool true)]) rfl ?_
                  refine r_nil ?_
                  refine r_then ?_
                  exact r_meetg () rfl rfl
                  | false =>
                  refine r_pure tabOk 3 [4, 11, 12, 16, 17, 20, 115] (E' := [(4, .one (.int .i64) a4), (11, .one (.int .i64) ax2), (12, .one (.int .i64) bx3), (16, ptr b24 0), (17, .one (.int .i64) s28), (20, .one (.raw (.pointer none)) (tupv v42 0)), (115, .one .bool (r41.1 != 0))]) rfl ?_
                  refine r_nil ?_
                  refine r_then ?_
                  exact r_meetg () rfl rfl
                refine r_pure tabOk 1 [4, 11, 12, 16, 17, 20, 116] (E' := [(4, .one (.int .i64) a4), (11, .one (.int .i64) ax2), (12, .one (.int .i64) bx3), (16, ptr b24 0), (17, .one (.int .i64) s28), (20, .one (.raw (.pointer none)) (tupv v42 0)), (116, .one .bool (b43 || (r41.1 != 0)))]) rfl ?_
                obtain ⟨b44, hbb44, h⟩ := bnd_ex h
                rw [hbb44]
                obtain ⟨k45, hk45, h⟩ := bnd_ex h
                refine r_lsplitk (γ := Unit) 7 (fun (o46 : Bool × DiskS) _ => [(4, .one (.int .i64) a4), (11, .one (.int .i64) ax2), (12, .one (.int .i64) bx3), (16, ptr b24 0), (17, .one (.int .i64) s28), (20, .one (.raw (.pointer none)) (tupv v42 0)), (123, .one .bool o46.1)]) (fun (o46 : Bool × DiskS) _ => [Res.diskif Tryz.prog dI (tupv v42 0) o46.2 r41.1, Res.var b24 26 (.arr 3 .str) [((List.set r5 (Int.toNat r4) (ixor .u8 (List.getD r5 (Int.toNat r4) 0) (ior .u8 a3 1))) ++ r19), (r21 ++ (List.set r7 (Int.toNat r4) (ixor .u8 (List.getD r7 (Int.toNat r4) 0) (ior .u8 a3 1)))), ((List.set r5 (Int.toNat r4) (ixor .u8 (List.getD r5 (Int.toNat r4) 0) (ior .u8 a3 1))) ++ (List.set r7 (Int.toNat r4) (ixor .u8 (List.getD r7 (Int.toNat r4) 0) (ior .u8 a3 1))))], Res.own (.slice (some ⟨b13, 0, none⟩) (List.length r7) c14) 5 (.int .u8) (List.set r7 (Int.toNat r4) (ixor .u8 (List.getD r7 (Int.toNat r4) 0) (ior .u8 a3 1))), Res.own (.slice (some ⟨b9, 0, none⟩) (List.length r5) c10) 5 (.int .u8) (List.set r5 (Int.toNat r4) (ixor .u8 (List.getD r5 (Int.toNat r4) 0) (ior .u8 a3 1)))]) k45 r ?_ ?_
                · rcases Bool.eq_false_or_eq_true b44 with hh | hh
                  · rw [hh] at h ⊢
                    rw [if_pos rfl] at h
                    refine r_pure tabOk 7 [4, 11, 12, 16, 17, 20, 123] (E' := [(4, .one (.int .i64) a4), (11, .one (.int .i64) ax2), (12, .one (.int .i64) bx3), (16, ptr b24 0), (17, .one (.int .i64) s28), (20, .one (.raw (.pointer none)) (tupv v42 0)), (123, .one .bool true)]) rfl ?_
                    refine r_nil ?_
                    refine r_less [4, 11, 12, 16, 17, 20, 123] rfl ?_
                    refine r_then ?_
                    exact r_meetk (true, r41.2) () h rfl rfl
                  · rw [hh] at h ⊢
                    rw [if_neg (by decide)] at h
                    refine r_pure tabOk 2 [4, 11, 12, 16, 17, 20, 116, 117, 118] (E' := [(4, .one (.int .i64) a4), (11, .one (.int .i64) ax2), (12, .one (.int .i64) bx3), (16, ptr b24 0), (17, .one (.int .i64) s28), (20, .one (.raw (.pointer none)) (tupv v42 0)), (116, .one .bool false), (117, .one (.raw (.pointer none)) (tupv v42 0)), (118, .one (.int .i64) s28)]) rfl ?_
                    refine r_guard (by rfl) rfl ?_
                    obtain ⟨hc, h⟩ := ite_ex h
                    refine y (y_ivar rfl rfl hc.1 hc.2 un26 ty9) rfl ?_
                    refine r_guard (by rfl) rfl ?_
                    refine y (y_load 1 (.elem (Int.toNat s28) .here) rfl rfl (by first | rfl | (simp only [Pth.off, T.size]; omega)) (ok_elem (by first | omega | (simp only [List.length_set] at hc ⊢; omega)) ok_here) ty9) rfl ?_
                    refine r_guard (by rfl) rfl ?_
                    obtain ⟨he47, h⟩ := ite_ex h
                    refine r_imp_at (R' := Res.disk Tryz.prog dI (tupv v42 0) r41.2) 0 rfl (diskif_disk he47) ?_
                    obtain ⟨r48, hr48, h⟩ := bind_ex h
                    refine r_call (Lo := [Res.var b24 26 (.arr 3 .str) [((List.set r5 (Int.toNat r4) (ixor .u8 (List.getD r5 (Int.toNat r4) 0) (ior .u8 a3 1))) ++ r19), (r21 ++ (List.set r7 (Int.toNat r4) (ixor .u8 (List.getD r7 (Int.toNat r4) 0) (ior .u8 a3 1)))), ((List.set r5 (Int.toNat r4) (ixor .u8 (List.getD r5 (Int.toNat r4) 0) (ior .u8 a3 1))) ++ (List.set r7 (Int.toNat r4) (ixor .u8 (List.getD r7 (Int.toNat r4) 0) (ior .u8 a3 1))))], Res.own (.slice (some ⟨b13, 0, none⟩) (List.length r7) c14) 5 (.int .u8) (List.set r7 (Int.toNat r4) (ixor .u8 (List.getD r7 (Int.toNat r4) 0) (ior .u8 a3 1))), Res.own (.slice (some ⟨b9, 0, none⟩) (List.length r5) c10) 5 (.int .u8) (List.set r5 (Int.toNat r4) (ixor .u8 (List.getD r5 (Int.toNat r4) 0) (ior .u8 a3 1)))]) (disk_Disk_Write_ok (tupv v42 0) r41.2 [109] 0 (List.getD [((List.set r5 (Int.toNat r4) (ixor .u8 (List.getD r5 (Int.toNat r4) 0) (ior .u8 a3 1))) ++ r19), (r21 ++ (List.set r7 (Int.toNat r4) (ixor .u8 (List.getD r7 (Int.toNat r4) 0) (ior .u8 a3 1)))), ((List.set r5 (Int.toNat r4) (ixor .u8 (List.getD r5 (Int.toNat r4) 0) (ior .u8 a3 1))) ++ (List.set r7 (Int.toNat r4) (ixor .u8 (List.getD r7 (Int.toNat r4) 0) (ior .u8 a3 1))))] (Int.toNat s28) []) _ hr48) (by kernel_rfl) (List.Perm.refl _) rfl rfl fun _ => ?_
                    refine r_pure tabOk 2 [4, 11, 12, 16, 17, 20, 123] (E' := [(4, .one (.int .i64) a4), (11, .one (.int .i64) ax2), (12, .one (.int .i64) bx3), (16, ptr b24 0), (17, .one (.int .i64) s28), (20, .one (.raw (.pointer none)) (tupv v42 0)), (123, .one .bool (r48.1 != 0))]) rfl ?_
                    refine r_nil ?_
                    refine r_less [4, 11, 12, 16, 17, 20, 123] rfl ?_
                    refine r_imp_at (R' := Res.diskif Tryz.prog dI (tupv v42 0) r48.2 r41.1) 0 rfl (diskif_of he47) ?_
                    refine r_then ?_
                    exact r_meetk ((r48.1 != 0), r48.2) () h rfl rfl
                · intro o46 _ h
                  rw [← hk45] at h
                  try dsimp only at h
                  refine r_nil ?_
                  refine r_then ?_
                  refine r_if (b := o46.1) rfl (fun hc => ?_) (fun hc => ?_)
                  · rw [if_pos hc] at h
                    refine r_seq ?_
                    refine r_region ?_
                    refine r_pure tabOk 1 [10] (E' := [(10, .one .bool false)]) rfl ?_
                    refine r_nil ?_
                    refine r_then ?_
                    refine r_ret ?_
                    refine t_then ?_
                    refine t_block ?_
                    refine t_then ?_
                    refine t_then ?_
                    refine t_block ?_
                    refine t_then ?_
                    obtain rfl := Option.some.inj h
                    exact r_ret1 rfl (.tmp rfl) (fun _ _ g => g) (fun _ _ _ => List.nil_sublist _)
                  · rw [if_neg (ne_true_of_eq_false hc)] at h
                    refine r_skip ?_
                    refine r_then ?_
                    refine r_seq ?_
                    refine r_region ?_
                    refine r_pure tabOk 1 [4, 11, 12, 16, 17, 20, 125] (E' := [(4, .one (.int .i64) a4), (11, .one (.int .i64) ax2), (12, .one (.int .i64) bx3), (16, ptr b24 0), (17, .one (.int .i64) s28), (20, .one (.raw (.pointer none)) (tupv v42 0)), (125, .one (.raw (.pointer none)) (tupv v42 0))]) rfl ?_
                    obtain ⟨he49, h⟩ := ite_ex h
                    refine r_imp_at (R' := Res.disk Tryz.prog dI (tupv v42 0) o46.2) 0 rfl (diskif_disk he49) ?_
                    obtain ⟨r50, hr50, h⟩ := bind_ex h
                    refine r_call (Lo := [Res.var b24 26 (.arr 3 .str) [((List.set r5 (Int.toNat r4) (ixor .u8 (List.getD r5 (Int.toNat r4) 0) (ior .u8 a3 1))) ++ r19), (r21 ++ (List.set r7 (Int.toNat r4) (ixor .u8 (List.getD r7 (Int.toNat r4) 0) (ior .u8 a3 1)))), ((List.set r5 (Int.toNat r4) (ixor .u8 (List.getD r5 (Int.toNat r4) 0) (ior .u8 a3 1))) ++ (List.set r7 (Int.toNat r4) (ixor .u8 (List.getD r7 (Int.toNat r4) 0) (ior .u8 a3 1))))], Res.own (.slice (some ⟨b13, 0, none⟩) (List.length r7) c14) 5 (.int .u8) (List.set r7 (Int.toNat r4) (ixor .u8 (List.getD r7 (Int.toNat r4) 0) (ior .u8 a3 1))), Res.own (.slice (some ⟨b9, 0, none⟩) (List.length r5) c10) 5 (.int .u8) (List.set r5 (Int.toNat r4) (ixor .u8 (List.getD r5 (Int.toNat r4) 0) (ior .u8 a3 1)))]) (mark_Open_ok (tupv v42 0) o46.2 [109] _ hr50) (by kernel_rfl) (List.Perm.refl _) rfl rfl fun v51 => ?_
                    refine r_pure tabOk 5 [4, 11, 12, 16, 17, 20, 21, 22] (E' := [(4, .one (.int .i64) a4), (11, .one (.int .i64) ax2), (12, .one (.int .i64) bx3), (16, ptr b24 0), (17, .one (.int .i64) s28), (20, .one (.raw (.pointer none)) (tupv v42 0)), (21, .one (.int .i64) r50.2.1), (22, .one (.raw (.pointer none)) (tupv v51 0))]) rfl ?_
                    refine r_nil ?_
                    refine r_then ?_
                    refine r_seq ?_
                    refine r_seq ?_
                    refine r_region ?_
                    refine r_pure tabOk 2 [4, 11, 12, 16, 17, 20, 21, 22, 130] (E' := [(4, .one (.int .i64) a4), (11, .one (.int .i64) ax2), (12, .one (.int .i64) bx3), (16, ptr b24 0), (17, .one (.int .i64) s28), (20, .one (.raw (.pointer none)) (tupv v42 0)), (21, .one (.int .i64) r50.2.1), (22, .one (.raw (.pointer none)) (tupv v51 0)), (130, .one .bool (s28 == 2))]) rfl ?_
                    refine r_nil ?_
                    refine r_then ?_
                    refine r_if (b := (s28 == 2)) rfl (fun hc => ?_) (fun hc => ?_)
                    · rw [if_pos hc] at h
                      refine r_seq ?_
                      refine r_region ?_
                      refine r_pure tabOk 1 [4, 16, 21, 22, 132] (E' := [(4, .one (.int .i64) a4), (16, ptr b24 0), (21, .one (.int .i64) r50.2.1), (22, .one (.raw (.pointer none)) (tupv v51 0)), (132, .one (.raw (.pointer none)) (tupv v42 0))]) rfl ?_
                      obtain ⟨r52, hr52, h⟩ := bind_ex h
                      refine r_call (Lo := [Res.clsif (CMark (tupv v42 0)) (tupv v51 0) r50.1.2 r50.1.1, Res.var b24 26 (.arr 3 .str) [((List.set r5 (Int.toNat r4) (ixor .u8 (List.getD r5 (Int.toNat r4) 0) (ior .u8 a3 1))) ++ r19), (r21 ++ (List.set r7 (Int.toNat r4) (ixor .u8 (List.getD r7 (Int.toNat r4) 0) (ior .u8 a3 1)))), ((List.set r5 (Int.toNat r4) (ixor .u8 (List.getD r5 (Int.toNat r4) 0) (ior .u8 a3 1))) ++ (List.set r7 (Int.toNat r4) (ixor .u8 (List.getD r7 (Int.toNat r4) 0) (ior .u8 a3 1))))], Res.own (.slice (some ⟨b13, 0, none⟩) (List.length r7) c14) 5 (.int .u8) (List.set r7 (Int.toNat r4) (ixor .u8 (List.getD r7 (Int.toNat r4) 0) (ior .u8 a3 1))), Res.own (.slice (some ⟨b9, 0, none⟩) (List.length r5) c10) 5 (.int .u8) (List.set r5 (Int.toNat r4) (ixor .u8 (List.getD r5 (Int.toNat r4) 0) (ior .u8 a3 1)))]) (disk_Disk_Read_ok (tupv v42 0) r50.2.2 [109] 0 200 _ hr52) (by kernel_rfl) (List.Perm.refl _) rfl rfl fun _ => ?_
                      refine r_pure tabOk 5 [4, 16, 21, 22, 23, 24] (E' := [(4, .one (.int .i64) a4), (16, ptr b24 0), (21, .one (.int .i64) r50.2.1), (22, .one (.raw (.pointer none)) (tupv v51 0)), (23, .one .str r52.1), (24, .one (.int .i64) r52.2)]) rfl ?_
                      refine r_nil ?_
                      refine r_then ?_
                      refine r_seq ?_
                      refine r_region ?_
                      refine r_pure tabOk 1 [4, 16, 21, 23, 24, 136] (E' := [(4, .one (.int .i64) a4), (16, ptr b24 0), (21, .one (.int .i64) r50.2.1), (23, .one .str r52.1), (24, .one (.int .i64) r52.2), (136, .one (.raw (.pointer none)) (tupv v51 0))]) rfl ?_
                      refine y (y_cnil 1 rfl rfl Tryz.underlying35) rfl ?_
                      refine r_pure tabOk 1 [4, 16, 21, 23, 24, 138] (E' := [(4, .one (.int .i64) a4), (16, ptr b24 0), (21, .one (.int .i64) r50.2.1), (23, .one .str r52.1), (24, .one (.int .i64) r52.2), (138, .one .bool (r50.1.1 != 0))]) rfl ?_
                      obtain ⟨b53, hbb53, h⟩ := bnd_ex h
                      rw [hbb53]
                      refine r_lsplit (γ := Unit) 3 (fun _ => [(4, .one (.int .i64) a4), (16, ptr b24 0), (23, .one .str r52.1), (24, .one (.int .i64) r52.2), (141, .one .bool (b53 && (r50.2.1 == 190)))]) (fun _ => [Res.disk Tryz.prog dI (tupv v42 0) r50.2.2, Res.clsif (CMark (tupv v42 0)) (tupv v51 0) r50.1.2 r50.1.1, Res.var b24 26 (.arr 3 .str) [((List.set r5 (Int.toNat r4) (ixor .u8 (List.getD r5 (Int.toNat r4) 0) (ior .u8 a3 1))) ++ r19), (r21 ++ (List.set r7 (Int.toNat r4) (ixor .u8 (List.getD r7 (Int.toNat r4) 0) (ior .u8 a3 1)))), ((List.set r5 (Int.toNat r4) (ixor .u8 (List.getD r5 (Int.toNat r4) 0) (ior .u8 a3 1))) ++ (List.set r7 (Int.toNat r4) (ixor .u8 (List.getD r7 (Int.toNat r4) 0) (ior .u8 a3 1))))], Res.own (.slice (some ⟨b13, 0, none⟩) (List.length r7) c14) 5 (.int .u8) (List.set r7 (Int.toNat r4) (ixor .u8 (List.getD r7 (Int.toNat r4) 0) (ior .u8 a3 1))), Res.own (.slice (some ⟨b9, 0, none⟩) (List.length r5) c10) 5 (.int .u8) (List.set r5 (Int.toNat r4) (ixor .u8 (List.getD r5 (Int.toNat r4) 0) (ior .u8 a3 1)))]) ?_ (fun _ => ?_)
                      · clear h
                        cases b53 with
                        | true =>
                        refine r_pure tabOk 3 [4, 16, 23, 24, 141] (E' := [(4, .one (.int .i64) a4), (16, ptr b24 0), (23, .one .str r52.1), (24, .one (.int .i64) r52.2), (141, .one .bool (r50.2.1 == 190))]) rfl ?_
                        refine r_nil ?_
                        refine r_then ?_
                        exact r_meetg () rfl rfl
                        | false =>
                        refine r_pure tabOk 3 [4, 16, 23, 24, 141] (E' := [(4, .one (.int .i64) a4), (16, ptr b24 0), (23, .one .str r52.1), (24, .one (.int .i64) r52.2), (141, .one .bool false)]) rfl ?_
                        refine r_nil ?_
                        refine r_then ?_
                        exact r_meetg () rfl rfl
                      refine r_pure tabOk 1 [4, 16, 23, 24, 142] (E' := [(4, .one (.int .i64) a4), (16, ptr b24 0), (23, .one .str r52.1), (24, .one (.int .i64) r52.2), (142, .one .bool (b53 && (r50.2.1 == 190)))]) rfl ?_
                      obtain ⟨b54, hbb54, h⟩ := bnd_ex h
                      rw [hbb54]
                      refine r_lsplit (γ := Unit) 3 (fun _ => [(4, .one (.int .i64) a4), (16, ptr b24 0), (23, .one .str r52.1), (145, .one .bool (b54 && (r52.2 == 0)))]) (fun _ => [Res.disk Tryz.prog dI (tupv v42 0) r50.2.2, Res.clsif (CMark (tupv v42 0)) (tupv v51 0) r50.1.2 r50.1.1, Res.var b24 26 (.arr 3 .str) [((List.set r5 (Int.toNat r4) (ixor .u8 (List.getD r5 (Int.toNat r4) 0) (ior .u8 a3 1))) ++ r19), (r21 ++ (List.set r7 (Int.toNat r4) (ixor .u8 (List.getD r7 (Int.toNat r4) 0) (ior .u8 a3 1)))), ((List.set r5 (Int.toNat r4) (ixor .u8 (List.getD r5 (Int.toNat r4) 0) (ior .u8 a3 1))) ++ (List.set r7 (Int.toNat r4) (ixor .u8 (List.getD r7 (Int.toNat r4) 0) (ior .u8 a3 1))))], Res.own (.slice (some ⟨b13, 0, none⟩) (List.length r7) c14) 5 (.int .u8) (List.set r7 (Int.toNat r4) (ixor .u8 (List.getD r7 (Int.toNat r4) 0) (ior .u8 a3 1))), Res.own (.slice (some ⟨b9, 0, none⟩) (List.length r5) c10) 5 (.int .u8) (List.set r5 (Int.toNat r4) (ixor .u8 (List.getD r5 (Int.toNat r4) 0) (ior .u8 a3 1)))]) ?_ (fun _ => ?_)
                      · clear h
                        cases b54 with
                        | true =>
                        refine r_pure tabOk 3 [4, 16, 23, 145] (E' := [(4, .one (.int .i64) a4), (16, ptr b24 0), (23, .one .str r52.1), (145, .one .bool (r52.2 == 0))]) rfl ?_
                        refine r_nil ?_
                        refine r_then ?_
                        exact r_meetg () rfl rfl
                        | false =>
                        refine r_pure tabOk 3 [4, 16, 23, 145] (E' := [(4, .one (.int .i64) a4), (16, ptr b24 0), (23, .one .str r52.1), (145, .one .bool false)]) rfl ?_
                        refine r_nil ?_
                        refine r_then ?_
                        exact r_meetg () rfl rfl
                      refine r_pure tabOk 1 [4, 16, 23, 146] (E' := [(4, .one (.int .i64) a4), (16, ptr b24 0), (23, .one .str r52.1), (146, .one .bool (b54 && (r52.2 == 0)))]) rfl ?_
                      obtain ⟨b55, hbb55, h⟩ := bnd_ex h
                      rw [hbb55]
                      obtain ⟨k56, hk56, h⟩ := bnd_ex h
                      refine r_lsplitk (γ := Unit) 5 (fun (o57 : Bool) _ => [(4, .one (.int .i64) a4), (16, ptr b24 0), (151, .one .bool o57)]) (fun _ _ => [Res.disk Tryz.prog dI (tupv v42 0) r50.2.2, Res.clsif (CMark (tupv v42 0)) (tupv v51 0) r50.1.2 r50.1.1, Res.var b24 26 (.arr 3 .str) [((List.set r5 (Int.toNat r4) (ixor .u8 (List.getD r5 (Int.toNat r4) 0) (ior .u8 a3 1))) ++ r19), (r21 ++ (List.set r7 (Int.toNat r4) (ixor .u8 (List.getD r7 (Int.toNat r4) 0) (ior .u8 a3 1)))), ((List.set r5 (Int.toNat r4) (ixor .u8 (List.getD r5 (Int.toNat r4) 0) (ior .u8 a3 1))) ++ (List.set r7 (Int.toNat r4) (ixor .u8 (List.getD r7 (Int.toNat r4) 0) (ior .u8 a3 1))))], Res.own (.slice (some ⟨b13, 0, none⟩) (List.length r7) c14) 5 (.int .u8) (List.set r7 (Int.toNat r4) (ixor .u8 (List.getD r7 (Int.toNat r4) 0) (ior .u8 a3 1))), Res.own (.slice (some ⟨b9, 0, none⟩) (List.length r5) c10) 5 (.int .u8) (List.set r5 (Int.toNat r4) (ixor .u8 (List.getD r5 (Int.toNat r4) 0) (ior .u8 a3 1)))]) k56 r ?_ ?_
                      · rcases Bool.eq_false_or_eq_true b55 with hh | hh
                        · rw [hh] at h ⊢
                          rw [if_pos rfl] at h
                          refine r_pure tabOk 1 [4, 16, 146, 147] (E' := [(4, .one (.int .i64) a4), (16, ptr b24 0), (146, .one .bool true), (147, .one .str r52.1)]) rfl ?_
                          refine r_guard (by rfl) rfl ?_
                          obtain ⟨hc, h⟩ := ite_ex h
                          refine y (y_ivar rfl rfl hc.1 hc.2 un26 ty9) rfl ?_
                          refine r_guard (by rfl) rfl ?_
                          refine y (y_load 2 (.elem 2 .here) rfl rfl (by first | rfl | (simp only [Pth.off, T.size]; omega)) (ok_elem (by first | omega | (simp only [List.length_set] at hc ⊢; omega)) ok_here) ty9) rfl ?_
                          refine r_pure tabOk 1 [4, 16, 146, 150] (E' := [(4, .one (.int .i64) a4), (16, ptr b24 0), (146, .one .bool true), (150, .one .bool (r52.1 == (List.getD [((List.set r5 (Int.toNat r4) (ixor .u8 (List.getD r5 (Int.toNat r4) 0) (ior .u8 a3 1))) ++ r19), (r21 ++ (List.set r7 (Int.toNat r4) (ixor .u8 (List.getD r7 (Int.toNat r4) 0) (ior .u8 a3 1)))), ((List.set r5 (Int.toNat r4) (ixor .u8 (List.getD r5 (Int.toNat r4) 0) (ior .u8 a3 1))) ++ (List.set r7 (Int.toNat r4) (ixor .u8 (List.getD r7 (Int.toNat r4) 0) (ior .u8 a3 1))))] 2 [])))]) rfl ?_
                          obtain ⟨t58, ht58, h⟩ := bnd_ex h
                          rw [ht58]
                          refine r_pure tabOk 1 [4, 16, 151] (E' := [(4, .one (.int .i64) a4), (16, ptr b24 0), (151, .one .bool t58)]) rfl ?_
                          refine r_nil ?_
                          refine r_less [4, 16, 151] rfl ?_
                          refine r_then ?_
                          exact r_meetk t58 () h rfl rfl
                        · rw [hh] at h ⊢
                          rw [if_neg (by decide)] at h
                          refine r_pure tabOk 5 [4, 16, 151] (E' := [(4, .one (.int .i64) a4), (16, ptr b24 0), (151, .one .bool false)]) rfl ?_
                          refine r_nil ?_
                          refine r_less [4, 16, 151] rfl ?_
                          refine r_then ?_
                          exact r_meetk false () h rfl rfl
                      · intro o57 _ h
                        rw [← hk56] at h
                        try dsimp only at h
                        refine r_pure tabOk 1 [4, 16, 152] (E' := [(4, .one (.int .i64) a4), (16, ptr b24 0), (152, .one .bool o57)]) rfl ?_
                        obtain ⟨k60, hk60, h⟩ := bnd_ex h
                        refine r_lsplitk (γ := Unit) 5 (fun (o61 : Bool) _ => [(157, .one .bool o61)]) (fun _ _ => [Res.disk Tryz.prog dI (tupv v42 0) r50.2.2, Res.clsif (CMark (tupv v42 0)) (tupv v51 0) r50.1.2 r50.1.1, Res.var b24 26 (.arr 3 .str) [((List.set r5 (Int.toNat r4) (ixor .u8 (List.getD r5 (Int.toNat r4) 0) (ior .u8 a3 1))) ++ r19), (r21 ++ (List.set r7 (Int.toNat r4) (ixor .u8 (List.getD r7 (Int.toNat r4) 0) (ior .u8 a3 1)))), ((List.set r5 (Int.toNat r4) (ixor .u8 (List.getD r5 (Int.toNat r4) 0) (ior .u8 a3 1))) ++ (List.set r7 (Int.toNat r4) (ixor .u8 (List.getD r7 (Int.toNat r4) 0) (ior .u8 a3 1))))], Res.own (.slice (some ⟨b13, 0, none⟩) (List.length r7) c14) 5 (.int .u8) (List.set r7 (Int.toNat r4) (ixor .u8 (List.getD r7 (Int.toNat r4) 0) (ior .u8 a3 1))), Res.own (.slice (some ⟨b9, 0, none⟩) (List.length r5) c10) 5 (.int .u8) (List.set r5 (Int.toNat r4) (ixor .u8 (List.getD r5 (Int.toNat r4) 0) (ior .u8 a3 1)))]) k60 r ?_ ?_
                        · rcases Bool.eq_false_or_eq_true o57 with hh | hh
                          · rw [hh] at h ⊢
                            rw [if_pos rfl] at h
                            refine r_guard (by rfl) rfl ?_
                            obtain ⟨hc, h⟩ := ite_ex h
                            refine y (y_ivar rfl rfl hc.1 hc.2 un26 ty9) rfl ?_
                            refine r_guard (by rfl) rfl ?_
                            refine y (y_load 2 (.elem 2 .here) rfl rfl (by first | rfl | (simp only [Pth.off, T.size]; omega)) (ok_elem (by first | omega | (simp only [List.length_set] at hc ⊢; omega)) ok_here) ty9) rfl ?_
                            refine r_pure tabOk 1 [152, 154, 155] (E' := [(152, .one .bool true), (154, .one .str (List.getD [((List.set r5 (Int.toNat r4) (ixor .u8 (List.getD r5 (Int.toNat r4) 0) (ior .u8 a3 1))) ++ r19), (r21 ++ (List.set r7 (Int.toNat r4) (ixor .u8 (List.getD r7 (Int.toNat r4) 0) (ior .u8 a3 1)))), ((List.set r5 (Int.toNat r4) (ixor .u8 (List.getD r5 (Int.toNat r4) 0) (ior .u8 a3 1))) ++ (List.set r7 (Int.toNat r4) (ixor .u8 (List.getD r7 (Int.toNat r4) 0) (ior .u8 a3 1))))] 2 [])), (155, .one (.int .i64) a4)]) rfl ?_
                            refine r_guard (by rfl) rfl ?_
                            obtain ⟨r62, hr62, h⟩ := bind_ex h
                            refine r_calls (escrowlaw19_anew_ok (List.getD [((List.set r5 (Int.toNat r4) (ixor .u8 (List.getD r5 (Int.toNat r4) 0) (ior .u8 a3 1))) ++ r19), (r21 ++ (List.set r7 (Int.toNat r4) (ixor .u8 (List.getD r7 (Int.toNat r4) 0) (ior .u8 a3 1)))), ((List.set r5 (Int.toNat r4) (ixor .u8 (List.getD r5 (Int.toNat r4) 0) (ior .u8 a3 1))) ++ (List.set r7 (Int.toNat r4) (ixor .u8 (List.getD r7 (Int.toNat r4) 0) (ior .u8 a3 1))))] 2 []) a4 _ hr62) (by kernel_rfl) rfl rfl ?_
                            refine r_pure tabOk 1 [157] (E' := [(157, .one .bool r62)]) rfl ?_
                            refine r_nil ?_
                            refine r_less [157] rfl ?_
                            refine r_then ?_
                            exact r_meetk r62 () h rfl rfl
                          · rw [hh] at h ⊢
                            rw [if_neg (by decide)] at h
                            refine r_pure tabOk 5 [157] (E' := [(157, .one .bool false)]) rfl ?_
                            refine r_nil ?_
                            refine r_less [157] rfl ?_
                            refine r_then ?_
                            exact r_meetk false () h rfl rfl
                        · intro o61 _ h
                          rw [← hk60] at h
                          try dsimp only at h
                          refine r_pure tabOk 1 [10] (E' := [(10, .one .bool o61)]) rfl ?_
                          refine r_nil ?_
                          refine r_then ?_
                          refine r_ret ?_
                          refine t_then ?_
                          refine t_block ?_
                          refine t_then ?_
                          refine t_then ?_
                          refine t_block ?_
                          refine t_then ?_
                          obtain rfl := Option.some.inj h
                          exact r_ret1 rfl (.tmp rfl) (fun _ _ g => g) (fun _ _ _ => List.nil_sublist _)
                    · rw [if_neg (ne_true_of_eq_false hc)] at h
                      refine r_skip ?_
                      refine r_then ?_
                      refine r_seq ?_
                      refine r_region ?_
                      refine r_pure tabOk 2 [4, 11, 12, 16, 17, 20, 21, 22, 158, 159] (E' := [(4, .one (.int .i64) a4), (11, .one (.int .i64) ax2), (12, .one (.int .i64) bx3), (16, ptr b24 0), (17, .one (.int .i64) s28), (20, .one (.raw (.pointer none)) (tupv v42 0)), (21, .one (.int .i64) r50.2.1), (22, .one (.raw (.pointer none)) (tupv v51 0)), (158, .one (.int .i64) bx3), (159, .one (.int .i64) ax2)]) rfl ?_
                      refine y (y_build rfl zf41 rfl rfl (.cons (.elem 0 .here) rfl rfl (ok_elem (by first | omega | (simp only [List.length_set] at hc ⊢; omega)) ok_here) (.cons (.elem 1 .here) rfl rfl (ok_elem (by first | omega | (simp only [List.length_set] at hc ⊢; omega)) ok_here) .nil))) rfl ?_
                      refine r_pure tabOk 1 [4, 11, 12, 16, 17, 20, 21, 22, 160, 161] (E' := [(4, .one (.int .i64) a4), (11, .one (.int .i64) ax2), (12, .one (.int .i64) bx3), (16, ptr b24 0), (17, .one (.int .i64) s28), (20, .one (.raw (.pointer none)) (tupv v42 0)), (21, .one (.int .i64) r50.2.1), (22, .one (.raw (.pointer none)) (tupv v51 0)), (160, .one (.arr 2 (.int .i64)) [bx3, ax2]), (161, .one (.int .i64) s28)]) rfl ?_
                      obtain ⟨hc, h⟩ := ite_ex h
                      refine y (y_elem rfl rfl hc.1 hc.2 un41 ty2) rfl ?_
                      refine r_pure tabOk 1 [4, 11, 12, 16, 17, 20, 21, 22, 25] (E' := [(4, .one (.int .i64) a4), (11, .one (.int .i64) ax2), (12, .one (.int .i64) bx3), (16, ptr b24 0), (17, .one (.int .i64) s28), (20, .one (.raw (.pointer none)) (tupv v42 0)), (21, .one (.int .i64) r50.2.1), (22, .one (.raw (.pointer none)) (tupv v51 0)), (25, .one (.int .i64) (List.getD [bx3, ax2] (Int.toNat s28) 0))]) rfl ?_
                      obtain ⟨good63, hgood63, h⟩ := bnd_ex h
                      rw [hgood63]
                      refine r_nil ?_
                      refine r_then ?_
                      refine r_seq ?_
                      refine r_seq ?_
                      refine r_region ?_
                      refine r_pure tabOk 1 [4, 11, 12, 16, 17, 20, 21, 22, 25, 163] (E' := [(4, .one (.int .i64) a4), (11, .one (.int .i64) ax2), (12, .one (.int .i64) bx3), (16, ptr b24 0), (17, .one (.int .i64) s28), (20, .one (.raw (.pointer none)) (tupv v42 0)), (21, .one (.int .i64) r50.2.1), (22, .one (.raw (.pointer none)) (tupv v51 0)), (25, .one (.int .i64) good63), (163, .one (.raw (.pointer none)) (tupv v51 0))]) rfl ?_
                      refine y (y_cnil 1 rfl rfl Tryz.underlying35) rfl ?_
                      refine r_pure tabOk 1 [4, 11, 12, 16, 17, 20, 21, 22, 25, 165] (E' := [(4, .one (.int .i64) a4), (11, .one (.int .i64) ax2), (12, .one (.int .i64) bx3), (16, ptr b24 0), (17, .one (.int .i64) s28), (20, .one (.raw (.pointer none)) (tupv v42 0)), (21, .one (.int .i64) r50.2.1), (22, .one (.raw (.pointer none)) (tupv v51 0)), (25, .one (.int .i64) good63), (165, .one .bool (r50.1.1 != 0))]) rfl ?_
                      obtain ⟨b64, hbb64, h⟩ := bnd_ex h
                      rw [hbb64]
                      refine r_lsplit (γ := Unit) 3 (fun _ => [(4, .one (.int .i64) a4), (11, .one (.int .i64) ax2), (12, .one (.int .i64) bx3), (16, ptr b24 0), (17, .one (.int .i64) s28), (20, .one (.raw (.pointer none)) (tupv v42 0)), (22, .one (.raw (.pointer none)) (tupv v51 0)), (25, .one (.int .i64) good63), (168, .one .bool (b64 || (r50.2.1 != 0)))]) (fun _ => [Res.disk Tryz.prog dI (tupv v42 0) r50.2.2, Res.clsif (CMark (tupv v42 0)) (tupv v51 0) r50.1.2 r50.1.1, Res.var b24 26 (.arr 3 .str) [((List.set r5 (Int.toNat r4) (ixor .u8 (List.getD r5 (Int.toNat r4) 0) (ior .u8 a3 1))) ++ r19), (r21 ++ (List.set r7 (Int.toNat r4) (ixor .u8 (List.getD r7 (Int.toNat r4) 0) (ior .u8 a3 1)))), ((List.set r5 (Int.toNat r4) (ixor .u8 (List.getD r5 (Int.toNat r4) 0) (ior .u8 a3 1))) ++ (List.set r7 (Int.toNat r4) (ixor .u8 (List.getD r7 (Int.toNat r4) 0) (ior .u8 a3 1))))], Res.own (.slice (some ⟨b13, 0, none⟩) (List.length r7) c14) 5 (.int .u8) (List.set r7 (Int.toNat r4) (ixor .u8 (List.getD r7 (Int.toNat r4) 0) (ior .u8 a3 1))), Res.own (.slice (some ⟨b9, 0, none⟩) (List.length r5) c10) 5 (.int .u8) (List.set r5 (Int.toNat r4) (ixor .u8 (List.getD r5 (Int.toNat r4) 0) (ior .u8 a3 1)))]) ?_ (fun _ => ?_)
                      · clear h
                        cases b64 with
                        | true =>
                        refine r_pure tabOk 3 [4, 11, 12, 16, 17, 20, 22, 25, 168] (E' := [(4, .one (.int .i64) a4), (11, .one (.int .i64) ax2), (12, .one (.int .i64) bx3), (16, ptr b24 0), (17, .one (.int .i64) s28), (20, .one (.raw (.pointer none)) (tupv v42 0)), (22, .one (.raw (.pointer none)) (tupv v51 0)), (25, .one (.int .i64) good63), (168, .one .bool true)]) rfl ?_
                        refine r_nil ?_
                        refine r_then ?_
                        exact r_meetg () rfl rfl
                        | false =>
                        refine r_pure tabOk 3 [4, 11, 12, 16, 17, 20, 22, 25, 168] (E' := [(4, .one (.int .i64) a4), (11, .one (.int .i64) ax2), (12, .one (.int .i64) bx3), (16, ptr b24 0), (17, .one (.int .i64) s28), (20, .one (.raw (.pointer none)) (tupv v42 0)), (22, .one (.raw (.pointer none)) (tupv v51 0)), (25, .one (.int .i64) good63), (168, .one .bool (r50.2.1 != 0))]) rfl ?_
                        refine r_nil ?_
                        refine r_then ?_
                        exact r_meetg () rfl rfl
                      refine r_pure tabOk 1 [4, 11, 12, 16, 17, 20, 22, 25, 169] (E' := [(4, .one (.int .i64) a4), (11, .one (.int .i64) ax2), (12, .one (.int .i64) bx3), (16, ptr b24 0), (17, .one (.int .i64) s28), (20, .one (.raw (.pointer none)) (tupv v42 0)), (22, .one (.raw (.pointer none)) (tupv v51 0)), (25, .one (.int .i64) good63), (169, .one .bool (b64 || (r50.2.1 != 0)))]) rfl ?_
                      obtain ⟨b65, hbb65, h⟩ := bnd_ex h
                      rw [hbb65]
                      obtain ⟨k66, hk66, h⟩ := bnd_ex h
                      refine r_lsplitk (γ := Unit) 5 (fun (o67 : Bool) _ => [(4, .one (.int .i64) a4), (11, .one (.int .i64) ax2), (12, .one (.int .i64) bx3), (16, ptr b24 0), (17, .one (.int .i64) s28), (20, .one (.raw (.pointer none)) (tupv v42 0)), (22, .one (.raw (.pointer none)) (tupv v51 0)), (25, .one (.int .i64) good63), (174, .one .bool o67)]) (fun _ _ => [Res.disk Tryz.prog dI (tupv v42 0) r50.2.2, Res.clsif (CMark (tupv v42 0)) (tupv v51 0) r50.1.2 r50.1.1, Res.var b24 26 (.arr 3 .str) [((List.set r5 (Int.toNat r4) (ixor .u8 (List.getD r5 (Int.toNat r4) 0) (ior .u8 a3 1))) ++ r19), (r21 ++ (List.set r7 (Int.toNat r4) (ixor .u8 (List.getD r7 (Int.toNat r4) 0) (ior .u8 a3 1)))), ((List.set r5 (Int.toNat r4) (ixor .u8 (List.getD r5 (Int.toNat r4) 0) (ior .u8 a3 1))) ++ (List.set r7 (Int.toNat r4) (ixor .u8 (List.getD r7 (Int.toNat r4) 0) (ior .u8 a3 1))))], Res.own (.slice (some ⟨b13, 0, none⟩) (List.length r7) c14) 5 (.int .u8) (List.set r7 (Int.toNat r4) (ixor .u8 (List.getD r7 (Int.toNat r4) 0) (ior .u8 a3 1))), Res.own (.slice (some ⟨b9, 0, none⟩) (List.length r5) c10) 5 (.int .u8) (List.set r5 (Int.toNat r4) (ixor .u8 (List.getD r5 (Int.toNat r4) 0) (ior .u8 a3 1)))]) k66 r ?_ ?_
                      · rcases Bool.eq_false_or_eq_true b65 with hh | hh
                        · rw [hh] at h ⊢
                          rw [if_pos rfl] at h
                          refine r_pure tabOk 5 [4, 11, 12, 16, 17, 20, 22, 25, 174] (E' := [(4, .one (.int .i64) a4), (11, .one (.int .i64) ax2), (12, .one (.int .i64) bx3), (16, ptr b24 0), (17, .one (.int .i64) s28), (20, .one (.raw (.pointer none)) (tupv v42 0)), (22, .one (.raw (.pointer none)) (tupv v51 0)), (25, .one (.int .i64) good63), (174, .one .bool true)]) rfl ?_
                          refine r_nil ?_
                          refine r_less [4, 11, 12, 16, 17, 20, 22, 25, 174] rfl ?_
                          refine r_then ?_
                          exact r_meetk true () h rfl rfl
                        · rw [hh] at h ⊢
                          rw [if_neg (by decide)] at h
                          refine r_pure tabOk 1 [4, 11, 12, 16, 17, 20, 22, 25, 169, 170] (E' := [(4, .one (.int .i64) a4), (11, .one (.int .i64) ax2), (12, .one (.int .i64) bx3), (16, ptr b24 0), (17, .one (.int .i64) s28), (20, .one (.raw (.pointer none)) (tupv v42 0)), (22, .one (.raw (.pointer none)) (tupv v51 0)), (25, .one (.int .i64) good63), (169, .one .bool false), (170, .one (.raw (.pointer none)) (tupv v51 0))]) rfl ?_
                          refine r_guard (by rfl) rfl ?_
                          obtain ⟨he68, h⟩ := ite_ex h
                          refine r_imp_at (R' := Res.cls (CMark (tupv v42 0)) (tupv v51 0) r50.1.2) 1 rfl (clsif_cls he68) ?_
                          obtain ⟨r69, hr69, h⟩ := bind_ex h
                          refine r_call (Lo := [Res.var b24 26 (.arr 3 .str) [((List.set r5 (Int.toNat r4) (ixor .u8 (List.getD r5 (Int.toNat r4) 0) (ior .u8 a3 1))) ++ r19), (r21 ++ (List.set r7 (Int.toNat r4) (ixor .u8 (List.getD r7 (Int.toNat r4) 0) (ior .u8 a3 1)))), ((List.set r5 (Int.toNat r4) (ixor .u8 (List.getD r5 (Int.toNat r4) 0) (ior .u8 a3 1))) ++ (List.set r7 (Int.toNat r4) (ixor .u8 (List.getD r7 (Int.toNat r4) 0) (ior .u8 a3 1))))], Res.own (.slice (some ⟨b13, 0, none⟩) (List.length r7) c14) 5 (.int .u8) (List.set r7 (Int.toNat r4) (ixor .u8 (List.getD r7 (Int.toNat r4) 0) (ior .u8 a3 1))), Res.own (.slice (some ⟨b9, 0, none⟩) (List.length r5) c10) 5 (.int .u8) (List.set r5 (Int.toNat r4) (ixor .u8 (List.getD r5 (Int.toNat r4) 0) (ior .u8 a3 1)))]) (mark_Mark_Value_ok (tupv v51 0) (tupv v42 0) r50.1.2 r50.2.2 _ hr69) (by kernel_rfl) ((List.perm_middle (a := Res.cls (CMark (tupv v42 0)) (tupv v51 0) r50.1.2) (l₁ := [Res.disk Tryz.prog dI (tupv v42 0) r50.2.2]) (l₂ := [Res.var b24 26 (.arr 3 .str) [((List.set r5 (Int.toNat r4) (ixor .u8 (List.getD r5 (Int.toNat r4) 0) (ior .u8 a3 1))) ++ r19), (r21 ++ (List.set r7 (Int.toNat r4) (ixor .u8 (List.getD r7 (Int.toNat r4) 0) (ior .u8 a3 1)))), ((List.set r5 (Int.toNat r4) (ixor .u8 (List.getD r5 (Int.toNat r4) 0) (ior .u8 a3 1))) ++ (List.set r7 (Int.toNat r4) (ixor .u8 (List.getD r7 (Int.toNat r4) 0) (ior .u8 a3 1))))], Res.own (.slice (some ⟨b13, 0, none⟩) (List.length r7) c14) 5 (.int .u8) (List.set r7 (Int.toNat r4) (ixor .u8 (List.getD r7 (Int.toNat r4) 0) (ior .u8 a3 1))), Res.own (.slice (some ⟨b9, 0, none⟩) (List.length r5) c10) 5 (.int .u8) (List.set r5 (Int.toNat r4) (ixor .u8 (List.getD r5 (Int.toNat r4) 0) (ior .u8 a3 1)))])).trans (.cons _ (List.Perm.refl _))) rfl rfl fun _ => ?_
                          refine r_pure tabOk 3 [4, 11, 12, 16, 17, 20, 22, 25, 174] (E' := [(4, .one (.int .i64) a4), (11, .one (.int .i64) ax2), (12, .one (.int .i64) bx3), (16, ptr b24 0), (17, .one (.int .i64) s28), (20, .one (.raw (.pointer none)) (tupv v42 0)), (22, .one (.raw (.pointer none)) (tupv v51 0)), (25, .one (.int .i64) good63), (174, .one .bool (r69 != good63))]) rfl ?_
                          refine r_nil ?_
                          refine r_less [4, 11, 12, 16, 17, 20, 22, 25, 174] rfl ?_
                          refine r_imp_at (R' := Res.clsif (CMark (tupv v42 0)) (tupv v51 0) r50.1.2 r50.1.1) 0 rfl (clsif_of he68) ?_
                          refine r_perm (L' := [Res.disk Tryz.prog dI (tupv v42 0) r50.2.2, Res.clsif (CMark (tupv v42 0)) (tupv v51 0) r50.1.2 r50.1.1, Res.var b24 26 (.arr 3 .str) [((List.set r5 (Int.toNat r4) (ixor .u8 (List.getD r5 (Int.toNat r4) 0) (ior .u8 a3 1))) ++ r19), (r21 ++ (List.set r7 (Int.toNat r4) (ixor .u8 (List.getD r7 (Int.toNat r4) 0) (ior .u8 a3 1)))), ((List.set r5 (Int.toNat r4) (ixor .u8 (List.getD r5 (Int.toNat r4) 0) (ior .u8 a3 1))) ++ (List.set r7 (Int.toNat r4) (ixor .u8 (List.getD r7 (Int.toNat r4) 0) (ior .u8 a3 1))))], Res.own (.slice (some ⟨b13, 0, none⟩) (List.length r7) c14) 5 (.int .u8) (List.set r7 (Int.toNat r4) (ixor .u8 (List.getD r7 (Int.toNat r4) 0) (ior .u8 a3 1))), Res.own (.slice (some ⟨b9, 0, none⟩) (List.length r5) c10) 5 (.int .u8) (List.set r5 (Int.toNat r4) (ixor .u8 (List.getD r5 (Int.toNat r4) 0) (ior .u8 a3 1)))]) ((List.perm_middle (a := Res.disk Tryz.prog dI (tupv v42 0) r50.2.2) (l₁ := [Res.clsif (CMark (tupv v42 0)) (tupv v51 0) r50.1.2 r50.1.1]) (l₂ := [Res.var b24 26 (.arr 3 .str) [((List.set r5 (Int.toNat r4) (ixor .u8 (List.getD r5 (Int.toNat r4) 0) (ior .u8 a3 1))) ++ r19), (r21 ++ (List.set r7 (Int.toNat r4) (ixor .u8 (List.getD r7 (Int.toNat r4) 0) (ior .u8 a3 1)))), ((List.set r5 (Int.toNat r4) (ixor .u8 (List.getD r5 (Int.toNat r4) 0) (ior .u8 a3 1))) ++ (List.set r7 (Int.toNat r4) (ixor .u8 (List.getD r7 (Int.toNat r4) 0) (ior .u8 a3 1))))], Res.own (.slice (some ⟨b13, 0, none⟩) (List.length r7) c14) 5 (.int .u8) (List.set r7 (Int.toNat r4) (ixor .u8 (List.getD r7 (Int.toNat r4) 0) (ior .u8 a3 1))), Res.own (.slice (some ⟨b9, 0, none⟩) (List.length r5) c10) 5 (.int .u8) (List.set r5 (Int.toNat r4) (ixor .u8 (List.getD r5 (Int.toNat r4) 0) (ior .u8 a3 1)))])).trans (.cons _ (List.Perm.refl _))) ?_
                          refine r_then ?_
                          exact r_meetk (r69 != good63) () h rfl rfl
                      · intro o67 _ h
                        rw [← hk66] at h
                        try dsimp only at h
                        refine r_pure tabOk 1 [4, 11, 12, 16, 17, 20, 22, 25, 175] (E' := [(4, .one (.int .i64) a4), (11, .one (.int .i64) ax2), (12, .one (.int .i64) bx3), (16, ptr b24 0), (17, .one (.int .i64) s28), (20, .one (.raw (.pointer none)) (tupv v42 0)), (22, .one (.raw (.pointer none)) (tupv v51 0)), (25, .one (.int .i64) good63), (175, .one .bool o67)]) rfl ?_
                        obtain ⟨k71, hk71, h⟩ := bnd_ex h
                        refine r_lsplitk (γ := Unit) 5 (fun (o72 : Bool) _ => [(4, .one (.int .i64) a4), (11, .one (.int .i64) ax2), (12, .one (.int .i64) bx3), (16, ptr b24 0), (17, .one (.int .i64) s28), (20, .one (.raw (.pointer none)) (tupv v42 0)), (22, .one (.raw (.pointer none)) (tupv v51 0)), (25, .one (.int .i64) good63), (180, .one .bool o72)]) (fun _ _ => [Res.disk Tryz.prog dI (tupv v42 0) r50.2.2, Res.clsif (CMark (tupv v42 0)) (tupv v51 0) r50.1.2 r50.1.1, Res.var b24 26 (.arr 3 .str) [((List.set r5 (Int.toNat r4) (ixor .u8 (List.getD r5 (Int.toNat r4) 0) (ior .u8 a3 1))) ++ r19), (r21 ++ (List.set r7 (Int.toNat r4) (ixor .u8 (List.getD r7 (Int.toNat r4) 0) (ior .u8 a3 1)))), ((List.set r5 (Int.toNat r4) (ixor .u8 (List.getD r5 (Int.toNat r4) 0) (ior .u8 a3 1))) ++ (List.set r7 (Int.toNat r4) (ixor .u8 (List.getD r7 (Int.toNat r4) 0) (ior .u8 a3 1))))], Res.own (.slice (some ⟨b13, 0, none⟩) (List.length r7) c14) 5 (.int .u8) (List.set r7 (Int.toNat r4) (ixor .u8 (List.getD r7 (Int.toNat r4) 0) (ior .u8 a3 1))), Res.own (.slice (some ⟨b9, 0, none⟩) (List.length r5) c10) 5 (.int .u8) (List.set r5 (Int.toNat r4) (ixor .u8 (List.getD r5 (Int.toNat r4) 0) (ior .u8 a3 1)))]) k71 r ?_ ?_
                        · rcases Bool.eq_false_or_eq_true o67 with hh | hh
                          · rw [hh] at h ⊢
                            rw [if_pos rfl] at h
                            refine r_pure tabOk 5 [4, 11, 12, 16, 17, 20, 22, 25, 180] (E' := [(4, .one (.int .i64) a4), (11, .one (.int .i64) ax2), (12, .one (.int .i64) bx3), (16, ptr b24 0), (17, .one (.int .i64) s28), (20, .one (.raw (.pointer none)) (tupv v42 0)), (22, .one (.raw (.pointer none)) (tupv v51 0)), (25, .one (.int .i64) good63), (180, .one .bool true)]) rfl ?_
                            refine r_nil ?_
                            refine r_less [4, 11, 12, 16, 17, 20, 22, 25, 180] rfl ?_
                            refine r_then ?_
                            exact r_meetk true () h rfl rfl
                          · rw [hh] at h ⊢
                            rw [if_neg (by decide)] at h
                            refine r_pure tabOk 1 [4, 11, 12, 16, 17, 20, 22, 25, 175, 176] (E' := [(4, .one (.int .i64) a4), (11, .one (.int .i64) ax2), (12, .one (.int .i64) bx3), (16, ptr b24 0), (17, .one (.int .i64) s28), (20, .one (.raw (.pointer none)) (tupv v42 0)), (22, .one (.raw (.pointer none)) (tupv v51 0)), (25, .one (.int .i64) good63), (175, .one .bool false), (176, .one (.raw (.pointer none)) (tupv v42 0))]) rfl ?_
                            refine r_guard (by rfl) rfl ?_
                            obtain ⟨r73, hr73, h⟩ := bind_ex h
                            refine r_call (Lo := [Res.clsif (CMark (tupv v42 0)) (tupv v51 0) r50.1.2 r50.1.1, Res.var b24 26 (.arr 3 .str) [((List.set r5 (Int.toNat r4) (ixor .u8 (List.getD r5 (Int.toNat r4) 0) (ior .u8 a3 1))) ++ r19), (r21 ++ (List.set r7 (Int.toNat r4) (ixor .u8 (List.getD r7 (Int.toNat r4) 0) (ior .u8 a3 1)))), ((List.set r5 (Int.toNat r4) (ixor .u8 (List.getD r5 (Int.toNat r4) 0) (ior .u8 a3 1))) ++ (List.set r7 (Int.toNat r4) (ixor .u8 (List.getD r7 (Int.toNat r4) 0) (ior .u8 a3 1))))], Res.own (.slice (some ⟨b13, 0, none⟩) (List.length r7) c14) 5 (.int .u8) (List.set r7 (Int.toNat r4) (ixor .u8 (List.getD r7 (Int.toNat r4) 0) (ior .u8 a3 1))), Res.own (.slice (some ⟨b9, 0, none⟩) (List.length r5) c10) 5 (.int .u8) (List.set r5 (Int.toNat r4) (ixor .u8 (List.getD r5 (Int.toNat r4) 0) (ior .u8 a3 1)))]) (disk_Disk_Dirty_ok (tupv v42 0) r50.2.2 [109] _ hr73) (by kernel_rfl) (List.Perm.refl _) rfl rfl fun v74 => ?_
                            refine r_guard (by rfl) rfl ?_
                            refine y (y_lenown tabOk 1 rfl rfl rfl) rfl ?_
                            refine r_pure tabOk 2 [4, 11, 12, 16, 17, 20, 22, 25, 180] (E' := [(4, .one (.int .i64) a4), (11, .one (.int .i64) ax2), (12, .one (.int .i64) bx3), (16, ptr b24 0), (17, .one (.int .i64) s28), (20, .one (.raw (.pointer none)) (tupv v42 0)), (22, .one (.raw (.pointer none)) (tupv v51 0)), (25, .one (.int .i64) good63), (180, .one .bool ((List.length r73 : Int) != 0))]) rfl ?_
                            refine r_nil ?_
                            refine r_less [4, 11, 12, 16, 17, 20, 22, 25, 180] rfl ?_
                            refine r_lose (L' := [Res.disk Tryz.prog dI (tupv v42 0) r50.2.2, Res.clsif (CMark (tupv v42 0)) (tupv v51 0) r50.1.2 r50.1.1, Res.var b24 26 (.arr 3 .str) [((List.set r5 (Int.toNat r4) (ixor .u8 (List.getD r5 (Int.toNat r4) 0) (ior .u8 a3 1))) ++ r19), (r21 ++ (List.set r7 (Int.toNat r4) (ixor .u8 (List.getD r7 (Int.toNat r4) 0) (ior .u8 a3 1)))), ((List.set r5 (Int.toNat r4) (ixor .u8 (List.getD r5 (Int.toNat r4) 0) (ior .u8 a3 1))) ++ (List.set r7 (Int.toNat r4) (ixor .u8 (List.getD r7 (Int.toNat r4) 0) (ior .u8 a3 1))))], Res.own (.slice (some ⟨b13, 0, none⟩) (List.length r7) c14) 5 (.int .u8) (List.set r7 (Int.toNat r4) (ixor .u8 (List.getD r7 (Int.toNat r4) 0) (ior .u8 a3 1))), Res.own (.slice (some ⟨b9, 0, none⟩) (List.length r5) c10) 5 (.int .u8) (List.set r5 (Int.toNat r4) (ixor .u8 (List.getD r5 (Int.toNat r4) 0) (ior .u8 a3 1)))]) (.cons_cons _ (.cons _ (.cons_cons _ (.cons_cons _ (.cons_cons _ (.cons_cons _ .slnil)))))) ?_
                            refine r_then ?_
                            exact r_meetk ((List.length r73 : Int) != 0) () h rfl rfl
                        · intro o72 _ h
                          rw [← hk71] at h
                          try dsimp only at h
                          refine r_nil ?_
                          refine r_then ?_
                          refine r_if (b := o72) rfl (fun hc => ?_) (fun hc => ?_)
                          · rw [if_pos hc] at h
                            refine r_seq ?_
                            refine r_region ?_
                            refine r_pure tabOk 1 [10] (E' := [(10, .one .bool false)]) rfl ?_
                            refine r_nil ?_
                            refine r_then ?_
                            refine r_ret ?_
                            refine t_then ?_
                            refine t_block ?_
                            refine t_then ?_
                            refine t_then ?_
                            refine t_block ?_
                            refine t_then ?_
                            obtain rfl := Option.some.inj h
                            exact r_ret1 rfl (.tmp rfl) (fun _ _ g => g) (fun _ _ _ => List.nil_sublist _)
                          · rw [if_neg (ne_true_of_eq_false hc)] at h
                            refine r_skip ?_
                            refine r_then ?_
                            refine r_seq ?_
                            refine r_region ?_
                            refine r_pure tabOk 2 [4, 11, 12, 16, 17, 20, 22, 25, 182] (E' := [(4, .one (.int .i64) a4), (11, .one (.int .i64) ax2), (12, .one (.int .i64) bx3), (16, ptr b24 0), (17, .one (.int .i64) s28), (20, .one (.raw (.pointer none)) (tupv v42 0)), (22, .one (.raw (.pointer none)) (tupv v51 0)), (25, .one (.int .i64) good63), (182, .one .bool (decide (good63 < 281474976710655)))]) rfl ?_
                            refine r_nil ?_
                            refine r_then ?_
                            refine r_if (b := (decide (good63 < 281474976710655))) rfl (fun hc => ?_) (fun hc => ?_)
                            · rw [if_pos hc] at h
                              refine r_seq ?_
                              refine r_region ?_
                              refine r_pure tabOk 4 [4, 11, 12, 16, 17, 20, 22, 25, 184, 187] (E' := [(4, .one (.int .i64) a4), (11, .one (.int .i64) ax2), (12, .one (.int .i64) bx3), (16, ptr b24 0), (17, .one (.int .i64) s28), (20, .one (.raw (.pointer none)) (tupv v42 0)), (22, .one (.raw (.pointer none)) (tupv v51 0)), (25, .one (.int .i64) good63), (184, .one (.raw (.pointer none)) (tupv v42 0)), (187, .one (.int .i64) (IntKind.wrap .i64 (64 * (IntKind.wrap .i64 (1 - s28)))))]) rfl ?_
                              obtain ⟨r75, hr75, h⟩ := bind_ex h
                              refine r_call (Lo := [Res.clsif (CMark (tupv v42 0)) (tupv v51 0) r50.1.2 r50.1.1, Res.var b24 26 (.arr 3 .str) [((List.set r5 (Int.toNat r4) (ixor .u8 (List.getD r5 (Int.toNat r4) 0) (ior .u8 a3 1))) ++ r19), (r21 ++ (List.set r7 (Int.toNat r4) (ixor .u8 (List.getD r7 (Int.toNat r4) 0) (ior .u8 a3 1)))), ((List.set r5 (Int.toNat r4) (ixor .u8 (List.getD r5 (Int.toNat r4) 0) (ior .u8 a3 1))) ++ (List.set r7 (Int.toNat r4) (ixor .u8 (List.getD r7 (Int.toNat r4) 0) (ior .u8 a3 1))))], Res.own (.slice (some ⟨b13, 0, none⟩) (List.length r7) c14) 5 (.int .u8) (List.set r7 (Int.toNat r4) (ixor .u8 (List.getD r7 (Int.toNat r4) 0) (ior .u8 a3 1))), Res.own (.slice (some ⟨b9, 0, none⟩) (List.length r5) c10) 5 (.int .u8) (List.set r5 (Int.toNat r4) (ixor .u8 (List.getD r5 (Int.toNat r4) 0) (ior .u8 a3 1)))]) (disk_Disk_Read_ok (tupv v42 0) r50.2.2 [109] (IntKind.wrap .i64 (64 * (IntKind.wrap .i64 (1 - s28)))) 64 _ hr75) (by kernel_rfl) (List.Perm.refl _) rfl rfl fun _ => ?_
                              refine r_pure tabOk 5 [4, 11, 12, 16, 17, 20, 22, 25, 26, 27] (E' := [(4, .one (.int .i64) a4), (11, .one (.int .i64) ax2), (12, .one (.int .i64) bx3), (16, ptr b24 0), (17, .one (.int .i64) s28), (20, .one (.raw (.pointer none)) (tupv v42 0)), (22, .one (.raw (.pointer none)) (tupv v51 0)), (25, .one (.int .i64) good63), (26, .one .str r75.1), (27, .one (.int .i64) r75.2)]) rfl ?_
                              refine r_nil ?_
                              refine r_then ?_
                              refine r_seq ?_
                              refine r_seq ?_
                              refine r_region ?_
                              refine r_pure tabOk 3 [4, 11, 12, 16, 17, 20, 25, 26, 27, 191, 193] (E' := [(4, .one (.int .i64) a4), (11, .one (.int .i64) ax2), (12, .one (.int .i64) bx3), (16, ptr b24 0), (17, .one (.int .i64) s28), (20, .one (.raw (.pointer none)) (tupv v42 0)), (25, .one (.int .i64) good63), (26, .one .str r75.1), (27, .one (.int .i64) r75.2), (191, .one (.raw (.pointer none)) (tupv v51 0)), (193, .one (.int .i64) (IntKind.wrap .i64 (good63 + 1)))]) rfl ?_
                              obtain ⟨he76, h⟩ := ite_ex h
                              refine r_imp_at (R' := Res.cls (CMark (tupv v42 0)) (tupv v51 0) r50.1.2) 1 rfl (clsif_cls he76) ?_
                              obtain ⟨r77, hr77, h⟩ := bind_ex h
                              refine r_call (Lo := [Res.var b24 26 (.arr 3 .str) [((List.set r5 (Int.toNat r4) (ixor .u8 (List.getD r5 (Int.toNat r4) 0) (ior .u8 a3 1))) ++ r19), (r21 ++ (List.set r7 (Int.toNat r4) (ixor .u8 (List.getD r7 (Int.toNat r4) 0) (ior .u8 a3 1)))), ((List.set r5 (Int.toNat r4) (ixor .u8 (List.getD r5 (Int.toNat r4) 0) (ior .u8 a3 1))) ++ (List.set r7 (Int.toNat r4) (ixor .u8 (List.getD r7 (Int.toNat r4) 0) (ior .u8 a3 1))))], Res.own (.slice (some ⟨b13, 0, none⟩) (List.length r7) c14) 5 (.int .u8) (List.set r7 (Int.toNat r4) (ixor .u8 (List.getD r7 (Int.toNat r4) 0) (ior .u8 a3 1))), Res.own (.slice (some ⟨b9, 0, none⟩) (List.length r5) c10) 5 (.int .u8) (List.set r5 (Int.toNat r4) (ixor .u8 (List.getD r5 (Int.toNat r4) 0) (ior .u8 a3 1)))]) (mark_Mark_Raise_ok (tupv v51 0) (tupv v42 0) r50.1.2 (IntKind.wrap .i64 (good63 + 1)) r50.2.2 _ hr77) (by kernel_rfl) ((List.perm_middle (a := Res.cls (CMark (tupv v42 0)) (tupv v51 0) r50.1.2) (l₁ := [Res.disk Tryz.prog dI (tupv v42 0) r50.2.2]) (l₂ := [Res.var b24 26 (.arr 3 .str) [((List.set r5 (Int.toNat r4) (ixor .u8 (List.getD r5 (Int.toNat r4) 0) (ior .u8 a3 1))) ++ r19), (r21 ++ (List.set r7 (Int.toNat r4) (ixor .u8 (List.getD r7 (Int.toNat r4) 0) (ior .u8 a3 1)))), ((List.set r5 (Int.toNat r4) (ixor .u8 (List.getD r5 (Int.toNat r4) 0) (ior .u8 a3 1))) ++ (List.set r7 (Int.toNat r4) (ixor .u8 (List.getD r7 (Int.toNat r4) 0) (ior .u8 a3 1))))], Res.own (.slice (some ⟨b13, 0, none⟩) (List.length r7) c14) 5 (.int .u8) (List.set r7 (Int.toNat r4) (ixor .u8 (List.getD r7 (Int.toNat r4) 0) (ior .u8 a3 1))), Res.own (.slice (some ⟨b9, 0, none⟩) (List.length r5) c10) 5 (.int .u8) (List.set r5 (Int.toNat r4) (ixor .u8 (List.getD r5 (Int.toNat r4) 0) (ior .u8 a3 1)))])).trans (.cons _ (List.Perm.refl _))) rfl rfl fun _ => ?_
                              refine r_pure tabOk 2 [4, 11, 12, 16, 17, 20, 25, 26, 27, 196] (E' := [(4, .one (.int .i64) a4), (11, .one (.int .i64) ax2), (12, .one (.int .i64) bx3), (16, ptr b24 0), (17, .one (.int .i64) s28), (20, .one (.raw (.pointer none)) (tupv v42 0)), (25, .one (.int .i64) good63), (26, .one .str r75.1), (27, .one (.int .i64) r75.2), (196, .one .bool (r77.1 != 0))]) rfl ?_
                              obtain ⟨b78, hbb78, h⟩ := bnd_ex h
                              rw [hbb78]
                              refine r_lsplit (γ := Unit) 3 (fun _ => [(4, .one (.int .i64) a4), (11, .one (.int .i64) ax2), (12, .one (.int .i64) bx3), (16, ptr b24 0), (17, .one (.int .i64) s28), (20, .one (.raw (.pointer none)) (tupv v42 0)), (25, .one (.int .i64) good63), (26, .one .str r75.1), (199, .one .bool (b78 || (r75.2 != 0)))]) (fun _ => [Res.cls (CMark (tupv v42 0)) (tupv v51 0) r77.2.1, Res.disk Tryz.prog dI (tupv v42 0) r77.2.2, Res.var b24 26 (.arr 3 .str) [((List.set r5 (Int.toNat r4) (ixor .u8 (List.getD r5 (Int.toNat r4) 0) (ior .u8 a3 1))) ++ r19), (r21 ++ (List.set r7 (Int.toNat r4) (ixor .u8 (List.getD r7 (Int.toNat r4) 0) (ior .u8 a3 1)))), ((List.set r5 (Int.toNat r4) (ixor .u8 (List.getD r5 (Int.toNat r4) 0) (ior .u8 a3 1))) ++ (List.set r7 (Int.toNat r4) (ixor .u8 (List.getD r7 (Int.toNat r4) 0) (ior .u8 a3 1))))], Res.own (.slice (some ⟨b13, 0, none⟩) (List.length r7) c14) 5 (.int .u8) (List.set r7 (Int.toNat r4) (ixor .u8 (List.getD r7 (Int.toNat r4) 0) (ior .u8 a3 1))), Res.own (.slice (some ⟨b9, 0, none⟩) (List.length r5) c10) 5 (.int .u8) (List.set r5 (Int.toNat r4) (ixor .u8 (List.getD r5 (Int.toNat r4) 0) (ior .u8 a3 1)))]) ?_ (fun _ => ?_)
                              · clear h
                                cases b78 with
                                | true =>
                                refine r_pure tabOk 3 [4, 11, 12, 16, 17, 20, 25, 26, 199] (E' := [(4, .one (.int .i64) a4), (11, .one (.int .i64) ax2), (12, .one (.int .i64) bx3), (16, ptr b24 0), (17, .one (.int .i64) s28), (20, .one (.raw (.pointer none)) (tupv v42 0)), (25, .one (.int .i64) good63), (26, .one .str r75.1), (199, .one .bool true)]) rfl ?_
                                refine r_nil ?_
                                refine r_then ?_
                                exact r_meetg () rfl rfl
                                | false =>
                                refine r_pure tabOk 3 [4, 11, 12, 16, 17, 20, 25, 26, 199] (E' := [(4, .one (.int .i64) a4), (11, .one (.int .i64) ax2), (12, .one (.int .i64) bx3), (16, ptr b24 0), (17, .one (.int .i64) s28), (20, .one (.raw (.pointer none)) (tupv v42 0)), (25, .one (.int .i64) good63), (26, .one .str r75.1), (199, .one .bool (r75.2 != 0))]) rfl ?_
                                refine r_nil ?_
                                refine r_then ?_
                                exact r_meetg () rfl rfl
                              refine r_nil ?_
                              refine r_then ?_
                              refine r_if (b := (b78 || (r75.2 != 0))) rfl (fun hc => ?_) (fun hc => ?_)
                              · rw [if_pos hc] at h
                                refine r_seq ?_
                                refine r_region ?_
                                refine r_pure tabOk 1 [10] (E' := [(10, .one .bool false)]) rfl ?_
                                refine r_nil ?_
                                refine r_then ?_
                                refine r_ret ?_
                                refine t_then ?_
                                refine t_block ?_
                                refine t_then ?_
                                refine t_then ?_
                                refine t_block ?_
                                refine t_then ?_
                                obtain rfl := Option.some.inj h
                                exact r_ret1 rfl (.tmp rfl) (fun _ _ g => g) (fun _ _ _ => List.nil_sublist _)
                              · rw [if_neg (ne_true_of_eq_false hc)] at h
                                refine r_skip ?_
                                refine r_then ?_
                                refine r_seq ?_
                                refine r_region ?_
                                refine r_pure tabOk 3 [4, 11, 12, 16, 17, 20, 25, 26, 201, 203] (E' := [(4, .one (.int .i64) a4), (11, .one (.int .i64) ax2), (12, .one (.int .i64) bx3), (16, ptr b24 0), (17, .one (.int .i64) s28), (20, .one (.raw (.pointer none)) (tupv v42 0)), (25, .one (.int .i64) good63), (26, .one .str r75.1), (201, .one (.raw (.pointer none)) (tupv v42 0)), (203, .one (.int .i64) (IntKind.wrap .i64 (64 * s28)))]) rfl ?_
                                obtain ⟨r79, hr79, h⟩ := bind_ex h
                                refine r_call (Lo := [Res.cls (CMark (tupv v42 0)) (tupv v51 0) r77.2.1, Res.var b24 26 (.arr 3 .str) [((List.set r5 (Int.toNat r4) (ixor .u8 (List.getD r5 (Int.toNat r4) 0) (ior .u8 a3 1))) ++ r19), (r21 ++ (List.set r7 (Int.toNat r4) (ixor .u8 (List.getD r7 (Int.toNat r4) 0) (ior .u8 a3 1)))), ((List.set r5 (Int.toNat r4) (ixor .u8 (List.getD r5 (Int.toNat r4) 0) (ior .u8 a3 1))) ++ (List.set r7 (Int.toNat r4) (ixor .u8 (List.getD r7 (Int.toNat r4) 0) (ior .u8 a3 1))))], Res.own (.slice (some ⟨b13, 0, none⟩) (List.length r7) c14) 5 (.int .u8) (List.set r7 (Int.toNat r4) (ixor .u8 (List.getD r7 (Int.toNat r4) 0) (ior .u8 a3 1))), Res.own (.slice (some ⟨b9, 0, none⟩) (List.length r5) c10) 5 (.int .u8) (List.set r5 (Int.toNat r4) (ixor .u8 (List.getD r5 (Int.toNat r4) 0) (ior .u8 a3 1)))]) (disk_Disk_Read_ok (tupv v42 0) r77.2.2 [109] (IntKind.wrap .i64 (64 * s28)) 64 _ hr79) (by kernel_rfl) ((List.perm_middle (a := Res.disk Tryz.prog dI (tupv v42 0) r77.2.2) (l₁ := [Res.cls (CMark (tupv v42 0)) (tupv v51 0) r77.2.1]) (l₂ := [Res.var b24 26 (.arr 3 .str) [((List.set r5 (Int.toNat r4) (ixor .u8 (List.getD r5 (Int.toNat r4) 0) (ior .u8 a3 1))) ++ r19), (r21 ++ (List.set r7 (Int.toNat r4) (ixor .u8 (List.getD r7 (Int.toNat r4) 0) (ior .u8 a3 1)))), ((List.set r5 (Int.toNat r4) (ixor .u8 (List.getD r5 (Int.toNat r4) 0) (ior .u8 a3 1))) ++ (List.set r7 (Int.toNat r4) (ixor .u8 (List.getD r7 (Int.toNat r4) 0) (ior .u8 a3 1))))], Res.own (.slice (some ⟨b13, 0, none⟩) (List.length r7) c14) 5 (.int .u8) (List.set r7 (Int.toNat r4) (ixor .u8 (List.getD r7 (Int.toNat r4) 0) (ior .u8 a3 1))), Res.own (.slice (some ⟨b9, 0, none⟩) (List.length r5) c10) 5 (.int .u8) (List.set r5 (Int.toNat r4) (ixor .u8 (List.getD r5 (Int.toNat r4) 0) (ior .u8 a3 1)))])).trans (.cons _ (List.Perm.refl _))) rfl rfl fun _ => ?_
                                refine r_pure tabOk 5 [4, 11, 12, 16, 17, 20, 25, 26, 28, 29] (E' := [(4, .one (.int .i64) a4), (11, .one (.int .i64) ax2), (12, .one (.int .i64) bx3), (16, ptr b24 0), (17, .one (.int .i64) s28), (20, .one (.raw (.pointer none)) (tupv v42 0)), (25, .one (.int .i64) good63), (26, .one .str r75.1), (28, .one .str r79.1), (29, .one (.int .i64) r79.2)]) rfl ?_
                                refine r_nil ?_
                                refine r_then ?_
                                refine r_seq ?_
                                refine r_region ?_
                                refine r_pure tabOk 4 [4, 11, 12, 16, 17, 25, 26, 28, 29, 208, 211] (E' := [(4, .one (.int .i64) a4), (11, .one (.int .i64) ax2), (12, .one (.int .i64) bx3), (16, ptr b24 0), (17, .one (.int .i64) s28), (25, .one (.int .i64) good63), (26, .one .str r75.1), (28, .one .str r79.1), (29, .one (.int .i64) r79.2), (208, .one (.raw (.pointer none)) (tupv v42 0)), (211, .one (.int .i64) (IntKind.wrap .i64 (64 * (IntKind.wrap .i64 (1 - s28)))))]) rfl ?_
                                obtain ⟨r80, hr80, h⟩ := bind_ex h
                                refine r_call (Lo := [Res.cls (CMark (tupv v42 0)) (tupv v51 0) r77.2.1, Res.var b24 26 (.arr 3 .str) [((List.set r5 (Int.toNat r4) (ixor .u8 (List.getD r5 (Int.toNat r4) 0) (ior .u8 a3 1))) ++ r19), (r21 ++ (List.set r7 (Int.toNat r4) (ixor .u8 (List.getD r7 (Int.toNat r4) 0) (ior .u8 a3 1)))), ((List.set r5 (Int.toNat r4) (ixor .u8 (List.getD r5 (Int.toNat r4) 0) (ior .u8 a3 1))) ++ (List.set r7 (Int.toNat r4) (ixor .u8 (List.getD r7 (Int.toNat r4) 0) (ior .u8 a3 1))))], Res.own (.slice (some ⟨b13, 0, none⟩) (List.length r7) c14) 5 (.int .u8) (List.set r7 (Int.toNat r4) (ixor .u8 (List.getD r7 (Int.toNat r4) 0) (ior .u8 a3 1))), Res.own (.slice (some ⟨b9, 0, none⟩) (List.length r5) c10) 5 (.int .u8) (List.set r5 (Int.toNat r4) (ixor .u8 (List.getD r5 (Int.toNat r4) 0) (ior .u8 a3 1)))]) (disk_Disk_Read_ok (tupv v42 0) r77.2.2 [109] (IntKind.wrap .i64 (64 * (IntKind.wrap .i64 (1 - s28)))) 64 _ hr80) (by kernel_rfl) (List.Perm.refl _) rfl rfl fun _ => ?_
                                refine r_pure tabOk 5 [4, 11, 12, 16, 17, 25, 26, 28, 29, 30, 31] (E' := [(4, .one (.int .i64) a4), (11, .one (.int .i64) ax2), (12, .one (.int .i64) bx3), (16, ptr b24 0), (17, .one (.int .i64) s28), (25, .one (.int .i64) good63), (26, .one .str r75.1), (28, .one .str r79.1), (29, .one (.int .i64) r79.2), (30, .one .str r80.1), (31, .one (.int .i64) r80.2)]) rfl ?_
                                refine r_nil ?_
                                refine r_then ?_
                                refine r_seq ?_
                                refine r_region ?_
                                refine r_pure tabOk 3 [4, 11, 12, 16, 17, 25, 26, 28, 30, 31, 217] (E' := [(4, .one (.int .i64) a4), (11, .one (.int .i64) ax2), (12, .one (.int .i64) bx3), (16, ptr b24 0), (17, .one (.int .i64) s28), (25, .one (.int .i64) good63), (26, .one .str r75.1), (28, .one .str r79.1), (30, .one .str r80.1), (31, .one (.int .i64) r80.2), (217, .one .bool (r79.2 != 0))]) rfl ?_
                                obtain ⟨b81, hbb81, h⟩ := bnd_ex h
                                rw [hbb81]
                                refine r_lsplit (γ := Unit) 3 (fun _ => [(4, .one (.int .i64) a4), (11, .one (.int .i64) ax2), (12, .one (.int .i64) bx3), (16, ptr b24 0), (17, .one (.int .i64) s28), (25, .one (.int .i64) good63), (26, .one .str r75.1), (28, .one .str r79.1), (30, .one .str r80.1), (220, .one .bool (b81 || (r80.2 != 0)))]) (fun _ => [Res.disk Tryz.prog dI (tupv v42 0) r77.2.2, Res.cls (CMark (tupv v42 0)) (tupv v51 0) r77.2.1, Res.var b24 26 (.arr 3 .str) [((List.set r5 (Int.toNat r4) (ixor .u8 (List.getD r5 (Int.toNat r4) 0) (ior .u8 a3 1))) ++ r19), (r21 ++ (List.set r7 (Int.toNat r4) (ixor .u8 (List.getD r7 (Int.toNat r4) 0) (ior .u8 a3 1)))), ((List.set r5 (Int.toNat r4) (ixor .u8 (List.getD r5 (Int.toNat r4) 0) (ior .u8 a3 1))) ++ (List.set r7 (Int.toNat r4) (ixor .u8 (List.getD r7 (Int.toNat r4) 0) (ior .u8 a3 1))))], Res.own (.slice (some ⟨b13, 0, none⟩) (List.length r7) c14) 5 (.int .u8) (List.set r7 (Int.toNat r4) (ixor .u8 (List.getD r7 (Int.toNat r4) 0) (ior .u8 a3 1))), Res.own (.slice (some ⟨b9, 0, none⟩) (List.length r5) c10) 5 (.int .u8) (List.set r5 (Int.toNat r4) (ixor .u8 (List.getD r5 (Int.toNat r4) 0) (ior .u8 a3 1)))]) ?_ (fun _ => ?_)
                                · clear h
                                  cases b81 with
                                  | true =>
                                  refine r_pure tabOk 3 [4, 11, 12, 16, 17, 25, 26, 28, 30, 220] (E' := [(4, .one (.int .i64) a4), (11, .one (.int .i64) ax2), (12, .one (.int .i64) bx3), (16, ptr b24 0), (17, .one (.int .i64) s28), (25, .one (.int .i64) good63), (26, .one .str r75.1), (28, .one .str r79.1), (30, .one .str r80.1), (220, .one .bool true)]) rfl ?_
                                  refine r_nil ?_
                                  refine r_then ?_
                                  exact r_meetg () rfl rfl
                                  | false =>
                                  refine r_pure tabOk 3 [4, 11, 12, 16, 17, 25, 26, 28, 30, 220] (E' := [(4, .one (.int .i64) a4), (11, .one (.int .i64) ax2), (12, .one (.int .i64) bx3), (16, ptr b24 0), (17, .one (.int .i64) s28), (25, .one (.int .i64) good63), (26, .one .str r75.1), (28, .one .str r79.1), (30, .one .str r80.1), (220, .one .bool (r80.2 != 0))]) rfl ?_
                                  refine r_nil ?_
                                  refine r_then ?_
                                  exact r_meetg () rfl rfl
                                refine r_pure tabOk 1 [4, 11, 12, 16, 17, 25, 26, 28, 30, 221] (E' := [(4, .one (.int .i64) a4), (11, .one (.int .i64) ax2), (12, .one (.int .i64) bx3), (16, ptr b24 0), (17, .one (.int .i64) s28), (25, .one (.int .i64) good63), (26, .one .str r75.1), (28, .one .str r79.1), (30, .one .str r80.1), (221, .one .bool (b81 || (r80.2 != 0)))]) rfl ?_
                                obtain ⟨b82, hbb82, h⟩ := bnd_ex h
                                rw [hbb82]
                                obtain ⟨k83, hk83, h⟩ := bnd_ex h
                                refine r_lsplitk (γ := Unit) 6 (fun (o84 : Bool) _ => [(4, .one (.int .i64) a4), (11, .one (.int .i64) ax2), (12, .one (.int .i64) bx3), (16, ptr b24 0), (17, .one (.int .i64) s28), (26, .one .str r75.1), (30, .one .str r80.1), (227, .one .bool o84)]) (fun _ _ => [Res.disk Tryz.prog dI (tupv v42 0) r77.2.2, Res.cls (CMark (tupv v42 0)) (tupv v51 0) r77.2.1, Res.var b24 26 (.arr 3 .str) [((List.set r5 (Int.toNat r4) (ixor .u8 (List.getD r5 (Int.toNat r4) 0) (ior .u8 a3 1))) ++ r19), (r21 ++ (List.set r7 (Int.toNat r4) (ixor .u8 (List.getD r7 (Int.toNat r4) 0) (ior .u8 a3 1)))), ((List.set r5 (Int.toNat r4) (ixor .u8 (List.getD r5 (Int.toNat r4) 0) (ior .u8 a3 1))) ++ (List.set r7 (Int.toNat r4) (ixor .u8 (List.getD r7 (Int.toNat r4) 0) (ior .u8 a3 1))))], Res.own (.slice (some ⟨b13, 0, none⟩) (List.length r7) c14) 5 (.int .u8) (List.set r7 (Int.toNat r4) (ixor .u8 (List.getD r7 (Int.toNat r4) 0) (ior .u8 a3 1))), Res.own (.slice (some ⟨b9, 0, none⟩) (List.length r5) c10) 5 (.int .u8) (List.set r5 (Int.toNat r4) (ixor .u8 (List.getD r5 (Int.toNat r4) 0) (ior .u8 a3 1)))]) k83 r ?_ ?_
                                · rcases Bool.eq_false_or_eq_true b82 with hh | hh
                                  · rw [hh] at h ⊢
                                    rw [if_pos rfl] at h
                                    refine r_pure tabOk 6 [4, 11, 12, 16, 17, 26, 30, 227] (E' := [(4, .one (.int .i64) a4), (11, .one (.int .i64) ax2), (12, .one (.int .i64) bx3), (16, ptr b24 0), (17, .one (.int .i64) s28), (26, .one .str r75.1), (30, .one .str r80.1), (227, .one .bool true)]) rfl ?_
                                    refine r_nil ?_
                                    refine r_less [4, 11, 12, 16, 17, 26, 30, 227] rfl ?_
                                    refine r_then ?_
                                    exact r_meetk true () h rfl rfl
                                  · rw [hh] at h ⊢
                                    rw [if_neg (by decide)] at h
                                    refine r_pure tabOk 3 [4, 11, 12, 16, 17, 26, 30, 221, 222, 224] (E' := [(4, .one (.int .i64) a4), (11, .one (.int .i64) ax2), (12, .one (.int .i64) bx3), (16, ptr b24 0), (17, .one (.int .i64) s28), (26, .one .str r75.1), (30, .one .str r80.1), (221, .one .bool false), (222, .one .str r79.1), (224, .one (.int .i64) (IntKind.wrap .i64 (good63 + 1)))]) rfl ?_
                                    refine r_guard (by rfl) rfl ?_
                                    obtain ⟨r85, hr85, h⟩ := bind_ex h
                                    refine r_calls (escrowlaw19_slot_ok (IntKind.wrap .i64 (good63 + 1)) _ hr85) (by kernel_rfl) rfl rfl ?_
                                    refine r_pure tabOk 2 [4, 11, 12, 16, 17, 26, 30, 227] (E' := [(4, .one (.int .i64) a4), (11, .one (.int .i64) ax2), (12, .one (.int .i64) bx3), (16, ptr b24 0), (17, .one (.int .i64) s28), (26, .one .str r75.1), (30, .one .str r80.1), (227, .one .bool (r79.1 != r85))]) rfl ?_
                                    refine r_nil ?_
                                    refine r_less [4, 11, 12, 16, 17, 26, 30, 227] rfl ?_
                                    refine r_then ?_
                                    exact r_meetk (r79.1 != r85) () h rfl rfl
                                · intro o84 _ h
                                  rw [← hk83] at h
                                  try dsimp only at h
                                  refine r_pure tabOk 1 [4, 11, 12, 16, 17, 26, 30, 228] (E' := [(4, .one (.int .i64) a4), (11, .one (.int .i64) ax2), (12, .one (.int .i64) bx3), (16, ptr b24 0), (17, .one (.int .i64) s28), (26, .one .str r75.1), (30, .one .str r80.1), (228, .one .bool o84)]) rfl ?_
                                  refine r_lsplit (γ := Unit) 4 (fun _ => [(4, .one (.int .i64) a4), (11, .one (.int .i64) ax2), (12, .one (.int .i64) bx3), (16, ptr b24 0), (17, .one (.int .i64) s28), (232, .one .bool (o84 || (r80.1 != r75.1)))]) (fun _ => [Res.disk Tryz.prog dI (tupv v42 0) r77.2.2, Res.cls (CMark (tupv v42 0)) (tupv v51 0) r77.2.1, Res.var b24 26 (.arr 3 .str) [((List.set r5 (Int.toNat r4) (ixor .u8 (List.getD r5 (Int.toNat r4) 0) (ior .u8 a3 1))) ++ r19), (r21 ++ (List.set r7 (Int.toNat r4) (ixor .u8 (List.getD r7 (Int.toNat r4) 0) (ior .u8 a3 1)))), ((List.set r5 (Int.toNat r4) (ixor .u8 (List.getD r5 (Int.toNat r4) 0) (ior .u8 a3 1))) ++ (List.set r7 (Int.toNat r4) (ixor .u8 (List.getD r7 (Int.toNat r4) 0) (ior .u8 a3 1))))], Res.own (.slice (some ⟨b13, 0, none⟩) (List.length r7) c14) 5 (.int .u8) (List.set r7 (Int.toNat r4) (ixor .u8 (List.getD r7 (Int.toNat r4) 0) (ior .u8 a3 1))), Res.own (.slice (some ⟨b9, 0, none⟩) (List.length r5) c10) 5 (.int .u8) (List.set r5 (Int.toNat r4) (ixor .u8 (List.getD r5 (Int.toNat r4) 0) (ior .u8 a3 1)))]) ?_ (fun _ => ?_)
                                  · clear h
                                    rcases Bool.eq_false_or_eq_true o84 with hh | hh
                                    · rw [hh]
                                      refine r_pure tabOk 4 [4, 11, 12, 16, 17, 232] (E' := [(4, .one (.int .i64) a4), (11, .one (.int .i64) ax2), (12, .one (.int .i64) bx3), (16, ptr b24 0), (17, .one (.int .i64) s28), (232, .one .bool true)]) rfl ?_
                                      refine r_nil ?_
                                      refine r_then ?_
                                      exact r_meetg () rfl rfl
                                    · rw [hh]
                                      refine r_pure tabOk 4 [4, 11, 12, 16, 17, 232] (E' := [(4, .one (.int .i64) a4), (11, .one (.int .i64) ax2), (12, .one (.int .i64) bx3), (16, ptr b24 0), (17, .one (.int .i64) s28), (232, .one .bool (r80.1 != r75.1))]) rfl ?_
                                      refine r_nil ?_
                                      refine r_then ?_
                                      exact r_meetg () rfl rfl
                                  refine r_nil ?_
                                  refine r_then ?_
                                  refine r_if (b := (o84 || (r80.1 != r75.1))) rfl (fun hc => ?_) (fun hc => ?_)
                                  · rw [if_pos hc] at h
                                    refine r_seq ?_
                                    refine r_region ?_
                                    refine r_pure tabOk 1 [10] (E' := [(10, .one .bool false)]) rfl ?_
                                    refine r_nil ?_
                                    refine r_then ?_
                                    refine r_ret ?_
                                    refine t_block ?_
                                    refine t_then ?_
                                    refine t_then ?_
                                    refine t_block ?_
                                    refine t_then ?_
                                    obtain rfl := Option.some.inj h
                                    exact r_ret1 rfl (.tmp rfl) (fun _ _ g => g) (fun _ _ _ => List.nil_sublist _)
                                  · rw [if_neg (ne_true_of_eq_false hc)] at h
                                    refine r_skip ?_
                                    refine r_inblock ?_
                                    refine r_then ?_
                                    refine r_lose (L' := [Res.var b24 26 (.arr 3 .str) [((List.set r5 (Int.toNat r4) (ixor .u8 (List.getD r5 (Int.toNat r4) 0) (ior .u8 a3 1))) ++ r19), (r21 ++ (List.set r7 (Int.toNat r4) (ixor .u8 (List.getD r7 (Int.toNat r4) 0) (ior .u8 a3 1)))), ((List.set r5 (Int.toNat r4) (ixor .u8 (List.getD r5 (Int.toNat r4) 0) (ior .u8 a3 1))) ++ (List.set r7 (Int.toNat r4) (ixor .u8 (List.getD r7 (Int.toNat r4) 0) (ior .u8 a3 1))))], Res.own (.slice (some ⟨b13, 0, none⟩) (List.length r7) c14) 5 (.int .u8) (List.set r7 (Int.toNat r4) (ixor .u8 (List.getD r7 (Int.toNat r4) 0) (ior .u8 a3 1))), Res.own (.slice (some ⟨b9, 0, none⟩) (List.length r5) c10) 5 (.int .u8) (List.set r5 (Int.toNat r4) (ixor .u8 (List.getD r5 (Int.toNat r4) 0) (ior .u8 a3 1)))]) (.cons _ (.cons _ (.cons_cons _ (.cons_cons _ (.cons_cons _ .slnil))))) ?_
                                    refine r_less [4, 11, 12, 16, 17] rfl ?_
                                    exact r_meetk () () h rfl rfl
                            · rw [if_neg (ne_true_of_eq_false hc)] at h
                              refine r_skip ?_
                              refine r_inblock ?_
                              refine r_then ?_
                              refine r_lose (L' := [Res.var b24 26 (.arr 3 .str) [((List.set r5 (Int.toNat r4) (ixor .u8 (List.getD r5 (Int.toNat r4) 0) (ior .u8 a3 1))) ++ r19), (r21 ++ (List.set r7 (Int.toNat r4) (ixor .u8 (List.getD r7 (Int.toNat r4) 0) (ior .u8 a3 1)))), ((List.set r5 (Int.toNat r4) (ixor .u8 (List.getD r5 (Int.toNat r4) 0) (ior .u8 a3 1))) ++ (List.set r7 (Int.toNat r4) (ixor .u8 (List.getD r7 (Int.toNat r4) 0) (ior .u8 a3 1))))], Res.own (.slice (some ⟨b13, 0, none⟩) (List.length r7) c14) 5 (.int .u8) (List.set r7 (Int.toNat r4) (ixor .u8 (List.getD r7 (Int.toNat r4) 0) (ior .u8 a3 1))), Res.own (.slice (some ⟨b9, 0, none⟩) (List.length r5) c10) 5 (.int .u8) (List.set r5 (Int.toNat r4) (ixor .u8 (List.getD r5 (Int.toNat r4) 0) (ior .u8 a3 1)))]) (.cons _ (.cons _ (.cons_cons _ (.cons_cons _ (.cons_cons _ .slnil))))) ?_
                              refine r_less [4, 11, 12, 16, 17] rfl ?_
                              exact r_meetk () () h rfl rfl
          · intro o31 gg h
            rw [← hk30] at h
            try dsimp only at h
            refine r_region ?_
            refine r_pure tabOk 3 [4, 11, 12, 16, 17] (E' := [(4, .one (.int .i64) a4), (11, .one (.int .i64) ax2), (12, .one (.int .i64) bx3), (16, ptr b24 0), (17, .one (.int .i64) (IntKind.wrap .i64 (s28 + 1)))]) rfl ?_
            obtain ⟨i32, hi32, h⟩ := bnd_ex h
            rw [hi32]
            refine r_nil ?_
            refine r_then ?_
            refine r_less [4, 11, 12, 16, 17] rfl ?_
            exact r_backg i32 () (Nat.lt_succ_self _) h rfl rfl
        · rw [if_neg (ne_true_of_eq_false hc)] at h
          refine r_exit ?_
          refine e_then ?_
          refine e_then ?_
          refine e_eq ?_
          refine r_then ?_
          refine r_less [] rfl ?_
          exact r_meetk () () h rfl rfl
      · intro o26 gg h
        rw [← hk25] at h
        try dsimp only at h
        refine r_seq ?_
        refine r_region ?_
        refine r_pure tabOk 1 [10] (E' := [(10, .one .bool true)]) rfl ?_
        refine r_nil ?_
        refine r_then ?_
        refine r_ret ?_
        obtain rfl := Option.some.inj h
        exact r_ret1 rfl (.tmp rfl) (fun _ _ g => g) (fun _ _ _ => List.nil_sublist _)
    · refine h_take (i := 0) (t := .one (.raw (.slice none 0 0)) (.slice (some ⟨b9, 0, none⟩) (List.length r5) c10)) (blind_then blind_body) rfl (by kernel_rfl) (by kernel_rfl) (by kernel_rfl) (allis_cons (own_is 1 rfl hz17) (allis_cons (own_is 0 rfl hz18) allis_nil)) (y_pure tabOk rfl) rfl ?_
      refine h_take (i := 1) (t := .one .str (List.set r5 (Int.toNat r4) (ixor .u8 (List.getD r5 (Int.toNat r4) 0) (ior .u8 a3 1)))) (blind_then blind_body) rfl (by kernel_rfl) (by kernel_rfl) (by kernel_rfl) (allis_cons (own_is 1 rfl hz17) (allis_cons (own_is 0 rfl hz18) allis_nil)) (y_heldtext (S := fun w => AllIs [OwnIs b9 5 (.int .u8) (List.set r5 (Int.toNat r4) (ixor .u8 (List.getD r5 (Int.toNat r4) 0) (ior .u8 a3 1))), OwnIs b13 5 (.int .u8) (List.set r7 (Int.toNat r4) (ixor .u8 (List.getD r7 (Int.toNat r4) 0) (ior .u8 a3 1)))] w) tabOk (allis_at 0 rfl) 1 rfl rfl rfl rfl rfl hz17) rfl ?_
      refine h_take (i := 2) (t := .one (.int .i64) bx3) (blind_then blind_body) rfl (by kernel_rfl) (by kernel_rfl) (by kernel_rfl) (allis_cons (own_is 1 rfl hz17) (allis_cons (own_is 0 rfl hz18) allis_nil)) (y_pure tabOk rfl) rfl ?_
      refine h_take (i := 5) (t := .one (.int .i64) ax2) (blind_then blind_body) rfl (by kernel_rfl) (by kernel_rfl) (by kernel_rfl) (allis_cons (own_is 1 rfl hz17) (allis_cons (own_is 0 rfl hz18) allis_nil)) (y_pure tabOk rfl) rfl ?_
      refine h_take (i := 7) (t := .one (.raw (.slice none 0 0)) (.slice (some ⟨b13, 0, none⟩) (List.length r7) c14)) (blind_then blind_body) rfl (by kernel_rfl) (by kernel_rfl) (by kernel_rfl) (allis_cons (own_is 1 rfl hz17) (allis_cons (own_is 0 rfl hz18) allis_nil)) (y_pure tabOk rfl) rfl ?_
      refine h_take (i := 8) (t := .one .str (List.set r7 (Int.toNat r4) (ixor .u8 (List.getD r7 (Int.toNat r4) 0) (ior .u8 a3 1)))) (blind_then blind_body) rfl (by kernel_rfl) (by kernel_rfl) (by kernel_rfl) (allis_cons (own_is 1 rfl hz17) (allis_cons (own_is 0 rfl hz18) allis_nil)) (y_heldtext (S := fun w => AllIs [OwnIs b9 5 (.int .u8) (List.set r5 (Int.toNat r4) (ixor .u8 (List.getD r5 (Int.toNat r4) 0) (ior .u8 a3 1))), OwnIs b13 5 (.int .u8) (List.set r7 (Int.toNat r4) (ixor .u8 (List.getD r7 (Int.toNat r4) 0) (ior .u8 a3 1)))] w) tabOk (allis_at 1 rfl) 0 rfl rfl rfl rfl rfl hz18) rfl ?_
      refine h_take (i := 10) (t := .one (.raw (.slice none 0 0)) (.slice (some ⟨b9, 0, none⟩) (List.length r5) c10)) (blind_then blind_body) rfl (by kernel_rfl) (by kernel_rfl) (by kernel_rfl) (allis_cons (own_is 1 rfl hz17) (allis_cons (own_is 0 rfl hz18) allis_nil)) (y_pure tabOk rfl) rfl ?_
      refine h_take (i := 11) (t := .one .str (List.set r5 (Int.toNat r4) (ixor .u8 (List.getD r5 (Int.toNat r4) 0) (ior .u8 a3 1)))) (blind_then blind_body) rfl (by kernel_rfl) (by kernel_rfl) (by kernel_rfl) (allis_cons (own_is 1 rfl hz17) (allis_cons (own_is 0 rfl hz18) allis_nil)) (y_heldtext (S := fun w => AllIs [OwnIs b9 5 (.int .u8) (List.set r5 (Int.toNat r4) (ixor .u8 (List.getD r5 (Int.toNat r4) 0) (ior .u8 a3 1))), OwnIs b13 5 (.int .u8) (List.set r7 (Int.toNat r4) (ixor .u8 (List.getD r7 (Int.toNat r4) 0) (ior .u8 a3 1)))] w) tabOk (allis_at 0 rfl) 1 rfl rfl rfl rfl rfl hz17) rfl ?_
      refine h_take (i := 12) (t := .one (.raw (.slice none 0 0)) (.slice (some ⟨b13, 0, none⟩) (List.length r7) c14)) (blind_then blind_body) rfl (by kernel_rfl) (by kernel_rfl) (by kernel_rfl) (allis_cons (own_is 1 rfl hz17) (allis_cons (own_is 0 rfl hz18) allis_nil)) (y_pure tabOk rfl) rfl ?_
      refine h_take (i := 13) (t := .one .str (List.set r7 (Int.toNat r4) (ixor .u8 (List.getD r7 (Int.toNat r4) 0) (ior .u8 a3 1)))) (blind_then blind_body) rfl (by kernel_rfl) (by kernel_rfl) (by kernel_rfl) (allis_cons (own_is 1 rfl hz17) (allis_cons (own_is 0 rfl hz18) allis_nil)) (y_heldtext (S := fun w => AllIs [OwnIs b9 5 (.int .u8) (List.set r5 (Int.toNat r4) (ixor .u8 (List.getD r5 (Int.toNat r4) 0) (ior .u8 a3 1))), OwnIs b13 5 (.int .u8) (List.set r7 (Int.toNat r4) (ixor .u8 (List.getD r7 (Int.toNat r4) 0) (ior .u8 a3 1)))] w) tabOk (allis_at 1 rfl) 0 rfl rfl rfl rfl rfl hz18) rfl ?_
      refine h_take (i := 14) (t := .one .str ((List.set r5 (Int.toNat r4) (ixor .u8 (List.getD r5 (Int.toNat r4) 0) (ior .u8 a3 1))) ++ (List.set r7 (Int.toNat r4) (ixor .u8 (List.getD r7 (Int.toNat r4) 0) (ior .u8 a3 1))))) (blind_then blind_body) rfl (by kernel_rfl) (by kernel_rfl) (by kernel_rfl) (allis_cons (own_is 1 rfl hz17) (allis_cons (own_is 0 rfl hz18) allis_nil)) (y_cat rfl rfl hq23) rfl ?_
      refine h_two (i := 3) (j := 16) (by kernel_rfl) rfl rfl ?_ ?_
      · refine r_calls (escrowlaw19_slot_ok bx3 _ hr19) (by kernel_rfl) rfl rfl ?_
        refine r_nil ?_
        refine r_then ?_
        refine h_in (allis_cons (own_is 1 rfl hz17) (allis_cons (own_is 0 rfl hz18) allis_nil)) ?_
        refine r_less [4, 11, 12, 67, 69, 71, 74, 80] rfl ?_
        refine h_take (i := 4) (t := .one .str ((List.set r5 (Int.toNat r4) (ixor .u8 (List.getD r5 (Int.toNat r4) 0) (ior .u8 a3 1))) ++ r19)) (blind_then blind_body) rfl (by kernel_rfl) (by kernel_rfl) (by kernel_rfl) (allis_cons (own_is 1 rfl hz17) (allis_cons (own_is 0 rfl hz18) allis_nil)) (y_cat rfl rfl hq20) rfl ?_
        refine h_two (i := 6) (j := 16) (by kernel_rfl) rfl rfl ?_ ?_
        · refine r_calls (escrowlaw19_slot_ok ax2 _ hr21) (by kernel_rfl) rfl rfl ?_
          refine r_nil ?_
          refine r_then ?_
          refine h_in (allis_cons (own_is 1 rfl hz17) (allis_cons (own_is 0 rfl hz18) allis_nil)) ?_
          refine r_less [4, 11, 12, 70, 72, 74, 80] rfl ?_
          refine h_take (i := 9) (t := .one .str (r21 ++ (List.set r7 (Int.toNat r4) (ixor .u8 (List.getD r7 (Int.toNat r4) 0) (ior .u8 a3 1))))) (blind_then blind_body) rfl (by kernel_rfl) (by kernel_rfl) (by kernel_rfl) (allis_cons (own_is 1 rfl hz17) (allis_cons (own_is 0 rfl hz18) allis_nil)) (y_cat rfl rfl hq22) rfl ?_
          refine h_take (i := 15) (t := .one (.arr 3 .str) [((List.set r5 (Int.toNat r4) (ixor .u8 (List.getD r5 (Int.toNat r4) 0) (ior .u8 a3 1))) ++ r19), (r21 ++ (List.set r7 (Int.toNat r4) (ixor .u8 (List.getD r7 (Int.toNat r4) 0) (ior .u8 a3 1)))), ((List.set r5 (Int.toNat r4) (ixor .u8 (List.getD r5 (Int.toNat r4) 0) (ior .u8 a3 1))) ++ (List.set r7 (Int.toNat r4) (ixor .u8 (List.getD r7 (Int.toNat r4) 0) (ior .u8 a3 1))))]) (blind_then blind_body) rfl (by kernel_rfl) (by kernel_rfl) (by kernel_rfl) (allis_cons (own_is 1 rfl hz17) (allis_cons (own_is 0 rfl hz18) allis_nil)) (y_build rfl zf26 rfl rfl (.cons (.elem 0 .here) rfl rfl (ok_elem (by first | omega | (simp only [List.length_set] at hc ⊢; omega)) ok_here) (.cons (.elem 1 .here) rfl rfl (ok_elem (by first | omega | (simp only [List.length_set] at hc ⊢; omega)) ok_here) (.cons (.elem 2 .here) rfl rfl (ok_elem (by first | omega | (simp only [List.length_set] at hc ⊢; omega)) ok_here) .nil)))) rfl ?_
          refine h_one (i := 16) (by kernel_rfl) rfl ?_
          refine r_alloc (t := (.arr 3 .str)) rfl zf26 rfl fun b88 => ?_
          refine r_nil ?_
          refine r_then ?_
          refine h_in (allis_cons (own_is 2 rfl hz17) (allis_cons (own_is 1 rfl hz18) allis_nil)) ?_
          refine r_less [4, 11, 12, 16, 81] rfl ?_
          refine h_one (i := 17) (by kernel_rfl) rfl ?_
          refine r_store 0 .here rfl rfl rfl (by first | rfl | (simp only [Pth.off, T.size]; omega)) ok_here ty26 ?_
          refine r_nil ?_
          refine r_then ?_
          refine h_in (allis_cons (own_is 2 rfl hz17) (allis_cons (own_is 1 rfl hz18) allis_nil)) ?_
          refine r_less [4, 11, 12, 16] rfl ?_
          refine h_end (by kernel_rfl) ?_
          refine r_less [4, 11, 12, 16] rfl ?_
          exact rest87 b88
        · refine r_alloc (t := (.arr 3 .str)) rfl zf26 rfl fun b89 => ?_
          refine r_nil ?_
          refine r_then ?_
          refine h_in (allis_cons (own_is 2 rfl hz17) (allis_cons (own_is 1 rfl hz18) allis_nil)) ?_
          refine r_less [4, 11, 12, 16, 70, 71, 74, 80] rfl ?_
          refine h_one (i := 6) (by kernel_rfl) rfl ?_
          refine r_calls (escrowlaw19_slot_ok ax2 _ hr21) (by kernel_rfl) rfl rfl ?_
          refine r_nil ?_
          refine r_then ?_
          refine h_in (allis_cons (own_is 2 rfl hz17) (allis_cons (own_is 1 rfl hz18) allis_nil)) ?_
          refine r_less [4, 11, 12, 16, 70, 72, 74, 80] rfl ?_
          refine h_take (i := 9) (t := .one .str (r21 ++ (List.set r7 (Int.toNat r4) (ixor .u8 (List.getD r7 (Int.toNat r4) 0) (ior .u8 a3 1))))) (blind_then blind_body) rfl (by kernel_rfl) (by kernel_rfl) (by kernel_rfl) (allis_cons (own_is 2 rfl hz17) (allis_cons (own_is 1 rfl hz18) allis_nil)) (y_cat rfl rfl hq22) rfl ?_
          refine h_take (i := 15) (t := .one (.arr 3 .str) [((List.set r5 (Int.toNat r4) (ixor .u8 (List.getD r5 (Int.toNat r4) 0) (ior .u8 a3 1))) ++ r19), (r21 ++ (List.set r7 (Int.toNat r4) (ixor .u8 (List.getD r7 (Int.toNat r4) 0) (ior .u8 a3 1)))), ((List.set r5 (Int.toNat r4) (ixor .u8 (List.getD r5 (Int.toNat r4) 0) (ior .u8 a3 1))) ++ (List.set r7 (Int.toNat r4) (ixor .u8 (List.getD r7 (Int.toNat r4) 0) (ior .u8 a3 1))))]) (blind_then blind_body) rfl (by kernel_rfl) (by kernel_rfl) (by kernel_rfl) (allis_cons (own_is 2 rfl hz17) (allis_cons (own_is 1 rfl hz18) allis_nil)) (y_build rfl zf26 rfl rfl (.cons (.elem 0 .here) rfl rfl (ok_elem (by first | omega | (simp only [List.length_set] at hc ⊢; omega)) ok_here) (.cons (.elem 1 .here) rfl rfl (ok_elem (by first | omega | (simp only [List.length_set] at hc ⊢; omega)) ok_here) (.cons (.elem 2 .here) rfl rfl (ok_elem (by first | omega | (simp only [List.length_set] at hc ⊢; omega)) ok_here) .nil)))) rfl ?_
          refine h_one (i := 17) (by kernel_rfl) rfl ?_
          refine r_store 0 .here rfl rfl rfl (by first | rfl | (simp only [Pth.off, T.size]; omega)) ok_here ty26 ?_
          refine r_nil ?_
          refine r_then ?_
          refine h_in (allis_cons (own_is 2 rfl hz17) (allis_cons (own_is 1 rfl hz18) allis_nil)) ?_
          refine r_less [4, 11, 12, 16] rfl ?_
          refine h_end (by kernel_rfl) ?_
          refine r_less [4, 11, 12, 16] rfl ?_
          exact rest87 b89
      · refine r_alloc (t := (.arr 3 .str)) rfl zf26 rfl fun b90 => ?_
        refine r_nil ?_
        refine r_then ?_
        refine h_in (allis_cons (own_is 2 rfl hz17) (allis_cons (own_is 1 rfl hz18) allis_nil)) ?_
        refine r_less [4, 11, 12, 16, 67, 68, 71, 74, 80] rfl ?_
        refine h_one (i := 3) (by kernel_rfl) rfl ?_
        refine r_calls (escrowlaw19_slot_ok bx3 _ hr19) (by kernel_rfl) rfl rfl ?_
        refine r_nil ?_
        refine r_then ?_
        refine h_in (allis_cons (own_is 2 rfl hz17) (allis_cons (own_is 1 rfl hz18) allis_nil)) ?_
        refine r_less [4, 11, 12, 16, 67, 69, 71, 74, 80] rfl ?_
        refine h_take (i := 4) (t := .one .str ((List.set r5 (Int.toNat r4) (ixor .u8 (List.getD r5 (Int.toNat r4) 0) (ior .u8 a3 1))) ++ r19)) (blind_then blind_body) rfl (by kernel_rfl) (by kernel_rfl) (by kernel_rfl) (allis_cons (own_is 2 rfl hz17) (allis_cons (own_is 1 rfl hz18) allis_nil)) (y_cat rfl rfl hq20) rfl ?_
        refine h_one (i := 6) (by kernel_rfl) rfl ?_
        refine r_calls (escrowlaw19_slot_ok ax2 _ hr21) (by kernel_rfl) rfl rfl ?_
        refine r_nil ?_
        refine r_then ?_
        refine h_in (allis_cons (own_is 2 rfl hz17) (allis_cons (own_is 1 rfl hz18) allis_nil)) ?_
        refine r_less [4, 11, 12, 16, 70, 72, 74, 80] rfl ?_
        refine h_take (i := 9) (t := .one .str (r21 ++ (List.set r7 (Int.toNat r4) (ixor .u8 (List.getD r7 (Int.toNat r4) 0) (ior .u8 a3 1))))) (blind_then blind_body) rfl (by kernel_rfl) (by kernel_rfl) (by kernel_rfl) (allis_cons (own_is 2 rfl hz17) (allis_cons (own_is 1 rfl hz18) allis_nil)) (y_cat rfl rfl hq22) rfl ?_
        refine h_take (i := 15) (t := .one (.arr 3 .str) [((List.set r5 (Int.toNat r4) (ixor .u8 (List.getD r5 (Int.toNat r4) 0) (ior .u8 a3 1))) ++ r19), (r21 ++ (List.set r7 (Int.toNat r4) (ixor .u8 (List.getD r7 (Int.toNat r4) 0) (ior .u8 a3 1)))), ((List.set r5 (Int.toNat r4) (ixor .u8 (List.getD r5 (Int.toNat r4) 0) (ior .u8 a3 1))) ++ (List.set r7 (Int.toNat r4) (ixor .u8 (List.getD r7 (Int.toNat r4) 0) (ior .u8 a3 1))))]) (blind_then blind_body) rfl (by kernel_rfl) (by kernel_rfl) (by kernel_rfl) (allis_cons (own_is 2 rfl hz17) (allis_cons (own_is 1 rfl hz18) allis_nil)) (y_build rfl zf26 rfl rfl (.cons (.elem 0 .here) rfl rfl (ok_elem (by first | omega | (simp only [List.length_set] at hc ⊢; omega)) ok_here) (.cons (.elem 1 .here) rfl rfl (ok_elem (by first | omega | (simp only [List.length_set] at hc ⊢; omega)) ok_here) (.cons (.elem 2 .here) rfl rfl (ok_elem (by first | omega | (simp only [List.length_set] at hc ⊢; omega)) ok_here) .nil)))) rfl ?_
        refine h_one (i := 17) (by kernel_rfl) rfl ?_
        refine r_store 0 .here rfl rfl rfl (by first | rfl | (simp only [Pth.off, T.size]; omega)) ok_here ty26 ?_
        refine r_nil ?_
        refine r_then ?_
        refine h_in (allis_cons (own_is 2 rfl hz17) (allis_cons (own_is 1 rfl hz18) allis_nil)) ?_
        refine r_less [4, 11, 12, 16] rfl ?_
        refine h_end (by kernel_rfl) ?_
        refine r_less [4, 11, 12, 16] rfl ?_
        exact rest87 b90
end Sx
