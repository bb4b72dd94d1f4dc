import Derived.Test.YtfpabpjldjkebaaFrameU
namespace Sx
open Go
theorem rNext_eq (b : List Int) (at0 n : Int) (hb : byteOk b) (hl : b.length ≤ 140737488351232) (ha : rng .i64 at0) (hn : rng .i64 n) : escrowref05_Next b at0 n = some (nextAns b at0 n) := by
  have hn0 := hn
  simp only [rng, lo, hi] at ha hn
  unfold escrowref05_Next nextAns
  by_cases h0 : at0 = (b.length : Int)
  · rw [if_pos (by simpa using h0), if_pos h0]
  · rw [if_neg (by simpa using h0), if_neg h0]
    simp only [bnd_eq]
    by_cases h1 : at0 < 0 ∨ at0 > (b.length : Int)
    · rw [if_pos (by rcases h1 with h | h <;> simp [h]), if_pos (by omega)]
    · have hw : IntKind.wrap .i64 ((b.length : Int) - at0) = (b.length : Int) - at0 := wrap_i64 (by omega) (by omega)
      rw [hw]
      by_cases h2 : (b.length : Int) - at0 < 16
      · rw [if_pos (by simp [h2]), if_pos (by omega)]
      · rw [if_neg (c := at0 < 0 ∨ at0 > (b.length : Int) ∨ (b.length : Int) - at0 < 16) (by omega)]
        by_cases h4 : n < 0
        · rw [if_pos (by simp [h4]), if_pos (.inl h4)]
        · have hz : (decide (at0 < 0) || decide (at0 > (b.length : Int)) || decide (n < 0) || decide ((b.length : Int) - at0 < 16)) = false := by simp; omega
          rw [hz, if_neg (by simp)]
          obtain ⟨m, rfl⟩ := Int.eq_ofNat_of_zero_le (show 0 ≤ at0 by omega)
          simp only [Int.toNat_natCast]
          have hc : byteOk (b.drop m) := drop_byte hb m
          refine (rNext_l0_eq m hc (by omega) hl _ 4 0 (by omega)).trans ?_
          have hp := pre_bound hc 4
          obtain ⟨L, hL⟩ := Int.eq_ofNat_of_zero_le hp.1
          rw [hL]
          simp only [Int.toNat_natCast]
          have hlen : (b.drop m).length = b.length - m := by simp
          by_cases h3 : (L : Int) > 65536
          · rw [if_pos (c := n < 0 ∨ (L : Int) > 65536 ∨ room L > (b.drop m).length) (.inr (.inl h3))]
            simp [h3]
          · have hR := Room_eq L (by omega)
            have hd3 : decide ((L : Int) > 65536) = false := by simp; omega
            rw [hd3, if_neg (by simp), hR, bind_eq]
            by_cases h5 : room L > (b.drop m).length
            · rw [if_pos (c := n < 0 ∨ (L : Int) > 65536 ∨ room L > (b.drop m).length) (.inr (.inr h5)), if_pos (by simp; omega)]
            · rw [if_neg (c := n < 0 ∨ (L : Int) > 65536 ∨ room L > (b.drop m).length) (by omega), if_neg (by simp; omega)]
              have hr16 : 16 + L ≤ room L := by simp only [room]; omega
              have w1 : IntKind.wrap .i64 ((m : Int) + 16) = ((m + 16 : Nat) : Int) := by rw [wrap_i64 (by omega) (by omega)]; omega
              have w2 : IntKind.wrap .i64 (((m + 16 : Nat) : Int) + (L : Int)) = ((m + 16 + L : Nat) : Int) := by rw [wrap_i64 (by omega) (by omega)]; omega
              have w3 : IntKind.wrap .i64 ((m : Int) + (room L : Int)) = ((m + room L : Nat) : Int) := by rw [wrap_i64 (by omega) (by omega)]; omega
              simp only [w1, w2, w3, bind_eq, Int.toNat_natCast]
              rw [if_pos (c := (0 : Int) ≤ ((m + 16 : Nat) : Int) ∧ ((m + 16 : Nat) : Int) ≤ ((m + 16 + L : Nat) : Int) ∧ ((m + 16 + L : Nat) : Int) ≤ (b.length : Int)) (by omega)]
              have hpay : List.drop (m + 16) (List.take (m + 16 + L) b) = ((b.drop m).drop 16).take L := by
                rw [List.drop_drop, List.drop_take]; congr 1; omega
              have hrm : List.drop m (List.take (m + room L) b) = (b.drop m).take (room L) := by
                rw [List.drop_take]; congr 1; omega
              have hpl : (((b.drop m).drop 16).take L).length = L := by simp; omega
              rw [hpay, rFrame_eq n _ hn0 (take_byte (drop_byte hc 16) L) (by rw [hpl]; omega), bind_eq]
              rw [if_pos (c := (0 : Int) ≤ (m : Int) ∧ (m : Int) ≤ ((m + room L : Nat) : Int) ∧ ((m + room L : Nat) : Int) ≤ (b.length : Int)) (by omega), hrm]
              have hF : frameAns n (((b.drop m).drop 16).take L) = (frameOf n.toNat (((b.drop m).drop 16).take L), 0) := by
                unfold frameAns; rw [if_neg h4, if_neg (by rw [hpl]; omega)]
              rw [hF]
              by_cases h6 : frameOf n.toNat (((b.drop m).drop 16).take L) = (b.drop m).take (room L)
              · rw [if_neg (by rw [bne_iff_ne]; exact fun h => h h6), if_pos h6]
              · rw [if_pos (by rw [bne_iff_ne]; exact h6), if_neg h6]

set_option maxRecDepth 100000 in
theorem ffirst_eq : escrowlaw05_first = some true := by decide +kernel

theorem escrowlaw05_FrameReads_true (b : List Int) (at0 n : Int) (hb : byteOk b ∧ List.length b ≤ 140737488351232) (ha : rng .i64 at0) (hn : rng .i64 n) : escrowlaw05_FrameReads b at0 n = some true := by
  unfold escrowlaw05_FrameReads
  simp only [Next_eq b at0 n hb.1 hb.2 ha hn, rNext_eq b at0 n hb.1 hb.2 ha hn, ffirst_eq, bind_eq, bnd_eq]
  simp
end Sx
