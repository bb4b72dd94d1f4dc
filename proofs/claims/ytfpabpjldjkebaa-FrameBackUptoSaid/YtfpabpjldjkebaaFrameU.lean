import Derived.Test.YtfpabpjldjkebaaFrameT
namespace Sx
open Go
theorem prefix_eq (a b : List Int) : strings_HasPrefix a b = some (decide (b = a.take b.length)) := by
  unfold strings_HasPrefix internal_stringslite_HasPrefix
  simp only [bnd_eq]
  by_cases h : b.length ≤ a.length
  · rw [if_pos (by simp; omega), if_pos (by omega), Int.toNat_natCast, List.drop_zero, bind_eq]
    congr 1
    rw [Bool.eq_iff_iff]; simp only [beq_iff_eq, decide_eq_true_eq]
    exact ⟨fun h => h.symm, fun h => h.symm⟩
  · rw [if_neg (by simp; omega), bind_eq]
    congr 1
    symm
    rw [decide_eq_false_iff_not]
    intro e
    have := congrArg List.length e
    simp at this; omega

theorem drop_byte {a : List Int} (h : byteOk a) (n : Nat) : byteOk (a.drop n) := fun c hc => h c (List.mem_of_mem_drop hc)
theorem take_byte {a : List Int} (h : byteOk a) (n : Nat) : byteOk (a.take n) := fun c hc => h c (List.mem_of_mem_take hc)

theorem Next_eq (b : List Int) (at0 n : Int) (hb : byteOk b) (hl : b.length ≤ 140737488351232) (ha : rng .i64 at0) (hn : rng .i64 n) : frame_Next b at0 n = some (nextAns b at0 n) := by
  have hn0 := hn
  simp only [rng, lo, hi] at ha hn
  unfold frame_Next nextAns
  by_cases h0 : at0 = (b.length : Int)
  · rw [if_pos (by simpa using h0), if_pos h0]
  · rw [if_neg (by simpa using h0), if_neg h0]
    simp only [bnd_eq]
    by_cases h1 : at0 < 0 ∨ at0 > (b.length : Int)
    · rw [if_pos (by rcases h1 with h | h <;> simp [h]), if_pos (by omega)]
    · have hw : IntKind.wrap .i64 ((b.length : Int) - at0) = (b.length : Int) - at0 := wrap_i64 (by omega) (by omega)
      rw [hw]
      by_cases h2 : (b.length : Int) - at0 < 16
      · rw [if_pos (by simp [h2]), if_pos (by omega)]
      · rw [if_neg (c := at0 < 0 ∨ at0 > (b.length : Int) ∨ (b.length : Int) - at0 < 16) (by omega)]
        have hz : (decide (at0 < 0) || decide (at0 > (b.length : Int)) || decide ((b.length : Int) - at0 < 16)) = false := by simp; omega
        rw [hz, if_neg (by simp), if_pos (c := (0 : Int) ≤ at0 ∧ at0 ≤ (b.length : Int) ∧ (b.length : Int) ≤ (b.length : Int)) (by omega)]
        obtain ⟨m, rfl⟩ := Int.eq_ofNat_of_zero_le (show 0 ≤ at0 by omega)
        simp only [Int.toNat_natCast, List.take_length]
        have hc : byteOk (b.drop m) := drop_byte hb m
        have hcl : 16 ≤ (b.drop m).length := by simp; omega
        generalize hcd : b.drop m = c at *
        have hcm : c.length ≤ 140737488351232 := by rw [← hcd]; simp; omega
        refine (Next_l0_eq hc (by omega) _ 4 0 (by omega)).trans ?_
        have hp := pre_bound hc 4
        obtain ⟨L, hL⟩ := Int.eq_ofNat_of_zero_le hp.1
        rw [hL]
        simp only [Int.toNat_natCast]
        have hw2 : IntKind.wrap .i64 ((c.length : Int) - 16) = (c.length : Int) - 16 := wrap_i64 (by omega) (by omega)
        rw [hw2]
        by_cases h3 : (L : Int) > 65536 ∨ (c.length : Int) - 16 < (L : Int)
        · have q : (decide ((L : Int) > 65536) || decide ((c.length : Int) - 16 < (L : Int))) = true := by simpa using h3
          rw [q, if_pos rfl, if_pos (by simp only [room]; omega)]
        · have q : (decide ((L : Int) > 65536) || decide ((c.length : Int) - 16 < (L : Int))) = false := by simp; omega
          have hw3 : IntKind.wrap .i64 (16 + (L : Int)) = ((16 + L : Nat) : Int) := by rw [wrap_i64 (by omega) (by omega)]; omega
          rw [q, if_neg (by simp), hw3, if_pos (c := (0 : Int) ≤ 16 ∧ (16 : Int) ≤ ((16 + L : Nat) : Int) ∧ ((16 + L : Nat) : Int) ≤ (c.length : Int)) (by omega), Int.toNat_natCast]
          have hpay : List.drop 16 (List.take (16 + L) c) = (c.drop 16).take L := by rw [List.drop_take]; congr 1; omega
          rw [hpay]
          have hpl : ((c.drop 16).take L).length = L := by simp; omega
          rw [Frame_eq n _ hn0 (take_byte (drop_byte hc 16) L) (by rw [hpl]; omega), bind_eq]
          unfold frameAns
          by_cases h4 : n < 0
          · simp [h4]
          · have hF : (if n < 0 then (([], 1) : List Int × Int) else if ((c.drop 16).take L).length > 65536 then ([], 3) else (frameOf n.toNat ((c.drop 16).take L), 0)) = (frameOf n.toNat ((c.drop 16).take L), 0) := by
              rw [if_neg h4, if_neg (by rw [hpl]; omega)]
            rw [hF]
            have hfl : (frameOf n.toNat ((c.drop 16).take L)).length = room L := by rw [frameOf_len, hpl]
            simp only [prefix_eq, hfl, bind_eq]
            rw [if_neg (by simp)]
            by_cases h5 : room L > c.length
            · rw [if_pos (c := n < 0 ∨ (L : Int) > 65536 ∨ room L > c.length) (by omega)]
              have : ¬ frameOf n.toNat ((c.drop 16).take L) = c.take (room L) := fun e => by
                have := congrArg List.length e
                rw [hfl] at this; simp at this; omega
              simp [this]
            · rw [if_neg (c := n < 0 ∨ (L : Int) > 65536 ∨ room L > c.length) (by omega)]
              by_cases h6 : frameOf n.toNat ((c.drop 16).take L) = c.take (room L)
              · simp [h6]
              · simp [h6]
end Sx
