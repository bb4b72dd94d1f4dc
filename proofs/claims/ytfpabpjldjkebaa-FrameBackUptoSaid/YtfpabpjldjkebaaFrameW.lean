import Derived.Test.YtfpabpjldjkebaaFrameV
namespace Sx
open Go

theorem room_ge (n : Nat) : 64 ≤ room n ∧ 16 + n ≤ room n ∧ room n ≤ n + 79 := by simp only [room]; omega

/-- what stands from a place on -/
def scanF : Nat → List Int → Int → Int → List (List Int) × Int × Bool
  | 0, _, at0, _ => ([], at0, false)
  | f + 1, b, at0, n =>
    if (nextAns b at0 n).2.2 = 1 then
      if n = 9223372036854775807 then ([(nextAns b at0 n).1], at0 + (nextAns b at0 n).2.1, decide (at0 + (nextAns b at0 n).2.1 < (b.length : Int)))
      else ((nextAns b at0 n).1 :: (scanF f b (at0 + (nextAns b at0 n).2.1) (n + 1)).1, (scanF f b (at0 + (nextAns b at0 n).2.1) (n + 1)).2)
    else ([], at0, decide (at0 < (b.length : Int)))

theorem next_whole {b : List Int} {at0 n : Int} (hb : byteOk b) (h : (nextAns b at0 n).2.2 = 1) : 0 ≤ at0 ∧ 0 ≤ n ∧ (nextAns b at0 n).2.1 = (room (nextAns b at0 n).1.length : Int) ∧ at0 + (nextAns b at0 n).2.1 ≤ (b.length : Int) ∧
    (nextAns b at0 n).1.length ≤ 65536 ∧ frameOf n.toNat (nextAns b at0 n).1 = (b.drop at0.toNat).take (room (nextAns b at0 n).1.length) := by
  revert h
  unfold nextAns
  split
  · intro h; cases h
  · rename_i h0
    split
    · intro h; cases h
    · rename_i h1
      split
      · intro h; cases h
      · rename_i h2
        split
        · rename_i h3
          intro _
          have hp := pre_bound (drop_byte hb at0.toNat) 4
          have hr := room_ge (pre (b.drop at0.toNat) 4).toNat
          simp only [List.length_drop] at h2
          have hl : (((b.drop at0.toNat).drop 16).take (pre (b.drop at0.toNat) 4).toNat).length = (pre (b.drop at0.toNat) 4).toNat := by simp; omega
          rw [hl]
          exact ⟨by omega, by omega, rfl, by show at0 + ((room _ : Nat) : Int) ≤ _; omega, by omega, h3⟩
        · intro h; cases h

theorem next_other {b : List Int} {at0 n : Int} (h0 : 0 ≤ at0) (h1 : at0 ≤ (b.length : Int)) (h : (nextAns b at0 n).2.2 ≠ 1) : nextAns b at0 n = ([], 0, if at0 = (b.length : Int) then 0 else 2) := by
  revert h
  unfold nextAns
  by_cases e : at0 = (b.length : Int)
  · simp [e]
  · simp only [if_neg e]
    split
    · intro _; rfl
    · split
      · intro _; rfl
      · split
        · intro h; exact absurd rfl h
        · intro _; rfl

theorem Scan_l0_eq (b : List Int) (hb : byteOk b) (hl : b.length ≤ 140737488351232) (K : (Int × Bool × List (List Int)) → Option (List (List Int) × Int × Bool)) : ∀ (f : Nat) (at0 n : Int) (acc : List (List Int)),
    0 ≤ at0 → at0 ≤ (b.length : Int) → rng .i64 n → (acc.length : Int) * 64 ≤ at0 → (b.length : Int) < at0 + 64 * (f : Int) →
    frame_Scan_l0 b K f (n, at0, acc) = K ((scanF f b at0 n).2.1, (scanF f b at0 n).2.2, acc ++ (scanF f b at0 n).1)
  | 0, at0, n, acc, h0, h1, hn, ha, hf => by omega
  | f + 1, at0, n, acc, h0, h1, hn, ha, hf => by
    have hn' := hn
    simp only [rng, lo, hi] at hn'
    rw [frame_Scan_l0]
    simp only [Next_eq b at0 n hb hl (by simp only [rng, lo, hi]; omega) hn, bind_eq, scanF]
    by_cases hw : (nextAns b at0 n).2.2 = 1
    · obtain ⟨_, g2, g3, g4, g5, g6⟩ := next_whole hb hw
      have hr := room_ge (nextAns b at0 n).1.length
      have hadd : IntKind.wrap .i64 (at0 + (nextAns b at0 n).2.1) = at0 + (nextAns b at0 n).2.1 := wrap_i64 (by omega) (by omega)
      rw [if_neg (by simp [hw]), if_pos hw]
      by_cases hm : n = 9223372036854775807
      · rw [if_pos (by simp [hm]), if_pos hm, if_pos (by simp only [List.length_singleton]; omega)]
        simp only [bnd_eq, hadd]
      · rw [if_neg (by simp [hm]), if_neg hm, if_pos (by simp only [List.length_singleton]; omega)]
        simp only [bnd_eq, hadd]
        rw [wrap_i64 (by omega) (by omega)]
        rw [Scan_l0_eq b hb hl K f _ _ _ (by omega) (by omega) (by simp only [rng, lo, hi]; omega) (by simp only [List.length_append, List.length_singleton]; omega) (by omega)]
        simp only [List.append_assoc, List.singleton_append]
    · have ho := next_other h0 h1 hw
      rw [if_pos (by simpa using hw), if_neg hw]
      simp only [bnd_eq]
      rw [ho]
      simp only [List.append_nil]
      congr 2
      by_cases e : at0 = (b.length : Int)
      · simp [e]
      · simp [e]; omega
theorem Scan_eq (b : List Int) (n : Int) (hb : byteOk b) (hl : b.length ≤ 140737488351232) (hn : rng .i64 n) : frame_Scan b n = some (scanF (b.length + 2) b 0 n) := by
  simp only [frame_Scan, bnd_eq]
  rw [Scan_l0_eq b hb hl _ (b.length + 2) 0 n [] (by omega) (by omega) hn (by simp) (by omega)]
  simp

theorem rScan_l0_eq (b : List Int) (hb : byteOk b) (hl : b.length ≤ 140737488351232) : ∀ (f : Nat) (at0 n : Int) (acc : List (List Int)),
    0 ≤ at0 → at0 ≤ (b.length : Int) → rng .i64 n → (acc.length : Int) * 64 ≤ at0 → (b.length : Int) < at0 + 64 * (f : Int) →
    escrowref05_Scan_l0 b f (n, at0, acc) = some (acc ++ (scanF f b at0 n).1, (scanF f b at0 n).2.1, (scanF f b at0 n).2.2)
  | 0, at0, n, acc, h0, h1, hn, ha, hf => by omega
  | f + 1, at0, n, acc, h0, h1, hn, ha, hf => by
    have hn' := hn
    simp only [rng, lo, hi] at hn'
    rw [escrowref05_Scan_l0]
    simp only [rNext_eq b at0 n hb hl (by simp only [rng, lo, hi]; omega) hn, bind_eq, scanF]
    by_cases hw : (nextAns b at0 n).2.2 = 1
    · obtain ⟨_, g2, g3, g4, g5, g6⟩ := next_whole hb hw
      have hr := room_ge (nextAns b at0 n).1.length
      have hadd : IntKind.wrap .i64 (at0 + (nextAns b at0 n).2.1) = at0 + (nextAns b at0 n).2.1 := wrap_i64 (by omega) (by omega)
      rw [if_neg (by simp [hw]), if_pos hw, if_pos (by simp only [List.length_singleton]; omega)]
      simp only [bnd_eq, hadd]
      by_cases hm : n = 9223372036854775807
      · rw [if_pos (by simp [hm]), if_pos hm]
      · rw [if_neg (by simp [hm]), if_neg hm]
        rw [wrap_i64 (by omega) (by omega)]
        rw [rScan_l0_eq b hb hl f _ _ _ (by omega) (by omega) (by simp only [rng, lo, hi]; omega) (by simp only [List.length_append, List.length_singleton]; omega) (by omega)]
        simp only [List.append_assoc, List.singleton_append]
    · rw [if_pos (by simpa using hw), if_neg hw]
      simp
theorem rScan_eq (b : List Int) (n : Int) (hb : byteOk b) (hl : b.length ≤ 140737488351232) (hn : rng .i64 n) : escrowref05_Scan b n = some (scanF (b.length + 2) b 0 n) := by
  simp only [escrowref05_Scan]
  rw [rScan_l0_eq b hb hl (b.length + 2) 0 n [] (by omega) (by omega) hn (by simp) (by omega)]
  simp

theorem same_l0_eq (a b : List (List Int)) (hab : a.length = b.length) (hl : a.length < 4611686018427387904) (K : Unit → Option Bool) : ∀ (j i : Nat), i + j = a.length →
    escrowlaw05_same_l0 a b K (j + 1) (i : Int) = if a.drop i = b.drop i then K () else some false
  | 0, i, h => by
    rw [escrowlaw05_same_l0, if_neg (by simp; omega), if_pos (by rw [List.drop_of_length_le (by omega), List.drop_of_length_le (by omega)])]
  | j + 1, i, h => by
    have h1 : i < a.length := by omega
    have h2 : i < b.length := by omega
    rw [escrowlaw05_same_l0, if_pos (by simp; omega), if_pos (by omega), if_pos (by omega), Int.toNat_natCast]
    have e1 : a.getD i [] = a[i] := by simp [List.getD, h1]
    have e2 : b.getD i [] = b[i] := by simp [List.getD, h2]
    have key : (a.drop i = b.drop i) ↔ (a[i] = b[i] ∧ a.drop (i + 1) = b.drop (i + 1)) := by
      rw [List.drop_eq_getElem_cons h1, List.drop_eq_getElem_cons h2, List.cons.injEq]
    rw [e1, e2]
    simp only [key]
    by_cases e : a[i] = b[i]
    · rw [if_neg (by simp [e]), bnd_eq, wrap_i64 (by omega) (by omega), show ((i : Int) + 1) = ((i + 1 : Nat) : Int) by omega, same_l0_eq a b hab hl K j (i + 1) (by omega)]
      simp [e]
    · rw [if_pos (by simpa using e), if_neg (by simp [e])]
theorem same_eq (a b : List (List Int)) (hl : a.length < 4611686018427387904) : escrowlaw05_same a b = some (decide (a = b)) := by
  unfold escrowlaw05_same
  by_cases h : a.length = b.length
  · rw [if_neg (by simp [h]), bnd_eq]
    have e : Int.toNat ((a.length : Int) - 0) + 1 = a.length + 1 := by omega
    rw [e]
    refine (same_l0_eq a b h hl _ a.length 0 (by omega)).trans ?_
    simp only [List.drop_zero]
    by_cases q : a = b
    · simp [q]
    · simp [q]
  · rw [if_pos (by simp; omega)]
    have : a ≠ b := fun e => h (by rw [e])
    simp [this]

theorem scanF_len (b : List Int) (hb : byteOk b) : ∀ (f : Nat) (at0 n : Int), 0 ≤ at0 → at0 ≤ (b.length : Int) → at0 + 64 * ((scanF f b at0 n).1.length : Int) ≤ (b.length : Int)
  | 0, at0, n, h0, h1 => by simp [scanF, h1]
  | f + 1, at0, n, h0, h1 => by
    simp only [scanF]
    by_cases hw : (nextAns b at0 n).2.2 = 1
    · obtain ⟨_, g2, g3, g4, g5, g6⟩ := next_whole hb hw
      have hr := room_ge (nextAns b at0 n).1.length
      rw [if_pos hw]
      by_cases hm : n = 9223372036854775807
      · rw [if_pos hm]; simp only [List.length_singleton]; omega
      · rw [if_neg hm]
        have := scanF_len b hb f (at0 + (nextAns b at0 n).2.1) (n + 1) (by omega) (by omega)
        simp only [List.length_cons]; omega
    · rw [if_neg hw]; simpa using h1

theorem writes_l0_eq (K : List (List Int) → Option Bool) : ∀ (j i : Nat) (l : List (List Int)), i + j = l.length → l.length < 4611686018427387904 → ∃ m : List (List Int), m.length = l.length ∧ escrowlaw05_FrameScans_l0 K (j + 1) ((i : Int), l) = K m
  | 0, i, l, h, hl => ⟨l, rfl, by rw [escrowlaw05_FrameScans_l0, if_neg (by simp; omega)]⟩
  | j + 1, i, l, h, hl => by
    obtain ⟨m, h1, h2⟩ := writes_l0_eq K j (i + 1) (l.set i [119, 114, 105, 116, 116, 101, 110]) (by simp; omega) (by simpa using hl)
    refine ⟨m, by simpa using h1, ?_⟩
    rw [escrowlaw05_FrameScans_l0, if_pos (by simp; omega), if_pos (by simp; omega), bnd_eq]
    simp only
    rw [wrap_i64 (by omega) (by omega), show ((i : Int) + 1) = ((i + 1 : Nat) : Int) by omega]
    exact h2

set_option maxRecDepth 100000 in
theorem escrowlaw05_FrameScans_true (b : List Int) (n : Int) (hb : byteOk b ∧ List.length b ≤ 140737488351232) (hn : rng .i64 n) : escrowlaw05_FrameScans b n = some true := by
  have hS := Scan_eq b n hb.1 hb.2 hn
  have hR := rScan_eq b n hb.1 hb.2 hn
  have hlen := scanF_len b hb.1 (b.length + 2) 0 n (by omega) (by omega)
  unfold escrowlaw05_FrameScans
  simp only [hS, hR, ffirst_eq, bind_eq, bnd_eq]
  generalize scanF (b.length + 2) b 0 n = r at *
  have hs : escrowlaw05_same r.1 r.1 = some (decide (r.1 = r.1)) := same_eq r.1 r.1 (by omega)
  simp only [hs, bind_eq, bnd_eq]
  simp only [decide_true, Bool.not_true, Bool.false_eq_true, if_false, bne_self_eq_false, Bool.or_self, if_true]
  obtain ⟨m, h1, h2⟩ := writes_l0_eq (fun (o21 : List (List Int)) => if (List.length o21 + List.length ([[109, 111, 114, 101]])) * 16 ≤ 140737488355328 then if (((List.length (o21 ++ ([[109, 111, 114, 101]])) : Int) == (IntKind.wrap .i64 ((List.length r.1 : Int) + 1)))) = true then some true else some false else none) r.1.length 0 r.1 (by omega) (by omega)
  have e : Int.toNat ((r.1.length : Int) - 0) + 1 = r.1.length + 1 := by omega
  rw [e]
  refine h2.trans ?_
  rw [if_pos (by simp only [List.length_singleton]; omega), wrap_i64 (by omega) (by omega), if_pos (by simp [h1])]

theorem escrowlaw05_FrameOne_true (b : List Int) (at0 n : Int) (hb : byteOk b ∧ List.length b ≤ 140737488351232) (ha : rng .i64 at0) (hn : rng .i64 n) : escrowlaw05_FrameOne b at0 n = some true := by
  have ha' := ha
  simp only [rng, lo, hi] at ha'
  unfold escrowlaw05_FrameOne
  simp only [Next_eq b at0 n hb.1 hb.2 ha hn, ffirst_eq, bind_eq, bnd_eq]
  simp only [Bool.not_true, Bool.false_eq_true, if_false]
  by_cases hw : (nextAns b at0 n).2.2 = 1
  · obtain ⟨g1, g2, g3, g4, g5, g6⟩ := next_whole hb.1 hw
    have hbp : byteOk (nextAns b at0 n).1 := by
      unfold nextAns
      split
      · intro c hc; cases hc
      · split
        · intro c hc; cases hc
        · split
          · intro c hc; cases hc
          · split
            · exact take_byte (drop_byte (drop_byte hb.1 _) _) _
            · intro c hc; cases hc
    have hF := Frame_eq n (nextAns b at0 n).1 hn hbp (by omega)
    unfold frameAns at hF
    rw [if_neg (by omega), if_neg (by omega)] at hF
    have hadd : IntKind.wrap .i64 (at0 + (nextAns b at0 n).2.1) = at0 + (nextAns b at0 n).2.1 := wrap_i64 (by omega) (by omega)
    rw [if_neg (by simp [hw])]
    simp only [hF, bind_eq, hadd]
    have d1 : decide (n ≥ 0) = true := by simpa using g2
    have d2 : decide (at0 ≥ 0) = true := by simpa using g1
    have d3 : decide (at0 + (nextAns b at0 n).2.1 ≤ (b.length : Int)) = true := by simpa using g4
    have d4 : decide (((nextAns b at0 n).1.length : Int) ≤ 65536) = true := by simp; omega
    rw [d1, d2, d3, if_pos (by simp), if_pos (by omega), d4, g6]
    have : List.drop at0.toNat (List.take (at0 + (nextAns b at0 n).2.1).toNat b) = (b.drop at0.toNat).take (room (nextAns b at0 n).1.length) := by
      rw [List.drop_take]; congr 1; omega
    rw [this]; simp
  · rw [if_pos (by simpa using hw)]
    by_cases h1 : 0 ≤ at0 ∧ at0 ≤ (b.length : Int)
    · rw [next_other h1.1 h1.2 hw]
      by_cases e : at0 = (b.length : Int)
      · simp [e]
      · simp [e]
    · have : nextAns b at0 n = ([], 0, 2) := by
        unfold nextAns
        rw [if_neg (by omega), if_pos (by omega)]
      rw [this]
      have : ¬ at0 = (b.length : Int) := by omega
      simp [this]
end Sx
