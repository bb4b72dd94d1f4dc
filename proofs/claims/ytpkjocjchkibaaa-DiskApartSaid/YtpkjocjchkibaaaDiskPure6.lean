/-
  Own work. The disk's operations at whatever arguments.
-/
import Derived.Test.YtpkjocjchkibaaaDiskPure5
namespace Sx
open Go

theorem dname_l0 (a : List Int) (hl : a.length < 4611686018427387904) (k : Unit → Option Bool) (hk : ∃ b, k () = some b) : ∀ (j i : Nat), i + j = a.length → ∃ b, disk_isName_l0 a k (j + 1) (i : Int) = some b
  | 0, i, h => by
    unfold disk_isName_l0
    rw [if_neg (by simp only [decide_eq_true_eq]; omega)]
    exact hk
  | j + 1, i, h => by
    unfold disk_isName_l0
    rw [if_pos (by simp only [decide_eq_true_eq]; omega)]
    have hin : (0 : Int) ≤ (i : Int) ∧ (i : Int) < (a.length : Int) := by omega
    have ew : IntKind.wrap .i64 ((i : Int) + 1) = ((i + 1 : Nat) : Int) := wrap_i64 (by omega) (by omega)
    obtain ⟨b, hb⟩ := dname_l0 a hl k hk j (i + 1) (by omega)
    simp only [bnd_eq, ew, hb, if_pos hin]
    by_cases h1 : decide (List.getD a (Int.toNat (i : Int)) 0 < 33) = true
    · rw [if_pos h1]; exact ⟨_, rfl⟩
    · rw [if_neg h1]
      by_cases h2 : decide (List.getD a (Int.toNat (i : Int)) 0 > 126) = true
      · rw [if_pos h2]; exact ⟨_, rfl⟩
      · rw [if_neg h2]; exact ⟨_, rfl⟩
theorem isName_any (a : List Int) (hl : a.length < 4611686018427387904) : ∃ b, disk_isName a = some b := by
  unfold disk_isName
  simp only [bnd_eq]
  have ef : Int.toNat ((a.length : Int) - 0) + 1 = a.length + 1 := by omega
  rw [ef]
  exact dname_l0 a hl _ ⟨_, rfl⟩ a.length 0 (by omega)

/-- a Write does nothing, or what it is to do -/
theorem Write_any {D : DiskS} {name text : List Int} {at0 : Int} (hok : FsOk D.2.1) (hat : rng .i64 at0) (ht : byteOk text) (htl : text.length ≤ 140737488355328) (hnl : name.length < 4611686018427387904) :
    (∃ e, e ≠ 0 ∧ disk_Disk_Write D name at0 text = some (e, D)) ∨
    (D.2.2.2.2.2.1 = false ∧ disk_isName name = some true ∧ 0 ≤ at0 ∧ at0 ≤ (seenOf D.2.1 name).length ∧ at0 + text.length ≤ 1048576 ∧ ∃ e a fl o p fs', disk_Disk_counted D 1 = some (e, (D.1, D.2.1, a, D.2.2.2.1, fl, o, p)) ∧ disk_Disk_Write D name at0 text = some (if e = 0 then (0, (D.1, fs', a, D.2.2.2.1, fl, o, p)) else (e, (D.1, D.2.1, a, D.2.2.2.1, fl, o, p))) ∧
      FsOk fs' ∧ (∃ ds, pget .str name fs' = some (over (seenOf D.2.1 name) at0.toNat text, safeOf D.2.1 name, ds)) ∧ (∀ b, name ≠ b → pget .str b fs' = pget .str b D.2.1) ∧ fs'.map (·.1) = (if (pget .str name D.2.1).isSome then D.2.1 else pput .str name ([], [], []) D.2.1).map (·.1)) := by
  rcases Bool.eq_false_or_eq_true D.2.2.2.2.2.1 with ho | ho
  · exact .inl ⟨9, by decide, by unfold disk_Disk_Write; rw [if_pos ho]⟩
  ·
    obtain ⟨b, hb⟩ := isName_any name hnl
    obtain ⟨u, hu, hu0, hu1⟩ := Used_eq hok
    have hlen := hok.2.2
    have hm : D.2.1.length ≤ most := by simp only [most]; omega
    have hr : -9223372036854775808 ≤ at0 ∧ at0 ≤ 9223372036854775807 := by simpa only [rng, lo, Sx.hi] using hat
    have hsl : (seenOf D.2.1 name).length ≤ 1048576 := by
      unfold seenOf
      cases hg : pget .str name D.2.1 with
      | none => simp
      | some f => exact (hok.get hg).2.2.1
    -- the function as the file's size has it
    have hw : disk_Disk_Write D name at0 text = disk_Disk_Write D name at0 text := rfl
    by_cases c1 : b = true ∧ 0 ≤ at0 ∧ at0 ≤ (seenOf D.2.1 name).length
    · obtain ⟨rfl, h0, h1⟩ := c1
      have hw1 : IntKind.wrap .i64 (at0 + (text.length : Int)) = at0 + text.length := wrap_i64 (by omega) (by omega)
      by_cases c2 : at0 + text.length ≤ 1048576
      · by_cases c3 : pget .str name D.2.1 = none → D.2.1.length < 16
        · by_cases c4 : u + max 0 (at0 + text.length - (seenOf D.2.1 name).length) ≤ D.1
          · exact .inr ⟨ho, hb, h0, h1, c2, Write_core hok ho hb ht h0 h1 c2 c3 fun u' hu' => by rw [hu] at hu'; cases hu'; exact c4⟩
          · refine .inl ⟨41, by decide, ?_⟩
            unfold disk_Disk_Write
            rw [if_neg (by simp [ho])]
            simp only [bnd_eq, hb, hu, Option.bind_some, hw1]
            have hw2 : IntKind.wrap .i64 (at0 + (text.length : Int) - (seenOf D.2.1 name).length) = at0 + text.length - (seenOf D.2.1 name).length := wrap_i64 (by omega) (by omega)
            have hw3 : IntKind.wrap .i64 (u + max 0 (at0 + (text.length : Int) - (seenOf D.2.1 name).length)) = u + max 0 (at0 + (text.length : Int) - (seenOf D.2.1 name).length) := wrap_i64 (by omega) (by omega)
            cases hg : pget .str name D.2.1 with
            | none =>
              have hz : seenOf D.2.1 name = [] := by simp [seenOf, hg]
              rw [hz] at hw2 hw3 c4 h1
              simp only [List.length_nil, Int.natCast_zero] at hw2 hw3 c4 h1
              have h16 := c3 hg
              simp only [Option.isSome_none, Bool.false_eq_true, if_false, Bool.not_true, Bool.false_or, Bool.not_false, if_true, hw2, hw3]
              rw [if_neg (by simp only [Bool.or_eq_true, decide_eq_true_eq]; omega), if_neg (by simp only [decide_eq_true_eq]; omega), if_pos hm, if_neg (by simp only [decide_eq_true_eq]; omega), if_pos (by simp only [decide_eq_true_eq]; omega)]
            | some f =>
              have hz : seenOf D.2.1 name = f.1 := by simp [seenOf, hg]
              rw [hz] at hw2 hw3 c4 h1
              simp only [Option.isSome_some, if_true, Option.bind_some, Bool.not_true, Bool.false_or, Bool.false_eq_true, if_false, hw2, hw3]
              rw [if_neg (by simp only [Bool.or_eq_true, decide_eq_true_eq]; omega), if_neg (by simp only [decide_eq_true_eq]; omega), if_pos (by simp only [decide_eq_true_eq]; omega)]
        · have hg : pget .str name D.2.1 = none := Classical.byContradiction fun h => c3 (fun h' => absurd h' h)
          have h16 : ¬ D.2.1.length < 16 := fun h => c3 (fun _ => h)
          have hz : seenOf D.2.1 name = [] := by simp [seenOf, hg]
          rw [hz] at h1
          simp only [List.length_nil, Int.natCast_zero] at h1
          refine .inl ⟨6, by decide, ?_⟩
          unfold disk_Disk_Write
          rw [if_neg (by simp [ho])]
          simp only [bnd_eq, hb, Option.bind_some, hw1, hg, Option.isSome_none, Bool.false_eq_true, if_false, Bool.not_true, Bool.false_or, Bool.not_false, if_true]
          rw [if_neg (by simp only [Bool.or_eq_true, decide_eq_true_eq]; omega), if_neg (by simp only [decide_eq_true_eq]; omega), if_pos hm, if_pos (by simp only [decide_eq_true_eq]; omega)]
      · refine .inl ⟨3, by decide, ?_⟩
        unfold disk_Disk_Write
        rw [if_neg (by simp [ho])]
        simp only [bnd_eq, hb, Option.bind_some, hw1]
        cases hg : pget .str name D.2.1 with
        | none =>
          have hz : seenOf D.2.1 name = [] := by simp [seenOf, hg]
          rw [hz] at h1
          simp only [List.length_nil, Int.natCast_zero] at h1
          simp only [Option.isSome_none, Bool.false_eq_true, if_false, Bool.not_true, Bool.false_or]
          rw [if_neg (by simp only [Bool.or_eq_true, decide_eq_true_eq]; omega), if_pos (by simp only [decide_eq_true_eq]; omega)]
        | some f =>
          have hz : seenOf D.2.1 name = f.1 := by simp [seenOf, hg]
          rw [hz] at h1
          simp only [Option.isSome_some, if_true, Option.bind_some, Bool.not_true, Bool.false_or]
          rw [if_neg (by simp only [Bool.or_eq_true, decide_eq_true_eq]; omega), if_pos (by simp only [decide_eq_true_eq]; omega)]
    · refine .inl ⟨1, by decide, ?_⟩
      unfold disk_Disk_Write
      rw [if_neg (by simp [ho])]
      simp only [bnd_eq, hb, Option.bind_some]
      cases hg : pget .str name D.2.1 with
      | none =>
        have hz : seenOf D.2.1 name = [] := by simp [seenOf, hg]
        rw [hz] at c1
        simp only [List.length_nil, Int.natCast_zero] at c1
        simp only [Option.isSome_none, Bool.false_eq_true, if_false]
        rw [if_pos (by cases b <;> simp only [Bool.not_false, Bool.not_true, Bool.true_or, Bool.false_or, Bool.or_eq_true, decide_eq_true_eq, true_and] at c1 ⊢; omega)]
      | some f =>
        have hz : seenOf D.2.1 name = f.1 := by simp [seenOf, hg]
        rw [hz] at c1
        simp only [Option.isSome_some, if_true, Option.bind_some]
        rw [if_pos (by cases b <;> simp only [Bool.not_false, Bool.not_true, Bool.true_or, Bool.false_or, Bool.or_eq_true, decide_eq_true_eq, true_and] at c1 ⊢; omega)]

theorem found_off {D : DiskS} (name : List Int) (ho : D.2.2.2.2.2.1 = true) : disk_Disk_found D name = some 9 := by
  unfold disk_Disk_found
  rw [if_pos ho]

theorem Size_eq {D : DiskS} {name : List Int} (ho : D.2.2.2.2.2.1 = false) : disk_Disk_Size D name = some (match pget .str name D.2.1 with | none => (0, 5) | some f => ((f.1.length : Int), 0)) := by
  unfold disk_Disk_Size
  rw [found_eq name ho]
  cases h : pget .str name D.2.1 with
  | none => rfl
  | some f => rfl
theorem List_eq {D : DiskS} (hok : FsOk D.2.1) (ho : D.2.2.2.2.2.1 = false) : disk_Disk_List D = some (D.2.1.map (·.1)) := by
  unfold disk_Disk_List
  have := hok.2.2
  rw [if_neg (by simp [ho]), if_pos (by omega)]
theorem Dirty_eq {D : DiskS} {name : List Int} (hok : FsOk D.2.1) (ho : D.2.2.2.2.2.1 = false) : disk_Disk_Dirty D name = some (match pget .str name D.2.1 with | none => [] | some f => f.2.2) := by
  unfold disk_Disk_Dirty
  rw [found_eq name ho]
  cases h : pget .str name D.2.1 with
  | none => rfl
  | some f =>
    have hf := hok.get h
    have := nodup_len hf.2.2.2.2.1 hf.2.2.2.2.2
    simp only [Option.isSome_some, if_true, Option.bind_some]
    rw [if_neg (by decide), if_pos (by omega)]

/-- the sectors ahead of a size -/
theorem cutKeys_mem {ks : List Int} {n : Int} {s : Int} : s ∈ cutKeys ks n → s ∈ ks := fun h => (List.mem_filter.1 h).1
theorem Truncate_any {D : DiskS} {name : List Int} {n : Int} (hok : FsOk D.2.1) :
    (∃ e, e ≠ 0 ∧ disk_Disk_Truncate D name n = some (e, D)) ∨
    (D.2.2.2.2.2.1 = false ∧ ∃ f, pget .str name D.2.1 = some f ∧ 0 ≤ n ∧ n ≤ f.1.length ∧ disk_Disk_Truncate D name n = some (0, (D.1, pset .str name (f.1.take n.toNat, f.2.1.take n.toNat, cutKeys f.2.2 n) D.2.1, D.2.2.1, D.2.2.2.1, D.2.2.2.2.1, D.2.2.2.2.2.1, D.2.2.2.2.2.2)) ∧
      FOk (f.1.take n.toNat, f.2.1.take n.toNat, cutKeys f.2.2 n)) := by
  rcases Bool.eq_false_or_eq_true D.2.2.2.2.2.1 with ho | ho
  · exact .inl ⟨9, by decide, by unfold disk_Disk_Truncate; rw [found_off name ho]; rfl⟩
  ·
    cases hg : pget .str name D.2.1 with
    | none => exact .inl ⟨5, by decide, by unfold disk_Disk_Truncate; rw [found_eq name ho, hg]; rfl⟩
    | some f =>
      have hf := hok.get hg
      have hl := hf.2.2.1
      have hl2 := hf.2.2.2.1
      by_cases hn : 0 ≤ n ∧ n ≤ f.1.length
      · refine .inr ⟨ho, f, rfl, hn.1, hn.2, ?_, ?_⟩
        · unfold disk_Disk_Truncate
          rw [found_eq name ho, hg]
          simp only [Option.isSome_some, if_true, Option.bind_some, bnd_eq]
          rw [if_neg (by decide), if_neg (by simp only [Bool.or_eq_true, decide_eq_true_eq]; omega), if_pos (by omega), clone_eq (by simp only [List.length_take]; omega)]
          simp only [Option.bind_some]
          have e1 : List.take (Int.toNat (min n (f.2.1.length : Int))) f.2.1 = f.2.1.take n.toNat := by
            rcases Int.le_total n (f.2.1.length : Int) with h | h
            · rw [Int.min_eq_left h]
            · rw [Int.min_eq_right h, Int.toNat_natCast, List.take_length, List.take_of_length_le (by omega)]
          rw [if_pos (by omega), e1]
        · refine ⟨fun x hx => hf.1 x (List.mem_of_mem_take hx), fun x hx => hf.2.1 x (List.mem_of_mem_take hx), ?_, ?_, hf.2.2.2.2.1.filter _, fun s hs => hf.2.2.2.2.2 s (cutKeys_mem hs)⟩
          · simp only [List.length_take]; omega
          · simp only [List.length_take]; omega
      · refine .inl ⟨1, by decide, ?_⟩
        unfold disk_Disk_Truncate
        rw [found_eq name ho, hg]
        simp only [Option.isSome_some, if_true, Option.bind_some, bnd_eq]
        rw [if_neg (by decide), if_pos (by simp only [Bool.or_eq_true, decide_eq_true_eq]; omega)]

/-- some of the bytes -/
theorem Read_at {D : DiskS} {name : List Int} {at0 n : Int} {f : FileS} (hok : FsOk D.2.1) (ho : D.2.2.2.2.2.1 = false) (hg : pget .str name D.2.1 = some f) (h0 : 0 ≤ at0) (h1 : at0 ≤ f.1.length) (hn : 0 ≤ n) : disk_Disk_Read D name at0 n = some ((f.1.drop at0.toNat).take n.toNat, 0) := by
  have hl := (hok.get hg).2.2.1
  unfold disk_Disk_Read
  rw [found_eq name ho, hg]
  simp only [Option.isSome_some, if_true, Option.bind_some, bnd_eq]
  rw [if_neg (by decide), if_neg (by simp only [Bool.or_eq_true, decide_eq_true_eq]; omega)]
  by_cases he : at0 ≥ (f.1.length : Int)
  · rw [if_pos (by simpa using he)]
    have : List.drop at0.toNat f.1 = [] := List.drop_eq_nil_of_le (by omega)
    rw [this, List.take_nil]
  · rw [if_neg (by simpa using he), if_pos (by omega), Int.toNat_natCast, List.take_length]
    rw [if_pos (by refine ⟨by omega, ?_, ?_⟩ <;> omega)]
    rcases Int.le_total n ((List.drop at0.toNat f.1).length : Int) with h | h
    · rw [Int.min_eq_left h]
    · rw [Int.min_eq_right h, Int.toNat_natCast, List.take_length, List.take_of_length_le (by omega)]
/-- a Read never does anything -/
theorem Read_any {D : DiskS} {name : List Int} {at0 n : Int} (hok : FsOk D.2.1) : ∃ r, disk_Disk_Read D name at0 n = some r := by
  rcases Bool.eq_false_or_eq_true D.2.2.2.2.2.1 with ho | ho
  · exact ⟨_, by unfold disk_Disk_Read; rw [found_off name ho]; rfl⟩
  ·
    cases hg : pget .str name D.2.1 with
    | none => exact ⟨_, by unfold disk_Disk_Read; rw [found_eq name ho, hg]; rfl⟩
    | some f =>
      by_cases h : 0 ≤ at0 ∧ at0 ≤ f.1.length ∧ 0 ≤ n
      · exact ⟨_, Read_at hok ho hg h.1 h.2.1 h.2.2⟩
      · unfold disk_Disk_Read
        rw [found_eq name ho, hg]
        simp only [Option.isSome_some, if_true, Option.bind_some, bnd_eq]
        rw [if_neg (by decide)]
        split
        · exact ⟨_, rfl⟩
        · rename_i hc
          simp only [Bool.or_eq_true, decide_eq_true_eq] at hc
          rw [if_pos (by simp only [decide_eq_true_eq]; omega)]
          exact ⟨_, rfl⟩
end Sx
