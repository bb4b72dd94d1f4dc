/-
  Own work. The disk's plain functions, further.
-/
import Derived.Test.YtpkjocjchkibaaaDiskPure
namespace Sx
open Go

theorem counted_eq (D : DiskS) (w : Int) : ∃ e a f o p, disk_Disk_counted D w = some (e, (D.1, D.2.1, a, D.2.2.2.1, f, o, p)) ∧ ((e = 9 ∧ o = true ∧ p = true) ∨ ((e = 0 ∨ e = 40) ∧ o = D.2.2.2.2.2.1 ∧ p = D.2.2.2.2.2.2)) := by
  unfold disk_Disk_counted
  simp only [bnd_eq]
  split
  · split
    · exact ⟨9, _, _, _, _, rfl, .inl ⟨rfl, rfl, rfl⟩⟩
    · split
      · split
        · split
          · exact ⟨40, _, _, _, _, rfl, .inr ⟨.inr rfl, rfl, rfl⟩⟩
          · exact ⟨0, _, _, _, _, rfl, .inr ⟨.inl rfl, rfl, rfl⟩⟩
        · exact ⟨0, _, _, _, _, rfl, .inr ⟨.inl rfl, rfl, rfl⟩⟩
      · rw [if_neg (by decide)]
        exact ⟨0, _, _, _, _, rfl, .inr ⟨.inl rfl, rfl, rfl⟩⟩
  · split
    · split
      · split
        · exact ⟨40, _, _, _, _, rfl, .inr ⟨.inr rfl, rfl, rfl⟩⟩
        · exact ⟨0, _, _, _, _, rfl, .inr ⟨.inl rfl, rfl, rfl⟩⟩
      · exact ⟨0, _, _, _, _, rfl, .inr ⟨.inl rfl, rfl, rfl⟩⟩
    · rw [if_neg (by decide)]
      exact ⟨0, _, _, _, _, rfl, .inr ⟨.inl rfl, rfl, rfl⟩⟩
theorem counted_calm {D : DiskS} (w : Int) (ha : D.2.2.1 = 0) (hf : D.2.2.2.2.1 = 0) : disk_Disk_counted D w = some (0, D) := by
  unfold disk_Disk_counted
  simp only [bnd_eq]
  rw [if_neg (by rw [hf]; decide), if_neg (by rw [ha]; decide), if_neg (by decide)]

theorem found_eq {D : DiskS} (name : List Int) (ho : D.2.2.2.2.2.1 = false) : disk_Disk_found D name = some (if (pget .str name D.2.1).isSome then 0 else 5) := by
  unfold disk_Disk_found
  rw [if_neg (by simp [ho])]
  simp only [bnd_eq]
  cases pget .str name D.2.1 <;> rfl
theorem clone_eq {l : List Int} (h : l.length ≤ 1048576) : slices_Clone__byte_byte l = some l := by
  unfold slices_Clone__byte_byte
  rw [if_pos (by simp only [List.length_nil]; omega)]
  rfl
theorem Sync_eq {D : DiskS} {name : List Int} {f : FileS} (hok : FsOk D.2.1) (ho : D.2.2.2.2.2.1 = false) (hf : pget .str name D.2.1 = some f) : ∃ e a fl o p, disk_Disk_counted D 2 = some (e, (D.1, D.2.1, a, D.2.2.2.1, fl, o, p)) ∧
    disk_Disk_Sync D name = some (if e = 0 then (0, (D.1, pset .str name (f.1, f.1, []) D.2.1, a, D.2.2.2.1, fl, o, p)) else (e, (D.1, D.2.1, a, D.2.2.2.1, fl, o, p))) := by
  obtain ⟨e, a, fl, o, p, hc, _⟩ := counted_eq D 2
  refine ⟨e, a, fl, o, p, hc, ?_⟩
  unfold disk_Disk_Sync
  rw [found_eq name ho, hf]
  simp only [Option.isSome_some, if_true, Option.bind_some, hc]
  rw [if_neg (by decide)]
  by_cases he : e = 0
  · subst he
    rw [if_neg (by decide)]
    simp only [hf, Option.bind_some, clone_eq (hok.get hf).2.2.1, if_true]
  · rw [if_pos (by simpa using he), if_neg he]
theorem Rename_eq {D : DiskS} {a b : List Int} {f : FileS} (hok : FsOk D.2.1) (ho : D.2.2.2.2.2.1 = false) (hf : pget .str a D.2.1 = some f) (hn : disk_isName b = some true) :
    disk_Disk_Rename D a b = some (0, (D.1, pput .str b f (pdel .str a D.2.1), D.2.2.1, D.2.2.2.1, D.2.2.2.2.1, D.2.2.2.2.2.1, D.2.2.2.2.2.2)) := by
  unfold disk_Disk_Rename
  rw [found_eq a ho, hf]
  simp only [Option.isSome_some, if_true, Option.bind_some, hn]
  rw [if_neg (by decide), if_neg (by decide)]
  rw [if_pos (by have := pdel_length a D.2.1; have := hok.2.2; omega)]
theorem Remove_eq {D : DiskS} {a : List Int} (ho : D.2.2.2.2.2.1 = false) : disk_Disk_Remove D a = some (if (pget .str a D.2.1).isSome then (0, (D.1, pdel .str a D.2.1, D.2.2.1, D.2.2.2.1, D.2.2.2.2.1, D.2.2.2.2.2.1, D.2.2.2.2.2.2)) else (5, D)) := by
  unfold disk_Disk_Remove
  rw [found_eq a ho]
  cases h : pget .str a D.2.1 <;> simp
theorem Read_all {D : DiskS} {name : List Int} (hok : FsOk D.2.1) (ho : D.2.2.2.2.2.1 = false) : disk_Disk_Read D name 0 1048576 = some (match pget .str name D.2.1 with | none => ([], 5) | some f => (f.1, 0)) := by
  unfold disk_Disk_Read
  rw [found_eq name ho]
  cases h : pget .str name D.2.1 with
  | none => simp
  | some f =>
    have hl := (hok.get h).2.2.1
    simp only [Option.isSome_some, if_true, Option.bind_some, bnd_eq]
    rw [if_neg (by decide), if_neg (by decide)]
    by_cases h0 : f.1.length = 0
    · rw [if_pos (by simp [h0])]
      have : f.1 = [] := List.eq_nil_of_length_eq_zero h0
      rw [this]
    · rw [if_neg (by simp only [decide_eq_true_eq]; omega), if_pos (by omega)]
      have e : List.drop (Int.toNat 0) (List.take (Int.toNat (f.1.length : Int)) f.1) = f.1 := by simp
      rw [e]
      have e2 : min (1048576 : Int) (f.1.length : Int) = f.1.length := by omega
      rw [e2, if_pos (by omega)]
      simp

/-! ### writing -/
theorem kput_mem {k q : Int} {ks : List Int} : q ∈ kput k ks ↔ q = k ∨ q ∈ ks := by
  unfold kput pput
  have : ∀ l : List (Int × Unit), q ∈ (pins (.int .i64) k () l).map (·.1) ↔ q = k ∨ q ∈ l.map (·.1) := by
    intro l
    induction l with
    | nil => simp [pins]
    | cons p l ih =>
      simp only [pins]
      split
      · simp
      · simp only [List.map_cons, List.mem_cons, ih]
        constructor
        · rintro (h | h | h)
          · exact .inr (.inl h)
          · exact .inl h
          · exact .inr (.inr h)
        · rintro (h | h | h)
          · exact .inr (.inl h)
          · exact .inl h
          · exact .inr (.inr h)
  rw [this]
  constructor
  · rintro (h | h)
    · exact .inl h
    · obtain ⟨p, hp, e⟩ := List.mem_map.1 h
      have hp := (List.mem_filter.1 hp).1
      obtain ⟨x, hx, e2⟩ := List.mem_map.1 hp
      subst e2; subst e
      exact .inr hx
  · rintro (h | h)
    · exact .inl h
    · by_cases hq : q = k
      · exact .inl hq
      · exact .inr (List.mem_map.2 ⟨(q, ()), List.mem_filter.2 ⟨List.mem_map.2 ⟨q, h, rfl⟩, by simp [keq, hq]⟩, rfl⟩)
theorem kput_nodup {k : Int} {ks : List Int} (h : ks.Nodup) : (kput k ks).Nodup := by
  unfold kput pput
  have key : ∀ l : List (Int × Unit), ((pins (.int .i64) k () l).map (·.1)).Perm (k :: l.map (·.1)) := by
    intro l
    induction l with
    | nil => exact .refl _
    | cons p l ih =>
      simp only [pins]
      split
      · exact .refl _
      · simp only [List.map_cons]
        exact (ih.cons _).trans (.swap _ _ _)
  refine (List.Perm.nodup_iff (key _)).2 (List.nodup_cons.2 ⟨fun hk => ?_, ?_⟩)
  · obtain ⟨p, hp, e⟩ := List.mem_map.1 hk
    have := (List.mem_filter.1 hp).2
    subst e
    simp [keq] at this
  · refine List.Nodup.sublist (List.Sublist.map _ List.filter_sublist) ?_
    have e : (ks.map fun x => (x, ())).map (·.1) = ks := by rw [List.map_map]; exact List.map_id _
    rw [e]; exact h
theorem nodup_len {l : List Int} (hn : l.Nodup) (hb : ∀ s ∈ l, 0 ≤ s ∧ s < 16384) : l.length ≤ 16384 := by
  have : (l.map Int.toNat).Nodup := by
    refine List.Pairwise.map _ (fun a b h => h) ?_
    refine List.Pairwise.imp_of_mem ?_ hn
    intro a b ha hb' h e
    have := hb a ha; have := hb b hb'
    exact h (by omega)
  have h2 : (l.map Int.toNat) ⊆ List.range 16384 := fun x hx => by
    obtain ⟨s, hs, rfl⟩ := List.mem_map.1 hx
    have := hb s hs
    exact List.mem_range.2 (by omega)
  have := List.Nodup.length_le_of_subset this h2
  simpa using this
theorem write_l0 (at0 : Int) (text : List Int) (k : List Int → Option (Int × DiskS)) (h0 : 0 ≤ at0) (hb : at0 + text.length ≤ 1048576) : ∀ (fuel : Nat) (s : Int) (ds : List Int), 0 ≤ s → at0 + text.length ≤ (s + fuel - 1) * 64 → 1 ≤ fuel → s ≤ 16384 → ds.Nodup → (∀ x ∈ ds, 0 ≤ x ∧ x < 16384) →
    ∃ ds', disk_Disk_Write_l0 at0 text k fuel (s, ds) = k ds' ∧ ds'.Nodup ∧ ∀ x ∈ ds', 0 ≤ x ∧ x < 16384
  | 0, s, ds, _, _, h1, _, _, _ => absurd h1 (by omega)
  | fuel + 1, s, ds, hs, hf, _, hs2, hn, hd => by
    simp only [disk_Disk_Write_l0, bnd_eq]
    rw [wrap_i64 (n := s * 64) (by omega) (by omega), wrap_i64 (n := at0 + text.length) (by omega) (by omega)]
    by_cases hc : (decide (s * 64 < at0 + (text.length : Int)) && (text != [])) = true
    · rw [if_pos hc]
      have hlt : s * 64 < at0 + (text.length : Int) := by simp only [Bool.and_eq_true, decide_eq_true_eq] at hc; exact hc.1
      rw [if_pos (by have := nodup_len hn hd; omega), wrap_i64 (n := s + 1) (by omega) (by omega)]
      have hfu : 1 ≤ fuel := by
        rcases Nat.eq_zero_or_pos fuel with h | h
        · subst h; simp at hf; omega
        · exact h
      exact write_l0 at0 text k h0 hb fuel (s + 1) (kput s ds) (by omega) (by simp only [Int.natCast_add, Int.cast_ofNat_Int] at hf; omega) hfu (by omega) (kput_nodup hn) (fun x hx => by
        rcases kput_mem.1 hx with rfl | hx
        · omega
        · exact hd x hx)
    · rw [if_neg hc]
      exact ⟨ds, rfl, hn, hd⟩
end Sx
