/-
  Own work. The disk's plain functions: what they answer.
-/
import Derived.Test.YtpkjocjchkibaaaWrapBase
import Derived.Test.YtpkjocjchkibaaaComm
namespace Sx
open Go

/-! ### lists of names and files -/
section
variable {V : Type}
theorem keq_str (a b : List Int) : keq .str a b = (a == b) := rfl
theorem get_nil (k : List Int) : pget .str k ([] : List (List Int × V)) = none := rfl
theorem get_cons (k : List Int) (p : List Int × V) (l : List (List Int × V)) : pget .str k (p :: l) = if p.1 = k then some p.2 else pget .str k l := by
  unfold pget
  rw [List.find?_cons]
  by_cases h : p.1 = k
  · simp [keq_str, h]
  · have : keq .str p.1 k = false := by simp [keq_str, h]
    simp [this, h]
theorem get_mem {k : List Int} {v : V} : ∀ {l : List (List Int × V)}, pget .str k l = some v → (k, v) ∈ l
  | [], h => by cases h
  | p :: l, h => by
    rw [get_cons] at h
    split at h
    · rename_i hp
      simp only [Option.some.injEq] at h
      subst h; subst hp
      exact List.mem_cons_self ..
    · exact List.mem_cons_of_mem _ (get_mem h)
theorem get_none {k : List Int} : ∀ {l : List (List Int × V)}, pget .str k l = none ↔ k ∉ l.map (·.1)
  | [] => by simp [get_nil]
  | p :: l => by
    rw [get_cons]
    split
    · rename_i hp; simp [hp]
    · rename_i hp
      rw [get_none]
      simp only [List.map_cons, List.mem_cons, not_or]
      exact ⟨fun h => ⟨fun e => hp e.symm, h⟩, fun h => h.2⟩
theorem pset_cons (k : List Int) (v : V) (p : List Int × V) (l : List (List Int × V)) : pset .str k v (p :: l) = (if p.1 = k then (p.1, v) else p) :: pset .str k v l := by
  unfold pset
  rw [List.map_cons]
  by_cases h : p.1 = k
  · simp [keq_str, h]
  · simp [keq_str, h]
theorem get_pset {k : List Int} {v y : V} : ∀ {l : List (List Int × V)}, pget .str k l = some y → pget .str k (pset .str k v l) = some v
  | [], h => by cases h
  | p :: l, h => by
    rw [get_cons] at h
    rw [pset_cons, get_cons]
    by_cases hp : p.1 = k
    · simp [hp]
    · rw [if_neg hp] at h
      rw [if_neg hp, if_neg hp]
      exact get_pset h
theorem pset_keys (k : List Int) (v : V) : ∀ (l : List (List Int × V)), (pset .str k v l).map (·.1) = l.map (·.1)
  | [] => rfl
  | p :: l => by
    rw [pset_cons, List.map_cons, List.map_cons, pset_keys k v l]
    split <;> simp_all
theorem pset_mem {k : List Int} {v : V} {q : List Int × V} : ∀ {l : List (List Int × V)}, q ∈ pset .str k v l → q = (k, v) ∨ q ∈ l
  | [], h => by cases h
  | p :: l, h => by
    rw [pset_cons] at h
    rcases List.mem_cons.1 h with h | h
    · by_cases hp : p.1 = k
      · rw [if_pos hp] at h; left; rw [h, hp]
      · rw [if_neg hp] at h; right; simp [h]
    · rcases pset_mem h with h | h
      · exact .inl h
      · exact .inr (by simp [h])
theorem pdel_eq (k : List Int) (l : List (List Int × V)) : pdel .str k l = l.filter fun p => !(p.1 == k) := rfl
theorem get_pdel_ne {a b : List Int} (h : a ≠ b) : ∀ (l : List (List Int × V)), pget .str b (pdel .str a l) = pget .str b l
  | [] => rfl
  | p :: l => by
    rw [pdel_eq, List.filter_cons]
    by_cases hp : p.1 = a
    · have : (!(p.1 == a)) = false := by simp [hp]
      rw [if_neg (by simp [this]), get_cons, if_neg (by rw [hp]; exact h)]
      exact get_pdel_ne h l
    · rw [if_pos (by simp [hp]), get_cons, get_cons]
      rw [← pdel_eq, get_pdel_ne h l]
theorem pdel_mem {k : List Int} {q : List Int × V} {l : List (List Int × V)} (h : q ∈ pdel .str k l) : q ∈ l := (List.mem_filter.1 h).1
theorem pins_mem {k : List Int} {v : V} {q : List Int × V} : ∀ {l : List (List Int × V)}, q ∈ pins .str k v l ↔ q = (k, v) ∨ q ∈ l
  | [] => by simp [pins]
  | p :: l => by
    simp only [pins]
    split
    · simp
    · simp only [List.mem_cons, pins_mem (l := l)]
      constructor
      · rintro (h | h | h)
        · exact .inr (.inl h)
        · exact .inl h
        · exact .inr (.inr h)
      · rintro (h | h | h)
        · exact .inr (.inl h)
        · exact .inl h
        · exact .inr (.inr h)
theorem spins_length {k : List Int} {v : V} : ∀ (l : List (List Int × V)), (pins .str k v l).length = l.length + 1
  | [] => rfl
  | p :: l => by
    simp only [pins]
    split
    · rfl
    · simp [spins_length l]
theorem get_pins_ne {a b : List Int} (h : a ≠ b) (v : V) : ∀ (l : List (List Int × V)), pget .str b (pins .str a v l) = pget .str b l
  | [] => by rw [show pins .str a v ([] : List (List Int × V)) = [(a, v)] from rfl, get_cons, if_neg h]
  | p :: l => by
    simp only [pins]
    split
    · rw [get_cons, if_neg h]
    · rw [get_cons, get_cons, get_pins_ne h v l]
theorem get_pins_self {a : List Int} (v : V) : ∀ (l : List (List Int × V)), pget .str a l = none → pget .str a (pins .str a v l) = some v
  | [], _ => by rw [show pins .str a v ([] : List (List Int × V)) = [(a, v)] from rfl, get_cons, if_pos rfl]
  | p :: l, h => by
    rw [get_cons] at h
    have hp : p.1 ≠ a := fun e => by rw [if_pos e] at h; cases h
    rw [if_neg hp] at h
    simp only [pins]
    split
    · rw [get_cons, if_pos rfl]
    · rw [get_cons, if_neg hp, get_pins_self v l h]
theorem get_pput_self (a : List Int) (v : V) (l : List (List Int × V)) : pget .str a (pput .str a v l) = some v := get_pins_self v _ (pget_del_self (kt := .str) l)
theorem get_pput_ne {a b : List Int} (h : a ≠ b) (v : V) (l : List (List Int × V)) : pget .str b (pput .str a v l) = pget .str b l := by
  unfold pput
  rw [get_pins_ne h, get_pdel_ne h]
theorem pins_keys_perm {a : List Int} (v : V) : ∀ (l : List (List Int × V)), ((pins .str a v l).map (·.1)).Perm (a :: l.map (·.1))
  | [] => .refl _
  | p :: l => by
    simp only [pins]
    split
    · exact .refl _
    · simp only [List.map_cons]
      exact ((pins_keys_perm v l).cons _).trans (.swap _ _ _)
theorem pdel_length (k : List Int) (l : List (List Int × V)) : (pdel .str k l).length ≤ l.length := List.length_filter_le _ _
theorem pdel_length_lt {k : List Int} {v : V} : ∀ {l : List (List Int × V)}, pget .str k l = some v → (pdel .str k l).length < l.length
  | [], h => by cases h
  | p :: l, h => by
    rw [get_cons] at h
    rw [pdel_eq, List.filter_cons]
    by_cases hp : p.1 = k
    · rw [if_neg (by simp [hp])]
      have := pdel_length k l
      rw [pdel_eq] at this
      simp only [List.length_cons]; omega
    · rw [if_neg hp] at h
      rw [if_pos (by simp [hp])]
      have := pdel_length_lt h
      rw [pdel_eq] at this
      simp only [List.length_cons]; omega
theorem pdel_nodup {k : List Int} {l : List (List Int × V)} (h : (l.map (·.1)).Nodup) : ((pdel .str k l).map (·.1)).Nodup := h.sublist (List.Sublist.map _ List.filter_sublist)
end

/-! ### what is known of a disk's files -/
def FOk (f : FileS) : Prop := byteOk f.1 ∧ byteOk f.2.1 ∧ f.1.length ≤ 1048576 ∧ f.2.1.length ≤ f.1.length ∧ f.2.2.Nodup ∧ ∀ s ∈ f.2.2, 0 ≤ s ∧ s < 16384
def FsOk (fs : List (List Int × FileS)) : Prop := (∀ p ∈ fs, FOk p.2) ∧ (fs.map (·.1)).Nodup ∧ fs.length ≤ 16
theorem FsOk.get {fs : List (List Int × FileS)} (h : FsOk fs) {k : List Int} {f : FileS} (hf : pget .str k fs = some f) : FOk f := h.1 _ (get_mem hf)
theorem FsOk.set {fs : List (List Int × FileS)} (h : FsOk fs) {k : List Int} {f : FileS} (hf : FOk f) : FsOk (pset .str k f fs) :=
  ⟨fun p hp => by rcases pset_mem hp with rfl | hp; exact hf; exact h.1 p hp, by rw [pset_keys]; exact h.2.1, by have := congrArg List.length (pset_keys k f fs); simp only [List.length_map] at this; rw [this]; exact h.2.2⟩
theorem FsOk.del {fs : List (List Int × FileS)} (h : FsOk fs) (k : List Int) : FsOk (pdel .str k fs) := ⟨fun p hp => h.1 p (pdel_mem hp), pdel_nodup h.2.1, Nat.le_trans (pdel_length _ _) h.2.2⟩
theorem FsOk.put {fs : List (List Int × FileS)} (h : FsOk fs) {k : List Int} {f : FileS} (hf : FOk f) (hl : pget .str k fs = none → fs.length < 16) : FsOk (pput .str k f fs) := by
  refine ⟨fun p hp => ?_, ?_, ?_⟩
  · rcases pins_mem.1 hp with rfl | hp
    · exact hf
    · exact h.1 p (pdel_mem hp)
  · refine (List.Perm.nodup_iff (pins_keys_perm (a := k) f (pdel .str k fs))).2 ?_
    exact List.nodup_cons.2 ⟨get_none.1 (pget_del_self (kt := .str) fs), pdel_nodup h.2.1⟩
  · unfold pput
    rw [spins_length]
    cases hg : pget .str k fs with
    | none => have := hl hg; have := pdel_length k fs; omega
    | some y => have := pdel_length_lt hg; have := h.2.2; omega

/-! ### Used, counted, names -/
theorem used_fold (D : DiskS) : ∀ (ks : List (List Int)) (s : Int), (∀ k ∈ ks, ∃ f, pget .str k D.2.1 = some f ∧ f.1.length ≤ 1048576) → 0 ≤ s → s + ks.length * 1048576 < 4611686018427387904 →
    ∃ s', foldK (disk_Disk_Used_l0 D) ks s = some s' ∧ 0 ≤ s' ∧ s' ≤ s + ks.length * 1048576
  | [], s, _, h0, _ => ⟨s, rfl, h0, by simp⟩
  | k :: ks, s, hk, h0, hb => by
    obtain ⟨f, hf, hl⟩ := hk k (by simp)
    simp only [List.length_cons, Int.natCast_add, Int.cast_ofNat_Int] at hb ⊢
    have e : disk_Disk_Used_l0 D k s = some (s + f.1.length) := by
      unfold disk_Disk_Used_l0
      simp only [hf, Option.bind_some, bnd_eq]
      rw [wrap_i64 (by omega) (by omega)]
    obtain ⟨s', h1, h2, h3⟩ := used_fold D ks (s + f.1.length) (fun k' hk' => hk k' (by simp [hk'])) (by omega) (by omega)
    refine ⟨s', ?_, h2, by omega⟩
    show (disk_Disk_Used_l0 D k s).bind _ = _
    rw [e]; exact h1
theorem Used_eq {D : DiskS} (h : FsOk D.2.1) : ∃ u, disk_Disk_Used D = some u ∧ 0 ≤ u ∧ u ≤ D.2.1.length * 1048576 := by
  obtain ⟨s', h1, h2, h3⟩ := used_fold D (D.2.1.map (·.1)) 0 (fun k hk => by
    cases hg : pget .str k D.2.1 with
    | none => exact absurd hk (get_none.1 hg)
    | some f => exact ⟨f, rfl, (h.get hg).2.2.1⟩) (by omega) (by simp only [List.length_map]; have := h.2.2; omega)
  refine ⟨s', ?_, h2, ?_⟩
  · unfold disk_Disk_Used
    simp only [bnd_eq, h1, Option.bind_some]
  · simp only [List.length_map] at h3; omega
end Sx
