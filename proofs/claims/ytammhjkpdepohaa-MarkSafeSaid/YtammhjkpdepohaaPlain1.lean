/-
  Own work, of several texts. What wraps and shifts of numbers come to.
  The disk's plain functions: what they answer.
  The disk's plain functions, further.
  The disk's plain functions: Write.
  What a disk tells: names, sizes, lists, bytes.
  CRC32C without a program in sight: a step, its powers, tables of what becomes of each bit, and what the printed functions answer.
  Bytes of numbers, without a program in sight.
  Slots, and what a mark's functions answer, without a program in sight.
  The bytes that a disk's files have.
  What a mark's functions answer, in the disk's own.
  The disk's plain functions: a crash.
  The disk's plain functions: the power.
  What a crash leaves of a file, to the byte.
  Marks on a disk that may refuse, and lose its power.
  The law's own reading of a slot.
  Chapter 19: what was acknowledged is there behind any crash.
  The disk is armed.
  A mark on a disk that refuses nothing.
  Chapter 19: what was acknowledged is there behind any crash: the law.
-/
import Derived.Test.YtammhjkpdepohaaDefs
import Derived.Test.YtammhjkpdepohaaComm
namespace Sx
open Go

abbrev B32 := BitVec 32
def u (v : B32) : Int := (v.toNat : Int)
theorem u_lt (a : B32) : 0 ≤ u a ∧ u a < 4294967296 := by unfold u; have := a.isLt; omega
theorem ofInt_u (a : B32) : BitVec.ofInt 32 (u a) = a := by simp [u]
theorem wrap_u32 {n : Int} (h0 : 0 ≤ n) (h : n < 4294967296) : IntKind.wrap .u32 n = n := by
  simp only [IntKind.wrap, IntKind.bits, IntKind.signed, Bool.false_and, Bool.false_eq_true, if_false]; omega
theorem wrap_i64 {n : Int} (h0 : -9223372036854775808 ≤ n) (h : n < 9223372036854775808) : IntKind.wrap .i64 n = n := by
  simp [IntKind.wrap, IntKind.bits, IntKind.signed]; omega
theorem wrap_u (a : B32) : IntKind.wrap .u32 (u a) = u a := wrap_u32 (u_lt a).1 (u_lt a).2
theorem ixor_u (a b : B32) : ixor .u32 (u a) (u b) = u (a ^^^ b) := by
  unfold ixor; show IntKind.wrap .u32 (BitVec.ofInt 32 (u a) ^^^ BitVec.ofInt 32 (u b)).toNat = _
  rw [ofInt_u, ofInt_u]; exact wrap_u _
theorem iand_u (a b : B32) : iand .u32 (u a) (u b) = u (a &&& b) := by
  unfold iand; show IntKind.wrap .u32 (BitVec.ofInt 32 (u a) &&& BitVec.ofInt 32 (u b)).toNat = _
  rw [ofInt_u, ofInt_u]; exact wrap_u _
theorem ishr_u (a : B32) {n : Nat} (hn : n ≤ 32) : ishr .u32 (u a) n = u (a >>> n) := by
  unfold ishr
  have : min (Int.toNat (n : Int)) (IntKind.bits .u32) = n := by simp [IntKind.bits]; omega
  rw [this]
  simp only [u, BitVec.toNat_ushiftRight, Nat.shiftRight_eq_div_pow]
  rw [Int.fdiv_eq_ediv_of_nonneg _ (Int.le_of_lt (Int.pow_pos (by decide)))]
  simp
theorem inot_u (a : B32) : inot .u32 (u a) = u (~~~a) := by
  unfold inot
  show ixor .u32 (IntKind.max .u32) (u a) = _
  have : IntKind.max .u32 = u (BitVec.allOnes 32) := by decide
  rw [this, ixor_u]
  congr 1

end Sx
namespace Sx
open Go

/-! ### lists of names and files -/
section
variable {V : Type}
theorem keq_str (a b : List Int) : keq .str a b = (a == b) := rfl
theorem get_nil (k : List Int) : pget .str k ([] : List (List Int × V)) = none := rfl
theorem get_cons (k : List Int) (p : List Int × V) (l : List (List Int × V)) : pget .str k (p :: l) = if p.1 = k then some p.2 else pget .str k l := by
  unfold pget
  rw [List.find?_cons]
  by_cases h : p.1 = k
  · simp [keq_str, h]
  · have : keq .str p.1 k = false := by simp [keq_str, h]
    simp [this, h]
theorem get_mem {k : List Int} {v : V} : ∀ {l : List (List Int × V)}, pget .str k l = some v → (k, v) ∈ l
  | [], h => by cases h
  | p :: l, h => by
    rw [get_cons] at h
    split at h
    · rename_i hp
      simp only [Option.some.injEq] at h
      subst h; subst hp
      exact List.mem_cons_self ..
    · exact List.mem_cons_of_mem _ (get_mem h)
theorem get_none {k : List Int} : ∀ {l : List (List Int × V)}, pget .str k l = none ↔ k ∉ l.map (·.1)
  | [] => by simp [get_nil]
  | p :: l => by
    rw [get_cons]
    split
    · rename_i hp; simp [hp]
    · rename_i hp
      rw [get_none]
      simp only [List.map_cons, List.mem_cons, not_or]
      exact ⟨fun h => ⟨fun e => hp e.symm, h⟩, fun h => h.2⟩
theorem pset_cons (k : List Int) (v : V) (p : List Int × V) (l : List (List Int × V)) : pset .str k v (p :: l) = (if p.1 = k then (p.1, v) else p) :: pset .str k v l := by
  unfold pset
  rw [List.map_cons]
  by_cases h : p.1 = k
  · simp [keq_str, h]
  · simp [keq_str, h]
theorem get_pset {k : List Int} {v y : V} : ∀ {l : List (List Int × V)}, pget .str k l = some y → pget .str k (pset .str k v l) = some v
  | [], h => by cases h
  | p :: l, h => by
    rw [get_cons] at h
    rw [pset_cons, get_cons]
    by_cases hp : p.1 = k
    · simp [hp]
    · rw [if_neg hp] at h
      rw [if_neg hp, if_neg hp]
      exact get_pset h
theorem pset_keys (k : List Int) (v : V) : ∀ (l : List (List Int × V)), (pset .str k v l).map (·.1) = l.map (·.1)
  | [] => rfl
  | p :: l => by
    rw [pset_cons, List.map_cons, List.map_cons, pset_keys k v l]
    split <;> simp_all
theorem pset_mem {k : List Int} {v : V} {q : List Int × V} : ∀ {l : List (List Int × V)}, q ∈ pset .str k v l → q = (k, v) ∨ q ∈ l
  | [], h => by cases h
  | p :: l, h => by
    rw [pset_cons] at h
    rcases List.mem_cons.1 h with h | h
    · by_cases hp : p.1 = k
      · rw [if_pos hp] at h; left; rw [h, hp]
      · rw [if_neg hp] at h; right; simp [h]
    · rcases pset_mem h with h | h
      · exact .inl h
      · exact .inr (by simp [h])
theorem pdel_eq (k : List Int) (l : List (List Int × V)) : pdel .str k l = l.filter fun p => !(p.1 == k) := rfl
theorem get_pdel_ne {a b : List Int} (h : a ≠ b) : ∀ (l : List (List Int × V)), pget .str b (pdel .str a l) = pget .str b l
  | [] => rfl
  | p :: l => by
    rw [pdel_eq, List.filter_cons]
    by_cases hp : p.1 = a
    · have : (!(p.1 == a)) = false := by simp [hp]
      rw [if_neg (by simp [this]), get_cons, if_neg (by rw [hp]; exact h)]
      exact get_pdel_ne h l
    · rw [if_pos (by simp [hp]), get_cons, get_cons]
      rw [← pdel_eq, get_pdel_ne h l]
theorem pdel_mem {k : List Int} {q : List Int × V} {l : List (List Int × V)} (h : q ∈ pdel .str k l) : q ∈ l := (List.mem_filter.1 h).1
theorem pins_mem {k : List Int} {v : V} {q : List Int × V} : ∀ {l : List (List Int × V)}, q ∈ pins .str k v l ↔ q = (k, v) ∨ q ∈ l
  | [] => by simp [pins]
  | p :: l => by
    simp only [pins]
    split
    · simp
    · simp only [List.mem_cons, pins_mem (l := l)]
      constructor
      · rintro (h | h | h)
        · exact .inr (.inl h)
        · exact .inl h
        · exact .inr (.inr h)
      · rintro (h | h | h)
        · exact .inr (.inl h)
        · exact .inl h
        · exact .inr (.inr h)
theorem spins_length {k : List Int} {v : V} : ∀ (l : List (List Int × V)), (pins .str k v l).length = l.length + 1
  | [] => rfl
  | p :: l => by
    simp only [pins]
    split
    · rfl
    · simp [spins_length l]
theorem get_pins_ne {a b : List Int} (h : a ≠ b) (v : V) : ∀ (l : List (List Int × V)), pget .str b (pins .str a v l) = pget .str b l
  | [] => by rw [show pins .str a v ([] : List (List Int × V)) = [(a, v)] from rfl, get_cons, if_neg h]
  | p :: l => by
    simp only [pins]
    split
    · rw [get_cons, if_neg h]
    · rw [get_cons, get_cons, get_pins_ne h v l]
theorem get_pins_self {a : List Int} (v : V) : ∀ (l : List (List Int × V)), pget .str a l = none → pget .str a (pins .str a v l) = some v
  | [], _ => by rw [show pins .str a v ([] : List (List Int × V)) = [(a, v)] from rfl, get_cons, if_pos rfl]
  | p :: l, h => by
    rw [get_cons] at h
    have hp : p.1 ≠ a := fun e => by rw [if_pos e] at h; cases h
    rw [if_neg hp] at h
    simp only [pins]
    split
    · rw [get_cons, if_pos rfl]
    · rw [get_cons, if_neg hp, get_pins_self v l h]
theorem get_pput_self (a : List Int) (v : V) (l : List (List Int × V)) : pget .str a (pput .str a v l) = some v := get_pins_self v _ (pget_del_self (kt := .str) l)
theorem get_pput_ne {a b : List Int} (h : a ≠ b) (v : V) (l : List (List Int × V)) : pget .str b (pput .str a v l) = pget .str b l := by
  unfold pput
  rw [get_pins_ne h, get_pdel_ne h]
theorem pins_keys_perm {a : List Int} (v : V) : ∀ (l : List (List Int × V)), ((pins .str a v l).map (·.1)).Perm (a :: l.map (·.1))
  | [] => .refl _
  | p :: l => by
    simp only [pins]
    split
    · exact .refl _
    · simp only [List.map_cons]
      exact ((pins_keys_perm v l).cons _).trans (.swap _ _ _)
theorem pdel_length (k : List Int) (l : List (List Int × V)) : (pdel .str k l).length ≤ l.length := List.length_filter_le _ _
theorem pdel_length_lt {k : List Int} {v : V} : ∀ {l : List (List Int × V)}, pget .str k l = some v → (pdel .str k l).length < l.length
  | [], h => by cases h
  | p :: l, h => by
    rw [get_cons] at h
    rw [pdel_eq, List.filter_cons]
    by_cases hp : p.1 = k
    · rw [if_neg (by simp [hp])]
      have := pdel_length k l
      rw [pdel_eq] at this
      simp only [List.length_cons]; omega
    · rw [if_neg hp] at h
      rw [if_pos (by simp [hp])]
      have := pdel_length_lt h
      rw [pdel_eq] at this
      simp only [List.length_cons]; omega
theorem pdel_nodup {k : List Int} {l : List (List Int × V)} (h : (l.map (·.1)).Nodup) : ((pdel .str k l).map (·.1)).Nodup := h.sublist (List.Sublist.map _ List.filter_sublist)
end

/-! ### what is known of a disk's files -/
def FOk (f : FileS) : Prop := byteOk f.1 ∧ byteOk f.2.1 ∧ f.1.length ≤ 1048576 ∧ f.2.1.length ≤ f.1.length ∧ f.2.2.Nodup ∧ ∀ s ∈ f.2.2, 0 ≤ s ∧ s < 16384
def FsOk (fs : List (List Int × FileS)) : Prop := (∀ p ∈ fs, FOk p.2) ∧ (fs.map (·.1)).Nodup ∧ fs.length ≤ 16
theorem FsOk.get {fs : List (List Int × FileS)} (h : FsOk fs) {k : List Int} {f : FileS} (hf : pget .str k fs = some f) : FOk f := h.1 _ (get_mem hf)
theorem FsOk.set {fs : List (List Int × FileS)} (h : FsOk fs) {k : List Int} {f : FileS} (hf : FOk f) : FsOk (pset .str k f fs) :=
  ⟨fun p hp => by rcases pset_mem hp with rfl | hp; exact hf; exact h.1 p hp, by rw [pset_keys]; exact h.2.1, by have := congrArg List.length (pset_keys k f fs); simp only [List.length_map] at this; rw [this]; exact h.2.2⟩
theorem FsOk.del {fs : List (List Int × FileS)} (h : FsOk fs) (k : List Int) : FsOk (pdel .str k fs) := ⟨fun p hp => h.1 p (pdel_mem hp), pdel_nodup h.2.1, Nat.le_trans (pdel_length _ _) h.2.2⟩
theorem FsOk.put {fs : List (List Int × FileS)} (h : FsOk fs) {k : List Int} {f : FileS} (hf : FOk f) (hl : pget .str k fs = none → fs.length < 16) : FsOk (pput .str k f fs) := by
  refine ⟨fun p hp => ?_, ?_, ?_⟩
  · rcases pins_mem.1 hp with rfl | hp
    · exact hf
    · exact h.1 p (pdel_mem hp)
  · refine (List.Perm.nodup_iff (pins_keys_perm (a := k) f (pdel .str k fs))).2 ?_
    exact List.nodup_cons.2 ⟨get_none.1 (pget_del_self (kt := .str) fs), pdel_nodup h.2.1⟩
  · unfold pput
    rw [spins_length]
    cases hg : pget .str k fs with
    | none => have := hl hg; have := pdel_length k fs; omega
    | some y => have := pdel_length_lt hg; have := h.2.2; omega

/-! ### Used, counted, names -/
theorem used_fold (D : DiskS) : ∀ (ks : List (List Int)) (s : Int), (∀ k ∈ ks, ∃ f, pget .str k D.2.1 = some f ∧ f.1.length ≤ 1048576) → 0 ≤ s → s + ks.length * 1048576 < 4611686018427387904 →
    ∃ s', foldK (disk_Disk_Used_l0 D) ks s = some s' ∧ 0 ≤ s' ∧ s' ≤ s + ks.length * 1048576
  | [], s, _, h0, _ => ⟨s, rfl, h0, by simp⟩
  | k :: ks, s, hk, h0, hb => by
    obtain ⟨f, hf, hl⟩ := hk k (by simp)
    simp only [List.length_cons, Int.natCast_add, Int.cast_ofNat_Int] at hb ⊢
    have e : disk_Disk_Used_l0 D k s = some (s + f.1.length) := by
      unfold disk_Disk_Used_l0
      simp only [hf, Option.bind_some, bnd_eq]
      rw [wrap_i64 (by omega) (by omega)]
    obtain ⟨s', h1, h2, h3⟩ := used_fold D ks (s + f.1.length) (fun k' hk' => hk k' (by simp [hk'])) (by omega) (by omega)
    refine ⟨s', ?_, h2, by omega⟩
    show (disk_Disk_Used_l0 D k s).bind _ = _
    rw [e]; exact h1
theorem Used_eq {D : DiskS} (h : FsOk D.2.1) : ∃ u, disk_Disk_Used D = some u ∧ 0 ≤ u ∧ u ≤ D.2.1.length * 1048576 := by
  obtain ⟨s', h1, h2, h3⟩ := used_fold D (D.2.1.map (·.1)) 0 (fun k hk => by
    cases hg : pget .str k D.2.1 with
    | none => exact absurd hk (get_none.1 hg)
    | some f => exact ⟨f, rfl, (h.get hg).2.2.1⟩) (by omega) (by simp only [List.length_map]; have := h.2.2; omega)
  refine ⟨s', ?_, h2, ?_⟩
  · unfold disk_Disk_Used
    simp only [bnd_eq, h1, Option.bind_some]
  · simp only [List.length_map] at h3; omega
end Sx
namespace Sx
open Go

theorem counted_eq (D : DiskS) (w : Int) : ∃ e a f o p, disk_Disk_counted D w = some (e, (D.1, D.2.1, a, D.2.2.2.1, f, o, p)) ∧ ((e = 9 ∧ o = true ∧ p = true) ∨ ((e = 0 ∨ e = 40) ∧ o = D.2.2.2.2.2.1 ∧ p = D.2.2.2.2.2.2)) := by
  unfold disk_Disk_counted
  simp only [bnd_eq]
  split
  · split
    · exact ⟨9, _, _, _, _, rfl, .inl ⟨rfl, rfl, rfl⟩⟩
    · split
      · split
        · split
          · exact ⟨40, _, _, _, _, rfl, .inr ⟨.inr rfl, rfl, rfl⟩⟩
          · exact ⟨0, _, _, _, _, rfl, .inr ⟨.inl rfl, rfl, rfl⟩⟩
        · exact ⟨0, _, _, _, _, rfl, .inr ⟨.inl rfl, rfl, rfl⟩⟩
      · rw [if_neg (by decide)]
        exact ⟨0, _, _, _, _, rfl, .inr ⟨.inl rfl, rfl, rfl⟩⟩
  · split
    · split
      · split
        · exact ⟨40, _, _, _, _, rfl, .inr ⟨.inr rfl, rfl, rfl⟩⟩
        · exact ⟨0, _, _, _, _, rfl, .inr ⟨.inl rfl, rfl, rfl⟩⟩
      · exact ⟨0, _, _, _, _, rfl, .inr ⟨.inl rfl, rfl, rfl⟩⟩
    · rw [if_neg (by decide)]
      exact ⟨0, _, _, _, _, rfl, .inr ⟨.inl rfl, rfl, rfl⟩⟩
theorem counted_calm {D : DiskS} (w : Int) (ha : D.2.2.1 = 0) (hf : D.2.2.2.2.1 = 0) : disk_Disk_counted D w = some (0, D) := by
  unfold disk_Disk_counted
  simp only [bnd_eq]
  rw [if_neg (by rw [hf]; decide), if_neg (by rw [ha]; decide), if_neg (by decide)]

theorem found_eq {D : DiskS} (name : List Int) (ho : D.2.2.2.2.2.1 = false) : disk_Disk_found D name = some (if (pget .str name D.2.1).isSome then 0 else 5) := by
  unfold disk_Disk_found
  rw [if_neg (by simp [ho])]
  simp only [bnd_eq]
  cases pget .str name D.2.1 <;> rfl
theorem clone_eq {l : List Int} (h : l.length ≤ 1048576) : slices_Clone__byte_byte l = some l := by
  unfold slices_Clone__byte_byte
  rw [if_pos (by simp only [List.length_nil]; omega)]
  rfl
theorem Sync_eq {D : DiskS} {name : List Int} {f : FileS} (hok : FsOk D.2.1) (ho : D.2.2.2.2.2.1 = false) (hf : pget .str name D.2.1 = some f) : ∃ e a fl o p, disk_Disk_counted D 2 = some (e, (D.1, D.2.1, a, D.2.2.2.1, fl, o, p)) ∧
    disk_Disk_Sync D name = some (if e = 0 then (0, (D.1, pset .str name (f.1, f.1, []) D.2.1, a, D.2.2.2.1, fl, o, p)) else (e, (D.1, D.2.1, a, D.2.2.2.1, fl, o, p))) := by
  obtain ⟨e, a, fl, o, p, hc, _⟩ := counted_eq D 2
  refine ⟨e, a, fl, o, p, hc, ?_⟩
  unfold disk_Disk_Sync
  rw [found_eq name ho, hf]
  simp only [Option.isSome_some, if_true, Option.bind_some, hc]
  rw [if_neg (by decide)]
  by_cases he : e = 0
  · subst he
    rw [if_neg (by decide)]
    simp only [hf, Option.bind_some, clone_eq (hok.get hf).2.2.1, if_true]
  · rw [if_pos (by simpa using he), if_neg he]
theorem Rename_eq {D : DiskS} {a b : List Int} {f : FileS} (hok : FsOk D.2.1) (ho : D.2.2.2.2.2.1 = false) (hf : pget .str a D.2.1 = some f) (hn : disk_isName b = some true) :
    disk_Disk_Rename D a b = some (0, (D.1, pput .str b f (pdel .str a D.2.1), D.2.2.1, D.2.2.2.1, D.2.2.2.2.1, D.2.2.2.2.2.1, D.2.2.2.2.2.2)) := by
  unfold disk_Disk_Rename
  rw [found_eq a ho, hf]
  simp only [Option.isSome_some, if_true, Option.bind_some, hn]
  rw [if_neg (by decide), if_neg (by decide)]
  rw [if_pos (by have := pdel_length a D.2.1; have := hok.2.2; omega)]
theorem Remove_eq {D : DiskS} {a : List Int} (ho : D.2.2.2.2.2.1 = false) : disk_Disk_Remove D a = some (if (pget .str a D.2.1).isSome then (0, (D.1, pdel .str a D.2.1, D.2.2.1, D.2.2.2.1, D.2.2.2.2.1, D.2.2.2.2.2.1, D.2.2.2.2.2.2)) else (5, D)) := by
  unfold disk_Disk_Remove
  rw [found_eq a ho]
  cases h : pget .str a D.2.1 <;> simp
/-! ### writing -/
theorem kput_mem {k q : Int} {ks : List Int} : q ∈ kput k ks ↔ q = k ∨ q ∈ ks := by
  unfold kput pput
  have : ∀ l : List (Int × Unit), q ∈ (pins (.int .i64) k () l).map (·.1) ↔ q = k ∨ q ∈ l.map (·.1) := by
    intro l
    induction l with
    | nil => simp [pins]
    | cons p l ih =>
      simp only [pins]
      split
      · simp
      · simp only [List.map_cons, List.mem_cons, ih]
        constructor
        · rintro (h | h | h)
          · exact .inr (.inl h)
          · exact .inl h
          · exact .inr (.inr h)
        · rintro (h | h | h)
          · exact .inr (.inl h)
          · exact .inl h
          · exact .inr (.inr h)
  rw [this]
  constructor
  · rintro (h | h)
    · exact .inl h
    · obtain ⟨p, hp, e⟩ := List.mem_map.1 h
      have hp := (List.mem_filter.1 hp).1
      obtain ⟨x, hx, e2⟩ := List.mem_map.1 hp
      subst e2; subst e
      exact .inr hx
  · rintro (h | h)
    · exact .inl h
    · by_cases hq : q = k
      · exact .inl hq
      · exact .inr (List.mem_map.2 ⟨(q, ()), List.mem_filter.2 ⟨List.mem_map.2 ⟨q, h, rfl⟩, by simp [keq, hq]⟩, rfl⟩)
theorem kput_nodup {k : Int} {ks : List Int} (h : ks.Nodup) : (kput k ks).Nodup := by
  unfold kput pput
  have key : ∀ l : List (Int × Unit), ((pins (.int .i64) k () l).map (·.1)).Perm (k :: l.map (·.1)) := by
    intro l
    induction l with
    | nil => exact .refl _
    | cons p l ih =>
      simp only [pins]
      split
      · exact .refl _
      · simp only [List.map_cons]
        exact (ih.cons _).trans (.swap _ _ _)
  refine (List.Perm.nodup_iff (key _)).2 (List.nodup_cons.2 ⟨fun hk => ?_, ?_⟩)
  · obtain ⟨p, hp, e⟩ := List.mem_map.1 hk
    have := (List.mem_filter.1 hp).2
    subst e
    simp [keq] at this
  · refine List.Nodup.sublist (List.Sublist.map _ List.filter_sublist) ?_
    have e : (ks.map fun x => (x, ())).map (·.1) = ks := by rw [List.map_map]; exact List.map_id _
    rw [e]; exact h
theorem nodup_len {l : List Int} (hn : l.Nodup) (hb : ∀ s ∈ l, 0 ≤ s ∧ s < 16384) : l.length ≤ 16384 := by
  have : (l.map Int.toNat).Nodup := by
    refine List.Pairwise.map _ (fun a b h => h) ?_
    refine List.Pairwise.imp_of_mem ?_ hn
    intro a b ha hb' h e
    have := hb a ha; have := hb b hb'
    exact h (by omega)
  have h2 : (l.map Int.toNat) ⊆ List.range 16384 := fun x hx => by
    obtain ⟨s, hs, rfl⟩ := List.mem_map.1 hx
    have := hb s hs
    exact List.mem_range.2 (by omega)
  have := List.Nodup.length_le_of_subset this h2
  simpa using this
theorem write_l0 (at0 : Int) (text : List Int) (k : List Int → Option (Int × DiskS)) (h0 : 0 ≤ at0) (hb : at0 + text.length ≤ 1048576) : ∀ (fuel : Nat) (s : Int) (ds : List Int), 0 ≤ s → at0 + text.length ≤ (s + fuel - 1) * 64 → 1 ≤ fuel → s ≤ 16384 → ds.Nodup → (∀ x ∈ ds, 0 ≤ x ∧ x < 16384) →
    ∃ ds', disk_Disk_Write_l0 at0 text k fuel (s, ds) = k ds' ∧ ds'.Nodup ∧ (∀ x ∈ ds', 0 ≤ x ∧ x < 16384) ∧ ∀ x, x ∈ ds' ↔ x ∈ ds ∨ (text ≠ [] ∧ s ≤ x ∧ x * 64 < at0 + text.length)
  | 0, s, ds, _, _, h1, _, _, _ => absurd h1 (by omega)
  | fuel + 1, s, ds, hs, hf, _, hs2, hn, hd => by
    simp only [disk_Disk_Write_l0, bnd_eq]
    rw [wrap_i64 (n := s * 64) (by omega) (by omega), wrap_i64 (n := at0 + text.length) (by omega) (by omega)]
    by_cases hc : (decide (s * 64 < at0 + (text.length : Int)) && (text != [])) = true
    · rw [if_pos hc]
      have hlt : s * 64 < at0 + (text.length : Int) := by simp only [Bool.and_eq_true, decide_eq_true_eq] at hc; exact hc.1
      rw [if_pos (by have := nodup_len hn hd; omega), wrap_i64 (n := s + 1) (by omega) (by omega)]
      have hfu : 1 ≤ fuel := by
        rcases Nat.eq_zero_or_pos fuel with h | h
        · subst h; simp at hf; omega
        · exact h
      have htx : text ≠ [] := by simp only [Bool.and_eq_true, bne_iff_ne] at hc; exact hc.2
      obtain ⟨ds', e1, e2, e3, e4⟩ := write_l0 at0 text k h0 hb fuel (s + 1) (kput s ds) (by omega) (by simp only [Int.natCast_add, Int.cast_ofNat_Int] at hf; omega) hfu (by omega) (kput_nodup hn) (fun x hx => by
        rcases kput_mem.1 hx with rfl | hx
        · omega
        · exact hd x hx)
      refine ⟨ds', e1, e2, e3, fun x => (e4 x).trans ?_⟩
      rw [kput_mem]
      constructor
      · rintro ((rfl | h) | ⟨h1, h2, h3⟩)
        · exact .inr ⟨htx, by omega, by omega⟩
        · exact .inl h
        · exact .inr ⟨h1, by omega, h3⟩
      · rintro (h | ⟨h1, h2, h3⟩)
        · exact .inl (.inr h)
        · rcases Int.lt_or_eq_of_le h2 with h | h
          · exact .inr ⟨h1, by omega, h3⟩
          · exact .inl (.inl h.symm)
    · rw [if_neg hc]
      refine ⟨ds, rfl, hn, hd, fun x => ⟨.inl, fun h => h.elim id fun ⟨h1, h2, h3⟩ => absurd ?_ hc⟩⟩
      simp only [Bool.and_eq_true, decide_eq_true_eq, bne_iff_ne]
      exact ⟨by omega, h1⟩
end Sx
namespace Sx
open Go

/-- a text laid into another one, which it may make longer -/
def over (seen : List Int) (i : Nat) (text : List Int) : List Int := seen.take i ++ text ++ seen.drop (i + text.length)
theorem over_length {seen text : List Int} {i : Nat} (h : i ≤ seen.length) : (over seen i text).length = max seen.length (i + text.length) := by
  unfold over
  simp only [List.length_append, List.length_take, List.length_drop]
  omega
theorem laid_over {xs ys : List Int} {i : Nat} (h : i + ys.length ≤ xs.length) : laidOver xs i ys = over xs i ys := by
  unfold laidOver over
  rw [List.take_of_length_le (l := ys) (by omega)]
theorem over_zeros {seen text : List Int} {i : Nat} (h : i ≤ seen.length) (h2 : seen.length < i + text.length) (m : Nat) (hm : m = i + text.length - seen.length) : over (seen ++ List.replicate m 0) i text = over seen i text := by
  unfold over
  rw [List.take_append_of_le_length h, List.drop_of_length_le (by simp; omega), List.drop_of_length_le (by omega)]
theorem byteOk_app2 {a b : List Int} (ha : byteOk a) (hb : byteOk b) : byteOk (a ++ b) := fun x hx => (List.mem_append.1 hx).elim (ha x) (hb x)
theorem byteOk_of_subset {a b : List Int} (hs : a ⊆ b) (hb : byteOk b) : byteOk a := fun x hx => hb x (hs hx)
theorem over_bytes {seen text : List Int} {i : Nat} (hs : byteOk seen) (ht : byteOk text) : byteOk (over seen i text) :=
  byteOk_app2 (byteOk_app2 (byteOk_of_subset (List.take_subset _ _) hs) ht) (byteOk_of_subset (List.drop_subset _ _) hs)

def seenOf (fs : List (List Int × FileS)) (name : List Int) : List Int := ((pget .str name fs).map (·.1)).getD []
def safeOf (fs : List (List Int × FileS)) (name : List Int) : List Int := ((pget .str name fs).map (·.2.1)).getD []

def dirtyOf (fs : List (List Int × FileS)) (name : List Int) : List Int := match pget .str name fs with | none => [] | some f => f.2.2
theorem Write_core2 {D : DiskS} {name text : List Int} {at0 : Int} (hok : FsOk D.2.1) (ho : D.2.2.2.2.2.1 = false) (hn : disk_isName name = some true) (ht : byteOk text) (h0 : 0 ≤ at0) (h1 : at0 ≤ (seenOf D.2.1 name).length) (hb : at0 + text.length ≤ 1048576)
    (hroom : pget .str name D.2.1 = none → D.2.1.length < 16) (hcap : ∀ u, disk_Disk_Used D = some u → u + max 0 (at0 + text.length - (seenOf D.2.1 name).length) ≤ D.1) :
    ∃ e a fl o p fs', disk_Disk_counted D 1 = some (e, (D.1, D.2.1, a, D.2.2.2.1, fl, o, p)) ∧ disk_Disk_Write D name at0 text = some (if e = 0 then (0, (D.1, fs', a, D.2.2.2.1, fl, o, p)) else (e, (D.1, D.2.1, a, D.2.2.2.1, fl, o, p))) ∧
      FsOk fs' ∧ (∃ ds, pget .str name fs' = some (over (seenOf D.2.1 name) at0.toNat text, safeOf D.2.1 name, ds) ∧ ∀ x, x ∈ ds ↔ x ∈ dirtyOf D.2.1 name ∨ (text ≠ [] ∧ at0 / 64 ≤ x ∧ x * 64 < at0 + text.length)) ∧ (∀ b, name ≠ b → pget .str b fs' = pget .str b D.2.1) ∧ fs'.map (·.1) = (if (pget .str name D.2.1).isSome then D.2.1 else pput .str name ([], [], []) D.2.1).map (·.1) := by
  obtain ⟨e, a, fl, o, p, hc, _⟩ := counted_eq D 1
  obtain ⟨u, hu, hu0, hu1⟩ := Used_eq hok
  have hlen := hok.2.2
  replace hcap := hcap u hu
  -- the file as it is ahead of the writing
  have hbase : ∃ fs1 f1, fs1 = (if (pget .str name D.2.1).isSome then D.2.1 else pput .str name ([], [], []) D.2.1) ∧ pget .str name fs1 = some f1 ∧ f1.1 = seenOf D.2.1 name ∧ f1.2.1 = safeOf D.2.1 name ∧ f1.2.2 = dirtyOf D.2.1 name ∧ FsOk fs1 ∧ FOk f1 ∧ ∀ b, name ≠ b → pget .str b fs1 = pget .str b D.2.1 := by
    cases hg : pget .str name D.2.1 with
    | some f => exact ⟨_, f, by simp, hg, by simp [seenOf, hg], by simp [safeOf, hg], by simp [dirtyOf, hg], hok, hok.get hg, fun _ _ => rfl⟩
    | none =>
      have hf0 : FOk ([], [], []) := ⟨(fun x hx => by cases hx), (fun x hx => by cases hx), by simp, by simp, by simp, (fun x hx => by cases hx)⟩
      exact ⟨_, ([], [], []), by simp, get_pput_self _ _ _, by simp [seenOf, hg], by simp [safeOf, hg], by simp [dirtyOf, hg], hok.put hf0 hroom, hf0, fun b hb => get_pput_ne hb _ _⟩
  obtain ⟨fs1, f1, hfs1, hg1, hs1, hsf, hdf, hok1, hfo, hne1⟩ := hbase
  have hsl : f1.1.length ≤ 1048576 := hfo.2.2.1
  rw [← hs1] at h1 hcap
  -- .. made longer
  have hlong : ∃ fs2 z, (fs2 = if at0 + (text.length : Int) > f1.1.length then pset .str name (f1.1 ++ List.replicate z 0, f1.2.1, f1.2.2) fs1 else fs1) ∧ z = Int.toNat (at0 + text.length - f1.1.length) := ⟨_, _, rfl, rfl⟩
  obtain ⟨fs2, z, hfs2, hz⟩ := hlong
  let f2s : List Int := if at0 + (text.length : Int) > f1.1.length then f1.1 ++ List.replicate z 0 else f1.1
  have hg2 : pget .str name fs2 = some (f2s, f1.2.1, f1.2.2) := by
    rw [hfs2]
    show _ = some ((if _ then _ else _), _, _)
    split
    · exact get_pset hg1
    · exact hg1
  have hne2 : ∀ b, name ≠ b → pget .str b fs2 = pget .str b D.2.1 := fun b hb => by
    rw [hfs2]
    split
    · rw [pget_pset_ne hb, hne1 b hb]
    · exact hne1 b hb
  have hk2 : fs2.map (·.1) = fs1.map (·.1) := by
    rw [hfs2]
    split
    · rw [pset_keys]
    · rfl
  have hf2l : (f2s.length : Int) = max (f1.1.length : Int) (at0 + text.length) := by
    show ((if _ then _ else _ : List Int).length : Int) = _
    split
    · rename_i hgt
      simp only [List.length_append, List.length_replicate, hz]; omega
    · omega
  have hf2b : byteOk f2s := by
    show byteOk (if _ then _ else _)
    split
    · exact byteOk_app2 hfo.1 (fun x hx => by rw [(List.mem_replicate.1 hx).2]; decide)
    · exact hfo.1
  have hov : laidOver f2s (Int.toNat at0) text = over f1.1 (Int.toNat at0) text := by
    rw [laid_over (by omega)]
    show over (if _ then _ else _) _ _ = _
    split
    · rename_i hgt
      exact over_zeros (by omega) (by omega) z (by rw [hz]; omega)
    · rfl
  have hok2 : FsOk fs2 := by
    rw [hfs2]
    split
    · rename_i hgt
      refine hok1.set ⟨byteOk_app2 hfo.1 (fun x hx => by rw [(List.mem_replicate.1 hx).2]; decide), hfo.2.1, ?_, ?_, hfo.2.2.2.2⟩
      · simp only [List.length_append, List.length_replicate, hz]; omega
      · have := hfo.2.2.2.1
        simp only [List.length_append, List.length_replicate]; omega
    · exact hok1
  -- the dirty sectors
  obtain ⟨ds, hds, hdn, hdb, hdm⟩ := write_l0 at0 text (fun o30 => some ((0 : Int), (D.1, pset .str name (laidOver f2s (Int.toNat at0) text, f1.2.1, o30) fs2, a, D.2.2.2.1, fl, o, p))) h0 hb (text.length + 2) (at0 / 64) f1.2.2 (by omega) (by omega) (by omega) (by omega) hfo.2.2.2.2.1 hfo.2.2.2.2.2
  refine ⟨e, a, fl, o, p, pset .str name (laidOver f2s (Int.toNat at0) text, f1.2.1, ds) fs2, hc, ?_, ?_, ⟨ds, ?_⟩, fun b hb => by rw [pget_pset_ne hb, hne2 b hb], by rw [pset_keys, hk2, hfs1]⟩
  · have hsz : (0 : Int) ≤ (f1.1.length : Int) := by omega
    have hw1 : IntKind.wrap .i64 (at0 + (text.length : Int)) = at0 + text.length := wrap_i64 (by omega) (by omega)
    have hw2 : IntKind.wrap .i64 (at0 + (text.length : Int) - f1.1.length) = at0 + text.length - f1.1.length := wrap_i64 (by omega) (by omega)
    have hw3 : IntKind.wrap .i64 (u + max 0 (at0 + (text.length : Int) - f1.1.length)) = u + max 0 (at0 + (text.length : Int) - f1.1.length) := wrap_i64 (by omega) (by omega)
    have htd : IntKind.wrap .i64 (Int.tdiv at0 64) = at0 / 64 := by rw [Int.tdiv_eq_ediv_of_nonneg h0]; exact wrap_i64 (by omega) (by omega)
    -- what follows the checks
    have tail : ∀ (n0 : Int), n0 = f1.1.length → ∀ k16fs : List (List Int × FileS), k16fs = fs1 → (fun (o17 : List (List Int × FileS)) => if (decide (at0 + (text.length : Int) > n0)) = true then ((pget .str name o17).bind fun (f41 : FileS) => if 0 ≤ at0 + (text.length : Int) - n0 ∧ (List.length f41.1 + Int.toNat (at0 + (text.length : Int) - n0)) * 1 ≤ 140737488355328 then
        ((pget .str name (pset .str name ((f41.1 ++ List.replicate (Int.toNat (at0 + (text.length : Int) - n0)) 0), f41.2.1, f41.2.2) o17)).bind fun (f22 : FileS) => if (0 : Int) ≤ at0 ∧ at0 ≤ (List.length f22.1 : Int) ∧ (List.length f22.1 : Int) ≤ (List.length f22.1 : Int) then disk_Disk_Write_l0 at0 text (fun o30 => some ((0 : Int), (D.1, (pset .str name ((laidOver f22.1 (Int.toNat at0) text), f22.2.1, o30) (pset .str name ((f41.1 ++ List.replicate (Int.toNat (at0 + (text.length : Int) - n0)) 0), f41.2.1, f41.2.2) o17)), a, D.2.2.2.1, fl, o, p))) (text.length + 2) (at0 / 64, f22.2.2) else none) else none) else
        ((pget .str name o17).bind fun (f22 : FileS) => if (0 : Int) ≤ at0 ∧ at0 ≤ (List.length f22.1 : Int) ∧ (List.length f22.1 : Int) ≤ (List.length f22.1 : Int) then disk_Disk_Write_l0 at0 text (fun o30 => some ((0 : Int), (D.1, (pset .str name ((laidOver f22.1 (Int.toNat at0) text), f22.2.1, o30) o17), a, D.2.2.2.1, fl, o, p))) (text.length + 2) (at0 / 64, f22.2.2) else none)) k16fs = some (0, (D.1, pset .str name (laidOver f2s (Int.toNat at0) text, f1.2.1, ds) fs2, a, D.2.2.2.1, fl, o, p)) := by
      rintro n0 hn0 k16fs rfl
      subst hn0
      rw [← hds]
      show (if _ then _ else _) = _
      by_cases hgt : at0 + (text.length : Int) > f1.1.length
      · have e1 : f2s = f1.1 ++ List.replicate z 0 := if_pos hgt
        have e2 : fs2 = pset .str name (f1.1 ++ List.replicate z 0, f1.2.1, f1.2.2) k16fs := by rw [hfs2, if_pos hgt]
        rw [if_pos (by simpa using hgt), hg1]
        simp only [Option.bind_some]
        rw [if_pos (by omega), ← hz, ← e2, hg2]
        simp only [Option.bind_some]
        rw [if_pos (by omega)]
      · have e1 : f2s = f1.1 := if_neg hgt
        have e2 : fs2 = k16fs := by rw [hfs2, if_neg hgt]
        rw [if_neg (by simpa using hgt)]
        rw [e2] at hg2
        rw [hg2]
        simp only [Option.bind_some]
        rw [if_pos (by omega), e2]
    unfold disk_Disk_Write
    rw [if_neg (by simp [ho])]
    simp only [bnd_eq, hn, hu, hc, Option.bind_some]
    have hne : ∀ n0 : Int, n0 = f1.1.length → (if (decide (at0 < 0) || decide (at0 > n0)) = true then some (1, D)
    else
      if decide (IntKind.i64.wrap (at0 + ↑text.length) > 1048576) = true then some (3, D)
      else
        if decide (IntKind.i64.wrap (u + max 0 (IntKind.i64.wrap (IntKind.i64.wrap (at0 + ↑text.length) - n0))) > D.fst) = true then some (41, D)
        else if (e != 0) = true then some (e, D.fst, D.snd.fst, a, D.snd.snd.snd.fst, fl, o, p) else some (0, (D.1, pset .str name (laidOver f2s (Int.toNat at0) text, f1.2.1, ds) fs2, a, D.2.2.2.1, fl, o, p))) = some (if e = 0 then (0, (D.1, pset .str name (laidOver f2s (Int.toNat at0) text, f1.2.1, ds) fs2, a, D.2.2.2.1, fl, o, p)) else (e, (D.1, D.2.1, a, D.2.2.2.1, fl, o, p))) := by
      rintro n0 rfl
      rw [hw1, hw2, hw3, if_neg (by simp only [Bool.or_eq_true, decide_eq_true_eq]; omega), if_neg (by simp only [decide_eq_true_eq]; omega), if_neg (by simp only [decide_eq_true_eq]; omega)]
      by_cases he : e = 0
      · rw [if_neg (by simp [he]), if_pos he]
      · rw [if_pos (by simpa using he), if_neg he]
    cases hg : pget .str name D.2.1 with
    | none =>
      rw [hg] at hfs1
      simp only [Option.isSome_none, Bool.false_eq_true, if_false] at hfs1
      have hfe : f1 = ([], [], []) := by rw [hfs1, get_pput_self] at hg1; exact (Option.some.inj hg1).symm
      have hl0 : (0 : Int) = (f1.1.length : Int) := by rw [hfe]; rfl
      have hr := hroom hg
      rw [← hne 0 hl0, ← tail 0 hl0 _ hfs1.symm]
      simp only [Option.isSome_none, Bool.false_eq_true, if_false, Bool.not_true, Bool.false_or, Bool.not_false, if_true]
      have hm : D.2.1.length ≤ most := by simp only [most]; omega
      have h16 : ¬ decide ((D.2.1.length : Int) ≥ 16) = true := by simp only [decide_eq_true_eq]; omega
      have h62 : D.2.1.length < 4611686018427387904 := by omega
      simp only [if_pos hm, if_neg h16, if_pos h62, htd, hw1]
      have hw2' : IntKind.wrap .i64 (at0 + (text.length : Int) - 0) = at0 + text.length - 0 := wrap_i64 (by omega) (by omega)
      simp only [hw2']
    | some f =>
      rw [hg] at hfs1
      simp only [Option.isSome_some, if_true] at hfs1
      have hff : f1 = f := by rw [hfs1, hg] at hg1; exact (Option.some.inj hg1).symm
      have hl0 : (f.1.length : Int) = (f1.1.length : Int) := by rw [hff]
      rw [← hne _ hl0, ← tail _ hl0 _ hfs1.symm]
      simp only [Option.isSome_some, if_true, Option.bind_some, Bool.not_true, Bool.false_or, Bool.false_eq_true, if_false]
      have hw2' : IntKind.wrap .i64 (at0 + (text.length : Int) - f.1.length) = at0 + text.length - f.1.length := by rw [hl0]; exact hw2
      simp only [htd, hw1, hw2', hg, Option.bind_some]
  · refine hok2.set ⟨?_, hfo.2.1, ?_, ?_, hdn, hdb⟩
    · show byteOk (laidOver _ _ _)
      rw [hov]; exact over_bytes hfo.1 ht
    · show (laidOver _ _ _).length ≤ _
      rw [hov, over_length (by omega)]; omega
    · show f1.2.1.length ≤ (laidOver _ _ _).length
      have := hfo.2.2.2.1
      rw [hov, over_length (by omega)]; omega
  · refine ⟨by rw [get_pset hg2, hov, hs1, hsf], fun x => ?_⟩
    rw [← hdf]; exact hdm x
end Sx
namespace Sx
open Go

theorem found_off {D : DiskS} (name : List Int) (ho : D.2.2.2.2.2.1 = true) : disk_Disk_found D name = some 9 := by
  unfold disk_Disk_found
  rw [if_pos ho]

theorem Size_eq {D : DiskS} {name : List Int} (ho : D.2.2.2.2.2.1 = false) : disk_Disk_Size D name = some (match pget .str name D.2.1 with | none => (0, 5) | some f => ((f.1.length : Int), 0)) := by
  unfold disk_Disk_Size
  rw [found_eq name ho]
  cases h : pget .str name D.2.1 with
  | none => rfl
  | some f => rfl
/-- some of the bytes -/
theorem Read_at {D : DiskS} {name : List Int} {at0 n : Int} {f : FileS} (hok : FsOk D.2.1) (ho : D.2.2.2.2.2.1 = false) (hg : pget .str name D.2.1 = some f) (h0 : 0 ≤ at0) (h1 : at0 ≤ f.1.length) (hn : 0 ≤ n) : disk_Disk_Read D name at0 n = some ((f.1.drop at0.toNat).take n.toNat, 0) := by
  have hl := (hok.get hg).2.2.1
  unfold disk_Disk_Read
  rw [found_eq name ho, hg]
  simp only [Option.isSome_some, if_true, Option.bind_some, bnd_eq]
  rw [if_neg (by decide), if_neg (by simp only [Bool.or_eq_true, decide_eq_true_eq]; omega)]
  by_cases he : at0 ≥ (f.1.length : Int)
  · rw [if_pos (by simpa using he)]
    have : List.drop at0.toNat f.1 = [] := List.drop_eq_nil_of_le (by omega)
    rw [this, List.take_nil]
  · rw [if_neg (by simpa using he), if_pos (by omega), Int.toNat_natCast, List.take_length]
    rw [if_pos (by refine ⟨by omega, ?_, ?_⟩ <;> omega)]
    rcases Int.le_total n ((List.drop at0.toNat f.1).length : Int) with h | h
    · rw [Int.min_eq_left h]
    · rw [Int.min_eq_right h, Int.toNat_natCast, List.take_length, List.take_of_length_le (by omega)]
end Sx
namespace Sx
open Go

/-! ### A step and its powers -/
def poly : B32 := 2197175160#32
def low (x : B32) : Bool := x.getLsbD 0
def step (x : B32) : B32 := (x >>> 1) ^^^ (if low x then poly else 0#32)
theorem low_xor (x y : B32) : low (x ^^^ y) = (low x ^^ low y) := BitVec.getLsbD_xor
theorem xor_mid (a b c : B32) : a ^^^ (b ^^^ c) = b ^^^ (a ^^^ c) := by rw [← BitVec.xor_assoc, ← BitVec.xor_assoc, BitVec.xor_comm a b]
def it : Nat → B32 → B32
  | 0, x => x
  | n + 1, x => it n (step x)
theorem step_xor (x y : B32) : step (x ^^^ y) = step x ^^^ step y := by
  simp only [step, BitVec.ushiftRight_xor_distrib, low_xor]
  cases low x <;> cases low y <;> simp [BitVec.xor_assoc, xor_mid poly] <;> exact BitVec.xor_comm _ _
theorem it_xor : ∀ (n : Nat) (x y : B32), it n (x ^^^ y) = it n x ^^^ it n y
  | 0, _, _ => rfl
  | n + 1, x, y => by simp only [it, step_xor, it_xor n]
theorem it_add : ∀ (m n : Nat) (x : B32), it (m + n) x = it n (it m x)
  | 0, n, x => by simp [it]
  | m + 1, n, x => by rw [Nat.succ_add]; exact it_add m n (step x)
/-- low bits that are zero fall out -/
theorem it_low : ∀ (n : Nat) (x : B32), (∀ i, i < n → x.getLsbD i = false) → it n x = x >>> n
  | 0, x, _ => by simp [it]
  | n + 1, x, h => by
    have h0 : step x = x >>> 1 := by
      have h1 : low x = false := h 0 (by omega)
      simp [step, h1]
    simp only [it, h0]
    rw [it_low n (x >>> 1) (fun i hi => by rw [BitVec.getLsbD_ushiftRight]; exact h (1 + i) (by omega)), ← BitVec.shiftRight_add]
    congr 1; omega
theorem it_split (n : Nat) (x : B32) : it n x = (x >>> n) ^^^ it n (x &&& (BitVec.allOnes 32 >>> (32 - n))) := by
  have key : x = (x &&& ~~~(BitVec.allOnes 32 >>> (32 - n))) ^^^ (x &&& (BitVec.allOnes 32 >>> (32 - n))) := by
    apply BitVec.eq_of_getLsbD_eq; intro i hi
    simp only [BitVec.getLsbD_xor, BitVec.getLsbD_and, BitVec.getLsbD_not]
    cases x.getLsbD i <;> simp [hi]
  conv => lhs; rw [key]
  rw [it_xor]
  congr 1
  rw [it_low]
  · apply BitVec.eq_of_getLsbD_eq; intro i hi
    simp only [BitVec.getLsbD_ushiftRight, BitVec.getLsbD_and, BitVec.getLsbD_not, BitVec.getLsbD_allOnes]
    by_cases h : n + i < 32
    · have : ¬ (32 - n + (n + i) < 32) := by omega
      simp [h, this]
    · have := BitVec.getLsbD_of_ge x (n + i) (by omega)
      simp [this]
  · intro i hi
    simp only [BitVec.getLsbD_and, BitVec.getLsbD_not, BitVec.getLsbD_ushiftRight, BitVec.getLsbD_allOnes]
    by_cases h : i < 32
    · have : 32 - n + i < 32 := by omega
      simp [this]
    · simp [BitVec.getLsbD_of_ge x i (by omega)]

/-! ### The printed functions -/
def halfTab : List Int := (List.range 16).map fun i => u (it 4 (BitVec.ofNat 32 i))
theorem halves_eq : crc_halves = some halfTab := by decide +kernel

theorem half_step (x : B32) : (if 0 ≤ iand .u32 (u x) 15 ∧ iand .u32 (u x) 15 < 16 then some (ixor .u32 (ishr .u32 (u x) 4) (List.getD halfTab (Int.toNat (iand .u32 (u x) 15)) 0)) else none) = some (u (it 4 x)) := by
  have e : iand .u32 (u x) 15 = u (x &&& 15#32) := iand_u x 15#32
  have hlt : (x &&& 15#32).toNat < 16 := by rw [BitVec.toNat_and]; exact Nat.lt_of_le_of_lt Nat.and_le_right (by decide)
  rw [e, if_pos (by unfold u; omega)]
  have e2 : Int.toNat (u (x &&& 15#32)) = (x &&& 15#32).toNat := by unfold u; omega
  have e3 : halfTab.getD (x &&& 15#32).toNat 0 = u (it 4 (x &&& 15#32)) := by
    simp only [halfTab, List.getD, List.getElem?_map, List.getElem?_range hlt, Option.map_some, Option.getD_some]
    simp
  have e4 : ishr .u32 (u x) 4 = u (x >>> 4) := ishr_u x (n := 4) (by omega)
  rw [e2, e3, e4, ixor_u, it_split 4 x]
  rfl

/-- bytes, one after the other -/
def run : B32 → List Int → B32
  | x, [] => x
  | x, c :: r => run (it 8 (x ^^^ BitVec.ofInt 32 c)) r

theorem byte_u {c : Int} (h : 0 ≤ c ∧ c < 256) : IntKind.wrap .u32 c = u (BitVec.ofInt 32 c) := by
  rw [wrap_u32 h.1 (by omega)]
  obtain ⟨n, rfl⟩ := Int.eq_ofNat_of_zero_le h.1
  simp [u]; omega

theorem On_l0_eq (b : List Int) (hb : byteOk b) (hl : b.length < 4611686018427387904) (k : Int → Option Int) : ∀ (j i : Nat) (x : B32), i + j = b.length → crc_On_l0 b halfTab k (j + 1) (u x, (i : Int)) = k (u (run x (b.drop i)))
  | 0, i, x, h => by
    simp only [crc_On_l0]
    rw [if_neg (by simp; omega), List.drop_of_length_le (by omega)]; rfl
  | j + 1, i, x, h => by
    rw [crc_On_l0]
    have hlt : i < b.length := by omega
    rw [if_pos (by simp; omega), if_pos (by constructor <;> omega)]
    have hg : List.getD b (Int.toNat (i : Int)) 0 = b[i] := by simp [List.getD, hlt]
    have hx : ixor .u32 (u x) (IntKind.wrap .u32 b[i]) = u (x ^^^ BitVec.ofInt 32 b[i]) := by
      rw [byte_u (hb _ (List.getElem_mem hlt)), ixor_u]
    have hd : b.drop i = b[i] :: b.drop (i + 1) := List.drop_eq_getElem_cons hlt
    simp only [bnd_eq, hg, hx]
    have s1 := half_step (x ^^^ BitVec.ofInt 32 b[i])
    have s2 := half_step (it 4 (x ^^^ BitVec.ofInt 32 b[i]))
    split at s1
    · rename_i c1
      rw [if_pos c1]
      simp only [Option.some.injEq] at s1
      rw [s1]
      split at s2
      · rename_i c2
        rw [if_pos c2]
        simp only [Option.some.injEq] at s2
        rw [s2, wrap_i64 (by omega) (by omega), show ((i : Int) + 1) = ((i + 1 : Nat) : Int) by omega, On_l0_eq b hb hl k j (i + 1) _ (by omega), hd]
        simp only [run]
        rw [← it_add 4 4]
      · cases s2
    · cases s1

def on (x : B32) (b : List Int) : B32 := ~~~ run (~~~x) b
theorem On_eq (x : B32) (b : List Int) (hb : byteOk b) (hl : b.length < 4611686018427387904) : crc_On (u x) b = some (u (on x b)) := by
  simp only [crc_On, halves_eq, bind_eq, bnd_eq]
  have e : Int.toNat ((b.length : Int) - 0) + 1 = b.length + 1 := by omega
  have := On_l0_eq b hb hl (fun o => some (inot .u32 o)) b.length 0 (~~~x) (by omega)
  rw [e, inot_u]
  simp only [inot_u, List.drop_zero] at this
  exact this
theorem Sum_eq (b : List Int) (hb : byteOk b) (hl : b.length < 4611686018427387904) : crc_Sum b = some (u (on 0#32 b)) := by
  have : crc_On 0 b = some (u (on 0#32 b)) := On_eq 0#32 b hb hl
  simp [crc_Sum, this]

end Sx
namespace Sx
open Go

theorem wrap_u64 {n : Int} (h0 : 0 ≤ n) (h : n < 18446744073709551616) : IntKind.wrap .u64 n = n := by
  simp only [IntKind.wrap, IntKind.bits, IntKind.signed, Bool.false_and, Bool.false_eq_true, if_false]; omega
theorem wrap_u64m (n : Int) : IntKind.wrap .u64 n = n % 18446744073709551616 := by
  simp only [IntKind.wrap, IntKind.bits, IntKind.signed, Bool.false_and, Bool.false_eq_true, if_false]; rfl
theorem cast_mod (x : Nat) : (x : Int) % 256 = ((x % 256 : Nat) : Int) := by omega
theorem wrap_u8 (n : Int) : IntKind.wrap .u8 n = n % 256 := by
  simp only [IntKind.wrap, IntKind.bits, IntKind.signed, Bool.false_and, Bool.false_eq_true, if_false]; rfl

/-- a number's bytes, the greatest first -/
def be (v n : Nat) : List Int := (List.range n).map fun i => ((v / 2 ^ (8 * (n - 1 - i)) % 256 : Nat) : Int)
theorem be_len (v n : Nat) : (be v n).length = n := by simp [be]
theorem be_byte (v n : Nat) : byteOk (be v n) := by
  intro c hc
  simp only [be, List.mem_map] at hc
  obtain ⟨i, _, rfl⟩ := hc
  omega
theorem be_succ (v m : Nat) : be v (m + 1) = ((v / 2 ^ (8 * m) % 256 : Nat) : Int) :: be v m := by
  simp only [be, List.range_succ_eq_map, List.map_cons, List.map_map]
  congr 1
  apply List.map_congr_left
  intro k hk
  simp only [Function.comp]
  congr 4
  simp at hk
  omega
theorem shr_u64 (V m : Nat) (hm : m ≤ 64) : ishr .u64 (V : Int) (m : Int) = ((V / 2 ^ m : Nat) : Int) := by
  unfold ishr
  have : min (Int.toNat (m : Int)) (IntKind.bits .u64) = m := by simp [IntKind.bits]; omega
  rw [this, Int.fdiv_eq_ediv_of_nonneg _ (Int.le_of_lt (Int.pow_pos (by decide)))]
  simp
theorem shr_u32 (V m : Nat) (hm : m ≤ 32) : ishr .u32 (V : Int) (m : Int) = ((V / 2 ^ m : Nat) : Int) := by
  unfold ishr
  have : min (Int.toNat (m : Int)) (IntKind.bits .u32) = m := by simp [IntKind.bits]; omega
  rw [this, Int.fdiv_eq_ediv_of_nonneg _ (Int.le_of_lt (Int.pow_pos (by decide)))]
  simp
theorem shr_i64s (v : Int) (m : Nat) (hm : m ≤ 64) : ishr .i64 v (m : Int) = v / 2 ^ m := by
  unfold ishr
  have : min (Int.toNat (m : Int)) (IntKind.bits .i64) = m := by simp [IntKind.bits]; omega
  rw [this, Int.fdiv_eq_ediv_of_nonneg _ (Int.le_of_lt (Int.pow_pos (by decide)))]

/-- a number of eight bytes, as it lies -/
def un (v : Int) : Nat := (IntKind.wrap .u64 v).toNat
theorem un_eq (v : Int) : IntKind.wrap .u64 v = (un v : Int) := by
  unfold un; rw [wrap_u64m]; omega
theorem un_lt (v : Int) : un v < 18446744073709551616 := by
  unfold un; rw [wrap_u64m]; omega
theorem un_back {v : Int} (h : -9223372036854775808 ≤ v ∧ v ≤ 9223372036854775807) : IntKind.wrap .i64 (un v : Int) = v := by
  unfold un
  have h0 : ((IntKind.wrap .u64 v).toNat : Int) = v % 18446744073709551616 := by rw [wrap_u64m]; exact Int.toNat_of_nonneg (by omega)
  rw [h0]
  by_cases hn : 0 ≤ v
  · have : v % 18446744073709551616 = v := by omega
    rw [this, wrap_i64 (by omega) (by omega)]
  · have : v % 18446744073709551616 = v + 18446744073709551616 := by omega
    rw [this]
    have e : IntKind.wrap .i64 (v + 18446744073709551616) = IntKind.wrap .i64 v := by
      have : (v + 18446744073709551616) % 2 ^ IntKind.bits .i64 = v % 2 ^ IntKind.bits .i64 := Int.add_emod_right v 18446744073709551616
      unfold IntKind.wrap
      simp only [this]
    rw [e, wrap_i64 (by omega) (by omega)]
/-- a byte of a number that may be below 0 -/
theorem un_byte (v : Int) (m : Nat) (hm : m < 8) : (v / 2 ^ (8 * m)) % 256 = ((un v / 2 ^ (8 * m) % 256 : Nat) : Int) := by
  have h0 : (un v : Int) = v % 18446744073709551616 := by rw [← un_eq, wrap_u64m]
  have : m = 0 ∨ m = 1 ∨ m = 2 ∨ m = 3 ∨ m = 4 ∨ m = 5 ∨ m = 6 ∨ m = 7 := by omega
  rcases this with rfl | rfl | rfl | rfl | rfl | rfl | rfl | rfl <;> simp only [Nat.mul_zero, Nat.reduceMul, Int.reducePow, Nat.reducePow, Nat.pow_zero, Int.pow_zero] <;> omega
theorem ior_byte64 (x c : Nat) (hx : x < 72057594037927936) (hc : c < 256) : ior .u64 (ishl .u64 (x : Int) 8) (c : Int) = ((x * 256 + c : Nat) : Int) := by
  have e1 : ishl .u64 (x : Int) 8 = ((x * 256 : Nat) : Int) := by
    unfold ishl
    have : min (Int.toNat 8) (IntKind.bits .u64) = 8 := by decide
    rw [this, wrap_u64 (by omega) (by omega)]; omega
  rw [e1]
  unfold ior
  show IntKind.wrap .u64 ((BitVec.ofInt 64 ((x * 256 : Nat) : Int) ||| BitVec.ofInt 64 (c : Int)).toNat : Int) = _
  have e2 : (BitVec.ofInt 64 ((x * 256 : Nat) : Int) ||| BitVec.ofInt 64 (c : Int)).toNat = x * 256 + c := by
    rw [BitVec.toNat_or]
    have a1 : (BitVec.ofInt 64 ((x * 256 : Nat) : Int)).toNat = 2 ^ 8 * x := by simp; omega
    have a2 : (BitVec.ofInt 64 (c : Int)).toNat = c := by simp; omega
    rw [a1, a2, ← Nat.two_pow_add_eq_or_of_lt (by omega : c < 2 ^ 8)]; omega
  rw [e2, wrap_u64 (by omega) (by omega)]
/-- the number that the first bytes tell -/
def pre (b : List Int) : Nat → Int
  | 0 => 0
  | i + 1 => pre b i * 256 + b.getD i 0
theorem fgetD_byte {a : List Int} (h : byteOk a) (i : Nat) : 0 ≤ a.getD i 0 ∧ a.getD i 0 < 256 := by
  rcases Nat.lt_or_ge i a.length with g | g
  · have : a.getD i 0 = a[i] := by simp [List.getD, g]
    rw [this]; exact h _ (List.getElem_mem g)
  · have : a.getD i 0 = 0 := by simp [List.getD, List.getElem?_eq_none g]
    rw [this]; omega
theorem pre_bound {b : List Int} (h : byteOk b) : ∀ i, 0 ≤ pre b i ∧ pre b i < 256 ^ i
  | 0 => by simp [pre]
  | i + 1 => by
    have h1 := pre_bound h i
    have h2 := fgetD_byte h i
    simp only [pre]
    rw [Int.pow_succ]
    omega
theorem pre_be (U : Nat) (hU : U < 18446744073709551616) (r : List Int) : pre (be U 8 ++ r) 8 = U := by
  have e : be U 8 = [((U / 72057594037927936 % 256 : Nat) : Int), ((U / 281474976710656 % 256 : Nat) : Int), ((U / 1099511627776 % 256 : Nat) : Int), ((U / 4294967296 % 256 : Nat) : Int), ((U / 16777216 % 256 : Nat) : Int), ((U / 65536 % 256 : Nat) : Int), ((U / 256 % 256 : Nat) : Int), ((U / 1 % 256 : Nat) : Int)] := rfl
  rw [e]
  simp only [pre, List.cons_append, List.nil_append, List.getD_cons_zero, List.getD_cons_succ]
  omega
theorem pre_take {b : List Int} : ∀ {i n : Nat}, i ≤ n → pre (b.take n) i = pre b i
  | 0, _, _ => rfl
  | i + 1, n, h => by
    simp only [pre]
    rw [pre_take (by omega)]
    congr 1
    rw [List.getD_eq_getElem?_getD, List.getD_eq_getElem?_getD, List.getElem?_take_of_lt (by omega)]
end Sx
namespace Sx
open Go

/-! ### a slot -/
theorem lay64_l0 (v : Nat) (K : List Int → Option (List Int × Int × Unit)) : ∀ (m : Nat) (b : List Int), m ≤ 8 → b.length + m ≤ 1000 → cursor_lay_uint64_l0 (v : Int) K (m + 1) ((m : Int) - 1, b) = K (b ++ be v m)
  | 0, b, _, _ => by
    simp only [cursor_lay_uint64_l0]
    rw [if_neg (by simp)]
    simp [be]
  | m + 1, b, hm, hb => by
    rw [cursor_lay_uint64_l0]
    have e0 : (((m + 1 : Nat) : Int) - 1) = (m : Int) := by omega
    have e3 : IntKind.wrap .i64 (8 * (m : Int)) = ((8 * m : Nat) : Int) := by rw [wrap_i64 (by omega) (by omega)]; omega
    simp only [e0, e3]
    rw [if_pos (by simp), if_pos (by omega), if_pos (by simp only [List.length_singleton]; omega), bnd_eq, shr_u64 v _ (by omega), wrap_u8, wrap_i64 (by omega) (by omega)]
    rw [be_succ, cast_mod, lay64_l0 v K m _ (by omega) (by simp; omega), List.append_assoc]
    rfl
theorem lay64 (v : Nat) (b : List Int) (hb : b.length ≤ 900) : cursor_lay_uint64 (b, 0, ()) (v : Int) 8 = some (b ++ be v 8, 0, ()) := by
  unfold cursor_lay_uint64
  rw [if_neg (by simp)]
  simp only [bnd_eq]
  have e1 : IntKind.wrap .i64 ((8 : Int) - 1) = ((8 : Nat) : Int) - 1 := by decide
  rw [e1]
  exact lay64_l0 v _ 8 b (by omega) (by omega)
theorem lay32_l0 (v : Nat) (hv : v < 4294967296) (K : List Int → Option (List Int × Int × Unit)) : ∀ (m : Nat) (b : List Int), m ≤ 8 → b.length + m ≤ 1000 → cursor_lay_uint32_l0 (v : Int) K (m + 1) ((m : Int) - 1, b) = K (b ++ be v m)
  | 0, b, _, _ => by
    simp only [cursor_lay_uint32_l0]
    rw [if_neg (by simp)]
    simp [be]
  | m + 1, b, hm, hb => by
    rw [cursor_lay_uint32_l0]
    have e0 : (((m + 1 : Nat) : Int) - 1) = (m : Int) := by omega
    have e3 : IntKind.wrap .i64 (8 * (m : Int)) = ((8 * m : Nat) : Int) := by rw [wrap_i64 (by omega) (by omega)]; omega
    simp only [e0, e3, wrap_u64 (n := (v : Int)) (by omega) (by omega)]
    rw [if_pos (by simp), if_pos (by omega), if_pos (by simp only [List.length_singleton]; omega), bnd_eq, shr_u64 v _ (by omega), wrap_u8, wrap_i64 (by omega) (by omega)]
    rw [be_succ, cast_mod, lay32_l0 v hv K m _ (by omega) (by simp; omega), List.append_assoc]
    rfl
theorem lay32 (v : Nat) (hv : v < 4294967296) (b : List Int) (hb : b.length ≤ 900) : cursor_lay_uint32 (b, 0, ()) (v : Int) 4 = some (b ++ be v 4, 0, ()) := by
  unfold cursor_lay_uint32
  rw [if_neg (by simp)]
  simp only [bnd_eq]
  have e1 : IntKind.wrap .i64 ((4 : Int) - 1) = ((4 : Nat) : Int) - 1 := by decide
  rw [e1]
  exact lay32_l0 v hv _ 4 b (by omega) (by omega)

/-- the sum of a number's bytes -/
def csum (v : Int) : Nat := (on 0#32 (be (un v) 8)).toNat
/-- a number's slot -/
def slotB (v : Int) : List Int := be (un v) 8 ++ be (csum v) 4 ++ List.replicate 52 0
theorem slotB_len (v : Int) : (slotB v).length = 64 := by simp [slotB, be_len]
theorem slotB_byte (v : Int) : byteOk (slotB v) := byteOk_app2 (byteOk_app2 (be_byte _ _) (be_byte _ _)) fun x hx => by rw [List.eq_of_mem_replicate hx]; omega
theorem csum_eq (v : Int) : crc_Sum (be (un v) 8) = some (csum v : Int) := Sum_eq _ (be_byte _ _) (by simp [be_len])
theorem csum_lt (v : Int) : csum v < 4294967296 := (on 0#32 (be (un v) 8)).isLt
theorem rep52 : strings_Repeat [0] 52 = some (List.replicate 52 0) := by decide +kernel
theorem mark_slot_eq (v : Int) : mark_slot v = some (slotB v) := by
  have h1 : cursor_Writer_I64 ([], 0, ()) v = some (be (un v) 8, 0, ()) := by
    unfold cursor_Writer_I64
    rw [un_eq, lay64 (un v) [] (by simp)]; rfl
  have h2 : cursor_Writer_Out (be (un v) 8, 0, ()) = some (be (un v) 8, 0) := rfl
  have h3 : cursor_Writer_U32 (be (un v) 8, 0, ()) (csum v : Int) = some (be (un v) 8 ++ be (csum v) 4, 0, ()) := by
    unfold cursor_Writer_U32
    rw [lay32 _ (csum_lt v) _ (by simp [be_len])]; rfl
  have h4 : cursor_Writer_Out (be (un v) 8 ++ be (csum v) 4, 0, ()) = some (be (un v) 8 ++ be (csum v) 4, 0) := rfl
  unfold mark_slot
  have h0 : cursor_New = some ([], 0, ()) := rfl
  simp only [h0, Option.bind_some, h1, h2, csum_eq, h3, h4, rep52]
  rw [if_pos (by simp [be_len, most])]
  rfl

/-! ### the law's slot -/
theorem eslot_l1 (v : Int) (K : List Int → Option (List Int)) : ∀ (m : Nat) (b : List Int), m ≤ 8 → b.length + m ≤ 1000 → escrowlaw19_slot_l1 v K (m + 1) ((m : Int) - 1, b) = K (b ++ be (un v) m)
  | 0, b, _, _ => by
    simp only [escrowlaw19_slot_l1]
    rw [if_neg (by simp)]
    simp [be]
  | m + 1, b, hm, hb => by
    rw [escrowlaw19_slot_l1]
    have e0 : (((m + 1 : Nat) : Int) - 1) = (m : Int) := by omega
    have e2 : IntKind.wrap .u64 (m : Int) = (m : Int) := wrap_u64 (by omega) (by omega)
    have e3 : IntKind.wrap .u64 (8 * (m : Int)) = ((8 * m : Nat) : Int) := by rw [wrap_u64 (by omega) (by omega)]; omega
    simp only [e0, e2, e3]
    rw [if_pos (by simp), if_pos (by simp only [List.length_singleton]; omega), bnd_eq, shr_i64s v _ (by omega), wrap_u8, wrap_i64 (by omega) (by omega), un_byte v m (by omega)]
    rw [be_succ, eslot_l1 v K m _ (by omega) (by simp; omega), List.append_assoc]
    rfl
theorem eslot_l0 (K : List Int → Option (List Int)) : ∀ (j : Nat) (b : List Int), b.length + j = 64 → escrowlaw19_slot_l0 K (j + 1) b = K (b ++ List.replicate j 0)
  | 0, b, h => by
    rw [escrowlaw19_slot_l0, if_neg (by simp only [decide_eq_true_eq]; omega)]
    simp
  | j + 1, b, h => by
    rw [escrowlaw19_slot_l0, if_pos (by simp only [decide_eq_true_eq]; omega), if_pos (by simp only [List.length_singleton]; omega), eslot_l0 K j _ (by simp; omega), List.append_assoc]
    rfl
theorem eslot_eq (v : Int) : escrowlaw19_slot v = some (slotB v) := by
  have hl := csum_lt v
  have e4 : [IntKind.wrap .u8 (ishr .u32 (csum v : Int) 24), IntKind.wrap .u8 (ishr .u32 (csum v : Int) 16), IntKind.wrap .u8 (ishr .u32 (csum v : Int) 8), IntKind.wrap .u8 (csum v : Int)] = be (csum v) 4 := by
    have h1 := shr_u32 (csum v) 24 (by omega)
    have h2 := shr_u32 (csum v) 16 (by omega)
    have h3 := shr_u32 (csum v) 8 (by omega)
    simp only [Int.cast_ofNat_Int] at h1 h2 h3
    rw [h1, h2, h3, wrap_u8, wrap_u8, wrap_u8, wrap_u8]
    have : be (csum v) 4 = [((csum v / 2 ^ 24 % 256 : Nat) : Int), ((csum v / 2 ^ 16 % 256 : Nat) : Int), ((csum v / 2 ^ 8 % 256 : Nat) : Int), ((csum v / 1 % 256 : Nat) : Int)] := rfl
    rw [this]
    simp only [Nat.div_one, cast_mod]
  unfold escrowlaw19_slot
  simp only [bnd_eq]
  have e8 := eslot_l1 v (fun o2 => (crc_Sum o2).bind fun (r4 : Int) => if (List.length o2 + List.length [(IntKind.wrap .u8 (ishr .u32 r4 24)), (IntKind.wrap .u8 (ishr .u32 r4 16)), (IntKind.wrap .u8 (ishr .u32 r4 8)), (IntKind.wrap .u8 r4)]) * 1 ≤ 140737488355328 then escrowlaw19_slot_l0 (fun o8 => some o8) (Int.toNat (64 - (List.length (o2 ++ [(IntKind.wrap .u8 (ishr .u32 r4 24)), (IntKind.wrap .u8 (ishr .u32 r4 16)), (IntKind.wrap .u8 (ishr .u32 r4 8)), (IntKind.wrap .u8 r4)]) : Int)) + 1) (o2 ++ [(IntKind.wrap .u8 (ishr .u32 r4 24)), (IntKind.wrap .u8 (ishr .u32 r4 16)), (IntKind.wrap .u8 (ishr .u32 r4 8)), (IntKind.wrap .u8 r4)]) else none) 8 [] (by omega) (by simp)
  refine e8.trans ?_
  simp only [List.nil_append, csum_eq, Option.bind_some, e4]
  rw [if_pos (by simp [be_len])]
  have ef : Int.toNat (64 - ((be (un v) 8 ++ be (csum v) 4).length : Int)) + 1 = 52 + 1 := by simp [be_len]
  rw [ef, eslot_l0 _ 52 _ (by simp [be_len])]
  rfl

/-! ### reading a slot -/
theorem value_l0 {b : List Int} (h : byteOk b) (hl : b.length = 8) (K : Int → Option Int) : ∀ (j i : Nat), i + j = 8 → cursor_value_uint64_l0 b K (j + 1) (pre b i, (i : Int)) = K (pre b 8)
  | 0, i, e => by
    obtain rfl : i = 8 := by omega
    simp only [cursor_value_uint64_l0]
    rw [if_neg (by simp only [decide_eq_true_eq]; omega)]
  | j + 1, i, e => by
    have h1 := pre_bound h i
    have h2 := fgetD_byte h i
    have hb : (256 : Int) ^ i ≤ 72057594037927936 := by
      have : i ≤ 7 := by omega
      rcases i with _ | _ | _ | _ | _ | _ | _ | _ | i <;> first | decide | omega
    obtain ⟨x, hx⟩ := Int.eq_ofNat_of_zero_le h1.1
    obtain ⟨c, hc⟩ := Int.eq_ofNat_of_zero_le h2.1
    rw [cursor_value_uint64_l0, if_pos (by simp only [decide_eq_true_eq]; omega), if_pos (by omega), Int.toNat_natCast, hc, wrap_u64 (by omega) (by omega), hx, ior_byte64 x c (by omega) (by omega), bnd_eq, wrap_i64 (by omega) (by omega), show ((i : Int) + 1) = ((i + 1 : Nat) : Int) by omega]
    have : ((x * 256 + c : Nat) : Int) = pre b (i + 1) := by simp only [pre, hx, hc]; omega
    rw [this]
    exact value_l0 h hl K j (i + 1) (by omega)
theorem value_eq {b : List Int} (h : byteOk b) (hl : b.length = 8) : cursor_value_uint64 b = some (pre b 8) := by
  unfold cursor_value_uint64
  simp only [bnd_eq]
  have ef : Int.toNat ((b.length : Int) - 0) + 1 = 8 + 1 := by omega
  rw [ef]
  exact value_l0 h hl _ 8 0 (by omega)
/-- the number that stands in a slot, and whether it is whole -/
def rdV (s : List Int) : Int := IntKind.wrap .i64 (pre s 8)
def isR (v : Int) : Bool := decide (v ≥ -1) && decide (v ≤ 281474976710655)
def rdW (s : List Int) : Bool := isR (rdV s) && ((slotB (rdV s)).take 12 == s.take 12)
theorem right_eq (v : Int) : mark_right v = some (isR v) := by
  unfold mark_right
  rw [bnd_eq]; rfl
theorem I64_eq {s : List Int} (hs : byteOk s) (hl : s.length = 12) : cursor_Reader_I64 (s, 0, ()) = some (rdV s, s.drop 8, 0, ()) := by
  have h1 : cursor_Reader_take (s, 0, ()) 8 = some (s.take 8, s.drop 8, 0, ()) := by
    unfold cursor_Reader_take
    rw [if_neg (by simp), if_neg (by simp only [decide_eq_true_eq]; omega), if_pos (by simp only; omega), bnd_eq, if_pos (by simp only; omega)]
    simp only [List.drop_zero, Int.toNat_natCast]
    rw [List.take_of_length_le (l := s) (i := s.length) (Nat.le_refl _)]
    rfl
  unfold cursor_Reader_I64
  rw [h1]
  simp only [Option.bind_some]
  rw [value_eq (fun x hx => hs x (List.mem_of_mem_take hx)) (by rw [List.length_take]; omega), pre_take (by omega)]
  rfl
theorem read_eq {b : List Int} {k : Nat} (hb : byteOk b) (hk : k < 2) (hl : b.length = 128) : mark_read b (k : Int) = some (rdV (b.drop (64 * k)), rdW (b.drop (64 * k)), ()) := by
  have e1 : IntKind.wrap .i64 (64 * (k : Int)) = ((64 * k : Nat) : Int) := by rw [wrap_i64 (by omega) (by omega)]; omega
  have e2 : List.take b.length b = b := List.take_length
  have hd : (b.drop (64 * k)).length = 128 - 64 * k := by rw [List.length_drop, hl]
  have hs : byteOk ((b.drop (64 * k)).take 12) := fun x hx => hb x (List.mem_of_mem_drop (List.mem_of_mem_take hx))
  have hsl : ((b.drop (64 * k)).take 12).length = 12 := by rw [List.length_take]; omega
  have hrv : rdV ((b.drop (64 * k)).take 12) = rdV (b.drop (64 * k)) := by unfold rdV; rw [pre_take (by omega)]
  unfold mark_read
  simp only [e1, Int.toNat_natCast, e2]
  rw [if_pos (by omega), if_pos (by omega)]
  simp only [bnd_eq, List.drop_zero, cursor_Open, Option.bind_some, I64_eq hs hsl, hrv, right_eq, mark_slot_eq]
  unfold rdW
  cases h : isR (rdV (b.drop (64 * k))) with
  | true =>
    rw [if_pos rfl, if_pos (by rw [slotB_len]; omega)]
    rfl
  | false => rw [if_neg (by decide)]; rfl
/-- a slot is whole, and tells its number -/
theorem rd_slot {v : Int} (hv : -9223372036854775808 ≤ v ∧ v ≤ 9223372036854775807) (r : List Int) : rdV (slotB v ++ r) = v := by
  unfold rdV slotB
  rw [List.append_assoc, List.append_assoc, pre_be _ (un_lt v), un_back hv]
theorem rw_slot {v : Int} (hv : isR v = true) (r : List Int) : rdV (slotB v ++ r) = v ∧ rdW (slotB v ++ r) = true := by
  have hr : -1 ≤ v ∧ v ≤ 281474976710655 := by unfold isR at hv; simp only [Bool.and_eq_true, decide_eq_true_eq] at hv; omega
  have e := rd_slot (v := v) (by omega) r
  refine ⟨e, ?_⟩
  unfold rdW
  rw [e, hv, List.take_append_of_le_length (by rw [slotB_len]; omega)]
  simp
end Sx
namespace Sx
open Go

/-! ### the bytes used -/
def tot (fs : List (List Int × FileS)) : Nat := ((fs.map (·.1)).map fun k => (seenOf fs k).length).sum
theorem used_sum (D : DiskS) : ∀ (ks : List (List Int)) (s : Int), (∀ k ∈ ks, ∃ f, pget .str k D.2.1 = some f ∧ f.1.length ≤ 1048576) → 0 ≤ s → s + ks.length * 1048576 < 4611686018427387904 →
    foldK (disk_Disk_Used_l0 D) ks s = some (s + ((ks.map fun k => (seenOf D.2.1 k).length).sum : Nat))
  | [], s, _, _, _ => by show some s = _; simp
  | k :: ks, s, hk, h0, hb => by
    obtain ⟨f, hf, hl⟩ := hk k (by simp)
    simp only [List.length_cons, Int.natCast_add, Int.cast_ofNat_Int] at hb
    have e : disk_Disk_Used_l0 D k s = some (s + f.1.length) := by
      unfold disk_Disk_Used_l0
      simp only [hf, Option.bind_some, bnd_eq]
      rw [wrap_i64 (by omega) (by omega)]
    have ih := used_sum D ks (s + f.1.length) (fun k' hk' => hk k' (by simp [hk'])) (by omega) (by omega)
    have hs : (seenOf D.2.1 k).length = f.1.length := by simp [seenOf, hf]
    show (disk_Disk_Used_l0 D k s).bind _ = _
    rw [e]
    refine ih.trans ?_
    simp only [List.map_cons, List.sum_cons, hs]
    congr 1
    omega
theorem Used_tot {D : DiskS} (h : FsOk D.2.1) : disk_Disk_Used D = some (tot D.2.1 : Int) := by
  have h1 := used_sum D (D.2.1.map (·.1)) 0 (fun k hk => by
    cases hg : pget .str k D.2.1 with
    | none => exact absurd hk (get_none.1 hg)
    | some f => exact ⟨f, rfl, (h.get hg).2.2.1⟩) (by omega) (by simp only [List.length_map]; have := h.2.2; omega)
  unfold disk_Disk_Used
  simp only [bnd_eq, h1, Option.bind_some, tot]
  congr 1
  omega
end Sx
namespace Sx
open Go

abbrev MarkS := Unit × List Int × Int × Int × Unit
def mark0 : MarkS := ((), [], 0, 0, ())
def tmpOf (name : List Int) : List Int := name ++ [46, 116, 109, 112]
theorem Raise_eq (m : MarkS) (n : Int) (D : DiskS) (hm : m.2.2.2.1 = 0 ∨ m.2.2.2.1 = 1) : mark_Mark_Raise m n D = if isR n = false then some (1, m, D) else if n ≤ m.2.2.1 then some (0, m, D) else
    (disk_Disk_Write D m.2.1 (64 * m.2.2.2.1) (slotB n)).bind fun r => if r.1 ≠ 0 then some (r.1, m, r.2) else (disk_Disk_Sync r.2 m.2.1).bind fun q => if q.1 ≠ 0 then some (q.1, m, q.2) else some (0, ((), m.2.1, n, 1 - m.2.2.2.1, ()), q.2) := by
  have e1 : IntKind.wrap .i64 (64 * m.2.2.2.1) = 64 * m.2.2.2.1 := wrap_i64 (by omega) (by omega)
  have e2 : IntKind.wrap .i64 (1 - m.2.2.2.1) = 1 - m.2.2.2.1 := wrap_i64 (by omega) (by omega)
  unfold mark_Mark_Raise
  simp only [right_eq, Option.bind_some, mark_slot_eq, e1, e2]
  cases h : isR n with
  | false => rw [if_pos (by decide), if_pos rfl]
  | true =>
    rw [if_neg (show ¬ (!true) = true by decide), if_neg (show ¬ true = false by decide)]
    by_cases h1 : n ≤ m.2.2.1
    · rw [if_pos (by simpa using h1), if_pos h1]
    · rw [if_neg (by simpa using h1), if_neg h1]
      simp only [bne_iff_ne]
theorem rep2 (l : List Int) (hl : l.length = 64) : strings_Repeat l 2 = some (l ++ l) := by
  unfold strings_Repeat
  rw [if_pos (by rw [hl]; decide)]
  have : Int.toNat 2 = 2 := rfl
  rw [this]
  simp [List.replicate]
theorem laid_eq (D : DiskS) (name : List Int) (hn : name.length ≤ 1000) : mark_laid D name = (disk_Disk_Remove D (tmpOf name)).bind fun r1 => if r1.1 ≠ 0 ∧ r1.1 ≠ 5 then some ((1, mark0), r1.1, r1.2) else
    (disk_Disk_Write r1.2 (tmpOf name) 0 (slotB (-1) ++ slotB (-1))).bind fun r5 => if r5.1 ≠ 0 then some ((1, mark0), r5.1, r5.2) else
    (disk_Disk_Sync r5.2 (tmpOf name)).bind fun r6 => if r6.1 ≠ 0 then some ((1, mark0), r6.1, r6.2) else
    (disk_Disk_Rename r6.2 (tmpOf name) name).bind fun r7 => if r7.1 ≠ 0 then some ((1, mark0), r7.1, r7.2) else some ((0, ((), name, -1, 1, ())), 0, r7.2) := by
  have hc : List.length name + List.length ([46, 116, 109, 112] : List Nat) ≤ most := by simp [most]; omega
  unfold mark_laid
  simp only [mark_slot_eq, Option.bind_some, rep2 _ (slotB_len _), bnd_eq, hc, if_true, bne_iff_ne, Bool.and_eq_true]
  rfl
/-- what is found in both slots: nothing, or a number and the slot that is written next -/
def pick (b : List Int) : Option (Int × Int) :=
  if rdW b = false ∧ rdW (b.drop 64) = false then none
  else if rdW (b.drop 64) = true ∧ (rdW b = false ∨ rdV b < rdV (b.drop 64)) then some (rdV (b.drop 64), 0) else some (rdV b, 1)
theorem Open_there {D : DiskS} {name : List Int} {f : FileS} (hok : FsOk D.2.1) (ho : D.2.2.2.2.2.1 = false) (hf : pget .str name D.2.1 = some f) (hl : f.1.length = 128) : mark_Open D name = match pick f.1 with
    | none => some ((1, mark0), 190, D)
    | some p => (disk_Disk_Sync D name).bind fun r => if r.1 ≠ 0 then some ((1, mark0), r.1, r.2) else some ((0, ((), name, p.1, p.2, ())), 0, r.2) := by
  have hb := (hok.get hf).1
  have hrd := Read_at (n := 128) hok ho hf (by omega : (0 : Int) ≤ 0) (by omega) (by omega)
  have e0 : List.take (Int.toNat 128) (List.drop (Int.toNat 0) f.1) = f.1 := by
    show List.take 128 (List.drop 0 f.1) = f.1
    rw [List.drop_zero, List.take_of_length_le (by omega)]
  rw [e0] at hrd
  have r0 := read_eq (k := 0) hb (by omega) hl
  have r1 := read_eq (k := 1) hb (by omega) hl
  simp only [Int.natCast_zero, Nat.mul_zero, List.drop_zero, Nat.mul_one] at r0 r1
  have r1' : mark_read f.1 1 = some (rdV (f.1.drop 64), rdW (f.1.drop 64), ()) := r1
  have w0 : IntKind.wrap .i64 ((0 : Int) + 1) = 1 := by decide
  have w1 : IntKind.wrap .i64 ((1 : Int) + 1) = 2 := by decide
  have hlp : ∀ K : List (Int × Bool × Unit) → Option ((Int × MarkS) × Int × DiskS), mark_Open_l0 (f.1, 0) K (Int.toNat (2 - 0) + 1) (0, List.replicate 2 ((0, false, ()) : Int × Bool × Unit)) = K [(rdV f.1, rdW f.1, ()), (rdV (f.1.drop 64), rdW (f.1.drop 64), ())] := fun K => by
    show mark_Open_l0 (f.1, 0) K 3 (0, _) = _
    rw [mark_Open_l0, if_pos (by simp), r0, Option.bind_some, if_pos (by simp), w0, mark_Open_l0, if_pos (by simp), r1', Option.bind_some, if_pos (by simp), w1, mark_Open_l0, if_neg (by simp)]
    rfl
  unfold mark_Open
  rw [Size_eq ho, hf]
  simp only [Option.bind_some]
  rw [if_neg (by decide), if_neg (by decide), if_neg (by simp only [bne_iff_ne, ne_eq, Decidable.not_not]; omega), hrd, Option.bind_some, if_neg (by simp), bnd_eq]
  refine (hlp _).trans ?_
  simp only [bnd_eq, List.getD_cons_zero, List.getD_cons_succ]
  unfold pick
  cases h0 : rdW f.1 with
  | false =>
    cases h1 : rdW (f.1.drop 64) with
    | false => simp [mark0]
    | true => simp [mark0]
  | true =>
    cases h1 : rdW (f.1.drop 64) with
    | false => simp [mark0]
    | true =>
      by_cases hv : rdV f.1 < rdV (f.1.drop 64)
      · simp [mark0, hv]
      · simp [mark0, hv]
theorem Open_none {D : DiskS} {name : List Int} (ho : D.2.2.2.2.2.1 = false) (hf : pget .str name D.2.1 = none) : mark_Open D name = mark_laid D name := by
  unfold mark_Open
  rw [Size_eq ho, hf]
  simp only [Option.bind_some]
  rw [if_pos (by decide)]
  cases mark_laid D name <;> rfl
theorem Open_off {D : DiskS} {name : List Int} (ho : D.2.2.2.2.2.1 = true) : mark_Open D name = some ((1, mark0), 9, D) := by
  unfold mark_Open
  have hs : disk_Disk_Size D name = some (0, 9) := by unfold disk_Disk_Size; rw [found_off _ ho]; rfl
  rw [hs]
  simp only [Option.bind_some]
  rw [if_neg (by decide), if_pos (by decide)]
  rfl
end Sx
namespace Sx
open Go

abbrev FateS := List Int × Int × Int × List Int × Unit
def FatesOk (l : List FateS) : Prop := l.length < 4611686018427387904 ∧ ∀ x ∈ l, byteOk x.2.2.2.1 ∧ x.2.2.2.1.length ≤ 140737488355328
def fate0 : FateS := ([], 0, 0, [], ())

theorem fateOf_l0 (l : List FateS) (hl : l.length < 4611686018427387904) (name : List Int) (s : Int) (k : Unit → Option FateS) : ∀ (j i : Nat), i + j = l.length → (∃ r ∈ l, disk_fateOf_l0 l name s k (j + 1) (i : Int) = some r) ∨ disk_fateOf_l0 l name s k (j + 1) (i : Int) = k ()
  | 0, i, h => .inr (by simp only [disk_fateOf_l0]; rw [if_neg (by simp only [decide_eq_true_eq]; omega)])
  | j + 1, i, h => by
    have e : disk_fateOf_l0 l name s k (j + 1 + 1) (i : Int) = if ((List.getD l i fate0).1 == name && (List.getD l i fate0).2.1 == s) = true then some (List.getD l i fate0) else disk_fateOf_l0 l name s k (j + 1) ((i + 1 : Nat) : Int) := by
      conv => lhs; simp only [disk_fateOf_l0]
      rw [if_pos (by simp only [decide_eq_true_eq]; omega), if_pos (by omega)]
      simp only [bnd_eq, Int.toNat_natCast]
      rw [wrap_i64 (by omega) (by omega)]
      rfl
    rw [e]
    split
    · left
      have hi : i < l.length := by omega
      refine ⟨_, ?_, rfl⟩
      rw [List.getD_eq_getElem?_getD, List.getElem?_eq_getElem hi, Option.getD_some]
      exact List.getElem_mem hi
    · exact fateOf_l0 l hl name s k j (i + 1) (by omega)
theorem fateOf_eq {l : List FateS} (hl : FatesOk l) (name : List Int) (s : Int) : ∃ r, disk_fateOf l name s = some r ∧ byteOk r.2.2.2.1 ∧ r.2.2.2.1.length ≤ 140737488355328 := by
  unfold disk_fateOf
  simp only [bnd_eq]
  have e : Int.toNat ((l.length : Int) - 0) + 1 = l.length + 1 := by omega
  rw [e]
  rcases fateOf_l0 l hl.1 name s (fun _ => some fate0) l.length 0 (by omega) with ⟨r, hr, h⟩ | h
  · exact ⟨r, h, hl.2 r hr⟩
  · exact ⟨fate0, h, (fun x hx => by cases hx), by simp [fate0]⟩

def MapOk (m : List (Int × FateS)) : Prop := ∀ p ∈ m, byteOk p.2.2.2.2.1 ∧ p.2.2.2.2.1.length ≤ 140737488355328
theorem ipins_mem {k : Int} {v : FateS} {q : Int × FateS} : ∀ {l : List (Int × FateS)}, q ∈ pins (.int .i64) k v l → q = (k, v) ∨ q ∈ l
  | [], h => by simp [pins] at h; exact .inl h
  | p :: l, h => by
    simp only [pins] at h
    split at h
    · rcases List.mem_cons.1 h with h | h
      · exact .inl h
      · exact .inr h
    · rcases List.mem_cons.1 h with h | h
      · exact .inr (by simp [h])
      · rcases ipins_mem h with h | h
        · exact .inl h
        · exact .inr (by simp [h])
theorem iput_ok {k : Int} {v : FateS} {m : List (Int × FateS)} (hm : MapOk m) (hv : byteOk v.2.2.2.1 ∧ v.2.2.2.1.length ≤ 140737488355328) : MapOk (pput (.int .i64) k v m) := fun p hp => by
  rcases ipins_mem hp with rfl | hp
  · exact hv
  · exact hm p (List.mem_filter.1 hp).1
theorem iput_len (k : Int) (v : FateS) (m : List (Int × FateS)) : (pput (.int .i64) k v m).length ≤ m.length + 1 := by
  unfold pput
  rw [pins_length]
  have : (pdel (.int .i64) k m).length ≤ m.length := List.length_filter_le _ _
  omega
theorem fall_fold {f : FileS} {name : List Int} {l : List FateS} (hl : FatesOk l) : ∀ (ks : List Int) (s : Int × List (Int × FateS)), 0 ≤ s.1 → s.1 ≤ f.1.length → s.2.length + ks.length < 4611686018427387904 → MapOk s.2 →
    ∃ s', foldK (disk_file_fall_l1 f name l) ks s = some s' ∧ 0 ≤ s'.1 ∧ s'.1 ≤ f.1.length ∧ MapOk s'.2
  | [], s, h0, h1, _, hm => ⟨s, rfl, h0, h1, hm⟩
  | k :: ks, s, h0, h1, hb, hm => by
    obtain ⟨r, hr, hrb⟩ := fateOf_eq hl name k
    simp only [List.length_cons] at hb
    have e : disk_file_fall_l1 f name l k s = some (if (r.2.2.1 == 1 || r.2.2.1 == 2) = true then max s.1 (min (IntKind.wrap .i64 (IntKind.wrap .i64 (k + 1) * 64)) (f.1.length : Int)) else s.1, pput (.int .i64) k r s.2) := by
      unfold disk_file_fall_l1
      simp only [hr, Option.bind_some, bnd_eq]
      rw [if_pos (by omega)]
      split <;> rfl
    have hlen := iput_len k r s.2
    have hmx : s.1 ≤ max s.1 (min (IntKind.wrap .i64 (IntKind.wrap .i64 (k + 1) * 64)) (f.1.length : Int)) := Int.le_max_left _ _
    have hmy : max s.1 (min (IntKind.wrap .i64 (IntKind.wrap .i64 (k + 1) * 64)) (f.1.length : Int)) ≤ (f.1.length : Int) := Int.max_le.2 ⟨h1, Int.min_le_right _ _⟩
    generalize max s.1 (min (IntKind.wrap .i64 (IntKind.wrap .i64 (k + 1) * 64)) (f.1.length : Int)) = mx at hmx hmy e
    obtain ⟨s', h2, h3, h4, h5⟩ := fall_fold (f := f) (name := name) hl ks (if (r.2.2.1 == 1 || r.2.2.1 == 2) = true then mx else s.1, pput (.int .i64) k r s.2)
      (by show (0 : Int) ≤ if _ then _ else _; split <;> omega) (by show (if _ then _ else _ : Int) ≤ _; split <;> omega) (by show (pput _ _ _ _).length + _ < _; omega) (iput_ok hm hrb)
    refine ⟨s', ?_, h3, h4, h5⟩
    show (disk_file_fall_l1 f name l k s).bind _ = _
    rw [e]; exact h2

theorem byteOk_set {l : List Int} {i : Nat} {c : Int} (h : byteOk l) (hc : 0 ≤ c ∧ c < 256) : byteOk (l.set i c) := fun x hx => by
  rcases List.mem_or_eq_of_mem_set hx with h' | rfl
  · exact h x h'
  · exact hc
theorem byteOk_getD {l : List Int} {i : Nat} (h : byteOk l) (hi : i < l.length) : 0 ≤ l.getD i 0 ∧ l.getD i 0 < 256 := by
  rw [List.getD_eq_getElem?_getD, List.getElem?_eq_getElem hi, Option.getD_some]; exact h _ (List.getElem_mem hi)
theorem mapOk_get {m : List (Int × FateS)} (h : MapOk m) (s : Int) : byteOk ((pget (.int .i64) s m).getD ([], 0, 0, [], ())).2.2.2.1 ∧ ((pget (.int .i64) s m).getD ([], 0, 0, [], ())).2.2.2.1.length ≤ 140737488355328 := by
  cases hg : pget (.int .i64) s m with
  | none => exact ⟨(fun x hx => by cases hx), by simp⟩
  | some r =>
    unfold pget at hg
    cases hf : m.find? (fun p => keq (.int .i64) p.1 s) with
    | none => rw [hf] at hg; cases hg
    | some p =>
      rw [hf] at hg
      simp only [Option.map_some, Option.some.injEq] at hg
      subst hg
      exact h p (List.mem_of_find?_eq_some hf)
theorem fall_out {f : FileS} (hf : byteOk f.2.1) (o8 : Int × List (Int × FateS)) (hm : MapOk o8.2) (r10 : List Int) (hr : r10.length ≤ 1048576) (k : List Int → Option FileS) : ∀ (j i : Nat) (out : List Int), i + j = r10.length → out.length = r10.length → byteOk out →
    ∃ out', disk_file_fall_l0 f o8 r10 k (j + 1) ((i : Int), out) = k out' ∧ out'.length = r10.length ∧ byteOk out' ∧ (o8.2 = [] → out' = out)
  | 0, i, out, h, hl, hb => ⟨out, by simp only [disk_file_fall_l0]; rw [if_neg (by simp only [decide_eq_true_eq]; omega)], hl, hb, fun _ => rfl⟩
  | j + 1, i, out, h, hl, hb => by
    have hi : i < r10.length := by omega
    have htd : IntKind.wrap .i64 (Int.tdiv (i : Int) 64) = ((i / 64 : Nat) : Int) := by
      rw [Int.tdiv_eq_ediv_of_nonneg (by omega)]; exact wrap_i64 (by omega) (by omega)
    have hnx : IntKind.wrap .i64 ((i : Int) + 1) = ((i + 1 : Nat) : Int) := wrap_i64 (by omega) (by omega)
    have hs64 : IntKind.wrap .i64 (((i / 64 : Nat) : Int) * 64) = ((i / 64 * 64 : Nat) : Int) := wrap_i64 (by omega) (by omega)
    have hi41 : IntKind.wrap .i64 ((i : Int) - ((i / 64 * 64 : Nat) : Int)) = ((i % 64 : Nat) : Int) := by
      rw [wrap_i64 (by omega) (by omega)]; omega
    obtain ⟨hx, hxl⟩ := mapOk_get hm ((i / 64 : Nat) : Int)
    -- the step
    have hstep : ∃ out1, disk_file_fall_l0 f o8 r10 k (j + 1 + 1) ((i : Int), out) = disk_file_fall_l0 f o8 r10 k (j + 1) (((i + 1 : Nat) : Int), out1) ∧ out1.length = r10.length ∧ byteOk out1 ∧ (o8.2 = [] → out1 = out) := by
      conv => arg 1; ext out1; lhs; lhs; simp only [disk_file_fall_l0]
      rw [if_pos (by simp only [decide_eq_true_eq]; omega)]
      simp only [bnd_eq, htd, hnx, hs64, hi41, Int.toNat_natCast]
      generalize hX : (pget (.int .i64) ((i / 64 : Nat) : Int) o8.2).getD ([], 0, 0, [], ()) = x at hx hxl ⊢
      by_cases c1 : (!(pget (.int .i64) ((i / 64 : Nat) : Int) o8.2).isSome || x.2.2.1 == 1) = true
      · rw [if_pos c1]
        exact ⟨out, rfl, hl, hb, fun _ => rfl⟩
      · rw [if_neg c1]
        have hne : o8.2 = [] → False := fun e => by
          rw [e] at c1
          exact c1 (by simp [pget])
        by_cases c2 : (x.2.2.1 == 2) = true
        · rw [if_pos c2, if_pos (by omega)]
          by_cases c3 : decide (((i % 64 : Nat) : Int) < (x.2.2.2.1.length : Int)) = true
          · have c3' : i % 64 < x.2.2.2.1.length := by simp only [decide_eq_true_eq] at c3; omega
            rw [if_pos c3, if_pos (by omega), if_pos (by rw [List.length_set]; omega)]
            exact ⟨_, rfl, by simp [hl], byteOk_set (byteOk_set hb (by decide)) (byteOk_getD hx c3'), fun e => (hne e).elim⟩
          · rw [if_neg c3]
            exact ⟨_, rfl, by simp [hl], byteOk_set hb (by decide), fun e => (hne e).elim⟩
        · rw [if_neg c2, if_pos (by omega)]
          by_cases c3 : decide ((i : Int) < (f.2.1.length : Int)) = true
          · have c3' : i < f.2.1.length := by simp only [decide_eq_true_eq] at c3; omega
            rw [if_pos c3, if_pos (by omega), if_pos (by rw [List.length_set]; omega)]
            exact ⟨_, rfl, by simp [hl], byteOk_set (byteOk_set hb (by decide)) (byteOk_getD hf c3'), fun e => (hne e).elim⟩
          · rw [if_neg c3]
            exact ⟨_, rfl, by simp [hl], byteOk_set hb (by decide), fun e => (hne e).elim⟩
    obtain ⟨out1, e1, l1, b1, s1⟩ := hstep
    obtain ⟨out', e2, l2, b2, s2⟩ := fall_out hf o8 hm r10 hr k j (i + 1) out1 (by omega) l1 b1
    exact ⟨out', e1.trans e2, l2, b2, fun e => (s2 e).trans (s1 e)⟩

theorem fall_eq {f : FileS} (hf : FOk f) (name : List Int) {l : List FateS} (hl : FatesOk l) : ∃ g, disk_file_fall f name l = some g ∧ FOk g ∧ g.2.1 = g.1 ∧ g.2.2 = [] ∧ (f.2.2 = [] → f.2.1 = f.1 → g = f) := by
  obtain ⟨hb1, hb2, hl1, hl2, hn, hd⟩ := hf
  have hdl := nodup_len hn hd
  obtain ⟨s', h1, h2, h3, h4⟩ := fall_fold (f := f) (name := name) hl f.2.2 ((f.2.1.length : Int), []) (by simp) (by simp; omega) (by simp; omega) (fun p hp => by cases hp)
  have hcl : slices_Clone__byte_byte (List.take (Int.toNat s'.1) f.1) = some (List.take (Int.toNat s'.1) f.1) := clone_eq (by simp; omega)
  have htl : (List.take (Int.toNat s'.1) f.1).length ≤ 1048576 := by simp; omega
  obtain ⟨out, e1, e2, e3, e4⟩ := fall_out (f := f) hb2 s' h4 (List.take (Int.toNat s'.1) f.1) htl (fun o13 => (slices_Clone__byte_byte o13).bind fun r17 => some (o13, r17, [])) (List.take (Int.toNat s'.1) f.1).length 0 (List.take (Int.toNat s'.1) f.1) (by omega) rfl (byteOk_of_subset (List.take_subset _ _) hb1)
  have hco : slices_Clone__byte_byte out = some out := clone_eq (by omega)
  refine ⟨(out, out, []), ?_, ⟨e3, e3, by show out.length ≤ _; omega, Nat.le_refl _, List.nodup_nil, fun s hs => by cases hs⟩, rfl, rfl, fun hd0 hs0 => ?_⟩
  · unfold disk_file_fall
    simp only [bnd_eq, h1, Option.bind_some]
    rw [if_pos (by omega), hcl]
    simp only [Option.bind_some]
    have ef : Int.toNat (((List.take (Int.toNat s'.1) f.1).length : Int) - 0) + 1 = (List.take (Int.toNat s'.1) f.1).length + 1 := by omega
    rw [ef]
    refine e1.trans ?_
    simp only [hco, Option.bind_some]
  · have hs' : s' = ((f.2.1.length : Int), []) := by
      rw [hd0] at h1
      exact (Option.some.inj h1).symm
    have := e4 (by rw [hs'])
    have ht : List.take (Int.toNat s'.1) f.1 = f.1 := by rw [hs', hs0]; simp
    rw [ht] at this
    rw [this]
    obtain ⟨a, b, c⟩ := f
    simp only at hd0 hs0 ⊢
    rw [hd0, hs0]
end Sx
namespace Sx
open Go

theorem On_eq' {D : DiskS} (hp : D.2.2.2.2.2.2 = false) : disk_Disk_On D = some (D.1, D.2.1, D.2.2.1, D.2.2.2.1, D.2.2.2.2.1, false, false) := by
  unfold disk_Disk_On
  simp only [bnd_eq, hp]
  rw [if_neg (by decide)]
theorem Fall_eq (D : DiskS) (n : Int) : disk_Disk_Fall D n = some (D.1, D.2.1, D.2.2.1, D.2.2.2.1, max n 0, D.2.2.2.2.2.1, D.2.2.2.2.2.2) := rfl
end Sx
namespace Sx
open Go

/-- the fate of a sector -/
def ftOf (l : List FateS) (name : List Int) (s : Int) : FateS := (disk_fateOf l name s).getD fate0
theorem ft_eq {l : List FateS} (hl : FatesOk l) (name : List Int) (s : Int) : disk_fateOf l name s = some (ftOf l name s) ∧ byteOk (ftOf l name s).2.2.2.1 ∧ (ftOf l name s).2.2.2.1.length ≤ 140737488355328 := by
  obtain ⟨r, h, h1, h2⟩ := fateOf_eq hl name s
  unfold ftOf
  rw [h]
  exact ⟨rfl, h1, h2⟩
def stays (x : FateS) : Bool := x.2.2.1 == 1 || x.2.2.1 == 2

theorem ipget_pput {a b : Int} {v : FateS} (m : List (Int × FateS)) : pget (.int .i64) b (pput (.int .i64) a v m) = if b = a then some v else pget (.int .i64) b m := by
  have hne : ∀ {l : List (Int × FateS)}, a ≠ b → pget (.int .i64) b (pdel (.int .i64) a l) = pget (.int .i64) b l := fun {l} h => by
    induction l with
    | nil => rfl
    | cons p r ih =>
      simp only [pdel, pget, List.filter_cons, List.find?_cons] at ih ⊢
      by_cases hp : keq (.int .i64) p.1 a = true
      · have hpa : p.1 = a := by simpa [keq] using hp
        have hpb : keq (.int .i64) p.1 b = false := by simp [keq, hpa, h]
        simp only [hp, Bool.not_true, Bool.false_eq_true, if_false, hpb]
        exact ih
      · simp only [Bool.not_eq_true] at hp
        simp only [hp, Bool.not_false, if_true, List.find?_cons]
        cases keq (.int .i64) p.1 b with
        | true => rfl
        | false => exact ih
  by_cases h : b = a
  · subst h
    rw [if_pos rfl]
    have hself : ∀ {l : List (Int × FateS)}, pget (.int .i64) b l = none → pget (.int .i64) b (pins (.int .i64) b v l) = some v := fun {l} h => by
      induction l with
      | nil => simp [pins, pget, keq]
      | cons p r ih =>
        simp only [pins]
        split
        · simp [pget, keq]
        · have hp : keq (.int .i64) p.1 b = false := by
            cases hq : keq (.int .i64) p.1 b with
            | false => rfl
            | true => simp [pget, List.find?_cons, hq] at h
          have h2 : pget (.int .i64) b r = none := by simpa [pget, List.find?_cons, hp] using h
          have := ih h2
          simpa [pget, List.find?_cons, hp] using this
    exact hself (pget_del_self (kt := .int .i64) m)
  · rw [if_neg h]
    unfold pput
    rw [pget_pins_ne (fun e => h e.symm), hne (fun e => h e.symm)]

theorem fall_fold2 {f : FileS} {name : List Int} {l : List FateS} (hl : FatesOk l) : ∀ (ks : List Int) (s : Int × List (Int × FateS)), (∀ k ∈ ks, 0 ≤ k ∧ k < 16384) → 0 ≤ s.1 → s.1 ≤ f.1.length → s.2.length + ks.length < 4611686018427387904 → MapOk s.2 →
    ∃ s', foldK (disk_file_fall_l1 f name l) ks s = some s' ∧ s.1 ≤ s'.1 ∧ s'.1 ≤ f.1.length ∧ MapOk s'.2 ∧ (∀ q, pget (.int .i64) q s'.2 = if q ∈ ks then some (ftOf l name q) else pget (.int .i64) q s.2) ∧
      (∀ q ∈ ks, stays (ftOf l name q) = true → min ((q + 1) * 64) (f.1.length : Int) ≤ s'.1) ∧ (s'.1 = s.1 ∨ ∃ q ∈ ks, stays (ftOf l name q) = true ∧ s'.1 = min ((q + 1) * 64) (f.1.length : Int))
  | [], s, _, h0, h1, _, hm => ⟨s, rfl, Int.le_refl _, h1, hm, (fun q => by simp), (fun q hq => by cases hq), .inl rfl⟩
  | k :: ks, s, hk, h0, h1, hb, hm => by
    obtain ⟨hr, hrb⟩ := ft_eq hl name k
    obtain ⟨hk0, hk1⟩ := hk k (by simp)
    simp only [List.length_cons] at hb
    have hw : IntKind.wrap .i64 (IntKind.wrap .i64 (k + 1) * 64) = (k + 1) * 64 := by rw [wrap_i64 (n := k + 1) (by omega) (by omega), wrap_i64 (by omega) (by omega)]
    have e : disk_file_fall_l1 f name l k s = some (if stays (ftOf l name k) = true then max s.1 (min ((k + 1) * 64) (f.1.length : Int)) else s.1, pput (.int .i64) k (ftOf l name k) s.2) := by
      unfold disk_file_fall_l1
      simp only [hr, Option.bind_some, bnd_eq, hw]
      rw [if_pos (by omega)]
      unfold stays
      split <;> rfl
    generalize hX : (if stays (ftOf l name k) = true then max s.1 (min ((k + 1) * 64) (f.1.length : Int)) else s.1, pput (.int .i64) k (ftOf l name k) s.2) = s1 at e
    have hx1 : s1.1 = if stays (ftOf l name k) = true then max s.1 (min ((k + 1) * 64) (f.1.length : Int)) else s.1 := by rw [← hX]
    have hx2 : s1.2 = pput (.int .i64) k (ftOf l name k) s.2 := by rw [← hX]
    have hs1 : s.1 ≤ s1.1 ∧ s1.1 ≤ f.1.length := by rw [hx1]; split <;> omega
    obtain ⟨s', g1, g2, g3, g4, g5, g6, g7⟩ := fall_fold2 (f := f) (name := name) hl ks s1 (fun q hq => hk q (by simp [hq])) (by omega) hs1.2 (by rw [hx2]; have := iput_len k (ftOf l name k) s.2; omega) (by rw [hx2]; exact iput_ok hm hrb)
    refine ⟨s', ?_, by omega, g3, g4, fun q => ?_, fun q hq hst => ?_, ?_⟩
    · show (disk_file_fall_l1 f name l k s).bind _ = _
      rw [e]; exact g1
    · rw [g5 q, hx2, ipget_pput]
      by_cases hqk : q = k
      · subst hqk; simp
      · simp [hqk]
    · rcases List.mem_cons.1 hq with rfl | hq
      · refine Int.le_trans ?_ g2
        rw [hx1, if_pos hst]; omega
      · exact g6 q hq hst
    · rcases g7 with g7 | ⟨q, hq, hst, g7⟩
      · rw [g7, hx1]
        split
        · rename_i hst
          rcases Int.le_total (min ((k + 1) * 64) (f.1.length : Int)) s.1 with h | h
          · left; omega
          · right; exact ⟨k, by simp, hst, by omega⟩
        · exact .inl rfl
      · exact .inr ⟨q, by simp [hq], hst, g7⟩

/-- what comes at a place, where the sector's fate and the byte that was seen are told -/
def comes (safe : List Int) (x : Option FateS) (was : Int) (q : Nat) : Int := match x with
  | none => was
  | some x => if x.2.2.1 = 1 then was else if x.2.2.1 = 2 then (if q % 64 < x.2.2.2.1.length then x.2.2.2.1.getD (q % 64) 0 else 0) else if q < safe.length then safe.getD q 0 else 0

theorem fall_out2 {f : FileS} (hf : byteOk f.2.1) (o8 : Int × List (Int × FateS)) (hm : MapOk o8.2) (r10 : List Int) (hr : r10.length ≤ 1048576) (k : List Int → Option FileS) : ∀ (j i : Nat) (out : List Int), i + j = r10.length → out.length = r10.length → byteOk out →
    ∃ out', disk_file_fall_l0 f o8 r10 k (j + 1) ((i : Int), out) = k out' ∧ out'.length = r10.length ∧ byteOk out' ∧ ∀ q, q < r10.length → out'.getD q 0 = if q < i then out.getD q 0 else comes f.2.1 (pget (.int .i64) ((q / 64 : Nat) : Int) o8.2) (out.getD q 0) q
  | 0, i, out, h, hl, hb => ⟨out, by simp only [disk_file_fall_l0]; rw [if_neg (by simp only [decide_eq_true_eq]; omega)], hl, hb, fun q hq => by rw [if_pos (by omega)]⟩
  | j + 1, i, out, h, hl, hb => by
    have hi : i < r10.length := by omega
    have htd : IntKind.wrap .i64 (Int.tdiv (i : Int) 64) = ((i / 64 : Nat) : Int) := by
      rw [Int.tdiv_eq_ediv_of_nonneg (by omega)]; exact wrap_i64 (by omega) (by omega)
    have hnx : IntKind.wrap .i64 ((i : Int) + 1) = ((i + 1 : Nat) : Int) := wrap_i64 (by omega) (by omega)
    have hs64 : IntKind.wrap .i64 (((i / 64 : Nat) : Int) * 64) = ((i / 64 * 64 : Nat) : Int) := wrap_i64 (by omega) (by omega)
    have hi41 : IntKind.wrap .i64 ((i : Int) - ((i / 64 * 64 : Nat) : Int)) = ((i % 64 : Nat) : Int) := by
      rw [wrap_i64 (by omega) (by omega)]; omega
    obtain ⟨hx, hxl⟩ := mapOk_get hm ((i / 64 : Nat) : Int)
    have setget : ∀ (c : Int) (q : Nat), (out.set i c).getD q 0 = if q = i then c else out.getD q 0 := fun c q => by
      by_cases hq : q = i
      · subst hq
        rw [if_pos rfl, List.getD_eq_getElem?_getD, List.getElem?_set_self (by omega)]; rfl
      · rw [if_neg hq, List.getD_eq_getElem?_getD, List.getElem?_set_ne (fun e => hq e.symm), ← List.getD_eq_getElem?_getD]
    -- the step
    have hstep : ∃ out1, disk_file_fall_l0 f o8 r10 k (j + 1 + 1) ((i : Int), out) = disk_file_fall_l0 f o8 r10 k (j + 1) (((i + 1 : Nat) : Int), out1) ∧ out1.length = r10.length ∧ byteOk out1 ∧
        ∀ q, out1.getD q 0 = if q = i then comes f.2.1 (pget (.int .i64) ((i / 64 : Nat) : Int) o8.2) (out.getD i 0) i else out.getD q 0 := by
      conv => arg 1; ext out1; lhs; lhs; simp only [disk_file_fall_l0]
      rw [if_pos (by simp only [decide_eq_true_eq]; omega)]
      simp only [bnd_eq, htd, hnx, hs64, hi41, Int.toNat_natCast]
      cases hg : pget (.int .i64) ((i / 64 : Nat) : Int) o8.2 with
      | none =>
        rw [if_pos (by simp)]
        exact ⟨out, rfl, hl, hb, fun q => by
          split
          · rename_i hq; rw [hq]; rfl
          · rfl⟩
      | some x =>
        rw [hg] at hx hxl
        simp only [Option.getD_some] at hx hxl ⊢
        by_cases c1 : (!(some x : Option FateS).isSome || x.2.2.1 == 1) = true
        · rw [if_pos c1]
          have c1' : x.2.2.1 = 1 := by simpa using c1
          exact ⟨out, rfl, hl, hb, fun q => by
            split
            · rename_i hq; rw [hq]; simp only [comes]; rw [if_pos c1']
            · rfl⟩
        · rw [if_neg c1]
          have c1' : ¬ x.2.2.1 = 1 := by simpa using c1
          by_cases c2 : (x.2.2.1 == 2) = true
          · rw [if_pos c2, if_pos (by omega)]
            have c2' : x.2.2.1 = 2 := by simpa using c2
            by_cases c3 : decide (((i % 64 : Nat) : Int) < (x.2.2.2.1.length : Int)) = true
            · have c3' : i % 64 < x.2.2.2.1.length := by simp only [decide_eq_true_eq] at c3; omega
              rw [if_pos c3, if_pos (by omega), if_pos (by rw [List.length_set]; omega)]
              refine ⟨_, rfl, by simp [hl], byteOk_set (byteOk_set hb (by decide)) (byteOk_getD hx c3'), fun q => ?_⟩
              rw [List.set_set, setget]
              split
              · simp only [comes]; rw [if_neg c1', if_pos c2', if_pos c3']
              · rfl
            · rw [if_neg c3]
              have c3' : ¬ i % 64 < x.2.2.2.1.length := by simp only [decide_eq_true_eq] at c3; omega
              refine ⟨_, rfl, by simp [hl], byteOk_set hb (by decide), fun q => ?_⟩
              rw [setget]
              split
              · simp only [comes]; rw [if_neg c1', if_pos c2', if_neg c3']
              · rfl
          · rw [if_neg c2, if_pos (by omega)]
            have c2' : ¬ x.2.2.1 = 2 := by simpa using c2
            by_cases c3 : decide ((i : Int) < (f.2.1.length : Int)) = true
            · have c3' : i < f.2.1.length := by simp only [decide_eq_true_eq] at c3; omega
              rw [if_pos c3, if_pos (by omega), if_pos (by rw [List.length_set]; omega)]
              refine ⟨_, rfl, by simp [hl], byteOk_set (byteOk_set hb (by decide)) (byteOk_getD hf c3'), fun q => ?_⟩
              rw [List.set_set, setget]
              split
              · simp only [comes]; rw [if_neg c1', if_neg c2', if_pos c3']
              · rfl
            · rw [if_neg c3]
              have c3' : ¬ i < f.2.1.length := by simp only [decide_eq_true_eq] at c3; omega
              refine ⟨_, rfl, by simp [hl], byteOk_set hb (by decide), fun q => ?_⟩
              rw [setget]
              split
              · simp only [comes]; rw [if_neg c1', if_neg c2', if_neg c3']
              · rfl
    obtain ⟨out1, e1, l1, b1, s1⟩ := hstep
    obtain ⟨out', e2, l2, b2, s2⟩ := fall_out2 hf o8 hm r10 hr k j (i + 1) out1 (by omega) l1 b1
    refine ⟨out', e1.trans e2, l2, b2, fun q hq => ?_⟩
    rw [s2 q hq, s1 q]
    by_cases h1 : q < i
    · rw [if_pos (by omega), if_neg (by omega), if_pos h1]
    · rw [if_neg h1]
      by_cases h2 : q = i
      · subst h2
        rw [if_pos (by omega), if_pos rfl]
      · rw [if_neg (by omega), if_neg h2]

theorem fall_exact {f : FileS} (hf : FOk f) (name : List Int) {l : List FateS} (hl : FatesOk l) : ∃ g, disk_file_fall f name l = some g ∧ FOk g ∧ g.2.1 = g.1 ∧ g.2.2 = [] ∧ f.2.1.length ≤ g.1.length ∧ g.1.length ≤ f.1.length ∧
    (∀ s ∈ f.2.2, stays (ftOf l name s) = true → min ((s + 1) * 64) (f.1.length : Int) ≤ g.1.length) ∧ ((g.1.length : Int) = f.2.1.length ∨ ∃ s ∈ f.2.2, stays (ftOf l name s) = true ∧ (g.1.length : Int) = min ((s + 1) * 64) (f.1.length : Int)) ∧
    ∀ q, q < g.1.length → g.1.getD q 0 = comes f.2.1 (if ((q / 64 : Nat) : Int) ∈ f.2.2 then some (ftOf l name ((q / 64 : Nat) : Int)) else none) (f.1.getD q 0) q := by
  obtain ⟨hb1, hb2, hl1, hl2, hn, hd⟩ := hf
  have hdl := nodup_len hn hd
  obtain ⟨s', h1, h2, h3, h4, h5, h6, h7⟩ := fall_fold2 (f := f) (name := name) hl f.2.2 ((f.2.1.length : Int), []) hd (by simp) (by simp; omega) (by simp; omega) (fun p hp => by cases hp)
  simp only at h2 h7
  have hcl : slices_Clone__byte_byte (List.take (Int.toNat s'.1) f.1) = some (List.take (Int.toNat s'.1) f.1) := clone_eq (by simp; omega)
  have htl : (List.take (Int.toNat s'.1) f.1).length = Int.toNat s'.1 := by simp only [List.length_take]; omega
  obtain ⟨out, e1, e2, e3, e4⟩ := fall_out2 (f := f) hb2 s' h4 (List.take (Int.toNat s'.1) f.1) (by omega) (fun o13 => (slices_Clone__byte_byte o13).bind fun r17 => some (o13, r17, [])) (List.take (Int.toNat s'.1) f.1).length 0 (List.take (Int.toNat s'.1) f.1) (by omega) rfl (byteOk_of_subset (List.take_subset _ _) hb1)
  have hco : slices_Clone__byte_byte out = some out := clone_eq (by omega)
  refine ⟨(out, out, []), ?_, ⟨e3, e3, by show out.length ≤ _; omega, Nat.le_refl _, List.nodup_nil, fun s hs => by cases hs⟩, rfl, rfl, by show _ ≤ out.length; omega, by show out.length ≤ _; omega, fun s hs hst => ?_, ?_, fun q hq => ?_⟩
  · unfold disk_file_fall
    simp only [bnd_eq, h1, Option.bind_some]
    rw [if_pos (by omega), hcl]
    simp only [Option.bind_some]
    have ef : Int.toNat (((List.take (Int.toNat s'.1) f.1).length : Int) - 0) + 1 = (List.take (Int.toNat s'.1) f.1).length + 1 := by omega
    rw [ef]
    refine e1.trans ?_
    simp only [hco, Option.bind_some]
  · have h8 := h6 s hs hst
    have h9 : min ((s + 1) * 64) (f.1.length : Int) ≤ (out.length : Int) := by omega
    exact h9
  · show ((out.length : Int) = _) ∨ _
    rcases h7 with h7 | ⟨s, hs, hst, h7⟩
    · left; omega
    · right
      have h9 : (out.length : Int) = min ((s + 1) * 64) (f.1.length : Int) := by omega
      exact ⟨s, hs, hst, h9⟩
  · have hq' : q < out.length := hq
    have h := e4 q (by omega)
    rw [if_neg (by omega), h5] at h
    have hget : (List.take (Int.toNat s'.1) f.1).getD q 0 = f.1.getD q 0 := by
      rw [List.getD_eq_getElem?_getD, List.getElem?_take_of_lt (by omega), ← List.getD_eq_getElem?_getD]
    rw [hget] at h
    exact h

theorem crash_fold2 {l : List FateS} (hl : FatesOk l) : ∀ (ks : List (List Int)) (fs : List (List Int × FileS)), ks.Nodup → FsOk fs → (∀ k ∈ ks, (pget .str k fs).isSome) →
    ∃ fs', foldK (disk_Disk_Crash_l0 l) ks fs = some fs' ∧ FsOk fs' ∧ fs'.map (·.1) = fs.map (·.1) ∧ (∀ k ∈ ks, ∀ f, pget .str k fs = some f → ∃ g, disk_file_fall f k l = some g ∧ pget .str k fs' = some g) ∧ ∀ k, k ∉ ks → pget .str k fs' = pget .str k fs
  | [], fs, _, hok, _ => ⟨fs, rfl, hok, rfl, (fun k hk => by cases hk), fun _ _ => rfl⟩
  | k :: ks, fs, hn, hok, hk => by
    rw [List.nodup_cons] at hn
    obtain ⟨f, hf⟩ := Option.isSome_iff_exists.1 (hk k (by simp))
    obtain ⟨g, hg, hgo, _⟩ := fall_eq (hok.get hf) k hl
    have e : disk_Disk_Crash_l0 l k fs = some (pset .str k g fs) := by
      unfold disk_Disk_Crash_l0
      simp only [hf, Option.bind_some, hg]
    have hks : ∀ k' ∈ ks, (pget .str k' (pset .str k g fs)).isSome := fun k' hk' => by
      rw [pget_pset_ne (show k ≠ k' from fun e => hn.1 (by rw [e]; exact hk'))]; exact hk k' (by simp [hk'])
    obtain ⟨fs', h1, h2, h3, h4, h5⟩ := crash_fold2 hl ks (pset .str k g fs) hn.2 (hok.set hgo) hks
    refine ⟨fs', ?_, h2, by rw [h3, pset_keys], fun k' hk' f' hf' => ?_, fun k' hk' => ?_⟩
    · show (disk_Disk_Crash_l0 l k fs).bind _ = _
      rw [e]; exact h1
    · rcases List.mem_cons.1 hk' with rfl | hk'
      · rw [hf] at hf'
        obtain rfl := Option.some.inj hf'
        exact ⟨g, hg, by rw [h5 k' hn.1, get_pset hf]⟩
      · refine h4 k' hk' f' ?_
        rw [pget_pset_ne (show k ≠ k' from fun e => hn.1 (by rw [e]; exact hk'))]; exact hf'
    · simp only [List.mem_cons, not_or] at hk'
      rw [h5 k' hk'.2, pget_pset_ne (fun e => hk'.1 e.symm)]
theorem Crash_exact {D : DiskS} {l : List FateS} (hl : FatesOk l) (hok : FsOk D.2.1) (hop : D.2.2.2.2.2.1 = true → D.2.2.2.2.2.2 = true) : ∃ fs', disk_Disk_Crash D l = some (D.1, fs', 0, D.2.2.2.1, 0, true, false) ∧ FsOk fs' ∧ fs'.map (·.1) = D.2.1.map (·.1) ∧
    ∀ k f, pget .str k D.2.1 = some f → ∃ g, disk_file_fall f k l = some g ∧ pget .str k fs' = some g := by
  obtain ⟨fs', h1, h2, h3, h4, h5⟩ := crash_fold2 hl (D.2.1.map (·.1)) D.2.1 hok.2.1 hok (fun k hk => by
    cases hg : pget .str k D.2.1 with
    | none => exact absurd hk (get_none.1 hg)
    | some f => rfl)
  refine ⟨fs', ?_, h2, h3, fun k f hf => h4 k (Classical.byContradiction fun hc => ?_) f hf⟩
  · unfold disk_Disk_Crash
    simp only [bnd_eq, h1, Option.bind_some]
    rw [if_neg]
    cases ho : D.2.2.2.2.2.1 with
    | false => simp
    | true => simp [hop ho]
  · have := get_none.2 hc
    rw [hf] at this; cases this
end Sx
namespace Sx
open Go

/-! ### slots -/
theorem rd_congr {b c : List Int} (h : b.take 12 = c.take 12) : rdV b = rdV c ∧ rdW b = rdW c := by
  have h8 : pre b 8 = pre c 8 := by rw [← pre_take (b := b) (i := 8) (n := 12) (by omega), h, pre_take (by omega)]
  have e : rdV b = rdV c := by unfold rdV; rw [h8]
  refine ⟨e, ?_⟩
  unfold rdW
  rw [e, h]
theorem pick_cases {x : List Int} {v nx : Int} (h : pick x = some (v, nx)) : (nx = 0 ∧ rdW (x.drop 64) = true ∧ rdV (x.drop 64) = v ∧ (rdW x = true → rdV x < v)) ∨ (nx = 1 ∧ rdW x = true ∧ rdV x = v ∧ (rdW (x.drop 64) = true → rdV (x.drop 64) ≤ v)) := by
  unfold pick at h
  by_cases h1 : rdW x = false ∧ rdW (x.drop 64) = false
  · rw [if_pos h1] at h; cases h
  · rw [if_neg h1] at h
    by_cases h2 : rdW (x.drop 64) = true ∧ (rdW x = false ∨ rdV x < rdV (x.drop 64))
    · rw [if_pos h2] at h
      simp only [Option.some.injEq, Prod.mk.injEq] at h
      refine .inl ⟨h.2.symm, h2.1, h.1, fun hw => ?_⟩
      rcases h2.2 with h3 | h3
      · rw [h3] at hw; cases hw
      · rw [← h.1]; exact h3
    · rw [if_neg h2] at h
      simp only [Option.some.injEq, Prod.mk.injEq] at h
      have hw : rdW x = true := by
        rcases Bool.eq_false_or_eq_true (rdW x) with h3 | h3
        · exact h3
        · rcases Bool.eq_false_or_eq_true (rdW (x.drop 64)) with h4 | h4
          · exact absurd ⟨h4, .inl h3⟩ h2
          · exact absurd ⟨h3, h4⟩ h1
      refine .inr ⟨h.2.symm, hw, h.1, fun h3 => ?_⟩
      rw [← h.1]
      exact Classical.byContradiction fun h4 => h2 ⟨h3, .inr (by omega)⟩
/-- one slot that is whole -/
theorem pick_lo {x : List Int} {v : Int} (h : rdW x = true) (hv : rdV x = v) : ∃ (v' : Int) (nx : Nat), pick x = some (v', (nx : Int)) ∧ nx < 2 ∧ v ≤ v' ∧ ((nx = 1 ∧ v' = v) ∨ (nx = 0 ∧ rdW (x.drop 64) = true ∧ v' = rdV (x.drop 64))) := by
  unfold pick
  rw [if_neg (fun g => by rw [h] at g; exact absurd g.1 (by decide))]
  by_cases h2 : rdW (x.drop 64) = true ∧ (rdW x = false ∨ rdV x < rdV (x.drop 64))
  · rw [if_pos h2]
    refine ⟨_, 0, rfl, by omega, ?_, .inr ⟨rfl, h2.1, rfl⟩⟩
    rcases h2.2 with h3 | h3
    · rw [h] at h3; cases h3
    · omega
  · rw [if_neg h2]
    exact ⟨_, 1, rfl, by omega, by omega, .inl ⟨rfl, hv⟩⟩
theorem pick_hi {x : List Int} {v : Int} (h : rdW (x.drop 64) = true) (hv : rdV (x.drop 64) = v) : ∃ (v' : Int) (nx : Nat), pick x = some (v', (nx : Int)) ∧ nx < 2 ∧ v ≤ v' ∧ ((nx = 0 ∧ v' = v) ∨ (nx = 1 ∧ rdW x = true ∧ v' = rdV x)) := by
  unfold pick
  rw [if_neg (fun g => by rw [h] at g; exact absurd g.2 (by decide))]
  by_cases h2 : rdW (x.drop 64) = true ∧ (rdW x = false ∨ rdV x < rdV (x.drop 64))
  · rw [if_pos h2]
    exact ⟨_, 0, rfl, by omega, by omega, .inl ⟨rfl, hv⟩⟩
  · rw [if_neg h2]
    have hx : rdW x = true := by
      rcases Bool.eq_false_or_eq_true (rdW x) with h3 | h3
      · exact h3
      · exact absurd ⟨h, .inl h3⟩ h2
    refine ⟨_, 1, rfl, by omega, ?_, .inr ⟨rfl, hx, rfl⟩⟩
    have : ¬ rdV x < rdV (x.drop 64) := fun h3 => h2 ⟨h, .inr h3⟩
    omega
theorem over_lo (x s : List Int) (hs : s.length = 64) : over x 0 s = s ++ x.drop 64 := by
  unfold over
  rw [List.take_zero, List.nil_append, Nat.zero_add, hs]
theorem over_hi (x s : List Int) (hs : s.length = 64) (hx : x.length = 128) : over x 64 s = x.take 64 ++ s := by
  unfold over
  rw [List.drop_eq_nil_of_le (by omega), List.append_nil]
theorem over_facts {x : List Int} {nx : Nat} (hx : x.length = 128) (hn : nx < 2) (n : Int) : (over x (64 * nx) (slotB n)).length = 128 ∧
    (nx = 0 → (over x (64 * nx) (slotB n)).drop 64 = x.drop 64 ∧ rdV (over x (64 * nx) (slotB n)) = rdV (slotB n) ∧ rdW (over x (64 * nx) (slotB n)) = rdW (slotB n)) ∧
    (nx = 1 → (over x (64 * nx) (slotB n)).drop 64 = slotB n ∧ rdV (over x (64 * nx) (slotB n)) = rdV x ∧ rdW (over x (64 * nx) (slotB n)) = rdW x) := by
  have hs := slotB_len n
  refine ⟨?_, fun h => ?_, fun h => ?_⟩
  · rw [over_length (by omega)]; omega
  · subst h
    rw [Nat.mul_zero, over_lo _ _ hs]
    refine ⟨by rw [List.drop_append_of_le_length (by omega), List.drop_eq_nil_of_le (by omega), List.nil_append], ?_⟩
    exact rd_congr (by rw [List.take_append_of_le_length (by omega)])
  · subst h
    rw [Nat.mul_one, over_hi _ _ hs hx]
    have ht : (x.take 64).length = 64 := by rw [List.length_take]; omega
    refine ⟨by rw [List.drop_append_of_le_length (by omega), List.drop_eq_nil_of_le (by omega), List.nil_append], ?_⟩
    exact rd_congr (by rw [List.take_append_of_le_length (by omega), List.take_take]; rfl)
theorem slot_rd {n : Int} (h : isR n = true) : rdV (slotB n) = n ∧ rdW (slotB n) = true := by
  have := rw_slot h []
  rwa [List.append_nil] at this
/-- a greater number in the slot that is next -/
theorem pick_over {x : List Int} {v n : Int} {nx : Nat} (hx : x.length = 128) (hn : nx < 2) (hp : pick x = some (v, (nx : Int))) (hv : v < n) (hr : isR n = true) : pick (over x (64 * nx) (slotB n)) = some (n, 1 - (nx : Int)) := by
  obtain ⟨_, f0, f1⟩ := over_facts hx hn n
  obtain ⟨s1, s2⟩ := slot_rd hr
  rcases pick_cases hp with ⟨h0, h1, h2, _⟩ | ⟨h0, h1, h2, _⟩
  · have : nx = 0 := by omega
    obtain ⟨g1, g2, g3⟩ := f0 this
    subst this
    unfold pick
    rw [g1, g2, g3, s1, s2, h1, h2, if_neg (by simp), if_neg (by simp; omega)]
    rfl
  · have : nx = 1 := by omega
    obtain ⟨g1, g2, g3⟩ := f1 this
    subst this
    unfold pick
    rw [g1, g2, g3, s1, s2, h1, h2, if_neg (by simp), if_pos ⟨rfl, .inr hv⟩]
    rfl

/-! ### a disk with marks -/
def four : List (List Int) := [[111, 110, 101], [116, 119, 111], tmpOf [111, 110, 101], tmpOf [116, 119, 111]]
structure DInv (D : DiskS) : Prop where
  ok : FsOk D.2.1
  cap : D.1 = 1000
  both : D.2.2.2.2.2.2 = D.2.2.2.2.2.1
  small : ∀ k f, pget .str k D.2.1 = some f → f.1.length ≤ 128
  keys : ∀ k ∈ D.2.1.map (·.1), k ∈ four
theorem four_names : ∀ k ∈ four, disk_isName k = some true := by decide +kernel
theorem DInv.len {D : DiskS} (h : DInv D) : (D.2.1.map (·.1)).length ≤ 4 := List.Nodup.length_le_of_subset h.ok.2.1 (fun k hk => h.keys k hk)
theorem sum_const {ks : List (List Int)} {f : List Int → Nat} {c : Nat} (h : ∀ k ∈ ks, f k ≤ c) : (ks.map f).sum ≤ ks.length * c := by
  induction ks with
  | nil => simp
  | cons k ks ih =>
    simp only [List.map_cons, List.sum_cons, List.length_cons]
    have := h k List.mem_cons_self
    have := ih fun q hq => h q (List.mem_cons_of_mem _ hq)
    rw [Nat.add_mul]
    omega
theorem DInv.tot {D : DiskS} (h : DInv D) : tot D.2.1 ≤ 512 := by
  have h1 : Sx.tot D.2.1 ≤ (D.2.1.map (·.1)).length * 128 := sum_const fun k hk => by
    cases hg : pget .str k D.2.1 with
    | none => exact absurd hk (get_none.1 hg)
    | some f =>
      have : seenOf D.2.1 k = f.1 := by simp [seenOf, hg]
      rw [this]; exact h.small k f hg
  have := h.len
  omega
/-- the disk, with other files and counts -/
def dW (D : DiskS) (fs : List (List Int × FileS)) (a fl : Int) (o : Bool) : DiskS := (D.1, fs, a, D.2.2.2.1, fl, o, o)
theorem DInv.with {D : DiskS} (h : DInv D) (a w fl : Int) (o : Bool) : DInv (D.1, D.2.1, a, w, fl, o, o) := ⟨h.ok, h.cap, rfl, h.small, h.keys⟩
theorem counted_inv {D : DiskS} (h : DInv D) (w : Int) : ∃ e a fl o, disk_Disk_counted D w = some (e, dW D D.2.1 a fl o) ∧ ((e = 9 ∧ o = true) ∨ ((e = 0 ∨ e = 40) ∧ o = D.2.2.2.2.2.1)) ∧ (D.2.2.1 = 0 ∧ D.2.2.2.2.1 = 0 → e = 0 ∧ a = 0 ∧ fl = 0) := by
  obtain ⟨e, a, fl, o, p, h1, h2⟩ := counted_eq D w
  have hp : p = o := by
    rcases h2 with ⟨_, h2, h3⟩ | ⟨_, h2, h3⟩
    · rw [h2, h3]
    · rw [h2, h3, h.both]
  subst hp
  refine ⟨e, a, fl, p, h1, ?_, fun hc => ?_⟩
  · rcases h2 with ⟨g1, g2, _⟩ | ⟨g1, g2, _⟩
    · exact .inl ⟨g1, g2⟩
    · exact .inr ⟨g1, g2⟩
  · rw [counted_calm w hc.1 hc.2] at h1
    simp only [Option.some.injEq] at h1
    obtain ⟨c0, c1⟩ := Prod.mk.inj h1
    exact ⟨c0.symm, (congrArg (fun x : DiskS => x.2.2.1) c1).symm.trans hc.1, (congrArg (fun x : DiskS => x.2.2.2.2.1) c1).symm.trans hc.2⟩
/-- a Write that is within bounds -/
theorem inv_write {D : DiskS} {name text : List Int} {at0 : Nat} (h : DInv D) (ho : D.2.2.2.2.2.1 = false) (hn : name ∈ four) (ht : byteOk text) (h1 : at0 ≤ (seenOf D.2.1 name).length) (hb : at0 + text.length ≤ 128) :
    ∃ e D', disk_Disk_Write D name (at0 : Int) text = some (e, D') ∧ DInv D' ∧ (e = 0 ∨ e = 9 ∨ e = 40) ∧ (e = 9 → D'.2.2.2.2.2.1 = true) ∧ (e ≠ 9 → D'.2.2.2.2.2.1 = false) ∧ (e ≠ 0 → D'.2.1 = D.2.1) ∧ (D.2.2.1 = 0 ∧ D.2.2.2.2.1 = 0 → e = 0 ∧ D'.2.2.1 = 0 ∧ D'.2.2.2.2.1 = 0) ∧
      (e = 0 → (∃ ds, pget .str name D'.2.1 = some (over (seenOf D.2.1 name) at0 text, safeOf D.2.1 name, ds) ∧ ∀ x, x ∈ ds ↔ x ∈ dirtyOf D.2.1 name ∨ (text ≠ [] ∧ (at0 : Int) / 64 ≤ x ∧ x * 64 < at0 + text.length)) ∧ ∀ b, name ≠ b → pget .str b D'.2.1 = pget .str b D.2.1) := by
  have htot := h.tot
  have hsm : (seenOf D.2.1 name).length ≤ 128 := by
    unfold seenOf
    cases hg : pget .str name D.2.1 with
    | none => simp
    | some f => exact h.small _ f hg
  obtain ⟨e, a, fl, o, c1, c2, c3⟩ := counted_inv h 1
  obtain ⟨e', a', fl', o', p', fs', g1, g2, g3, g4, g5, g6⟩ := Write_core2 (at0 := (at0 : Int)) h.ok ho (four_names _ hn) ht (by omega) (by omega) (by omega) (fun _ => by have := h.len; rw [List.length_map] at this; omega) (fun u hu => by
    rw [Used_tot h.ok] at hu
    cases hu
    rw [h.cap]; omega)
  rw [c1] at g1
  simp only [dW, Option.some.injEq, Prod.mk.injEq, true_and] at g1
  obtain ⟨rfl, rfl, rfl, rfl, rfl⟩ := g1
  by_cases he : e = 0
  · subst he
    have ho' : o = false := by
      rcases c2 with ⟨c2, _⟩ | ⟨_, c2⟩
      · cases c2
      · rw [c2, ho]
    subst ho'
    rw [if_pos rfl] at g2
    refine ⟨0, _, g2, ⟨g3, h.cap, rfl, fun k f hk => ?_, fun k hk => ?_⟩, .inl rfl, (fun hc => by cases hc), fun _ => rfl, fun hc => absurd rfl hc, fun hc => ⟨rfl, (c3 hc).2⟩, fun _ => ⟨?_, g5⟩⟩
    · by_cases hkn : name = k
      · subst hkn
        obtain ⟨ds, q1, _⟩ := g4
        have hk' : pget .str name fs' = some f := hk
        rw [q1] at hk'
        obtain rfl := Option.some.inj hk'
        simp only [Int.toNat_natCast]
        rw [over_length h1]; omega
      · have hk' : pget .str k fs' = some f := hk
        rw [g5 k hkn] at hk'
        exact h.small k f hk'
    · have hk' : k ∈ fs'.map (·.1) := hk
      rw [g6] at hk'
      cases hg : pget .str name D.2.1 with
      | some f => rw [hg] at hk'; exact h.keys k hk'
      | none =>
        rw [hg] at hk'
        have : k ∈ (pput .str name (([], [], []) : FileS) D.2.1).map (·.1) := hk'
        have := (pins_keys_perm _ _).mem_iff.1 this
        rcases List.mem_cons.1 this with rfl | h3
        · exact hn
        · obtain ⟨p, hp, rfl⟩ := List.mem_map.1 h3
          exact h.keys _ (List.mem_map.2 ⟨p, pdel_mem hp, rfl⟩)
    · obtain ⟨ds, q1, q2⟩ := g4
      rw [Int.toNat_natCast] at q1
      exact ⟨ds, q1, q2⟩
  · rw [if_neg he] at g2
    refine ⟨e, _, g2, h.with a _ fl o, ?_, fun h9 => ?_, fun h9 => ?_, fun _ => rfl, fun hc => absurd (c3 hc).1 he, fun hc => absurd hc he⟩
    · rcases c2 with ⟨c2, _⟩ | ⟨c2 | c2, _⟩
      · exact .inr (.inl c2)
      · exact .inl c2
      · exact .inr (.inr c2)
    · rcases c2 with ⟨_, c2⟩ | ⟨c2, _⟩
      · exact c2
      · rcases c2 with c2 | c2 <;> omega
    · rcases c2 with ⟨c2, _⟩ | ⟨_, c2⟩
      · exact absurd c2 h9
      · show o = false
        rw [c2, ho]
theorem inv_sync {D : DiskS} {name : List Int} {f : FileS} (h : DInv D) (ho : D.2.2.2.2.2.1 = false) (hf : pget .str name D.2.1 = some f) :
    ∃ e D', disk_Disk_Sync D name = some (e, D') ∧ DInv D' ∧ (e = 0 ∨ e = 9 ∨ e = 40) ∧ (e = 9 → D'.2.2.2.2.2.1 = true) ∧ (e ≠ 9 → D'.2.2.2.2.2.1 = false) ∧ (e ≠ 0 → D'.2.1 = D.2.1) ∧ (D.2.2.1 = 0 ∧ D.2.2.2.2.1 = 0 → e = 0 ∧ D'.2.2.1 = 0 ∧ D'.2.2.2.2.1 = 0) ∧
      (e = 0 → pget .str name D'.2.1 = some (f.1, f.1, []) ∧ ∀ b, name ≠ b → pget .str b D'.2.1 = pget .str b D.2.1) := by
  obtain ⟨e, a, fl, o, c1, c2, c3⟩ := counted_inv h 2
  obtain ⟨e', a', fl', o', p', g1, g2⟩ := Sync_eq h.ok ho hf
  rw [c1] at g1
  simp only [dW, Option.some.injEq, Prod.mk.injEq, true_and] at g1
  obtain ⟨rfl, rfl, rfl, rfl, rfl⟩ := g1
  have hfo := h.ok.get hf
  by_cases he : e = 0
  · subst he
    have ho' : o = false := by
      rcases c2 with ⟨c2, _⟩ | ⟨_, c2⟩
      · cases c2
      · rw [c2, ho]
    subst ho'
    rw [if_pos rfl] at g2
    have hfc : FOk (f.1, f.1, []) := ⟨hfo.1, hfo.1, hfo.2.2.1, Nat.le_refl _, List.nodup_nil, fun s hs => by cases hs⟩
    refine ⟨0, _, g2, ⟨h.ok.set hfc, h.cap, rfl, fun k f' hk => ?_, fun k hk => ?_⟩, .inl rfl, (fun hc => by cases hc), fun _ => rfl, fun hc => absurd rfl hc, fun hc => ⟨rfl, (c3 hc).2⟩, fun _ => ⟨get_pset hf, fun b hb => pget_pset_ne hb _ _⟩⟩
    · have hk' : pget .str k (pset .str name (f.1, f.1, []) D.2.1) = some f' := hk
      by_cases hkn : name = k
      · subst hkn
        rw [get_pset hf] at hk'
        obtain rfl := Option.some.inj hk'
        exact h.small _ f hf
      · rw [pget_pset_ne hkn] at hk'
        exact h.small k f' hk'
    · have hk' : k ∈ (pset .str name ((f.1, f.1, []) : FileS) D.2.1).map (·.1) := hk
      rw [pset_keys] at hk'
      exact h.keys k hk'
  · rw [if_neg he] at g2
    refine ⟨e, _, g2, h.with a _ fl o, ?_, fun h9 => ?_, fun h9 => ?_, fun _ => rfl, fun hc => absurd (c3 hc).1 he, fun hc => absurd hc he⟩
    · rcases c2 with ⟨c2, _⟩ | ⟨c2 | c2, _⟩
      · exact .inr (.inl c2)
      · exact .inl c2
      · exact .inr (.inr c2)
    · rcases c2 with ⟨_, c2⟩ | ⟨c2, _⟩
      · exact c2
      · rcases c2 with c2 | c2 <;> omega
    · rcases c2 with ⟨c2, _⟩ | ⟨_, c2⟩
      · exact absurd c2 h9
      · show o = false
        rw [c2, ho]
end Sx
namespace Sx
open Go

/-! ### the law's reading of a slot -/
theorem ior_byteS (x c : Nat) (hx : x < 72057594037927936) (hc : c < 256) : ior .i64 (ishl .i64 (x : Int) 8) (c : Int) = IntKind.wrap .i64 ((x * 256 + c : Nat) : Int) := by
  have e0 : min (Int.toNat 8) (IntKind.bits .i64) = 8 := by decide
  have e2 : (BitVec.ofInt 64 (ishl .i64 (x : Int) 8) ||| BitVec.ofInt 64 (c : Int)).toNat = x * 256 + c := by
    rw [BitVec.toNat_or]
    have a1 : (BitVec.ofInt 64 (ishl .i64 (x : Int) 8)).toNat = 2 ^ 8 * x := by
      have : BitVec.ofInt 64 (ishl .i64 (x : Int) 8) = BitVec.ofInt 64 ((x : Int) * 256) := by
        unfold ishl
        rw [e0]
        apply BitVec.eq_of_toInt_eq
        rw [BitVec.toInt_ofInt, BitVec.toInt_ofInt]
        have hw : ∀ n : Int, Int.bmod (IntKind.wrap .i64 n) (2 ^ 64) = Int.bmod n (2 ^ 64) := fun n => by
          simp only [IntKind.wrap, IntKind.bits, IntKind.signed, Bool.true_and, decide_eq_true_eq]
          split
          · show Int.bmod (n % 18446744073709551616 - 18446744073709551616) 18446744073709551616 = Int.bmod n 18446744073709551616
            simp only [Int.bmod]
            split <;> split <;> omega
          · show Int.bmod (n % 18446744073709551616) 18446744073709551616 = Int.bmod n 18446744073709551616
            simp only [Int.bmod]
            split <;> split <;> omega
        exact hw _
      rw [this]
      simp
      omega
    have a2 : (BitVec.ofInt 64 (c : Int)).toNat = c := by simp; omega
    rw [a1, a2, ← Nat.two_pow_add_eq_or_of_lt (by omega : c < 2 ^ 8)]; omega
  unfold ior
  show IntKind.wrap .i64 ((BitVec.ofInt 64 (ishl .i64 (x : Int) 8) ||| BitVec.ofInt 64 (c : Int)).toNat : Int) = _
  rw [e2]
theorem whole_l0 {b : List Int} (h : byteOk b) (hl : b.length = 12) (K : Int → Option (Int × Bool)) : escrowlaw19_whole_l0 b K 9 (0, 0) = K (IntKind.wrap .i64 (pre b 8)) := by
  have step : ∀ (i : Nat) (m : Nat), i < 8 → escrowlaw19_whole_l0 b K (m + 1) (pre b i, (i : Int)) = escrowlaw19_whole_l0 b K m (IntKind.wrap .i64 (pre b (i + 1)), ((i + 1 : Nat) : Int)) := fun i m hi => by
    have h1 := pre_bound h i
    have h2 := fgetD_byte h i
    have hb : (256 : Int) ^ i ≤ 72057594037927936 := by
      have : i ≤ 7 := by omega
      rcases i with _ | _ | _ | _ | _ | _ | _ | _ | i <;> first | decide | omega
    obtain ⟨x, hx⟩ := Int.eq_ofNat_of_zero_le h1.1
    obtain ⟨c, hc⟩ := Int.eq_ofNat_of_zero_le h2.1
    rw [escrowlaw19_whole_l0, if_pos (by simp only [decide_eq_true_eq]; omega), if_pos (by omega), Int.toNat_natCast, hc, wrap_i64 (n := (c : Int)) (by omega) (by omega), hx, ior_byteS x c (by omega) (by omega), bnd_eq, bnd_eq, wrap_i64 (n := (i : Int) + 1) (by omega) (by omega), show ((i : Int) + 1) = ((i + 1 : Nat) : Int) by omega]
    have : ((x * 256 + c : Nat) : Int) = pre b (i + 1) := by simp only [pre, hx, hc]; omega
    rw [this]
  have small : ∀ i : Nat, i ≤ 7 → IntKind.wrap .i64 (pre b i) = pre b i := fun i hi => by
    have h1 := pre_bound h i
    have hb : (256 : Int) ^ i ≤ 72057594037927936 := by
      rcases i with _ | _ | _ | _ | _ | _ | _ | _ | i <;> first | decide | omega
    exact wrap_i64 (by omega) (by omega)
  have s0 := step 0 8 (by omega)
  have s1 := step 1 7 (by omega)
  have s2 := step 2 6 (by omega)
  have s3 := step 3 5 (by omega)
  have s4 := step 4 4 (by omega)
  have s5 := step 5 3 (by omega)
  have s6 := step 6 2 (by omega)
  have s7 := step 7 1 (by omega)
  rw [small 1 (by omega)] at s0
  rw [small 2 (by omega)] at s1
  rw [small 3 (by omega)] at s2
  rw [small 4 (by omega)] at s3
  rw [small 5 (by omega)] at s4
  rw [small 6 (by omega)] at s5
  rw [small 7 (by omega)] at s6
  have e8 : escrowlaw19_whole_l0 b K 1 (IntKind.wrap .i64 (pre b 8), ((8 : Nat) : Int)) = K (IntKind.wrap .i64 (pre b 8)) := by
    rw [escrowlaw19_whole_l0, if_neg (by simp)]
  exact s0.trans (s1.trans (s2.trans (s3.trans (s4.trans (s5.trans (s6.trans (s7.trans e8)))))))
theorem whole_eq {b : List Int} {k : Nat} (hb : byteOk b) (hk : k < 2) (hl : b.length = 128) : escrowlaw19_whole b (k : Int) = some (rdV (b.drop (64 * k)), rdW (b.drop (64 * k))) := by
  have e1 : IntKind.wrap .i64 (64 * (k : Int)) = ((64 * k : Nat) : Int) := by rw [wrap_i64 (by omega) (by omega)]; omega
  have e2 : IntKind.wrap .i64 (((64 * k : Nat) : Int) + 12) = ((64 * k + 12 : Nat) : Int) := by rw [wrap_i64 (by omega) (by omega)]; omega
  have es : List.drop (64 * k) (List.take (64 * k + 12) b) = (b.drop (64 * k)).take 12 := by rw [List.drop_take]; congr 1; omega
  have hs : byteOk ((b.drop (64 * k)).take 12) := fun x hx => hb x (List.mem_of_mem_drop (List.mem_of_mem_take hx))
  have hsl : ((b.drop (64 * k)).take 12).length = 12 := by rw [List.length_take, List.length_drop]; omega
  have hrv : IntKind.wrap .i64 (pre ((b.drop (64 * k)).take 12) 8) = rdV (b.drop (64 * k)) := by unfold rdV; rw [pre_take (by omega)]
  unfold escrowlaw19_whole
  simp only [e1, e2, Int.toNat_natCast, bnd_eq, es]
  rw [if_neg (by simp only [decide_eq_true_eq]; omega), if_pos (by omega)]
  refine (whole_l0 hs hsl _).trans ?_
  simp only [hrv, eslot_eq, Option.bind_some]
  unfold rdW
  have hR : (decide (rdV (b.drop (64 * k)) ≥ -1) && decide (rdV (b.drop (64 * k)) < 281474976710656)) = isR (rdV (b.drop (64 * k))) := by
    unfold isR
    congr 1
    rw [decide_eq_decide]
    omega
  rw [hR]
  cases isR (rdV (b.drop (64 * k))) with
  | true => rw [if_pos rfl, if_pos (by rw [slotB_len]; omega)]; rfl
  | false => rw [if_neg (by decide)]; rfl

theorem least_eq {a m : Int} (hm : 0 < m) (hm2 : m < 1000) : ∃ k : Nat, escrowlaw19_least a m = some (k : Int) ∧ (k : Int) < m := by
  unfold escrowlaw19_least
  rw [if_pos (by omega)]
  simp only [bnd_eq]
  have h1 : -m < Int.tmod a m ∧ Int.tmod a m < m := by
    have h2 := Int.tmod_lt_of_pos a hm
    have h3 : -m < Int.tmod a m := by
      have := Int.lt_tmod_of_pos a hm
      omega
    exact ⟨h3, h2⟩
  by_cases hc : Int.tmod a m < 0
  · rw [if_pos (by simpa using hc), wrap_i64 (by omega) (by omega)]
    exact ⟨(Int.tmod a m + m).toNat, by rw [Int.toNat_of_nonneg (by omega)], by omega⟩
  · rw [if_neg (by simpa using hc)]
    exact ⟨(Int.tmod a m).toNat, by rw [Int.toNat_of_nonneg (by omega)], by omega⟩
end Sx
namespace Sx
open Go

theorem shead_eq : escrowlaw19_head = some true := by decide +kernel
abbrev TaleS := (Int × MarkS) × Int × List Int × Unit
def nOne : List Int := [111, 110, 101]
def nTwo : List Int := [116, 119, 111]
def Tried (T : TaleS) (v : Int) : Prop := v ∈ T.2.2.1 ∨ v = -1
structure Unf (T : TaleS) (x : List Int) : Prop where
  lo : rdW x = true → Tried T (rdV x)
  hi : rdW (x.drop 64) = true → Tried T (rdV (x.drop 64))
def Here (T : TaleS) (nm : List Int) (f : FileS) : Prop := ∃ (x : List Int) (v : Int) (nx : Nat), x.length = 128 ∧ byteOk x ∧ pick x = some (v, (nx : Int)) ∧ nx < 2 ∧ T.2.1 ≤ v ∧ Unf T x ∧ (T.1.1 = 0 → T.1.2 = ((), nm, v, (nx : Int), ())) ∧
  (f = (x, x, []) ∨ ∃ n ds, f = (over x (64 * nx) (slotB n), x, ds) ∧ (∀ s : Int, s ∈ ds ↔ s = nx) ∧ v < n ∧ isR n = true ∧ n ∈ T.2.2.1)
structure FInv (T : TaleS) (nm : List Int) (fs : List (List Int × FileS)) : Prop where
  gone : pget .str nm fs = none → T.1.1 ≠ 0 ∧ T.2.1 = -1
  here : ∀ f, pget .str nm fs = some f → Here T nm f
theorem FInv.same {T : TaleS} {nm : List Int} {fs fs' : List (List Int × FileS)} (h : FInv T nm fs) (e : pget .str nm fs' = pget .str nm fs) : FInv T nm fs' := ⟨fun g => h.gone (e ▸ g), fun f g => h.here f (e ▸ g)⟩
theorem Unf.tried {T T' : TaleS} {x : List Int} (h : Unf T x) (ht : ∀ t ∈ T.2.2.1, t ∈ T'.2.2.1) : Unf T' x := ⟨fun g => (h.lo g).imp (ht _) id, fun g => (h.hi g).imp (ht _) id⟩
theorem unf_pick {T : TaleS} {x : List Int} {v nx : Int} (h : Unf T x) (hp : pick x = some (v, nx)) : Tried T v := by
  rcases pick_cases hp with ⟨_, h1, h2, _⟩ | ⟨_, h1, h2, _⟩
  · rw [← h2]; exact h.hi h1
  · rw [← h2]; exact h.lo h1
theorem unf_over {T : TaleS} {x : List Int} {n : Int} {nx : Nat} (h : Unf T x) (hx : x.length = 128) (hnx : nx < 2) (hr : isR n = true) (hn : n ∈ T.2.2.1) : Unf T (over x (64 * nx) (slotB n)) := by
  obtain ⟨_, f0, f1⟩ := over_facts hx hnx n
  obtain ⟨s1, _⟩ := slot_rd hr
  have h01 : nx = 0 ∨ nx = 1 := by omega
  rcases h01 with h0 | h0
  · obtain ⟨g1, g2, g3⟩ := f0 h0
    exact ⟨fun _ => by rw [g2, s1]; exact .inl hn, fun g => by rw [g1] at g ⊢; exact h.hi g⟩
  · obtain ⟨g1, g2, g3⟩ := f1 h0
    exact ⟨fun g => by rw [g3] at g; rw [g2]; exact h.lo g, fun _ => by rw [g1, s1]; exact .inl hn⟩
theorem over_byte {x : List Int} {nx : Nat} (hb : byteOk x) (n : Int) : byteOk (over x (64 * nx) (slotB n)) := over_bytes hb (slotB_byte n)
/-- what a file tells that is opened -/
theorem here_pick {T : TaleS} {nm : List Int} {f : FileS} (h : Here T nm f) : ∃ (v : Int) (nx : Nat), f.1.length = 128 ∧ byteOk f.1 ∧ pick f.1 = some (v, (nx : Int)) ∧ nx < 2 ∧ T.2.1 ≤ v ∧ Unf T f.1 := by
  obtain ⟨x, v, nx, hl, hb, hp, hn, ha, hu, _, hs⟩ := h
  rcases hs with rfl | ⟨n, ds, rfl, _, hv, hr, ht⟩
  · exact ⟨v, nx, hl, hb, hp, hn, ha, hu⟩
  · refine ⟨n, 1 - nx, (over_facts hl hn n).1, over_byte hb n, ?_, by omega, by omega, unf_over hu hl hn hr ht⟩
    rw [pick_over hl hn hp hv hr]
    congr 2
    omega
theorem here_clean {T : TaleS} {nm : List Int} {y : List Int} {v : Int} {nx : Nat} (hl : y.length = 128) (hb : byteOk y) (hp : pick y = some (v, (nx : Int))) (hn : nx < 2) (ha : T.2.1 ≤ v) (hu : Unf T y) (hm : T.1.1 = 0 → T.1.2 = ((), nm, v, (nx : Int), ())) : Here T nm (y, y, []) :=
  ⟨y, v, nx, hl, hb, hp, hn, ha, hu, hm, .inl rfl⟩
/-- the same where the mark is let go, or more was tried -/
theorem here_to {T T' : TaleS} {nm : List Int} {f : FileS} (h : Here T nm f) (ha : T'.2.1 = T.2.1) (ht : ∀ t ∈ T.2.2.1, t ∈ T'.2.2.1) (hm : T'.1.1 = 0 → T'.1 = T.1) : Here T' nm f := by
  obtain ⟨x, v, nx, hl, hb, hp, hn, hk, hu, hmm, hs⟩ := h
  refine ⟨x, v, nx, hl, hb, hp, hn, by rw [ha]; exact hk, hu.tried ht, fun h0 => ?_, hs.imp id fun ⟨n, ds, h1, h2, h3, h4, h5⟩ => ⟨n, ds, h1, h2, h3, h4, ht _ h5⟩⟩
  have := hm h0
  rw [this] at h0 ⊢
  exact hmm h0

/-! ### the tale's own functions -/
theorem tried_l0 (T : TaleS) (v : Int) (hl : T.2.2.1.length < 4611686018427387904) (k : Unit → Option Bool) (hk : k () = some (v == -1)) : ∀ (j i : Nat), i + j = T.2.2.1.length → escrowlaw19_Tale_tried_l0 T v k (j + 1) (i : Int) = some (decide (v ∈ T.2.2.1.drop i) || v == -1)
  | 0, i, h => by
    unfold escrowlaw19_Tale_tried_l0
    rw [if_neg (by simp only [decide_eq_true_eq]; omega), hk, List.drop_eq_nil_of_le (by omega)]
    simp
  | j + 1, i, h => by
    have hi : i < T.2.2.1.length := by omega
    have ew : IntKind.wrap .i64 ((i : Int) + 1) = ((i + 1 : Nat) : Int) := wrap_i64 (by omega) (by omega)
    have ih := tried_l0 T v hl k hk j (i + 1) (by omega)
    have hd : T.2.2.1.drop i = T.2.2.1[i] :: T.2.2.1.drop (i + 1) := List.drop_eq_getElem_cons hi
    have hg : List.getD T.2.2.1 i 0 = T.2.2.1[i] := by rw [List.getD_eq_getElem?_getD, List.getElem?_eq_getElem hi, Option.getD_some]
    unfold escrowlaw19_Tale_tried_l0
    simp only [bnd_eq, ew, Int.toNat_natCast, hg]
    rw [if_pos (by simp only [decide_eq_true_eq]; omega), if_pos (by omega), ih, hd]
    by_cases hc : T.2.2.1[i] = v
    · rw [if_pos (by simpa using hc)]
      simp [hc]
    · rw [if_neg (by simpa using hc)]
      have e : decide (v ∈ T.2.2.1[i] :: T.2.2.1.drop (i + 1)) = decide (v ∈ T.2.2.1.drop (i + 1)) := by
        rw [decide_eq_decide, List.mem_cons]
        exact ⟨fun h => h.resolve_left fun h => hc h.symm, .inr⟩
      rw [e]
theorem tried_eq (T : TaleS) (v : Int) (D : DiskS) (hl : T.2.2.1.length < 4611686018427387904) : ∃ b, escrowlaw19_Tale_tried T v D = some b ∧ (b = true → Tried T v) := by
  have ef : Int.toNat ((T.2.2.1.length : Int) - 0) + 1 = T.2.2.1.length + 1 := by omega
  refine ⟨decide (v ∈ T.2.2.1.drop 0) || v == -1, ?_, fun h => ?_⟩
  · unfold escrowlaw19_Tale_tried
    simp only [bnd_eq]
    rw [ef]
    exact tried_l0 T v hl _ rfl _ 0 (by omega)
  · simp only [List.drop_zero, Bool.or_eq_true, decide_eq_true_eq, beq_iff_eq] at h
    exact h
theorem most_l0 (T : TaleS) (hl : T.2.2.1.length < 4611686018427387904) (k : Int → Option Int) : ∀ (j i : Nat) (m : Int), i + j = T.2.2.1.length → ∃ m', m ≤ m' ∧ (∀ t ∈ T.2.2.1.drop i, t ≤ m') ∧ escrowlaw19_Tale_most_l0 T k (j + 1) (m, (i : Int)) = k m'
  | 0, i, m, h => by
    refine ⟨m, Int.le_refl _, fun t ht => ?_, ?_⟩
    · rw [List.drop_eq_nil_of_le (by omega)] at ht; cases ht
    · unfold escrowlaw19_Tale_most_l0
      rw [if_neg (by simp only [decide_eq_true_eq]; omega)]
  | j + 1, i, m, h => by
    have hi : i < T.2.2.1.length := by omega
    have ew : IntKind.wrap .i64 ((i : Int) + 1) = ((i + 1 : Nat) : Int) := wrap_i64 (by omega) (by omega)
    have hd : T.2.2.1.drop i = T.2.2.1[i] :: T.2.2.1.drop (i + 1) := List.drop_eq_getElem_cons hi
    have hg : List.getD T.2.2.1 i 0 = T.2.2.1[i] := by rw [List.getD_eq_getElem?_getD, List.getElem?_eq_getElem hi, Option.getD_some]
    by_cases hc : T.2.2.1[i] > m
    · obtain ⟨m', h1, h2, h3⟩ := most_l0 T hl k j (i + 1) T.2.2.1[i] (by omega)
      refine ⟨m', by omega, fun t ht => ?_, ?_⟩
      · rw [hd] at ht
        rcases List.mem_cons.1 ht with rfl | ht
        · exact h1
        · exact h2 t ht
      · unfold escrowlaw19_Tale_most_l0
        simp only [bnd_eq, ew, Int.toNat_natCast, hg]
        rw [if_pos (by simp only [decide_eq_true_eq]; omega), if_pos (by omega), if_pos (by simpa using hc), if_pos (by omega)]
        exact h3
    · obtain ⟨m', h1, h2, h3⟩ := most_l0 T hl k j (i + 1) m (by omega)
      refine ⟨m', h1, fun t ht => ?_, ?_⟩
      · rw [hd] at ht
        rcases List.mem_cons.1 ht with rfl | ht
        · omega
        · exact h2 t ht
      · unfold escrowlaw19_Tale_most_l0
        simp only [bnd_eq, ew, Int.toNat_natCast, hg]
        rw [if_pos (by simp only [decide_eq_true_eq]; omega), if_pos (by omega), if_neg (by simpa using hc)]
        exact h3
theorem most_eq (T : TaleS) (D : DiskS) (hl : T.2.2.1.length < 4611686018427387904) : ∃ m, escrowlaw19_Tale_most T D = some m ∧ ∀ v, Tried T v → v ≤ m := by
  have ef : Int.toNat ((T.2.2.1.length : Int) - 0) + 1 = T.2.2.1.length + 1 := by omega
  obtain ⟨m', h1, h2, h3⟩ := most_l0 T hl (fun o => some o) _ 0 (-1) (Nat.zero_add _)
  refine ⟨m', ?_, fun v hv => ?_⟩
  · unfold escrowlaw19_Tale_most
    simp only [bnd_eq]
    rw [ef]
    exact h3
  · rcases hv with hv | rfl
    · exact h2 v (by rw [List.drop_zero]; exact hv)
    · exact h1
theorem forged_eq {T : TaleS} {D : DiskS} {nm : List Int} (hl : T.2.2.1.length < 4611686018427387904) (hok : FsOk D.2.1) (ho : D.2.2.2.2.2.1 = false) (h128 : ∀ f, pget .str nm D.2.1 = some f → f.1.length = 128) : ∃ b, escrowlaw19_Tale_forged T D nm = some b ∧ (b = false → ∀ f, pget .str nm D.2.1 = some f → Unf T f.1) := by
  cases hg : pget .str nm D.2.1 with
  | none =>
    have hrd : disk_Disk_Read D nm 0 128 = some ([], 5) := by unfold disk_Disk_Read; rw [found_eq nm ho, hg]; rfl
    refine ⟨false, ?_, fun _ f hf => by cases hf⟩
    unfold escrowlaw19_Tale_forged
    rw [hrd, Option.bind_some, if_pos (by decide)]
  | some f =>
    have hf := h128 f hg
    have hb := (hok.get hg).1
    have hrd : disk_Disk_Read D nm 0 128 = some (f.1, 0) := by
      rw [Read_at hok ho hg (by omega) (by omega) (by omega)]
      show some (List.take 128 (List.drop 0 f.1), (0 : Int)) = _
      rw [List.drop_zero, List.take_of_length_le (by omega)]
    have w0 : escrowlaw19_whole f.1 0 = some (rdV f.1, rdW f.1) := whole_eq (k := 0) hb (by omega) hf
    have w1 : escrowlaw19_whole f.1 1 = some (rdV (f.1.drop 64), rdW (f.1.drop 64)) := by
      have := whole_eq (b := f.1) (k := 1) hb (by omega) hf
      rw [Nat.mul_one] at this
      exact this
    obtain ⟨b0, t0, q0⟩ := tried_eq T (rdV f.1) D hl
    obtain ⟨b1, t1, q1⟩ := tried_eq T (rdV (f.1.drop 64)) D hl
    have e1 : IntKind.wrap .i64 ((0 : Int) + 1) = 1 := by decide
    have e2 : IntKind.wrap .i64 ((1 : Int) + 1) = 2 := by decide
    have last : escrowlaw19_Tale_forged_l0 T D (f.1, 0) (fun _ => some false) 1 2 = some false := by
      rw [escrowlaw19_Tale_forged_l0, if_neg (by decide)]
    have second : escrowlaw19_Tale_forged_l0 T D (f.1, 0) (fun _ => some false) 2 1 = some (rdW (f.1.drop 64) && !b1) := by
      rw [escrowlaw19_Tale_forged_l0, if_pos (by decide)]
      simp only [w1, Option.bind_some, bnd_eq, e2, last, t1]
      cases rdW (f.1.drop 64) <;> cases b1 <;> rfl
    refine ⟨(rdW f.1 && !b0) || (rdW (f.1.drop 64) && !b1), ?_, fun hfalse f' hf' => ?_⟩
    · unfold escrowlaw19_Tale_forged
      rw [hrd, Option.bind_some, if_neg (by simp), bnd_eq]
      show escrowlaw19_Tale_forged_l0 T D (f.1, 0) (fun _ => some false) 3 0 = _
      rw [escrowlaw19_Tale_forged_l0, if_pos (by decide)]
      simp only [w0, Option.bind_some, bnd_eq, e1, second, t0]
      cases rdW f.1 <;> cases b0 <;> simp
    · obtain rfl := Option.some.inj hf'
      simp only [Bool.or_eq_false_iff, Bool.and_eq_false_iff, Bool.not_eq_false'] at hfalse
      refine ⟨fun h => q0 ?_, fun h => q1 ?_⟩
      · rcases hfalse.1 with h' | h'
        · rw [h] at h'; cases h'
        · exact h'
      · rcases hfalse.2 with h' | h'
        · rw [h] at h'; cases h'
        · exact h'
end Sx
namespace Sx
open Go
theorem Arm_eq (D : DiskS) (n w : Int) : disk_Disk_Arm D n w = some (D.1, D.2.1, if n < 1 ∨ w < 0 ∨ w > 2 then 0 else n, w, D.2.2.2.2.1, D.2.2.2.2.2.1, D.2.2.2.2.2.2) := by
  unfold disk_Disk_Arm
  simp only [bnd_eq]
  by_cases h : n < 1 ∨ w < 0 ∨ w > 2
  · rw [if_pos (by simp only [Bool.or_eq_true, decide_eq_true_eq]; omega), if_pos h]
  · rw [if_neg (by simp only [Bool.or_eq_true, decide_eq_true_eq]; omega), if_neg h]
end Sx
namespace Sx
open Go

theorem S2_len : (slotB (-1) ++ slotB (-1)).length = 128 := by simp [slotB_len]
theorem S2_byte : byteOk (slotB (-1) ++ slotB (-1)) := byteOk_app2 (slotB_byte _) (slotB_byte _)
end Sx
namespace Sx
open Go

theorem Write_dark {D : DiskS} (name text : List Int) (at0 : Int) (ho : D.2.2.2.2.2.1 = true) : disk_Disk_Write D name at0 text = some (9, D) := by
  unfold disk_Disk_Write
  rw [if_pos ho]
theorem over_over {x s t : List Int} {i : Nat} (hx : i + s.length ≤ x.length) (hst : s.length = t.length) : over (over x i s) i t = over x i t := by
  have h1 : (List.take i x).length = i := by rw [List.length_take]; omega
  have e : over x i s = List.take i x ++ (s ++ List.drop (i + s.length) x) := by unfold over; rw [List.append_assoc]
  have h2 : List.take i (over x i s) = List.take i x := by rw [e, List.take_left' h1]
  have h3 : List.drop (i + t.length) (over x i s) = List.drop (i + t.length) x := by
    rw [e, ← List.append_assoc, List.drop_left' (by rw [List.length_append, h1, hst]), hst]
  show List.take i (over x i s) ++ t ++ List.drop (i + t.length) (over x i s) = _
  rw [h2, h3]
  rfl
theorem seen_get {fs : List (List Int × FileS)} {nm : List Int} {f : FileS} (h : pget .str nm fs = some f) : seenOf fs nm = f.1 ∧ safeOf fs nm = f.2.1 ∧ dirtyOf fs nm = f.2.2 := by
  unfold seenOf safeOf dirtyOf
  rw [h]
  exact ⟨rfl, rfl, rfl⟩
theorem isR_iff (n : Int) : (decide (n ≥ -1) && decide (n < 281474976710656)) = isR n := by
  unfold isR
  rw [Bool.eq_iff_iff]
  simp only [Bool.and_eq_true, decide_eq_true_eq]
  omega
/-- the mark, where it is held: its file -/
theorem FInv.held {T : TaleS} {nm : List Int} {fs : List (List Int × FileS)} (h : FInv T nm fs) (h0 : T.1.1 = 0) : ∃ f, pget .str nm fs = some f ∧ Here T nm f := by
  cases hg : pget .str nm fs with
  | none => exact absurd h0 (h.gone hg).1
  | some f => exact ⟨f, rfl, h.here f hg⟩
theorem FInv.of {T : TaleS} {nm : List Int} {fs : List (List Int × FileS)} {f : FileS} (hg : pget .str nm fs = some f) (h : Here T nm f) : FInv T nm fs := ⟨fun g => (by rw [hg] at g; cases g), fun f' g => by rw [hg] at g; exact Option.some.inj g ▸ h⟩
def tried1 (T : TaleS) (n : Int) : TaleS := (T.1, T.2.1, T.2.2.1 ++ [n], ())
theorem FInv.try1 {T : TaleS} {nm : List Int} {fs : List (List Int × FileS)} (h : FInv T nm fs) (n : Int) : FInv (tried1 T n) nm fs :=
  ⟨h.gone, fun f hf => here_to (h.here f hf) rfl (fun t ht => List.mem_append_left _ ht) (fun h0 => rfl)⟩

/-- a Raise that rises, on a disk that may refuse -/
theorem raise_step {T : TaleS} {D : DiskS} {nm : List Int} {n : Int} (hD : DInv D) (hf : FInv T nm D.2.1) (hnm : nm ∈ four) (h0 : T.1.1 = 0) (hr : isR n = true) (hn : n ∈ T.2.2.1) (hv : T.1.2.2.2.1 < n) :
    ∃ e m' D', mark_Mark_Raise T.1.2 n D = some (e, m', D') ∧ DInv D' ∧ (∀ b, nm ≠ b → pget .str b D'.2.1 = pget .str b D.2.1) ∧ e ≠ 1 ∧ e ≠ 190 ∧ (e ≠ 0 → m' = T.1.2 ∧ FInv T nm D'.2.1) ∧ (e = 0 → m'.2.2.1 = n ∧ FInv ((0, m'), n, T.2.2.1, ()) nm D'.2.1) := by
  obtain ⟨f, hg, x, v, nx, hl, hb, hp, hnx, ha, hu, hm, hs⟩ := hf.held h0
  have hm0 := hm h0
  rw [hm0] at hv ⊢
  have hsl := slotB_len n
  have hfl : f.1.length = 128 ∧ f.2.1 = x ∧ byteOk f.1 ∧ over f.1 (64 * nx) (slotB n) = over x (64 * nx) (slotB n) ∧ ∀ s ∈ f.2.2, s = (nx : Int) := by
    rcases hs with rfl | ⟨n', ds, rfl, hds, h1, h2, h3⟩
    · exact ⟨hl, rfl, hb, rfl, fun s hs => by cases hs⟩
    · exact ⟨(over_facts hl hnx n').1, rfl, over_byte hb n', over_over (by rw [slotB_len]; omega) (by rw [slotB_len, slotB_len]), fun s hs => (hds s).1 hs⟩
  obtain ⟨hf1, hf2, hf3, hf4, hf5⟩ := hfl
  obtain ⟨hs1, hs2, hs3⟩ := seen_get hg
  have hov : Here T nm (over x (64 * nx) (slotB n), x, [(nx : Int)]) := ⟨x, v, nx, hl, hb, hp, hnx, ha, hu, hm, .inr ⟨n, [(nx : Int)], rfl, fun s => by simp, hv, hr, hn⟩⟩
  rw [Raise_eq _ _ _ (by simp only; omega), hr, if_neg (by decide), if_neg (by simp only; simp only at hv; omega)]
  simp only
  cases ho : D.2.2.2.2.2.1 with
  | true =>
    rw [Write_dark _ _ _ ho]
    simp only [Option.bind_some]
    rw [if_pos (by decide)]
    exact ⟨9, _, D, rfl, hD, fun _ _ => rfl, by decide, by decide, fun _ => ⟨rfl, hf⟩, fun h => by cases h⟩
  | false =>
    obtain ⟨e, D1, w1, w2, w3, w4, w5, w6, _, w8⟩ := inv_write (name := nm) (text := slotB n) (at0 := 64 * nx) hD ho hnm (slotB_byte n) (by rw [hs1]; omega) (by omega)
    have e64 : (64 * (nx : Int)) = ((64 * nx : Nat) : Int) := by omega
    rw [e64, w1]
    simp only [Option.bind_some]
    by_cases he : e = 0
    · subst he
      rw [if_neg (by decide)]
      obtain ⟨⟨ds, g1, g2⟩, g3⟩ := w8 rfl
      rw [hs1, hs2, hf4, hf2] at g1
      rw [hs3] at g2
      have hds : ∀ s : Int, s ∈ ds ↔ s = (nx : Int) := fun s => by
        rw [g2 s]
        constructor
        · rintro (h | h)
          · exact hf5 s h
          · have := h.2; rw [hsl] at this; omega
        · rintro rfl
          refine .inr ⟨fun h => ?_, by omega, by rw [hsl]; omega⟩
          rw [h] at hsl; cases hsl
      have hH1 : Here T nm (over x (64 * nx) (slotB n), x, ds) := ⟨x, v, nx, hl, hb, hp, hnx, ha, hu, hm, .inr ⟨n, ds, rfl, hds, hv, hr, hn⟩⟩
      have hF1 : FInv T nm D1.2.1 := .of g1 hH1
      have ho1 : D1.2.2.2.2.2.1 = false := w5 (by decide)
      obtain ⟨e2, D2, s1, s2, s3, s4, s5, s6, _, s8⟩ := inv_sync w2 ho1 g1
      rw [s1]
      simp only [Option.bind_some]
      by_cases he2 : e2 = 0
      · subst he2
        rw [if_neg (by decide)]
        obtain ⟨k1, k2⟩ := s8 rfl
        simp only at k1
        have hov1 := (over_facts hl hnx n).1
        have e1 : (1 - (nx : Int)) = ((1 - nx : Nat) : Int) := by omega
        refine ⟨0, _, D2, rfl, s2, fun b hb' => (k2 b hb').trans (g3 b hb'), by decide, by decide, fun h => absurd rfl h, fun _ => ⟨rfl, .of k1 ?_⟩⟩
        refine here_clean (v := n) (nx := 1 - nx) hov1 (over_byte hb n) ?_ (by omega) (Int.le_refl _) (unf_over (T := ((0, ((), nm, n, 1 - (nx : Int), ())), n, T.2.2.1, ())) (hu.tried fun t ht => ht) hl hnx hr hn) (fun _ => by rw [e1])
        rw [pick_over hl hnx hp hv hr, e1]
      · rw [if_pos he2]
        refine ⟨e2, _, D2, rfl, s2, fun b hb' => ?_, ?_, ?_, fun _ => ⟨rfl, hF1.same (by rw [s6 he2])⟩, fun h => absurd h he2⟩
        · rw [s6 he2]; exact g3 b hb'
        · rcases s3 with h | h | h <;> omega
        · rcases s3 with h | h | h <;> omega
    · rw [if_pos he]
      refine ⟨e, _, D1, rfl, w2, fun b hb' => by rw [w6 he], ?_, ?_, fun _ => ⟨rfl, hf.same (by rw [w6 he])⟩, fun h => absurd h he⟩
      · rcases w3 with h | h | h <;> omega
      · rcases w3 with h | h | h <;> omega
theorem tale_raises {T : TaleS} {D : DiskS} {nm : List Int} (n : Int) (hD : DInv D) (hf : FInv T nm D.2.1) (hnm : nm ∈ four) (hlen : (T.2.2.1.length + 1) * 8 ≤ 140737488355328) :
    ∃ T' D', escrowlaw19_Tale_raises T n D = some (true, T', D') ∧ DInv D' ∧ FInv T' nm D'.2.1 ∧ (∀ b, nm ≠ b → pget .str b D'.2.1 = pget .str b D.2.1) ∧ T'.2.2.1.length ≤ T.2.2.1.length + 1 := by
  unfold escrowlaw19_Tale_raises
  by_cases h0 : T.1.1 = 0
  · rw [if_neg (by simp [h0]), if_pos h0]
    obtain ⟨f, hg, x, v, nx, hl, hb, hp, hnx, ha, hu, hm, hs⟩ := hf.held h0
    have hval : ∀ (m : MarkS) (D : DiskS), mark_Mark_Value m D = some m.2.2.1 := fun _ _ => rfl
    simp only [hval, Option.bind_some, bnd_eq, isR_iff]
    have hmm := hm h0
    cases hr : isR n with
    | false =>
      rw [if_neg (by decide), Raise_eq _ _ _ (by rw [hmm]; simp only; omega), hr, if_pos rfl]
      simp only [Option.bind_some]
      rw [if_pos (by decide)]
      exact ⟨_, _, by simp, hD, ⟨fun g => (hf.gone g), fun f' g => hf.here f' g⟩, fun _ _ => rfl, Nat.le_succ _⟩
    | true =>
      have hl1 : (List.length T.2.2.1 + List.length [n]) * 8 ≤ 140737488355328 := by simp only [List.length_cons, List.length_nil]; omega
      rw [if_pos rfl, if_pos hl1]
      have hf1 := hf.try1 n
      by_cases hv : n ≤ T.1.2.2.2.1
      · rw [Raise_eq _ _ _ (by rw [hmm]; simp only; omega), hr, if_neg (by decide), if_pos hv]
        simp only [Option.bind_some]
        rw [if_neg (by decide), if_pos (by simpa using hv)]
        exact ⟨(T.1, T.2.1, T.2.2.1 ++ [n], T.2.2.2), D, by simp, hD, ⟨fun g => (hf1.gone g), fun f' g => hf1.here f' g⟩, fun _ _ => rfl, by simp⟩
      · obtain ⟨e, m', D', r1, r2, r3, r4, r5, r6, r7⟩ := raise_step (T := tried1 T n) (n := n) hD hf1 hnm h0 hr (by simp [tried1]) (by simp only [tried1]; omega)
        have r1' : mark_Mark_Raise T.1.2 n D = some (e, m', D') := r1
        rw [r1']
        simp only [Option.bind_some]
        rw [if_neg (by decide), if_neg (by simpa using hv)]
        by_cases he : e = 0
        · subst he
          obtain ⟨q1, q2⟩ := r7 rfl
          rw [if_neg (by decide)]
          refine ⟨((0, m'), n, T.2.2.1 ++ [n], T.2.2.2), D', by rw [q1, h0]; simp, r2, q2, r3, by simp⟩
        · obtain ⟨q1, q2⟩ := r6 he
          rw [if_pos (by simpa using he)]
          have hm2 : m'.2.2.1 = T.1.2.2.2.1 := by rw [q1]; rfl
          refine ⟨((T.1.1, m'), T.2.1, T.2.2.1 ++ [n], T.2.2.2), D', by simp [hm2, r4, r5], r2, ?_, r3, by simp⟩
          rw [q1]
          exact q2
  · rw [if_pos (by simp [h0])]
    exact ⟨_, _, rfl, hD, hf, fun _ _ => rfl, Nat.le_succ _⟩

/-! ### an Open -/
theorem inv_remove {D : DiskS} {name : List Int} (h : DInv D) (ho : D.2.2.2.2.2.1 = false) : ∃ e D', disk_Disk_Remove D name = some (e, D') ∧ (e = 0 ∨ e = 5) ∧ DInv D' ∧ D'.2.2.2.2.2.1 = false ∧ (D'.2.2.1 = D.2.2.1 ∧ D'.2.2.2.2.1 = D.2.2.2.2.1) ∧ pget .str name D'.2.1 = none ∧ ∀ b, name ≠ b → pget .str b D'.2.1 = pget .str b D.2.1 := by
  rw [Remove_eq ho]
  cases hg : pget .str name D.2.1 with
  | none => exact ⟨5, D, rfl, .inr rfl, h, ho, ⟨rfl, rfl⟩, hg, fun _ _ => rfl⟩
  | some f =>
    refine ⟨0, _, rfl, .inl rfl, ⟨h.ok.del name, h.cap, h.both, fun k f' hk => ?_, fun k hk => ?_⟩, ho, ⟨rfl, rfl⟩, pget_del_self (kt := .str) _, fun b hb => get_pdel_ne hb _⟩
    · have hk' : pget .str k (pdel .str name D.2.1) = some f' := hk
      by_cases hkn : name = k
      · subst hkn
        rw [pget_del_self (kt := .str)] at hk'; cases hk'
      · rw [get_pdel_ne hkn] at hk'; exact h.small k f' hk'
    · obtain ⟨q, hq, rfl⟩ := List.mem_map.1 (show k ∈ (pdel .str name D.2.1).map (·.1) from hk)
      exact h.keys _ (List.mem_map.2 ⟨q, pdel_mem hq, rfl⟩)
theorem inv_rename {D : DiskS} {a b : List Int} {f : FileS} (h : DInv D) (ho : D.2.2.2.2.2.1 = false) (hb : b ∈ four) (hf : pget .str a D.2.1 = some f) : ∃ D', disk_Disk_Rename D a b = some (0, D') ∧ DInv D' ∧ D'.2.2.2.2.2.1 = false ∧ (D'.2.2.1 = D.2.2.1 ∧ D'.2.2.2.2.1 = D.2.2.2.2.1) ∧ pget .str b D'.2.1 = some f ∧ ∀ c, a ≠ c → b ≠ c → pget .str c D'.2.1 = pget .str c D.2.1 := by
  have hfo := h.ok.get hf
  refine ⟨_, Rename_eq h.ok ho hf (four_names b hb), ⟨(h.ok.del a).put hfo fun _ => by have := pdel_length_lt hf; have := h.ok.2.2; omega, h.cap, h.both, fun k f' hk => ?_, fun k hk => ?_⟩, ho, ⟨rfl, rfl⟩, get_pput_self _ _ _, fun c h1 h2 => (get_pput_ne h2 _ _).trans (get_pdel_ne h1 _)⟩
  · have hk' : pget .str k (pput .str b f (pdel .str a D.2.1)) = some f' := hk
    by_cases hkb : b = k
    · subst hkb
      rw [get_pput_self] at hk'
      obtain rfl := Option.some.inj hk'
      exact h.small a f hf
    · rw [get_pput_ne hkb] at hk'
      by_cases hka : a = k
      · subst hka
        rw [pget_del_self (kt := .str)] at hk'; cases hk'
      · rw [get_pdel_ne hka] at hk'; exact h.small k f' hk'
  · have := (pins_keys_perm _ _).mem_iff.1 (show k ∈ (pput .str b f (pdel .str a D.2.1)).map (·.1) from hk)
    rcases List.mem_cons.1 this with rfl | h3
    · exact hb
    · obtain ⟨q, hq, rfl⟩ := List.mem_map.1 h3
      exact h.keys _ (List.mem_map.2 ⟨q, pdel_mem (pdel_mem hq), rfl⟩)
theorem pick_S2 : pick (slotB (-1) ++ slotB (-1)) = some (-1, ((1 : Nat) : Int)) ∧ rdV (slotB (-1) ++ slotB (-1)) = -1 ∧ rdV ((slotB (-1) ++ slotB (-1)).drop 64) = -1 := by
  have hr : isR (-1) = true := by decide
  obtain ⟨a1, a2⟩ := rw_slot hr (slotB (-1))
  obtain ⟨b1, b2⟩ := rw_slot hr []
  rw [List.append_nil] at b1 b2
  have hd : (slotB (-1) ++ slotB (-1)).drop 64 = slotB (-1) := by rw [List.drop_append_of_le_length (by rw [slotB_len]; omega), List.drop_eq_nil_of_le (by rw [slotB_len]; omega), List.nil_append]
  refine ⟨?_, a1, by rw [hd]; exact b1⟩
  unfold pick
  rw [hd, a1, a2, b1, b2, if_neg (by simp), if_neg (by simp)]
  rfl
/-- a disk that refuses nothing any more -/
def Calm (D : DiskS) : Prop := D.2.2.1 = 0 ∧ D.2.2.2.2.1 = 0
structure Opened (T : TaleS) (D : DiskS) (nm : List Int) (p : Int × MarkS) (e : Int) (D' : DiskS) : Prop where
  inv : DInv D'
  others : ∀ b, nm ≠ b → tmpOf nm ≠ b → pget .str b D'.2.1 = pget .str b D.2.1
  err : (p.1 = 0 ∧ e = 0) ∨ (p.1 = 1 ∧ e ≠ 0 ∧ e ≠ 190 ∧ e ≠ 1)
  none : p.1 = 1 → FInv (p, T.2.1, T.2.2.1, ()) nm D'.2.1
  some : p.1 = 0 → T.2.1 ≤ p.2.2.2.1 ∧ Tried T p.2.2.2.1 ∧ FInv (p, p.2.2.2.1, T.2.2.1, ()) nm D'.2.1
  calm : D.2.2.2.2.2.1 = false → Calm D → p.1 = 0 ∧ D'.2.2.2.2.2.1 = false ∧ Calm D'
theorem err_of {e : Int} (h : e = 0 ∨ e = 9 ∨ e = 40) (he : e ≠ 0) : e ≠ 0 ∧ e ≠ 190 ∧ e ≠ 1 := by rcases h with h | h | h <;> omega
theorem open_step {T : TaleS} {D : DiskS} {nm : List Int} (hD : DInv D) (hf : FInv T nm D.2.1) (hnm : nm = nOne ∨ nm = nTwo) : ∃ p e D', mark_Open D nm = some (p, e, D') ∧ Opened T D nm p e D' := by
  have h4 : nm ∈ four ∧ tmpOf nm ∈ four ∧ nm.length ≤ 1000 ∧ tmpOf nm ≠ nm := by rcases hnm with rfl | rfl <;> decide
  obtain ⟨hn4, ht4, hnl, hne⟩ := h4
  cases ho : D.2.2.2.2.2.1 with
  | true => exact ⟨_, _, _, Open_off ho, hD, fun _ _ _ => rfl, .inr ⟨rfl, by decide, by decide, by decide⟩, fun _ => ⟨fun g => ⟨(by show (1 : Int) ≠ 0; decide), (hf.gone g).2⟩, fun f g => here_to (T := T) (hf.here f g) rfl (fun _ ht => ht) (fun h => by cases h)⟩, (fun h => by cases h), fun h => by cases ho.symm.trans h⟩
  | false =>
    cases hg : pget .str nm D.2.1 with
    | some f =>
      obtain ⟨v, nx, hl, hb, hp, hnx, ha, hu⟩ := here_pick (hf.here f hg)
      obtain ⟨e, D', s1, s2, s3, s4, s5, s6, s7, s8⟩ := inv_sync hD ho hg
      have hop := Open_there hD.ok ho hg hl
      rw [hp] at hop
      simp only [s1, Option.bind_some] at hop
      by_cases he : e = 0
      · subst he
        rw [if_neg (by decide)] at hop
        obtain ⟨k1, k2⟩ := s8 rfl
        refine ⟨_, _, _, hop, s2, fun b hb' _ => k2 b hb', .inl ⟨rfl, rfl⟩, (fun h => by cases h), fun _ => ⟨ha, unf_pick hu hp, .of k1 (here_clean (v := v) (nx := nx) hl hb hp hnx (Int.le_refl _) (hu.tried fun _ ht => ht) (fun _ => rfl))⟩, fun _ hc => ⟨rfl, s5 (by decide), (s7 hc).2⟩⟩
      · rw [if_pos he] at hop
        have hk := s6 he
        refine ⟨_, _, _, hop, s2, fun b hb' _ => by rw [hk], .inr ⟨rfl, err_of s3 he⟩, fun _ => ⟨fun g => ⟨(by show (1 : Int) ≠ 0; decide), (hf.gone (by rw [← hk]; exact g)).2⟩, fun f' g => here_to (T := T) (hf.here f' (by rw [← hk]; exact g)) rfl (fun _ ht => ht) (fun h => by cases h)⟩, (fun h => by cases h), fun _ hc => absurd (s7 hc).1 he⟩
    | none =>
      have ha := (hf.gone hg).2
      have S2l := S2_len
      have S2b := S2_byte
      rw [Open_none ho hg, laid_eq _ _ hnl]
      obtain ⟨e1, D1, r1, r2, r3, r4, r5, r6, r7⟩ := inv_remove (name := tmpOf nm) hD ho
      rw [r1]
      simp only [Option.bind_some]
      rw [if_neg (by rcases r2 with h | h <;> omega)]
      have gn : ∀ {p : Int × MarkS} {D' : DiskS}, p.1 = 1 → pget .str nm D'.2.1 = none → FInv (p, T.2.1, T.2.2.1, ()) nm D'.2.1 := fun hp g => ⟨fun _ => ⟨by show _ ≠ _; rw [hp]; decide, ha⟩, fun f' g' => by rw [g] at g'; cases g'⟩
      have g1 : pget .str nm D1.2.1 = none := (r7 nm hne).trans hg
      have hsn : seenOf D1.2.1 (tmpOf nm) = [] ∧ safeOf D1.2.1 (tmpOf nm) = [] := by unfold seenOf safeOf; rw [r6]; exact ⟨rfl, rfl⟩
      obtain ⟨e2, D2, w1, w2, w3, w4, w5, w6, w7, w8⟩ := inv_write (name := tmpOf nm) (text := slotB (-1) ++ slotB (-1)) (at0 := 0) r3 r4 ht4 S2b (Nat.zero_le _) (by omega)
      have w1' : disk_Disk_Write D1 (tmpOf nm) 0 (slotB (-1) ++ slotB (-1)) = some (e2, D2) := w1
      rw [w1']
      simp only [Option.bind_some]
      by_cases he2 : e2 = 0
      · subst he2
        rw [if_neg (by decide)]
        obtain ⟨⟨ds, k1, _⟩, k2⟩ := w8 rfl
        rw [hsn.1, hsn.2] at k1
        have hov : over [] 0 (slotB (-1) ++ slotB (-1)) = slotB (-1) ++ slotB (-1) := by simp [over]
        rw [hov] at k1
        have g2 : pget .str nm D2.2.1 = none := (k2 nm hne).trans g1
        obtain ⟨e3, D3, s1, s2, s3, s4, s5, s6, s7, s8⟩ := inv_sync w2 (w5 (by decide)) k1
        rw [s1]
        simp only [Option.bind_some]
        by_cases he3 : e3 = 0
        · subst he3
          rw [if_neg (by decide)]
          obtain ⟨j1, j2⟩ := s8 rfl
          obtain ⟨D4, n1, n2, n3, n4, n5, n6⟩ := inv_rename (b := nm) s2 (s5 (by decide)) hn4 j1
          rw [n1]
          simp only [Option.bind_some]
          rw [if_neg (by decide)]
          obtain ⟨p1, p2, p3⟩ := pick_S2
          refine ⟨_, _, _, rfl, n2, fun b hb1 hb2 => ?_, .inl ⟨rfl, rfl⟩, (fun h => by cases h), fun _ => ⟨by rw [ha]; exact Int.le_refl _, .inr rfl, .of n5 (here_clean (v := -1) (nx := 1) S2l S2b p1 (by omega) (Int.le_refl _) ⟨fun _ => .inr p2, fun _ => .inr p3⟩ (fun _ => rfl))⟩, fun _ hc => ⟨rfl, n3, ?_⟩⟩
          · rw [n6 b hb2 hb1, j2 b hb2, k2 b hb2, r7 b hb2]
          · have c1 := (w7 (by rw [r5.1, r5.2]; exact hc)).2
            have c2 := (s7 c1).2
            exact ⟨n4.1.trans c2.1, n4.2.trans c2.2⟩
        · rw [if_pos he3]
          have hk := s6 he3
          refine ⟨_, _, _, rfl, s2, fun b hb1 hb2 => by rw [hk, k2 b hb2, r7 b hb2], .inr ⟨rfl, err_of s3 he3⟩, fun _ => gn rfl (by rw [hk]; exact g2), (fun h => by cases h), fun _ hc => absurd (s7 (w7 (by rw [r5.1, r5.2]; exact hc)).2).1 he3⟩
      · rw [if_pos he2]
        have hk := w6 he2
        refine ⟨_, _, _, rfl, w2, fun b hb1 hb2 => by rw [hk, r7 b hb2], .inr ⟨rfl, err_of w3 he2⟩, fun _ => gn rfl (by rw [hk]; exact g1), (fun h => by cases h), fun _ hc => absurd (w7 (by rw [r5.1, r5.2]; exact hc)).1 he2⟩
theorem tale_opens {T : TaleS} {D : DiskS} {nm : List Int} (hD : DInv D) (hf : FInv T nm D.2.1) (hnm : nm = nOne ∨ nm = nTwo) (hl : T.2.2.1.length < 4611686018427387904) : ∃ T' D', escrowlaw19_Tale_opens T D nm = some (true, T', D') ∧ DInv D' ∧ FInv T' nm D'.2.1 ∧ (∀ b, nm ≠ b → tmpOf nm ≠ b → pget .str b D'.2.1 = pget .str b D.2.1) ∧ T'.2.2.1 = T.2.2.1 ∧
    (D.2.2.2.2.2.1 = false → Calm D → T'.1.1 = 0 ∧ D'.2.2.2.2.2.1 = false ∧ Calm D') := by
  obtain ⟨p, e, D', h1, h2⟩ := open_step hD hf hnm
  unfold escrowlaw19_Tale_opens
  rw [h1]
  have hval : ∀ (m : MarkS) (D : DiskS), mark_Mark_Value m D = some m.2.2.1 := fun _ _ => rfl
  simp only [Option.bind_some, bnd_eq, hval]
  rcases h2.err with ⟨hp, rfl⟩ | ⟨hp, he, he2, he3⟩
  · obtain ⟨q1, q2, q3⟩ := h2.some hp
    obtain ⟨m, m1, m2⟩ := most_eq (p, T.2.1, T.2.2.1, T.2.2.2) D' hl
    rw [if_neg (by simp [hp]), if_neg (by simp [hp]), if_pos hp, if_neg (by simp only [decide_eq_true_eq]; omega), m1]
    simp only [Option.bind_some]
    rw [if_neg (by have := m2 _ q2; simp only [decide_eq_true_eq]; omega)]
    exact ⟨_, _, rfl, h2.inv, q3, h2.others, rfl, fun a b => h2.calm a b⟩
  · rw [if_neg (by simp [hp, he, he2, he3]), if_pos (by simp [hp])]
    exact ⟨_, _, rfl, h2.inv, h2.none hp, h2.others, rfl, fun a b => h2.calm a b⟩

/-! ### a crash -/
theorem ftOf_nil (nm : List Int) (s : Int) : ftOf [] nm s = fate0 := rfl
theorem ext_getD {a b : List Int} (hl : a.length = b.length) (h : ∀ q, q < a.length → a.getD q 0 = b.getD q 0) : a = b := by
  refine List.ext_getElem hl fun q h1 h2 => ?_
  have := h q h1
  rwa [List.getD_eq_getElem?_getD, List.getD_eq_getElem?_getD, List.getElem?_eq_getElem h1, List.getElem?_eq_getElem h2, Option.getD_some, Option.getD_some] at this
theorem over_out {x s : List Int} {i q : Nat} (hi : i + s.length ≤ x.length) (h : q < i ∨ i + s.length ≤ q) : (over x i s).getD q 0 = x.getD q 0 := by
  have h1 : (List.take i x).length = i := by rw [List.length_take]; omega
  unfold over
  rw [List.getD_eq_getElem?_getD, List.getD_eq_getElem?_getD]
  rcases h with h | h
  · rw [List.append_assoc, List.getElem?_append_left (by omega), List.getElem?_take_of_lt h]
  · rw [List.getElem?_append_right (by rw [List.length_append]; omega), List.length_append, h1, List.getElem?_drop]
    congr 2
    omega
theorem crash_file {T : TaleS} {nm : List Int} {f : FileS} {l : List FateS} (hf : FOk f) (h : Here T nm f) (hl : FatesOk l) : ∃ g, disk_file_fall f nm l = some (g, g, []) ∧ g.length = 128 ∧
    (Unf T g → Here ((1, mark0), T.2.1, T.2.2.1, ()) nm (g, g, [])) ∧ (l = [] → Here T nm (g, g, [])) := by
  obtain ⟨x, v, nx, hx, hb, hp, hnx, ha, hu, hm, hs⟩ := h
  rcases hs with rfl | ⟨n, ds, rfl, hds, hv, hr, ht⟩
  · obtain ⟨g, g1, _, _, _, g2⟩ := fall_eq hf nm hl
    obtain rfl := g2 rfl rfl
    exact ⟨x, g1, hx, fun hu' => here_clean hx hb hp hnx ha ⟨hu'.lo, hu'.hi⟩ (fun h => by cases h), fun _ => here_clean hx hb hp hnx ha hu hm⟩
  · obtain ⟨⟨g, g', gd⟩, g1, g2, g3, g4, g5, g6, _, _, g9⟩ := fall_exact hf nm hl
    simp only at g3 g4 g5 g6 g9
    subst g3 g4
    have hsl := slotB_len n
    have hol := (over_facts hx hnx n).1
    have hgl : g'.length = 128 := by omega
    have hgb : byteOk g' := g2.1
    -- outside the sector it is as it was
    have hout : ∀ q, q < 128 → q / 64 ≠ nx → g'.getD q 0 = x.getD q 0 := fun q hq hqn => by
      rw [g9 q (by omega), if_neg (fun hc => hqn (by have := (hds _).1 hc; omega))]
      show (over x (64 * nx) (slotB n)).getD q 0 = _
      exact over_out (by omega) (by omega)
    have hlo : nx = 1 → g'.take 12 = x.take 12 := fun h1 => by
      refine ext_getD (by simp only [List.length_take]; omega) fun q hq => ?_
      rw [List.length_take] at hq
      rw [List.getD_eq_getElem?_getD, List.getD_eq_getElem?_getD, List.getElem?_take_of_lt (by omega), List.getElem?_take_of_lt (by omega), ← List.getD_eq_getElem?_getD, ← List.getD_eq_getElem?_getD]
      exact hout q (by omega) (by omega)
    have hhi : nx = 0 → g'.drop 64 = x.drop 64 := fun h0 => by
      refine ext_getD (by simp only [List.length_drop]; omega) fun q hq => ?_
      rw [List.length_drop] at hq
      rw [List.getD_eq_getElem?_getD, List.getD_eq_getElem?_getD, List.getElem?_drop, List.getElem?_drop, ← List.getD_eq_getElem?_getD, ← List.getD_eq_getElem?_getD]
      exact hout (64 + q) (by omega) (by omega)
    refine ⟨g', g1, hgl, fun hu' => ?_, fun hnil => ?_⟩
    · have hpk : ∃ (v' : Int) (nx' : Nat), pick g' = some (v', (nx' : Int)) ∧ nx' < 2 ∧ v ≤ v' := by
        rcases pick_cases hp with ⟨h0, h1, h2, _⟩ | ⟨h0, h1, h2, _⟩
        · obtain ⟨v', nx', q1, q2, q3, _⟩ := pick_hi (x := g') (v := v) (by rw [hhi (by omega)]; exact h1) (by rw [hhi (by omega)]; exact h2)
          exact ⟨v', nx', q1, q2, q3⟩
        · have hc := rd_congr (hlo (by omega))
          obtain ⟨v', nx', q1, q2, q3, _⟩ := pick_lo (x := g') (v := v) (by rw [hc.2]; exact h1) (by rw [hc.1]; exact h2)
          exact ⟨v', nx', q1, q2, q3⟩
      obtain ⟨v', nx', q1, q2, q3⟩ := hpk
      exact here_clean hgl hgb q1 q2 (by show T.2.1 ≤ v'; omega) ⟨hu'.lo, hu'.hi⟩ (fun h => by cases h)
    · subst hnil
      have hgx : g' = x := by
        refine ext_getD (by omega) fun q hq => ?_
        by_cases hqn : q / 64 = nx
        · rw [g9 q hq, if_pos ((hds _).2 (by omega)), ftOf_nil]
          show (if q < x.length then x.getD q 0 else 0) = _
          rw [if_pos (by omega)]
        · exact hout q (by omega) hqn
      subst hgx
      exact here_clean hx hb hp hnx ha hu hm
theorem crash_inv {D : DiskS} {l : List FateS} (hD : DInv D) (hl : FatesOk l) : ∃ C D', disk_Disk_Crash D l = some C ∧ disk_Disk_On C = some D' ∧ DInv D' ∧ D'.2.2.2.2.2.1 = false ∧ Calm D' ∧ (∀ k, pget .str k D.2.1 = none → pget .str k D'.2.1 = none) ∧ ∀ k f, pget .str k D.2.1 = some f → ∃ g, disk_file_fall f k l = some g ∧ pget .str k D'.2.1 = some g := by
  obtain ⟨fs', c1, c2, c3, c4⟩ := Crash_exact hl hD.ok (fun h => by rw [hD.both]; exact h)
  have hnone : ∀ k, pget .str k D.2.1 = none → pget .str k fs' = none := fun k hk => by
    rw [get_none] at hk ⊢
    rw [c3]; exact hk
  refine ⟨_, _, c1, On_eq' rfl, ⟨c2, hD.cap, rfl, fun k f' hk => ?_, fun k hk => hD.keys k (by rw [← c3]; exact hk)⟩, rfl, ⟨rfl, rfl⟩, hnone, c4⟩
  cases hg : pget .str k D.2.1 with
  | none => rw [show pget .str k fs' = none from hnone k hg] at hk; cases hk
  | some f =>
    obtain ⟨g, e1, e2⟩ := c4 k f hg
    rw [show pget .str k fs' = some g from e2] at hk
    obtain rfl := Option.some.inj hk
    obtain ⟨g', g1, _, _, _, _, g6, _⟩ := fall_exact (hD.ok.get hg) k hl
    rw [e1] at g1
    obtain rfl := Option.some.inj g1
    have := hD.small k f hg
    omega
theorem crash_one {T : TaleS} {D D' : DiskS} {nm : List Int} {l : List FateS} (hD : DInv D) (hl : FatesOk l) (hf : FInv T nm D.2.1) (h0 : ∀ k, pget .str k D.2.1 = none → pget .str k D'.2.1 = none) (h1 : ∀ k f, pget .str k D.2.1 = some f → ∃ g, disk_file_fall f k l = some g ∧ pget .str k D'.2.1 = some g) :
    (∀ f, pget .str nm D'.2.1 = some f → f.1.length = 128) ∧ ((∀ f, pget .str nm D'.2.1 = some f → Unf ((1, mark0), T.2.1, T.2.2.1, ()) f.1) → FInv ((1, mark0), T.2.1, T.2.2.1, ()) nm D'.2.1) ∧ (l = [] → FInv T nm D'.2.1) := by
  cases hg : pget .str nm D.2.1 with
  | none =>
    have hn := h0 nm hg
    refine ⟨fun f hf' => (by rw [hn] at hf'; cases hf'), fun _ => ⟨fun _ => ⟨(by show (1 : Int) ≠ 0; decide), (hf.gone hg).2⟩, fun f hf' => (by rw [hn] at hf'; cases hf')⟩, fun _ => ⟨fun _ => hf.gone hg, fun f hf' => (by rw [hn] at hf'; cases hf')⟩⟩
  | some f =>
    obtain ⟨g, e1, e2⟩ := h1 nm f hg
    obtain ⟨g', g1, g2, g3, g4⟩ := crash_file (hD.ok.get hg) (hf.here f hg) hl
    rw [e1] at g1
    obtain rfl := Option.some.inj g1
    refine ⟨fun f' hf' => by rw [e2] at hf'; obtain rfl := Option.some.inj hf'; exact g2, fun hu => .of e2 (g3 ?_), fun hn => .of e2 (g4 hn)⟩
    have := hu _ e2
    exact ⟨this.lo, this.hi⟩

/-! ### the law -/
structure SInv (i : Nat) (T1 T2 : TaleS) (D : DiskS) : Prop where
  inv : DInv D
  one : FInv T1 nOne D.2.1
  two : FInv T2 nTwo D.2.1
  len1 : T1.2.2.1.length ≤ i
  len2 : T2.2.2.1.length ≤ i
theorem apart_names : nOne ≠ nTwo ∧ tmpOf nOne ≠ nTwo ∧ nTwo ≠ nOne ∧ tmpOf nTwo ≠ nOne ∧ nOne ∈ four ∧ nTwo ∈ four := by decide
theorem SInv.up {i : Nat} {T1 T2 : TaleS} {D : DiskS} (h : SInv i T1 T2 D) : SInv (i + 1) T1 T2 D := ⟨h.inv, h.one, h.two, Nat.le_succ_of_le h.len1, Nat.le_succ_of_le h.len2⟩
theorem s_open1 {i : Nat} {T1 T2 : TaleS} {D : DiskS} (h : SInv i T1 T2 D) (hi : i < 4611686018427387904) : ∃ T' D', escrowlaw19_Tale_opens T1 D [111, 110, 101] = some (true, T', D') ∧ SInv i T' T2 D' ∧ (D.2.2.2.2.2.1 = false → Calm D → T'.1.1 = 0 ∧ D'.2.2.2.2.2.1 = false ∧ Calm D') := by
  obtain ⟨T', D', h1, h2, h3, h4, h5, h6⟩ := tale_opens h.inv h.one (.inl rfl) (Nat.lt_of_le_of_lt h.len1 hi)
  exact ⟨T', D', h1, ⟨h2, h3, h.two.same (h4 _ apart_names.1 apart_names.2.1), by rw [h5]; exact h.len1, h.len2⟩, h6⟩
theorem s_open2 {i : Nat} {T1 T2 : TaleS} {D : DiskS} (h : SInv i T1 T2 D) (hi : i < 4611686018427387904) : ∃ T' D', escrowlaw19_Tale_opens T2 D [116, 119, 111] = some (true, T', D') ∧ SInv i T1 T' D' ∧ (D.2.2.2.2.2.1 = false → Calm D → T'.1.1 = 0 ∧ D'.2.2.2.2.2.1 = false ∧ Calm D') := by
  obtain ⟨T', D', h1, h2, h3, h4, h5, h6⟩ := tale_opens h.inv h.two (.inr rfl) (Nat.lt_of_le_of_lt h.len2 hi)
  exact ⟨T', D', h1, ⟨h2, h.one.same (h4 _ apart_names.2.2.1 apart_names.2.2.2.1), h3, h.len1, by rw [h5]; exact h.len2⟩, h6⟩
theorem s_raise1 {i : Nat} {T1 T2 : TaleS} {D : DiskS} (h : SInv i T1 T2 D) (n : Int) (hi : (i + 1) * 8 ≤ 140737488355328) : ∃ T' D', escrowlaw19_Tale_raises T1 n D = some (true, T', D') ∧ SInv (i + 1) T' T2 D' := by
  obtain ⟨T', D', h1, h2, h3, h4, h5⟩ := tale_raises n h.inv h.one apart_names.2.2.2.2.1 (by have := h.len1; omega)
  exact ⟨T', D', h1, ⟨h2, h3, h.two.same (h4 _ apart_names.1), by have := h.len1; omega, by have := h.len2; omega⟩⟩
theorem s_raise2 {i : Nat} {T1 T2 : TaleS} {D : DiskS} (h : SInv i T1 T2 D) (n : Int) (hi : (i + 1) * 8 ≤ 140737488355328) : ∃ T' D', escrowlaw19_Tale_raises T2 n D = some (true, T', D') ∧ SInv (i + 1) T1 T' D' := by
  obtain ⟨T', D', h1, h2, h3, h4, h5⟩ := tale_raises n h.inv h.two apart_names.2.2.2.2.2 (by have := h.len2; omega)
  exact ⟨T', D', h1, ⟨h2, h.one.same (h4 _ apart_names.2.2.1), h3, by have := h.len1; omega, by have := h.len2; omega⟩⟩
theorem s_arm {i : Nat} {T1 T2 : TaleS} {D : DiskS} (h : SInv i T1 T2 D) (a w fl : Int) : SInv i T1 T2 (D.1, D.2.1, a, w, fl, D.2.2.2.2.2.1, D.2.2.2.2.2.2) := by
  have hb := h.inv.both
  rw [hb]
  exact ⟨h.inv.with a w fl _, h.one, h.two, h.len1, h.len2⟩
theorem s_crash {i : Nat} {T1 T2 : TaleS} {D : DiskS} {l : List FateS} (h : SInv i T1 T2 D) (hl : FatesOk l) (hi : i < 4611686018427387904) : ∃ C D' b1 b2, disk_Disk_Crash D l = some C ∧ disk_Disk_On C = some D' ∧ escrowlaw19_Tale_forged ((1, mark0), T1.2.1, T1.2.2.1, T1.2.2.2) D' [111, 110, 101] = some b1 ∧
    escrowlaw19_Tale_forged ((1, mark0), T2.2.1, T2.2.2.1, T2.2.2.2) D' [116, 119, 111] = some b2 ∧ (b1 = false → b2 = false → SInv i ((1, mark0), T1.2.1, T1.2.2.1, T1.2.2.2) ((1, mark0), T2.2.1, T2.2.2.1, T2.2.2.2) D') ∧ (l = [] → SInv i T1 T2 D' ∧ D'.2.2.2.2.2.1 = false ∧ Calm D') := by
  obtain ⟨C, D', c1, c2, c3, c4, c5, c6, c7⟩ := crash_inv h.inv hl
  obtain ⟨p1, p2, p3⟩ := crash_one h.inv hl h.one c6 c7
  obtain ⟨q1, q2, q3⟩ := crash_one h.inv hl h.two c6 c7
  obtain ⟨b1, f1, g1⟩ := forged_eq (T := ((1, mark0), T1.2.1, T1.2.2.1, T1.2.2.2)) (Nat.lt_of_le_of_lt h.len1 hi) c3.ok c4 p1
  obtain ⟨b2, f2, g2⟩ := forged_eq (T := ((1, mark0), T2.2.1, T2.2.2.1, T2.2.2.2)) (Nat.lt_of_le_of_lt h.len2 hi) c3.ok c4 q1
  exact ⟨C, D', b1, b2, c1, c2, f1, f2, fun e1 e2 => ⟨c3, p2 (g1 e1), q2 (g2 e2), h.len1, h.len2⟩, fun e => ⟨⟨c3, p3 e, q3 e, h.len1, h.len2⟩, c4, c5⟩⟩

theorem safe_l0 {a0 : List (Int × Bool × Int × List Int × List FateS × Unit)} (hl : a0.length * 8 ≤ 140737488355328) (ha : ∀ o ∈ a0, FatesOk o.2.2.2.2.1) (r2 : Int × DiskS) (hr2 : r2.1 = 0) (K : TaleS × TaleS × DiskS → Option Bool) (hK : ∀ T1 T2 D, SInv a0.length T1 T2 D → K (T1, T2, D) = some true) :
    ∀ (j i : Nat) (T1 T2 : TaleS) (D : DiskS), i + j = a0.length → SInv i T1 T2 D → escrowlaw19_MarkSafe_l0 a0 r2 K (j + 1) ((i : Int), T2, D, T1) = some true := by
  intro j
  induction j with
  | zero =>
    intro i T1 T2 D h t
    unfold escrowlaw19_MarkSafe_l0
    rw [if_neg (by simp only [decide_eq_true_eq]; omega)]
    have : i = a0.length := by omega
    subst this
    exact hK T1 T2 D t
  | succ j ih =>
    intro i T1 T2 D h t
    have hi : i < a0.length := by omega
    have e3 : IntKind.wrap .i64 ((i : Int) + 1) = ((i + 1 : Nat) : Int) := wrap_i64 (by omega) (by omega)
    have hmem : List.getD a0 i (0, false, 0, [], [], ()) ∈ a0 := by
      rw [List.getD_eq_getElem?_getD, List.getElem?_eq_getElem hi, Option.getD_some]
      exact List.getElem_mem hi
    have hfo := ha _ hmem
    have tail : ∀ T1 T2 D, SInv (i + 1) T1 T2 D → escrowlaw19_MarkSafe_l0 a0 r2 K (j + 1) (((i + 1 : Nat) : Int), T2, D, T1) = some true := fun T1 T2 D s => ih (i + 1) T1 T2 D (by omega) s
    unfold escrowlaw19_MarkSafe_l0
    simp only [Int.toNat_natCast, e3]
    generalize List.getD a0 i (0, false, 0, [], [], ()) = o at hfo ⊢
    obtain ⟨knd, two, n, nmm, fates, u⟩ := o
    simp only at hfo ⊢
    rw [if_pos (by simp only [decide_eq_true_eq]; omega), bnd_eq, if_pos (by omega)]
    simp only [bnd_eq, hr2, if_true]
    have m8 : ∀ a : Int, ∃ k : Int, escrowlaw19_least a 8 = some k := fun a => by obtain ⟨k, hk, _⟩ := least_eq (a := a) (m := 8) (by omega) (by omega); exact ⟨_, hk⟩
    have m3 : ∀ a : Int, ∃ k : Int, escrowlaw19_least a 3 = some k := fun a => by obtain ⟨k, hk, _⟩ := least_eq (a := a) (m := 3) (by omega) (by omega); exact ⟨_, hk⟩
    obtain ⟨k1, hk1⟩ := m8 n
    obtain ⟨k2, hk2⟩ := m3 (IntKind.wrap .i64 (Int.tdiv n 8))
    obtain ⟨C, D', b1, b2, c1, c2, f1, f2, c3, _⟩ := s_crash (l := fates) t hfo (by omega)
    have hm0 : mark0 = ((), [], 0, 0, ()) := rfl
    rw [hm0] at f1 f2 c3
    have up : ∀ T1 T2 D, SInv i T1 T2 D → escrowlaw19_MarkSafe_l0 a0 r2 K (j + 1) (((i + 1 : Nat) : Int), T2, D, T1) = some true := fun T1 T2 D s => tail T1 T2 D s.up
    obtain ⟨Ta, Da, o1, o2, _⟩ := s_open1 t (by omega)
    obtain ⟨Tb, Db, o3, o4, _⟩ := s_open2 t (by omega)
    obtain ⟨Tc, Dc, o5, o6⟩ := s_raise1 t n (by omega)
    obtain ⟨Td, Dd, o7, o8⟩ := s_raise2 t n (by omega)
    have hn2 : escrowlaw19_name true = some [116, 119, 111] := rfl
    have hn1 : escrowlaw19_name false = some [111, 110, 101] := rfl
    simp only [hk1, hk2, c1, c2, f1, f2, o1, o3, o5, o7, hn1, hn2, Arm_eq, Fall_eq, Option.bind_some]
    have hcr : (if b1 = true then (if true = true then some true else escrowlaw19_MarkSafe_l0 a0 r2 K (j + 1) (((i + 1 : Nat) : Int), ((1, ((), [], 0, 0, ())), T2.2.1, T2.2.2.1, T2.2.2.2), D', ((1, ((), [], 0, 0, ())), T1.2.1, T1.2.2.1, T1.2.2.2))) else (if b2 = true then some true else escrowlaw19_MarkSafe_l0 a0 r2 K (j + 1) (((i + 1 : Nat) : Int), ((1, ((), [], 0, 0, ())), T2.2.1, T2.2.2.1, T2.2.2.2), D', ((1, ((), [], 0, 0, ())), T1.2.1, T1.2.2.1, T1.2.2.2)))) = some true := by
      cases b1 with
      | true => simp
      | false =>
        rw [if_neg (by decide)]
        cases b2 with
        | true => simp
        | false =>
          rw [if_neg (by decide)]
          exact up _ _ _ (c3 rfl rfl)
    cases two with
    | true =>
      rw [if_pos rfl]
      by_cases h1 : knd = 1
      · rw [if_pos (by simp [h1]), if_pos (by decide), hn2]; simp only [Option.bind_some, o3]; exact up _ _ _ o4
      · rw [if_neg (by simpa using h1)]
        by_cases h2 : knd = 2
        · rw [if_pos (by simp [h2])]; exact tail _ _ _ o8
        · rw [if_neg (by simpa using h2)]
          by_cases h3 : knd = 3
          · rw [if_pos (by simp [h3])]; exact up _ _ _ (s_arm t _ _ _)
          · rw [if_neg (by simpa using h3)]
            by_cases h4 : knd = 4
            · rw [if_pos (by simp [h4])]; exact up _ _ _ (s_arm t _ _ _)
            · rw [if_neg (by simpa using h4)]
              by_cases h5 : knd = 5
              · rw [if_pos (by simp [h5])]
                exact hcr
              · rw [if_neg (by simpa using h5)]; exact up _ _ _ t
    | false =>
      rw [if_neg (by decide)]
      by_cases h1 : knd = 1
      · rw [if_pos (by simp [h1]), if_pos (by decide), hn1]; simp only [Option.bind_some, o1]; exact up _ _ _ o2
      · rw [if_neg (by simpa using h1)]
        by_cases h2 : knd = 2
        · rw [if_pos (by simp [h2])]; exact tail _ _ _ o6
        · rw [if_neg (by simpa using h2)]
          by_cases h3 : knd = 3
          · rw [if_pos (by simp [h3])]; exact up _ _ _ (s_arm t _ _ _)
          · rw [if_neg (by simpa using h3)]
            by_cases h4 : knd = 4
            · rw [if_pos (by simp [h4])]; exact up _ _ _ (s_arm t _ _ _)
            · rw [if_neg (by simpa using h4)]
              by_cases h5 : knd = 5
              · rw [if_pos (by simp [h5])]
                exact hcr
              · rw [if_neg (by simpa using h5)]; exact up _ _ _ t

theorem escrowlaw19_MarkSafe_true (a0 : List (Int × Bool × Int × List Int × List FateS × Unit)) {p0 p1 p2 p3 p5 : (Int × Bool × Int × List Int × List FateS × Unit) → Prop} {t0 t1 t2 t4 : FateS → Prop}
    (h0 : List.length a0 * 64 ≤ 140737488351232 ∧ ∀ y ∈ a0, p0 y ∧ p1 y ∧ p2 y ∧ p3 y ∧ (List.length y.2.2.2.2.1 * 48 ≤ 140737488351232 ∧ ∀ z ∈ y.2.2.2.2.1, t0 z ∧ t1 z ∧ t2 z ∧ (byteOk z.2.2.2.1 ∧ List.length z.2.2.2.1 ≤ 140737488351232) ∧ t4 z) ∧ p5 y) : escrowlaw19_MarkSafe a0 = some true := by
  have hl : a0.length * 8 ≤ 140737488355328 := by omega
  have ha : ∀ o ∈ a0, FatesOk o.2.2.2.2.1 := fun o ho => by
    have := (h0.2 o ho).2.2.2.2.1
    exact ⟨by omega, fun x hx => ⟨(this.2 x hx).2.2.2.1.1, by have := (this.2 x hx).2.2.2.1.2; omega⟩⟩
  have hnew : disk_New 1000 = some (0, (1000, [], 0, 0, 0, false, false)) := rfl
  unfold escrowlaw19_MarkSafe
  rw [shead_eq, Option.bind_some, if_neg (by decide), hnew]
  simp only [Option.bind_some, bnd_eq]
  rw [if_neg (by decide)]
  have ef : Int.toNat ((a0.length : Int) - 0) + 1 = a0.length + 1 := by omega
  rw [ef]
  have hD0 : DInv (1000, [], 0, 0, 0, false, false) := ⟨⟨(fun p hp => by cases hp), List.nodup_nil, by simp⟩, rfl, rfl, (fun k f hf => by cases hf), fun k hk => by cases hk⟩
  have hT0 : ∀ nm, FInv ((1, mark0), -1, [], ()) nm [] := fun nm => ⟨fun _ => ⟨(by show (1 : Int) ≠ 0; decide), rfl⟩, fun f hf => by cases hf⟩
  refine safe_l0 hl ha _ rfl _ (fun T1 T2 D s => ?_) a0.length 0 _ _ _ (by omega) ⟨hD0, hT0 _, hT0 _, Nat.le_refl _, Nat.le_refl _⟩
  have s' := s_arm s 0 0 (max 0 0)
  have hD' : (D.1, D.2.1, if (0 : Int) < 1 ∨ (0 : Int) < 0 ∨ (0 : Int) > 2 then (0 : Int) else 0, (0 : Int), max (0 : Int) 0, D.2.2.2.2.2.1, D.2.2.2.2.2.2) = (D.1, D.2.1, (0 : Int), (0 : Int), max (0 : Int) 0, D.2.2.2.2.2.1, D.2.2.2.2.2.2) := by simp
  simp only [if_true, Arm_eq, Fall_eq, Option.bind_some, hD']
  generalize hE : (D.1, D.2.1, (0 : Int), (0 : Int), max (0 : Int) 0, D.2.2.2.2.2.1, D.2.2.2.2.2.2) = E at s' ⊢
  have hcE : Calm E := by rw [← hE]; exact ⟨rfl, rfl⟩
  have hoff : disk_Disk_Off E = some E.2.2.2.2.2.1 := rfl
  -- both are opened on a calm disk that is on
  have fin : ∀ G, SInv a0.length T1 T2 G → G.2.2.2.2.2.1 = false → Calm G → ∃ Ta Ga Tb Gb, escrowlaw19_Tale_opens T1 G [111, 110, 101] = some (true, Ta, Ga) ∧ escrowlaw19_Tale_opens T2 Ga [116, 119, 111] = some (true, Tb, Gb) ∧ Ta.1.1 = 0 ∧ Tb.1.1 = 0 := fun G sG oG cG => by
    obtain ⟨Ta, Ga, o1, o2, o3⟩ := s_open1 sG (by omega)
    obtain ⟨q1, q2, q3⟩ := o3 oG cG
    obtain ⟨Tb, Gb, o4, o5, o6⟩ := s_open2 o2 (by omega)
    exact ⟨Ta, Ga, Tb, Gb, o1, o4, q1, (o6 q2 q3).1⟩
  cases ho : E.2.2.2.2.2.1 with
  | false =>
    obtain ⟨Ta, Ga, Tb, Gb, f1, f2, f3, f4⟩ := fin E s' ho hcE
    simp only [hoff, ho, Option.bind_some]
    rw [if_neg (by decide)]
    simp only [Option.bind_some, f1, f2, f3, f4]
    simp
  | true =>
    obtain ⟨C, D', b1, b2, c1, c2, _, _, _, c3⟩ := s_crash (l := []) s' ⟨by simp, fun x hx => by cases hx⟩ (by omega)
    obtain ⟨c4, c5, c6⟩ := c3 rfl
    obtain ⟨Ta, Ga, Tb, Gb, f1, f2, f3, f4⟩ := fin D' c4 c5 c6
    simp only [hoff, ho, Option.bind_some, c1, c2, if_true, f1, f2, f3, f4]
    simp
end Sx
