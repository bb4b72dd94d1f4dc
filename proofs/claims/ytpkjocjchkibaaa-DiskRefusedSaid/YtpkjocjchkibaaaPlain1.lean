/-
  Own work, of several texts. What wraps and shifts of numbers come to.
  The disk's plain functions: what they answer.
  The disk's plain functions, further.
  The disk's plain functions: Write.
  The disk's plain functions: a crash.
  The disk's plain functions: the power.
  The disk's operations at whatever arguments.
  The disk is armed.
  What each operation of the disk leaves as it was, whatever its arguments.
  Chapter 04: a step of a script, and a whole one.
  What holds of every disk on which a script was played: the names rise; what is not safe is dirty; what is dirty is seen.
  What a crash leaves of a file, to the byte.
  A copy of a disk is the disk; scripts leave good disks.
  Chapter 04: what is refused changes nothing; the calls that are counted; the power that goes.
-/
import Derived.Test.YtpkjocjchkibaaaDefs
import Derived.Test.YtpkjocjchkibaaaComm
import Derived.Test.YtpkjocjchkibaaaLib3
namespace Sx
open Go

abbrev B32 := BitVec 32
def u (v : B32) : Int := (v.toNat : Int)
theorem u_inj {a b : B32} (h : u a = u b) : a = b := BitVec.eq_of_toNat_eq (by unfold u at h; omega)
theorem u_beq (a b : B32) : (u a == u b) = (a == b) := by
  rw [Bool.eq_iff_iff]; simp only [beq_iff_eq]; exact ⟨u_inj, fun h => h ▸ rfl⟩
theorem u_lt (a : B32) : 0 ≤ u a ∧ u a < 4294967296 := by unfold u; have := a.isLt; omega
theorem ofInt_u (a : B32) : BitVec.ofInt 32 (u a) = a := by simp [u]
theorem wrap_u32 {n : Int} (h0 : 0 ≤ n) (h : n < 4294967296) : IntKind.wrap .u32 n = n := by
  simp only [IntKind.wrap, IntKind.bits, IntKind.signed, Bool.false_and, Bool.false_eq_true, if_false]; omega
theorem wrap_i64 {n : Int} (h0 : -9223372036854775808 ≤ n) (h : n < 9223372036854775808) : IntKind.wrap .i64 n = n := by
  simp [IntKind.wrap, IntKind.bits, IntKind.signed]; omega
theorem wrap_u (a : B32) : IntKind.wrap .u32 (u a) = u a := wrap_u32 (u_lt a).1 (u_lt a).2
theorem ixor_u (a b : B32) : ixor .u32 (u a) (u b) = u (a ^^^ b) := by
  unfold ixor; show IntKind.wrap .u32 (BitVec.ofInt 32 (u a) ^^^ BitVec.ofInt 32 (u b)).toNat = _
  rw [ofInt_u, ofInt_u]; exact wrap_u _
theorem iand_u (a b : B32) : iand .u32 (u a) (u b) = u (a &&& b) := by
  unfold iand; show IntKind.wrap .u32 (BitVec.ofInt 32 (u a) &&& BitVec.ofInt 32 (u b)).toNat = _
  rw [ofInt_u, ofInt_u]; exact wrap_u _
theorem ishr_u (a : B32) {n : Nat} (hn : n ≤ 32) : ishr .u32 (u a) n = u (a >>> n) := by
  unfold ishr
  have : min (Int.toNat (n : Int)) (IntKind.bits .u32) = n := by simp [IntKind.bits]; omega
  rw [this]
  simp only [u, BitVec.toNat_ushiftRight, Nat.shiftRight_eq_div_pow]
  rw [Int.fdiv_eq_ediv_of_nonneg _ (Int.le_of_lt (Int.pow_pos (by decide)))]
  simp
theorem ishl_u (a : B32) {n : Nat} (hn : n ≤ 32) : ishl .u32 (u a) n = u (a <<< n) := by
  unfold ishl
  have : min (Int.toNat (n : Int)) (IntKind.bits .u32) = n := by simp [IntKind.bits]; omega
  rw [this]
  simp only [u, IntKind.wrap, IntKind.bits, IntKind.signed, Bool.false_and, Bool.false_eq_true, if_false, BitVec.toNat_shiftLeft, Nat.shiftLeft_eq]
  simp
theorem inot_u (a : B32) : inot .u32 (u a) = u (~~~a) := by
  unfold inot
  show ixor .u32 (IntKind.max .u32) (u a) = _
  have : IntKind.max .u32 = u (BitVec.allOnes 32) := by decide
  rw [this, ixor_u]
  congr 1

end Sx
namespace Sx
open Go

/-! ### lists of names and files -/
section
variable {V : Type}
theorem keq_str (a b : List Int) : keq .str a b = (a == b) := rfl
theorem get_nil (k : List Int) : pget .str k ([] : List (List Int × V)) = none := rfl
theorem get_cons (k : List Int) (p : List Int × V) (l : List (List Int × V)) : pget .str k (p :: l) = if p.1 = k then some p.2 else pget .str k l := by
  unfold pget
  rw [List.find?_cons]
  by_cases h : p.1 = k
  · simp [keq_str, h]
  · have : keq .str p.1 k = false := by simp [keq_str, h]
    simp [this, h]
theorem get_mem {k : List Int} {v : V} : ∀ {l : List (List Int × V)}, pget .str k l = some v → (k, v) ∈ l
  | [], h => by cases h
  | p :: l, h => by
    rw [get_cons] at h
    split at h
    · rename_i hp
      simp only [Option.some.injEq] at h
      subst h; subst hp
      exact List.mem_cons_self ..
    · exact List.mem_cons_of_mem _ (get_mem h)
theorem get_none {k : List Int} : ∀ {l : List (List Int × V)}, pget .str k l = none ↔ k ∉ l.map (·.1)
  | [] => by simp [get_nil]
  | p :: l => by
    rw [get_cons]
    split
    · rename_i hp; simp [hp]
    · rename_i hp
      rw [get_none]
      simp only [List.map_cons, List.mem_cons, not_or]
      exact ⟨fun h => ⟨fun e => hp e.symm, h⟩, fun h => h.2⟩
theorem pset_cons (k : List Int) (v : V) (p : List Int × V) (l : List (List Int × V)) : pset .str k v (p :: l) = (if p.1 = k then (p.1, v) else p) :: pset .str k v l := by
  unfold pset
  rw [List.map_cons]
  by_cases h : p.1 = k
  · simp [keq_str, h]
  · simp [keq_str, h]
theorem get_pset {k : List Int} {v y : V} : ∀ {l : List (List Int × V)}, pget .str k l = some y → pget .str k (pset .str k v l) = some v
  | [], h => by cases h
  | p :: l, h => by
    rw [get_cons] at h
    rw [pset_cons, get_cons]
    by_cases hp : p.1 = k
    · simp [hp]
    · rw [if_neg hp] at h
      rw [if_neg hp, if_neg hp]
      exact get_pset h
theorem pset_keys (k : List Int) (v : V) : ∀ (l : List (List Int × V)), (pset .str k v l).map (·.1) = l.map (·.1)
  | [] => rfl
  | p :: l => by
    rw [pset_cons, List.map_cons, List.map_cons, pset_keys k v l]
    split <;> simp_all
theorem pset_mem {k : List Int} {v : V} {q : List Int × V} : ∀ {l : List (List Int × V)}, q ∈ pset .str k v l → q = (k, v) ∨ q ∈ l
  | [], h => by cases h
  | p :: l, h => by
    rw [pset_cons] at h
    rcases List.mem_cons.1 h with h | h
    · by_cases hp : p.1 = k
      · rw [if_pos hp] at h; left; rw [h, hp]
      · rw [if_neg hp] at h; right; simp [h]
    · rcases pset_mem h with h | h
      · exact .inl h
      · exact .inr (by simp [h])
theorem pdel_eq (k : List Int) (l : List (List Int × V)) : pdel .str k l = l.filter fun p => !(p.1 == k) := rfl
theorem get_pdel_ne {a b : List Int} (h : a ≠ b) : ∀ (l : List (List Int × V)), pget .str b (pdel .str a l) = pget .str b l
  | [] => rfl
  | p :: l => by
    rw [pdel_eq, List.filter_cons]
    by_cases hp : p.1 = a
    · have : (!(p.1 == a)) = false := by simp [hp]
      rw [if_neg (by simp [this]), get_cons, if_neg (by rw [hp]; exact h)]
      exact get_pdel_ne h l
    · rw [if_pos (by simp [hp]), get_cons, get_cons]
      rw [← pdel_eq, get_pdel_ne h l]
theorem pdel_mem {k : List Int} {q : List Int × V} {l : List (List Int × V)} (h : q ∈ pdel .str k l) : q ∈ l := (List.mem_filter.1 h).1
theorem pins_mem {k : List Int} {v : V} {q : List Int × V} : ∀ {l : List (List Int × V)}, q ∈ pins .str k v l ↔ q = (k, v) ∨ q ∈ l
  | [] => by simp [pins]
  | p :: l => by
    simp only [pins]
    split
    · simp
    · simp only [List.mem_cons, pins_mem (l := l)]
      constructor
      · rintro (h | h | h)
        · exact .inr (.inl h)
        · exact .inl h
        · exact .inr (.inr h)
      · rintro (h | h | h)
        · exact .inr (.inl h)
        · exact .inl h
        · exact .inr (.inr h)
theorem spins_length {k : List Int} {v : V} : ∀ (l : List (List Int × V)), (pins .str k v l).length = l.length + 1
  | [] => rfl
  | p :: l => by
    simp only [pins]
    split
    · rfl
    · simp [spins_length l]
theorem get_pins_ne {a b : List Int} (h : a ≠ b) (v : V) : ∀ (l : List (List Int × V)), pget .str b (pins .str a v l) = pget .str b l
  | [] => by rw [show pins .str a v ([] : List (List Int × V)) = [(a, v)] from rfl, get_cons, if_neg h]
  | p :: l => by
    simp only [pins]
    split
    · rw [get_cons, if_neg h]
    · rw [get_cons, get_cons, get_pins_ne h v l]
theorem get_pins_self {a : List Int} (v : V) : ∀ (l : List (List Int × V)), pget .str a l = none → pget .str a (pins .str a v l) = some v
  | [], _ => by rw [show pins .str a v ([] : List (List Int × V)) = [(a, v)] from rfl, get_cons, if_pos rfl]
  | p :: l, h => by
    rw [get_cons] at h
    have hp : p.1 ≠ a := fun e => by rw [if_pos e] at h; cases h
    rw [if_neg hp] at h
    simp only [pins]
    split
    · rw [get_cons, if_pos rfl]
    · rw [get_cons, if_neg hp, get_pins_self v l h]
theorem get_pput_self (a : List Int) (v : V) (l : List (List Int × V)) : pget .str a (pput .str a v l) = some v := get_pins_self v _ (pget_del_self (kt := .str) l)
theorem get_pput_ne {a b : List Int} (h : a ≠ b) (v : V) (l : List (List Int × V)) : pget .str b (pput .str a v l) = pget .str b l := by
  unfold pput
  rw [get_pins_ne h, get_pdel_ne h]
theorem pins_keys_perm {a : List Int} (v : V) : ∀ (l : List (List Int × V)), ((pins .str a v l).map (·.1)).Perm (a :: l.map (·.1))
  | [] => .refl _
  | p :: l => by
    simp only [pins]
    split
    · exact .refl _
    · simp only [List.map_cons]
      exact ((pins_keys_perm v l).cons _).trans (.swap _ _ _)
theorem pdel_length (k : List Int) (l : List (List Int × V)) : (pdel .str k l).length ≤ l.length := List.length_filter_le _ _
theorem pdel_length_lt {k : List Int} {v : V} : ∀ {l : List (List Int × V)}, pget .str k l = some v → (pdel .str k l).length < l.length
  | [], h => by cases h
  | p :: l, h => by
    rw [get_cons] at h
    rw [pdel_eq, List.filter_cons]
    by_cases hp : p.1 = k
    · rw [if_neg (by simp [hp])]
      have := pdel_length k l
      rw [pdel_eq] at this
      simp only [List.length_cons]; omega
    · rw [if_neg hp] at h
      rw [if_pos (by simp [hp])]
      have := pdel_length_lt h
      rw [pdel_eq] at this
      simp only [List.length_cons]; omega
theorem pdel_nodup {k : List Int} {l : List (List Int × V)} (h : (l.map (·.1)).Nodup) : ((pdel .str k l).map (·.1)).Nodup := h.sublist (List.Sublist.map _ List.filter_sublist)
end

/-! ### what is known of a disk's files -/
def FOk (f : FileS) : Prop := byteOk f.1 ∧ byteOk f.2.1 ∧ f.1.length ≤ 1048576 ∧ f.2.1.length ≤ f.1.length ∧ f.2.2.Nodup ∧ ∀ s ∈ f.2.2, 0 ≤ s ∧ s < 16384
def FsOk (fs : List (List Int × FileS)) : Prop := (∀ p ∈ fs, FOk p.2) ∧ (fs.map (·.1)).Nodup ∧ fs.length ≤ 16
theorem FsOk.get {fs : List (List Int × FileS)} (h : FsOk fs) {k : List Int} {f : FileS} (hf : pget .str k fs = some f) : FOk f := h.1 _ (get_mem hf)
theorem FsOk.set {fs : List (List Int × FileS)} (h : FsOk fs) {k : List Int} {f : FileS} (hf : FOk f) : FsOk (pset .str k f fs) :=
  ⟨fun p hp => by rcases pset_mem hp with rfl | hp; exact hf; exact h.1 p hp, by rw [pset_keys]; exact h.2.1, by have := congrArg List.length (pset_keys k f fs); simp only [List.length_map] at this; rw [this]; exact h.2.2⟩
theorem FsOk.del {fs : List (List Int × FileS)} (h : FsOk fs) (k : List Int) : FsOk (pdel .str k fs) := ⟨fun p hp => h.1 p (pdel_mem hp), pdel_nodup h.2.1, Nat.le_trans (pdel_length _ _) h.2.2⟩
theorem FsOk.put {fs : List (List Int × FileS)} (h : FsOk fs) {k : List Int} {f : FileS} (hf : FOk f) (hl : pget .str k fs = none → fs.length < 16) : FsOk (pput .str k f fs) := by
  refine ⟨fun p hp => ?_, ?_, ?_⟩
  · rcases pins_mem.1 hp with rfl | hp
    · exact hf
    · exact h.1 p (pdel_mem hp)
  · refine (List.Perm.nodup_iff (pins_keys_perm (a := k) f (pdel .str k fs))).2 ?_
    exact List.nodup_cons.2 ⟨get_none.1 (pget_del_self (kt := .str) fs), pdel_nodup h.2.1⟩
  · unfold pput
    rw [spins_length]
    cases hg : pget .str k fs with
    | none => have := hl hg; have := pdel_length k fs; omega
    | some y => have := pdel_length_lt hg; have := h.2.2; omega

/-! ### Used, counted, names -/
theorem used_fold (D : DiskS) : ∀ (ks : List (List Int)) (s : Int), (∀ k ∈ ks, ∃ f, pget .str k D.2.1 = some f ∧ f.1.length ≤ 1048576) → 0 ≤ s → s + ks.length * 1048576 < 4611686018427387904 →
    ∃ s', foldK (disk_Disk_Used_l0 D) ks s = some s' ∧ 0 ≤ s' ∧ s' ≤ s + ks.length * 1048576
  | [], s, _, h0, _ => ⟨s, rfl, h0, by simp⟩
  | k :: ks, s, hk, h0, hb => by
    obtain ⟨f, hf, hl⟩ := hk k (by simp)
    simp only [List.length_cons, Int.natCast_add, Int.cast_ofNat_Int] at hb ⊢
    have e : disk_Disk_Used_l0 D k s = some (s + f.1.length) := by
      unfold disk_Disk_Used_l0
      simp only [hf, Option.bind_some, bnd_eq]
      rw [wrap_i64 (by omega) (by omega)]
    obtain ⟨s', h1, h2, h3⟩ := used_fold D ks (s + f.1.length) (fun k' hk' => hk k' (by simp [hk'])) (by omega) (by omega)
    refine ⟨s', ?_, h2, by omega⟩
    show (disk_Disk_Used_l0 D k s).bind _ = _
    rw [e]; exact h1
theorem Used_eq {D : DiskS} (h : FsOk D.2.1) : ∃ u, disk_Disk_Used D = some u ∧ 0 ≤ u ∧ u ≤ D.2.1.length * 1048576 := by
  obtain ⟨s', h1, h2, h3⟩ := used_fold D (D.2.1.map (·.1)) 0 (fun k hk => by
    cases hg : pget .str k D.2.1 with
    | none => exact absurd hk (get_none.1 hg)
    | some f => exact ⟨f, rfl, (h.get hg).2.2.1⟩) (by omega) (by simp only [List.length_map]; have := h.2.2; omega)
  refine ⟨s', ?_, h2, ?_⟩
  · unfold disk_Disk_Used
    simp only [bnd_eq, h1, Option.bind_some]
  · simp only [List.length_map] at h3; omega
end Sx
namespace Sx
open Go

theorem counted_eq (D : DiskS) (w : Int) : ∃ e a f o p, disk_Disk_counted D w = some (e, (D.1, D.2.1, a, D.2.2.2.1, f, o, p)) ∧ ((e = 9 ∧ o = true ∧ p = true) ∨ ((e = 0 ∨ e = 40) ∧ o = D.2.2.2.2.2.1 ∧ p = D.2.2.2.2.2.2)) := by
  unfold disk_Disk_counted
  simp only [bnd_eq]
  split
  · split
    · exact ⟨9, _, _, _, _, rfl, .inl ⟨rfl, rfl, rfl⟩⟩
    · split
      · split
        · split
          · exact ⟨40, _, _, _, _, rfl, .inr ⟨.inr rfl, rfl, rfl⟩⟩
          · exact ⟨0, _, _, _, _, rfl, .inr ⟨.inl rfl, rfl, rfl⟩⟩
        · exact ⟨0, _, _, _, _, rfl, .inr ⟨.inl rfl, rfl, rfl⟩⟩
      · rw [if_neg (by decide)]
        exact ⟨0, _, _, _, _, rfl, .inr ⟨.inl rfl, rfl, rfl⟩⟩
  · split
    · split
      · split
        · exact ⟨40, _, _, _, _, rfl, .inr ⟨.inr rfl, rfl, rfl⟩⟩
        · exact ⟨0, _, _, _, _, rfl, .inr ⟨.inl rfl, rfl, rfl⟩⟩
      · exact ⟨0, _, _, _, _, rfl, .inr ⟨.inl rfl, rfl, rfl⟩⟩
    · rw [if_neg (by decide)]
      exact ⟨0, _, _, _, _, rfl, .inr ⟨.inl rfl, rfl, rfl⟩⟩
theorem counted_calm {D : DiskS} (w : Int) (ha : D.2.2.1 = 0) (hf : D.2.2.2.2.1 = 0) : disk_Disk_counted D w = some (0, D) := by
  unfold disk_Disk_counted
  simp only [bnd_eq]
  rw [if_neg (by rw [hf]; decide), if_neg (by rw [ha]; decide), if_neg (by decide)]

theorem found_eq {D : DiskS} (name : List Int) (ho : D.2.2.2.2.2.1 = false) : disk_Disk_found D name = some (if (pget .str name D.2.1).isSome then 0 else 5) := by
  unfold disk_Disk_found
  rw [if_neg (by simp [ho])]
  simp only [bnd_eq]
  cases pget .str name D.2.1 <;> rfl
theorem clone_eq {l : List Int} (h : l.length ≤ 1048576) : slices_Clone__byte_byte l = some l := by
  unfold slices_Clone__byte_byte
  rw [if_pos (by simp only [List.length_nil]; omega)]
  rfl
theorem Sync_eq {D : DiskS} {name : List Int} {f : FileS} (hok : FsOk D.2.1) (ho : D.2.2.2.2.2.1 = false) (hf : pget .str name D.2.1 = some f) : ∃ e a fl o p, disk_Disk_counted D 2 = some (e, (D.1, D.2.1, a, D.2.2.2.1, fl, o, p)) ∧
    disk_Disk_Sync D name = some (if e = 0 then (0, (D.1, pset .str name (f.1, f.1, []) D.2.1, a, D.2.2.2.1, fl, o, p)) else (e, (D.1, D.2.1, a, D.2.2.2.1, fl, o, p))) := by
  obtain ⟨e, a, fl, o, p, hc, _⟩ := counted_eq D 2
  refine ⟨e, a, fl, o, p, hc, ?_⟩
  unfold disk_Disk_Sync
  rw [found_eq name ho, hf]
  simp only [Option.isSome_some, if_true, Option.bind_some, hc]
  rw [if_neg (by decide)]
  by_cases he : e = 0
  · subst he
    rw [if_neg (by decide)]
    simp only [hf, Option.bind_some, clone_eq (hok.get hf).2.2.1, if_true]
  · rw [if_pos (by simpa using he), if_neg he]
theorem Rename_eq {D : DiskS} {a b : List Int} {f : FileS} (hok : FsOk D.2.1) (ho : D.2.2.2.2.2.1 = false) (hf : pget .str a D.2.1 = some f) (hn : disk_isName b = some true) :
    disk_Disk_Rename D a b = some (0, (D.1, pput .str b f (pdel .str a D.2.1), D.2.2.1, D.2.2.2.1, D.2.2.2.2.1, D.2.2.2.2.2.1, D.2.2.2.2.2.2)) := by
  unfold disk_Disk_Rename
  rw [found_eq a ho, hf]
  simp only [Option.isSome_some, if_true, Option.bind_some, hn]
  rw [if_neg (by decide), if_neg (by decide)]
  rw [if_pos (by have := pdel_length a D.2.1; have := hok.2.2; omega)]
theorem Remove_eq {D : DiskS} {a : List Int} (ho : D.2.2.2.2.2.1 = false) : disk_Disk_Remove D a = some (if (pget .str a D.2.1).isSome then (0, (D.1, pdel .str a D.2.1, D.2.2.1, D.2.2.2.1, D.2.2.2.2.1, D.2.2.2.2.2.1, D.2.2.2.2.2.2)) else (5, D)) := by
  unfold disk_Disk_Remove
  rw [found_eq a ho]
  cases h : pget .str a D.2.1 <;> simp
theorem Read_all {D : DiskS} {name : List Int} (hok : FsOk D.2.1) (ho : D.2.2.2.2.2.1 = false) : disk_Disk_Read D name 0 1048576 = some (match pget .str name D.2.1 with | none => ([], 5) | some f => (f.1, 0)) := by
  unfold disk_Disk_Read
  rw [found_eq name ho]
  cases h : pget .str name D.2.1 with
  | none => simp
  | some f =>
    have hl := (hok.get h).2.2.1
    simp only [Option.isSome_some, if_true, Option.bind_some, bnd_eq]
    rw [if_neg (by decide), if_neg (by decide)]
    by_cases h0 : f.1.length = 0
    · rw [if_pos (by simp [h0])]
      have : f.1 = [] := List.eq_nil_of_length_eq_zero h0
      rw [this]
    · rw [if_neg (by simp only [decide_eq_true_eq]; omega), if_pos (by omega)]
      have e : List.drop (Int.toNat 0) (List.take (Int.toNat (f.1.length : Int)) f.1) = f.1 := by simp
      rw [e]
      have e2 : min (1048576 : Int) (f.1.length : Int) = f.1.length := by omega
      rw [e2, if_pos (by omega)]
      simp

/-! ### writing -/
theorem kput_mem {k q : Int} {ks : List Int} : q ∈ kput k ks ↔ q = k ∨ q ∈ ks := by
  unfold kput pput
  have : ∀ l : List (Int × Unit), q ∈ (pins (.int .i64) k () l).map (·.1) ↔ q = k ∨ q ∈ l.map (·.1) := by
    intro l
    induction l with
    | nil => simp [pins]
    | cons p l ih =>
      simp only [pins]
      split
      · simp
      · simp only [List.map_cons, List.mem_cons, ih]
        constructor
        · rintro (h | h | h)
          · exact .inr (.inl h)
          · exact .inl h
          · exact .inr (.inr h)
        · rintro (h | h | h)
          · exact .inr (.inl h)
          · exact .inl h
          · exact .inr (.inr h)
  rw [this]
  constructor
  · rintro (h | h)
    · exact .inl h
    · obtain ⟨p, hp, e⟩ := List.mem_map.1 h
      have hp := (List.mem_filter.1 hp).1
      obtain ⟨x, hx, e2⟩ := List.mem_map.1 hp
      subst e2; subst e
      exact .inr hx
  · rintro (h | h)
    · exact .inl h
    · by_cases hq : q = k
      · exact .inl hq
      · exact .inr (List.mem_map.2 ⟨(q, ()), List.mem_filter.2 ⟨List.mem_map.2 ⟨q, h, rfl⟩, by simp [keq, hq]⟩, rfl⟩)
theorem kput_nodup {k : Int} {ks : List Int} (h : ks.Nodup) : (kput k ks).Nodup := by
  unfold kput pput
  have key : ∀ l : List (Int × Unit), ((pins (.int .i64) k () l).map (·.1)).Perm (k :: l.map (·.1)) := by
    intro l
    induction l with
    | nil => exact .refl _
    | cons p l ih =>
      simp only [pins]
      split
      · exact .refl _
      · simp only [List.map_cons]
        exact (ih.cons _).trans (.swap _ _ _)
  refine (List.Perm.nodup_iff (key _)).2 (List.nodup_cons.2 ⟨fun hk => ?_, ?_⟩)
  · obtain ⟨p, hp, e⟩ := List.mem_map.1 hk
    have := (List.mem_filter.1 hp).2
    subst e
    simp [keq] at this
  · refine List.Nodup.sublist (List.Sublist.map _ List.filter_sublist) ?_
    have e : (ks.map fun x => (x, ())).map (·.1) = ks := by rw [List.map_map]; exact List.map_id _
    rw [e]; exact h
theorem nodup_len {l : List Int} (hn : l.Nodup) (hb : ∀ s ∈ l, 0 ≤ s ∧ s < 16384) : l.length ≤ 16384 := by
  have : (l.map Int.toNat).Nodup := by
    refine List.Pairwise.map _ (fun a b h => h) ?_
    refine List.Pairwise.imp_of_mem ?_ hn
    intro a b ha hb' h e
    have := hb a ha; have := hb b hb'
    exact h (by omega)
  have h2 : (l.map Int.toNat) ⊆ List.range 16384 := fun x hx => by
    obtain ⟨s, hs, rfl⟩ := List.mem_map.1 hx
    have := hb s hs
    exact List.mem_range.2 (by omega)
  have := List.Nodup.length_le_of_subset this h2
  simpa using this
theorem write_l0 (at0 : Int) (text : List Int) (k : List Int → Option (Int × DiskS)) (h0 : 0 ≤ at0) (hb : at0 + text.length ≤ 1048576) : ∀ (fuel : Nat) (s : Int) (ds : List Int), 0 ≤ s → at0 + text.length ≤ (s + fuel - 1) * 64 → 1 ≤ fuel → s ≤ 16384 → ds.Nodup → (∀ x ∈ ds, 0 ≤ x ∧ x < 16384) →
    ∃ ds', disk_Disk_Write_l0 at0 text k fuel (s, ds) = k ds' ∧ ds'.Nodup ∧ (∀ x ∈ ds', 0 ≤ x ∧ x < 16384) ∧ ∀ x, x ∈ ds' ↔ x ∈ ds ∨ (text ≠ [] ∧ s ≤ x ∧ x * 64 < at0 + text.length)
  | 0, s, ds, _, _, h1, _, _, _ => absurd h1 (by omega)
  | fuel + 1, s, ds, hs, hf, _, hs2, hn, hd => by
    simp only [disk_Disk_Write_l0, bnd_eq]
    rw [wrap_i64 (n := s * 64) (by omega) (by omega), wrap_i64 (n := at0 + text.length) (by omega) (by omega)]
    by_cases hc : (decide (s * 64 < at0 + (text.length : Int)) && (text != [])) = true
    · rw [if_pos hc]
      have hlt : s * 64 < at0 + (text.length : Int) := by simp only [Bool.and_eq_true, decide_eq_true_eq] at hc; exact hc.1
      rw [if_pos (by have := nodup_len hn hd; omega), wrap_i64 (n := s + 1) (by omega) (by omega)]
      have hfu : 1 ≤ fuel := by
        rcases Nat.eq_zero_or_pos fuel with h | h
        · subst h; simp at hf; omega
        · exact h
      have htx : text ≠ [] := by simp only [Bool.and_eq_true, bne_iff_ne] at hc; exact hc.2
      obtain ⟨ds', e1, e2, e3, e4⟩ := write_l0 at0 text k h0 hb fuel (s + 1) (kput s ds) (by omega) (by simp only [Int.natCast_add, Int.cast_ofNat_Int] at hf; omega) hfu (by omega) (kput_nodup hn) (fun x hx => by
        rcases kput_mem.1 hx with rfl | hx
        · omega
        · exact hd x hx)
      refine ⟨ds', e1, e2, e3, fun x => (e4 x).trans ?_⟩
      rw [kput_mem]
      constructor
      · rintro ((rfl | h) | ⟨h1, h2, h3⟩)
        · exact .inr ⟨htx, by omega, by omega⟩
        · exact .inl h
        · exact .inr ⟨h1, by omega, h3⟩
      · rintro (h | ⟨h1, h2, h3⟩)
        · exact .inl (.inr h)
        · rcases Int.lt_or_eq_of_le h2 with h | h
          · exact .inr ⟨h1, by omega, h3⟩
          · exact .inl (.inl h.symm)
    · rw [if_neg hc]
      refine ⟨ds, rfl, hn, hd, fun x => ⟨.inl, fun h => h.elim id fun ⟨h1, h2, h3⟩ => absurd ?_ hc⟩⟩
      simp only [Bool.and_eq_true, decide_eq_true_eq, bne_iff_ne]
      exact ⟨by omega, h1⟩
end Sx
namespace Sx
open Go

/-- a text laid into another one, which it may make longer -/
def over (seen : List Int) (i : Nat) (text : List Int) : List Int := seen.take i ++ text ++ seen.drop (i + text.length)
theorem over_length {seen text : List Int} {i : Nat} (h : i ≤ seen.length) : (over seen i text).length = max seen.length (i + text.length) := by
  unfold over
  simp only [List.length_append, List.length_take, List.length_drop]
  omega
theorem laid_over {xs ys : List Int} {i : Nat} (h : i + ys.length ≤ xs.length) : laidOver xs i ys = over xs i ys := by
  unfold laidOver over
  rw [List.take_of_length_le (l := ys) (by omega)]
theorem over_zeros {seen text : List Int} {i : Nat} (h : i ≤ seen.length) (h2 : seen.length < i + text.length) (m : Nat) (hm : m = i + text.length - seen.length) : over (seen ++ List.replicate m 0) i text = over seen i text := by
  unfold over
  rw [List.take_append_of_le_length h, List.drop_of_length_le (by simp; omega), List.drop_of_length_le (by omega)]
theorem byteOk_app2 {a b : List Int} (ha : byteOk a) (hb : byteOk b) : byteOk (a ++ b) := fun x hx => (List.mem_append.1 hx).elim (ha x) (hb x)
theorem byteOk_of_subset {a b : List Int} (hs : a ⊆ b) (hb : byteOk b) : byteOk a := fun x hx => hb x (hs hx)
theorem over_bytes {seen text : List Int} {i : Nat} (hs : byteOk seen) (ht : byteOk text) : byteOk (over seen i text) :=
  byteOk_app2 (byteOk_app2 (byteOk_of_subset (List.take_subset _ _) hs) ht) (byteOk_of_subset (List.drop_subset _ _) hs)

def seenOf (fs : List (List Int × FileS)) (name : List Int) : List Int := ((pget .str name fs).map (·.1)).getD []
def safeOf (fs : List (List Int × FileS)) (name : List Int) : List Int := ((pget .str name fs).map (·.2.1)).getD []

def dirtyOf (fs : List (List Int × FileS)) (name : List Int) : List Int := match pget .str name fs with | none => [] | some f => f.2.2
theorem Write_core2 {D : DiskS} {name text : List Int} {at0 : Int} (hok : FsOk D.2.1) (ho : D.2.2.2.2.2.1 = false) (hn : disk_isName name = some true) (ht : byteOk text) (h0 : 0 ≤ at0) (h1 : at0 ≤ (seenOf D.2.1 name).length) (hb : at0 + text.length ≤ 1048576)
    (hroom : pget .str name D.2.1 = none → D.2.1.length < 16) (hcap : ∀ u, disk_Disk_Used D = some u → u + max 0 (at0 + text.length - (seenOf D.2.1 name).length) ≤ D.1) :
    ∃ e a fl o p fs', disk_Disk_counted D 1 = some (e, (D.1, D.2.1, a, D.2.2.2.1, fl, o, p)) ∧ disk_Disk_Write D name at0 text = some (if e = 0 then (0, (D.1, fs', a, D.2.2.2.1, fl, o, p)) else (e, (D.1, D.2.1, a, D.2.2.2.1, fl, o, p))) ∧
      FsOk fs' ∧ (∃ ds, pget .str name fs' = some (over (seenOf D.2.1 name) at0.toNat text, safeOf D.2.1 name, ds) ∧ ∀ x, x ∈ ds ↔ x ∈ dirtyOf D.2.1 name ∨ (text ≠ [] ∧ at0 / 64 ≤ x ∧ x * 64 < at0 + text.length)) ∧ (∀ b, name ≠ b → pget .str b fs' = pget .str b D.2.1) ∧ fs'.map (·.1) = (if (pget .str name D.2.1).isSome then D.2.1 else pput .str name ([], [], []) D.2.1).map (·.1) := by
  obtain ⟨e, a, fl, o, p, hc, _⟩ := counted_eq D 1
  obtain ⟨u, hu, hu0, hu1⟩ := Used_eq hok
  have hlen := hok.2.2
  replace hcap := hcap u hu
  -- the file as it is ahead of the writing
  have hbase : ∃ fs1 f1, fs1 = (if (pget .str name D.2.1).isSome then D.2.1 else pput .str name ([], [], []) D.2.1) ∧ pget .str name fs1 = some f1 ∧ f1.1 = seenOf D.2.1 name ∧ f1.2.1 = safeOf D.2.1 name ∧ f1.2.2 = dirtyOf D.2.1 name ∧ FsOk fs1 ∧ FOk f1 ∧ ∀ b, name ≠ b → pget .str b fs1 = pget .str b D.2.1 := by
    cases hg : pget .str name D.2.1 with
    | some f => exact ⟨_, f, by simp, hg, by simp [seenOf, hg], by simp [safeOf, hg], by simp [dirtyOf, hg], hok, hok.get hg, fun _ _ => rfl⟩
    | none =>
      have hf0 : FOk ([], [], []) := ⟨(fun x hx => by cases hx), (fun x hx => by cases hx), by simp, by simp, by simp, (fun x hx => by cases hx)⟩
      exact ⟨_, ([], [], []), by simp, get_pput_self _ _ _, by simp [seenOf, hg], by simp [safeOf, hg], by simp [dirtyOf, hg], hok.put hf0 hroom, hf0, fun b hb => get_pput_ne hb _ _⟩
  obtain ⟨fs1, f1, hfs1, hg1, hs1, hsf, hdf, hok1, hfo, hne1⟩ := hbase
  have hsl : f1.1.length ≤ 1048576 := hfo.2.2.1
  rw [← hs1] at h1 hcap
  -- .. made longer
  have hlong : ∃ fs2 z, (fs2 = if at0 + (text.length : Int) > f1.1.length then pset .str name (f1.1 ++ List.replicate z 0, f1.2.1, f1.2.2) fs1 else fs1) ∧ z = Int.toNat (at0 + text.length - f1.1.length) := ⟨_, _, rfl, rfl⟩
  obtain ⟨fs2, z, hfs2, hz⟩ := hlong
  let f2s : List Int := if at0 + (text.length : Int) > f1.1.length then f1.1 ++ List.replicate z 0 else f1.1
  have hg2 : pget .str name fs2 = some (f2s, f1.2.1, f1.2.2) := by
    rw [hfs2]
    show _ = some ((if _ then _ else _), _, _)
    split
    · exact get_pset hg1
    · exact hg1
  have hne2 : ∀ b, name ≠ b → pget .str b fs2 = pget .str b D.2.1 := fun b hb => by
    rw [hfs2]
    split
    · rw [pget_pset_ne hb, hne1 b hb]
    · exact hne1 b hb
  have hk2 : fs2.map (·.1) = fs1.map (·.1) := by
    rw [hfs2]
    split
    · rw [pset_keys]
    · rfl
  have hf2l : (f2s.length : Int) = max (f1.1.length : Int) (at0 + text.length) := by
    show ((if _ then _ else _ : List Int).length : Int) = _
    split
    · rename_i hgt
      simp only [List.length_append, List.length_replicate, hz]; omega
    · omega
  have hf2b : byteOk f2s := by
    show byteOk (if _ then _ else _)
    split
    · exact byteOk_app2 hfo.1 (fun x hx => by rw [(List.mem_replicate.1 hx).2]; decide)
    · exact hfo.1
  have hov : laidOver f2s (Int.toNat at0) text = over f1.1 (Int.toNat at0) text := by
    rw [laid_over (by omega)]
    show over (if _ then _ else _) _ _ = _
    split
    · rename_i hgt
      exact over_zeros (by omega) (by omega) z (by rw [hz]; omega)
    · rfl
  have hok2 : FsOk fs2 := by
    rw [hfs2]
    split
    · rename_i hgt
      refine hok1.set ⟨byteOk_app2 hfo.1 (fun x hx => by rw [(List.mem_replicate.1 hx).2]; decide), hfo.2.1, ?_, ?_, hfo.2.2.2.2⟩
      · simp only [List.length_append, List.length_replicate, hz]; omega
      · have := hfo.2.2.2.1
        simp only [List.length_append, List.length_replicate]; omega
    · exact hok1
  -- the dirty sectors
  obtain ⟨ds, hds, hdn, hdb, hdm⟩ := write_l0 at0 text (fun o30 => some ((0 : Int), (D.1, pset .str name (laidOver f2s (Int.toNat at0) text, f1.2.1, o30) fs2, a, D.2.2.2.1, fl, o, p))) h0 hb (text.length + 2) (at0 / 64) f1.2.2 (by omega) (by omega) (by omega) (by omega) hfo.2.2.2.2.1 hfo.2.2.2.2.2
  refine ⟨e, a, fl, o, p, pset .str name (laidOver f2s (Int.toNat at0) text, f1.2.1, ds) fs2, hc, ?_, ?_, ⟨ds, ?_⟩, fun b hb => by rw [pget_pset_ne hb, hne2 b hb], by rw [pset_keys, hk2, hfs1]⟩
  · have hsz : (0 : Int) ≤ (f1.1.length : Int) := by omega
    have hw1 : IntKind.wrap .i64 (at0 + (text.length : Int)) = at0 + text.length := wrap_i64 (by omega) (by omega)
    have hw2 : IntKind.wrap .i64 (at0 + (text.length : Int) - f1.1.length) = at0 + text.length - f1.1.length := wrap_i64 (by omega) (by omega)
    have hw3 : IntKind.wrap .i64 (u + max 0 (at0 + (text.length : Int) - f1.1.length)) = u + max 0 (at0 + (text.length : Int) - f1.1.length) := wrap_i64 (by omega) (by omega)
    have htd : IntKind.wrap .i64 (Int.tdiv at0 64) = at0 / 64 := by rw [Int.tdiv_eq_ediv_of_nonneg h0]; exact wrap_i64 (by omega) (by omega)
    -- what follows the checks
    have tail : ∀ (n0 : Int), n0 = f1.1.length → ∀ k16fs : List (List Int × FileS), k16fs = fs1 → (fun (o17 : List (List Int × FileS)) => if (decide (at0 + (text.length : Int) > n0)) = true then ((pget .str name o17).bind fun (f41 : FileS) => if 0 ≤ at0 + (text.length : Int) - n0 ∧ (List.length f41.1 + Int.toNat (at0 + (text.length : Int) - n0)) * 1 ≤ 140737488355328 then
        ((pget .str name (pset .str name ((f41.1 ++ List.replicate (Int.toNat (at0 + (text.length : Int) - n0)) 0), f41.2.1, f41.2.2) o17)).bind fun (f22 : FileS) => if (0 : Int) ≤ at0 ∧ at0 ≤ (List.length f22.1 : Int) ∧ (List.length f22.1 : Int) ≤ (List.length f22.1 : Int) then disk_Disk_Write_l0 at0 text (fun o30 => some ((0 : Int), (D.1, (pset .str name ((laidOver f22.1 (Int.toNat at0) text), f22.2.1, o30) (pset .str name ((f41.1 ++ List.replicate (Int.toNat (at0 + (text.length : Int) - n0)) 0), f41.2.1, f41.2.2) o17)), a, D.2.2.2.1, fl, o, p))) (text.length + 2) (at0 / 64, f22.2.2) else none) else none) else
        ((pget .str name o17).bind fun (f22 : FileS) => if (0 : Int) ≤ at0 ∧ at0 ≤ (List.length f22.1 : Int) ∧ (List.length f22.1 : Int) ≤ (List.length f22.1 : Int) then disk_Disk_Write_l0 at0 text (fun o30 => some ((0 : Int), (D.1, (pset .str name ((laidOver f22.1 (Int.toNat at0) text), f22.2.1, o30) o17), a, D.2.2.2.1, fl, o, p))) (text.length + 2) (at0 / 64, f22.2.2) else none)) k16fs = some (0, (D.1, pset .str name (laidOver f2s (Int.toNat at0) text, f1.2.1, ds) fs2, a, D.2.2.2.1, fl, o, p)) := by
      rintro n0 hn0 k16fs rfl
      subst hn0
      rw [← hds]
      show (if _ then _ else _) = _
      by_cases hgt : at0 + (text.length : Int) > f1.1.length
      · have e1 : f2s = f1.1 ++ List.replicate z 0 := if_pos hgt
        have e2 : fs2 = pset .str name (f1.1 ++ List.replicate z 0, f1.2.1, f1.2.2) k16fs := by rw [hfs2, if_pos hgt]
        rw [if_pos (by simpa using hgt), hg1]
        simp only [Option.bind_some]
        rw [if_pos (by omega), ← hz, ← e2, hg2]
        simp only [Option.bind_some]
        rw [if_pos (by omega)]
      · have e1 : f2s = f1.1 := if_neg hgt
        have e2 : fs2 = k16fs := by rw [hfs2, if_neg hgt]
        rw [if_neg (by simpa using hgt)]
        rw [e2] at hg2
        rw [hg2]
        simp only [Option.bind_some]
        rw [if_pos (by omega), e2]
    unfold disk_Disk_Write
    rw [if_neg (by simp [ho])]
    simp only [bnd_eq, hn, hu, hc, Option.bind_some]
    have hne : ∀ n0 : Int, n0 = f1.1.length → (if (decide (at0 < 0) || decide (at0 > n0)) = true then some (1, D)
    else
      if decide (IntKind.i64.wrap (at0 + ↑text.length) > 1048576) = true then some (3, D)
      else
        if decide (IntKind.i64.wrap (u + max 0 (IntKind.i64.wrap (IntKind.i64.wrap (at0 + ↑text.length) - n0))) > D.fst) = true then some (41, D)
        else if (e != 0) = true then some (e, D.fst, D.snd.fst, a, D.snd.snd.snd.fst, fl, o, p) else some (0, (D.1, pset .str name (laidOver f2s (Int.toNat at0) text, f1.2.1, ds) fs2, a, D.2.2.2.1, fl, o, p))) = some (if e = 0 then (0, (D.1, pset .str name (laidOver f2s (Int.toNat at0) text, f1.2.1, ds) fs2, a, D.2.2.2.1, fl, o, p)) else (e, (D.1, D.2.1, a, D.2.2.2.1, fl, o, p))) := by
      rintro n0 rfl
      rw [hw1, hw2, hw3, if_neg (by simp only [Bool.or_eq_true, decide_eq_true_eq]; omega), if_neg (by simp only [decide_eq_true_eq]; omega), if_neg (by simp only [decide_eq_true_eq]; omega)]
      by_cases he : e = 0
      · rw [if_neg (by simp [he]), if_pos he]
      · rw [if_pos (by simpa using he), if_neg he]
    cases hg : pget .str name D.2.1 with
    | none =>
      rw [hg] at hfs1
      simp only [Option.isSome_none, Bool.false_eq_true, if_false] at hfs1
      have hfe : f1 = ([], [], []) := by rw [hfs1, get_pput_self] at hg1; exact (Option.some.inj hg1).symm
      have hl0 : (0 : Int) = (f1.1.length : Int) := by rw [hfe]; rfl
      have hr := hroom hg
      rw [← hne 0 hl0, ← tail 0 hl0 _ hfs1.symm]
      simp only [Option.isSome_none, Bool.false_eq_true, if_false, Bool.not_true, Bool.false_or, Bool.not_false, if_true]
      have hm : D.2.1.length ≤ most := by simp only [most]; omega
      have h16 : ¬ decide ((D.2.1.length : Int) ≥ 16) = true := by simp only [decide_eq_true_eq]; omega
      have h62 : D.2.1.length < 4611686018427387904 := by omega
      simp only [if_pos hm, if_neg h16, if_pos h62, htd, hw1]
      have hw2' : IntKind.wrap .i64 (at0 + (text.length : Int) - 0) = at0 + text.length - 0 := wrap_i64 (by omega) (by omega)
      simp only [hw2']
    | some f =>
      rw [hg] at hfs1
      simp only [Option.isSome_some, if_true] at hfs1
      have hff : f1 = f := by rw [hfs1, hg] at hg1; exact (Option.some.inj hg1).symm
      have hl0 : (f.1.length : Int) = (f1.1.length : Int) := by rw [hff]
      rw [← hne _ hl0, ← tail _ hl0 _ hfs1.symm]
      simp only [Option.isSome_some, if_true, Option.bind_some, Bool.not_true, Bool.false_or, Bool.false_eq_true, if_false]
      have hw2' : IntKind.wrap .i64 (at0 + (text.length : Int) - f.1.length) = at0 + text.length - f.1.length := by rw [hl0]; exact hw2
      simp only [htd, hw1, hw2', hg, Option.bind_some]
  · refine hok2.set ⟨?_, hfo.2.1, ?_, ?_, hdn, hdb⟩
    · show byteOk (laidOver _ _ _)
      rw [hov]; exact over_bytes hfo.1 ht
    · show (laidOver _ _ _).length ≤ _
      rw [hov, over_length (by omega)]; omega
    · show f1.2.1.length ≤ (laidOver _ _ _).length
      have := hfo.2.2.2.1
      rw [hov, over_length (by omega)]; omega
  · refine ⟨by rw [get_pset hg2, hov, hs1, hsf], fun x => ?_⟩
    rw [← hdf]; exact hdm x
theorem Write_core {D : DiskS} {name text : List Int} {at0 : Int} (hok : FsOk D.2.1) (ho : D.2.2.2.2.2.1 = false) (hn : disk_isName name = some true) (ht : byteOk text) (h0 : 0 ≤ at0) (h1 : at0 ≤ (seenOf D.2.1 name).length) (hb : at0 + text.length ≤ 1048576)
    (hroom : pget .str name D.2.1 = none → D.2.1.length < 16) (hcap : ∀ u, disk_Disk_Used D = some u → u + max 0 (at0 + text.length - (seenOf D.2.1 name).length) ≤ D.1) :
    ∃ e a fl o p fs', disk_Disk_counted D 1 = some (e, (D.1, D.2.1, a, D.2.2.2.1, fl, o, p)) ∧ disk_Disk_Write D name at0 text = some (if e = 0 then (0, (D.1, fs', a, D.2.2.2.1, fl, o, p)) else (e, (D.1, D.2.1, a, D.2.2.2.1, fl, o, p))) ∧
      FsOk fs' ∧ (∃ ds, pget .str name fs' = some (over (seenOf D.2.1 name) at0.toNat text, safeOf D.2.1 name, ds)) ∧ (∀ b, name ≠ b → pget .str b fs' = pget .str b D.2.1) ∧ fs'.map (·.1) = (if (pget .str name D.2.1).isSome then D.2.1 else pput .str name ([], [], []) D.2.1).map (·.1) := by
  obtain ⟨e, a, fl, o, p, fs', g1, g2, g3, ⟨ds, g4, _⟩, g5, g6⟩ := Write_core2 hok ho hn ht h0 h1 hb hroom hcap
  exact ⟨e, a, fl, o, p, fs', g1, g2, g3, ⟨ds, g4⟩, g5, g6⟩
theorem Write_eq {D : DiskS} {name text : List Int} {at0 : Int} (hok : FsOk D.2.1) (ho : D.2.2.2.2.2.1 = false) (hn : disk_isName name = some true) (ht : byteOk text) (h0 : 0 ≤ at0) (h1 : at0 ≤ (seenOf D.2.1 name).length) (hb : at0 + text.length ≤ 1048576)
    (hroom : pget .str name D.2.1 = none → D.2.1.length < 16) (hcap : (D.2.1.length + 1 : Int) * 1048576 ≤ D.1) :
    ∃ e a fl o p fs', disk_Disk_counted D 1 = some (e, (D.1, D.2.1, a, D.2.2.2.1, fl, o, p)) ∧ disk_Disk_Write D name at0 text = some (if e = 0 then (0, (D.1, fs', a, D.2.2.2.1, fl, o, p)) else (e, (D.1, D.2.1, a, D.2.2.2.1, fl, o, p))) ∧
      FsOk fs' ∧ (∃ ds, pget .str name fs' = some (over (seenOf D.2.1 name) at0.toNat text, safeOf D.2.1 name, ds)) ∧ (∀ b, name ≠ b → pget .str b fs' = pget .str b D.2.1) ∧ fs'.map (·.1) = (if (pget .str name D.2.1).isSome then D.2.1 else pput .str name ([], [], []) D.2.1).map (·.1) :=
  Write_core hok ho hn ht h0 h1 hb hroom fun u hu => by
    obtain ⟨u', hu', hu0, hu1⟩ := Used_eq hok
    rw [hu] at hu'
    cases hu'
    omega
end Sx
namespace Sx
open Go

abbrev FateS := List Int × Int × Int × List Int × Unit
def FatesOk (l : List FateS) : Prop := l.length < 4611686018427387904 ∧ ∀ x ∈ l, byteOk x.2.2.2.1 ∧ x.2.2.2.1.length ≤ 140737488355328
def fate0 : FateS := ([], 0, 0, [], ())

theorem fateOf_l0 (l : List FateS) (hl : l.length < 4611686018427387904) (name : List Int) (s : Int) (k : Unit → Option FateS) : ∀ (j i : Nat), i + j = l.length → (∃ r ∈ l, disk_fateOf_l0 l name s k (j + 1) (i : Int) = some r) ∨ disk_fateOf_l0 l name s k (j + 1) (i : Int) = k ()
  | 0, i, h => .inr (by simp only [disk_fateOf_l0]; rw [if_neg (by simp only [decide_eq_true_eq]; omega)])
  | j + 1, i, h => by
    have e : disk_fateOf_l0 l name s k (j + 1 + 1) (i : Int) = if ((List.getD l i fate0).1 == name && (List.getD l i fate0).2.1 == s) = true then some (List.getD l i fate0) else disk_fateOf_l0 l name s k (j + 1) ((i + 1 : Nat) : Int) := by
      conv => lhs; simp only [disk_fateOf_l0]
      rw [if_pos (by simp only [decide_eq_true_eq]; omega), if_pos (by omega)]
      simp only [bnd_eq, Int.toNat_natCast]
      rw [wrap_i64 (by omega) (by omega)]
      rfl
    rw [e]
    split
    · left
      have hi : i < l.length := by omega
      refine ⟨_, ?_, rfl⟩
      rw [List.getD_eq_getElem?_getD, List.getElem?_eq_getElem hi, Option.getD_some]
      exact List.getElem_mem hi
    · exact fateOf_l0 l hl name s k j (i + 1) (by omega)
theorem fateOf_eq {l : List FateS} (hl : FatesOk l) (name : List Int) (s : Int) : ∃ r, disk_fateOf l name s = some r ∧ byteOk r.2.2.2.1 ∧ r.2.2.2.1.length ≤ 140737488355328 := by
  unfold disk_fateOf
  simp only [bnd_eq]
  have e : Int.toNat ((l.length : Int) - 0) + 1 = l.length + 1 := by omega
  rw [e]
  rcases fateOf_l0 l hl.1 name s (fun _ => some fate0) l.length 0 (by omega) with ⟨r, hr, h⟩ | h
  · exact ⟨r, h, hl.2 r hr⟩
  · exact ⟨fate0, h, (fun x hx => by cases hx), by simp [fate0]⟩

def MapOk (m : List (Int × FateS)) : Prop := ∀ p ∈ m, byteOk p.2.2.2.2.1 ∧ p.2.2.2.2.1.length ≤ 140737488355328
theorem ipins_mem {k : Int} {v : FateS} {q : Int × FateS} : ∀ {l : List (Int × FateS)}, q ∈ pins (.int .i64) k v l → q = (k, v) ∨ q ∈ l
  | [], h => by simp [pins] at h; exact .inl h
  | p :: l, h => by
    simp only [pins] at h
    split at h
    · rcases List.mem_cons.1 h with h | h
      · exact .inl h
      · exact .inr h
    · rcases List.mem_cons.1 h with h | h
      · exact .inr (by simp [h])
      · rcases ipins_mem h with h | h
        · exact .inl h
        · exact .inr (by simp [h])
theorem iput_ok {k : Int} {v : FateS} {m : List (Int × FateS)} (hm : MapOk m) (hv : byteOk v.2.2.2.1 ∧ v.2.2.2.1.length ≤ 140737488355328) : MapOk (pput (.int .i64) k v m) := fun p hp => by
  rcases ipins_mem hp with rfl | hp
  · exact hv
  · exact hm p (List.mem_filter.1 hp).1
theorem iput_len (k : Int) (v : FateS) (m : List (Int × FateS)) : (pput (.int .i64) k v m).length ≤ m.length + 1 := by
  unfold pput
  rw [pins_length]
  have : (pdel (.int .i64) k m).length ≤ m.length := List.length_filter_le _ _
  omega
theorem fall_fold {f : FileS} {name : List Int} {l : List FateS} (hl : FatesOk l) : ∀ (ks : List Int) (s : Int × List (Int × FateS)), 0 ≤ s.1 → s.1 ≤ f.1.length → s.2.length + ks.length < 4611686018427387904 → MapOk s.2 →
    ∃ s', foldK (disk_file_fall_l1 f name l) ks s = some s' ∧ 0 ≤ s'.1 ∧ s'.1 ≤ f.1.length ∧ MapOk s'.2
  | [], s, h0, h1, _, hm => ⟨s, rfl, h0, h1, hm⟩
  | k :: ks, s, h0, h1, hb, hm => by
    obtain ⟨r, hr, hrb⟩ := fateOf_eq hl name k
    simp only [List.length_cons] at hb
    have e : disk_file_fall_l1 f name l k s = some (if (r.2.2.1 == 1 || r.2.2.1 == 2) = true then max s.1 (min (IntKind.wrap .i64 (IntKind.wrap .i64 (k + 1) * 64)) (f.1.length : Int)) else s.1, pput (.int .i64) k r s.2) := by
      unfold disk_file_fall_l1
      simp only [hr, Option.bind_some, bnd_eq]
      rw [if_pos (by omega)]
      split <;> rfl
    have hlen := iput_len k r s.2
    have hmx : s.1 ≤ max s.1 (min (IntKind.wrap .i64 (IntKind.wrap .i64 (k + 1) * 64)) (f.1.length : Int)) := Int.le_max_left _ _
    have hmy : max s.1 (min (IntKind.wrap .i64 (IntKind.wrap .i64 (k + 1) * 64)) (f.1.length : Int)) ≤ (f.1.length : Int) := Int.max_le.2 ⟨h1, Int.min_le_right _ _⟩
    generalize max s.1 (min (IntKind.wrap .i64 (IntKind.wrap .i64 (k + 1) * 64)) (f.1.length : Int)) = mx at hmx hmy e
    obtain ⟨s', h2, h3, h4, h5⟩ := fall_fold (f := f) (name := name) hl ks (if (r.2.2.1 == 1 || r.2.2.1 == 2) = true then mx else s.1, pput (.int .i64) k r s.2)
      (by show (0 : Int) ≤ if _ then _ else _; split <;> omega) (by show (if _ then _ else _ : Int) ≤ _; split <;> omega) (by show (pput _ _ _ _).length + _ < _; omega) (iput_ok hm hrb)
    refine ⟨s', ?_, h3, h4, h5⟩
    show (disk_file_fall_l1 f name l k s).bind _ = _
    rw [e]; exact h2

theorem byteOk_set {l : List Int} {i : Nat} {c : Int} (h : byteOk l) (hc : 0 ≤ c ∧ c < 256) : byteOk (l.set i c) := fun x hx => by
  rcases List.mem_or_eq_of_mem_set hx with h' | rfl
  · exact h x h'
  · exact hc
theorem byteOk_getD {l : List Int} {i : Nat} (h : byteOk l) (hi : i < l.length) : 0 ≤ l.getD i 0 ∧ l.getD i 0 < 256 := by
  rw [List.getD_eq_getElem?_getD, List.getElem?_eq_getElem hi, Option.getD_some]; exact h _ (List.getElem_mem hi)
theorem mapOk_get {m : List (Int × FateS)} (h : MapOk m) (s : Int) : byteOk ((pget (.int .i64) s m).getD ([], 0, 0, [], ())).2.2.2.1 ∧ ((pget (.int .i64) s m).getD ([], 0, 0, [], ())).2.2.2.1.length ≤ 140737488355328 := by
  cases hg : pget (.int .i64) s m with
  | none => exact ⟨(fun x hx => by cases hx), by simp⟩
  | some r =>
    unfold pget at hg
    cases hf : m.find? (fun p => keq (.int .i64) p.1 s) with
    | none => rw [hf] at hg; cases hg
    | some p =>
      rw [hf] at hg
      simp only [Option.map_some, Option.some.injEq] at hg
      subst hg
      exact h p (List.mem_of_find?_eq_some hf)
theorem fall_out {f : FileS} (hf : byteOk f.2.1) (o8 : Int × List (Int × FateS)) (hm : MapOk o8.2) (r10 : List Int) (hr : r10.length ≤ 1048576) (k : List Int → Option FileS) : ∀ (j i : Nat) (out : List Int), i + j = r10.length → out.length = r10.length → byteOk out →
    ∃ out', disk_file_fall_l0 f o8 r10 k (j + 1) ((i : Int), out) = k out' ∧ out'.length = r10.length ∧ byteOk out' ∧ (o8.2 = [] → out' = out)
  | 0, i, out, h, hl, hb => ⟨out, by simp only [disk_file_fall_l0]; rw [if_neg (by simp only [decide_eq_true_eq]; omega)], hl, hb, fun _ => rfl⟩
  | j + 1, i, out, h, hl, hb => by
    have hi : i < r10.length := by omega
    have htd : IntKind.wrap .i64 (Int.tdiv (i : Int) 64) = ((i / 64 : Nat) : Int) := by
      rw [Int.tdiv_eq_ediv_of_nonneg (by omega)]; exact wrap_i64 (by omega) (by omega)
    have hnx : IntKind.wrap .i64 ((i : Int) + 1) = ((i + 1 : Nat) : Int) := wrap_i64 (by omega) (by omega)
    have hs64 : IntKind.wrap .i64 (((i / 64 : Nat) : Int) * 64) = ((i / 64 * 64 : Nat) : Int) := wrap_i64 (by omega) (by omega)
    have hi41 : IntKind.wrap .i64 ((i : Int) - ((i / 64 * 64 : Nat) : Int)) = ((i % 64 : Nat) : Int) := by
      rw [wrap_i64 (by omega) (by omega)]; omega
    obtain ⟨hx, hxl⟩ := mapOk_get hm ((i / 64 : Nat) : Int)
    -- the step
    have hstep : ∃ out1, disk_file_fall_l0 f o8 r10 k (j + 1 + 1) ((i : Int), out) = disk_file_fall_l0 f o8 r10 k (j + 1) (((i + 1 : Nat) : Int), out1) ∧ out1.length = r10.length ∧ byteOk out1 ∧ (o8.2 = [] → out1 = out) := by
      conv => arg 1; ext out1; lhs; lhs; simp only [disk_file_fall_l0]
      rw [if_pos (by simp only [decide_eq_true_eq]; omega)]
      simp only [bnd_eq, htd, hnx, hs64, hi41, Int.toNat_natCast]
      generalize hX : (pget (.int .i64) ((i / 64 : Nat) : Int) o8.2).getD ([], 0, 0, [], ()) = x at hx hxl ⊢
      by_cases c1 : (!(pget (.int .i64) ((i / 64 : Nat) : Int) o8.2).isSome || x.2.2.1 == 1) = true
      · rw [if_pos c1]
        exact ⟨out, rfl, hl, hb, fun _ => rfl⟩
      · rw [if_neg c1]
        have hne : o8.2 = [] → False := fun e => by
          rw [e] at c1
          exact c1 (by simp [pget])
        by_cases c2 : (x.2.2.1 == 2) = true
        · rw [if_pos c2, if_pos (by omega)]
          by_cases c3 : decide (((i % 64 : Nat) : Int) < (x.2.2.2.1.length : Int)) = true
          · have c3' : i % 64 < x.2.2.2.1.length := by simp only [decide_eq_true_eq] at c3; omega
            rw [if_pos c3, if_pos (by omega), if_pos (by rw [List.length_set]; omega)]
            exact ⟨_, rfl, by simp [hl], byteOk_set (byteOk_set hb (by decide)) (byteOk_getD hx c3'), fun e => (hne e).elim⟩
          · rw [if_neg c3]
            exact ⟨_, rfl, by simp [hl], byteOk_set hb (by decide), fun e => (hne e).elim⟩
        · rw [if_neg c2, if_pos (by omega)]
          by_cases c3 : decide ((i : Int) < (f.2.1.length : Int)) = true
          · have c3' : i < f.2.1.length := by simp only [decide_eq_true_eq] at c3; omega
            rw [if_pos c3, if_pos (by omega), if_pos (by rw [List.length_set]; omega)]
            exact ⟨_, rfl, by simp [hl], byteOk_set (byteOk_set hb (by decide)) (byteOk_getD hf c3'), fun e => (hne e).elim⟩
          · rw [if_neg c3]
            exact ⟨_, rfl, by simp [hl], byteOk_set hb (by decide), fun e => (hne e).elim⟩
    obtain ⟨out1, e1, l1, b1, s1⟩ := hstep
    obtain ⟨out', e2, l2, b2, s2⟩ := fall_out hf o8 hm r10 hr k j (i + 1) out1 (by omega) l1 b1
    exact ⟨out', e1.trans e2, l2, b2, fun e => (s2 e).trans (s1 e)⟩

theorem fall_eq {f : FileS} (hf : FOk f) (name : List Int) {l : List FateS} (hl : FatesOk l) : ∃ g, disk_file_fall f name l = some g ∧ FOk g ∧ g.2.1 = g.1 ∧ g.2.2 = [] ∧ (f.2.2 = [] → f.2.1 = f.1 → g = f) := by
  obtain ⟨hb1, hb2, hl1, hl2, hn, hd⟩ := hf
  have hdl := nodup_len hn hd
  obtain ⟨s', h1, h2, h3, h4⟩ := fall_fold (f := f) (name := name) hl f.2.2 ((f.2.1.length : Int), []) (by simp) (by simp; omega) (by simp; omega) (fun p hp => by cases hp)
  have hcl : slices_Clone__byte_byte (List.take (Int.toNat s'.1) f.1) = some (List.take (Int.toNat s'.1) f.1) := clone_eq (by simp; omega)
  have htl : (List.take (Int.toNat s'.1) f.1).length ≤ 1048576 := by simp; omega
  obtain ⟨out, e1, e2, e3, e4⟩ := fall_out (f := f) hb2 s' h4 (List.take (Int.toNat s'.1) f.1) htl (fun o13 => (slices_Clone__byte_byte o13).bind fun r17 => some (o13, r17, [])) (List.take (Int.toNat s'.1) f.1).length 0 (List.take (Int.toNat s'.1) f.1) (by omega) rfl (byteOk_of_subset (List.take_subset _ _) hb1)
  have hco : slices_Clone__byte_byte out = some out := clone_eq (by omega)
  refine ⟨(out, out, []), ?_, ⟨e3, e3, by show out.length ≤ _; omega, Nat.le_refl _, List.nodup_nil, fun s hs => by cases hs⟩, rfl, rfl, fun hd0 hs0 => ?_⟩
  · unfold disk_file_fall
    simp only [bnd_eq, h1, Option.bind_some]
    rw [if_pos (by omega), hcl]
    simp only [Option.bind_some]
    have ef : Int.toNat (((List.take (Int.toNat s'.1) f.1).length : Int) - 0) + 1 = (List.take (Int.toNat s'.1) f.1).length + 1 := by omega
    rw [ef]
    refine e1.trans ?_
    simp only [hco, Option.bind_some]
  · have hs' : s' = ((f.2.1.length : Int), []) := by
      rw [hd0] at h1
      exact (Option.some.inj h1).symm
    have := e4 (by rw [hs'])
    have ht : List.take (Int.toNat s'.1) f.1 = f.1 := by rw [hs', hs0]; simp
    rw [ht] at this
    rw [this]
    obtain ⟨a, b, c⟩ := f
    simp only at hd0 hs0 ⊢
    rw [hd0, hs0]
end Sx
namespace Sx
open Go

theorem crash_fold {l : List FateS} (hl : FatesOk l) : ∀ (ks : List (List Int)) (fs : List (List Int × FileS)), FsOk fs → (∀ k ∈ ks, (pget .str k fs).isSome) →
    ∃ fs', foldK (disk_Disk_Crash_l0 l) ks fs = some fs' ∧ FsOk fs' ∧ fs'.map (·.1) = fs.map (·.1) ∧ (∀ k f, pget .str k fs = some f → f.2.2 = [] → f.2.1 = f.1 → pget .str k fs' = some f) ∧ (∀ k g, (k ∈ ks ∨ ∀ f, pget .str k fs = some f → f.2.1 = f.1 ∧ f.2.2 = []) → pget .str k fs' = some g → g.2.1 = g.1 ∧ g.2.2 = [])
  | [], fs, hok, _ => ⟨fs, rfl, hok, rfl, fun _ _ h _ _ => h, fun k g h hg => by
      rcases h with h | h
      · cases h
      · exact h g hg⟩
  | k :: ks, fs, hok, hk => by
    obtain ⟨f, hf⟩ := Option.isSome_iff_exists.1 (hk k (by simp))
    obtain ⟨g, hg, hgo, hg1, hg2, hg3⟩ := fall_eq (hok.get hf) k hl
    have e : disk_Disk_Crash_l0 l k fs = some (pset .str k g fs) := by
      unfold disk_Disk_Crash_l0
      simp only [hf, Option.bind_some, hg]
    have hks : ∀ k' ∈ ks, (pget .str k' (pset .str k g fs)).isSome := fun k' hk' => by
      by_cases h : k = k'
      · subst h; rw [get_pset hf]; rfl
      · rw [pget_pset_ne h]; exact hk k' (by simp [hk'])
    obtain ⟨fs', h1, h2, h3, h4, h5⟩ := crash_fold hl ks (pset .str k g fs) (hok.set hgo) hks
    refine ⟨fs', ?_, h2, by rw [h3, pset_keys], fun k' f' hf' hd hs => ?_, fun k' g' hor hg' => ?_⟩
    · show (disk_Disk_Crash_l0 l k fs).bind _ = _
      rw [e]; exact h1
    · refine h4 k' f' ?_ hd hs
      by_cases h : k = k'
      · subst h
        rw [hf] at hf'
        obtain rfl := Option.some.inj hf'
        rw [get_pset hf, hg3 hd hs]
      · rw [pget_pset_ne h]; exact hf'
    · refine h5 k' g' ?_ hg'
      by_cases h : k' ∈ ks
      · exact .inl h
      · right
        intro f' hf'
        by_cases hkk : k = k'
        · subst hkk
          rw [get_pset hf] at hf'
          obtain rfl := Option.some.inj hf'
          exact ⟨hg1, hg2⟩
        · rw [pget_pset_ne hkk] at hf'
          rcases hor with hor | hor
          · rcases List.mem_cons.1 hor with h' | h'
            · exact absurd h'.symm hkk
            · exact absurd h' h
          · exact hor f' hf'

theorem Crash_eq {D : DiskS} {l : List FateS} (hl : FatesOk l) (hok : FsOk D.2.1) (hop : D.2.2.2.2.2.1 = true → D.2.2.2.2.2.2 = true) : ∃ fs', disk_Disk_Crash D l = some (D.1, fs', 0, D.2.2.2.1, 0, true, false) ∧ FsOk fs' ∧ fs'.map (·.1) = D.2.1.map (·.1) ∧
    (∀ k f, pget .str k D.2.1 = some f → f.2.2 = [] → f.2.1 = f.1 → pget .str k fs' = some f) ∧ (∀ k g, pget .str k fs' = some g → g.2.1 = g.1 ∧ g.2.2 = []) := by
  obtain ⟨fs', h1, h2, h3, h4, h5⟩ := crash_fold hl (D.2.1.map (·.1)) D.2.1 hok (fun k hk => by
    cases hg : pget .str k D.2.1 with
    | none => exact absurd hk (get_none.1 hg)
    | some f => rfl)
  refine ⟨fs', ?_, h2, h3, h4, fun k g hg => h5 k g (.inl ?_) hg⟩
  · unfold disk_Disk_Crash
    rw [if_neg]
    · simp only [bnd_eq, h1, Option.bind_some]
    · cases ho : D.2.2.2.2.2.1 with
      | false => simp
      | true => simp [hop ho]
  · rw [← h3]
    refine Classical.byContradiction fun hc => ?_
    have := get_none.2 hc
    rw [hg] at this; cases this
theorem On_eq' {D : DiskS} (hp : D.2.2.2.2.2.2 = false) : disk_Disk_On D = some (D.1, D.2.1, D.2.2.1, D.2.2.2.1, D.2.2.2.2.1, false, false) := by
  unfold disk_Disk_On
  simp only [bnd_eq, hp]
  rw [if_neg (by decide)]
theorem Fall_eq (D : DiskS) (n : Int) : disk_Disk_Fall D n = some (D.1, D.2.1, D.2.2.1, D.2.2.2.1, max n 0, D.2.2.2.2.2.1, D.2.2.2.2.2.2) := rfl
end Sx
namespace Sx
open Go

theorem dname_l0 (a : List Int) (hl : a.length < 4611686018427387904) (k : Unit → Option Bool) (hk : ∃ b, k () = some b) : ∀ (j i : Nat), i + j = a.length → ∃ b, disk_isName_l0 a k (j + 1) (i : Int) = some b
  | 0, i, h => by
    unfold disk_isName_l0
    rw [if_neg (by simp only [decide_eq_true_eq]; omega)]
    exact hk
  | j + 1, i, h => by
    unfold disk_isName_l0
    rw [if_pos (by simp only [decide_eq_true_eq]; omega)]
    have hin : (0 : Int) ≤ (i : Int) ∧ (i : Int) < (a.length : Int) := by omega
    have ew : IntKind.wrap .i64 ((i : Int) + 1) = ((i + 1 : Nat) : Int) := wrap_i64 (by omega) (by omega)
    obtain ⟨b, hb⟩ := dname_l0 a hl k hk j (i + 1) (by omega)
    simp only [bnd_eq, ew, hb, if_pos hin]
    by_cases h1 : decide (List.getD a (Int.toNat (i : Int)) 0 < 33) = true
    · rw [if_pos h1]; exact ⟨_, rfl⟩
    · rw [if_neg h1]
      by_cases h2 : decide (List.getD a (Int.toNat (i : Int)) 0 > 126) = true
      · rw [if_pos h2]; exact ⟨_, rfl⟩
      · rw [if_neg h2]; exact ⟨_, rfl⟩
theorem isName_any (a : List Int) (hl : a.length < 4611686018427387904) : ∃ b, disk_isName a = some b := by
  unfold disk_isName
  simp only [bnd_eq]
  have ef : Int.toNat ((a.length : Int) - 0) + 1 = a.length + 1 := by omega
  rw [ef]
  exact dname_l0 a hl _ ⟨_, rfl⟩ a.length 0 (by omega)

/-- a Write does nothing, or what it is to do -/
theorem Write_any3 {D : DiskS} {name text : List Int} {at0 : Int} (hok : FsOk D.2.1) (hat : rng .i64 at0) (ht : byteOk text) (htl : text.length ≤ 140737488355328) (hnl : name.length < 4611686018427387904) :
    (∃ e, e ≠ 0 ∧ disk_Disk_Write D name at0 text = some (e, D)) ∨
    (D.2.2.2.2.2.1 = false ∧ disk_isName name = some true ∧ 0 ≤ at0 ∧ at0 ≤ (seenOf D.2.1 name).length ∧ at0 + text.length ≤ 1048576 ∧ ∃ e a fl o p fs', disk_Disk_counted D 1 = some (e, (D.1, D.2.1, a, D.2.2.2.1, fl, o, p)) ∧ disk_Disk_Write D name at0 text = some (if e = 0 then (0, (D.1, fs', a, D.2.2.2.1, fl, o, p)) else (e, (D.1, D.2.1, a, D.2.2.2.1, fl, o, p))) ∧
      FsOk fs' ∧ (∃ ds, pget .str name fs' = some (over (seenOf D.2.1 name) at0.toNat text, safeOf D.2.1 name, ds) ∧ ∀ x, x ∈ ds ↔ x ∈ dirtyOf D.2.1 name ∨ (text ≠ [] ∧ at0 / 64 ≤ x ∧ x * 64 < at0 + text.length)) ∧ (∀ b, name ≠ b → pget .str b fs' = pget .str b D.2.1) ∧ fs'.map (·.1) = (if (pget .str name D.2.1).isSome then D.2.1 else pput .str name ([], [], []) D.2.1).map (·.1) ∧ ∀ u, disk_Disk_Used D = some u → u + max 0 (at0 + text.length - (seenOf D.2.1 name).length) ≤ D.1) := by
  rcases Bool.eq_false_or_eq_true D.2.2.2.2.2.1 with ho | ho
  · exact .inl ⟨9, by decide, by unfold disk_Disk_Write; rw [if_pos ho]⟩
  ·
    obtain ⟨b, hb⟩ := isName_any name hnl
    obtain ⟨u, hu, hu0, hu1⟩ := Used_eq hok
    have hlen := hok.2.2
    have hm : D.2.1.length ≤ most := by simp only [most]; omega
    have hr : -9223372036854775808 ≤ at0 ∧ at0 ≤ 9223372036854775807 := by simpa only [rng, lo, Sx.hi] using hat
    have hsl : (seenOf D.2.1 name).length ≤ 1048576 := by
      unfold seenOf
      cases hg : pget .str name D.2.1 with
      | none => simp
      | some f => exact (hok.get hg).2.2.1
    -- the function as the file's size has it
    have hw : disk_Disk_Write D name at0 text = disk_Disk_Write D name at0 text := rfl
    by_cases c1 : b = true ∧ 0 ≤ at0 ∧ at0 ≤ (seenOf D.2.1 name).length
    · obtain ⟨rfl, h0, h1⟩ := c1
      have hw1 : IntKind.wrap .i64 (at0 + (text.length : Int)) = at0 + text.length := wrap_i64 (by omega) (by omega)
      by_cases c2 : at0 + text.length ≤ 1048576
      · by_cases c3 : pget .str name D.2.1 = none → D.2.1.length < 16
        · by_cases c4 : u + max 0 (at0 + text.length - (seenOf D.2.1 name).length) ≤ D.1
          · have hcap : ∀ u', disk_Disk_Used D = some u' → u' + max 0 (at0 + text.length - (seenOf D.2.1 name).length) ≤ D.1 := fun u' hu' => by rw [hu] at hu'; cases hu'; exact c4
            obtain ⟨e, a, fl, o, p, fs', g1, g2, g3, g4, g5, g6⟩ := Write_core2 hok ho hb ht h0 h1 c2 c3 hcap
            exact .inr ⟨ho, hb, h0, h1, c2, e, a, fl, o, p, fs', g1, g2, g3, g4, g5, g6, hcap⟩
          · refine .inl ⟨41, by decide, ?_⟩
            unfold disk_Disk_Write
            rw [if_neg (by simp [ho])]
            simp only [bnd_eq, hb, hu, Option.bind_some, hw1]
            have hw2 : IntKind.wrap .i64 (at0 + (text.length : Int) - (seenOf D.2.1 name).length) = at0 + text.length - (seenOf D.2.1 name).length := wrap_i64 (by omega) (by omega)
            have hw3 : IntKind.wrap .i64 (u + max 0 (at0 + (text.length : Int) - (seenOf D.2.1 name).length)) = u + max 0 (at0 + (text.length : Int) - (seenOf D.2.1 name).length) := wrap_i64 (by omega) (by omega)
            cases hg : pget .str name D.2.1 with
            | none =>
              have hz : seenOf D.2.1 name = [] := by simp [seenOf, hg]
              rw [hz] at hw2 hw3 c4 h1
              simp only [List.length_nil, Int.natCast_zero] at hw2 hw3 c4 h1
              have h16 := c3 hg
              simp only [Option.isSome_none, Bool.false_eq_true, if_false, Bool.not_true, Bool.false_or, Bool.not_false, if_true, hw2, hw3]
              rw [if_neg (by simp only [Bool.or_eq_true, decide_eq_true_eq]; omega), if_neg (by simp only [decide_eq_true_eq]; omega), if_pos hm, if_neg (by simp only [decide_eq_true_eq]; omega), if_pos (by simp only [decide_eq_true_eq]; omega)]
            | some f =>
              have hz : seenOf D.2.1 name = f.1 := by simp [seenOf, hg]
              rw [hz] at hw2 hw3 c4 h1
              simp only [Option.isSome_some, if_true, Option.bind_some, Bool.not_true, Bool.false_or, Bool.false_eq_true, if_false, hw2, hw3]
              rw [if_neg (by simp only [Bool.or_eq_true, decide_eq_true_eq]; omega), if_neg (by simp only [decide_eq_true_eq]; omega), if_pos (by simp only [decide_eq_true_eq]; omega)]
        · have hg : pget .str name D.2.1 = none := Classical.byContradiction fun h => c3 (fun h' => absurd h' h)
          have h16 : ¬ D.2.1.length < 16 := fun h => c3 (fun _ => h)
          have hz : seenOf D.2.1 name = [] := by simp [seenOf, hg]
          rw [hz] at h1
          simp only [List.length_nil, Int.natCast_zero] at h1
          refine .inl ⟨6, by decide, ?_⟩
          unfold disk_Disk_Write
          rw [if_neg (by simp [ho])]
          simp only [bnd_eq, hb, Option.bind_some, hw1, hg, Option.isSome_none, Bool.false_eq_true, if_false, Bool.not_true, Bool.false_or, Bool.not_false, if_true]
          rw [if_neg (by simp only [Bool.or_eq_true, decide_eq_true_eq]; omega), if_neg (by simp only [decide_eq_true_eq]; omega), if_pos hm, if_pos (by simp only [decide_eq_true_eq]; omega)]
      · refine .inl ⟨3, by decide, ?_⟩
        unfold disk_Disk_Write
        rw [if_neg (by simp [ho])]
        simp only [bnd_eq, hb, Option.bind_some, hw1]
        cases hg : pget .str name D.2.1 with
        | none =>
          have hz : seenOf D.2.1 name = [] := by simp [seenOf, hg]
          rw [hz] at h1
          simp only [List.length_nil, Int.natCast_zero] at h1
          simp only [Option.isSome_none, Bool.false_eq_true, if_false, Bool.not_true, Bool.false_or]
          rw [if_neg (by simp only [Bool.or_eq_true, decide_eq_true_eq]; omega), if_pos (by simp only [decide_eq_true_eq]; omega)]
        | some f =>
          have hz : seenOf D.2.1 name = f.1 := by simp [seenOf, hg]
          rw [hz] at h1
          simp only [Option.isSome_some, if_true, Option.bind_some, Bool.not_true, Bool.false_or]
          rw [if_neg (by simp only [Bool.or_eq_true, decide_eq_true_eq]; omega), if_pos (by simp only [decide_eq_true_eq]; omega)]
    · refine .inl ⟨1, by decide, ?_⟩
      unfold disk_Disk_Write
      rw [if_neg (by simp [ho])]
      simp only [bnd_eq, hb, Option.bind_some]
      cases hg : pget .str name D.2.1 with
      | none =>
        have hz : seenOf D.2.1 name = [] := by simp [seenOf, hg]
        rw [hz] at c1
        simp only [List.length_nil, Int.natCast_zero] at c1
        simp only [Option.isSome_none, Bool.false_eq_true, if_false]
        rw [if_pos (by cases b <;> simp only [Bool.not_false, Bool.not_true, Bool.true_or, Bool.false_or, Bool.or_eq_true, decide_eq_true_eq, true_and] at c1 ⊢; omega)]
      | some f =>
        have hz : seenOf D.2.1 name = f.1 := by simp [seenOf, hg]
        rw [hz] at c1
        simp only [Option.isSome_some, if_true, Option.bind_some]
        rw [if_pos (by cases b <;> simp only [Bool.not_false, Bool.not_true, Bool.true_or, Bool.false_or, Bool.or_eq_true, decide_eq_true_eq, true_and] at c1 ⊢; omega)]

theorem Write_any2 {D : DiskS} {name text : List Int} {at0 : Int} (hok : FsOk D.2.1) (hat : rng .i64 at0) (ht : byteOk text) (htl : text.length ≤ 140737488355328) (hnl : name.length < 4611686018427387904) :
    (∃ e, e ≠ 0 ∧ disk_Disk_Write D name at0 text = some (e, D)) ∨
    (D.2.2.2.2.2.1 = false ∧ disk_isName name = some true ∧ 0 ≤ at0 ∧ at0 ≤ (seenOf D.2.1 name).length ∧ at0 + text.length ≤ 1048576 ∧ ∃ e a fl o p fs', disk_Disk_counted D 1 = some (e, (D.1, D.2.1, a, D.2.2.2.1, fl, o, p)) ∧ disk_Disk_Write D name at0 text = some (if e = 0 then (0, (D.1, fs', a, D.2.2.2.1, fl, o, p)) else (e, (D.1, D.2.1, a, D.2.2.2.1, fl, o, p))) ∧
      FsOk fs' ∧ (∃ ds, pget .str name fs' = some (over (seenOf D.2.1 name) at0.toNat text, safeOf D.2.1 name, ds) ∧ ∀ x, x ∈ ds ↔ x ∈ dirtyOf D.2.1 name ∨ (text ≠ [] ∧ at0 / 64 ≤ x ∧ x * 64 < at0 + text.length)) ∧ (∀ b, name ≠ b → pget .str b fs' = pget .str b D.2.1) ∧ fs'.map (·.1) = (if (pget .str name D.2.1).isSome then D.2.1 else pput .str name ([], [], []) D.2.1).map (·.1)) := by
  rcases Write_any3 hok hat ht htl hnl with h | ⟨ho, hb, h0, h1, c2, e, a, fl, o, p, fs', g1, g2, g3, g4, g5, g6, _⟩
  · exact .inl h
  · exact .inr ⟨ho, hb, h0, h1, c2, e, a, fl, o, p, fs', g1, g2, g3, g4, g5, g6⟩
theorem Write_any {D : DiskS} {name text : List Int} {at0 : Int} (hok : FsOk D.2.1) (hat : rng .i64 at0) (ht : byteOk text) (htl : text.length ≤ 140737488355328) (hnl : name.length < 4611686018427387904) :
    (∃ e, e ≠ 0 ∧ disk_Disk_Write D name at0 text = some (e, D)) ∨
    (D.2.2.2.2.2.1 = false ∧ disk_isName name = some true ∧ 0 ≤ at0 ∧ at0 ≤ (seenOf D.2.1 name).length ∧ at0 + text.length ≤ 1048576 ∧ ∃ e a fl o p fs', disk_Disk_counted D 1 = some (e, (D.1, D.2.1, a, D.2.2.2.1, fl, o, p)) ∧ disk_Disk_Write D name at0 text = some (if e = 0 then (0, (D.1, fs', a, D.2.2.2.1, fl, o, p)) else (e, (D.1, D.2.1, a, D.2.2.2.1, fl, o, p))) ∧
      FsOk fs' ∧ (∃ ds, pget .str name fs' = some (over (seenOf D.2.1 name) at0.toNat text, safeOf D.2.1 name, ds)) ∧ (∀ b, name ≠ b → pget .str b fs' = pget .str b D.2.1) ∧ fs'.map (·.1) = (if (pget .str name D.2.1).isSome then D.2.1 else pput .str name ([], [], []) D.2.1).map (·.1)) := by
  rcases Write_any2 hok hat ht htl hnl with h | ⟨g1, g2, g3, g4, g5, e, a, fl, o, p, fs', g6, g7, g8, ⟨ds, g9, _⟩, g10, g11⟩
  · exact .inl h
  · exact .inr ⟨g1, g2, g3, g4, g5, e, a, fl, o, p, fs', g6, g7, g8, ⟨ds, g9⟩, g10, g11⟩

theorem found_off {D : DiskS} (name : List Int) (ho : D.2.2.2.2.2.1 = true) : disk_Disk_found D name = some 9 := by
  unfold disk_Disk_found
  rw [if_pos ho]

theorem Size_eq {D : DiskS} {name : List Int} (ho : D.2.2.2.2.2.1 = false) : disk_Disk_Size D name = some (match pget .str name D.2.1 with | none => (0, 5) | some f => ((f.1.length : Int), 0)) := by
  unfold disk_Disk_Size
  rw [found_eq name ho]
  cases h : pget .str name D.2.1 with
  | none => rfl
  | some f => rfl
theorem List_eq {D : DiskS} (hok : FsOk D.2.1) (ho : D.2.2.2.2.2.1 = false) : disk_Disk_List D = some (D.2.1.map (·.1)) := by
  unfold disk_Disk_List
  have := hok.2.2
  rw [if_neg (by simp [ho]), if_pos (by omega)]
theorem Dirty_eq {D : DiskS} {name : List Int} (hok : FsOk D.2.1) (ho : D.2.2.2.2.2.1 = false) : disk_Disk_Dirty D name = some (match pget .str name D.2.1 with | none => [] | some f => f.2.2) := by
  unfold disk_Disk_Dirty
  rw [found_eq name ho]
  cases h : pget .str name D.2.1 with
  | none => rfl
  | some f =>
    have hf := hok.get h
    have := nodup_len hf.2.2.2.2.1 hf.2.2.2.2.2
    simp only [Option.isSome_some, if_true, Option.bind_some]
    rw [if_neg (by decide), if_pos (by omega)]

/-- the sectors ahead of a size -/
theorem cutKeys_mem {ks : List Int} {n : Int} {s : Int} : s ∈ cutKeys ks n → s ∈ ks := fun h => (List.mem_filter.1 h).1
theorem Truncate_any {D : DiskS} {name : List Int} {n : Int} (hok : FsOk D.2.1) :
    (∃ e, e ≠ 0 ∧ disk_Disk_Truncate D name n = some (e, D)) ∨
    (D.2.2.2.2.2.1 = false ∧ ∃ f, pget .str name D.2.1 = some f ∧ 0 ≤ n ∧ n ≤ f.1.length ∧ disk_Disk_Truncate D name n = some (0, (D.1, pset .str name (f.1.take n.toNat, f.2.1.take n.toNat, cutKeys f.2.2 n) D.2.1, D.2.2.1, D.2.2.2.1, D.2.2.2.2.1, D.2.2.2.2.2.1, D.2.2.2.2.2.2)) ∧
      FOk (f.1.take n.toNat, f.2.1.take n.toNat, cutKeys f.2.2 n)) := by
  rcases Bool.eq_false_or_eq_true D.2.2.2.2.2.1 with ho | ho
  · exact .inl ⟨9, by decide, by unfold disk_Disk_Truncate; rw [found_off name ho]; rfl⟩
  ·
    cases hg : pget .str name D.2.1 with
    | none => exact .inl ⟨5, by decide, by unfold disk_Disk_Truncate; rw [found_eq name ho, hg]; rfl⟩
    | some f =>
      have hf := hok.get hg
      have hl := hf.2.2.1
      have hl2 := hf.2.2.2.1
      by_cases hn : 0 ≤ n ∧ n ≤ f.1.length
      · refine .inr ⟨ho, f, rfl, hn.1, hn.2, ?_, ?_⟩
        · unfold disk_Disk_Truncate
          rw [found_eq name ho, hg]
          simp only [Option.isSome_some, if_true, Option.bind_some, bnd_eq]
          rw [if_neg (by decide), if_neg (by simp only [Bool.or_eq_true, decide_eq_true_eq]; omega), if_pos (by omega), clone_eq (by simp only [List.length_take]; omega)]
          simp only [Option.bind_some]
          have e1 : List.take (Int.toNat (min n (f.2.1.length : Int))) f.2.1 = f.2.1.take n.toNat := by
            rcases Int.le_total n (f.2.1.length : Int) with h | h
            · rw [Int.min_eq_left h]
            · rw [Int.min_eq_right h, Int.toNat_natCast, List.take_length, List.take_of_length_le (by omega)]
          rw [if_pos (by omega), e1]
        · refine ⟨fun x hx => hf.1 x (List.mem_of_mem_take hx), fun x hx => hf.2.1 x (List.mem_of_mem_take hx), ?_, ?_, hf.2.2.2.2.1.filter _, fun s hs => hf.2.2.2.2.2 s (cutKeys_mem hs)⟩
          · simp only [List.length_take]; omega
          · simp only [List.length_take]; omega
      · refine .inl ⟨1, by decide, ?_⟩
        unfold disk_Disk_Truncate
        rw [found_eq name ho, hg]
        simp only [Option.isSome_some, if_true, Option.bind_some, bnd_eq]
        rw [if_neg (by decide), if_pos (by simp only [Bool.or_eq_true, decide_eq_true_eq]; omega)]

/-- some of the bytes -/
theorem Read_at {D : DiskS} {name : List Int} {at0 n : Int} {f : FileS} (hok : FsOk D.2.1) (ho : D.2.2.2.2.2.1 = false) (hg : pget .str name D.2.1 = some f) (h0 : 0 ≤ at0) (h1 : at0 ≤ f.1.length) (hn : 0 ≤ n) : disk_Disk_Read D name at0 n = some ((f.1.drop at0.toNat).take n.toNat, 0) := by
  have hl := (hok.get hg).2.2.1
  unfold disk_Disk_Read
  rw [found_eq name ho, hg]
  simp only [Option.isSome_some, if_true, Option.bind_some, bnd_eq]
  rw [if_neg (by decide), if_neg (by simp only [Bool.or_eq_true, decide_eq_true_eq]; omega)]
  by_cases he : at0 ≥ (f.1.length : Int)
  · rw [if_pos (by simpa using he)]
    have : List.drop at0.toNat f.1 = [] := List.drop_eq_nil_of_le (by omega)
    rw [this, List.take_nil]
  · rw [if_neg (by simpa using he), if_pos (by omega), Int.toNat_natCast, List.take_length]
    rw [if_pos (by refine ⟨by omega, ?_, ?_⟩ <;> omega)]
    rcases Int.le_total n ((List.drop at0.toNat f.1).length : Int) with h | h
    · rw [Int.min_eq_left h]
    · rw [Int.min_eq_right h, Int.toNat_natCast, List.take_length, List.take_of_length_le (by omega)]
/-- a Read never does anything -/
theorem Read_any {D : DiskS} {name : List Int} {at0 n : Int} (hok : FsOk D.2.1) : ∃ r, disk_Disk_Read D name at0 n = some r := by
  rcases Bool.eq_false_or_eq_true D.2.2.2.2.2.1 with ho | ho
  · exact ⟨_, by unfold disk_Disk_Read; rw [found_off name ho]; rfl⟩
  ·
    cases hg : pget .str name D.2.1 with
    | none => exact ⟨_, by unfold disk_Disk_Read; rw [found_eq name ho, hg]; rfl⟩
    | some f =>
      by_cases h : 0 ≤ at0 ∧ at0 ≤ f.1.length ∧ 0 ≤ n
      · exact ⟨_, Read_at hok ho hg h.1 h.2.1 h.2.2⟩
      · unfold disk_Disk_Read
        rw [found_eq name ho, hg]
        simp only [Option.isSome_some, if_true, Option.bind_some, bnd_eq]
        rw [if_neg (by decide)]
        split
        · exact ⟨_, rfl⟩
        · rename_i hc
          simp only [Bool.or_eq_true, decide_eq_true_eq] at hc
          rw [if_pos (by simp only [decide_eq_true_eq]; omega)]
          exact ⟨_, rfl⟩
end Sx
namespace Sx
open Go
theorem Arm_eq (D : DiskS) (n w : Int) : disk_Disk_Arm D n w = some (D.1, D.2.1, if n < 1 ∨ w < 0 ∨ w > 2 then 0 else n, w, D.2.2.2.2.1, D.2.2.2.2.2.1, D.2.2.2.2.2.2) := by
  unfold disk_Disk_Arm
  simp only [bnd_eq]
  by_cases h : n < 1 ∨ w < 0 ∨ w > 2
  · rw [if_pos (by simp only [Bool.or_eq_true, decide_eq_true_eq]; omega), if_pos h]
  · rw [if_neg (by simp only [Bool.or_eq_true, decide_eq_true_eq]; omega), if_neg h]
end Sx
namespace Sx
open Go

/-- what stays: clean files under other names, and that a name is not there -/
structure Kept (x y : List Int) (D D' : DiskS) : Prop where
  ok : FsOk D'.2.1
  clean : ∀ b f, b ≠ x → b ≠ y → pget .str b D.2.1 = some f → f.2.2 = [] → f.2.1 = f.1 → pget .str b D'.2.1 = some f
  gone : ∀ b, b ≠ x → b ≠ y → pget .str b D.2.1 = none → pget .str b D'.2.1 = none

theorem Kept.same {x y : List Int} {D D' : DiskS} (hok : FsOk D.2.1) (h : D'.2.1 = D.2.1) : Kept x y D D' := ⟨by rw [h]; exact hok, fun b f _ _ g _ _ => by rw [h]; exact g, fun b _ _ g => by rw [h]; exact g⟩
theorem Kept.trans {x y : List Int} {A B C : DiskS} (h : Kept x y A B) (g : Kept x y B C) : Kept x y A C :=
  ⟨g.ok, fun b f h1 h2 h3 h4 h5 => g.clean b f h1 h2 (h.clean b f h1 h2 h3 h4 h5) h4 h5, fun b h1 h2 h3 => g.gone b h1 h2 (h.gone b h1 h2 h3)⟩

theorem Write_kept {D : DiskS} {name text : List Int} {at0 : Int} (hok : FsOk D.2.1) (hat : rng .i64 at0) (ht : byteOk text) (htl : text.length ≤ 140737488355328) (hnl : name.length < 4611686018427387904) (y : List Int) : ∃ e D', disk_Disk_Write D name at0 text = some (e, D') ∧ Kept name y D D' := by
  rcases Write_any hok hat ht htl hnl with ⟨e, _, h⟩ | ⟨_, _, _, _, _, e, a, fl, o, p, fs', _, hw, hok', _, hne, _⟩
  · exact ⟨e, D, h, Kept.same hok rfl⟩
  · by_cases he : e = 0
    · rw [if_pos he] at hw
      exact ⟨_, _, hw, hok', fun b f h1 _ g _ _ => by show pget .str b fs' = _; rw [hne b (fun e => h1 e.symm), g], fun b h1 _ g => by show pget .str b fs' = _; rw [hne b (fun e => h1 e.symm), g]⟩
    · rw [if_neg he] at hw
      exact ⟨_, _, hw, Kept.same hok rfl⟩
theorem Sync_kept {D : DiskS} {name : List Int} (hok : FsOk D.2.1) (y : List Int) : ∃ e D', disk_Disk_Sync D name = some (e, D') ∧ Kept name y D D' := by
  rcases Bool.eq_false_or_eq_true D.2.2.2.2.2.1 with ho | ho
  · exact ⟨9, D, by unfold disk_Disk_Sync; rw [found_off name ho]; rfl, Kept.same hok rfl⟩
  · cases hg : pget .str name D.2.1 with
    | none => exact ⟨5, D, by unfold disk_Disk_Sync; rw [found_eq name ho, hg]; rfl, Kept.same hok rfl⟩
    | some f =>
      obtain ⟨e, a, fl, o, p, _, hs⟩ := Sync_eq hok ho hg
      by_cases he : e = 0
      · rw [if_pos he] at hs
        have hf := hok.get hg
        refine ⟨_, _, hs, hok.set ⟨hf.1, hf.1, hf.2.2.1, Nat.le_refl _, List.nodup_nil, fun s hs => by cases hs⟩, fun b g h1 _ hb _ _ => ?_, fun b h1 _ hb => ?_⟩
        · show pget .str b (pset .str name _ D.2.1) = _
          rw [pget_pset_ne (fun e => h1 e.symm), hb]
        · show pget .str b (pset .str name _ D.2.1) = _
          rw [pget_pset_ne (fun e => h1 e.symm), hb]
      · rw [if_neg he] at hs
        exact ⟨_, _, hs, Kept.same hok rfl⟩
theorem Truncate_kept {D : DiskS} {name : List Int} {n : Int} (hok : FsOk D.2.1) (y : List Int) : ∃ e D', disk_Disk_Truncate D name n = some (e, D') ∧ Kept name y D D' := by
  rcases Truncate_any (D := D) (name := name) (n := n) hok with ⟨e, _, h⟩ | ⟨_, f, hg, _, _, h, hf⟩
  · exact ⟨e, D, h, Kept.same hok rfl⟩
  · refine ⟨_, _, h, hok.set hf, fun b g h1 _ hb _ _ => ?_, fun b h1 _ hb => ?_⟩
    · show pget .str b (pset .str name _ D.2.1) = _
      rw [pget_pset_ne (fun e => h1 e.symm), hb]
    · show pget .str b (pset .str name _ D.2.1) = _
      rw [pget_pset_ne (fun e => h1 e.symm), hb]
/-- a Rename does nothing, or what it is to do -/
theorem Rename_any {D : DiskS} {a b : List Int} (hok : FsOk D.2.1) (hbl : b.length < 4611686018427387904) :
    (∃ e, e ≠ 0 ∧ disk_Disk_Rename D a b = some (e, D)) ∨
    (D.2.2.2.2.2.1 = false ∧ ∃ f, pget .str a D.2.1 = some f ∧ disk_Disk_Rename D a b = some (0, (D.1, pput .str b f (pdel .str a D.2.1), D.2.2.1, D.2.2.2.1, D.2.2.2.2.1, D.2.2.2.2.2.1, D.2.2.2.2.2.2)) ∧ FsOk (pput .str b f (pdel .str a D.2.1))) := by
  rcases Bool.eq_false_or_eq_true D.2.2.2.2.2.1 with ho | ho
  · exact .inl ⟨9, by decide, by unfold disk_Disk_Rename; rw [found_off a ho]; rfl⟩
  · cases hg : pget .str a D.2.1 with
    | none => exact .inl ⟨5, by decide, by unfold disk_Disk_Rename; rw [found_eq a ho, hg]; rfl⟩
    | some f =>
      obtain ⟨q, hq⟩ := isName_any b hbl
      cases q with
      | false => exact .inl ⟨1, by decide, by unfold disk_Disk_Rename; rw [found_eq a ho, hg, hq]; rfl⟩
      | true =>
        refine .inr ⟨ho, f, rfl, Rename_eq hok ho hg hq, (hok.del a).put (hok.get hg) fun _ => ?_⟩
        have := pdel_length_lt hg
        have := hok.2.2
        omega
theorem Rename_kept {D : DiskS} {a b : List Int} (hok : FsOk D.2.1) (hbl : b.length < 4611686018427387904) : ∃ e D', disk_Disk_Rename D a b = some (e, D') ∧ Kept a b D D' := by
  rcases Rename_any (a := a) hok hbl with ⟨e, _, h⟩ | ⟨_, f, hg, h, hok'⟩
  · exact ⟨e, D, h, Kept.same hok rfl⟩
  · refine ⟨_, _, h, hok', fun k g h1 h2 hk _ _ => ?_, fun k h1 h2 hk => ?_⟩
    · show pget .str k (pput .str b f (pdel .str a D.2.1)) = _
      rw [get_pput_ne (fun e => h2 e.symm), get_pdel_ne (fun e => h1 e.symm), hk]
    · show pget .str k (pput .str b f (pdel .str a D.2.1)) = _
      rw [get_pput_ne (fun e => h2 e.symm), get_pdel_ne (fun e => h1 e.symm), hk]
theorem Remove_kept {D : DiskS} {a : List Int} (hok : FsOk D.2.1) (y : List Int) : ∃ e D', disk_Disk_Remove D a = some (e, D') ∧ Kept a y D D' := by
  rcases Bool.eq_false_or_eq_true D.2.2.2.2.2.1 with ho | ho
  · exact ⟨9, D, by unfold disk_Disk_Remove; rw [found_off a ho]; rfl, Kept.same hok rfl⟩
  · rw [Remove_eq ho]
    by_cases hg : (pget .str a D.2.1).isSome = true
    · rw [if_pos hg]
      refine ⟨_, _, rfl, hok.del a, fun k g h1 h2 hk _ _ => ?_, fun k h1 h2 hk => ?_⟩
      · show pget .str k (pdel .str a D.2.1) = _
        rw [get_pdel_ne (fun e => h1 e.symm), hk]
      · show pget .str k (pdel .str a D.2.1) = _
        rw [get_pdel_ne (fun e => h1 e.symm), hk]
    · rw [if_neg hg]
      exact ⟨_, _, rfl, Kept.same hok rfl⟩

/-- what a crash leaves, and going on -/
structure KeptAll (D D' : DiskS) : Prop where
  ok : FsOk D'.2.1
  clean : ∀ b f, pget .str b D.2.1 = some f → f.2.2 = [] → f.2.1 = f.1 → pget .str b D'.2.1 = some f
  keys : D'.2.1.map (·.1) = D.2.1.map (·.1)
theorem KeptAll.gone {D D' : DiskS} (h : KeptAll D D') {b : List Int} (g : pget .str b D.2.1 = none) : pget .str b D'.2.1 = none := by
  rw [get_none] at g ⊢
  rw [h.keys]; exact g
theorem KeptAll.kept {D D' : DiskS} (h : KeptAll D D') (x y : List Int) : Kept x y D D' := ⟨h.ok, fun b f _ _ => h.clean b f, fun _ _ _ => h.gone⟩
theorem Crash_kept {D : DiskS} {l : List FateS} (hl : FatesOk l) (hok : FsOk D.2.1) : ∃ D', disk_Disk_Crash D l = some D' ∧ KeptAll D D' ∧ D'.1 = D.1 ∧ D'.2.2.2.2.2.1 = true ∧ D'.2.2.2.2.2.2 = false := by
  by_cases h : D.2.2.2.2.2.1 = true ∧ D.2.2.2.2.2.2 = false
  · exact ⟨D, by unfold disk_Disk_Crash; rw [if_pos (by simp [h.1, h.2])], ⟨hok, fun _ _ g _ _ => g, rfl⟩, rfl, h.1, h.2⟩
  · obtain ⟨fs', h1, h2, h3, h4, _⟩ := Crash_eq (D := D) hl hok (fun ho => by
      cases hp : D.2.2.2.2.2.2 with
      | true => rfl
      | false => exact absurd ⟨ho, hp⟩ h)
    exact ⟨_, h1, ⟨h2, h4, h3⟩, rfl, rfl, rfl⟩
theorem FatesOk.nil : FatesOk [] := ⟨by simp, fun x hx => by cases hx⟩
theorem On_kept {D : DiskS} (hok : FsOk D.2.1) : ∃ D', disk_Disk_On D = some D' ∧ KeptAll D D' ∧ D'.1 = D.1 ∧ D'.2.2.2.2.2.1 = false ∧ D'.2.2.2.2.2.2 = false := by
  rcases Bool.eq_false_or_eq_true D.2.2.2.2.2.2 with hp | hp
  · obtain ⟨D1, h1, h2, h3, _, h5⟩ := Crash_kept FatesOk.nil hok
    refine ⟨(D1.1, D1.2.1, D1.2.2.1, D1.2.2.2.1, D1.2.2.2.2.1, false, D1.2.2.2.2.2.2), ?_, ⟨h2.ok, h2.clean, h2.keys⟩, h3, rfl, h5⟩
    unfold disk_Disk_On
    simp only [bnd_eq]
    rw [if_pos hp, h1]
    rfl
  · exact ⟨_, On_eq' hp, ⟨hok, fun _ _ g _ _ => g, rfl⟩, rfl, rfl, rfl⟩
end Sx
namespace Sx
open Go

abbrev OpS := Int × Bool × List Int × List Int × Int × Int × List Int × (List (List Int × Int × Int × List Int × Unit)) × Unit
def op0 : OpS := (0, false, [], [], 0, 0, [], [], ())
def OpOk (o : OpS) : Prop := o.2.2.1.length < 4611686018427387904 ∧ o.2.2.2.1.length < 4611686018427387904 ∧ rng .i64 o.2.2.2.2.1 ∧ byteOk o.2.2.2.2.2.2.1 ∧ o.2.2.2.2.2.2.1.length ≤ 140737488355328 ∧ FatesOk o.2.2.2.2.2.2.2.1
def OpsOk (l : List OpS) : Prop := l.length < 4611686018427387904 ∧ ∀ i, i < l.length → OpOk (List.getD l i op0)

def OpSmall {q0 q1 q5 q8 : OpS → Prop} {r0 r1 r2 r4 : FateS → Prop} (y : OpS) : Prop := q0 y ∧ q1 y ∧ (byteOk y.2.2.1 ∧ List.length y.2.2.1 ≤ 140737488351232) ∧ (byteOk y.2.2.2.1 ∧ List.length y.2.2.2.1 ≤ 140737488351232) ∧ rng .i64 y.2.2.2.2.1 ∧ q5 y ∧ (byteOk y.2.2.2.2.2.2.1 ∧ List.length y.2.2.2.2.2.2.1 ≤ 140737488351232) ∧ (List.length y.2.2.2.2.2.2.2.1 * 48 ≤ 140737488351232 ∧ ∀ z ∈ y.2.2.2.2.2.2.2.1, r0 z ∧ r1 z ∧ r2 z ∧ (byteOk z.2.2.2.1 ∧ List.length z.2.2.2.1 ≤ 140737488351232) ∧ r4 z) ∧ q8 y
theorem opsOk_of {a0 : List OpS} {q0 q1 q5 q8 : OpS → Prop} {r0 r1 r2 r4 : FateS → Prop} (h : List.length a0 * 104 ≤ 140737488351232 ∧ ∀ y ∈ a0, @OpSmall q0 q1 q5 q8 r0 r1 r2 r4 y) : OpsOk a0 := by
  refine ⟨by omega, fun i hi => ?_⟩
  have hmem : List.getD a0 i op0 ∈ a0 := by
    rw [List.getD_eq_getElem?_getD, List.getElem?_eq_getElem hi, Option.getD_some]
    exact List.getElem_mem hi
  obtain ⟨_, _, g1, g2, g3, _, g4, ⟨g5, g6⟩, _⟩ := h.2 _ hmem
  exact ⟨by omega, by omega, g3, g4.1, by omega, by omega, fun x hx => ⟨(g6 x hx).2.2.2.1.1, by have := (g6 x hx).2.2.2.1.2; omega⟩⟩

theorem step_any {D : DiskS} {o : OpS} (hok : FsOk D.2.1) (ho : OpOk o) : ∃ e D', escrowlaw04_step D o = some (e, D') ∧ Kept o.2.2.1 o.2.2.2.1 D D' := by
  obtain ⟨h1, h2, h3, h4, h5, h6⟩ := ho
  unfold escrowlaw04_step
  simp only [bnd_eq]
  by_cases c1 : (o.1 == 1) = true
  · obtain ⟨e, D', hw, hk⟩ := Write_kept hok h3 h4 h5 h1 o.2.2.2.1
    rw [if_pos c1, hw]; exact ⟨e, D', rfl, hk⟩
  rw [if_neg c1]
  by_cases c2 : (o.1 == 2) = true
  · obtain ⟨e, D', hw, hk⟩ := Sync_kept (name := o.2.2.1) hok o.2.2.2.1
    rw [if_pos c2, hw]; exact ⟨e, D', rfl, hk⟩
  rw [if_neg c2]
  by_cases c3 : (o.1 == 3) = true
  · obtain ⟨e, D', hw, hk⟩ := Truncate_kept (name := o.2.2.1) (n := o.2.2.2.2.2.1) hok o.2.2.2.1
    rw [if_pos c3, hw]; exact ⟨e, D', rfl, hk⟩
  rw [if_neg c3]
  by_cases c4 : (o.1 == 4) = true
  · obtain ⟨e, D', hw, hk⟩ := Rename_kept (a := o.2.2.1) hok h2
    rw [if_pos c4, hw]; exact ⟨e, D', rfl, hk⟩
  rw [if_neg c4]
  by_cases c5 : (o.1 == 5) = true
  · obtain ⟨e, D', hw, hk⟩ := Remove_kept (a := o.2.2.1) hok o.2.2.2.1
    rw [if_pos c5, hw]; exact ⟨e, D', rfl, hk⟩
  rw [if_neg c5]
  by_cases c7 : (o.1 == 7) = true
  · rw [if_pos c7, Arm_eq]; exact ⟨0, _, rfl, Kept.same hok rfl⟩
  rw [if_neg c7]
  by_cases c11 : (o.1 == 11) = true
  · rw [if_pos c11, Fall_eq]; exact ⟨0, _, rfl, Kept.same hok rfl⟩
  rw [if_neg c11]
  by_cases c8 : (o.1 == 8) = true
  · obtain ⟨D', hw, hk, _⟩ := Crash_kept h6 hok
    rw [if_pos c8, hw]; exact ⟨0, D', rfl, hk.kept _ _⟩
  rw [if_neg c8]
  by_cases c9 : (o.1 == 9) = true
  · obtain ⟨D', hw, hk, _⟩ := On_kept hok
    rw [if_pos c9, hw]; exact ⟨0, D', rfl, hk.kept _ _⟩
  rw [if_neg c9]
  exact ⟨0, D, rfl, Kept.same hok rfl⟩

theorem made_l0 {a0 : List OpS} (ha : OpsOk a0) (k : DiskS → Option (Int × DiskS)) : ∀ (j i : Nat) (D : DiskS), i + j = a0.length → FsOk D.2.1 → ∃ D', FsOk D'.2.1 ∧ escrowlaw04_made_l0 a0 k (j + 1) ((i : Int), D) = k D'
  | 0, i, D, h, hok => by
    refine ⟨D, hok, ?_⟩
    unfold escrowlaw04_made_l0
    rw [if_neg (by simp only [decide_eq_true_eq]; omega)]
  | j + 1, i, D, h, hok => by
    have hl := ha.1
    obtain ⟨e, D1, h1, h2⟩ := step_any hok (ha.2 i (by omega))
    obtain ⟨D', h3, h4⟩ := made_l0 ha k j (i + 1) D1 (by omega) h2.ok
    refine ⟨D', h3, ?_⟩
    have ew : IntKind.wrap .i64 ((i : Int) + 1) = ((i + 1 : Nat) : Int) := wrap_i64 (by omega) (by omega)
    unfold op0 at h1
    unfold escrowlaw04_made_l0
    simp only [bnd_eq, Int.toNat_natCast, h1, Option.bind_some, ew]
    rw [if_pos (by simp only [decide_eq_true_eq]; omega), if_pos (by omega), h4]
/-- a script that is played gives a disk that is on, and calm -/
theorem made_eq {a0 : List OpS} (ha : OpsOk a0) : ∃ D, escrowlaw04_made a0 = some (0, D) ∧ FsOk D.2.1 ∧ D.2.2.2.2.2.1 = false ∧ D.2.2.2.2.2.2 = false ∧ D.2.2.1 = 0 ∧ D.2.2.2.2.1 = 0 := by
  have hnew : disk_New 100000 = some (0, (100000, [], 0, 0, 0, false, false)) := by
    unfold disk_New
    simp only [bnd_eq]
    rw [if_neg (by decide)]
  have hok0 : FsOk ([] : List (List Int × FileS)) := ⟨(fun p hp => by cases hp), by simp, by simp⟩
  unfold escrowlaw04_made
  simp only [hnew, Option.bind_some, bnd_eq]
  rw [if_neg (by decide), if_pos trivial]
  have ef : Int.toNat ((a0.length : Int) - 0) + 1 = a0.length + 1 := by omega
  rw [ef]
  obtain ⟨D1, h1, h2⟩ := made_l0 ha (fun (o5 : DiskS) => (disk_Disk_On o5).bind fun (r6 : DiskS) => (disk_Disk_Arm r6 0 0).bind fun (r7 : DiskS) => (disk_Disk_Fall r7 0).bind fun (r8 : DiskS) => some (0, r8)) a0.length 0 (100000, [], 0, 0, 0, false, false) (by omega) hok0
  obtain ⟨D2, h3, h4, _, h6, h7⟩ := On_kept h1
  refine ⟨(D2.1, D2.2.1, 0, 0, 0, D2.2.2.2.2.2.1, D2.2.2.2.2.2.2), ?_, h4.ok, h6, h7, rfl, rfl⟩
  refine Eq.trans h2 ?_
  rw [h3]
  simp only [Option.bind_some, Arm_eq, Fall_eq]
  rfl

theorem dfirst_eq : escrowlaw04_first = some true := by decide +kernel

/-! ### Lists that are the same -/
theorem sameTexts_l0 (l : List (List Int)) (hl : l.length < 4611686018427387904) (k : Unit → Option Bool) : ∀ (j i : Nat), i + j = l.length → escrowlaw04_sameTexts_l0 l l k (j + 1) (i : Int) = k ()
  | 0, i, h => by
    unfold escrowlaw04_sameTexts_l0
    rw [if_neg (by simp only [decide_eq_true_eq]; omega)]
  | j + 1, i, h => by
    have ew : IntKind.wrap .i64 ((i : Int) + 1) = ((i + 1 : Nat) : Int) := wrap_i64 (by omega) (by omega)
    unfold escrowlaw04_sameTexts_l0
    simp only [bnd_eq, ew]
    rw [if_pos (by simp only [decide_eq_true_eq]; omega), if_pos (by omega), if_pos (by omega), if_neg (by simp)]
    exact sameTexts_l0 l hl k j (i + 1) (by omega)
theorem sameTexts_eq {l : List (List Int)} (hl : l.length < 4611686018427387904) : escrowlaw04_sameTexts l l = some true := by
  unfold escrowlaw04_sameTexts
  simp only [bnd_eq]
  have ef : Int.toNat ((l.length : Int) - 0) + 1 = l.length + 1 := by omega
  rw [if_neg (by simp), ef]
  exact sameTexts_l0 l hl _ l.length 0 (by omega)
end Sx
namespace Sx
open Go

def Tight (f : FileS) : Prop := (∀ s ∈ f.2.2, s * 64 < f.1.length) ∧ ∀ k : Nat, f.2.1.length ≤ k → k < f.1.length → ((k / 64 : Nat) : Int) ∈ f.2.2
structure Good (D : DiskS) : Prop where
  ok : FsOk D.2.1
  srt : Srt D.2.1
  tight : ∀ k f, pget .str k D.2.1 = some f → Tight f
theorem Good.same {D D' : DiskS} (g : Good D) (h : D'.2.1 = D.2.1) : Good D' := ⟨by rw [h]; exact g.ok, by rw [h]; exact g.srt, by rw [h]; exact g.tight⟩
theorem srt_keys {fs fs' : List (List Int × FileS)} (h : fs'.map (·.1) = fs.map (·.1)) (g : Srt fs) : Srt fs' := by unfold Srt at *; rw [h]; exact g
theorem tight_clean {x : List Int} : Tight (x, x, []) := ⟨fun s hs => (by cases hs), fun k h1 h2 => absurd h1 (Nat.not_le.2 h2)⟩

theorem Write_good {D : DiskS} {name text : List Int} {at0 : Int} (g : Good D) (hat : rng .i64 at0) (ht : byteOk text) (htl : text.length ≤ 140737488355328) (hnl : name.length < 4611686018427387904) : ∃ e D', disk_Disk_Write D name at0 text = some (e, D') ∧ Good D' := by
  rcases Write_any2 g.ok hat ht htl hnl with ⟨e, _, h⟩ | ⟨_, _, h0, h1, h2, e, a, fl, o, p, fs', _, hw, hok', ⟨ds, hg, hds⟩, hne, hk⟩
  · exact ⟨e, D, h, g⟩
  · by_cases he : e = 0
    · rw [if_pos he] at hw
      refine ⟨_, _, hw, hok', ?_, fun k f hkf => ?_⟩
      · refine srt_keys hk ?_
        split
        · exact g.srt
        · exact srt_put g.srt
      · by_cases hn : name = k
        · subst hn
          have hkf' : pget .str name fs' = some f := hkf
          rw [hg] at hkf'
          obtain rfl := Option.some.inj hkf'
          have hold : Tight (seenOf D.2.1 name, safeOf D.2.1 name, dirtyOf D.2.1 name) := by
            unfold seenOf safeOf dirtyOf
            cases hp : pget .str name D.2.1 with
            | none => exact ⟨fun s hs => (by cases hs), fun k _ h => absurd h (by simp)⟩
            | some f => exact g.tight name f hp
          have hL : (over (seenOf D.2.1 name) at0.toNat text).length = max (seenOf D.2.1 name).length (at0.toNat + text.length) := over_length (by omega)
          refine ⟨fun s hs => ?_, fun q h3 h4 => (hds _).2 ?_⟩
          · show s * 64 < ((over (seenOf D.2.1 name) at0.toNat text).length : Int)
            rw [hL]
            rcases (hds s).1 hs with hs | ⟨_, _, hs⟩
            · have := hold.1 s hs
              simp only at this
              omega
            · omega
          · simp only at h3 h4
            rw [hL] at h4
            by_cases hq : q < (seenOf D.2.1 name).length
            · exact .inl (hold.2 q h3 hq)
            · refine .inr ⟨fun e => ?_, by omega, by omega⟩
              rw [e] at h4
              simp only [List.length_nil] at h4
              omega
        · refine g.tight k f ?_
          have hkf' : pget .str k fs' = some f := hkf
          rwa [hne k hn] at hkf'
    · rw [if_neg he] at hw
      exact ⟨_, _, hw, g.same rfl⟩
theorem Sync_good {D : DiskS} {name : List Int} (g : Good D) : ∃ e D', disk_Disk_Sync D name = some (e, D') ∧ Good D' := by
  rcases Bool.eq_false_or_eq_true D.2.2.2.2.2.1 with ho | ho
  · exact ⟨9, D, by unfold disk_Disk_Sync; rw [found_off name ho]; rfl, g⟩
  · cases hg : pget .str name D.2.1 with
    | none => exact ⟨5, D, by unfold disk_Disk_Sync; rw [found_eq name ho, hg]; rfl, g⟩
    | some f =>
      obtain ⟨e, a, fl, o, p, _, hs⟩ := Sync_eq g.ok ho hg
      by_cases he : e = 0
      · rw [if_pos he] at hs
        have hf := g.ok.get hg
        refine ⟨_, _, hs, g.ok.set ⟨hf.1, hf.1, hf.2.2.1, Nat.le_refl _, List.nodup_nil, fun s hs => by cases hs⟩, srt_keys (pset_keys _ _ _) g.srt, fun k f' hk => ?_⟩
        by_cases hn : name = k
        · subst hn
          have hk' : pget .str name (pset .str name (f.1, f.1, []) D.2.1) = some f' := hk
          rw [get_pset hg] at hk'
          obtain rfl := Option.some.inj hk'
          exact tight_clean
        · have hk' : pget .str k (pset .str name (f.1, f.1, []) D.2.1) = some f' := hk
          rw [pget_pset_ne hn] at hk'
          exact g.tight k f' hk'
      · rw [if_neg he] at hs
        exact ⟨_, _, hs, g.same rfl⟩
theorem cutKeys_iff {ks : List Int} {n s : Int} (hs : 0 ≤ s ∧ s < 16384) : s ∈ cutKeys ks n ↔ s ∈ ks ∧ s * 64 < n := by
  unfold cutKeys
  rw [List.mem_filter, decide_eq_true_iff, wrap_i64 (by omega) (by omega)]
theorem Truncate_good {D : DiskS} {name : List Int} {n : Int} (g : Good D) : ∃ e D', disk_Disk_Truncate D name n = some (e, D') ∧ Good D' := by
  rcases Truncate_any (D := D) (name := name) (n := n) g.ok with ⟨e, _, h⟩ | ⟨_, f, hg, h0, h1, h, hf⟩
  · exact ⟨e, D, h, g⟩
  · refine ⟨_, _, h, g.ok.set hf, srt_keys (pset_keys _ _ _) g.srt, fun k f' hk => ?_⟩
    by_cases hn : name = k
    · subst hn
      have hk' : pget .str name (pset .str name (f.1.take n.toNat, f.2.1.take n.toNat, cutKeys f.2.2 n) D.2.1) = some f' := hk
      rw [get_pset hg] at hk'
      obtain rfl := Option.some.inj hk'
      have hold := g.tight name f hg
      have hfo := g.ok.get hg
      refine ⟨fun s hs => ?_, fun q h3 h4 => ?_⟩
      · simp only at hs ⊢
        have hsd := hfo.2.2.2.2.2 s (cutKeys_mem hs)
        have := ((cutKeys_iff hsd).1 hs).2
        simp only [List.length_take]; omega
      · simp only [List.length_take] at h3 h4 ⊢
        have hq := hold.2 q (by omega) (by omega)
        exact (cutKeys_iff (hfo.2.2.2.2.2 _ hq)).2 ⟨hq, by omega⟩
    · have hk' : pget .str k (pset .str name (f.1.take n.toNat, f.2.1.take n.toNat, cutKeys f.2.2 n) D.2.1) = some f' := hk
      rw [pget_pset_ne hn] at hk'
      exact g.tight k f' hk'
theorem get_del_some {a k : List Int} {f : FileS} {l : List (List Int × FileS)} (h : pget .str k (pdel .str a l) = some f) : pget .str k l = some f := by
  by_cases hk : a = k
  · subst hk
    rw [pget_del_self (kt := .str) l] at h; cases h
  · rwa [get_pdel_ne hk] at h
theorem Rename_good {D : DiskS} {a b : List Int} (g : Good D) (hbl : b.length < 4611686018427387904) : ∃ e D', disk_Disk_Rename D a b = some (e, D') ∧ Good D' := by
  rcases Rename_any (a := a) g.ok hbl with ⟨e, _, h⟩ | ⟨_, f, hg, h, hok'⟩
  · exact ⟨e, D, h, g⟩
  · refine ⟨_, _, h, hok', srt_put (srt_del g.srt), fun k f' hk => ?_⟩
    have hk' : pget .str k (pput .str b f (pdel .str a D.2.1)) = some f' := hk
    by_cases hn : b = k
    · subst hn
      rw [get_pput_self] at hk'
      obtain rfl := Option.some.inj hk'
      exact g.tight a f hg
    · rw [get_pput_ne hn] at hk'
      exact g.tight k f' (get_del_some hk')
theorem Remove_good {D : DiskS} {a : List Int} (g : Good D) : ∃ e D', disk_Disk_Remove D a = some (e, D') ∧ Good D' := by
  rcases Bool.eq_false_or_eq_true D.2.2.2.2.2.1 with ho | ho
  · exact ⟨9, D, by unfold disk_Disk_Remove; rw [found_off a ho]; rfl, g⟩
  · rw [Remove_eq ho]
    by_cases hg : (pget .str a D.2.1).isSome = true
    · rw [if_pos hg]
      exact ⟨_, _, rfl, g.ok.del a, srt_del g.srt, fun k f' hk => g.tight k f' (get_del_some hk)⟩
    · rw [if_neg hg]
      exact ⟨_, _, rfl, g⟩
/-- after a crash all is clean -/
theorem Crash_good {D : DiskS} {l : List FateS} (hl : FatesOk l) (g : Good D) : ∃ D', disk_Disk_Crash D l = some D' ∧ Good D' ∧ D'.2.1.map (·.1) = D.2.1.map (·.1) ∧ D'.2.2.2.2.2.1 = true ∧ D'.2.2.2.2.2.2 = false := by
  by_cases h : D.2.2.2.2.2.1 = true ∧ D.2.2.2.2.2.2 = false
  · exact ⟨D, by unfold disk_Disk_Crash; rw [if_pos (by simp [h.1, h.2])], g, rfl, h.1, h.2⟩
  · obtain ⟨fs', h1, h2, h3, _, h5⟩ := Crash_eq (D := D) hl g.ok (fun ho => by
      cases hp : D.2.2.2.2.2.2 with
      | true => rfl
      | false => exact absurd ⟨ho, hp⟩ h)
    refine ⟨_, h1, ⟨h2, srt_keys h3 g.srt, fun k f hk => ?_⟩, h3, rfl, rfl⟩
    obtain ⟨e1, e2⟩ := h5 k f hk
    obtain ⟨x, y, z⟩ := f
    simp only at e1 e2
    subst e1 e2
    exact tight_clean
theorem On_good {D : DiskS} (g : Good D) : ∃ D', disk_Disk_On D = some D' ∧ Good D' ∧ D'.2.1.map (·.1) = D.2.1.map (·.1) ∧ D'.2.2.2.2.2.1 = false ∧ D'.2.2.2.2.2.2 = false := by
  rcases Bool.eq_false_or_eq_true D.2.2.2.2.2.2 with hp | hp
  · obtain ⟨D1, h1, h2, h3, _, h5⟩ := Crash_good FatesOk.nil g
    refine ⟨(D1.1, D1.2.1, D1.2.2.1, D1.2.2.2.1, D1.2.2.2.2.1, false, D1.2.2.2.2.2.2), ?_, h2.same rfl, h3, rfl, h5⟩
    unfold disk_Disk_On
    simp only [bnd_eq]
    rw [if_pos hp, h1]
    rfl
  · exact ⟨_, On_eq' hp, g.same rfl, rfl, rfl, rfl⟩
end Sx
namespace Sx
open Go

/-- the fate of a sector -/
def ftOf (l : List FateS) (name : List Int) (s : Int) : FateS := (disk_fateOf l name s).getD fate0
theorem ft_eq {l : List FateS} (hl : FatesOk l) (name : List Int) (s : Int) : disk_fateOf l name s = some (ftOf l name s) ∧ byteOk (ftOf l name s).2.2.2.1 ∧ (ftOf l name s).2.2.2.1.length ≤ 140737488355328 := by
  obtain ⟨r, h, h1, h2⟩ := fateOf_eq hl name s
  unfold ftOf
  rw [h]
  exact ⟨rfl, h1, h2⟩
def stays (x : FateS) : Bool := x.2.2.1 == 1 || x.2.2.1 == 2

theorem ipget_pput {a b : Int} {v : FateS} (m : List (Int × FateS)) : pget (.int .i64) b (pput (.int .i64) a v m) = if b = a then some v else pget (.int .i64) b m := by
  have hne : ∀ {l : List (Int × FateS)}, a ≠ b → pget (.int .i64) b (pdel (.int .i64) a l) = pget (.int .i64) b l := fun {l} h => by
    induction l with
    | nil => rfl
    | cons p r ih =>
      simp only [pdel, pget, List.filter_cons, List.find?_cons] at ih ⊢
      by_cases hp : keq (.int .i64) p.1 a = true
      · have hpa : p.1 = a := by simpa [keq] using hp
        have hpb : keq (.int .i64) p.1 b = false := by simp [keq, hpa, h]
        simp only [hp, Bool.not_true, Bool.false_eq_true, if_false, hpb]
        exact ih
      · simp only [Bool.not_eq_true] at hp
        simp only [hp, Bool.not_false, if_true, List.find?_cons]
        cases keq (.int .i64) p.1 b with
        | true => rfl
        | false => exact ih
  by_cases h : b = a
  · subst h
    rw [if_pos rfl]
    have hself : ∀ {l : List (Int × FateS)}, pget (.int .i64) b l = none → pget (.int .i64) b (pins (.int .i64) b v l) = some v := fun {l} h => by
      induction l with
      | nil => simp [pins, pget, keq]
      | cons p r ih =>
        simp only [pins]
        split
        · simp [pget, keq]
        · have hp : keq (.int .i64) p.1 b = false := by
            cases hq : keq (.int .i64) p.1 b with
            | false => rfl
            | true => simp [pget, List.find?_cons, hq] at h
          have h2 : pget (.int .i64) b r = none := by simpa [pget, List.find?_cons, hp] using h
          have := ih h2
          simpa [pget, List.find?_cons, hp] using this
    exact hself (pget_del_self (kt := .int .i64) m)
  · rw [if_neg h]
    unfold pput
    rw [pget_pins_ne (fun e => h e.symm), hne (fun e => h e.symm)]

theorem fall_fold2 {f : FileS} {name : List Int} {l : List FateS} (hl : FatesOk l) : ∀ (ks : List Int) (s : Int × List (Int × FateS)), (∀ k ∈ ks, 0 ≤ k ∧ k < 16384) → 0 ≤ s.1 → s.1 ≤ f.1.length → s.2.length + ks.length < 4611686018427387904 → MapOk s.2 →
    ∃ s', foldK (disk_file_fall_l1 f name l) ks s = some s' ∧ s.1 ≤ s'.1 ∧ s'.1 ≤ f.1.length ∧ MapOk s'.2 ∧ (∀ q, pget (.int .i64) q s'.2 = if q ∈ ks then some (ftOf l name q) else pget (.int .i64) q s.2) ∧
      (∀ q ∈ ks, stays (ftOf l name q) = true → min ((q + 1) * 64) (f.1.length : Int) ≤ s'.1) ∧ (s'.1 = s.1 ∨ ∃ q ∈ ks, stays (ftOf l name q) = true ∧ s'.1 = min ((q + 1) * 64) (f.1.length : Int))
  | [], s, _, h0, h1, _, hm => ⟨s, rfl, Int.le_refl _, h1, hm, (fun q => by simp), (fun q hq => by cases hq), .inl rfl⟩
  | k :: ks, s, hk, h0, h1, hb, hm => by
    obtain ⟨hr, hrb⟩ := ft_eq hl name k
    obtain ⟨hk0, hk1⟩ := hk k (by simp)
    simp only [List.length_cons] at hb
    have hw : IntKind.wrap .i64 (IntKind.wrap .i64 (k + 1) * 64) = (k + 1) * 64 := by rw [wrap_i64 (n := k + 1) (by omega) (by omega), wrap_i64 (by omega) (by omega)]
    have e : disk_file_fall_l1 f name l k s = some (if stays (ftOf l name k) = true then max s.1 (min ((k + 1) * 64) (f.1.length : Int)) else s.1, pput (.int .i64) k (ftOf l name k) s.2) := by
      unfold disk_file_fall_l1
      simp only [hr, Option.bind_some, bnd_eq, hw]
      rw [if_pos (by omega)]
      unfold stays
      split <;> rfl
    generalize hX : (if stays (ftOf l name k) = true then max s.1 (min ((k + 1) * 64) (f.1.length : Int)) else s.1, pput (.int .i64) k (ftOf l name k) s.2) = s1 at e
    have hx1 : s1.1 = if stays (ftOf l name k) = true then max s.1 (min ((k + 1) * 64) (f.1.length : Int)) else s.1 := by rw [← hX]
    have hx2 : s1.2 = pput (.int .i64) k (ftOf l name k) s.2 := by rw [← hX]
    have hs1 : s.1 ≤ s1.1 ∧ s1.1 ≤ f.1.length := by rw [hx1]; split <;> omega
    obtain ⟨s', g1, g2, g3, g4, g5, g6, g7⟩ := fall_fold2 (f := f) (name := name) hl ks s1 (fun q hq => hk q (by simp [hq])) (by omega) hs1.2 (by rw [hx2]; have := iput_len k (ftOf l name k) s.2; omega) (by rw [hx2]; exact iput_ok hm hrb)
    refine ⟨s', ?_, by omega, g3, g4, fun q => ?_, fun q hq hst => ?_, ?_⟩
    · show (disk_file_fall_l1 f name l k s).bind _ = _
      rw [e]; exact g1
    · rw [g5 q, hx2, ipget_pput]
      by_cases hqk : q = k
      · subst hqk; simp
      · simp [hqk]
    · rcases List.mem_cons.1 hq with rfl | hq
      · refine Int.le_trans ?_ g2
        rw [hx1, if_pos hst]; omega
      · exact g6 q hq hst
    · rcases g7 with g7 | ⟨q, hq, hst, g7⟩
      · rw [g7, hx1]
        split
        · rename_i hst
          rcases Int.le_total (min ((k + 1) * 64) (f.1.length : Int)) s.1 with h | h
          · left; omega
          · right; exact ⟨k, by simp, hst, by omega⟩
        · exact .inl rfl
      · exact .inr ⟨q, by simp [hq], hst, g7⟩

/-- what comes at a place, where the sector's fate and the byte that was seen are told -/
def comes (safe : List Int) (x : Option FateS) (was : Int) (q : Nat) : Int := match x with
  | none => was
  | some x => if x.2.2.1 = 1 then was else if x.2.2.1 = 2 then (if q % 64 < x.2.2.2.1.length then x.2.2.2.1.getD (q % 64) 0 else 0) else if q < safe.length then safe.getD q 0 else 0

theorem fall_out2 {f : FileS} (hf : byteOk f.2.1) (o8 : Int × List (Int × FateS)) (hm : MapOk o8.2) (r10 : List Int) (hr : r10.length ≤ 1048576) (k : List Int → Option FileS) : ∀ (j i : Nat) (out : List Int), i + j = r10.length → out.length = r10.length → byteOk out →
    ∃ out', disk_file_fall_l0 f o8 r10 k (j + 1) ((i : Int), out) = k out' ∧ out'.length = r10.length ∧ byteOk out' ∧ ∀ q, q < r10.length → out'.getD q 0 = if q < i then out.getD q 0 else comes f.2.1 (pget (.int .i64) ((q / 64 : Nat) : Int) o8.2) (out.getD q 0) q
  | 0, i, out, h, hl, hb => ⟨out, by simp only [disk_file_fall_l0]; rw [if_neg (by simp only [decide_eq_true_eq]; omega)], hl, hb, fun q hq => by rw [if_pos (by omega)]⟩
  | j + 1, i, out, h, hl, hb => by
    have hi : i < r10.length := by omega
    have htd : IntKind.wrap .i64 (Int.tdiv (i : Int) 64) = ((i / 64 : Nat) : Int) := by
      rw [Int.tdiv_eq_ediv_of_nonneg (by omega)]; exact wrap_i64 (by omega) (by omega)
    have hnx : IntKind.wrap .i64 ((i : Int) + 1) = ((i + 1 : Nat) : Int) := wrap_i64 (by omega) (by omega)
    have hs64 : IntKind.wrap .i64 (((i / 64 : Nat) : Int) * 64) = ((i / 64 * 64 : Nat) : Int) := wrap_i64 (by omega) (by omega)
    have hi41 : IntKind.wrap .i64 ((i : Int) - ((i / 64 * 64 : Nat) : Int)) = ((i % 64 : Nat) : Int) := by
      rw [wrap_i64 (by omega) (by omega)]; omega
    obtain ⟨hx, hxl⟩ := mapOk_get hm ((i / 64 : Nat) : Int)
    have setget : ∀ (c : Int) (q : Nat), (out.set i c).getD q 0 = if q = i then c else out.getD q 0 := fun c q => by
      by_cases hq : q = i
      · subst hq
        rw [if_pos rfl, List.getD_eq_getElem?_getD, List.getElem?_set_self (by omega)]; rfl
      · rw [if_neg hq, List.getD_eq_getElem?_getD, List.getElem?_set_ne (fun e => hq e.symm), ← List.getD_eq_getElem?_getD]
    -- the step
    have hstep : ∃ out1, disk_file_fall_l0 f o8 r10 k (j + 1 + 1) ((i : Int), out) = disk_file_fall_l0 f o8 r10 k (j + 1) (((i + 1 : Nat) : Int), out1) ∧ out1.length = r10.length ∧ byteOk out1 ∧
        ∀ q, out1.getD q 0 = if q = i then comes f.2.1 (pget (.int .i64) ((i / 64 : Nat) : Int) o8.2) (out.getD i 0) i else out.getD q 0 := by
      conv => arg 1; ext out1; lhs; lhs; simp only [disk_file_fall_l0]
      rw [if_pos (by simp only [decide_eq_true_eq]; omega)]
      simp only [bnd_eq, htd, hnx, hs64, hi41, Int.toNat_natCast]
      cases hg : pget (.int .i64) ((i / 64 : Nat) : Int) o8.2 with
      | none =>
        rw [if_pos (by simp)]
        exact ⟨out, rfl, hl, hb, fun q => by
          split
          · rename_i hq; rw [hq]; rfl
          · rfl⟩
      | some x =>
        rw [hg] at hx hxl
        simp only [Option.getD_some] at hx hxl ⊢
        by_cases c1 : (!(some x : Option FateS).isSome || x.2.2.1 == 1) = true
        · rw [if_pos c1]
          have c1' : x.2.2.1 = 1 := by simpa using c1
          exact ⟨out, rfl, hl, hb, fun q => by
            split
            · rename_i hq; rw [hq]; simp only [comes]; rw [if_pos c1']
            · rfl⟩
        · rw [if_neg c1]
          have c1' : ¬ x.2.2.1 = 1 := by simpa using c1
          by_cases c2 : (x.2.2.1 == 2) = true
          · rw [if_pos c2, if_pos (by omega)]
            have c2' : x.2.2.1 = 2 := by simpa using c2
            by_cases c3 : decide (((i % 64 : Nat) : Int) < (x.2.2.2.1.length : Int)) = true
            · have c3' : i % 64 < x.2.2.2.1.length := by simp only [decide_eq_true_eq] at c3; omega
              rw [if_pos c3, if_pos (by omega), if_pos (by rw [List.length_set]; omega)]
              refine ⟨_, rfl, by simp [hl], byteOk_set (byteOk_set hb (by decide)) (byteOk_getD hx c3'), fun q => ?_⟩
              rw [List.set_set, setget]
              split
              · simp only [comes]; rw [if_neg c1', if_pos c2', if_pos c3']
              · rfl
            · rw [if_neg c3]
              have c3' : ¬ i % 64 < x.2.2.2.1.length := by simp only [decide_eq_true_eq] at c3; omega
              refine ⟨_, rfl, by simp [hl], byteOk_set hb (by decide), fun q => ?_⟩
              rw [setget]
              split
              · simp only [comes]; rw [if_neg c1', if_pos c2', if_neg c3']
              · rfl
          · rw [if_neg c2, if_pos (by omega)]
            have c2' : ¬ x.2.2.1 = 2 := by simpa using c2
            by_cases c3 : decide ((i : Int) < (f.2.1.length : Int)) = true
            · have c3' : i < f.2.1.length := by simp only [decide_eq_true_eq] at c3; omega
              rw [if_pos c3, if_pos (by omega), if_pos (by rw [List.length_set]; omega)]
              refine ⟨_, rfl, by simp [hl], byteOk_set (byteOk_set hb (by decide)) (byteOk_getD hf c3'), fun q => ?_⟩
              rw [List.set_set, setget]
              split
              · simp only [comes]; rw [if_neg c1', if_neg c2', if_pos c3']
              · rfl
            · rw [if_neg c3]
              have c3' : ¬ i < f.2.1.length := by simp only [decide_eq_true_eq] at c3; omega
              refine ⟨_, rfl, by simp [hl], byteOk_set hb (by decide), fun q => ?_⟩
              rw [setget]
              split
              · simp only [comes]; rw [if_neg c1', if_neg c2', if_neg c3']
              · rfl
    obtain ⟨out1, e1, l1, b1, s1⟩ := hstep
    obtain ⟨out', e2, l2, b2, s2⟩ := fall_out2 hf o8 hm r10 hr k j (i + 1) out1 (by omega) l1 b1
    refine ⟨out', e1.trans e2, l2, b2, fun q hq => ?_⟩
    rw [s2 q hq, s1 q]
    by_cases h1 : q < i
    · rw [if_pos (by omega), if_neg (by omega), if_pos h1]
    · rw [if_neg h1]
      by_cases h2 : q = i
      · subst h2
        rw [if_pos (by omega), if_pos rfl]
      · rw [if_neg (by omega), if_neg h2]

theorem fall_exact {f : FileS} (hf : FOk f) (name : List Int) {l : List FateS} (hl : FatesOk l) : ∃ g, disk_file_fall f name l = some g ∧ FOk g ∧ g.2.1 = g.1 ∧ g.2.2 = [] ∧ f.2.1.length ≤ g.1.length ∧ g.1.length ≤ f.1.length ∧
    (∀ s ∈ f.2.2, stays (ftOf l name s) = true → min ((s + 1) * 64) (f.1.length : Int) ≤ g.1.length) ∧ ((g.1.length : Int) = f.2.1.length ∨ ∃ s ∈ f.2.2, stays (ftOf l name s) = true ∧ (g.1.length : Int) = min ((s + 1) * 64) (f.1.length : Int)) ∧
    ∀ q, q < g.1.length → g.1.getD q 0 = comes f.2.1 (if ((q / 64 : Nat) : Int) ∈ f.2.2 then some (ftOf l name ((q / 64 : Nat) : Int)) else none) (f.1.getD q 0) q := by
  obtain ⟨hb1, hb2, hl1, hl2, hn, hd⟩ := hf
  have hdl := nodup_len hn hd
  obtain ⟨s', h1, h2, h3, h4, h5, h6, h7⟩ := fall_fold2 (f := f) (name := name) hl f.2.2 ((f.2.1.length : Int), []) hd (by simp) (by simp; omega) (by simp; omega) (fun p hp => by cases hp)
  simp only at h2 h7
  have hcl : slices_Clone__byte_byte (List.take (Int.toNat s'.1) f.1) = some (List.take (Int.toNat s'.1) f.1) := clone_eq (by simp; omega)
  have htl : (List.take (Int.toNat s'.1) f.1).length = Int.toNat s'.1 := by simp only [List.length_take]; omega
  obtain ⟨out, e1, e2, e3, e4⟩ := fall_out2 (f := f) hb2 s' h4 (List.take (Int.toNat s'.1) f.1) (by omega) (fun o13 => (slices_Clone__byte_byte o13).bind fun r17 => some (o13, r17, [])) (List.take (Int.toNat s'.1) f.1).length 0 (List.take (Int.toNat s'.1) f.1) (by omega) rfl (byteOk_of_subset (List.take_subset _ _) hb1)
  have hco : slices_Clone__byte_byte out = some out := clone_eq (by omega)
  refine ⟨(out, out, []), ?_, ⟨e3, e3, by show out.length ≤ _; omega, Nat.le_refl _, List.nodup_nil, fun s hs => by cases hs⟩, rfl, rfl, by show _ ≤ out.length; omega, by show out.length ≤ _; omega, fun s hs hst => ?_, ?_, fun q hq => ?_⟩
  · unfold disk_file_fall
    simp only [bnd_eq, h1, Option.bind_some]
    rw [if_pos (by omega), hcl]
    simp only [Option.bind_some]
    have ef : Int.toNat (((List.take (Int.toNat s'.1) f.1).length : Int) - 0) + 1 = (List.take (Int.toNat s'.1) f.1).length + 1 := by omega
    rw [ef]
    refine e1.trans ?_
    simp only [hco, Option.bind_some]
  · have h8 := h6 s hs hst
    have h9 : min ((s + 1) * 64) (f.1.length : Int) ≤ (out.length : Int) := by omega
    exact h9
  · show ((out.length : Int) = _) ∨ _
    rcases h7 with h7 | ⟨s, hs, hst, h7⟩
    · left; omega
    · right
      have h9 : (out.length : Int) = min ((s + 1) * 64) (f.1.length : Int) := by omega
      exact ⟨s, hs, hst, h9⟩
  · have hq' : q < out.length := hq
    have h := e4 q (by omega)
    rw [if_neg (by omega), h5] at h
    have hget : (List.take (Int.toNat s'.1) f.1).getD q 0 = f.1.getD q 0 := by
      rw [List.getD_eq_getElem?_getD, List.getElem?_take_of_lt (by omega), ← List.getD_eq_getElem?_getD]
    rw [hget] at h
    exact h

theorem crash_fold2 {l : List FateS} (hl : FatesOk l) : ∀ (ks : List (List Int)) (fs : List (List Int × FileS)), ks.Nodup → FsOk fs → (∀ k ∈ ks, (pget .str k fs).isSome) →
    ∃ fs', foldK (disk_Disk_Crash_l0 l) ks fs = some fs' ∧ FsOk fs' ∧ fs'.map (·.1) = fs.map (·.1) ∧ (∀ k ∈ ks, ∀ f, pget .str k fs = some f → ∃ g, disk_file_fall f k l = some g ∧ pget .str k fs' = some g) ∧ ∀ k, k ∉ ks → pget .str k fs' = pget .str k fs
  | [], fs, _, hok, _ => ⟨fs, rfl, hok, rfl, (fun k hk => by cases hk), fun _ _ => rfl⟩
  | k :: ks, fs, hn, hok, hk => by
    rw [List.nodup_cons] at hn
    obtain ⟨f, hf⟩ := Option.isSome_iff_exists.1 (hk k (by simp))
    obtain ⟨g, hg, hgo, _⟩ := fall_eq (hok.get hf) k hl
    have e : disk_Disk_Crash_l0 l k fs = some (pset .str k g fs) := by
      unfold disk_Disk_Crash_l0
      simp only [hf, Option.bind_some, hg]
    have hks : ∀ k' ∈ ks, (pget .str k' (pset .str k g fs)).isSome := fun k' hk' => by
      rw [pget_pset_ne (show k ≠ k' from fun e => hn.1 (by rw [e]; exact hk'))]; exact hk k' (by simp [hk'])
    obtain ⟨fs', h1, h2, h3, h4, h5⟩ := crash_fold2 hl ks (pset .str k g fs) hn.2 (hok.set hgo) hks
    refine ⟨fs', ?_, h2, by rw [h3, pset_keys], fun k' hk' f' hf' => ?_, fun k' hk' => ?_⟩
    · show (disk_Disk_Crash_l0 l k fs).bind _ = _
      rw [e]; exact h1
    · rcases List.mem_cons.1 hk' with rfl | hk'
      · rw [hf] at hf'
        obtain rfl := Option.some.inj hf'
        exact ⟨g, hg, by rw [h5 k' hn.1, get_pset hf]⟩
      · refine h4 k' hk' f' ?_
        rw [pget_pset_ne (show k ≠ k' from fun e => hn.1 (by rw [e]; exact hk'))]; exact hf'
    · simp only [List.mem_cons, not_or] at hk'
      rw [h5 k' hk'.2, pget_pset_ne (fun e => hk'.1 e.symm)]
theorem Crash_exact {D : DiskS} {l : List FateS} (hl : FatesOk l) (hok : FsOk D.2.1) (hop : D.2.2.2.2.2.1 = true → D.2.2.2.2.2.2 = true) : ∃ fs', disk_Disk_Crash D l = some (D.1, fs', 0, D.2.2.2.1, 0, true, false) ∧ FsOk fs' ∧ fs'.map (·.1) = D.2.1.map (·.1) ∧
    ∀ k f, pget .str k D.2.1 = some f → ∃ g, disk_file_fall f k l = some g ∧ pget .str k fs' = some g := by
  obtain ⟨fs', h1, h2, h3, h4, h5⟩ := crash_fold2 hl (D.2.1.map (·.1)) D.2.1 hok.2.1 hok (fun k hk => by
    cases hg : pget .str k D.2.1 with
    | none => exact absurd hk (get_none.1 hg)
    | some f => rfl)
  refine ⟨fs', ?_, h2, h3, fun k f hf => h4 k (Classical.byContradiction fun hc => ?_) f hf⟩
  · unfold disk_Disk_Crash
    simp only [bnd_eq, h1, Option.bind_some]
    rw [if_neg]
    cases ho : D.2.2.2.2.2.1 with
    | false => simp
    | true => simp [hop ho]
  · have := get_none.2 hc
    rw [hf] at this; cases this
end Sx
namespace Sx
open Go

theorem get_of_mem {k : List Int} {f : FileS} : ∀ {l : List (List Int × FileS)}, (l.map (·.1)).Nodup → (k, f) ∈ l → pget .str k l = some f
  | [], _, h => by cases h
  | p :: l, hn, h => by
    rw [List.map_cons, List.nodup_cons] at hn
    rw [get_cons]
    rcases List.mem_cons.1 h with h | h
    · rw [← h]; rw [if_pos rfl]
    · rw [if_neg fun e => hn.1 (by rw [e]; exact List.mem_map.2 ⟨_, h, rfl⟩)]
      exact get_of_mem hn.2 h
theorem copy_fold {D : DiskS} (g : Good D) : ∀ (rest done : List (List Int × FileS)), D.2.1 = done ++ rest → foldK (disk_Disk_Copy_l0 D) (rest.map (·.1)) done = some (done ++ rest)
  | [], done, _ => by simp [foldK]
  | p :: rest, done, h => by
    obtain ⟨k, f⟩ := p
    have hmem : (k, f) ∈ D.2.1 := by rw [h]; simp
    have hg := get_of_mem g.ok.2.1 hmem
    have hf := g.ok.get hg
    have hdl : done.length ≤ 16 := by have := g.ok.2.2; rw [h] at this; simp only [List.length_append] at this; omega
    have hlast : ∀ q ∈ done, sLt q.1 k = true := fun q hq => by
      have hs := g.srt
      rw [h] at hs
      unfold Srt at hs
      rw [List.map_append, List.pairwise_append] at hs
      exact hs.2.2 _ (List.mem_map.2 ⟨q, hq, rfl⟩) _ (by simp)
    have hnew : pget .str k done = none := get_none.2 fun hk => by
      obtain ⟨q, hq, e⟩ := List.mem_map.1 hk
      have := hlast q hq
      rw [e, sLt_irr] at this; cases this
    have hput : pput .str k (f.1, f.2.1, f.2.2) done = done ++ [(k, f)] := by
      rw [spput_new hnew]; exact pins_last hlast
    have e : disk_Disk_Copy_l0 D k done = some (done ++ [(k, f)]) := by
      unfold disk_Disk_Copy_l0
      simp only [hg, Option.bind_some, clone_eq hf.2.2.1, clone_eq (Nat.le_trans hf.2.2.2.1 hf.2.2.1)]
      rw [if_pos (by omega), hput]
    show (disk_Disk_Copy_l0 D k done).bind _ = _
    rw [e, Option.bind_some, copy_fold g rest (done ++ [(k, f)]) (by rw [h]; simp)]
    simp
theorem Copy_eq {D : DiskS} (g : Good D) : disk_Disk_Copy D = some (0, D, D) := by
  unfold disk_Disk_Copy
  rw [copy_fold g D.2.1 [] rfl]
  rfl

theorem step_good {D : DiskS} {o : OpS} (g : Good D) (ho : OpOk o) : ∃ e D', escrowlaw04_step D o = some (e, D') ∧ Good D' := by
  obtain ⟨h1, h2, h3, h4, h5, h6⟩ := ho
  unfold escrowlaw04_step
  simp only [bnd_eq]
  by_cases c1 : (o.1 == 1) = true
  · obtain ⟨e, D', hw, hk⟩ := Write_good g h3 h4 h5 h1
    rw [if_pos c1, hw]; exact ⟨e, D', rfl, hk⟩
  rw [if_neg c1]
  by_cases c2 : (o.1 == 2) = true
  · obtain ⟨e, D', hw, hk⟩ := Sync_good (name := o.2.2.1) g
    rw [if_pos c2, hw]; exact ⟨e, D', rfl, hk⟩
  rw [if_neg c2]
  by_cases c3 : (o.1 == 3) = true
  · obtain ⟨e, D', hw, hk⟩ := Truncate_good (name := o.2.2.1) (n := o.2.2.2.2.2.1) g
    rw [if_pos c3, hw]; exact ⟨e, D', rfl, hk⟩
  rw [if_neg c3]
  by_cases c4 : (o.1 == 4) = true
  · obtain ⟨e, D', hw, hk⟩ := Rename_good (a := o.2.2.1) g h2
    rw [if_pos c4, hw]; exact ⟨e, D', rfl, hk⟩
  rw [if_neg c4]
  by_cases c5 : (o.1 == 5) = true
  · obtain ⟨e, D', hw, hk⟩ := Remove_good (a := o.2.2.1) g
    rw [if_pos c5, hw]; exact ⟨e, D', rfl, hk⟩
  rw [if_neg c5]
  by_cases c7 : (o.1 == 7) = true
  · rw [if_pos c7, Arm_eq]; exact ⟨0, _, rfl, g.same rfl⟩
  rw [if_neg c7]
  by_cases c11 : (o.1 == 11) = true
  · rw [if_pos c11, Fall_eq]; exact ⟨0, _, rfl, g.same rfl⟩
  rw [if_neg c11]
  by_cases c8 : (o.1 == 8) = true
  · obtain ⟨D', hw, hk, _⟩ := Crash_good h6 g
    rw [if_pos c8, hw]; exact ⟨0, D', rfl, hk⟩
  rw [if_neg c8]
  by_cases c9 : (o.1 == 9) = true
  · obtain ⟨D', hw, hk, _⟩ := On_good g
    rw [if_pos c9, hw]; exact ⟨0, D', rfl, hk⟩
  rw [if_neg c9]
  exact ⟨0, D, rfl, g⟩
theorem made_g0 {a0 : List OpS} (ha : OpsOk a0) (k : DiskS → Option (Int × DiskS)) : ∀ (j i : Nat) (D : DiskS), i + j = a0.length → Good D → ∃ D', Good D' ∧ escrowlaw04_made_l0 a0 k (j + 1) ((i : Int), D) = k D'
  | 0, i, D, h, g => by
    refine ⟨D, g, ?_⟩
    unfold escrowlaw04_made_l0
    rw [if_neg (by simp only [decide_eq_true_eq]; omega)]
  | j + 1, i, D, h, g => by
    have hl := ha.1
    obtain ⟨e, D1, h1, h2⟩ := step_good g (ha.2 i (by omega))
    obtain ⟨D', h3, h4⟩ := made_g0 ha k j (i + 1) D1 (by omega) h2
    refine ⟨D', h3, ?_⟩
    have ew : IntKind.wrap .i64 ((i : Int) + 1) = ((i + 1 : Nat) : Int) := wrap_i64 (by omega) (by omega)
    unfold op0 at h1
    unfold escrowlaw04_made_l0
    simp only [bnd_eq, Int.toNat_natCast, h1, Option.bind_some, ew]
    rw [if_pos (by simp only [decide_eq_true_eq]; omega), if_pos (by omega), h4]
theorem made_good {a0 : List OpS} (ha : OpsOk a0) : ∃ D, escrowlaw04_made a0 = some (0, D) ∧ Good D ∧ D.2.2.2.2.2.1 = false ∧ D.2.2.2.2.2.2 = false ∧ D.2.2.1 = 0 ∧ D.2.2.2.2.1 = 0 := by
  have hnew : disk_New 100000 = some (0, (100000, [], 0, 0, 0, false, false)) := by
    unfold disk_New
    simp only [bnd_eq]
    rw [if_neg (by decide)]
  have g0 : Good (100000, [], 0, 0, 0, false, false) := ⟨⟨(fun p hp => by cases hp), by simp, by simp⟩, List.Pairwise.nil, fun k f h => by cases h⟩
  unfold escrowlaw04_made
  simp only [hnew, Option.bind_some, bnd_eq]
  rw [if_neg (by decide), if_pos trivial]
  have ef : Int.toNat ((a0.length : Int) - 0) + 1 = a0.length + 1 := by omega
  rw [ef]
  obtain ⟨D1, h1, h2⟩ := made_g0 ha (fun (o5 : DiskS) => (disk_Disk_On o5).bind fun (r6 : DiskS) => (disk_Disk_Arm r6 0 0).bind fun (r7 : DiskS) => (disk_Disk_Fall r7 0).bind fun (r8 : DiskS) => some (0, r8)) a0.length 0 (100000, [], 0, 0, 0, false, false) (by omega) g0
  obtain ⟨D2, h3, h4, _, h6, h7⟩ := On_good h1
  refine ⟨(D2.1, D2.2.1, 0, 0, 0, D2.2.2.2.2.2.1, D2.2.2.2.2.2.2), ?_, h4.same rfl, h6, h7, rfl, rfl⟩
  refine Eq.trans h2 ?_
  rw [h3]
  simp only [Option.bind_some, Arm_eq, Fall_eq]
  rfl

/-! ### small functions of the statements -/
theorem member_l0 (l : List Int) (n : Int) (hl : l.length < 4611686018427387904) (k : Unit → Option Bool) (hk : k () = some false) : ∀ (j i : Nat), i + j = l.length → escrowlaw04_member_l0 l n k (j + 1) (i : Int) = some (decide (n ∈ l.drop i))
  | 0, i, h => by
    unfold escrowlaw04_member_l0
    rw [if_neg (by simp only [decide_eq_true_eq]; omega), hk, List.drop_eq_nil_of_le (by omega)]
    simp
  | j + 1, i, h => by
    have ew : IntKind.wrap .i64 ((i : Int) + 1) = ((i + 1 : Nat) : Int) := wrap_i64 (by omega) (by omega)
    have hi : i < l.length := by omega
    unfold escrowlaw04_member_l0
    simp only [bnd_eq, ew, Int.toNat_natCast]
    rw [if_pos (by simp only [decide_eq_true_eq]; omega), if_pos (by omega), List.drop_eq_getElem_cons hi, List.getD_eq_getElem?_getD, List.getElem?_eq_getElem hi, Option.getD_some]
    by_cases he : l[i] = n
    · rw [if_pos (by simpa using he)]
      simp [he]
    · rw [if_neg (by simpa using he), member_l0 l n hl k hk j (i + 1) (by omega)]
      congr 1
      rw [decide_eq_decide, List.mem_cons]
      exact ⟨.inr, fun h => h.elim (fun e => absurd e.symm he) id⟩
theorem member_eq {l : List Int} {n : Int} (hl : l.length < 4611686018427387904) : escrowlaw04_member l n = some (decide (n ∈ l)) := by
  unfold escrowlaw04_member
  simp only [bnd_eq]
  have ef : Int.toNat ((l.length : Int) - 0) + 1 = l.length + 1 := by omega
  rw [ef]
  exact member_l0 l n hl _ rfl l.length 0 (by omega)
theorem all_of {D : DiskS} {name : List Int} {f : FileS} (hok : FsOk D.2.1) (ho : D.2.2.2.2.2.1 = false) (h : pget .str name D.2.1 = some f) : escrowlaw04_all D name = some f.1 := by
  unfold escrowlaw04_all
  rw [Read_all hok ho, h]
  rfl
end Sx
namespace Sx
open Go

/-! ### the bytes used -/
def tot (fs : List (List Int × FileS)) : Nat := ((fs.map (·.1)).map fun k => (seenOf fs k).length).sum
theorem used_sum (D : DiskS) : ∀ (ks : List (List Int)) (s : Int), (∀ k ∈ ks, ∃ f, pget .str k D.2.1 = some f ∧ f.1.length ≤ 1048576) → 0 ≤ s → s + ks.length * 1048576 < 4611686018427387904 →
    foldK (disk_Disk_Used_l0 D) ks s = some (s + ((ks.map fun k => (seenOf D.2.1 k).length).sum : Nat))
  | [], s, _, _, _ => by show some s = _; simp
  | k :: ks, s, hk, h0, hb => by
    obtain ⟨f, hf, hl⟩ := hk k (by simp)
    simp only [List.length_cons, Int.natCast_add, Int.cast_ofNat_Int] at hb
    have e : disk_Disk_Used_l0 D k s = some (s + f.1.length) := by
      unfold disk_Disk_Used_l0
      simp only [hf, Option.bind_some, bnd_eq]
      rw [wrap_i64 (by omega) (by omega)]
    have ih := used_sum D ks (s + f.1.length) (fun k' hk' => hk k' (by simp [hk'])) (by omega) (by omega)
    have hs : (seenOf D.2.1 k).length = f.1.length := by simp [seenOf, hf]
    show (disk_Disk_Used_l0 D k s).bind _ = _
    rw [e]
    refine ih.trans ?_
    simp only [List.map_cons, List.sum_cons, hs]
    congr 1
    omega
theorem Used_tot {D : DiskS} (h : FsOk D.2.1) : disk_Disk_Used D = some (tot D.2.1 : Int) := by
  have h1 := used_sum D (D.2.1.map (·.1)) 0 (fun k hk => by
    cases hg : pget .str k D.2.1 with
    | none => exact absurd hk (get_none.1 hg)
    | some f => exact ⟨f, rfl, (h.get hg).2.2.1⟩) (by omega) (by simp only [List.length_map]; have := h.2.2; omega)
  unfold disk_Disk_Used
  simp only [bnd_eq, h1, Option.bind_some, tot]
  congr 1
  omega
theorem sum_up {f g : List Int → Nat} {a : List Int} : ∀ {ks : List (List Int)} {m : Nat}, ks.Nodup → (∀ k ∈ ks, k ≠ a → f k ≤ g k) → (a ∈ ks → f a ≤ g a + m) → (ks.map f).sum ≤ (ks.map g).sum + m
  | [], _, _, _, _ => by simp
  | k :: ks, m, hn, h1, h2 => by
    simp only [List.map_cons, List.sum_cons]
    have hn' := List.nodup_cons.1 hn
    by_cases hk : k = a
    · subst hk
      have := sum_up (f := f) (g := g) (a := k) (m := 0) hn'.2 (fun q hq => h1 q (List.mem_cons_of_mem _ hq)) (fun h => absurd h hn'.1)
      have := h2 List.mem_cons_self
      omega
    · have := sum_up (f := f) (g := g) (a := a) (m := m) hn'.2 (fun q hq => h1 q (List.mem_cons_of_mem _ hq)) (fun h => h2 (List.mem_cons_of_mem _ h))
      have := h1 k List.mem_cons_self hk
      omega
theorem sum_less {f g : List Int → Nat} {a : List Int} : ∀ {ks : List (List Int)} {m : Nat}, a ∈ ks → (∀ k ∈ ks, f k ≤ g k) → f a + m ≤ g a → (ks.map f).sum + m ≤ (ks.map g).sum
  | [], _, h, _, _ => by cases h
  | k :: ks, m, h, h1, h2 => by
    simp only [List.map_cons, List.sum_cons]
    by_cases hk : a ∈ ks
    · have := sum_less (f := f) (g := g) (a := a) (m := m) hk (fun q hq => h1 q (List.mem_cons_of_mem _ hq)) h2
      have := h1 k List.mem_cons_self
      omega
    · have hka : a = k := by rcases List.mem_cons.1 h with h | h; exact h; exact absurd h hk
      subst hka
      have hle : (ks.map f).sum ≤ (ks.map g).sum := by
        have : ∀ (l : List (List Int)), (∀ k ∈ l, f k ≤ g k) → (l.map f).sum ≤ (l.map g).sum := fun l => by
          induction l with
          | nil => intro _; simp
          | cons x l ih => intro h; simp only [List.map_cons, List.sum_cons]; have := ih (fun q hq => h q (List.mem_cons_of_mem _ hq)); have := h x List.mem_cons_self; omega
        exact this ks fun q hq => h1 q (List.mem_cons_of_mem _ hq)
      omega
theorem tot_same {fs fs' : List (List Int × FileS)} (hk : fs'.map (·.1) = fs.map (·.1)) (h : ∀ k ∈ fs.map (·.1), (seenOf fs' k).length = (seenOf fs k).length) : tot fs' = tot fs := by
  unfold tot
  rw [hk, List.map_congr_left (f := fun k => (seenOf fs' k).length) (g := fun k => (seenOf fs k).length) h]
theorem tot_write {fs fs' : List (List Int × FileS)} {name : List Int} (hok : FsOk fs) (hne : ∀ b, name ≠ b → pget .str b fs' = pget .str b fs) (hk : fs'.map (·.1) = (if (pget .str name fs).isSome then fs else pput .str name ([], [], []) fs).map (·.1)) :
    tot fs' ≤ tot fs + ((seenOf fs' name).length - (seenOf fs name).length) := by
  have hs : ∀ b, name ≠ b → seenOf fs' b = seenOf fs b := fun b hb => by unfold seenOf; rw [hne b hb]
  unfold tot
  cases hg : pget .str name fs with
  | some f =>
    rw [hg] at hk
    rw [hk]
    exact sum_up (a := name) hok.2.1 (fun k _ hk => by rw [hs k fun h => hk h.symm]; exact Nat.le_refl _) (fun _ => by omega)
  | none =>
    rw [hg] at hk
    have hz : seenOf fs name = [] := by simp [seenOf, hg]
    have hp : (fs'.map (·.1)).Perm (name :: fs.map (·.1)) := by
      rw [hk]
      refine (pins_keys_perm _ _).trans ?_
      have hd : pdel .str name fs = fs := by
        rw [pdel_eq]
        refine List.filter_eq_self.2 fun p hp => ?_
        have hn := get_none.1 hg
        have : p.1 ≠ name := fun h => hn (h ▸ List.mem_map.2 ⟨p, hp, rfl⟩)
        simpa using this
      rw [hd]
    rw [(hp.map _).sum_nat, hz]
    simp only [List.map_cons, List.sum_cons, List.length_nil, Nat.sub_zero]
    have := sum_up (f := fun k => (seenOf fs' k).length) (g := fun k => (seenOf fs k).length) (a := name) (m := 0) hok.2.1 (fun k _ hk => by rw [hs k fun h => hk h.symm]; exact Nat.le_refl _) (fun h => absurd h (get_none.1 hg))
    omega

/-! ### what is counted -/
theorem cnt_arm {cap : Int} {fs : List (List Int × FileS)} {a w q : Int} {o p : Bool} (ha : 0 < a ∧ a < 4611686018427387904) (hw : w = 0 ∨ w = q) : disk_Disk_counted (cap, fs, a, w, 0, o, p) q = some (if a = 1 then 40 else 0, (cap, fs, a - 1, w, 0, o, p)) := by
  have ew : IntKind.wrap .i64 (a - 1) = a - 1 := wrap_i64 (by omega) (by omega)
  unfold disk_Disk_counted
  simp only [bnd_eq, ew]
  rw [if_neg (by simp), if_pos (by simp only [decide_eq_true_eq]; omega), if_pos (by simpa using hw)]
  by_cases h : a = 1
  · rw [if_pos h, if_pos (by simp only [beq_iff_eq]; omega)]
  · rw [if_neg h, if_neg (by simp only [beq_iff_eq]; omega)]
theorem cnt_skip {cap : Int} {fs : List (List Int × FileS)} {a w q : Int} {o p : Bool} (hw : w ≠ 0 ∧ w ≠ q) : disk_Disk_counted (cap, fs, a, w, 0, o, p) q = some (0, (cap, fs, a, w, 0, o, p)) := by
  unfold disk_Disk_counted
  simp only [bnd_eq]
  rw [if_neg (by simp)]
  have hf : ((w == 0) || (w == q)) = false := by simp [hw.1, hw.2]
  by_cases h : a > 0
  · rw [if_pos (by simpa using h), hf, if_neg (by decide)]
  · rw [if_neg (by simpa using h), if_neg (by decide)]
theorem cnt_fall {cap : Int} {fs : List (List Int × FileS)} {fl w q : Int} {o p : Bool} (hf : 0 < fl ∧ fl < 4611686018427387904) : disk_Disk_counted (cap, fs, 0, w, fl, o, p) q = some (if fl = 1 then (9, (cap, fs, 0, w, 0, true, true)) else (0, (cap, fs, 0, w, fl - 1, o, p))) := by
  have ew : IntKind.wrap .i64 (fl - 1) = fl - 1 := wrap_i64 (by omega) (by omega)
  unfold disk_Disk_counted
  simp only [bnd_eq, ew]
  rw [if_pos (by simp only [decide_eq_true_eq]; omega)]
  by_cases h : fl = 1
  · subst h
    rw [if_pos (by decide), if_pos rfl]; rfl
  · rw [if_neg (by simp only [beq_iff_eq]; omega), if_neg (by simp), if_neg (by decide), if_neg h]

/-! ### the file that is written -/
def armN : List Int := [97, 114, 109, 101, 100]
structure Armed (P : Int → List Int → Prop) (D : DiskS) : Prop where
  good : Good D
  on : D.2.2.2.2.2.1 = false
  cap : (tot D.2.1 : Int) ≤ D.1
  file : ∃ c t sf ds, pget .str armN D.2.1 = some (c :: t, sf, ds) ∧ P c ds
theorem Armed.with {P : Int → List Int → Prop} {D : DiskS} (h : Armed P D) (a w fl : Int) (p : Bool) : Armed P (D.1, D.2.1, a, w, fl, false, p) := ⟨h.good.same rfl, rfl, h.cap, h.file⟩
theorem Armed.to {P Q : Int → List Int → Prop} {D : DiskS} (h : Armed P D) (hq : ∀ c ds, P c ds → Q c ds) : Armed Q D := ⟨h.good, h.on, h.cap, by obtain ⟨c, t, sf, ds, h1, h2⟩ := h.file; exact ⟨c, t, sf, ds, h1, hq c ds h2⟩⟩
theorem armName : disk_isName armN = some true := by decide +kernel
theorem one_ok {b : Int} (hb : 0 ≤ b ∧ b < 256) : byteOk [b] := fun x hx => by rw [List.mem_singleton] at hx; subst hx; exact hb
theorem awrite {P : Int → List Int → Prop} {D : DiskS} (h : Armed P D) {b : Int} (hb : 0 ≤ b ∧ b < 256) {e a fl : Int} {o p : Bool} (hc : disk_Disk_counted D 1 = some (e, (D.1, D.2.1, a, D.2.2.2.1, fl, o, p))) :
    ∃ fs', disk_Disk_Write D armN 0 [b] = some (if e = 0 then (0, (D.1, fs', a, D.2.2.2.1, fl, o, p)) else (e, (D.1, D.2.1, a, D.2.2.2.1, fl, o, p))) ∧ (e = 0 → Armed (fun c ds => c = b ∧ 0 ∈ ds) (D.1, fs', 0, 0, 0, false, false)) := by
  obtain ⟨c, t, sf, ds, hf, _⟩ := h.file
  have hs : seenOf D.2.1 armN = c :: t := by simp [seenOf, hf]
  have hu := Used_tot h.good.ok
  obtain ⟨e', a', fl', o', p', fs', g1, g2, g3, ⟨ds', g4, g5⟩, g6, g7⟩ := Write_core2 (text := [b]) (at0 := 0) h.good.ok h.on armName (one_ok hb) (by omega) (by omega) (by simp) (fun hn => by rw [hf] at hn; cases hn) (fun u hu' => by rw [hu] at hu'; cases hu'; rw [hs]; have := h.cap; simp only [List.length_cons, List.length_nil]; omega)
  rw [hc] at g1
  simp only [Option.some.injEq, Prod.mk.injEq, true_and] at g1
  obtain ⟨rfl, rfl, rfl, rfl, rfl⟩ := g1
  refine ⟨fs', g2, fun he => ?_⟩
  obtain ⟨e2, D2, w1, w2⟩ := Write_good (name := armN) (text := [b]) (at0 := 0) h.good (by decide) (one_ok hb) (by simp) (by decide)
  rw [g2, if_pos he] at w1
  simp only [Option.some.injEq, Prod.mk.injEq] at w1
  obtain ⟨_, rfl⟩ := w1
  rw [hf] at g7
  have hov : over (seenOf D.2.1 armN) (0 : Int).toNat [b] = b :: t := by rw [hs]; rfl
  rw [hov] at g4
  refine ⟨w2.same rfl, rfl, ?_, b, t, safeOf D.2.1 armN, ds', g4, rfl, (g5 0).2 (.inr ⟨by simp, by decide, by simp⟩)⟩
  have ht : tot fs' = tot D.2.1 := tot_same g7 fun k _ => by
    by_cases hk : armN = k
    · subst hk
      rw [hs]
      simp [seenOf, g4]
    · unfold seenOf; rw [g6 k hk]
  show (tot fs' : Int) ≤ D.1
  rw [ht]; exact h.cap
theorem async {P : Int → List Int → Prop} {D : DiskS} (h : Armed P D) {e a fl : Int} {o p : Bool} (hc : disk_Disk_counted D 2 = some (e, (D.1, D.2.1, a, D.2.2.2.1, fl, o, p))) :
    ∃ fs', disk_Disk_Sync D armN = some (e, (D.1, fs', a, D.2.2.2.1, fl, o, p)) ∧ Armed (fun _ _ => True) (D.1, fs', 0, 0, 0, false, false) := by
  obtain ⟨c, t, sf, ds, hf, _⟩ := h.file
  obtain ⟨e', a', fl', o', p', g1, g2⟩ := Sync_eq h.good.ok h.on hf
  rw [hc] at g1
  simp only [Option.some.injEq, Prod.mk.injEq, true_and] at g1
  obtain ⟨rfl, rfl, rfl, rfl, rfl⟩ := g1
  by_cases he : e = 0
  · subst he
    rw [if_pos rfl] at g2
    refine ⟨_, g2, ?_⟩
    obtain ⟨e2, D2, w1, w2⟩ := Sync_good (name := armN) h.good
    rw [g2] at w1
    simp only [Option.some.injEq, Prod.mk.injEq] at w1
    obtain ⟨_, rfl⟩ := w1
    refine ⟨w2.same rfl, rfl, ?_, c, t, c :: t, [], get_pset hf, trivial⟩
    have ht : tot (pset .str armN (c :: t, c :: t, []) D.2.1) = tot D.2.1 := tot_same (pset_keys _ _ _) fun k _ => by
      by_cases hk : armN = k
      · subst hk
        simp [seenOf, get_pset hf, hf]
      · unfold seenOf; rw [pget_pset_ne hk]
    show (tot _ : Int) ≤ D.1
    rw [ht]; exact h.cap
  · rw [if_neg he] at g2
    exact ⟨_, g2, ⟨h.good.same rfl, rfl, h.cap, c, t, sf, ds, hf, trivial⟩⟩

/-! ### the loops -/
theorem ref_l1 {n : Int} (hn : 0 ≤ n ∧ n < 1000) (k : DiskS → Option Bool) : ∀ (j : Nat) (i : Int) {D : DiskS}, 0 ≤ i → i ≤ n + 1 → n + 1 - i ≤ j → Armed (fun _ _ => True) D → D.2.2.1 = n + 1 - i → D.2.2.2.1 = 2 → D.2.2.2.2.1 = 0 →
    ∃ D', Armed (fun _ _ => True) D' ∧ D'.2.2.1 = 0 ∧ D'.2.2.2.2.1 = 0 ∧ escrowlaw04_DiskRefused_l1 n k (j + 1) (i, D) = k D'
  | j, i, D, h0, h1, hj, h, ha, hw, hf => by
    by_cases hi : i ≤ n
    · obtain ⟨j, rfl⟩ : ∃ j', j = j' + 1 := ⟨j - 1, by omega⟩
      obtain ⟨cap, fs, a, w, fl, o, p⟩ := D
      simp only at ha hw hf
      have ho : o = false := h.on
      subst hw hf ho
      have ew : IntKind.wrap .i64 (i + 1) = i + 1 := wrap_i64 (by omega) (by omega)
      obtain ⟨fs', g1, g2⟩ := awrite (b := 49) h (by omega) (cnt_skip (q := 1) (by omega))
      rw [if_pos rfl] at g1
      have h' := (g2 rfl).with a 2 0 p
      obtain ⟨fs'', g3, g4⟩ := async h' (cnt_arm (a := a) (w := 2) (q := 2) (by omega) (.inr rfl))
      obtain ⟨D', r1, r2, r3, r4⟩ := ref_l1 hn k j (i + 1) (D := (cap, fs'', a - 1, 2, 0, false, p)) (by omega) (by omega) (by omega) (g4.with _ _ _ _) (by simp only; omega) rfl rfl
      refine ⟨D', r1, r2, r3, ?_⟩
      have g1' : disk_Disk_Write (cap, fs, a, 2, 0, false, p) [97, 114, 109, 101, 100] 0 [49] = some (0, (cap, fs', a, 2, 0, false, p)) := g1
      have g3' : disk_Disk_Sync (cap, fs', a, 2, 0, false, p) [97, 114, 109, 101, 100] = some (if a = 1 then 40 else 0, (cap, fs'', a - 1, 2, 0, false, p)) := g3
      unfold escrowlaw04_DiskRefused_l1
      simp only [bnd_eq, g1', Option.bind_some, ew]
      rw [if_pos (by simpa using hi), if_neg (by decide)]
      simp only [g3', Option.bind_some]
      rw [if_neg ?_]
      · exact r4
      · by_cases hlast : a = 1
        · rw [if_pos hlast]
          have : ¬ i < n := by omega
          simp [this]
        · rw [if_neg hlast]
          have : i < n := by omega
          simp [this]
    · refine ⟨D, h, by omega, hf, ?_⟩
      unfold escrowlaw04_DiskRefused_l1
      rw [if_neg (by simpa using hi)]
theorem ref_l0 {n : Int} (hn : 0 ≤ n ∧ n < 1000) (k : DiskS → Option Bool) : ∀ (j : Nat) (i : Int) {D : DiskS}, 0 ≤ i → i ≤ n + 1 → n + 1 - i ≤ j → Armed (fun c _ => c = if i = 0 ∨ n = 0 then 49 else 51) D → D.2.2.1 = n + 1 - i → D.2.2.2.1 = 0 → D.2.2.2.2.1 = 0 →
    ∃ D', Armed (fun c _ => c = if n = 0 then 49 else 51) D' ∧ D'.2.2.1 = 0 ∧ D'.2.2.2.2.1 = 0 ∧ escrowlaw04_DiskRefused_l0 n k (j + 1) (i, D) = k D'
  | j, i, D, h0, h1, hj, h, ha, hw, hf => by
    by_cases hi : i ≤ n
    · obtain ⟨j, rfl⟩ : ∃ j', j = j' + 1 := ⟨j - 1, by omega⟩
      obtain ⟨cap, fs, a, w, fl, o, p⟩ := D
      simp only at ha hw hf
      have ho : o = false := h.on
      subst hw hf ho
      have ew : IntKind.wrap .i64 (i + 1) = i + 1 := wrap_i64 (by omega) (by omega)
      obtain ⟨fs', g1, g2⟩ := awrite (b := 51) h (by omega) (cnt_arm (a := a) (w := 0) (q := 1) (by omega) (.inl rfl))
      have g1' : disk_Disk_Write (cap, fs, a, 0, 0, false, p) [97, 114, 109, 101, 100] 0 [51] = some _ := g1
      by_cases hlast : a = 1
      · obtain ⟨D', r1, r2, r3, r4⟩ := ref_l0 hn k j (i + 1) (D := (cap, fs, a - 1, 0, 0, false, p)) (by omega) (by omega) (by omega) ((h.with _ _ _ _).to fun c _ hc => by
          rw [hc]
          by_cases hz : n = 0
          · rw [if_pos (.inr hz), if_pos (.inr hz)]
          · rw [if_neg (by omega), if_neg (by omega)]) (by simp only; omega) rfl rfl
        refine ⟨D', r1, r2, r3, ?_⟩
        rw [if_pos hlast, if_neg (by decide)] at g1'
        unfold escrowlaw04_DiskRefused_l0
        simp only [bnd_eq, g1', Option.bind_some, ew]
        have : ¬ i < n := by omega
        rw [if_pos (by simpa using hi), if_neg (by simp [this]), if_neg (by decide)]
        exact r4
      · rw [if_neg hlast, if_pos rfl] at g1'
        have h' := (g2 (by rw [if_neg hlast])).with (a - 1) 0 0 p
        obtain ⟨D', r1, r2, r3, r4⟩ := ref_l0 hn k j (i + 1) (D := (cap, fs', a - 1, 0, 0, false, p)) (by omega) (by omega) (by omega) (h'.to fun c _ hc => by rw [hc.1, if_neg (by omega)]) (by simp only; omega) rfl rfl
        refine ⟨D', r1, r2, r3, ?_⟩
        unfold escrowlaw04_DiskRefused_l0
        simp only [bnd_eq, g1', Option.bind_some, ew]
        have : i < n := by omega
        rw [if_pos (by simpa using hi), if_neg (by simp [this]), if_neg (by decide)]
        exact r4
    · refine ⟨D, h.to fun c _ hc => by
        rw [hc]
        by_cases hz : n = 0
        · rw [if_pos (.inr hz), if_pos hz]
        · rw [if_neg (by omega), if_neg hz], by omega, hf, ?_⟩
      unfold escrowlaw04_DiskRefused_l0
      rw [if_neg (by simpa using hi)]
theorem fallen_l {n : Int} (hn : 0 ≤ n ∧ n < 1000) (k : DiskS → Option (Bool × DiskS)) : ∀ (j : Nat) (i : Int) {D : DiskS}, 0 ≤ i → i ≤ n → n + 1 - i ≤ j → Armed (fun c ds => 0 < i → c = 53 ∧ 0 ∈ ds) D → D.2.2.1 = 0 → D.2.2.2.2.1 = n + 1 - i →
    ∃ D' w, Armed (fun c ds => 0 < n → c = 53 ∧ 0 ∈ ds) D' ∧ escrowlaw04_fallen_l0 n k (j + 1) (i, D) = k (D'.1, D'.2.1, 0, w, 0, true, true)
  | j, i, D, h0, h1, hj, h, ha, hf => by
    obtain ⟨j, rfl⟩ : ∃ j', j = j' + 1 := ⟨j - 1, by omega⟩
    obtain ⟨cap, fs, a, w, fl, o, p⟩ := D
    simp only at ha hf
    have ho : o = false := h.on
    subst ha ho
    have ew : IntKind.wrap .i64 (i + 1) = i + 1 := wrap_i64 (by omega) (by omega)
    have hcnt := cnt_fall (cap := cap) (fs := fs) (fl := fl) (w := w) (q := 1) (o := false) (p := p) (by omega)
    by_cases hlast : fl = 1
    · rw [if_pos hlast] at hcnt
      obtain ⟨fs', g1, _⟩ := awrite (b := 53) h (by omega) hcnt
      have g1' : disk_Disk_Write (cap, fs, 0, w, fl, false, p) [97, 114, 109, 101, 100] 0 [53] = some (9, (cap, fs, 0, w, 0, true, true)) := g1
      have hin : i = n := by omega
      subst hin
      refine ⟨(cap, fs, 0, w, fl, false, p), w, h, ?_⟩
      unfold escrowlaw04_fallen_l0
      simp only [bnd_eq, g1', Option.bind_some, ew]
      have e1 : disk_Disk_Off (cap, fs, 0, w, 0, true, true) = some true := rfl
      rw [if_pos (by simp), if_neg (by simp), if_neg (by decide), e1]
      simp only [Option.bind_some]
      rw [if_neg (by simp)]
      unfold escrowlaw04_fallen_l0
      rw [if_neg (by simp only [decide_eq_true_eq]; omega)]
    · rw [if_neg hlast] at hcnt
      obtain ⟨fs', g1, g2⟩ := awrite (b := 53) h (by omega) hcnt
      have g1' : disk_Disk_Write (cap, fs, 0, w, fl, false, p) [97, 114, 109, 101, 100] 0 [53] = some (0, (cap, fs', 0, w, fl - 1, false, p)) := g1
      obtain ⟨D', w', r1, r2⟩ := fallen_l hn k j (i + 1) (D := (cap, fs', 0, w, fl - 1, false, p)) (by omega) (by omega) (by omega) (((g2 rfl).with 0 w (fl - 1) p).to fun c ds hc _ => hc) rfl (by simp only; omega)
      refine ⟨D', w', r1, ?_⟩
      unfold escrowlaw04_fallen_l0
      simp only [bnd_eq, g1', Option.bind_some, ew]
      have e1 : disk_Disk_Off (cap, fs', 0, w, fl - 1, false, p) = some false := rfl
      have hlt : i < n := by omega
      rw [if_pos (by simp only [decide_eq_true_eq]; omega), if_neg (by simp [hlt]), if_neg (by decide), e1]
      simp only [Option.bind_some]
      rw [if_neg (by simp only [bne_iff_ne, ne_eq, Bool.false_eq, beq_eq_false_iff_ne, Decidable.not_not]; omega)]
      exact r2

/-! ### two disks that are the same -/
theorem rsameInts_l0 (l : List Int) (hl : l.length < 4611686018427387904) (k : Unit → Option Bool) : ∀ (j i : Nat), i + j = l.length → escrowlaw04_sameInts_l0 l l k (j + 1) (i : Int) = k ()
  | 0, i, h => by
    unfold escrowlaw04_sameInts_l0
    rw [if_neg (by simp only [decide_eq_true_eq]; omega)]
  | j + 1, i, h => by
    have ew : IntKind.wrap .i64 ((i : Int) + 1) = ((i + 1 : Nat) : Int) := wrap_i64 (by omega) (by omega)
    unfold escrowlaw04_sameInts_l0
    simp only [bnd_eq, ew]
    rw [if_pos (by simp only [decide_eq_true_eq]; omega), if_pos (by omega), if_pos (by omega), if_neg (by simp)]
    exact rsameInts_l0 l hl k j (i + 1) (by omega)
theorem rsameInts_eq {l : List Int} (hl : l.length < 4611686018427387904) : escrowlaw04_sameInts l l = some true := by
  unfold escrowlaw04_sameInts
  simp only [bnd_eq]
  have ef : Int.toNat ((l.length : Int) - 0) + 1 = l.length + 1 := by omega
  rw [if_neg (by simp), ef]
  exact rsameInts_l0 l hl _ l.length 0 (by omega)
theorem seen_l0 {D : DiskS} (hok : FsOk D.2.1) (ho : D.2.2.2.2.2.1 = false) (k : Unit → Option Bool) : ∀ (j i : Nat), i + j = (D.2.1.map (·.1)).length → escrowlaw04_seen_l0 D D (D.2.1.map (·.1)) k (j + 1) (i : Int) = k ()
  | 0, i, h => by
    unfold escrowlaw04_seen_l0
    rw [if_neg (by simp only [decide_eq_true_eq]; omega)]
  | j + 1, i, h => by
    have hnl : (D.2.1.map (·.1)).length ≤ 16 := by rw [List.length_map]; exact hok.2.2
    have ih := seen_l0 hok ho k j (i + 1) (by omega)
    have en : IntKind.wrap .i64 ((i : Int) + 1) = ((i + 1 : Nat) : Int) := wrap_i64 (by omega) (by omega)
    have hi : i < (D.2.1.map (·.1)).length := by omega
    have hmem : List.getD (D.2.1.map (·.1)) i [] ∈ D.2.1.map (·.1) := by
      rw [List.getD_eq_getElem?_getD, List.getElem?_eq_getElem hi, Option.getD_some]
      exact List.getElem_mem hi
    cases hf : pget .str (List.getD (D.2.1.map (·.1)) i []) D.2.1 with
    | none => exact absurd hmem (get_none.1 hf)
    | some f =>
      have hd : disk_Disk_Dirty D (List.getD (D.2.1.map (·.1)) i []) = some f.2.2 := by rw [Dirty_eq hok ho, hf]
      have hfo := hok.get hf
      have hdl := nodup_len hfo.2.2.2.2.1 hfo.2.2.2.2.2
      conv => lhs; unfold escrowlaw04_seen_l0
      simp only [bnd_eq, Int.toNat_natCast, all_of hok ho hf, hd, Option.bind_some, en, rsameInts_eq (l := f.2.2) (by omega)]
      rw [if_pos (by simp only [decide_eq_true_eq]; omega), if_pos (by omega), if_neg (by simp), if_neg (by decide)]
      exact ih
theorem seen_eq {D : DiskS} (hok : FsOk D.2.1) (ho : D.2.2.2.2.2.1 = false) : escrowlaw04_seen D D = some true := by
  have hnl : (D.2.1.map (·.1)).length ≤ 16 := by rw [List.length_map]; exact hok.2.2
  have e1 : disk_Disk_Off D = some false := by unfold disk_Disk_Off; rw [ho]
  have ef : Int.toNat (((D.2.1.map (·.1)).length : Int) - 0) + 1 = (D.2.1.map (·.1)).length + 1 := by omega
  unfold escrowlaw04_seen
  simp only [bnd_eq, List_eq hok ho, Option.bind_some, sameTexts_eq (l := D.2.1.map (·.1)) (by omega), Used_tot hok, e1]
  rw [if_neg (by decide), if_neg (by simp), if_neg (by simp), ef]
  exact seen_l0 hok ho _ _ 0 (by omega)
theorem equal_eq {D : DiskS} (g : Good D) (ho : D.2.2.2.2.2.1 = false) : escrowlaw04_equal D D = some (true, D, D) := by
  obtain ⟨fs1, c1, c2, _, _⟩ := Crash_exact (D := D) FatesOk.nil g.ok (fun h => by rw [ho] at h; cases h)
  have hon := On_eq' (D := (D.1, fs1, 0, D.2.2.2.1, 0, true, false)) rfl
  have hs := seen_eq (D := (D.1, fs1, 0, D.2.2.2.1, 0, false, false)) c2 rfl
  unfold escrowlaw04_equal
  simp only [bnd_eq, Copy_eq g, Option.bind_some, seen_eq g.ok ho]
  rw [if_neg (by decide), if_pos trivial, if_pos trivial, if_neg (by decide), if_pos trivial]
  simp only [c1, Option.bind_some]
  rw [if_pos trivial]
  simp only [hon, Option.bind_some, hs]

/-! ### a step that is refused -/
theorem step_ref {D : DiskS} {o : OpS} (g : Good D) (ho : OpOk o) (ha : D.2.2.1 = 0) (hf : D.2.2.2.2.1 = 0) (hk : o.1 ≠ 7 ∧ o.1 ≠ 11 ∧ o.1 ≠ 8 ∧ o.1 ≠ 9) : ∃ e D', escrowlaw04_step D o = some (e, D') ∧ (e ≠ 0 → D' = D) := by
  obtain ⟨h1, h2, h3, h4, h5, h6⟩ := ho
  unfold escrowlaw04_step
  simp only [bnd_eq]
  by_cases c1 : (o.1 == 1) = true
  · rw [if_pos c1]
    rcases Write_any2 g.ok h3 h4 h5 h1 with ⟨e, _, h⟩ | ⟨_, _, _, _, _, e, a, fl, q, p, fs', hc, hw, _⟩
    · rw [h]; exact ⟨e, D, rfl, fun _ => rfl⟩
    · rw [counted_calm 1 ha hf] at hc
      have he : e = 0 := by simp only [Option.some.injEq, Prod.mk.injEq] at hc; exact hc.1.symm
      rw [if_pos he] at hw
      rw [hw]; exact ⟨0, _, rfl, fun h => absurd rfl h⟩
  rw [if_neg c1]
  by_cases c2 : (o.1 == 2) = true
  · rw [if_pos c2]
    rcases Bool.eq_false_or_eq_true D.2.2.2.2.2.1 with hoff | hoff
    · have hs : disk_Disk_Sync D o.2.2.1 = some (9, D) := by unfold disk_Disk_Sync; rw [found_off _ hoff]; rfl
      rw [hs]; exact ⟨9, D, rfl, fun _ => rfl⟩
    · cases hg : pget .str o.2.2.1 D.2.1 with
      | none =>
        have hs : disk_Disk_Sync D o.2.2.1 = some (5, D) := by unfold disk_Disk_Sync; rw [found_eq _ hoff, hg]; rfl
        rw [hs]; exact ⟨5, D, rfl, fun _ => rfl⟩
      | some f =>
        obtain ⟨e, a, fl, q, p, hc, hs⟩ := Sync_eq g.ok hoff hg
        rw [counted_calm 2 ha hf] at hc
        have he : e = 0 := by simp only [Option.some.injEq, Prod.mk.injEq] at hc; exact hc.1.symm
        rw [if_pos he] at hs
        rw [hs]; exact ⟨0, _, rfl, fun h => absurd rfl h⟩
  rw [if_neg c2]
  by_cases c3 : (o.1 == 3) = true
  · rw [if_pos c3]
    rcases Truncate_any (name := o.2.2.1) (n := o.2.2.2.2.2.1) g.ok with ⟨e, _, h⟩ | ⟨_, f, _, _, _, h, _⟩
    · rw [h]; exact ⟨e, D, rfl, fun _ => rfl⟩
    · rw [h]; exact ⟨0, _, rfl, fun h => absurd rfl h⟩
  rw [if_neg c3]
  by_cases c4 : (o.1 == 4) = true
  · rw [if_pos c4]
    rcases Rename_any (a := o.2.2.1) g.ok h2 with ⟨e, _, h⟩ | ⟨_, f, _, h, _⟩
    · rw [h]; exact ⟨e, D, rfl, fun _ => rfl⟩
    · rw [h]; exact ⟨0, _, rfl, fun h => absurd rfl h⟩
  rw [if_neg c4]
  by_cases c5 : (o.1 == 5) = true
  · rw [if_pos c5]
    rcases Bool.eq_false_or_eq_true D.2.2.2.2.2.1 with hoff | hoff
    · have hs : disk_Disk_Remove D o.2.2.1 = some (9, D) := by unfold disk_Disk_Remove; rw [found_off _ hoff]; rfl
      rw [hs]; exact ⟨9, D, rfl, fun _ => rfl⟩
    · rw [Remove_eq hoff]
      split
      · exact ⟨0, _, rfl, fun h => absurd rfl h⟩
      · exact ⟨5, _, rfl, fun _ => rfl⟩
  rw [if_neg c5, if_neg (by simpa using hk.1), if_neg (by simpa using hk.2.1), if_neg (by simpa using hk.2.2.1), if_neg (by simpa using hk.2.2.2)]
  exact ⟨0, D, rfl, fun h => absurd rfl h⟩

/-! ### the power that goes -/
theorem On_open {D E : DiskS} (hp : D.2.2.2.2.2.2 = true) (h : disk_Disk_Crash D [] = some E) : disk_Disk_On D = some (E.1, E.2.1, E.2.2.1, E.2.2.2.1, E.2.2.2.2.1, false, E.2.2.2.2.2.2) := by
  unfold disk_Disk_On
  simp only [bnd_eq, hp]
  rw [if_pos trivial, h]
  rfl
def keep0 : List FateS := [([97, 114, 109, 101, 100], 0, 1, [], ())]
theorem keep0_ok : FatesOk keep0 := ⟨by decide, fun x hx => by rw [List.mem_singleton.1 hx]; exact ⟨fun y hy => (by cases hy), by decide⟩⟩
theorem ft_keep0 : ftOf keep0 armN 0 = ([97, 114, 109, 101, 100], 0, 1, [], ()) := by decide +kernel
theorem fallen_eq {D : DiskS} {n : Int} (hn : 0 ≤ n ∧ n ≤ 7) (h : Armed (fun _ _ => True) D) (ha : D.2.2.1 = 0) : ∃ E, escrowlaw04_fallen D n = some (true, E) := by
  have ew : IntKind.wrap .i64 (n + 1) = n + 1 := wrap_i64 (by omega) (by omega)
  unfold escrowlaw04_fallen
  simp only [bnd_eq, ew, Fall_eq, Option.bind_some]
  obtain ⟨⟨cap, fs, a, w0, fl, o, p⟩, w, r1, r2⟩ := fallen_l (n := n) (by omega) _ 8 0 (D := (D.1, D.2.1, D.2.2.1, D.2.2.2.1, max (n + 1) 0, D.2.2.2.2.2.1, D.2.2.2.2.2.2)) (by omega) hn.1 (by omega) (by rw [h.on]; exact (h.with _ _ _ _).to fun c ds _ h => by omega) ha (by simp only; omega)
  rw [r2]
  simp only
  have gd : Good (cap, fs, 0, w, 0, true, true) := r1.good.same rfl
  obtain ⟨c, t, sf, ds, hf, hcd⟩ := r1.file
  obtain ⟨fs1, c1, c2, c3, c4⟩ := Crash_exact (D := (cap, fs, 0, w, 0, true, true)) FatesOk.nil gd.ok (fun _ => rfl)
  obtain ⟨fs2, z1, z2, z3, z4⟩ := Crash_exact (D := (cap, fs, 0, w, 0, true, true)) keep0_ok gd.ok (fun _ => rfl)
  have gon := On_open (D := (cap, fs, 0, w, 0, true, true)) rfl c1
  have hon1 := On_eq' (D := (cap, fs1, 0, w, 0, true, false)) rfl
  have hon2 := On_eq' (D := (cap, fs2, 0, w, 0, true, false)) rfl
  have hsy : disk_Disk_Sync (cap, fs, 0, w, 0, true, true) [97, 114, 109, 101, 100] = some (9, (cap, fs, 0, w, 0, true, true)) := by unfold disk_Disk_Sync; rw [found_off _ rfl]; rfl
  have hli : disk_Disk_List (cap, fs, 0, w, 0, true, true) = some [] := rfl
  have hse := seen_eq (D := (cap, fs1, 0, w, 0, false, false)) c2 rfl
  obtain ⟨g1, k1, k2⟩ := c4 armN _ hf
  obtain ⟨g2, k3, k4⟩ := z4 armN _ hf
  have hfo : FOk (c :: t, sf, ds) := gd.ok.get hf
  obtain ⟨g1', x1, _, _, x4, _, x6, _, _, _⟩ := fall_exact hfo armN FatesOk.nil
  obtain ⟨g2', y1, _, _, y4, _, y6, y7, _, y9⟩ := fall_exact hfo armN keep0_ok
  rw [k1] at x1; obtain rfl := Option.some.inj x1
  have k3' : disk_file_fall (c :: t, sf, ds) armN keep0 = some g2 := k3
  rw [k3'] at y1; obtain rfl := Option.some.inj y1
  have hdi : disk_Disk_Dirty (cap, fs1, 0, w, 0, false, false) [97, 114, 109, 101, 100] = some [] := by
    have := Dirty_eq (D := (cap, fs1, 0, w, 0, false, false)) (name := armN) c2 rfl
    rw [show pget .str armN (cap, fs1, 0, w, 0, false, false).2.1 = some g1 from k2] at this
    simp only [x4] at this
    exact this
  have hall : escrowlaw04_all (cap, fs2, 0, w, 0, false, false) [97, 114, 109, 101, 100] = some g2.1 := all_of (D := (cap, fs2, 0, w, 0, false, false)) z2 rfl k4
  -- the last Write
  have hwr : ∃ E, disk_Disk_Write (cap, fs1, 0, w, 0, false, false) [97, 114, 109, 101, 100] 0 [54] = some (0, E) := by
    have hs1 : seenOf fs1 armN = g1.1 := by simp [seenOf, k2]
    have hs0 : seenOf fs armN = c :: t := by simp [seenOf, hf]
    have hle : ∀ k ∈ fs.map (·.1), (seenOf fs1 k).length ≤ (seenOf fs k).length := fun k hk => by
      cases hg : pget .str k fs with
      | none => exact absurd hk (get_none.1 hg)
      | some f =>
        obtain ⟨g, m1, m2⟩ := c4 k f hg
        obtain ⟨g', m3, _, _, _, _, m4, _⟩ := fall_exact (gd.ok.get hg) k FatesOk.nil
        rw [m1] at m3; obtain rfl := Option.some.inj m3
        have e1 : seenOf fs1 k = g.1 := by simp [seenOf, m2]
        have e2 : seenOf fs k = f.1 := by simp [seenOf, hg]
        rw [e1, e2]; exact m4
    have harm : armN ∈ fs.map (·.1) := Classical.byContradiction fun hc => by rw [get_none.2 hc] at hf; cases hf
    have ht : tot fs1 + (1 - g1.1.length) ≤ tot fs := by
      unfold tot
      rw [c3]
      refine sum_less (a := armN) harm hle ?_
      have := hle armN harm
      rw [hs1, hs0] at this ⊢
      simp only [List.length_cons] at this ⊢
      omega
    have hcap : (tot fs : Int) ≤ cap := r1.cap
    obtain ⟨e, a', fl', o', p', fs', q1, q2, _⟩ := Write_core2 (D := (cap, fs1, 0, w, 0, false, false)) (name := armN) (text := [54]) (at0 := 0) c2 rfl armName (one_ok (by omega)) (by omega) (by omega) (by simp) (fun hn => by rw [show pget .str armN (cap, fs1, 0, w, 0, false, false).2.1 = some g1 from k2] at hn; cases hn) (fun u hu' => by
      rw [Used_tot c2] at hu'
      cases hu'
      simp only [hs1, List.length_cons, List.length_nil]; omega)
    rw [counted_calm 1 rfl rfl] at q1
    have he : e = 0 := by simp only [Option.some.injEq, Prod.mk.injEq] at q1; exact q1.1.symm
    rw [if_pos he] at q2
    exact ⟨_, q2⟩
  obtain ⟨E, hwr⟩ := hwr
  have z1' : disk_Disk_Crash (cap, fs, 0, w, 0, true, true) [([97, 114, 109, 101, 100], 0, 1, [], ())] = some (cap, fs2, 0, w, 0, true, false) := z1
  simp only [Copy_eq gd, Option.bind_some, hsy]
  rw [if_neg (by decide), if_neg (by decide), hli]
  simp only [Option.bind_some]
  rw [if_neg (by decide), if_neg (by decide)]
  simp only [c1, Option.bind_some, z1', hon1, gon, hon2, hse, hdi, hall]
  rw [if_pos trivial, if_pos trivial, if_pos trivial, if_pos (by decide), hwr]
  simp only [Option.bind_some]
  by_cases hz : n = 0
  · rw [if_pos (by simpa using hz), if_pos trivial]
    exact ⟨E, rfl⟩
  · obtain ⟨rfl, hd0⟩ := hcd (by omega)
    have hst : stays (ftOf keep0 armN 0) = true := by rw [ft_keep0]; rfl
    have hup := y7 0 hd0 hst
    have hg2 : 1 ≤ g2.1.length := by simp only [List.length_cons] at hup; omega
    have hv := y9 0 (by omega)
    have hd0' : ((0 / 64 : Nat) : Int) ∈ ds := hd0
    rw [if_pos hd0'] at hv
    have e2 : comes sf (some (ftOf keep0 armN ((0 / 64 : Nat) : Int))) (List.getD ((53 : Int) :: t) 0 0) 0 = 53 := by
      show comes sf (some (ftOf keep0 armN 0)) (List.getD ((53 : Int) :: t) 0 0) 0 = 53
      rw [ft_keep0]; rfl
    rw [e2] at hv
    have hhead : List.drop 0 (List.take 1 g2.1) = [53] := by
      cases hl : g2.1 with
      | nil => rw [hl] at hg2; simp at hg2
      | cons x l => rw [hl] at hv; simp only [List.getD_cons_zero] at hv; rw [hv]; rfl
    rw [if_neg (by simpa using hz), if_pos (by omega), hhead, if_pos (by decide)]
    exact ⟨E, rfl⟩
theorem and7 (a : Int) : 0 ≤ iand .i64 a 7 ∧ iand .i64 a 7 ≤ 7 := by
  have h : (BitVec.ofInt 64 a &&& BitVec.ofInt 64 7).toNat ≤ 7 := by
    rw [BitVec.toNat_and]
    exact Nat.and_le_right
  unfold iand
  show 0 ≤ IntKind.wrap .i64 ((BitVec.ofInt 64 a &&& BitVec.ofInt 64 7).toNat : Int) ∧ IntKind.wrap .i64 ((BitVec.ofInt 64 a &&& BitVec.ofInt 64 7).toNat : Int) ≤ 7
  rw [wrap_i64 (by omega) (by omega)]
  omega
theorem bnd_cut {α β γ : Type} {P : (α → Option β) → Prop} {f : α → Option β} {g : (α → Option β) → Option γ} {v : Option γ} (hf : P f) (h : ∀ k, P k → g k = v) : bnd f g = v := h f hf
theorem first_write {D : DiskS} (gd : Good D) (ho : D.2.2.2.2.2.1 = false) (hop : D.2.2.2.2.2.2 = false) (ha : D.2.2.1 = 0) (hf : D.2.2.2.2.1 = 0) : ∃ e X, disk_Disk_Write D [97, 114, 109, 101, 100] 0 [49] = some (e, X) ∧ (e = 0 → Armed (fun c _ => c = 49) X ∧ X.2.2.1 = 0 ∧ X.2.2.2.2.1 = 0) := by
  rcases Write_any3 (name := armN) (text := [49]) (at0 := 0) gd.ok (by decide) (one_ok (by omega)) (by simp) (by decide) with ⟨e, he, h⟩ | ⟨_, _, _, _, _, e, a, fl, q, p, fs', hc, hw, hok, ⟨ds, g4, _⟩, g6, g7, hcap⟩
  · exact ⟨e, D, h, fun h => absurd h he⟩
  · rw [counted_calm 1 ha hf] at hc
    simp only [Option.some.injEq] at hc
    obtain ⟨c0, c1⟩ := Prod.mk.inj hc
    have e1 : D.2.2.1 = a := congrArg (fun x : DiskS => x.2.2.1) c1
    have e2 : D.2.2.2.2.1 = fl := congrArg (fun x : DiskS => x.2.2.2.2.1) c1
    have e3 : D.2.2.2.2.2.1 = q := congrArg (fun x : DiskS => x.2.2.2.2.2.1) c1
    obtain ⟨e', D', w1, w2⟩ := Write_good (name := armN) (text := [49]) (at0 := 0) gd (by decide) (one_ok (by omega)) (by simp) (by decide)
    rw [hw, if_pos c0.symm] at w1
    obtain ⟨_, rfl⟩ := Prod.mk.inj (Option.some.inj w1)
    rw [if_pos c0.symm] at hw
    refine ⟨0, _, hw, fun _ => ⟨⟨w2, by rw [← e3]; exact ho, ?_, 49, (seenOf D.2.1 armN).drop 1, _, ds, g4, rfl⟩, by rw [← e1]; exact ha, by rw [← e2]; exact hf⟩⟩
    have ht := tot_write gd.ok g6 g7
    have hs : seenOf fs' armN = 49 :: (seenOf D.2.1 armN).drop 1 := by unfold seenOf; rw [g4]; rfl
    rw [hs] at ht
    have hc2 := hcap _ (Used_tot gd.ok)
    simp only [List.length_cons, List.length_nil, List.length_drop] at ht hc2
    show (tot fs' : Int) ≤ D.1
    omega
theorem refused_true (a0 : List OpS) (a1 : OpS) (a2 : Int) (h0 : OpsOk a0) (h1 : OpOk a1) : escrowlaw04_DiskRefused a0 a1 a2 = some true := by
  obtain ⟨D, hm, gd, ho, hop, ha, hf⟩ := made_good h0
  obtain ⟨n, hn⟩ : ∃ n, iand .i64 a2 7 = n := ⟨_, rfl⟩
  have hn7 := and7 a2
  rw [hn] at hn7
  have ew : IntKind.wrap .i64 (n + 1) = n + 1 := wrap_i64 (by omega) (by omega)
  unfold escrowlaw04_DiskRefused
  rw [hm, Option.bind_some, bnd_eq, bnd_eq, if_neg (show ¬ (((0 : Int), D).1 != 0) = true from fun h => nomatch h), dfirst_eq, Option.bind_some]
  dsimp only
  rw [if_neg (show ¬ (!true) = true by decide), if_pos rfl]
  simp only [Copy_eq gd, Option.bind_some]
  rw [if_neg (by decide), bnd_eq, bnd_eq, bnd_eq, bnd_eq]
  refine bnd_cut (P := fun k => ∀ (e : Int) D', (e ≠ 0 → D' = D) → k (e != 0, D') = some true) (fun e D' hr => ?_) fun k hk => ?_
  · simp only
    refine bnd_cut (P := fun k => ∀ c', k (false, D, c') = some true) (fun c' => ?_) fun k hk => ?_
    · simp only
      rw [if_neg (by decide), bnd_eq, hn, Copy_eq gd, Option.bind_some, bnd_eq]
      refine bnd_cut (P := fun k => ∀ (e : Int) X, (e = 0 → Armed (fun c _ => c = 49) X ∧ X.2.2.1 = 0 ∧ X.2.2.2.2.1 = 0) → k (e != 0, X) = some true) (fun e X hX => ?_) fun k hk => ?_
      · by_cases he : e = 0
        · obtain ⟨hA, hXa, hXf⟩ := hX he
          have gX := hA.good
          subst he
          dsimp only
          rw [if_neg (show ¬ ((0 : Int) != 0) = true by decide), if_pos rfl]
          simp only [Copy_eq gX, Option.bind_some, ew, Arm_eq]
          rw [if_pos trivial, if_neg (show ¬ (n + 1 < 1 ∨ (2 : Int) < 0 ∨ (2 : Int) > 2) by omega)]
          obtain ⟨Y, y1, y2, y3, y4⟩ := ref_l1 (n := n) (by omega) _ 8 0 (D := (X.1, X.2.1, n + 1, 2, X.2.2.2.2.1, X.2.2.2.2.2.1, X.2.2.2.2.2.2)) (by omega) (by omega) (by omega) (by rw [hA.on]; exact (hA.with _ _ _ _).to fun _ _ _ => trivial) (by simp only; omega) rfl hXf
          refine (bnd_eq _ _).trans (y4.trans ?_)
          obtain ⟨fs2, w1, w2⟩ := awrite (b := 50) y1 (by omega) (counted_calm 1 y2 y3)
          rw [if_pos rfl] at w1
          have w1' : disk_Disk_Write Y [97, 114, 109, 101, 100] 0 [50] = some _ := w1
          have hon : Y.2.2.2.2.2.1 = false := y1.on
          have hA2 := w2 rfl
          obtain ⟨c2, t2, sf2, ds2, hf2, _, hd2⟩ := hA2.file
          rw [hon, y2, y3] at w1'
          have hDi : disk_Disk_Dirty (Y.1, fs2, 0, Y.2.2.2.1, 0, false, Y.2.2.2.2.2.2) [97, 114, 109, 101, 100] = some ds2 := by
            have := Dirty_eq (D := (Y.1, fs2, 0, Y.2.2.2.1, 0, false, Y.2.2.2.2.2.2)) (name := armN) hA2.good.ok rfl
            rw [show pget .str armN (Y.1, fs2, 0, Y.2.2.2.1, 0, false, Y.2.2.2.2.2.2).2.1 = _ from hf2] at this
            exact this
          have hfo2 : FOk (c2 :: t2, sf2, ds2) := hA2.good.ok.get hf2
          have hdl2 : ds2.length ≤ 16384 := nodup_len hfo2.2.2.2.2.1 hfo2.2.2.2.2.2
          obtain ⟨fs3, s1, _⟩ := async (hA2.with 0 Y.2.2.2.1 0 Y.2.2.2.2.2.2) (counted_calm 2 rfl rfl)
          have s1' : disk_Disk_Sync (Y.1, fs2, 0, Y.2.2.2.1, 0, false, Y.2.2.2.2.2.2) [97, 114, 109, 101, 100] = some _ := s1
          simp only [w1', Option.bind_some, bnd_eq]
          rw [if_neg (by decide)]
          simp only [hDi, Option.bind_some, member_eq (l := ds2) (n := 0) (by omega)]
          rw [if_neg (by simp [hd2])]
          simp only [s1', Option.bind_some]
          rw [if_neg (by decide), if_pos trivial, if_neg (show ¬ (n + 1 < 1 ∨ (0 : Int) < 0 ∨ (0 : Int) > 2) by omega)]
          obtain ⟨Z, z1, z2, z3, z4⟩ := ref_l0 (n := n) (by omega) _ 8 0 (D := (X.1, X.2.1, n + 1, 0, X.2.2.2.2.1, X.2.2.2.2.2.1, X.2.2.2.2.2.2)) (by omega) (by omega) (by omega) (by rw [hA.on]; exact (hA.with _ _ _ _).to fun _ _ h => by rw [if_pos (.inl rfl)]; exact h) (by simp only; omega) rfl hXf
          refine z4.trans ?_
          obtain ⟨c4, t4, sf4, ds4, hf4, hc4⟩ := z1.file
          have hal : escrowlaw04_all Z [97, 114, 109, 101, 100] = some (c4 :: t4) := all_of z1.good.ok z1.on hf4
          obtain ⟨fs5, v1, _⟩ := awrite (b := 52) z1 (by omega) (counted_calm 1 z2 z3)
          rw [if_pos rfl] at v1
          have v1' : disk_Disk_Write Z [97, 114, 109, 101, 100] 0 [52] = some _ := v1
          obtain ⟨E, hE⟩ := fallen_eq (n := n) hn7 (hA.to fun _ _ _ => trivial) hXa
          simp only [hal, Option.bind_some]
          have hb : ((decide (n > 0)) == ((List.drop 0 (List.take 1 (c4 :: t4))) == [51])) = true := by
            have : List.drop 0 (List.take 1 (c4 :: t4)) = [c4] := rfl
            rw [this, hc4]
            by_cases hz : n = 0
            · subst hz; rfl
            · rw [if_neg hz]
              have : n > 0 := by omega
              simp [this]
          rw [if_pos (by simp only [List.length_cons]; omega), if_pos hb]
          simp only [v1', Option.bind_some, hE]
          rfl
        · rw [if_pos (by simpa using he)]
      · simp only
        rw [if_neg (by decide), if_pos trivial]
        obtain ⟨e, X, hw, hX⟩ := first_write gd ho hop ha hf
        rw [hw]
        exact hk e X hX
    · by_cases he : e = 0
      · subst he
        rw [if_neg (by decide)]; exact hk D'
      · rw [if_pos (by simpa using he), hr he, if_pos trivial, equal_eq gd ho]
        exact hk D
  · by_cases hkk : a1.1 ≠ 7 ∧ a1.1 ≠ 11 ∧ a1.1 ≠ 8 ∧ a1.1 ≠ 9
    · obtain ⟨e, D', hs, hr⟩ := step_ref gd h1 ha hf hkk
      rw [if_pos (by simp [hkk.1, hkk.2.1, hkk.2.2.1, hkk.2.2.2]), if_pos trivial]
      simp only [hs, Option.bind_some]
      exact hk e D' hr
    · rw [if_neg (by simp only [Bool.and_eq_true, bne_iff_ne]; exact fun h => hkk ⟨h.1.1.1, h.1.1.2, h.1.2, h.2⟩)]
      exact hk 0 D fun h => absurd rfl h
theorem opOk_of {a : OpS} {p0 p1 p5 p8 : Prop} {r0 r1 r2 r4 : FateS → Prop} (h : p0 ∧ p1 ∧ (byteOk a.2.2.1 ∧ List.length a.2.2.1 ≤ 140737488351232) ∧ (byteOk a.2.2.2.1 ∧ List.length a.2.2.2.1 ≤ 140737488351232) ∧ rng .i64 a.2.2.2.2.1 ∧ p5 ∧ (byteOk a.2.2.2.2.2.2.1 ∧ List.length a.2.2.2.2.2.2.1 ≤ 140737488351232) ∧ (List.length a.2.2.2.2.2.2.2.1 * 48 ≤ 140737488351232 ∧ ∀ z ∈ a.2.2.2.2.2.2.2.1, r0 z ∧ r1 z ∧ r2 z ∧ (byteOk z.2.2.2.1 ∧ List.length z.2.2.2.1 ≤ 140737488351232) ∧ r4 z) ∧ p8) : OpOk a := by
  obtain ⟨_, _, g1, g2, g3, _, g4, ⟨g5, g6⟩, _⟩ := h
  exact ⟨by omega, by omega, g3, g4.1, by omega, by omega, fun x hx => ⟨(g6 x hx).2.2.2.1.1, by have := (g6 x hx).2.2.2.1.2; omega⟩⟩
theorem escrowlaw04_DiskRefused_true (a0 : List OpS) (a1 : OpS) (a2 : Int) {q0 q1 q5 q8 : OpS → Prop} {r0 r1 r2 r4 : FateS → Prop} {p0 p1 p5 p8 p9 : Prop} {t0 t1 t2 t4 : FateS → Prop} (h0 : List.length a0 * 104 ≤ 140737488351232 ∧ ∀ y ∈ a0, @OpSmall q0 q1 q5 q8 r0 r1 r2 r4 y)
    (h1 : p0 ∧ p1 ∧ (byteOk a1.2.2.1 ∧ List.length a1.2.2.1 ≤ 140737488351232) ∧ (byteOk a1.2.2.2.1 ∧ List.length a1.2.2.2.1 ≤ 140737488351232) ∧ rng .i64 a1.2.2.2.2.1 ∧ p5 ∧ (byteOk a1.2.2.2.2.2.2.1 ∧ List.length a1.2.2.2.2.2.2.1 ≤ 140737488351232) ∧ (List.length a1.2.2.2.2.2.2.2.1 * 48 ≤ 140737488351232 ∧ ∀ z ∈ a1.2.2.2.2.2.2.2.1, t0 z ∧ t1 z ∧ t2 z ∧ (byteOk z.2.2.2.1 ∧ List.length z.2.2.2.1 ≤ 140737488351232) ∧ t4 z) ∧ p8) (_ : p9) : escrowlaw04_DiskRefused a0 a1 a2 = some true :=
  refused_true a0 a1 a2 (opsOk_of h0) (opOk_of h1)
end Sx
