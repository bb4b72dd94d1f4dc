/-
  Own work, of several texts. What wraps and shifts of numbers come to.
  Texts cut into lines, words and digits: plain.
  A line's words: plain.
  A number's digits: plain.
  The disk's plain functions: what they answer.
  The disk's plain functions, further.
  The disk's plain functions: Write.
  What a disk tells: names, sizes, lists, bytes.
  The log's plain texts: a segment's name and its number.
  CRC32C without a program in sight: a step, its powers, tables of what becomes of each bit, and what the printed functions answer.
  Frames without a program in sight.
  The log's plain texts: how a segment begins.
  The log's plain texts: opening.
  The log's plain texts: the segments are made safe.
  The disk's plain functions: a crash.
  The disk's plain functions: the power.
  The disk's operations at whatever arguments.
  The log's plain texts: what is torn is cut off.
  The log's plain texts: a text is frames, one behind the other, and what is none.
  The log's plain texts: Open, whole.
  The log's plain texts: a list cloned, and names.
  The log's plain texts: Open, whole.
  The log's plain texts: a text of which nothing is torn tells the same again.
  The log's plain texts: what Open read, read again.
  The log's plain texts: Open, whole.
  The log's plain texts: Open, whole.
  The log's plain texts: Open, whole.
  The log's plain texts: what is seen behind Open, and behind a loss of power.
  The log's plain texts: reading from another first number; reading again.
  The log's plain texts: the loops of the law WalAgain.
  The log's plain texts: the law WalAgain.
  The log's plain texts: the law WalAgain.
-/
import Derived.Test.YtfgbjaoendfhdaaGreatDoorDefs
import Derived.Test.YtfgbjaoendfhdaaGreatDoorLib2
import Derived.Test.YtfgbjaoendfhdaaGreatDoorLib3
import Derived.Test.YtfgbjaoendfhdaaGreatDoorComm
import Derived.KernelRfl
namespace Sx
open Go
abbrev B32 := BitVec 32
def u (v : B32) : Int := (v.toNat : Int)
theorem u_lt (a : B32) : 0 ≤ u a ∧ u a < 4294967296 := by unfold u; have := a.isLt; omega
theorem ofInt_u (a : B32) : BitVec.ofInt 32 (u a) = a := by simp [u]
theorem wrap_u32 {n : Int} (h0 : 0 ≤ n) (h : n < 4294967296) : IntKind.wrap .u32 n = n := by
  simp only [IntKind.wrap, IntKind.bits, IntKind.signed, Bool.false_and, Bool.false_eq_true, if_false]; omega
theorem wrap_i64 {n : Int} (h0 : -9223372036854775808 ≤ n) (h : n < 9223372036854775808) : IntKind.wrap .i64 n = n := by
  simp [IntKind.wrap, IntKind.bits, IntKind.signed]; omega
theorem wrap_u (a : B32) : IntKind.wrap .u32 (u a) = u a := wrap_u32 (u_lt a).1 (u_lt a).2
theorem ixor_u (a b : B32) : ixor .u32 (u a) (u b) = u (a ^^^ b) := by
  unfold ixor; show IntKind.wrap .u32 (BitVec.ofInt 32 (u a) ^^^ BitVec.ofInt 32 (u b)).toNat = _
  rw [ofInt_u, ofInt_u]; exact wrap_u _
theorem iand_u (a b : B32) : iand .u32 (u a) (u b) = u (a &&& b) := by
  unfold iand; show IntKind.wrap .u32 (BitVec.ofInt 32 (u a) &&& BitVec.ofInt 32 (u b)).toNat = _
  rw [ofInt_u, ofInt_u]; exact wrap_u _
theorem ishr_u (a : B32) {n : Nat} (hn : n ≤ 32) : ishr .u32 (u a) n = u (a >>> n) := by
  unfold ishr
  have : min (Int.toNat (n : Int)) (IntKind.bits .u32) = n := by simp [IntKind.bits]; omega
  rw [this]
  simp only [u, BitVec.toNat_ushiftRight, Nat.shiftRight_eq_div_pow]
  rw [Int.fdiv_eq_ediv_of_nonneg _ (Int.le_of_lt (Int.pow_pos (by decide)))]
  simp
theorem inot_u (a : B32) : inot .u32 (u a) = u (~~~a) := by
  unfold inot
  show ixor .u32 (IntKind.max .u32) (u a) = _
  have : IntKind.max .u32 = u (BitVec.allOnes 32) := by decide
  rw [this, ixor_u]
  congr 1
end Sx
namespace Sx
open Go Go.RowKit
theorem hasprefix_eq (a p : List Int) : strings_HasPrefix a p = some (a.take p.length == p && decide (p.length ≤ a.length)) := by
  unfold strings_HasPrefix internal_stringslite_HasPrefix
  simp only [bnd_eq, Option.bind_eq_bind]
  by_cases h : p.length ≤ a.length
  · have h1 : decide ((List.length a : Int) ≥ (List.length p : Int)) = true := by simp; omega
    simp only [h1, if_true]
    rw [if_pos ⟨by omega, by omega, by omega⟩]
    simp [h, bind_eq]
  · have h1 : decide ((List.length a : Int) ≥ (List.length p : Int)) = false := by simp; omega
    simp [h1, h, bind_eq]
def b8 (c : Int) : UInt8 := UInt8.ofNat c.toNat
theorem byteOk_drop {l : List Int} (h : byteOk l) (n : Nat) : byteOk (l.drop n) := fun c hc => h c (List.mem_of_mem_drop hc)
end Sx
namespace Sx
open Go Go.RowKit
end Sx
namespace Sx
open Go Go.RowKit
def decI (n : Nat) : List Int := ofB (Lib.decDigits n)
theorem decI_eq (n : Nat) : decI n = if n < 10 then [48 + (n : Int)] else decI (n / 10) ++ [48 + ((n % 10 : Nat) : Int)] := by
  unfold decI
  rw [Lib.decDigits]
  split
  · rename_i h
    simp only [ofB, List.map_cons, List.map_nil, UInt8.toNat_ofNat']
    congr 1; omega
  · simp only [ofB, List.map_append, List.map_cons, List.map_nil, UInt8.toNat_ofNat']
    congr 2; omega
theorem itoaI_eq (n : Int) : itoaI n = if n < 0 then 45 :: decI n.natAbs else decI n.toNat := by
  unfold itoaI Lib.itoa decI
  split
  · rfl
  · rfl
def isDig (c : Int) : Prop := 48 ≤ c ∧ c ≤ 57
instance (c : Int) : Decidable (isDig c) := by unfold isDig; exact inferInstance
def valD (a : Int) (l : List Int) : Int := l.foldl (fun a c => 10 * a + (c - 48)) a
theorem valD_append (a : Int) (x y : List Int) : valD a (x ++ y) = valD (valD a x) y := by simp [valD]
theorem decI_all : ∀ (n : Nat), (∀ c ∈ decI n, isDig c) ∧ valD 0 (decI n) = n ∧ decI n ≠ [] := by
  intro n
  induction n using Nat.strongRecOn with
  | ind n ih =>
    rw [decI_eq]
    split
    · rename_i h
      refine ⟨fun c hc => ?_, ?_, by simp⟩
      · simp at hc; subst hc; unfold isDig; omega
      · simp [valD]; omega
    · rename_i h
      obtain ⟨h1, h2, h3⟩ := ih (n / 10) (by omega)
      refine ⟨fun c hc => ?_, ?_, by simp⟩
      · rcases List.mem_append.1 hc with hc | hc
        · exact h1 c hc
        · simp at hc; subst hc; unfold isDig; omega
      · rw [valD_append, h2]
        simp only [valD, List.foldl_cons, List.foldl_nil]
        omega
end Sx
namespace Sx
open Go
section
variable {V : Type}
theorem keq_str (a b : List Int) : keq .str a b = (a == b) := rfl
theorem get_nil (k : List Int) : pget .str k ([] : List (List Int × V)) = none := rfl
theorem get_cons (k : List Int) (p : List Int × V) (l : List (List Int × V)) : pget .str k (p :: l) = if p.1 = k then some p.2 else pget .str k l := by
  unfold pget
  rw [List.find?_cons]
  by_cases h : p.1 = k
  · simp [keq_str, h]
  · have : keq .str p.1 k = false := by simp [keq_str, h]
    simp [this, h]
theorem get_mem {k : List Int} {v : V} : ∀ {l : List (List Int × V)}, pget .str k l = some v → (k, v) ∈ l
  | [], h => by cases h
  | p :: l, h => by
    rw [get_cons] at h
    split at h
    · rename_i hp
      simp only [Option.some.injEq] at h
      subst h; subst hp
      exact List.mem_cons_self ..
    · exact List.mem_cons_of_mem _ (get_mem h)
theorem get_none {k : List Int} : ∀ {l : List (List Int × V)}, pget .str k l = none ↔ k ∉ l.map (·.1)
  | [] => by simp [get_nil]
  | p :: l => by
    rw [get_cons]
    split
    · rename_i hp; simp [hp]
    · rename_i hp
      rw [get_none]
      simp only [List.map_cons, List.mem_cons, not_or]
      exact ⟨fun h => ⟨fun e => hp e.symm, h⟩, fun h => h.2⟩
theorem pset_cons (k : List Int) (v : V) (p : List Int × V) (l : List (List Int × V)) : pset .str k v (p :: l) = (if p.1 = k then (p.1, v) else p) :: pset .str k v l := by
  unfold pset
  rw [List.map_cons]
  by_cases h : p.1 = k
  · simp [keq_str, h]
  · simp [keq_str, h]
theorem get_pset {k : List Int} {v y : V} : ∀ {l : List (List Int × V)}, pget .str k l = some y → pget .str k (pset .str k v l) = some v
  | [], h => by cases h
  | p :: l, h => by
    rw [get_cons] at h
    rw [pset_cons, get_cons]
    by_cases hp : p.1 = k
    · simp [hp]
    · rw [if_neg hp] at h
      rw [if_neg hp, if_neg hp]
      exact get_pset h
theorem pset_keys (k : List Int) (v : V) : ∀ (l : List (List Int × V)), (pset .str k v l).map (·.1) = l.map (·.1)
  | [] => rfl
  | p :: l => by
    rw [pset_cons, List.map_cons, List.map_cons, pset_keys k v l]
    split <;> simp_all
theorem pset_mem {k : List Int} {v : V} {q : List Int × V} : ∀ {l : List (List Int × V)}, q ∈ pset .str k v l → q = (k, v) ∨ q ∈ l
  | [], h => by cases h
  | p :: l, h => by
    rw [pset_cons] at h
    rcases List.mem_cons.1 h with h | h
    · by_cases hp : p.1 = k
      · rw [if_pos hp] at h; left; rw [h, hp]
      · rw [if_neg hp] at h; right; simp [h]
    · rcases pset_mem h with h | h
      · exact .inl h
      · exact .inr (by simp [h])
theorem pdel_eq (k : List Int) (l : List (List Int × V)) : pdel .str k l = l.filter fun p => !(p.1 == k) := rfl
theorem get_pdel_ne {a b : List Int} (h : a ≠ b) : ∀ (l : List (List Int × V)), pget .str b (pdel .str a l) = pget .str b l
  | [] => rfl
  | p :: l => by
    rw [pdel_eq, List.filter_cons]
    by_cases hp : p.1 = a
    · have : (!(p.1 == a)) = false := by simp [hp]
      rw [if_neg (by simp [this]), get_cons, if_neg (by rw [hp]; exact h)]
      exact get_pdel_ne h l
    · rw [if_pos (by simp [hp]), get_cons, get_cons]
      rw [← pdel_eq, get_pdel_ne h l]
theorem pdel_mem {k : List Int} {q : List Int × V} {l : List (List Int × V)} (h : q ∈ pdel .str k l) : q ∈ l := (List.mem_filter.1 h).1
theorem pins_mem {k : List Int} {v : V} {q : List Int × V} : ∀ {l : List (List Int × V)}, q ∈ pins .str k v l ↔ q = (k, v) ∨ q ∈ l
  | [] => by simp [pins]
  | p :: l => by
    simp only [pins]
    split
    · simp
    · simp only [List.mem_cons, pins_mem (l := l)]
      constructor
      · rintro (h | h | h)
        · exact .inr (.inl h)
        · exact .inl h
        · exact .inr (.inr h)
      · rintro (h | h | h)
        · exact .inr (.inl h)
        · exact .inl h
        · exact .inr (.inr h)
theorem spins_length {k : List Int} {v : V} : ∀ (l : List (List Int × V)), (pins .str k v l).length = l.length + 1
  | [] => rfl
  | p :: l => by
    simp only [pins]
    split
    · rfl
    · simp [spins_length l]
theorem get_pins_ne {a b : List Int} (h : a ≠ b) (v : V) : ∀ (l : List (List Int × V)), pget .str b (pins .str a v l) = pget .str b l
  | [] => by rw [show pins .str a v ([] : List (List Int × V)) = [(a, v)] from rfl, get_cons, if_neg h]
  | p :: l => by
    simp only [pins]
    split
    · rw [get_cons, if_neg h]
    · rw [get_cons, get_cons, get_pins_ne h v l]
theorem get_pins_self {a : List Int} (v : V) : ∀ (l : List (List Int × V)), pget .str a l = none → pget .str a (pins .str a v l) = some v
  | [], _ => by rw [show pins .str a v ([] : List (List Int × V)) = [(a, v)] from rfl, get_cons, if_pos rfl]
  | p :: l, h => by
    rw [get_cons] at h
    have hp : p.1 ≠ a := fun e => by rw [if_pos e] at h; cases h
    rw [if_neg hp] at h
    simp only [pins]
    split
    · rw [get_cons, if_pos rfl]
    · rw [get_cons, if_neg hp, get_pins_self v l h]
theorem get_pput_self (a : List Int) (v : V) (l : List (List Int × V)) : pget .str a (pput .str a v l) = some v := get_pins_self v _ (pget_del_self (kt := .str) l)
theorem get_pput_ne {a b : List Int} (h : a ≠ b) (v : V) (l : List (List Int × V)) : pget .str b (pput .str a v l) = pget .str b l := by
  unfold pput
  rw [get_pins_ne h, get_pdel_ne h]
theorem pins_keys_perm {a : List Int} (v : V) : ∀ (l : List (List Int × V)), ((pins .str a v l).map (·.1)).Perm (a :: l.map (·.1))
  | [] => .refl _
  | p :: l => by
    simp only [pins]
    split
    · exact .refl _
    · simp only [List.map_cons]
      exact ((pins_keys_perm v l).cons _).trans (.swap _ _ _)
theorem pdel_length (k : List Int) (l : List (List Int × V)) : (pdel .str k l).length ≤ l.length := List.length_filter_le _ _
theorem pdel_length_lt {k : List Int} {v : V} : ∀ {l : List (List Int × V)}, pget .str k l = some v → (pdel .str k l).length < l.length
  | [], h => by cases h
  | p :: l, h => by
    rw [get_cons] at h
    rw [pdel_eq, List.filter_cons]
    by_cases hp : p.1 = k
    · rw [if_neg (by simp [hp])]
      have := pdel_length k l
      rw [pdel_eq] at this
      simp only [List.length_cons]; omega
    · rw [if_neg hp] at h
      rw [if_pos (by simp [hp])]
      have := pdel_length_lt h
      rw [pdel_eq] at this
      simp only [List.length_cons]; omega
theorem pdel_nodup {k : List Int} {l : List (List Int × V)} (h : (l.map (·.1)).Nodup) : ((pdel .str k l).map (·.1)).Nodup := h.sublist (List.Sublist.map _ List.filter_sublist)
end
def FOk (f : FileS) : Prop := byteOk f.1 ∧ byteOk f.2.1 ∧ f.1.length ≤ 1048576 ∧ f.2.1.length ≤ f.1.length ∧ f.2.2.Nodup ∧ ∀ s ∈ f.2.2, 0 ≤ s ∧ s < 16384
def FsOk (fs : List (List Int × FileS)) : Prop := (∀ p ∈ fs, FOk p.2) ∧ (fs.map (·.1)).Nodup ∧ fs.length ≤ 16
theorem FsOk.get {fs : List (List Int × FileS)} (h : FsOk fs) {k : List Int} {f : FileS} (hf : pget .str k fs = some f) : FOk f := h.1 _ (get_mem hf)
theorem FsOk.set {fs : List (List Int × FileS)} (h : FsOk fs) {k : List Int} {f : FileS} (hf : FOk f) : FsOk (pset .str k f fs) :=
  ⟨fun p hp => by rcases pset_mem hp with rfl | hp; exact hf; exact h.1 p hp, by rw [pset_keys]; exact h.2.1, by have := congrArg List.length (pset_keys k f fs); simp only [List.length_map] at this; rw [this]; exact h.2.2⟩
theorem FsOk.del {fs : List (List Int × FileS)} (h : FsOk fs) (k : List Int) : FsOk (pdel .str k fs) := ⟨fun p hp => h.1 p (pdel_mem hp), pdel_nodup h.2.1, Nat.le_trans (pdel_length _ _) h.2.2⟩
theorem FsOk.put {fs : List (List Int × FileS)} (h : FsOk fs) {k : List Int} {f : FileS} (hf : FOk f) (hl : pget .str k fs = none → fs.length < 16) : FsOk (pput .str k f fs) := by
  refine ⟨fun p hp => ?_, ?_, ?_⟩
  · rcases pins_mem.1 hp with rfl | hp
    · exact hf
    · exact h.1 p (pdel_mem hp)
  · refine (List.Perm.nodup_iff (pins_keys_perm (a := k) f (pdel .str k fs))).2 ?_
    exact List.nodup_cons.2 ⟨get_none.1 (pget_del_self (kt := .str) fs), pdel_nodup h.2.1⟩
  · unfold pput
    rw [spins_length]
    cases hg : pget .str k fs with
    | none => have := hl hg; have := pdel_length k fs; omega
    | some y => have := pdel_length_lt hg; have := h.2.2; omega
theorem used_fold (D : DiskS) : ∀ (ks : List (List Int)) (s : Int), (∀ k ∈ ks, ∃ f, pget .str k D.2.1 = some f ∧ f.1.length ≤ 1048576) → 0 ≤ s → s + ks.length * 1048576 < 4611686018427387904 →
    ∃ s', foldK (disk_Disk_Used_l0 D) ks s = some s' ∧ 0 ≤ s' ∧ s' ≤ s + ks.length * 1048576
  | [], s, _, h0, _ => ⟨s, rfl, h0, by simp⟩
  | k :: ks, s, hk, h0, hb => by
    obtain ⟨f, hf, hl⟩ := hk k (by simp)
    simp only [List.length_cons, Int.natCast_add, Int.cast_ofNat_Int] at hb ⊢
    have e : disk_Disk_Used_l0 D k s = some (s + f.1.length) := by
      unfold disk_Disk_Used_l0
      simp only [hf, Option.bind_some, bnd_eq]
      rw [wrap_i64 (by omega) (by omega)]
    obtain ⟨s', h1, h2, h3⟩ := used_fold D ks (s + f.1.length) (fun k' hk' => hk k' (by simp [hk'])) (by omega) (by omega)
    refine ⟨s', ?_, h2, by omega⟩
    show (disk_Disk_Used_l0 D k s).bind _ = _
    rw [e]; exact h1
theorem Used_eq {D : DiskS} (h : FsOk D.2.1) : ∃ u, disk_Disk_Used D = some u ∧ 0 ≤ u ∧ u ≤ D.2.1.length * 1048576 := by
  obtain ⟨s', h1, h2, h3⟩ := used_fold D (D.2.1.map (·.1)) 0 (fun k hk => by
    cases hg : pget .str k D.2.1 with
    | none => exact absurd hk (get_none.1 hg)
    | some f => exact ⟨f, rfl, (h.get hg).2.2.1⟩) (by omega) (by simp only [List.length_map]; have := h.2.2; omega)
  refine ⟨s', ?_, h2, ?_⟩
  · unfold disk_Disk_Used
    simp only [bnd_eq, h1, Option.bind_some]
  · simp only [List.length_map] at h3; omega
end Sx
namespace Sx
open Go
theorem counted_eq (D : DiskS) (w : Int) : ∃ e a f o p, disk_Disk_counted D w = some (e, (D.1, D.2.1, a, D.2.2.2.1, f, o, p)) ∧ ((e = 9 ∧ o = true ∧ p = true) ∨ ((e = 0 ∨ e = 40) ∧ o = D.2.2.2.2.2.1 ∧ p = D.2.2.2.2.2.2)) := by
  unfold disk_Disk_counted
  simp only [bnd_eq]
  split
  · split
    · exact ⟨9, _, _, _, _, rfl, .inl ⟨rfl, rfl, rfl⟩⟩
    · split
      · split
        · split
          · exact ⟨40, _, _, _, _, rfl, .inr ⟨.inr rfl, rfl, rfl⟩⟩
          · exact ⟨0, _, _, _, _, rfl, .inr ⟨.inl rfl, rfl, rfl⟩⟩
        · exact ⟨0, _, _, _, _, rfl, .inr ⟨.inl rfl, rfl, rfl⟩⟩
      · rw [if_neg (by decide)]
        exact ⟨0, _, _, _, _, rfl, .inr ⟨.inl rfl, rfl, rfl⟩⟩
  · split
    · split
      · split
        · exact ⟨40, _, _, _, _, rfl, .inr ⟨.inr rfl, rfl, rfl⟩⟩
        · exact ⟨0, _, _, _, _, rfl, .inr ⟨.inl rfl, rfl, rfl⟩⟩
      · exact ⟨0, _, _, _, _, rfl, .inr ⟨.inl rfl, rfl, rfl⟩⟩
    · rw [if_neg (by decide)]
      exact ⟨0, _, _, _, _, rfl, .inr ⟨.inl rfl, rfl, rfl⟩⟩
theorem counted_calm {D : DiskS} (w : Int) (ha : D.2.2.1 = 0) (hf : D.2.2.2.2.1 = 0) : disk_Disk_counted D w = some (0, D) := by
  unfold disk_Disk_counted
  simp only [bnd_eq]
  rw [if_neg (by rw [hf]; decide), if_neg (by rw [ha]; decide), if_neg (by decide)]
theorem found_eq {D : DiskS} (name : List Int) (ho : D.2.2.2.2.2.1 = false) : disk_Disk_found D name = some (if (pget .str name D.2.1).isSome then 0 else 5) := by
  unfold disk_Disk_found
  rw [if_neg (by simp [ho])]
  simp only [bnd_eq]
  cases pget .str name D.2.1 <;> rfl
theorem clone_eq {l : List Int} (h : l.length ≤ 1048576) : slices_Clone__byte_byte l = some l := by
  unfold slices_Clone__byte_byte
  rw [if_pos (by simp only [List.length_nil]; omega)]
  rfl
theorem Sync_eq {D : DiskS} {name : List Int} {f : FileS} (hok : FsOk D.2.1) (ho : D.2.2.2.2.2.1 = false) (hf : pget .str name D.2.1 = some f) : ∃ e a fl o p, disk_Disk_counted D 2 = some (e, (D.1, D.2.1, a, D.2.2.2.1, fl, o, p)) ∧
    disk_Disk_Sync D name = some (if e = 0 then (0, (D.1, pset .str name (f.1, f.1, []) D.2.1, a, D.2.2.2.1, fl, o, p)) else (e, (D.1, D.2.1, a, D.2.2.2.1, fl, o, p))) := by
  obtain ⟨e, a, fl, o, p, hc, _⟩ := counted_eq D 2
  refine ⟨e, a, fl, o, p, hc, ?_⟩
  unfold disk_Disk_Sync
  rw [found_eq name ho, hf]
  simp only [Option.isSome_some, if_true, Option.bind_some, hc]
  rw [if_neg (by decide)]
  by_cases he : e = 0
  · subst he
    rw [if_neg (by decide)]
    simp only [hf, Option.bind_some, clone_eq (hok.get hf).2.2.1, if_true]
  · rw [if_pos (by simpa using he), if_neg he]
theorem kput_mem {k q : Int} {ks : List Int} : q ∈ kput k ks ↔ q = k ∨ q ∈ ks := by
  unfold kput pput
  have : ∀ l : List (Int × Unit), q ∈ (pins (.int .i64) k () l).map (·.1) ↔ q = k ∨ q ∈ l.map (·.1) := by
    intro l
    induction l with
    | nil => simp [pins]
    | cons p l ih =>
      simp only [pins]
      split
      · simp
      · simp only [List.map_cons, List.mem_cons, ih]
        constructor
        · rintro (h | h | h)
          · exact .inr (.inl h)
          · exact .inl h
          · exact .inr (.inr h)
        · rintro (h | h | h)
          · exact .inr (.inl h)
          · exact .inl h
          · exact .inr (.inr h)
  rw [this]
  constructor
  · rintro (h | h)
    · exact .inl h
    · obtain ⟨p, hp, e⟩ := List.mem_map.1 h
      have hp := (List.mem_filter.1 hp).1
      obtain ⟨x, hx, e2⟩ := List.mem_map.1 hp
      subst e2; subst e
      exact .inr hx
  · rintro (h | h)
    · exact .inl h
    · by_cases hq : q = k
      · exact .inl hq
      · exact .inr (List.mem_map.2 ⟨(q, ()), List.mem_filter.2 ⟨List.mem_map.2 ⟨q, h, rfl⟩, by simp [keq, hq]⟩, rfl⟩)
theorem kput_nodup {k : Int} {ks : List Int} (h : ks.Nodup) : (kput k ks).Nodup := by
  unfold kput pput
  have key : ∀ l : List (Int × Unit), ((pins (.int .i64) k () l).map (·.1)).Perm (k :: l.map (·.1)) := by
    intro l
    induction l with
    | nil => exact .refl _
    | cons p l ih =>
      simp only [pins]
      split
      · exact .refl _
      · simp only [List.map_cons]
        exact (ih.cons _).trans (.swap _ _ _)
  refine (List.Perm.nodup_iff (key _)).2 (List.nodup_cons.2 ⟨fun hk => ?_, ?_⟩)
  · obtain ⟨p, hp, e⟩ := List.mem_map.1 hk
    have := (List.mem_filter.1 hp).2
    subst e
    simp [keq] at this
  · refine List.Nodup.sublist (List.Sublist.map _ List.filter_sublist) ?_
    have e : (ks.map fun x => (x, ())).map (·.1) = ks := by rw [List.map_map]; exact List.map_id _
    rw [e]; exact h
theorem nodup_len {l : List Int} (hn : l.Nodup) (hb : ∀ s ∈ l, 0 ≤ s ∧ s < 16384) : l.length ≤ 16384 := by
  have : (l.map Int.toNat).Nodup := by
    refine List.Pairwise.map _ (fun a b h => h) ?_
    refine List.Pairwise.imp_of_mem ?_ hn
    intro a b ha hb' h e
    have := hb a ha; have := hb b hb'
    exact h (by omega)
  have h2 : (l.map Int.toNat) ⊆ List.range 16384 := fun x hx => by
    obtain ⟨s, hs, rfl⟩ := List.mem_map.1 hx
    have := hb s hs
    exact List.mem_range.2 (by omega)
  have := List.Nodup.length_le_of_subset this h2
  simpa using this
theorem write_l0 (at0 : Int) (text : List Int) (k : List Int → Option (Int × DiskS)) (h0 : 0 ≤ at0) (hb : at0 + text.length ≤ 1048576) : ∀ (fuel : Nat) (s : Int) (ds : List Int), 0 ≤ s → at0 + text.length ≤ (s + fuel - 1) * 64 → 1 ≤ fuel → s ≤ 16384 → ds.Nodup → (∀ x ∈ ds, 0 ≤ x ∧ x < 16384) →
    ∃ ds', disk_Disk_Write_l0 at0 text k fuel (s, ds) = k ds' ∧ ds'.Nodup ∧ (∀ x ∈ ds', 0 ≤ x ∧ x < 16384) ∧ ∀ x, x ∈ ds' ↔ x ∈ ds ∨ (text ≠ [] ∧ s ≤ x ∧ x * 64 < at0 + text.length)
  | 0, s, ds, _, _, h1, _, _, _ => absurd h1 (by omega)
  | fuel + 1, s, ds, hs, hf, _, hs2, hn, hd => by
    simp only [disk_Disk_Write_l0, bnd_eq]
    rw [wrap_i64 (n := s * 64) (by omega) (by omega), wrap_i64 (n := at0 + text.length) (by omega) (by omega)]
    by_cases hc : (decide (s * 64 < at0 + (text.length : Int)) && (text != [])) = true
    · rw [if_pos hc]
      have hlt : s * 64 < at0 + (text.length : Int) := by simp only [Bool.and_eq_true, decide_eq_true_eq] at hc; exact hc.1
      rw [if_pos (by have := nodup_len hn hd; omega), wrap_i64 (n := s + 1) (by omega) (by omega)]
      have hfu : 1 ≤ fuel := by
        rcases Nat.eq_zero_or_pos fuel with h | h
        · subst h; simp at hf; omega
        · exact h
      have htx : text ≠ [] := by simp only [Bool.and_eq_true, bne_iff_ne] at hc; exact hc.2
      obtain ⟨ds', e1, e2, e3, e4⟩ := write_l0 at0 text k h0 hb fuel (s + 1) (kput s ds) (by omega) (by simp only [Int.natCast_add, Int.cast_ofNat_Int] at hf; omega) hfu (by omega) (kput_nodup hn) (fun x hx => by
        rcases kput_mem.1 hx with rfl | hx
        · omega
        · exact hd x hx)
      refine ⟨ds', e1, e2, e3, fun x => (e4 x).trans ?_⟩
      rw [kput_mem]
      constructor
      · rintro ((rfl | h) | ⟨h1, h2, h3⟩)
        · exact .inr ⟨htx, by omega, by omega⟩
        · exact .inl h
        · exact .inr ⟨h1, by omega, h3⟩
      · rintro (h | ⟨h1, h2, h3⟩)
        · exact .inl (.inr h)
        · rcases Int.lt_or_eq_of_le h2 with h | h
          · exact .inr ⟨h1, by omega, h3⟩
          · exact .inl (.inl h.symm)
    · rw [if_neg hc]
      refine ⟨ds, rfl, hn, hd, fun x => ⟨.inl, fun h => h.elim id fun ⟨h1, h2, h3⟩ => absurd ?_ hc⟩⟩
      simp only [Bool.and_eq_true, decide_eq_true_eq, bne_iff_ne]
      exact ⟨by omega, h1⟩
end Sx
namespace Sx
open Go
def over (seen : List Int) (i : Nat) (text : List Int) : List Int := seen.take i ++ text ++ seen.drop (i + text.length)
theorem over_length {seen text : List Int} {i : Nat} (h : i ≤ seen.length) : (over seen i text).length = max seen.length (i + text.length) := by
  unfold over
  simp only [List.length_append, List.length_take, List.length_drop]
  omega
theorem laid_over {xs ys : List Int} {i : Nat} (h : i + ys.length ≤ xs.length) : laidOver xs i ys = over xs i ys := by
  unfold laidOver over
  rw [List.take_of_length_le (l := ys) (by omega)]
theorem over_zeros {seen text : List Int} {i : Nat} (h : i ≤ seen.length) (h2 : seen.length < i + text.length) (m : Nat) (hm : m = i + text.length - seen.length) : over (seen ++ List.replicate m 0) i text = over seen i text := by
  unfold over
  rw [List.take_append_of_le_length h, List.drop_of_length_le (by simp; omega), List.drop_of_length_le (by omega)]
theorem byteOk_app2 {a b : List Int} (ha : byteOk a) (hb : byteOk b) : byteOk (a ++ b) := fun x hx => (List.mem_append.1 hx).elim (ha x) (hb x)
theorem byteOk_of_subset {a b : List Int} (hs : a ⊆ b) (hb : byteOk b) : byteOk a := fun x hx => hb x (hs hx)
theorem over_bytes {seen text : List Int} {i : Nat} (hs : byteOk seen) (ht : byteOk text) : byteOk (over seen i text) :=
  byteOk_app2 (byteOk_app2 (byteOk_of_subset (List.take_subset _ _) hs) ht) (byteOk_of_subset (List.drop_subset _ _) hs)
def seenOf (fs : List (List Int × FileS)) (name : List Int) : List Int := ((pget .str name fs).map (·.1)).getD []
def safeOf (fs : List (List Int × FileS)) (name : List Int) : List Int := ((pget .str name fs).map (·.2.1)).getD []
def dirtyOf (fs : List (List Int × FileS)) (name : List Int) : List Int := match pget .str name fs with | none => [] | some f => f.2.2
theorem Write_core2 {D : DiskS} {name text : List Int} {at0 : Int} (hok : FsOk D.2.1) (ho : D.2.2.2.2.2.1 = false) (hn : disk_isName name = some true) (ht : byteOk text) (h0 : 0 ≤ at0) (h1 : at0 ≤ (seenOf D.2.1 name).length) (hb : at0 + text.length ≤ 1048576)
    (hroom : pget .str name D.2.1 = none → D.2.1.length < 16) (hcap : ∀ u, disk_Disk_Used D = some u → u + max 0 (at0 + text.length - (seenOf D.2.1 name).length) ≤ D.1) :
    ∃ e a fl o p fs', disk_Disk_counted D 1 = some (e, (D.1, D.2.1, a, D.2.2.2.1, fl, o, p)) ∧ disk_Disk_Write D name at0 text = some (if e = 0 then (0, (D.1, fs', a, D.2.2.2.1, fl, o, p)) else (e, (D.1, D.2.1, a, D.2.2.2.1, fl, o, p))) ∧
      FsOk fs' ∧ (∃ ds, pget .str name fs' = some (over (seenOf D.2.1 name) at0.toNat text, safeOf D.2.1 name, ds) ∧ ∀ x, x ∈ ds ↔ x ∈ dirtyOf D.2.1 name ∨ (text ≠ [] ∧ at0 / 64 ≤ x ∧ x * 64 < at0 + text.length)) ∧ (∀ b, name ≠ b → pget .str b fs' = pget .str b D.2.1) ∧ fs'.map (·.1) = (if (pget .str name D.2.1).isSome then D.2.1 else pput .str name ([], [], []) D.2.1).map (·.1) := by
  obtain ⟨e, a, fl, o, p, hc, _⟩ := counted_eq D 1
  obtain ⟨u, hu, hu0, hu1⟩ := Used_eq hok
  have hlen := hok.2.2
  replace hcap := hcap u hu
  have hbase : ∃ fs1 f1, fs1 = (if (pget .str name D.2.1).isSome then D.2.1 else pput .str name ([], [], []) D.2.1) ∧ pget .str name fs1 = some f1 ∧ f1.1 = seenOf D.2.1 name ∧ f1.2.1 = safeOf D.2.1 name ∧ f1.2.2 = dirtyOf D.2.1 name ∧ FsOk fs1 ∧ FOk f1 ∧ ∀ b, name ≠ b → pget .str b fs1 = pget .str b D.2.1 := by
    cases hg : pget .str name D.2.1 with
    | some f => exact ⟨_, f, by simp, hg, by simp [seenOf, hg], by simp [safeOf, hg], by simp [dirtyOf, hg], hok, hok.get hg, fun _ _ => rfl⟩
    | none =>
      have hf0 : FOk ([], [], []) := ⟨(fun x hx => by cases hx), (fun x hx => by cases hx), by simp, by simp, by simp, (fun x hx => by cases hx)⟩
      exact ⟨_, ([], [], []), by simp, get_pput_self _ _ _, by simp [seenOf, hg], by simp [safeOf, hg], by simp [dirtyOf, hg], hok.put hf0 hroom, hf0, fun b hb => get_pput_ne hb _ _⟩
  obtain ⟨fs1, f1, hfs1, hg1, hs1, hsf, hdf, hok1, hfo, hne1⟩ := hbase
  have hsl : f1.1.length ≤ 1048576 := hfo.2.2.1
  rw [← hs1] at h1 hcap
  have hlong : ∃ fs2 z, (fs2 = if at0 + (text.length : Int) > f1.1.length then pset .str name (f1.1 ++ List.replicate z 0, f1.2.1, f1.2.2) fs1 else fs1) ∧ z = Int.toNat (at0 + text.length - f1.1.length) := ⟨_, _, rfl, rfl⟩
  obtain ⟨fs2, z, hfs2, hz⟩ := hlong
  let f2s : List Int := if at0 + (text.length : Int) > f1.1.length then f1.1 ++ List.replicate z 0 else f1.1
  have hg2 : pget .str name fs2 = some (f2s, f1.2.1, f1.2.2) := by
    rw [hfs2]
    show _ = some ((if _ then _ else _), _, _)
    split
    · exact get_pset hg1
    · exact hg1
  have hne2 : ∀ b, name ≠ b → pget .str b fs2 = pget .str b D.2.1 := fun b hb => by
    rw [hfs2]
    split
    · rw [pget_pset_ne hb, hne1 b hb]
    · exact hne1 b hb
  have hk2 : fs2.map (·.1) = fs1.map (·.1) := by
    rw [hfs2]
    split
    · rw [pset_keys]
    · rfl
  have hf2l : (f2s.length : Int) = max (f1.1.length : Int) (at0 + text.length) := by
    show ((if _ then _ else _ : List Int).length : Int) = _
    split
    · rename_i hgt
      simp only [List.length_append, List.length_replicate, hz]; omega
    · omega
  have hf2b : byteOk f2s := by
    show byteOk (if _ then _ else _)
    split
    · exact byteOk_app2 hfo.1 (fun x hx => by rw [(List.mem_replicate.1 hx).2]; decide)
    · exact hfo.1
  have hov : laidOver f2s (Int.toNat at0) text = over f1.1 (Int.toNat at0) text := by
    rw [laid_over (by omega)]
    show over (if _ then _ else _) _ _ = _
    split
    · rename_i hgt
      exact over_zeros (by omega) (by omega) z (by rw [hz]; omega)
    · rfl
  have hok2 : FsOk fs2 := by
    rw [hfs2]
    split
    · rename_i hgt
      refine hok1.set ⟨byteOk_app2 hfo.1 (fun x hx => by rw [(List.mem_replicate.1 hx).2]; decide), hfo.2.1, ?_, ?_, hfo.2.2.2.2⟩
      · simp only [List.length_append, List.length_replicate, hz]; omega
      · have := hfo.2.2.2.1
        simp only [List.length_append, List.length_replicate]; omega
    · exact hok1
  obtain ⟨ds, hds, hdn, hdb, hdm⟩ := write_l0 at0 text (fun o30 => some ((0 : Int), (D.1, pset .str name (laidOver f2s (Int.toNat at0) text, f1.2.1, o30) fs2, a, D.2.2.2.1, fl, o, p))) h0 hb (text.length + 2) (at0 / 64) f1.2.2 (by omega) (by omega) (by omega) (by omega) hfo.2.2.2.2.1 hfo.2.2.2.2.2
  refine ⟨e, a, fl, o, p, pset .str name (laidOver f2s (Int.toNat at0) text, f1.2.1, ds) fs2, hc, ?_, ?_, ⟨ds, ?_⟩, fun b hb => by rw [pget_pset_ne hb, hne2 b hb], by rw [pset_keys, hk2, hfs1]⟩
  · have hsz : (0 : Int) ≤ (f1.1.length : Int) := by omega
    have hw1 : IntKind.wrap .i64 (at0 + (text.length : Int)) = at0 + text.length := wrap_i64 (by omega) (by omega)
    have hw2 : IntKind.wrap .i64 (at0 + (text.length : Int) - f1.1.length) = at0 + text.length - f1.1.length := wrap_i64 (by omega) (by omega)
    have hw3 : IntKind.wrap .i64 (u + max 0 (at0 + (text.length : Int) - f1.1.length)) = u + max 0 (at0 + (text.length : Int) - f1.1.length) := wrap_i64 (by omega) (by omega)
    have htd : IntKind.wrap .i64 (Int.tdiv at0 64) = at0 / 64 := by rw [Int.tdiv_eq_ediv_of_nonneg h0]; exact wrap_i64 (by omega) (by omega)
    have tail : ∀ (n0 : Int), n0 = f1.1.length → ∀ k16fs : List (List Int × FileS), k16fs = fs1 → (fun (o17 : List (List Int × FileS)) => if (decide (at0 + (text.length : Int) > n0)) = true then ((pget .str name o17).bind fun (f41 : FileS) => if 0 ≤ at0 + (text.length : Int) - n0 ∧ (List.length f41.1 + Int.toNat (at0 + (text.length : Int) - n0)) * 1 ≤ 140737488355328 then
        ((pget .str name (pset .str name ((f41.1 ++ List.replicate (Int.toNat (at0 + (text.length : Int) - n0)) 0), f41.2.1, f41.2.2) o17)).bind fun (f22 : FileS) => if (0 : Int) ≤ at0 ∧ at0 ≤ (List.length f22.1 : Int) ∧ (List.length f22.1 : Int) ≤ (List.length f22.1 : Int) then disk_Disk_Write_l0 at0 text (fun o30 => some ((0 : Int), (D.1, (pset .str name ((laidOver f22.1 (Int.toNat at0) text), f22.2.1, o30) (pset .str name ((f41.1 ++ List.replicate (Int.toNat (at0 + (text.length : Int) - n0)) 0), f41.2.1, f41.2.2) o17)), a, D.2.2.2.1, fl, o, p))) (text.length + 2) (at0 / 64, f22.2.2) else none) else none) else
        ((pget .str name o17).bind fun (f22 : FileS) => if (0 : Int) ≤ at0 ∧ at0 ≤ (List.length f22.1 : Int) ∧ (List.length f22.1 : Int) ≤ (List.length f22.1 : Int) then disk_Disk_Write_l0 at0 text (fun o30 => some ((0 : Int), (D.1, (pset .str name ((laidOver f22.1 (Int.toNat at0) text), f22.2.1, o30) o17), a, D.2.2.2.1, fl, o, p))) (text.length + 2) (at0 / 64, f22.2.2) else none)) k16fs = some (0, (D.1, pset .str name (laidOver f2s (Int.toNat at0) text, f1.2.1, ds) fs2, a, D.2.2.2.1, fl, o, p)) := by
      rintro n0 hn0 k16fs rfl
      subst hn0
      rw [← hds]
      show (if _ then _ else _) = _
      by_cases hgt : at0 + (text.length : Int) > f1.1.length
      · have e1 : f2s = f1.1 ++ List.replicate z 0 := if_pos hgt
        have e2 : fs2 = pset .str name (f1.1 ++ List.replicate z 0, f1.2.1, f1.2.2) k16fs := by rw [hfs2, if_pos hgt]
        rw [if_pos (by simpa using hgt), hg1]
        simp only [Option.bind_some]
        rw [if_pos (by omega), ← hz, ← e2, hg2]
        simp only [Option.bind_some]
        rw [if_pos (by omega)]
      · have e1 : f2s = f1.1 := if_neg hgt
        have e2 : fs2 = k16fs := by rw [hfs2, if_neg hgt]
        rw [if_neg (by simpa using hgt)]
        rw [e2] at hg2
        rw [hg2]
        simp only [Option.bind_some]
        rw [if_pos (by omega), e2]
    unfold disk_Disk_Write
    rw [if_neg (by simp [ho])]
    simp only [bnd_eq, hn, hu, hc, Option.bind_some]
    have hne : ∀ n0 : Int, n0 = f1.1.length → (if (decide (at0 < 0) || decide (at0 > n0)) = true then some (1, D)
    else
      if decide (IntKind.i64.wrap (at0 + ↑text.length) > 1048576) = true then some (3, D)
      else
        if decide (IntKind.i64.wrap (u + max 0 (IntKind.i64.wrap (IntKind.i64.wrap (at0 + ↑text.length) - n0))) > D.fst) = true then some (41, D)
        else if (e != 0) = true then some (e, D.fst, D.snd.fst, a, D.snd.snd.snd.fst, fl, o, p) else some (0, (D.1, pset .str name (laidOver f2s (Int.toNat at0) text, f1.2.1, ds) fs2, a, D.2.2.2.1, fl, o, p))) = some (if e = 0 then (0, (D.1, pset .str name (laidOver f2s (Int.toNat at0) text, f1.2.1, ds) fs2, a, D.2.2.2.1, fl, o, p)) else (e, (D.1, D.2.1, a, D.2.2.2.1, fl, o, p))) := by
      rintro n0 rfl
      rw [hw1, hw2, hw3, if_neg (by simp only [Bool.or_eq_true, decide_eq_true_eq]; omega), if_neg (by simp only [decide_eq_true_eq]; omega), if_neg (by simp only [decide_eq_true_eq]; omega)]
      by_cases he : e = 0
      · rw [if_neg (by simp [he]), if_pos he]
      · rw [if_pos (by simpa using he), if_neg he]
    cases hg : pget .str name D.2.1 with
    | none =>
      rw [hg] at hfs1
      simp only [Option.isSome_none, Bool.false_eq_true, if_false] at hfs1
      have hfe : f1 = ([], [], []) := by rw [hfs1, get_pput_self] at hg1; exact (Option.some.inj hg1).symm
      have hl0 : (0 : Int) = (f1.1.length : Int) := by rw [hfe]; rfl
      have hr := hroom hg
      rw [← hne 0 hl0, ← tail 0 hl0 _ hfs1.symm]
      simp only [Option.isSome_none, Bool.false_eq_true, if_false, Bool.not_true, Bool.false_or, Bool.not_false, if_true]
      have hm : D.2.1.length ≤ most := by simp only [most]; omega
      have h16 : ¬ decide ((D.2.1.length : Int) ≥ 16) = true := by simp only [decide_eq_true_eq]; omega
      have h62 : D.2.1.length < 4611686018427387904 := by omega
      simp only [if_pos hm, if_neg h16, if_pos h62, htd, hw1]
      have hw2' : IntKind.wrap .i64 (at0 + (text.length : Int) - 0) = at0 + text.length - 0 := wrap_i64 (by omega) (by omega)
      simp only [hw2']
    | some f =>
      rw [hg] at hfs1
      simp only [Option.isSome_some, if_true] at hfs1
      have hff : f1 = f := by rw [hfs1, hg] at hg1; exact (Option.some.inj hg1).symm
      have hl0 : (f.1.length : Int) = (f1.1.length : Int) := by rw [hff]
      rw [← hne _ hl0, ← tail _ hl0 _ hfs1.symm]
      simp only [Option.isSome_some, if_true, Option.bind_some, Bool.not_true, Bool.false_or, Bool.false_eq_true, if_false]
      have hw2' : IntKind.wrap .i64 (at0 + (text.length : Int) - f.1.length) = at0 + text.length - f.1.length := by rw [hl0]; exact hw2
      simp only [htd, hw1, hw2', hg, Option.bind_some]
  · refine hok2.set ⟨?_, hfo.2.1, ?_, ?_, hdn, hdb⟩
    · show byteOk (laidOver _ _ _)
      rw [hov]; exact over_bytes hfo.1 ht
    · show (laidOver _ _ _).length ≤ _
      rw [hov, over_length (by omega)]; omega
    · show f1.2.1.length ≤ (laidOver _ _ _).length
      have := hfo.2.2.2.1
      rw [hov, over_length (by omega)]; omega
  · refine ⟨by rw [get_pset hg2, hov, hs1, hsf], fun x => ?_⟩
    rw [← hdf]; exact hdm x
end Sx
namespace Sx
open Go
theorem dname_l0 (a : List Int) (hl : a.length < 4611686018427387904) (k : Unit → Option Bool) (hk : ∃ b, k () = some b) : ∀ (j i : Nat), i + j = a.length → ∃ b, disk_isName_l0 a k (j + 1) (i : Int) = some b
  | 0, i, h => by
    unfold disk_isName_l0
    rw [if_neg (by simp only [decide_eq_true_eq]; omega)]
    exact hk
  | j + 1, i, h => by
    unfold disk_isName_l0
    rw [if_pos (by simp only [decide_eq_true_eq]; omega)]
    have hin : (0 : Int) ≤ (i : Int) ∧ (i : Int) < (a.length : Int) := by omega
    have ew : IntKind.wrap .i64 ((i : Int) + 1) = ((i + 1 : Nat) : Int) := wrap_i64 (by omega) (by omega)
    obtain ⟨b, hb⟩ := dname_l0 a hl k hk j (i + 1) (by omega)
    simp only [bnd_eq, ew, hb, if_pos hin]
    by_cases h1 : decide (List.getD a (Int.toNat (i : Int)) 0 < 33) = true
    · rw [if_pos h1]; exact ⟨_, rfl⟩
    · rw [if_neg h1]
      by_cases h2 : decide (List.getD a (Int.toNat (i : Int)) 0 > 126) = true
      · rw [if_pos h2]; exact ⟨_, rfl⟩
      · rw [if_neg h2]; exact ⟨_, rfl⟩
theorem isName_any (a : List Int) (hl : a.length < 4611686018427387904) : ∃ b, disk_isName a = some b := by
  unfold disk_isName
  simp only [bnd_eq]
  have ef : Int.toNat ((a.length : Int) - 0) + 1 = a.length + 1 := by omega
  rw [ef]
  exact dname_l0 a hl _ ⟨_, rfl⟩ a.length 0 (by omega)
theorem Size_eq {D : DiskS} {name : List Int} (ho : D.2.2.2.2.2.1 = false) : disk_Disk_Size D name = some (match pget .str name D.2.1 with | none => (0, 5) | some f => ((f.1.length : Int), 0)) := by
  unfold disk_Disk_Size
  rw [found_eq name ho]
  cases h : pget .str name D.2.1 with
  | none => rfl
  | some f => rfl
theorem List_eq {D : DiskS} (hok : FsOk D.2.1) (ho : D.2.2.2.2.2.1 = false) : disk_Disk_List D = some (D.2.1.map (·.1)) := by
  unfold disk_Disk_List
  have := hok.2.2
  rw [if_neg (by simp [ho]), if_pos (by omega)]
theorem Read_at {D : DiskS} {name : List Int} {at0 n : Int} {f : FileS} (hok : FsOk D.2.1) (ho : D.2.2.2.2.2.1 = false) (hg : pget .str name D.2.1 = some f) (h0 : 0 ≤ at0) (h1 : at0 ≤ f.1.length) (hn : 0 ≤ n) : disk_Disk_Read D name at0 n = some ((f.1.drop at0.toNat).take n.toNat, 0) := by
  have hl := (hok.get hg).2.2.1
  unfold disk_Disk_Read
  rw [found_eq name ho, hg]
  simp only [Option.isSome_some, if_true, Option.bind_some, bnd_eq]
  rw [if_neg (by decide), if_neg (by simp only [Bool.or_eq_true, decide_eq_true_eq]; omega)]
  by_cases he : at0 ≥ (f.1.length : Int)
  · rw [if_pos (by simpa using he)]
    have : List.drop at0.toNat f.1 = [] := List.drop_eq_nil_of_le (by omega)
    rw [this, List.take_nil]
  · rw [if_neg (by simpa using he), if_pos (by omega), Int.toNat_natCast, List.take_length]
    rw [if_pos (by refine ⟨by omega, ?_, ?_⟩ <;> omega)]
    rcases Int.le_total n ((List.drop at0.toNat f.1).length : Int) with h | h
    · rw [Int.min_eq_left h]
    · rw [Int.min_eq_right h, Int.toNat_natCast, List.take_length, List.take_of_length_le (by omega)]
end Sx
namespace Sx
open Go
theorem decI_val : ∀ (n : Nat) (s : List Int), s.length = n → (∀ c ∈ s, isDig c) → s ≠ [] → (s.length = 1 ∨ s.headD 0 ≠ 48) → 0 ≤ valD 0 s ∧ decI (valD 0 s).toNat = s := by
  intro n
  induction n with
  | zero => intro s hl _ hne; exact absurd (List.eq_nil_of_length_eq_zero hl) hne
  | succ n ih =>
    intro s hl hd hne hh
    obtain ⟨init, c, rfl⟩ : ∃ init c, s = init ++ [c] := ⟨s.dropLast, s.getLast hne, (List.dropLast_concat_getLast hne).symm⟩
    have hc := hd c (by simp)
    simp only [isDig] at hc
    by_cases hi : init = []
    · subst hi
      have hv : valD 0 ([] ++ [c]) = c - 48 := by simp [valD]
      rw [hv]
      refine ⟨by omega, ?_⟩
      rw [decI_eq, if_pos (by omega)]
      simp only [List.nil_append, List.cons.injEq, and_true]
      omega
    · have hlen : init.length = n := by simp only [List.length_append, List.length_cons, List.length_nil] at hl; omega
      have hh2 : init.headD 0 ≠ 48 := by
        cases init with
        | nil => exact absurd rfl hi
        | cons a r =>
          rcases hh with h | h
          · simp at h
          · exact h
      obtain ⟨h0, h1⟩ := ih init hlen (fun x hx => hd x (by simp [hx])) hi (.inr hh2)
      have hv : valD 0 (init ++ [c]) = 10 * valD 0 init + (c - 48) := by rw [valD_append]; simp [valD]
      have hpos : valD 0 init ≠ 0 := fun h => by
        rw [h, decI_eq, if_pos (by decide)] at h1
        rw [← h1] at hh2
        exact hh2 rfl
      rw [hv]
      refine ⟨by omega, ?_⟩
      rw [decI_eq, if_neg (by omega)]
      have e1 : (10 * valD 0 init + (c - 48)).toNat / 10 = (valD 0 init).toNat := by omega
      have e2 : (((10 * valD 0 init + (c - 48)).toNat % 10 : Nat) : Int) = c - 48 := by omega
      rw [e1, e2, h1]
      congr 2
      omega
def digF : List Int → Int → Int
  | [], n => if n > 9999999 then -1 else n
  | c :: r, n => if c < 48 ∨ c > 57 ∨ n > 9999999 then -1 else digF r (10 * n + (c - 48))
def digS (s : List Int) : Int := if s = [] ∨ (1 < s.length ∧ s.getD 0 0 = 48) then -1 else digF s 0
theorem digits_l0 (s : List Int) (hs : byteOk s) (hl : s.length < 4611686018427387904) (k : Int → Option Int) (hk : ∀ n, k n = some (if n > 9999999 then -1 else n)) : ∀ (j i : Nat) (n : Int), i + j = s.length → 0 ≤ n → n ≤ 99999999 →
    wal_digits_l0 s k (j + 1) (n, (i : Int)) = some (digF (s.drop i) n) := by
  intro j
  induction j with
  | zero =>
    intro i n hi h0 h1
    rw [List.drop_eq_nil_of_le (by omega)]
    simp only [wal_digits_l0]
    rw [if_neg (by simp only [decide_eq_true_eq]; omega)]
    exact hk n
  | succ j ih =>
    intro i n hi h0 h1
    have hlt : i < s.length := by omega
    have hdr : s.drop i = s.getD i 0 :: s.drop (i + 1) := by
      rw [List.drop_eq_getElem_cons hlt]
      simp [List.getD, hlt]
    have hg := hs (s.getD i 0) (by simp only [List.getD, List.getElem?_eq_getElem hlt, Option.getD_some]; exact List.getElem_mem hlt)
    rw [hdr]
    rw [wal_digits_l0]
    rw [if_pos (by simp only [decide_eq_true_eq]; omega), if_pos (by constructor <;> omega)]
    simp only [Int.toNat_natCast]
    simp only [bnd_eq]
    by_cases hA : s.getD i 0 < 48
    · rw [if_pos (by rw [decide_eq_true_eq]; exact hA), if_pos (by simp)]
      simp only [digF]
      rw [if_pos (.inl hA)]
    · rw [if_neg (by rw [decide_eq_true_eq]; exact hA), if_pos (by constructor <;> omega)]
      by_cases hB : s.getD i 0 > 57 ∨ n > 9999999
      · rw [if_pos (by rw [Bool.or_eq_true, decide_eq_true_eq, decide_eq_true_eq]; exact hB)]
        simp only [digF]
        rw [if_pos (.inr hB)]
      · rw [if_neg (by rw [Bool.or_eq_true, decide_eq_true_eq, decide_eq_true_eq]; exact hB), if_pos (by constructor <;> omega)]
        have w1 : IntKind.wrap .u8 (s.getD i 0 - 48) = s.getD i 0 - 48 := wrap_id (by simp only [rng, lo, Sx.hi]; omega)
        have w2 : IntKind.wrap .i64 (s.getD i 0 - 48) = s.getD i 0 - 48 := wrap_id (by simp only [rng, lo, Sx.hi]; omega)
        have w3 : IntKind.wrap .i64 (10 * n) = 10 * n := wrap_id (by simp only [rng, lo, Sx.hi]; omega)
        have w4 : IntKind.wrap .i64 (10 * n + (s.getD i 0 - 48)) = 10 * n + (s.getD i 0 - 48) := wrap_id (by simp only [rng, lo, Sx.hi]; omega)
        have w5 : IntKind.wrap .i64 ((i : Int) + 1) = ((i + 1 : Nat) : Int) := by rw [wrap_id (by simp only [rng, lo, Sx.hi]; omega)]; omega
        rw [w1, w2, w3, w4, w5]
        rw [ih (i + 1) _ (by omega) (by omega) (by omega)]
        simp only [digF]
        rw [if_neg (by omega)]
theorem digits_eq (s : List Int) (hs : byteOk s) (hl : s.length < 4611686018427387904) : wal_digits s = some (digS s) := by
  have hk : ∀ n : Int, (fun o8 : Int => if (decide (o8 > 9999999)) = true then (some (-1) : Option Int) else some o8) n = some (if n > 9999999 then -1 else n) := fun n => by
    by_cases h : n > 9999999
    · simp [h]
    · simp [h]
  have hloop : wal_digits_l0 s (fun o8 : Int => if (decide (o8 > 9999999)) = true then some (-1) else some o8) (Int.toNat ((List.length s : Int) - 0) + 1) (0, 0) = some (digF s 0) := by
    have := digits_l0 s hs hl (fun o8 : Int => if (decide (o8 > 9999999)) = true then some (-1) else some o8) hk s.length 0 0 (by omega) (by omega) (by omega)
    rw [List.drop_zero] at this
    rw [show Int.toNat ((List.length s : Int) - 0) = s.length by omega]
    exact this
  unfold wal_digits
  simp only [bnd_eq]
  unfold digS
  by_cases h1 : s = []
  · subst h1; rfl
  · rw [if_neg (by simp [h1])]
    by_cases h2 : 1 < s.length
    · rw [if_pos (by rw [decide_eq_true_eq]; omega), if_pos (by omega)]
      by_cases h3 : s.getD 0 0 = 48
      · rw [if_pos (by rw [beq_iff_eq]; exact h3), if_pos (.inr ⟨h2, h3⟩)]
      · rw [if_neg (by rw [beq_iff_eq]; exact h3), if_neg (by rintro (h | h); exact h1 h; exact h3 h.2)]
        exact hloop
    · rw [if_neg (by rw [decide_eq_true_eq]; omega), if_neg (by decide), if_neg (by rintro (h | h); exact h1 h; exact h2 h.1)]
      exact hloop
theorem digF_val : ∀ (s : List Int) (n : Int), 0 ≤ n → 0 ≤ digF s n → (∀ c ∈ s, isDig c) ∧ digF s n = valD n s ∧ digF s n ≤ 9999999
  | [], n, h0, h => by
    simp only [digF] at h ⊢
    split at h
    · omega
    · rename_i hn
      rw [if_neg hn]
      exact ⟨fun _ h => by simp at h, rfl, by omega⟩
  | c :: r, n, h0, h => by
    simp only [digF] at h ⊢
    split at h
    · omega
    · rename_i hc
      rw [if_neg hc]
      obtain ⟨h1, h2, h3⟩ := digF_val r _ (by omega) h
      refine ⟨fun x hx => ?_, ?_, h3⟩
      · rcases List.mem_cons.1 hx with rfl | hx
        · simp only [isDig]; omega
        · exact h1 x hx
      · rw [h2]; rfl
theorem digS_spec {s : List Int} (h : 0 ≤ digS s) : decI (digS s).toNat = s ∧ digS s ≤ 9999999 := by
  unfold digS at h ⊢
  split at h
  · omega
  · rename_i hn
    rw [if_neg hn]
    obtain ⟨h1, h2, h3⟩ := digF_val s 0 (by omega) h
    refine ⟨?_, h3⟩
    rw [h2]
    have hne : s ≠ [] := fun e => hn (.inl e)
    refine (decI_val s.length s rfl h1 hne ?_).2
    by_cases h4 : 1 < s.length
    · right
      intro e
      exact hn (.inr ⟨h4, by cases s with
        | nil => exact absurd rfl hne
        | cons a r => simpa using e⟩)
    · left
      have : s.length ≠ 0 := fun e => hne (List.eq_nil_of_length_eq_zero e)
      omega
theorem digF_of : ∀ (s : List Int) (n : Int), 0 ≤ n → (∀ c ∈ s, isDig c) → valD n s ≤ 9999999 → digF s n = valD n s
  | [], n, h0, _, h => by
    simp only [digF]
    have h' : n ≤ 9999999 := h
    rw [if_neg (by omega)]; rfl
  | c :: r, n, h0, hd, h => by
    have hc := hd c (by simp)
    simp only [isDig] at hc
    have hmono : ∀ (r : List Int) (n : Int), 0 ≤ n → (∀ c ∈ r, isDig c) → n ≤ valD n r := by
      intro r
      induction r with
      | nil => intro n _ _; exact Int.le_refl n
      | cons a r ih =>
        intro n h0 hd
        have ha := hd a (by simp)
        simp only [isDig] at ha
        have := ih (10 * n + (a - 48)) (by omega) (fun x hx => hd x (by simp [hx]))
        show n ≤ valD (10 * n + (a - 48)) r
        omega
    have hn : n ≤ valD n (c :: r) := hmono (c :: r) n h0 hd
    simp only [digF]
    rw [if_neg (by omega)]
    exact digF_of r _ (by omega) (fun x hx => hd x (by simp [hx])) h
theorem digS_decI {n : Nat} (h : n ≤ 9999999) : digS (decI n) = (n : Int) := by
  obtain ⟨h1, h2, h3⟩ := decI_all n
  unfold digS
  have hh : ¬ (decI n = [] ∨ (1 < (decI n).length ∧ (decI n).getD 0 0 = 48)) := by
    rintro (e | ⟨e1, e2⟩)
    · exact h3 e
    ·
      have key : ∀ m : Nat, 0 < m → (decI m).getD 0 0 ≠ 48 := by
        intro m
        induction m using Nat.strongRecOn with
        | ind m ih =>
          intro hm
          rw [decI_eq]
          split
          · simp; omega
          · have hne := (decI_all (m / 10)).2.2
            have := ih (m / 10) (by omega) (by omega)
            cases hd : decI (m / 10) with
            | nil => exact absurd hd hne
            | cons a r => rw [hd] at this; simpa using this
      rcases Nat.eq_zero_or_pos n with rfl | hp
      · rw [decI_eq, if_pos (by decide)] at e1; simp at e1
      · exact key n hp e2
  rw [if_neg hh, digF_of _ 0 (by omega) h1 (by rw [h2]; omega), h2]
def fileN (nm : List Int) (n : Int) : List Int := (nm ++ [46]) ++ itoaI n
theorem itoaI_len {n : Int} (h : rng .i64 n) : (itoaI n).length ≤ 30 := by
  have := itoa_len h
  simpa [itoaI, ofB] using this
theorem file_eq (l : Unit × List Int × Int × (List (Int × Int × Int × Unit)) × Int × Bool × Unit) (n : Int) (hl : l.2.1.length ≤ 24) (hn : rng .i64 n) : wal_Log_file l n = some (fileN l.2.1 n) := by
  have := itoaI_len hn
  unfold wal_Log_file strconv_Itoa
  rw [if_pos (by simp only [most, List.length_cons, List.length_nil]; omega), bind_eq, if_pos (by simp only [most, List.length_append, List.length_cons, List.length_nil]; omega)]
  rfl
theorem cutp_eq (a p : List Int) : strings_CutPrefix a p = some (if a.take p.length == p && decide (p.length ≤ a.length) then (a.drop p.length, true) else (a, false)) := by
  have h0 : internal_stringslite_HasPrefix a p = some (a.take p.length == p && decide (p.length ≤ a.length)) := by
    have := hasprefix_eq a p
    unfold strings_HasPrefix at this
    cases h : internal_stringslite_HasPrefix a p with
    | none => rw [h] at this; cases this
    | some b => rw [h, bind_eq] at this; exact this
  unfold strings_CutPrefix internal_stringslite_CutPrefix
  rw [h0, bind_eq]
  cases hb : (a.take p.length == p && decide (p.length ≤ a.length)) with
  | false => simp only [Bool.not_false, if_true, bind_eq, Bool.false_eq_true, if_false]
  | true =>
    have hle : p.length ≤ a.length := by
      rw [Bool.and_eq_true, decide_eq_true_eq] at hb
      exact hb.2
    rw [if_neg (by decide), if_pos ⟨by omega, by omega, by omega⟩]
    simp only [bnd_eq, bind_eq, if_true, Int.toNat_natCast, List.take_length]
def numOf (nm f : List Int) : Option Int :=
  if (f.take (nm ++ [46]).length == nm ++ [46] && decide ((nm ++ [46]).length ≤ f.length)) = true ∧ 0 ≤ digS (f.drop (nm ++ [46]).length) then some (digS (f.drop (nm ++ [46]).length)) else none
theorem numOf_spec {nm f : List Int} {n : Int} : numOf nm f = some n ↔ f = fileN nm n ∧ 0 ≤ n ∧ n ≤ 9999999 := by
  unfold numOf fileN
  constructor
  · intro h
    split at h
    · rename_i hc
      obtain rfl := Option.some.inj h
      obtain ⟨h1, h2⟩ := hc
      rw [Bool.and_eq_true, beq_iff_eq, decide_eq_true_eq] at h1
      obtain ⟨h3, h4⟩ := digS_spec h2
      refine ⟨?_, h2, h4⟩
      rw [itoaI_eq, if_neg (by omega), h3]
      conv => lhs; rw [← List.take_append_drop (nm ++ [46]).length f, h1.1]
    · cases h
  · rintro ⟨rfl, h0, h1⟩
    have hd : ((nm ++ [46]) ++ itoaI n).drop (nm ++ [46]).length = decI n.toNat := by
      rw [List.drop_left, itoaI_eq, if_neg (by omega)]
    rw [hd, digS_decI (by omega)]
    rw [if_pos ⟨by rw [Bool.and_eq_true, beq_iff_eq, decide_eq_true_eq]; exact ⟨List.take_left, by simp only [List.length_append]; omega⟩, by omega⟩]
    congr 1
    omega
def nums (nm : List Int) (ks : List (List Int)) : List Int := ks.filterMap (numOf nm)
theorem numbers_l0 (l : Unit × List Int × Int × (List (Int × Int × Int × Unit)) × Int × Bool × Unit) (hn : l.2.1.length ≤ 24) (ks : List (List Int)) (hks : ∀ f ∈ ks, byteOk f ∧ f.length < 4611686018427387904) (hl : ks.length ≤ 16) (k : List Int → Option (List Int)) : ∀ (j i : Nat) (acc : List Int), i + j = ks.length → acc.length ≤ i →
    wal_Log_numbers_1_l0 l k ks (j + 1) ((i : Int), acc) = k (acc ++ nums l.2.1 (ks.drop i)) := by
  intro j
  induction j with
  | zero =>
    intro i acc hi _
    rw [List.drop_eq_nil_of_le (by omega), wal_Log_numbers_1_l0]
    rw [if_neg (by rw [decide_eq_true_eq]; omega)]
    simp [nums]
  | succ j ih =>
    intro i acc hi hacc
    have hlt : i < ks.length := by omega
    have hdr : ks.drop i = ks.getD i [] :: ks.drop (i + 1) := by
      rw [List.drop_eq_getElem_cons hlt]
      simp [List.getD, hlt]
    have hm : ks.getD i [] ∈ ks := by simp only [List.getD, List.getElem?_eq_getElem hlt, Option.getD_some]; exact List.getElem_mem hlt
    obtain ⟨hfb, hfl⟩ := hks _ hm
    have w5 : IntKind.wrap .i64 ((i : Int) + 1) = ((i + 1 : Nat) : Int) := by rw [wrap_id (by simp only [rng, lo, Sx.hi]; omega)]; omega
    rw [hdr, wal_Log_numbers_1_l0]
    rw [if_pos (by rw [decide_eq_true_eq]; omega)]
    simp only [bnd_eq]
    rw [if_pos (by constructor <;> omega), if_pos (by simp only [most, List.length_cons, List.length_nil]; omega)]
    rw [cutp_eq, bind_eq, w5]
    simp only [Int.toNat_natCast]
    have hnums : ∀ r, nums l.2.1 (ks.getD i [] :: r) = (match numOf l.2.1 (ks.getD i []) with | some n => [n] | none => []) ++ nums l.2.1 r := fun r => by
      unfold nums
      rw [List.filterMap_cons]
      cases numOf l.2.1 (ks.getD i []) <;> rfl
    rw [hnums]
    cases hb : (List.take (l.2.1 ++ [46]).length (ks.getD i []) == l.2.1 ++ [46] && decide ((l.2.1 ++ [46]).length ≤ (ks.getD i []).length)) with
    | false =>
      simp only [Bool.false_eq_true, if_false]
      rw [digits_eq _ hfb hfl, bind_eq, if_neg (by simp)]
      rw [ih (i + 1) acc (by omega) (by omega)]
      have : numOf l.2.1 (ks.getD i []) = none := by unfold numOf; rw [hb]; simp
      rw [this]; rfl
    | true =>
      simp only [if_true]
      rw [digits_eq _ (byteOk_drop hfb _) (by rw [List.length_drop]; omega), bind_eq]
      by_cases hd : 0 ≤ digS ((ks.getD i []).drop (l.2.1 ++ [46]).length)
      · rw [if_pos (by rw [Bool.true_and, decide_eq_true_eq]; exact hd), if_pos (by simp only [List.length_cons, List.length_nil]; omega)]
        rw [ih (i + 1) _ (by omega) (by simp only [List.length_append, List.length_cons, List.length_nil]; omega)]
        have : numOf l.2.1 (ks.getD i []) = some (digS ((ks.getD i []).drop (l.2.1 ++ [46]).length)) := by unfold numOf; rw [hb]; rw [if_pos ⟨rfl, hd⟩]
        rw [this, List.append_assoc]
      · rw [if_neg (by rw [Bool.true_and, decide_eq_true_eq]; exact hd)]
        rw [ih (i + 1) acc (by omega) (by omega)]
        have : numOf l.2.1 (ks.getD i []) = none := by unfold numOf; rw [hb]; rw [if_neg (by rintro ⟨_, h⟩; exact hd h)]
        rw [this]; rfl
theorem numbers_eq (l : Unit × List Int × Int × (List (Int × Int × Int × Unit)) × Int × Bool × Unit) (hn : l.2.1.length ≤ 24) {D : DiskS} (hok : FsOk D.2.1) (ho : D.2.2.2.2.2.1 = false) (hks : ∀ f ∈ D.2.1.map (·.1), byteOk f ∧ f.length < 4611686018427387904) :
    wal_Log_numbers_1 l D = some (isortI (nums l.2.1 (D.2.1.map (·.1)))) := by
  have hl : (D.2.1.map (·.1)).length ≤ 16 := by rw [List.length_map]; exact hok.2.2
  unfold wal_Log_numbers_1
  simp only [bnd_eq]
  rw [List_eq hok ho, bind_eq]
  rw [show Int.toNat ((List.length (D.2.1.map (·.1)) : Int) - 0) = (D.2.1.map (·.1)).length by omega]
  have h0 := numbers_l0 l hn _ hks hl (fun o4 => if o4.length < 4611686018427387904 then some (isortI o4) else none) (D.2.1.map (·.1)).length 0 [] (by omega) (by simp)
  rw [List.drop_zero, List.nil_append] at h0
  refine h0.trans ?_
  have : (nums l.2.1 (D.2.1.map (·.1))).length ≤ (D.2.1.map (·.1)).length := List.length_filterMap_le _ _
  rw [if_pos (by omega)]
end Sx
namespace Sx
open Go
def poly : B32 := 2197175160#32
def low (x : B32) : Bool := x.getLsbD 0
def step (x : B32) : B32 := (x >>> 1) ^^^ (if low x then poly else 0#32)
theorem low_xor (x y : B32) : low (x ^^^ y) = (low x ^^ low y) := BitVec.getLsbD_xor
theorem xor_mid (a b c : B32) : a ^^^ (b ^^^ c) = b ^^^ (a ^^^ c) := by rw [← BitVec.xor_assoc, ← BitVec.xor_assoc, BitVec.xor_comm a b]
def it : Nat → B32 → B32
  | 0, x => x
  | n + 1, x => it n (step x)
theorem step_xor (x y : B32) : step (x ^^^ y) = step x ^^^ step y := by
  simp only [step, BitVec.ushiftRight_xor_distrib, low_xor]
  cases low x <;> cases low y <;> simp [BitVec.xor_assoc, xor_mid poly] <;> exact BitVec.xor_comm _ _
theorem it_xor : ∀ (n : Nat) (x y : B32), it n (x ^^^ y) = it n x ^^^ it n y
  | 0, _, _ => rfl
  | n + 1, x, y => by simp only [it, step_xor, it_xor n]
theorem it_add : ∀ (m n : Nat) (x : B32), it (m + n) x = it n (it m x)
  | 0, n, x => by simp [it]
  | m + 1, n, x => by rw [Nat.succ_add]; exact it_add m n (step x)
theorem it_low : ∀ (n : Nat) (x : B32), (∀ i, i < n → x.getLsbD i = false) → it n x = x >>> n
  | 0, x, _ => by simp [it]
  | n + 1, x, h => by
    have h0 : step x = x >>> 1 := by
      have h1 : low x = false := h 0 (by omega)
      simp [step, h1]
    simp only [it, h0]
    rw [it_low n (x >>> 1) (fun i hi => by rw [BitVec.getLsbD_ushiftRight]; exact h (1 + i) (by omega)), ← BitVec.shiftRight_add]
    congr 1; omega
theorem it_split (n : Nat) (x : B32) : it n x = (x >>> n) ^^^ it n (x &&& (BitVec.allOnes 32 >>> (32 - n))) := by
  have key : x = (x &&& ~~~(BitVec.allOnes 32 >>> (32 - n))) ^^^ (x &&& (BitVec.allOnes 32 >>> (32 - n))) := by
    apply BitVec.eq_of_getLsbD_eq; intro i hi
    simp only [BitVec.getLsbD_xor, BitVec.getLsbD_and, BitVec.getLsbD_not]
    cases x.getLsbD i <;> simp [hi]
  conv => lhs; rw [key]
  rw [it_xor]
  congr 1
  rw [it_low]
  · apply BitVec.eq_of_getLsbD_eq; intro i hi
    simp only [BitVec.getLsbD_ushiftRight, BitVec.getLsbD_and, BitVec.getLsbD_not, BitVec.getLsbD_allOnes]
    by_cases h : n + i < 32
    · have : ¬ (32 - n + (n + i) < 32) := by omega
      simp [h, this]
    · have := BitVec.getLsbD_of_ge x (n + i) (by omega)
      simp [this]
  · intro i hi
    simp only [BitVec.getLsbD_and, BitVec.getLsbD_not, BitVec.getLsbD_ushiftRight, BitVec.getLsbD_allOnes]
    by_cases h : i < 32
    · have : 32 - n + i < 32 := by omega
      simp [this]
    · simp [BitVec.getLsbD_of_ge x i (by omega)]
def halfTab : List Int := (List.range 16).map fun i => u (it 4 (BitVec.ofNat 32 i))
theorem halves_eq : crc_halves = some halfTab := by decide +kernel
theorem half_step (x : B32) : (if 0 ≤ iand .u32 (u x) 15 ∧ iand .u32 (u x) 15 < 16 then some (ixor .u32 (ishr .u32 (u x) 4) (List.getD halfTab (Int.toNat (iand .u32 (u x) 15)) 0)) else none) = some (u (it 4 x)) := by
  have e : iand .u32 (u x) 15 = u (x &&& 15#32) := iand_u x 15#32
  have hlt : (x &&& 15#32).toNat < 16 := by rw [BitVec.toNat_and]; exact Nat.lt_of_le_of_lt Nat.and_le_right (by decide)
  rw [e, if_pos (by unfold u; omega)]
  have e2 : Int.toNat (u (x &&& 15#32)) = (x &&& 15#32).toNat := by unfold u; omega
  have e3 : halfTab.getD (x &&& 15#32).toNat 0 = u (it 4 (x &&& 15#32)) := by
    simp only [halfTab, List.getD, List.getElem?_map, List.getElem?_range hlt, Option.map_some, Option.getD_some]
    simp
  have e4 : ishr .u32 (u x) 4 = u (x >>> 4) := ishr_u x (n := 4) (by omega)
  rw [e2, e3, e4, ixor_u, it_split 4 x]
  rfl
def run : B32 → List Int → B32
  | x, [] => x
  | x, c :: r => run (it 8 (x ^^^ BitVec.ofInt 32 c)) r
theorem byte_u {c : Int} (h : 0 ≤ c ∧ c < 256) : IntKind.wrap .u32 c = u (BitVec.ofInt 32 c) := by
  rw [wrap_u32 h.1 (by omega)]
  obtain ⟨n, rfl⟩ := Int.eq_ofNat_of_zero_le h.1
  simp [u]; omega
theorem On_l0_eq (b : List Int) (hb : byteOk b) (hl : b.length < 4611686018427387904) (k : Int → Option Int) : ∀ (j i : Nat) (x : B32), i + j = b.length → crc_On_l0 b halfTab k (j + 1) (u x, (i : Int)) = k (u (run x (b.drop i)))
  | 0, i, x, h => by
    simp only [crc_On_l0]
    rw [if_neg (by simp; omega), List.drop_of_length_le (by omega)]; rfl
  | j + 1, i, x, h => by
    rw [crc_On_l0]
    have hlt : i < b.length := by omega
    rw [if_pos (by simp; omega), if_pos (by constructor <;> omega)]
    have hg : List.getD b (Int.toNat (i : Int)) 0 = b[i] := by simp [List.getD, hlt]
    have hx : ixor .u32 (u x) (IntKind.wrap .u32 b[i]) = u (x ^^^ BitVec.ofInt 32 b[i]) := by
      rw [byte_u (hb _ (List.getElem_mem hlt)), ixor_u]
    have hd : b.drop i = b[i] :: b.drop (i + 1) := List.drop_eq_getElem_cons hlt
    simp only [bnd_eq, hg, hx]
    have s1 := half_step (x ^^^ BitVec.ofInt 32 b[i])
    have s2 := half_step (it 4 (x ^^^ BitVec.ofInt 32 b[i]))
    split at s1
    · rename_i c1
      rw [if_pos c1]
      simp only [Option.some.injEq] at s1
      rw [s1]
      split at s2
      · rename_i c2
        rw [if_pos c2]
        simp only [Option.some.injEq] at s2
        rw [s2, wrap_i64 (by omega) (by omega), show ((i : Int) + 1) = ((i + 1 : Nat) : Int) by omega, On_l0_eq b hb hl k j (i + 1) _ (by omega), hd]
        simp only [run]
        rw [← it_add 4 4]
      · cases s2
    · cases s1
def on (x : B32) (b : List Int) : B32 := ~~~ run (~~~x) b
theorem On_eq (x : B32) (b : List Int) (hb : byteOk b) (hl : b.length < 4611686018427387904) : crc_On (u x) b = some (u (on x b)) := by
  simp only [crc_On, halves_eq, bind_eq, bnd_eq]
  have e : Int.toNat ((b.length : Int) - 0) + 1 = b.length + 1 := by omega
  have := On_l0_eq b hb hl (fun o => some (inot .u32 o)) b.length 0 (~~~x) (by omega)
  rw [e, inot_u]
  simp only [inot_u, List.drop_zero] at this
  exact this
theorem Sum_eq (b : List Int) (hb : byteOk b) (hl : b.length < 4611686018427387904) : crc_Sum b = some (u (on 0#32 b)) := by
  have : crc_On 0 b = some (u (on 0#32 b)) := On_eq 0#32 b hb hl
  simp [crc_Sum, this]
theorem run_app : ∀ (a b : List Int) (x : B32), run x (a ++ b) = run (run x a) b
  | [], _, _ => rfl
  | c :: a, b, x => by simp only [List.cons_append, run]; exact run_app a b _
theorem on_on (x : B32) (a b : List Int) : on (on x a) b = on x (a ++ b) := by
  unfold on; rw [run_app]; simp
end Sx
namespace Sx
open Go
theorem wrap_u64 {n : Int} (h0 : 0 ≤ n) (h : n < 18446744073709551616) : IntKind.wrap .u64 n = n := by
  simp only [IntKind.wrap, IntKind.bits, IntKind.signed, Bool.false_and, Bool.false_eq_true, if_false]; omega
theorem cast_mod (x : Nat) : (x : Int) % 256 = ((x % 256 : Nat) : Int) := by omega
theorem wrap_u8 (n : Int) : IntKind.wrap .u8 n = n % 256 := by
  simp only [IntKind.wrap, IntKind.bits, IntKind.signed, Bool.false_and, Bool.false_eq_true, if_false]; rfl
def be (v n : Nat) : List Int := (List.range n).map fun i => ((v / 2 ^ (8 * (n - 1 - i)) % 256 : Nat) : Int)
theorem be_len (v n : Nat) : (be v n).length = n := by simp [be]
theorem be_byte (v n : Nat) : byteOk (be v n) := by
  intro c hc
  simp only [be, List.mem_map] at hc
  obtain ⟨i, _, rfl⟩ := hc
  omega
theorem fset_map {m : Nat} (f g : Nat → Int) {i : Nat} (hi : i < m) : List.set ((List.range m).map fun k => if k < i then f k else g k) i (f i) = (List.range m).map fun k => if k < i + 1 then f k else g k := by
  apply List.ext_getElem?
  intro k
  rw [List.getElem?_set]
  simp only [List.length_map, List.length_range, List.getElem?_map]
  by_cases hk : i = k
  · subst hk
    simp [hi]
  · rw [if_neg hk]
    by_cases hkm : k < m
    · rw [List.getElem?_range hkm]
      simp only [Option.map_some, Option.some.injEq]
      by_cases h1 : k < i
      · rw [if_pos h1, if_pos (by omega)]
      · rw [if_neg h1, if_neg (by omega)]
    · rw [List.getElem?_eq_none (by simp; omega)]; rfl
theorem shr_u64 (V m : Nat) (hm : m ≤ 64) : ishr .u64 (V : Int) (m : Int) = ((V / 2 ^ m : Nat) : Int) := by
  unfold ishr
  have : min (Int.toNat (m : Int)) (IntKind.bits .u64) = m := by simp [IntKind.bits]; omega
  rw [this, Int.fdiv_eq_ediv_of_nonneg _ (Int.le_of_lt (Int.pow_pos (by decide)))]
  simp
def bePart (v n i : Nat) : List Int := (List.range n).map fun k => if k < i then ((v / 2 ^ (8 * (n - 1 - k)) % 256 : Nat) : Int) else 0
theorem laid_l0_eq (v n : Nat) (hn : n ≤ 8) (K : List Int → Option (List Int)) : ∀ (j i : Nat), i + j = n → frame_laid_l0 (v : Int) (n : Int) K (j + 1) ((i : Int), bePart v n i) = K (be v n)
  | 0, i, h => by
    obtain rfl : i = n := by omega
    simp only [frame_laid_l0]
    rw [if_neg (by simp)]
    congr 1
    apply List.map_congr_left; intro k hk; rw [if_pos (by simpa using hk)]
  | j + 1, i, h => by
    rw [frame_laid_l0]
    have e1 : IntKind.wrap .i64 ((n : Int) - 1) = ((n - 1 : Nat) : Int) := by rw [wrap_i64 (by omega) (by omega)]; omega
    have e2 : IntKind.wrap .i64 (((n - 1 : Nat) : Int) - (i : Int)) = ((n - 1 - i : Nat) : Int) := by rw [wrap_i64 (by omega) (by omega)]; omega
    have e3 : IntKind.wrap .i64 (8 * ((n - 1 - i : Nat) : Int)) = ((8 * (n - 1 - i) : Nat) : Int) := by rw [wrap_i64 (by omega) (by omega)]; omega
    have hl : (bePart v n i).length = n := by simp [bePart]
    simp only [e1, e2, e3, hl, List.length_replicate, Int.toNat_natCast]
    rw [if_pos (by simp; omega), if_pos (by omega), bnd_eq, if_pos (by omega), shr_u64 v _ (by omega), wrap_u8, wrap_i64 (by omega) (by omega), show ((i : Int) + 1) = ((i + 1 : Nat) : Int) by omega]
    have : List.set (bePart v n i) i (((v / 2 ^ (8 * (n - 1 - i)) : Nat) : Int) % 256) = bePart v n (i + 1) := by
      rw [cast_mod]
      exact fset_map (m := n) (fun k => ((v / 2 ^ (8 * (n - 1 - k)) % 256 : Nat) : Int)) (fun _ => 0) (i := i) (by omega)
    rw [this]
    exact laid_l0_eq v n hn K j (i + 1) (by omega)
theorem laid_eq (v n : Nat) (hn : n ≤ 8) : frame_laid (v : Int) (n : Int) = some (be v n) := by
  unfold frame_laid
  rw [if_pos (by omega)]
  simp only [bnd_eq, List.length_replicate, Int.toNat_natCast]
  have e : Int.toNat ((n : Int) - 0) + 1 = n + 1 := by omega
  have e2 : List.replicate n (0 : Int) = bePart v n 0 := by
    simp only [bePart, Nat.not_lt_zero, if_false]
    rw [List.map_const', List.length_range]
  rw [e, e2]
  exact laid_l0_eq v n hn (fun o => some o) n 0 (by omega)
def room (n : Nat) : Nat := (16 + n + 63) / 64 * 64
def sumOf (n : Nat) (p : List Int) : B32 := on 0#32 (be p.length 4 ++ be n 8 ++ p)
def bare (n : Nat) (p : List Int) : List Int := be p.length 4 ++ be n 8 ++ be (sumOf n p).toNat 4 ++ p
def frameOf (n : Nat) (p : List Int) : List Int := bare n p ++ List.replicate (room p.length - (16 + p.length)) 0
theorem bare_len (n : Nat) (p : List Int) : (bare n p).length = 16 + p.length := by simp [bare, be_len]; omega
theorem frameOf_len (n : Nat) (p : List Int) : (frameOf n p).length = room p.length := by
  simp only [frameOf, List.length_append, bare_len, List.length_replicate, room]; omega
theorem pad_eq (L : Nat) (hL : L ≤ 1000000) : iand .i64 (IntKind.wrap .i64 (0 - (L : Int))) 63 = (((64 - L % 64) % 64 : Nat) : Int) := by
  rw [wrap_i64 (by omega) (by omega)]
  unfold iand
  show IntKind.wrap .i64 ((BitVec.ofInt 64 (0 - (L : Int)) &&& BitVec.ofInt 64 63).toNat : Int) = _
  have e : (BitVec.ofInt 64 (0 - (L : Int)) &&& BitVec.ofInt 64 63).toNat = (64 - L % 64) % 64 := by
    rw [BitVec.toNat_and]
    have h63 : (BitVec.ofInt 64 63).toNat = 2 ^ 6 - 1 := by decide
    rw [h63, Nat.and_two_pow_sub_one_eq_mod, BitVec.toNat_ofInt]
    omega
  rw [e, wrap_i64 (by omega) (by omega)]
theorem room_pad (n : Nat) : room n - (16 + n) = (64 - (16 + n) % 64) % 64 := by simp only [room]; omega
def frameAns (n : Int) (p : List Int) : List Int × Int := if n < 0 then ([], 1) else if p.length > 65536 then ([], 3) else (frameOf n.toNat p, 0)
theorem head_byte (n : Nat) (p : List Int) : byteOk (be p.length 4 ++ be n 8) := fun c hc => by
  rcases List.mem_append.1 hc with h | h
  · exact be_byte _ _ c h
  · exact be_byte _ _ c h
theorem Frame_eq (n : Int) (p : List Int) (hn : rng .i64 n) (hp : byteOk p) (hl : p.length ≤ 140737488351232) : frame_Frame n p = some (frameAns n p) := by
  simp only [rng, lo, hi] at hn
  unfold frame_Frame frameAns
  by_cases h0 : n < 0
  · rw [if_pos (by simpa using h0), if_pos h0]
  · rw [if_neg (by simpa using h0), if_neg h0]
    by_cases h1 : p.length > 65536
    · rw [if_pos (by simp; omega), if_pos h1]
    · rw [if_neg (by simp; omega), if_neg h1]
      obtain ⟨m, rfl⟩ := Int.eq_ofNat_of_zero_le (Int.not_lt.1 h0)
      have e1 : IntKind.wrap .u64 (p.length : Int) = (p.length : Int) := wrap_u64 (by omega) (by omega)
      have e2 : IntKind.wrap .u64 (m : Int) = (m : Int) := wrap_u64 (by omega) (by omega)
      have l4 : ∀ v : Nat, frame_laid (v : Int) 4 = some (be v 4) := fun v => laid_eq v 4 (by omega)
      have l8 : ∀ v : Nat, frame_laid (v : Int) 8 = some (be v 8) := fun v => laid_eq v 8 (by omega)
      have hsum : crc_Sum (be p.length 4 ++ be m 8) = some (u (on 0#32 (be p.length 4 ++ be m 8))) := Sum_eq _ (head_byte m p) (by simp [be_len])
      have hon : crc_On (u (on 0#32 (be p.length 4 ++ be m 8))) p = some (u (sumOf m p)) := by
        rw [On_eq _ p hp (by omega), on_on]; rfl
      have e3 : IntKind.wrap .u64 (u (sumOf m p)) = (((sumOf m p).toNat : Nat) : Int) := by
        have := u_lt (sumOf m p)
        rw [wrap_u64 this.1 (by omega)]; rfl
      simp only [e1, e2, l4, l8, bind_eq, bnd_eq]
      rw [if_pos (by simp [be_len, most]), hsum]
      simp only [bind_eq, hon, e3, l4]
      have hb : be p.length 4 ++ be m 8 ++ be (sumOf m p).toNat 4 ++ p = bare m p := rfl
      rw [if_pos (by simp [be_len, most]), if_pos (by simp [be_len, most]; omega), hb, bare_len, pad_eq _ (by omega), ← room_pad]
      have hr : strings_Repeat [0] ((room p.length - (16 + p.length) : Nat) : Int) = some (List.replicate (room p.length - (16 + p.length)) 0) := by
        unfold strings_Repeat
        rw [if_pos ⟨by omega, by simp only [List.length_singleton, Int.toNat_natCast, room]; omega, by simp only [room]; omega⟩, Int.toNat_natCast]
        congr 1
        induction (room p.length - (16 + p.length)) with
        | zero => rfl
        | succ k ih => rw [List.replicate_succ, List.flatten_cons, ih, List.replicate_succ]; rfl
      rw [hr, bind_eq, if_pos (by simp only [List.length_replicate, room, most]; omega)]
      rfl
end Sx
namespace Sx
open Go
/-- the number that the first bytes tell -/
def pre (b : List Int) : Nat → Int
  | 0 => 0
  | i + 1 => pre b i * 256 + b.getD i 0
theorem fgetD_byte {a : List Int} (h : byteOk a) (i : Nat) : 0 ≤ a.getD i 0 ∧ a.getD i 0 < 256 := by
  rcases Nat.lt_or_ge i a.length with g | g
  · have : a.getD i 0 = a[i] := by simp [List.getD, g]
    rw [this]; exact h _ (List.getElem_mem g)
  · have : a.getD i 0 = 0 := by simp [List.getD, List.getElem?_eq_none g]
    rw [this]; omega
theorem pre_bound {b : List Int} (h : byteOk b) : ∀ i, 0 ≤ pre b i ∧ pre b i < 256 ^ i
  | 0 => by simp [pre]
  | i + 1 => by
    have h1 := pre_bound h i
    have h2 := fgetD_byte h i
    simp only [pre]
    rw [Int.pow_succ]
    omega
theorem ior_byte (x c : Nat) (hx : x < 16777216) (hc : c < 256) : ior .i64 (ishl .i64 (x : Int) 8) (c : Int) = ((x * 256 + c : Nat) : Int) := by
  have e1 : ishl .i64 (x : Int) 8 = ((x * 256 : Nat) : Int) := by
    unfold ishl
    have : min (Int.toNat 8) (IntKind.bits .i64) = 8 := by decide
    rw [this, wrap_i64 (by omega) (by omega)]; omega
  rw [e1]
  unfold ior
  show IntKind.wrap .i64 ((BitVec.ofInt 64 ((x * 256 : Nat) : Int) ||| BitVec.ofInt 64 (c : Int)).toNat : Int) = _
  have e2 : (BitVec.ofInt 64 ((x * 256 : Nat) : Int) ||| BitVec.ofInt 64 (c : Int)).toNat = x * 256 + c := by
    rw [BitVec.toNat_or]
    have a1 : (BitVec.ofInt 64 ((x * 256 : Nat) : Int)).toNat = 2 ^ 8 * x := by simp; omega
    have a2 : (BitVec.ofInt 64 (c : Int)).toNat = c := by simp; omega
    rw [a1, a2, ← Nat.two_pow_add_eq_or_of_lt (by omega : c < 2 ^ 8)]; omega
  rw [e2, wrap_i64 (by omega) (by omega)]
theorem Next_l0_eq {b : List Int} (h : byteOk b) (hl : 4 ≤ b.length) (K : Int → Option (List Int × Int × Int)) : ∀ (j i : Nat), i + j = 4 → frame_Next_l0 b K (j + 1) (pre b i, (i : Int)) = K (pre b 4)
  | 0, i, e => by
    obtain rfl : i = 4 := by omega
    simp only [frame_Next_l0]
    rw [if_neg (by simp)]
  | j + 1, i, e => by
    have h1 := pre_bound h i
    have h2 := fgetD_byte h i
    have hb : (256 : Int) ^ i ≤ 16777216 := by
      have : i ≤ 3 := by omega
      rcases i with _ | _ | _ | _ | i <;> first | decide | omega
    obtain ⟨x, hx⟩ := Int.eq_ofNat_of_zero_le h1.1
    obtain ⟨c, hc⟩ := Int.eq_ofNat_of_zero_le h2.1
    rw [frame_Next_l0, if_pos (by simp; omega), if_pos (by omega), Int.toNat_natCast, hc, wrap_i64 (by omega) (by omega), hx, ior_byte x c (by omega) (by omega), bnd_eq, wrap_i64 (by omega) (by omega), show ((i : Int) + 1) = ((i + 1 : Nat) : Int) by omega]
    have : ((x * 256 + c : Nat) : Int) = pre b (i + 1) := by simp only [pre, hx, hc]; omega
    rw [this]
    exact Next_l0_eq h hl K j (i + 1) (by omega)
def nextAns (b : List Int) (at0 n : Int) : List Int × Int × Int :=
  if at0 = (b.length : Int) then ([], 0, 0) else if at0 < 0 ∨ at0 > (b.length : Int) ∨ (b.length : Int) - at0 < 16 then ([], 0, 2) else
  if n < 0 ∨ pre (b.drop at0.toNat) 4 > 65536 ∨ room (pre (b.drop at0.toNat) 4).toNat > (b.drop at0.toNat).length then ([], 0, 2)
  else if frameOf n.toNat (((b.drop at0.toNat).drop 16).take (pre (b.drop at0.toNat) 4).toNat) = (b.drop at0.toNat).take (room (pre (b.drop at0.toNat) 4).toNat) then
    (((b.drop at0.toNat).drop 16).take (pre (b.drop at0.toNat) 4).toNat, (room (pre (b.drop at0.toNat) 4).toNat : Int), 1) else ([], 0, 2)
end Sx
namespace Sx
open Go
theorem prefix_eq (a b : List Int) : strings_HasPrefix a b = some (decide (b = a.take b.length)) := by
  unfold strings_HasPrefix internal_stringslite_HasPrefix
  simp only [bnd_eq]
  by_cases h : b.length ≤ a.length
  · rw [if_pos (by simp; omega), if_pos (by omega), Int.toNat_natCast, List.drop_zero, bind_eq]
    congr 1
    rw [Bool.eq_iff_iff]; simp only [beq_iff_eq, decide_eq_true_eq]
    exact ⟨fun h => h.symm, fun h => h.symm⟩
  · rw [if_neg (by simp; omega), bind_eq]
    congr 1
    symm
    rw [decide_eq_false_iff_not]
    intro e
    have := congrArg List.length e
    simp at this; omega
theorem drop_byte {a : List Int} (h : byteOk a) (n : Nat) : byteOk (a.drop n) := fun c hc => h c (List.mem_of_mem_drop hc)
theorem take_byte {a : List Int} (h : byteOk a) (n : Nat) : byteOk (a.take n) := fun c hc => h c (List.mem_of_mem_take hc)
theorem Next_eq (b : List Int) (at0 n : Int) (hb : byteOk b) (hl : b.length ≤ 140737488351232) (ha : rng .i64 at0) (hn : rng .i64 n) : frame_Next b at0 n = some (nextAns b at0 n) := by
  have hn0 := hn
  simp only [rng, lo, hi] at ha hn
  unfold frame_Next nextAns
  by_cases h0 : at0 = (b.length : Int)
  · rw [if_pos (by simpa using h0), if_pos h0]
  · rw [if_neg (by simpa using h0), if_neg h0]
    simp only [bnd_eq]
    by_cases h1 : at0 < 0 ∨ at0 > (b.length : Int)
    · rw [if_pos (by rcases h1 with h | h <;> simp [h]), if_pos (by omega)]
    · have hw : IntKind.wrap .i64 ((b.length : Int) - at0) = (b.length : Int) - at0 := wrap_i64 (by omega) (by omega)
      rw [hw]
      by_cases h2 : (b.length : Int) - at0 < 16
      · rw [if_pos (by simp [h2]), if_pos (by omega)]
      · rw [if_neg (c := at0 < 0 ∨ at0 > (b.length : Int) ∨ (b.length : Int) - at0 < 16) (by omega)]
        have hz : (decide (at0 < 0) || decide (at0 > (b.length : Int)) || decide ((b.length : Int) - at0 < 16)) = false := by simp; omega
        rw [hz, if_neg (by simp), if_pos (c := (0 : Int) ≤ at0 ∧ at0 ≤ (b.length : Int) ∧ (b.length : Int) ≤ (b.length : Int)) (by omega)]
        obtain ⟨m, rfl⟩ := Int.eq_ofNat_of_zero_le (show 0 ≤ at0 by omega)
        simp only [Int.toNat_natCast, List.take_length]
        have hc : byteOk (b.drop m) := drop_byte hb m
        have hcl : 16 ≤ (b.drop m).length := by simp; omega
        generalize hcd : b.drop m = c at *
        have hcm : c.length ≤ 140737488351232 := by rw [← hcd]; simp; omega
        refine (Next_l0_eq hc (by omega) _ 4 0 (by omega)).trans ?_
        have hp := pre_bound hc 4
        obtain ⟨L, hL⟩ := Int.eq_ofNat_of_zero_le hp.1
        rw [hL]
        simp only [Int.toNat_natCast]
        have hw2 : IntKind.wrap .i64 ((c.length : Int) - 16) = (c.length : Int) - 16 := wrap_i64 (by omega) (by omega)
        rw [hw2]
        by_cases h3 : (L : Int) > 65536 ∨ (c.length : Int) - 16 < (L : Int)
        · have q : (decide ((L : Int) > 65536) || decide ((c.length : Int) - 16 < (L : Int))) = true := by simpa using h3
          rw [q, if_pos rfl, if_pos (by simp only [room]; omega)]
        · have q : (decide ((L : Int) > 65536) || decide ((c.length : Int) - 16 < (L : Int))) = false := by simp; omega
          have hw3 : IntKind.wrap .i64 (16 + (L : Int)) = ((16 + L : Nat) : Int) := by rw [wrap_i64 (by omega) (by omega)]; omega
          rw [q, if_neg (by simp), hw3, if_pos (c := (0 : Int) ≤ 16 ∧ (16 : Int) ≤ ((16 + L : Nat) : Int) ∧ ((16 + L : Nat) : Int) ≤ (c.length : Int)) (by omega), Int.toNat_natCast]
          have hpay : List.drop 16 (List.take (16 + L) c) = (c.drop 16).take L := by rw [List.drop_take]; congr 1; omega
          rw [hpay]
          have hpl : ((c.drop 16).take L).length = L := by simp; omega
          rw [Frame_eq n _ hn0 (take_byte (drop_byte hc 16) L) (by rw [hpl]; omega), bind_eq]
          unfold frameAns
          by_cases h4 : n < 0
          · simp [h4]
          · have hF : (if n < 0 then (([], 1) : List Int × Int) else if ((c.drop 16).take L).length > 65536 then ([], 3) else (frameOf n.toNat ((c.drop 16).take L), 0)) = (frameOf n.toNat ((c.drop 16).take L), 0) := by
              rw [if_neg h4, if_neg (by rw [hpl]; omega)]
            rw [hF]
            have hfl : (frameOf n.toNat ((c.drop 16).take L)).length = room L := by rw [frameOf_len, hpl]
            simp only [prefix_eq, hfl, bind_eq]
            rw [if_neg (by simp)]
            by_cases h5 : room L > c.length
            · rw [if_pos (c := n < 0 ∨ (L : Int) > 65536 ∨ room L > c.length) (by omega)]
              have : ¬ frameOf n.toNat ((c.drop 16).take L) = c.take (room L) := fun e => by
                have := congrArg List.length e
                rw [hfl] at this; simp at this; omega
              simp [this]
            · rw [if_neg (c := n < 0 ∨ (L : Int) > 65536 ∨ room L > c.length) (by omega)]
              by_cases h6 : frameOf n.toNat ((c.drop 16).take L) = c.take (room L)
              · simp [h6]
              · simp [h6]
end Sx
namespace Sx
open Go
end Sx
namespace Sx
open Go
theorem room_ge (n : Nat) : 64 ≤ room n ∧ 16 + n ≤ room n ∧ room n ≤ n + 79 := by simp only [room]; omega
/-- what stands from a place on -/
def scanF : Nat → List Int → Int → Int → List (List Int) × Int × Bool
  | 0, _, at0, _ => ([], at0, false)
  | f + 1, b, at0, n =>
    if (nextAns b at0 n).2.2 = 1 then
      if n = 9223372036854775807 then ([(nextAns b at0 n).1], at0 + (nextAns b at0 n).2.1, decide (at0 + (nextAns b at0 n).2.1 < (b.length : Int)))
      else ((nextAns b at0 n).1 :: (scanF f b (at0 + (nextAns b at0 n).2.1) (n + 1)).1, (scanF f b (at0 + (nextAns b at0 n).2.1) (n + 1)).2)
    else ([], at0, decide (at0 < (b.length : Int)))
theorem next_whole {b : List Int} {at0 n : Int} (hb : byteOk b) (h : (nextAns b at0 n).2.2 = 1) : 0 ≤ at0 ∧ 0 ≤ n ∧ (nextAns b at0 n).2.1 = (room (nextAns b at0 n).1.length : Int) ∧ at0 + (nextAns b at0 n).2.1 ≤ (b.length : Int) ∧
    (nextAns b at0 n).1.length ≤ 65536 ∧ frameOf n.toNat (nextAns b at0 n).1 = (b.drop at0.toNat).take (room (nextAns b at0 n).1.length) := by
  revert h
  unfold nextAns
  split
  · intro h; cases h
  · rename_i h0
    split
    · intro h; cases h
    · rename_i h1
      split
      · intro h; cases h
      · rename_i h2
        split
        · rename_i h3
          intro _
          have hp := pre_bound (drop_byte hb at0.toNat) 4
          have hr := room_ge (pre (b.drop at0.toNat) 4).toNat
          simp only [List.length_drop] at h2
          have hl : (((b.drop at0.toNat).drop 16).take (pre (b.drop at0.toNat) 4).toNat).length = (pre (b.drop at0.toNat) 4).toNat := by simp; omega
          rw [hl]
          exact ⟨by omega, by omega, rfl, by show at0 + ((room _ : Nat) : Int) ≤ _; omega, by omega, h3⟩
        · intro h; cases h
theorem next_other {b : List Int} {at0 n : Int} (h0 : 0 ≤ at0) (h1 : at0 ≤ (b.length : Int)) (h : (nextAns b at0 n).2.2 ≠ 1) : nextAns b at0 n = ([], 0, if at0 = (b.length : Int) then 0 else 2) := by
  revert h
  unfold nextAns
  by_cases e : at0 = (b.length : Int)
  · simp [e]
  · simp only [if_neg e]
    split
    · intro _; rfl
    · split
      · intro _; rfl
      · split
        · intro h; exact absurd rfl h
        · intro _; rfl
theorem Scan_l0_eq (b : List Int) (hb : byteOk b) (hl : b.length ≤ 140737488351232) (K : (Int × Bool × List (List Int)) → Option (List (List Int) × Int × Bool)) : ∀ (f : Nat) (at0 n : Int) (acc : List (List Int)),
    0 ≤ at0 → at0 ≤ (b.length : Int) → rng .i64 n → (acc.length : Int) * 64 ≤ at0 → (b.length : Int) < at0 + 64 * (f : Int) →
    frame_Scan_l0 b K f (n, at0, acc) = K ((scanF f b at0 n).2.1, (scanF f b at0 n).2.2, acc ++ (scanF f b at0 n).1)
  | 0, at0, n, acc, h0, h1, hn, ha, hf => by omega
  | f + 1, at0, n, acc, h0, h1, hn, ha, hf => by
    have hn' := hn
    simp only [rng, lo, hi] at hn'
    rw [frame_Scan_l0]
    simp only [Next_eq b at0 n hb hl (by simp only [rng, lo, hi]; omega) hn, bind_eq, scanF]
    by_cases hw : (nextAns b at0 n).2.2 = 1
    · obtain ⟨_, g2, g3, g4, g5, g6⟩ := next_whole hb hw
      have hr := room_ge (nextAns b at0 n).1.length
      have hadd : IntKind.wrap .i64 (at0 + (nextAns b at0 n).2.1) = at0 + (nextAns b at0 n).2.1 := wrap_i64 (by omega) (by omega)
      rw [if_neg (by simp [hw]), if_pos hw]
      by_cases hm : n = 9223372036854775807
      · rw [if_pos (by simp [hm]), if_pos hm, if_pos (by simp only [List.length_singleton]; omega)]
        simp only [bnd_eq, hadd]
      · rw [if_neg (by simp [hm]), if_neg hm, if_pos (by simp only [List.length_singleton]; omega)]
        simp only [bnd_eq, hadd]
        rw [wrap_i64 (by omega) (by omega)]
        rw [Scan_l0_eq b hb hl K f _ _ _ (by omega) (by omega) (by simp only [rng, lo, hi]; omega) (by simp only [List.length_append, List.length_singleton]; omega) (by omega)]
        simp only [List.append_assoc, List.singleton_append]
    · have ho := next_other h0 h1 hw
      rw [if_pos (by simpa using hw), if_neg hw]
      simp only [bnd_eq]
      rw [ho]
      simp only [List.append_nil]
      congr 2
      by_cases e : at0 = (b.length : Int)
      · simp [e]
      · simp [e]; omega
theorem Scan_eq (b : List Int) (n : Int) (hb : byteOk b) (hl : b.length ≤ 140737488351232) (hn : rng .i64 n) : frame_Scan b n = some (scanF (b.length + 2) b 0 n) := by
  simp only [frame_Scan, bnd_eq]
  rw [Scan_l0_eq b hb hl _ (b.length + 2) 0 n [] (by omega) (by omega) hn (by simp) (by omega)]
  simp
theorem scanF_len (b : List Int) (hb : byteOk b) : ∀ (f : Nat) (at0 n : Int), 0 ≤ at0 → at0 ≤ (b.length : Int) → at0 + 64 * ((scanF f b at0 n).1.length : Int) ≤ (b.length : Int)
  | 0, at0, n, h0, h1 => by simp [scanF, h1]
  | f + 1, at0, n, h0, h1 => by
    simp only [scanF]
    by_cases hw : (nextAns b at0 n).2.2 = 1
    · obtain ⟨_, g2, g3, g4, g5, g6⟩ := next_whole hb hw
      have hr := room_ge (nextAns b at0 n).1.length
      rw [if_pos hw]
      by_cases hm : n = 9223372036854775807
      · rw [if_pos hm]; simp only [List.length_singleton]; omega
      · rw [if_neg hm]
        have := scanF_len b hb f (at0 + (nextAns b at0 n).2.1) (n + 1) (by omega) (by omega)
        simp only [List.length_cons]; omega
    · rw [if_neg hw]; simpa using h1
end Sx
namespace Sx
open Go
theorem be_succ (v n : Nat) : be v (n + 1) = be (v / 256) n ++ [((v % 256 : Nat) : Int)] := by
  simp only [be, List.range_succ, List.map_append, List.map_cons, List.map_nil]
  congr 1
  · apply List.map_congr_left
    intro i hi
    simp at hi
    rw [Nat.div_div_eq_div_mul]
    have : 2 ^ (8 * (n + 1 - 1 - i)) = 256 * 2 ^ (8 * (n - 1 - i)) := by
      rw [show 8 * (n + 1 - 1 - i) = 8 + 8 * (n - 1 - i) by omega, Nat.pow_add]
    rw [this]
  · simp
theorem pre_be (v : Nat) (hv : v < 4294967296) (r : List Int) : pre (be v 4 ++ r) 4 = (v : Int) := by
  simp only [be, List.range_succ, List.range_zero, List.nil_append, List.map_append, List.map_cons, List.map_nil, pre]
  simp [List.getD]
  omega
theorem frame_parts (n : Nat) (p : List Int) : frameOf n p = be p.length 4 ++ (be n 8 ++ (be (sumOf n p).toNat 4 ++ (p ++ List.replicate (room p.length - (16 + p.length)) 0))) := by
  simp [frameOf, bare]
theorem frame_byte (n : Nat) {p : List Int} (hp : byteOk p) : byteOk (frameOf n p) := by
  intro c hc
  rw [frame_parts] at hc
  simp only [List.mem_append] at hc
  rcases hc with h | h | h | h | h
  · exact be_byte _ _ c h
  · exact be_byte _ _ c h
  · exact be_byte _ _ c h
  · exact hp c h
  · obtain ⟨_, rfl⟩ := List.mem_replicate.1 h; omega
theorem next_frame (P rest p : List Int) (n : Nat) (hp : p.length ≤ 65536) : nextAns (P ++ (frameOf n p ++ rest)) (P.length : Int) (n : Int) = (p, (room p.length : Int), 1) := by
  have hr := room_ge p.length
  have hfl := frameOf_len n p
  unfold nextAns
  simp only [Int.toNat_natCast, List.drop_left, List.length_append]
  have hpre : pre (frameOf n p ++ rest) 4 = (p.length : Int) := by
    rw [frame_parts, List.append_assoc]; exact pre_be _ (by omega) _
  have hpay : List.take p.length (List.drop 16 (frameOf n p ++ rest)) = p := by
    rw [frame_parts]
    have : be p.length 4 ++ (be n 8 ++ (be (sumOf n p).toNat 4 ++ (p ++ List.replicate (room p.length - (16 + p.length)) 0))) ++ rest = (be p.length 4 ++ be n 8 ++ be (sumOf n p).toNat 4) ++ (p ++ (List.replicate (room p.length - (16 + p.length)) 0 ++ rest)) := by simp
    rw [this, show 16 = (be p.length 4 ++ be n 8 ++ be (sumOf n p).toNat 4).length by simp [be_len], List.drop_left, List.take_left]
  have htake : List.take (room p.length) (frameOf n p ++ rest) = frameOf n p := by rw [← hfl, List.take_left]
  rw [if_neg (by omega), if_neg (by omega)]
  simp only [hpre, Int.toNat_natCast, hpay, htake]
  rw [if_neg (by omega), if_pos trivial]
/-- what is whole begins with a frame -/
theorem next_begins {P c : List Int} {n : Int} (hb : byteOk (P ++ c)) (h : (nextAns (P ++ c) (P.length : Int) n).2.2 = 1) : 0 ≤ n ∧ ∃ p rest, p.length ≤ 65536 ∧ c = frameOf n.toNat p ++ rest := by
  obtain ⟨g1, g2, g3, g4, g5, g6⟩ := next_whole hb h
  refine ⟨g2, _, c.drop (room (nextAns (P ++ c) (P.length : Int) n).1.length), g5, ?_⟩
  rw [g6, Int.toNat_natCast, List.drop_left, List.take_append_drop]
def frames : Nat → List (List Int) → List Int
  | _, [] => []
  | n, p :: r => frameOf n p ++ frames (n + 1) r
def lenF (l : List (List Int)) : Nat := (l.map fun p => room p.length).sum
theorem frames_len : ∀ (n : Nat) (l : List (List Int)), (frames n l).length = lenF l
  | _, [] => rfl
  | n, p :: r => by simp only [frames, List.length_append, frameOf_len, frames_len (n + 1) r, lenF, List.map_cons, List.sum_cons]
def goodL (l : List (List Int)) : Prop := ∀ p ∈ l, byteOk p ∧ p.length ≤ 65536
theorem frames_byte : ∀ (n : Nat) {l : List (List Int)}, goodL l → byteOk (frames n l)
  | _, [], _ => fun c hc => by cases hc
  | n, p :: r, h => fun c hc => by
    rcases List.mem_append.1 hc with g | g
    · exact frame_byte n (h p List.mem_cons_self).1 c g
    · exact frames_byte (n + 1) (fun q hq => h q (List.mem_cons_of_mem _ hq)) c g
theorem scan_frames : ∀ (l : List (List Int)) (n : Nat) (P rest : List Int) (f : Nat), goodL l → l.length < f → n + l.length < 9223372036854775807 →
    (nextAns (P ++ (frames n l ++ rest)) ((P.length + lenF l : Nat) : Int) ((n + l.length : Nat) : Int)).2.2 ≠ 1 →
    scanF f (P ++ (frames n l ++ rest)) (P.length : Int) (n : Int) = (l, ((P.length + lenF l : Nat) : Int), decide (rest ≠ []))
  | [], n, P, rest, 0, _, hf, _, _ => by simp at hf
  | [], n, P, rest, f + 1, _, _, _, h => by
    simp only [frames, List.nil_append, lenF, List.map_nil, List.sum_nil, List.length_nil, Nat.add_zero] at h ⊢
    simp only [scanF]
    rw [if_neg h]
    simp only [List.length_append]
    congr 2
    cases rest with
    | nil => simp
    | cons a r => simp; omega
  | p :: r, n, P, rest, 0, _, hf, _, _ => by omega
  | p :: r, n, P, rest, f + 1, hg, hf, hn, h => by
    have hp := hg p List.mem_cons_self
    simp only [List.length_cons] at hf hn h
    have hx := next_frame P (frames (n + 1) r ++ rest) p n hp.2
    have ih := scan_frames r (n + 1) (P ++ frameOf n p) rest f (fun q hq => hg q (List.mem_cons_of_mem _ hq)) (by omega) (by omega)
    simp only [List.length_append, frameOf_len, List.append_assoc] at ih
    have hl : lenF (p :: r) = room p.length + lenF r := by simp [lenF]
    rw [hl] at h ⊢
    simp only [frames, List.append_assoc] at h ⊢
    rw [show P.length + (room p.length + lenF r) = P.length + room p.length + lenF r by omega] at h ⊢
    rw [show n + (r.length + 1) = n + 1 + r.length by omega] at h
    have ih := ih h
    simp only [scanF, hx]
    rw [if_pos trivial, if_neg (by omega), show (P.length : Int) + (room p.length : Int) = ((P.length + room p.length : Nat) : Int) by omega, show (n : Int) + 1 = ((n + 1 : Nat) : Int) by omega, ih]
end Sx
namespace Sx
open Go
theorem ior_byte64 (x c : Nat) (hx : x < 72057594037927936) (hc : c < 256) : ior .u64 (ishl .u64 (x : Int) 8) (c : Int) = ((x * 256 + c : Nat) : Int) := by
  have e1 : ishl .u64 (x : Int) 8 = ((x * 256 : Nat) : Int) := by
    unfold ishl
    have : min (Int.toNat 8) (IntKind.bits .u64) = 8 := by decide
    rw [this, wrap_id (by simp only [rng, lo, Sx.hi]; omega)]; omega
  rw [e1]
  unfold ior
  show IntKind.wrap .u64 ((BitVec.ofInt 64 ((x * 256 : Nat) : Int) ||| BitVec.ofInt 64 (c : Int)).toNat : Int) = _
  have e2 : (BitVec.ofInt 64 ((x * 256 : Nat) : Int) ||| BitVec.ofInt 64 (c : Int)).toNat = x * 256 + c := by
    rw [BitVec.toNat_or]
    have a1 : (BitVec.ofInt 64 ((x * 256 : Nat) : Int)).toNat = 2 ^ 8 * x := by simp; omega
    have a2 : (BitVec.ofInt 64 (c : Int)).toNat = c := by simp; omega
    rw [a1, a2, ← Nat.two_pow_add_eq_or_of_lt (by omega : c < 2 ^ 8)]; omega
  rw [e2, wrap_id (by simp only [rng, lo, Sx.hi]; omega)]
theorem begins_l0 {b : List Int} (h : byteOk b) (hl : 16 ≤ b.length) (K : Int → Option (Int × Bool)) : ∀ (j i : Nat), i + j = 8 → wal_begins_l0 b K (j + 1) (pre (b.drop 4) i, ((4 + i : Nat) : Int)) = K (pre (b.drop 4) 8)
  | 0, i, e => by
    obtain rfl : i = 8 := by omega
    simp only [wal_begins_l0]
    rw [if_neg (by simp)]
  | j + 1, i, e => by
    have hd : byteOk (b.drop 4) := byteOk_drop h 4
    have h1 := pre_bound hd i
    have h2 := fgetD_byte hd i
    have hg : b.getD (4 + i) 0 = (b.drop 4).getD i 0 := by simp [List.getD, List.getElem?_drop]
    have hb : (256 : Int) ^ i ≤ 72057594037927936 := by
      have : i ≤ 7 := by omega
      rcases i with _ | _ | _ | _ | _ | _ | _ | _ | i <;> first | decide | omega
    obtain ⟨x, hx⟩ := Int.eq_ofNat_of_zero_le h1.1
    obtain ⟨c, hc⟩ := Int.eq_ofNat_of_zero_le h2.1
    rw [wal_begins_l0, if_pos (by rw [decide_eq_true_eq]; omega), if_pos (by constructor <;> omega), Int.toNat_natCast, hg, hc]
    have w1 : IntKind.wrap .u64 (c : Int) = (c : Int) := wrap_id (by simp only [rng, lo, Sx.hi]; omega)
    have w2 : IntKind.wrap .i64 (((4 + i : Nat) : Int) + 1) = ((4 + (i + 1) : Nat) : Int) := by rw [wrap_id (by simp only [rng, lo, Sx.hi]; omega)]; omega
    rw [w1, hx, ior_byte64 x c (by omega) (by omega), bnd_eq, bnd_eq, w2]
    have : ((x * 256 + c : Nat) : Int) = pre (b.drop 4) (i + 1) := by simp only [pre, hx, hc]; omega
    rw [this]
    exact begins_l0 h hl K j (i + 1) (by omega)
def beginsS (b : List Int) : Int × Bool :=
  if b.length < 16 then (0, false) else if pre (b.drop 4) 8 ≥ 1152921504606846976 then (0, false) else (pre (b.drop 4) 8, (nextAns b 0 (pre (b.drop 4) 8)).2.2 == 1)
theorem begins_eq (b : List Int) (h : byteOk b) (hl : b.length ≤ 140737488351232) : wal_begins b = some (beginsS b) := by
  unfold wal_begins beginsS
  by_cases h1 : b.length < 16
  · rw [if_pos (by rw [decide_eq_true_eq]; omega), if_pos h1]
  · rw [if_neg (by rw [decide_eq_true_eq]; omega), if_neg h1]
    rw [bnd_eq]
    have h0 := begins_l0 h (by omega) (fun o2 : Int => if (decide (o2 ≥ 1152921504606846976)) = true then (some (0, false)) else ((frame_Next b 0 (IntKind.wrap .i64 o2)).bind fun (r3 : List Int × Int × Int) => some ((IntKind.wrap .i64 o2), (r3.2.2 == 1)))) 8 0 rfl
    refine h0.trans ?_
    have hp := pre_bound (byteOk_drop h 4) 8
    by_cases h2 : pre (b.drop 4) 8 ≥ 1152921504606846976
    · rw [if_pos (by rw [decide_eq_true_eq]; exact h2), if_pos h2]
    · have hr : rng .i64 (pre (b.drop 4) 8) := by simp only [rng, lo, Sx.hi]; omega
      rw [if_neg (by rw [decide_eq_true_eq]; exact h2), if_neg h2, wrap_id hr, Next_eq b 0 _ h hl (by simp only [rng, lo, Sx.hi]; omega) hr, bind_eq]
abbrev SegS := Int × Int × Int × Unit
abbrev LogS := Unit × List Int × Int × List SegS × Int × Bool × Unit
abbrev FoundS := List (List Int) × Int × Bool × Bool × Unit
def headS (l : LogS) (f : FoundS) (text : List Int) : Int × Bool × Int :=
  if f.2.2.1 = false ∧ text ≠ [] then ((beginsS text).1, (beginsS text).2, if (beginsS text).2 = true then (beginsS text).1 else l.2.2.2.2.1) else (f.2.1, f.2.2.1, l.2.2.2.2.1)
def scanS (text : List Int) (n : Int) : List (List Int) × Int × Bool := scanF (text.length + 2) text 0 n
def readS (l : LogS) (k : Int) (f : FoundS) (text : List Int) : LogS × FoundS :=
  if (headS l f text).2.1 = true then
    (((), l.2.1, l.2.2.1, l.2.2.2.1 ++ [(k, (scanS text (headS l f text).2.2).2.1, if 0 < (scanS text (headS l f text).2.2).1.length then (headS l f text).2.2 + ((scanS text (headS l f text).2.2).1.length : Int) else 0, ())], (headS l f text).2.2 + ((scanS text (headS l f text).2.2).1.length : Int), l.2.2.2.2.2.1, l.2.2.2.2.2.2),
      (f.1 ++ (scanS text (headS l f text).2.2).1, (headS l f text).1, (headS l f text).2.1, decide ((scanS text (headS l f text).2.2).2.1 < (text.length : Int)), f.2.2.2.2))
  else
    (((), l.2.1, l.2.2.1, l.2.2.2.1 ++ [(k, 0, 0, ())], (headS l f text).2.2, l.2.2.2.2.2.1, l.2.2.2.2.2.2), (f.1, (headS l f text).1, (headS l f text).2.1, decide (0 < (text.length : Int)), f.2.2.2.2))
theorem begins_rng (b : List Int) (h : byteOk b) : 0 ≤ (beginsS b).1 ∧ (beginsS b).1 < 1152921504606846976 := by
  unfold beginsS
  have hp := pre_bound (byteOk_drop h 4) 8
  split
  · simp
  · split
    · simp
    · simp only; omega
theorem head_rng {l : LogS} {f : FoundS} {b : List Int} (h : byteOk b) (hn : 0 ≤ l.2.2.2.2.1 ∧ l.2.2.2.2.1 ≤ 2305843009213693952) : 0 ≤ (headS l f b).2.2 ∧ (headS l f b).2.2 ≤ 2305843009213693952 := by
  have := begins_rng b h
  unfold headS
  split
  · simp only
    split <;> omega
  · exact hn
theorem scanS_len (b : List Int) (hb : byteOk b) (n : Int) : 64 * (scanS b n).1.length ≤ b.length := by
  have := scanF_len b hb (b.length + 2) 0 n (by omega) (by omega)
  unfold scanS
  omega
theorem read_eq {l : LogS} {k : Int} {f : FoundS} {D : DiskS} {g : FileS} (hl : l.2.1.length ≤ 24) (hk : rng .i64 k) (hok : FsOk D.2.1) (ho : D.2.2.2.2.2.1 = false) (hg : pget .str (fileN l.2.1 k) D.2.1 = some g) (hn : 0 ≤ l.2.2.2.2.1 ∧ l.2.2.2.2.1 ≤ 2305843009213693952) (hf : f.1.length ≤ 1048576) (hs : l.2.2.2.1.length ≤ 1048576) :
    wal_Log_read l k f D = some (0, readS l k f g.1) := by
  have hF := hok.get hg
  have hb : byteOk g.1 := hF.1
  have hlen : g.1.length ≤ 1048576 := hF.2.2.1
  have hfe := file_eq l k hl hk
  unfold wal_Log_read
  rw [bnd_eq, hfe, bind_eq, Size_eq ho, hg, bind_eq]
  dsimp only
  rw [if_neg (by decide), bnd_eq, bind_eq, Read_at hok ho hg (by omega) (by omega) (by omega), bind_eq]
  dsimp only
  have htk : (g.1.drop (0 : Int).toNat).take (g.1.length : Int).toNat = g.1 := by simp
  rw [htk, if_neg (by decide)]
  have hh := head_rng (l := l) (f := f) hb hn
  have hsl := scanS_len g.1 hb (headS l f g.1).2.2
  have hhead : ∀ (K : FoundS × LogS → Option (Int × LogS × FoundS)),
      (bnd K fun k11 => bnd (!f.2.2.1) fun (b23 : Bool) => if (b23 && (g.1 != [])) = true then ((wal_begins g.1).bind fun (r24 : Int × Bool) => if r24.2 = true then (k11 ((f.1, r24.1, r24.2, f.2.2.2.1, f.2.2.2.2), ((), l.2.1, l.2.2.1, l.2.2.2.1, r24.1, l.2.2.2.2.2.1, l.2.2.2.2.2.2))) else (k11 ((f.1, r24.1, r24.2, f.2.2.2.1, f.2.2.2.2), l))) else (k11 (f, l)))
      = K ((f.1, (headS l f g.1).1, (headS l f g.1).2.1, f.2.2.2.1, f.2.2.2.2), ((), l.2.1, l.2.2.1, l.2.2.2.1, (headS l f g.1).2.2, l.2.2.2.2.2.1, l.2.2.2.2.2.2)) := fun K => by
    rw [bnd_eq, bnd_eq]
    unfold headS
    by_cases h1 : f.2.2.1 = false ∧ g.1 ≠ []
    · rw [if_pos (by simp [h1.1, h1.2]), if_pos h1, begins_eq g.1 hb (by omega), bind_eq]
      by_cases h2 : (beginsS g.1).2 = true
      · rw [if_pos h2, if_pos h2]
      · rw [if_neg h2, if_neg h2]
    · rw [if_neg (by intro h; rw [Bool.and_eq_true] at h; exact h1 ⟨by simpa using h.1, by simpa using h.2⟩), if_neg h1]
  refine (hhead _).trans ?_
  dsimp only
  rw [bnd_eq]
  unfold readS
  by_cases h3 : (headS l f g.1).2.1 = true
  · rw [if_pos h3, if_pos h3]
    have hr : rng .i64 (headS l f g.1).2.2 := by simp only [rng, lo, Sx.hi]; omega
    rw [Scan_eq g.1 _ hb (by omega) hr, bind_eq]
    have hw : IntKind.wrap .i64 ((headS l f g.1).2.2 + ((scanF (g.1.length + 2) g.1 0 (headS l f g.1).2.2).1.length : Int)) = (headS l f g.1).2.2 + ((scanF (g.1.length + 2) g.1 0 (headS l f g.1).2.2).1.length : Int) := wrap_id (by
      unfold scanS at hsl
      simp only [rng, lo, Sx.hi]; omega)
    unfold scanS at hsl ⊢
    rw [if_pos (by omega)]
    by_cases h4 : 0 < (scanF (g.1.length + 2) g.1 0 (headS l f g.1).2.2).1.length
    · rw [if_pos (by rw [decide_eq_true_eq]; omega), if_pos h4]
      dsimp only
      rw [bnd_eq, if_pos (by simp only [List.length_cons, List.length_nil]; omega), hw]
    · rw [if_neg (by rw [decide_eq_true_eq]; omega), if_neg h4]
      dsimp only
      rw [bnd_eq, if_pos (by simp only [List.length_cons, List.length_nil]; omega), hw]
  · rw [if_neg h3, if_neg h3]
    dsimp only
    rw [bnd_eq, if_pos (by simp only [List.length_cons, List.length_nil]; omega)]
end Sx
namespace Sx
open Go
def checkS : List Int → Int → Option Int
  | [], s => some s
  | x :: m, s => if s ≥ 0 ∧ x ≠ s + 1 then none else checkS m x
abbrev noLog : Int × LogS := (1, ((), [], 0, [], 0, false, ()))
theorem l2_eq (D : DiskS) (nm : List Int) (most' first : Int) (k : LogS × Int → Option ((Int × LogS) × List (List Int) × Int × DiskS)) : ∀ (xs : List Int) (s : Int), (∀ x ∈ xs, 0 ≤ x ∧ x ≤ 9999999) → -1 ≤ s → s ≤ 9999999 →
    wal_Open_l2 D nm most' first k xs s = match checkS xs s with
      | none => some (noLog, [], 60, D)
      | some t => k (((), nm, most', [], first, false, ()), t)
  | [], s, _, _, _ => rfl
  | x :: m, s, hx, h0, h1 => by
    have w : IntKind.wrap .i64 (s + 1) = s + 1 := wrap_id (by simp only [rng, lo, Sx.hi]; omega)
    have hx0 := hx x (by simp)
    rw [wal_Open_l2, bnd_eq, w]
    simp only [checkS]
    by_cases h : s ≥ 0 ∧ x ≠ s + 1
    · rw [if_pos (by rw [Bool.and_eq_true, decide_eq_true_eq]; exact ⟨h.1, by simpa using h.2⟩), if_pos h]
    · rw [if_neg (by rw [Bool.and_eq_true, decide_eq_true_eq]; intro g; exact h ⟨g.1, by simpa using g.2⟩), if_neg h]
      exact l2_eq D nm most' first k m x (fun y hy => hx y (by simp [hy])) (by omega) hx0.2
def readsS (fs : List (List Int × FileS)) (nm : List Int) (last : Int) : List Int → FoundS × LogS → FoundS × LogS × Bool
  | [], s => (s.1, s.2, false)
  | x :: m, s => if (readS s.2 x s.1 (seenOf fs (fileN nm x))).2.2.2.2.1 = true then ((readS s.2 x s.1 (seenOf fs (fileN nm x))).2, (readS s.2 x s.1 (seenOf fs (fileN nm x))).1, x != last)
      else readsS fs nm last m ((readS s.2 x s.1 (seenOf fs (fileN nm x))).2, (readS s.2 x s.1 (seenOf fs (fileN nm x))).1)
theorem head_le {l : LogS} {f : FoundS} {b : List Int} (h : byteOk b) : (headS l f b).2.2 ≤ max l.2.2.2.2.1 1152921504606846976 := by
  have := begins_rng b h
  unfold headS
  split
  · simp only
    split <;> omega
  · simp only; omega
theorem read_bounds {l : LogS} {k : Int} {f : FoundS} {b : List Int} (h : byteOk b) (hl : b.length ≤ 1048576) (hn : 0 ≤ l.2.2.2.2.1 ∧ l.2.2.2.2.1 ≤ 2305843009213693952) :
    (readS l k f b).1.2.1 = l.2.1 ∧ 0 ≤ (readS l k f b).1.2.2.2.2.1 ∧ (readS l k f b).1.2.2.2.2.1 ≤ max l.2.2.2.2.1 1152921504606846976 + 16384 ∧ (readS l k f b).2.1.length ≤ f.1.length + 16384 ∧ (readS l k f b).1.2.2.2.1.length = l.2.2.2.1.length + 1 := by
  have h1 := head_rng (l := l) (f := f) h hn
  have h2 := head_le (l := l) (f := f) h
  have h3 := scanS_len b h (headS l f b).2.2
  unfold readS
  split
  · refine ⟨rfl, ?_, ?_, ?_, ?_⟩ <;> simp only [List.length_append, List.length_cons, List.length_nil] <;> omega
  · refine ⟨rfl, ?_, ?_, ?_, ?_⟩ <;> simp only [List.length_append, List.length_cons, List.length_nil] <;> omega
theorem l1_eq {D : DiskS} {nm : List Int} (hnm : nm.length ≤ 24) (hok : FsOk D.2.1) (ho : D.2.2.2.2.2.1 = false) (o14 : LogS × Int) (k : FoundS × LogS × Bool → Option ((Int × LogS) × List (List Int) × Int × DiskS)) : ∀ (xs : List Int) (s : FoundS × LogS), (∀ x ∈ xs, rng .i64 x ∧ (pget .str (fileN nm x) D.2.1).isSome = true) → s.2.2.1 = nm →
    0 ≤ s.2.2.2.2.2.1 → s.2.2.2.2.2.1 + 16384 * xs.length ≤ 2305843009213693952 → s.1.1.length + 16384 * xs.length ≤ 1048576 → s.2.2.2.2.1.length + xs.length ≤ 1048576 →
    wal_Open_l1 D o14 k xs s = k (readsS D.2.1 nm o14.2 xs s)
  | [], s, _, _, _, _, _, _ => rfl
  | x :: m, s, hx, hs, h0, h1, h2, h3 => by
    obtain ⟨hr, hsome⟩ := hx x (by simp)
    obtain ⟨g, hg⟩ := Option.isSome_iff_exists.1 hsome
    have hF := hok.get hg
    have hseen : seenOf D.2.1 (fileN nm x) = g.1 := by unfold seenOf; rw [hg]; rfl
    simp only [List.length_cons] at h1 h2 h3
    have he := read_eq (l := s.2) (k := x) (f := s.1) (D := D) (g := g) (by rw [hs]; exact hnm) hr hok ho (by rw [hs]; exact hg) ⟨h0, by omega⟩ (by omega) (by omega)
    obtain ⟨b1, b2, b3, b4, b5⟩ := read_bounds (l := s.2) (k := x) (f := s.1) hF.1 hF.2.2.1 ⟨h0, by omega⟩
    rw [wal_Open_l1, he, bind_eq]
    simp only [readsS, hseen]
    rw [if_neg (by decide)]
    by_cases ht : (readS s.2 x s.1 g.1).2.2.2.2.1 = true
    · rw [if_pos ht, if_pos ht]
    · rw [if_neg ht, if_neg ht]
      exact l1_eq hnm hok ho o14 k m _ (fun y hy => hx y (by simp [hy])) (b1.trans hs) b2 (by simp only; omega) (by simp only; omega) (by simp only; omega)
end Sx
namespace Sx
open Go
def Calm (D : DiskS) : Prop := FsOk D.2.1 ∧ D.2.2.2.2.2.1 = false ∧ D.2.2.1 = 0 ∧ D.2.2.2.2.1 = 0
def withFs (D : DiskS) (fs : List (List Int × FileS)) : DiskS := (D.1, fs, D.2.2)
theorem Sync_calm {D : DiskS} (h : Calm D) {name : List Int} {f : FileS} (hf : pget .str name D.2.1 = some f) : disk_Disk_Sync D name = some (0, withFs D (pset .str name (f.1, f.1, []) D.2.1)) := by
  obtain ⟨e, a, fl, o, p, hc, hs⟩ := Sync_eq h.1 h.2.1 hf
  rw [counted_calm 2 h.2.2.1 h.2.2.2] at hc
  simp only [Option.some.injEq, Prod.mk.injEq] at hc
  obtain ⟨rfl, hD⟩ := hc
  rw [hs, if_pos rfl]
  unfold withFs
  rw [hD]
theorem FOk.synced {f : FileS} (h : FOk f) : FOk (f.1, f.1, []) := ⟨h.1, h.1, h.2.2.1, Nat.le_refl _, List.nodup_nil, fun s hs => by cases hs⟩
theorem Calm.sync {D : DiskS} (h : Calm D) {name : List Int} {f : FileS} (hf : pget .str name D.2.1 = some f) : Calm (withFs D (pset .str name (f.1, f.1, []) D.2.1)) :=
  ⟨FsOk.set h.1 (h.1.get hf).synced, h.2.1, h.2.2.1, h.2.2.2⟩
def sync1 (fs : List (List Int × FileS)) (name : List Int) : List (List Int × FileS) := match pget .str name fs with
  | some f => pset .str name (f.1, f.1, []) fs
  | none => fs
def syncAll (fs : List (List Int × FileS)) (names : List (List Int)) : List (List Int × FileS) := names.foldl sync1 fs
theorem sync1_keys (fs : List (List Int × FileS)) (name : List Int) : (sync1 fs name).map (·.1) = fs.map (·.1) := by
  unfold sync1
  split
  · exact pset_keys _ _ _
  · rfl
theorem syncAll_keys : ∀ (names : List (List Int)) (fs : List (List Int × FileS)), (syncAll fs names).map (·.1) = fs.map (·.1)
  | [], _ => rfl
  | n :: r, fs => by
    show (syncAll (sync1 fs n) r).map (·.1) = _
    rw [syncAll_keys r, sync1_keys]
theorem some_keys {fs fs' : List (List Int × FileS)} (h : fs'.map (·.1) = fs.map (·.1)) (k : List Int) : (pget .str k fs').isSome = (pget .str k fs).isSome := by
  cases h1 : pget .str k fs with
  | none =>
    have := get_none.1 h1
    rw [← h] at this
    rw [get_none.2 this]
  | some f =>
    cases h2 : pget .str k fs' with
    | none =>
      have := get_none.1 h2
      rw [h] at this
      rw [get_none.2 this] at h1; cases h1
    | some g => rfl
theorem l0_eq (o18 : FoundS × LogS × Bool) (hl : o18.2.1.2.1.length ≤ 24) (hr : ∀ s ∈ o18.2.1.2.2.2.1, rng .i64 s.1) (hn : o18.2.1.2.2.2.1.length ≤ 1048576) (k : DiskS → Option ((Int × LogS) × List (List Int) × Int × DiskS)) : ∀ (j i : Nat) (D : DiskS), i + j = o18.2.1.2.2.2.1.length → Calm D → (∀ s ∈ o18.2.1.2.2.2.1, (pget .str (fileN o18.2.1.2.1 s.1) D.2.1).isSome = true) →
    wal_Open_l0 o18 k (j + 1) ((i : Int), D) = k (withFs D (syncAll D.2.1 ((o18.2.1.2.2.2.1.drop i).map fun s => fileN o18.2.1.2.1 s.1))) := by
  intro j
  induction j with
  | zero =>
    intro i D hi hc _
    rw [List.drop_eq_nil_of_le (by omega), wal_Open_l0]
    rw [if_neg (by rw [decide_eq_true_eq]; omega)]
    rfl
  | succ j ih =>
    intro i D hi hc hs
    have hlt : i < o18.2.1.2.2.2.1.length := by omega
    have hdr : o18.2.1.2.2.2.1.drop i = o18.2.1.2.2.2.1.getD i (0, 0, 0, ()) :: o18.2.1.2.2.2.1.drop (i + 1) := by
      rw [List.drop_eq_getElem_cons hlt]
      simp [List.getD, hlt]
    have hm : o18.2.1.2.2.2.1.getD i (0, 0, 0, ()) ∈ o18.2.1.2.2.2.1 := by simp only [List.getD, List.getElem?_eq_getElem hlt, Option.getD_some]; exact List.getElem_mem hlt
    obtain ⟨f, hf⟩ := Option.isSome_iff_exists.1 (hs _ hm)
    have w5 : IntKind.wrap .i64 ((i : Int) + 1) = ((i + 1 : Nat) : Int) := by rw [wrap_id (by simp only [rng, lo, Sx.hi]; omega)]; omega
    rw [hdr, wal_Open_l0]
    rw [if_pos (by rw [decide_eq_true_eq]; omega), if_pos (by constructor <;> omega)]
    simp only [Int.toNat_natCast]
    rw [file_eq o18.2.1 _ hl (hr _ hm), bind_eq, Sync_calm hc hf, bind_eq]
    rw [if_neg (show ¬ (((0 : Int) != 0) = true) by decide), w5]
    rw [ih (i + 1) _ (by omega) (hc.sync hf) (fun s hs' => by
      show (pget .str _ (pset .str _ _ D.2.1)).isSome = true
      rw [some_keys (pset_keys _ _ _)]; exact hs s hs')]
    have h1 : sync1 D.2.1 (fileN o18.2.1.2.1 (o18.2.1.2.2.2.1.getD i (0, 0, 0, ())).1) = pset .str (fileN o18.2.1.2.1 (o18.2.1.2.2.2.1.getD i (0, 0, 0, ())).1) (f.1, f.1, []) D.2.1 := by unfold sync1; rw [hf]
    rw [List.map_cons]
    show _ = k (withFs D (syncAll (sync1 D.2.1 _) _))
    rw [h1]
    rfl
end Sx
namespace Sx
open Go
abbrev FateS := List Int × Int × Int × List Int × Unit
def FatesOk (l : List FateS) : Prop := l.length < 4611686018427387904 ∧ ∀ x ∈ l, byteOk x.2.2.2.1 ∧ x.2.2.2.1.length ≤ 140737488355328
def fate0 : FateS := ([], 0, 0, [], ())
theorem fateOf_l0 (l : List FateS) (hl : l.length < 4611686018427387904) (name : List Int) (s : Int) (k : Unit → Option FateS) : ∀ (j i : Nat), i + j = l.length → (∃ r ∈ l, disk_fateOf_l0 l name s k (j + 1) (i : Int) = some r) ∨ disk_fateOf_l0 l name s k (j + 1) (i : Int) = k ()
  | 0, i, h => .inr (by simp only [disk_fateOf_l0]; rw [if_neg (by simp only [decide_eq_true_eq]; omega)])
  | j + 1, i, h => by
    have e : disk_fateOf_l0 l name s k (j + 1 + 1) (i : Int) = if ((List.getD l i fate0).1 == name && (List.getD l i fate0).2.1 == s) = true then some (List.getD l i fate0) else disk_fateOf_l0 l name s k (j + 1) ((i + 1 : Nat) : Int) := by
      conv => lhs; simp only [disk_fateOf_l0]
      rw [if_pos (by simp only [decide_eq_true_eq]; omega), if_pos (by omega)]
      simp only [bnd_eq, Int.toNat_natCast]
      rw [wrap_i64 (by omega) (by omega)]
      rfl
    rw [e]
    split
    · left
      have hi : i < l.length := by omega
      refine ⟨_, ?_, rfl⟩
      rw [List.getD_eq_getElem?_getD, List.getElem?_eq_getElem hi, Option.getD_some]
      exact List.getElem_mem hi
    · exact fateOf_l0 l hl name s k j (i + 1) (by omega)
theorem fateOf_eq {l : List FateS} (hl : FatesOk l) (name : List Int) (s : Int) : ∃ r, disk_fateOf l name s = some r ∧ byteOk r.2.2.2.1 ∧ r.2.2.2.1.length ≤ 140737488355328 := by
  unfold disk_fateOf
  simp only [bnd_eq]
  have e : Int.toNat ((l.length : Int) - 0) + 1 = l.length + 1 := by omega
  rw [e]
  rcases fateOf_l0 l hl.1 name s (fun _ => some fate0) l.length 0 (by omega) with ⟨r, hr, h⟩ | h
  · exact ⟨r, h, hl.2 r hr⟩
  · exact ⟨fate0, h, (fun x hx => by cases hx), by simp [fate0]⟩
def MapOk (m : List (Int × FateS)) : Prop := ∀ p ∈ m, byteOk p.2.2.2.2.1 ∧ p.2.2.2.2.1.length ≤ 140737488355328
theorem ipins_mem {k : Int} {v : FateS} {q : Int × FateS} : ∀ {l : List (Int × FateS)}, q ∈ pins (.int .i64) k v l → q = (k, v) ∨ q ∈ l
  | [], h => by simp [pins] at h; exact .inl h
  | p :: l, h => by
    simp only [pins] at h
    split at h
    · rcases List.mem_cons.1 h with h | h
      · exact .inl h
      · exact .inr h
    · rcases List.mem_cons.1 h with h | h
      · exact .inr (by simp [h])
      · rcases ipins_mem h with h | h
        · exact .inl h
        · exact .inr (by simp [h])
theorem iput_ok {k : Int} {v : FateS} {m : List (Int × FateS)} (hm : MapOk m) (hv : byteOk v.2.2.2.1 ∧ v.2.2.2.1.length ≤ 140737488355328) : MapOk (pput (.int .i64) k v m) := fun p hp => by
  rcases ipins_mem hp with rfl | hp
  · exact hv
  · exact hm p (List.mem_filter.1 hp).1
theorem iput_len (k : Int) (v : FateS) (m : List (Int × FateS)) : (pput (.int .i64) k v m).length ≤ m.length + 1 := by
  unfold pput
  rw [pins_length]
  have : (pdel (.int .i64) k m).length ≤ m.length := List.length_filter_le _ _
  omega
theorem fall_fold {f : FileS} {name : List Int} {l : List FateS} (hl : FatesOk l) : ∀ (ks : List Int) (s : Int × List (Int × FateS)), 0 ≤ s.1 → s.1 ≤ f.1.length → s.2.length + ks.length < 4611686018427387904 → MapOk s.2 →
    ∃ s', foldK (disk_file_fall_l1 f name l) ks s = some s' ∧ 0 ≤ s'.1 ∧ s'.1 ≤ f.1.length ∧ MapOk s'.2
  | [], s, h0, h1, _, hm => ⟨s, rfl, h0, h1, hm⟩
  | k :: ks, s, h0, h1, hb, hm => by
    obtain ⟨r, hr, hrb⟩ := fateOf_eq hl name k
    simp only [List.length_cons] at hb
    have e : disk_file_fall_l1 f name l k s = some (if (r.2.2.1 == 1 || r.2.2.1 == 2) = true then max s.1 (min (IntKind.wrap .i64 (IntKind.wrap .i64 (k + 1) * 64)) (f.1.length : Int)) else s.1, pput (.int .i64) k r s.2) := by
      unfold disk_file_fall_l1
      simp only [hr, Option.bind_some, bnd_eq]
      rw [if_pos (by omega)]
      split <;> rfl
    have hlen := iput_len k r s.2
    have hmx : s.1 ≤ max s.1 (min (IntKind.wrap .i64 (IntKind.wrap .i64 (k + 1) * 64)) (f.1.length : Int)) := Int.le_max_left _ _
    have hmy : max s.1 (min (IntKind.wrap .i64 (IntKind.wrap .i64 (k + 1) * 64)) (f.1.length : Int)) ≤ (f.1.length : Int) := Int.max_le.2 ⟨h1, Int.min_le_right _ _⟩
    generalize max s.1 (min (IntKind.wrap .i64 (IntKind.wrap .i64 (k + 1) * 64)) (f.1.length : Int)) = mx at hmx hmy e
    obtain ⟨s', h2, h3, h4, h5⟩ := fall_fold (f := f) (name := name) hl ks (if (r.2.2.1 == 1 || r.2.2.1 == 2) = true then mx else s.1, pput (.int .i64) k r s.2)
      (by show (0 : Int) ≤ if _ then _ else _; split <;> omega) (by show (if _ then _ else _ : Int) ≤ _; split <;> omega) (by show (pput _ _ _ _).length + _ < _; omega) (iput_ok hm hrb)
    refine ⟨s', ?_, h3, h4, h5⟩
    show (disk_file_fall_l1 f name l k s).bind _ = _
    rw [e]; exact h2
theorem byteOk_set {l : List Int} {i : Nat} {c : Int} (h : byteOk l) (hc : 0 ≤ c ∧ c < 256) : byteOk (l.set i c) := fun x hx => by
  rcases List.mem_or_eq_of_mem_set hx with h' | rfl
  · exact h x h'
  · exact hc
theorem byteOk_getD {l : List Int} {i : Nat} (h : byteOk l) (hi : i < l.length) : 0 ≤ l.getD i 0 ∧ l.getD i 0 < 256 := by
  rw [List.getD_eq_getElem?_getD, List.getElem?_eq_getElem hi, Option.getD_some]; exact h _ (List.getElem_mem hi)
theorem mapOk_get {m : List (Int × FateS)} (h : MapOk m) (s : Int) : byteOk ((pget (.int .i64) s m).getD ([], 0, 0, [], ())).2.2.2.1 ∧ ((pget (.int .i64) s m).getD ([], 0, 0, [], ())).2.2.2.1.length ≤ 140737488355328 := by
  cases hg : pget (.int .i64) s m with
  | none => exact ⟨(fun x hx => by cases hx), by simp⟩
  | some r =>
    unfold pget at hg
    cases hf : m.find? (fun p => keq (.int .i64) p.1 s) with
    | none => rw [hf] at hg; cases hg
    | some p =>
      rw [hf] at hg
      simp only [Option.map_some, Option.some.injEq] at hg
      subst hg
      exact h p (List.mem_of_find?_eq_some hf)
theorem fall_out {f : FileS} (hf : byteOk f.2.1) (o8 : Int × List (Int × FateS)) (hm : MapOk o8.2) (r10 : List Int) (hr : r10.length ≤ 1048576) (k : List Int → Option FileS) : ∀ (j i : Nat) (out : List Int), i + j = r10.length → out.length = r10.length → byteOk out →
    ∃ out', disk_file_fall_l0 f o8 r10 k (j + 1) ((i : Int), out) = k out' ∧ out'.length = r10.length ∧ byteOk out' ∧ (o8.2 = [] → out' = out)
  | 0, i, out, h, hl, hb => ⟨out, by simp only [disk_file_fall_l0]; rw [if_neg (by simp only [decide_eq_true_eq]; omega)], hl, hb, fun _ => rfl⟩
  | j + 1, i, out, h, hl, hb => by
    have hi : i < r10.length := by omega
    have htd : IntKind.wrap .i64 (Int.tdiv (i : Int) 64) = ((i / 64 : Nat) : Int) := by
      rw [Int.tdiv_eq_ediv_of_nonneg (by omega)]; exact wrap_i64 (by omega) (by omega)
    have hnx : IntKind.wrap .i64 ((i : Int) + 1) = ((i + 1 : Nat) : Int) := wrap_i64 (by omega) (by omega)
    have hs64 : IntKind.wrap .i64 (((i / 64 : Nat) : Int) * 64) = ((i / 64 * 64 : Nat) : Int) := wrap_i64 (by omega) (by omega)
    have hi41 : IntKind.wrap .i64 ((i : Int) - ((i / 64 * 64 : Nat) : Int)) = ((i % 64 : Nat) : Int) := by
      rw [wrap_i64 (by omega) (by omega)]; omega
    obtain ⟨hx, hxl⟩ := mapOk_get hm ((i / 64 : Nat) : Int)
    have hstep : ∃ out1, disk_file_fall_l0 f o8 r10 k (j + 1 + 1) ((i : Int), out) = disk_file_fall_l0 f o8 r10 k (j + 1) (((i + 1 : Nat) : Int), out1) ∧ out1.length = r10.length ∧ byteOk out1 ∧ (o8.2 = [] → out1 = out) := by
      conv => arg 1; ext out1; lhs; lhs; simp only [disk_file_fall_l0]
      rw [if_pos (by simp only [decide_eq_true_eq]; omega)]
      simp only [bnd_eq, htd, hnx, hs64, hi41, Int.toNat_natCast]
      generalize hX : (pget (.int .i64) ((i / 64 : Nat) : Int) o8.2).getD ([], 0, 0, [], ()) = x at hx hxl ⊢
      by_cases c1 : (!(pget (.int .i64) ((i / 64 : Nat) : Int) o8.2).isSome || x.2.2.1 == 1) = true
      · rw [if_pos c1]
        exact ⟨out, rfl, hl, hb, fun _ => rfl⟩
      · rw [if_neg c1]
        have hne : o8.2 = [] → False := fun e => by
          rw [e] at c1
          exact c1 (by simp [pget])
        by_cases c2 : (x.2.2.1 == 2) = true
        · rw [if_pos c2, if_pos (by omega)]
          by_cases c3 : decide (((i % 64 : Nat) : Int) < (x.2.2.2.1.length : Int)) = true
          · have c3' : i % 64 < x.2.2.2.1.length := by simp only [decide_eq_true_eq] at c3; omega
            rw [if_pos c3, if_pos (by omega), if_pos (by rw [List.length_set]; omega)]
            exact ⟨_, rfl, by simp [hl], byteOk_set (byteOk_set hb (by decide)) (byteOk_getD hx c3'), fun e => (hne e).elim⟩
          · rw [if_neg c3]
            exact ⟨_, rfl, by simp [hl], byteOk_set hb (by decide), fun e => (hne e).elim⟩
        · rw [if_neg c2, if_pos (by omega)]
          by_cases c3 : decide ((i : Int) < (f.2.1.length : Int)) = true
          · have c3' : i < f.2.1.length := by simp only [decide_eq_true_eq] at c3; omega
            rw [if_pos c3, if_pos (by omega), if_pos (by rw [List.length_set]; omega)]
            exact ⟨_, rfl, by simp [hl], byteOk_set (byteOk_set hb (by decide)) (byteOk_getD hf c3'), fun e => (hne e).elim⟩
          · rw [if_neg c3]
            exact ⟨_, rfl, by simp [hl], byteOk_set hb (by decide), fun e => (hne e).elim⟩
    obtain ⟨out1, e1, l1, b1, s1⟩ := hstep
    obtain ⟨out', e2, l2, b2, s2⟩ := fall_out hf o8 hm r10 hr k j (i + 1) out1 (by omega) l1 b1
    exact ⟨out', e1.trans e2, l2, b2, fun e => (s2 e).trans (s1 e)⟩
theorem fall_eq {f : FileS} (hf : FOk f) (name : List Int) {l : List FateS} (hl : FatesOk l) : ∃ g, disk_file_fall f name l = some g ∧ FOk g ∧ g.2.1 = g.1 ∧ g.2.2 = [] ∧ (f.2.2 = [] → f.2.1 = f.1 → g = f) := by
  obtain ⟨hb1, hb2, hl1, hl2, hn, hd⟩ := hf
  have hdl := nodup_len hn hd
  obtain ⟨s', h1, h2, h3, h4⟩ := fall_fold (f := f) (name := name) hl f.2.2 ((f.2.1.length : Int), []) (by simp) (by simp; omega) (by simp; omega) (fun p hp => by cases hp)
  have hcl : slices_Clone__byte_byte (List.take (Int.toNat s'.1) f.1) = some (List.take (Int.toNat s'.1) f.1) := clone_eq (by simp; omega)
  have htl : (List.take (Int.toNat s'.1) f.1).length ≤ 1048576 := by simp; omega
  obtain ⟨out, e1, e2, e3, e4⟩ := fall_out (f := f) hb2 s' h4 (List.take (Int.toNat s'.1) f.1) htl (fun o13 => (slices_Clone__byte_byte o13).bind fun r17 => some (o13, r17, [])) (List.take (Int.toNat s'.1) f.1).length 0 (List.take (Int.toNat s'.1) f.1) (by omega) rfl (byteOk_of_subset (List.take_subset _ _) hb1)
  have hco : slices_Clone__byte_byte out = some out := clone_eq (by omega)
  refine ⟨(out, out, []), ?_, ⟨e3, e3, by show out.length ≤ _; omega, Nat.le_refl _, List.nodup_nil, fun s hs => by cases hs⟩, rfl, rfl, fun hd0 hs0 => ?_⟩
  · unfold disk_file_fall
    simp only [bnd_eq, h1, Option.bind_some]
    rw [if_pos (by omega), hcl]
    simp only [Option.bind_some]
    have ef : Int.toNat (((List.take (Int.toNat s'.1) f.1).length : Int) - 0) + 1 = (List.take (Int.toNat s'.1) f.1).length + 1 := by omega
    rw [ef]
    refine e1.trans ?_
    simp only [hco, Option.bind_some]
  · have hs' : s' = ((f.2.1.length : Int), []) := by
      rw [hd0] at h1
      exact (Option.some.inj h1).symm
    have := e4 (by rw [hs'])
    have ht : List.take (Int.toNat s'.1) f.1 = f.1 := by rw [hs', hs0]; simp
    rw [ht] at this
    rw [this]
    obtain ⟨a, b, c⟩ := f
    simp only at hd0 hs0 ⊢
    rw [hd0, hs0]
end Sx
namespace Sx
open Go
theorem crash_fold {l : List FateS} (hl : FatesOk l) : ∀ (ks : List (List Int)) (fs : List (List Int × FileS)), FsOk fs → (∀ k ∈ ks, (pget .str k fs).isSome) →
    ∃ fs', foldK (disk_Disk_Crash_l0 l) ks fs = some fs' ∧ FsOk fs' ∧ fs'.map (·.1) = fs.map (·.1) ∧ (∀ k f, pget .str k fs = some f → f.2.2 = [] → f.2.1 = f.1 → pget .str k fs' = some f) ∧ (∀ k g, (k ∈ ks ∨ ∀ f, pget .str k fs = some f → f.2.1 = f.1 ∧ f.2.2 = []) → pget .str k fs' = some g → g.2.1 = g.1 ∧ g.2.2 = [])
  | [], fs, hok, _ => ⟨fs, rfl, hok, rfl, fun _ _ h _ _ => h, fun k g h hg => by
      rcases h with h | h
      · cases h
      · exact h g hg⟩
  | k :: ks, fs, hok, hk => by
    obtain ⟨f, hf⟩ := Option.isSome_iff_exists.1 (hk k (by simp))
    obtain ⟨g, hg, hgo, hg1, hg2, hg3⟩ := fall_eq (hok.get hf) k hl
    have e : disk_Disk_Crash_l0 l k fs = some (pset .str k g fs) := by
      unfold disk_Disk_Crash_l0
      simp only [hf, Option.bind_some, hg]
    have hks : ∀ k' ∈ ks, (pget .str k' (pset .str k g fs)).isSome := fun k' hk' => by
      by_cases h : k = k'
      · subst h; rw [get_pset hf]; rfl
      · rw [pget_pset_ne h]; exact hk k' (by simp [hk'])
    obtain ⟨fs', h1, h2, h3, h4, h5⟩ := crash_fold hl ks (pset .str k g fs) (hok.set hgo) hks
    refine ⟨fs', ?_, h2, by rw [h3, pset_keys], fun k' f' hf' hd hs => ?_, fun k' g' hor hg' => ?_⟩
    · show (disk_Disk_Crash_l0 l k fs).bind _ = _
      rw [e]; exact h1
    · refine h4 k' f' ?_ hd hs
      by_cases h : k = k'
      · subst h
        rw [hf] at hf'
        obtain rfl := Option.some.inj hf'
        rw [get_pset hf, hg3 hd hs]
      · rw [pget_pset_ne h]; exact hf'
    · refine h5 k' g' ?_ hg'
      by_cases h : k' ∈ ks
      · exact .inl h
      · right
        intro f' hf'
        by_cases hkk : k = k'
        · subst hkk
          rw [get_pset hf] at hf'
          obtain rfl := Option.some.inj hf'
          exact ⟨hg1, hg2⟩
        · rw [pget_pset_ne hkk] at hf'
          rcases hor with hor | hor
          · rcases List.mem_cons.1 hor with h' | h'
            · exact absurd h'.symm hkk
            · exact absurd h' h
          · exact hor f' hf'
theorem Crash_eq {D : DiskS} {l : List FateS} (hl : FatesOk l) (hok : FsOk D.2.1) (hop : D.2.2.2.2.2.1 = true → D.2.2.2.2.2.2 = true) : ∃ fs', disk_Disk_Crash D l = some (D.1, fs', 0, D.2.2.2.1, 0, true, false) ∧ FsOk fs' ∧ fs'.map (·.1) = D.2.1.map (·.1) ∧
    (∀ k f, pget .str k D.2.1 = some f → f.2.2 = [] → f.2.1 = f.1 → pget .str k fs' = some f) ∧ (∀ k g, pget .str k fs' = some g → g.2.1 = g.1 ∧ g.2.2 = []) := by
  obtain ⟨fs', h1, h2, h3, h4, h5⟩ := crash_fold hl (D.2.1.map (·.1)) D.2.1 hok (fun k hk => by
    cases hg : pget .str k D.2.1 with
    | none => exact absurd hk (get_none.1 hg)
    | some f => rfl)
  refine ⟨fs', ?_, h2, h3, h4, fun k g hg => h5 k g (.inl ?_) hg⟩
  · unfold disk_Disk_Crash
    rw [if_neg]
    · simp only [bnd_eq, h1, Option.bind_some]
    · cases ho : D.2.2.2.2.2.1 with
      | false => simp
      | true => simp [hop ho]
  · rw [← h3]
    refine Classical.byContradiction fun hc => ?_
    have := get_none.2 hc
    rw [hg] at this; cases this
theorem On_eq' {D : DiskS} (hp : D.2.2.2.2.2.2 = false) : disk_Disk_On D = some (D.1, D.2.1, D.2.2.1, D.2.2.2.1, D.2.2.2.2.1, false, false) := by
  unfold disk_Disk_On
  simp only [bnd_eq, hp]
  rw [if_neg (by decide)]
end Sx
namespace Sx
open Go
theorem Write_any3 {D : DiskS} {name text : List Int} {at0 : Int} (hok : FsOk D.2.1) (hat : rng .i64 at0) (ht : byteOk text) (htl : text.length ≤ 140737488355328) (hnl : name.length < 4611686018427387904) :
    (∃ e, e ≠ 0 ∧ disk_Disk_Write D name at0 text = some (e, D)) ∨
    (D.2.2.2.2.2.1 = false ∧ disk_isName name = some true ∧ 0 ≤ at0 ∧ at0 ≤ (seenOf D.2.1 name).length ∧ at0 + text.length ≤ 1048576 ∧ ∃ e a fl o p fs', disk_Disk_counted D 1 = some (e, (D.1, D.2.1, a, D.2.2.2.1, fl, o, p)) ∧ disk_Disk_Write D name at0 text = some (if e = 0 then (0, (D.1, fs', a, D.2.2.2.1, fl, o, p)) else (e, (D.1, D.2.1, a, D.2.2.2.1, fl, o, p))) ∧
      FsOk fs' ∧ (∃ ds, pget .str name fs' = some (over (seenOf D.2.1 name) at0.toNat text, safeOf D.2.1 name, ds) ∧ ∀ x, x ∈ ds ↔ x ∈ dirtyOf D.2.1 name ∨ (text ≠ [] ∧ at0 / 64 ≤ x ∧ x * 64 < at0 + text.length)) ∧ (∀ b, name ≠ b → pget .str b fs' = pget .str b D.2.1) ∧ fs'.map (·.1) = (if (pget .str name D.2.1).isSome then D.2.1 else pput .str name ([], [], []) D.2.1).map (·.1) ∧ ∀ u, disk_Disk_Used D = some u → u + max 0 (at0 + text.length - (seenOf D.2.1 name).length) ≤ D.1) := by
  rcases Bool.eq_false_or_eq_true D.2.2.2.2.2.1 with ho | ho
  · exact .inl ⟨9, by decide, by unfold disk_Disk_Write; rw [if_pos ho]⟩
  ·
    obtain ⟨b, hb⟩ := isName_any name hnl
    obtain ⟨u, hu, hu0, hu1⟩ := Used_eq hok
    have hlen := hok.2.2
    have hm : D.2.1.length ≤ most := by simp only [most]; omega
    have hr : -9223372036854775808 ≤ at0 ∧ at0 ≤ 9223372036854775807 := by simpa only [rng, lo, Sx.hi] using hat
    have hsl : (seenOf D.2.1 name).length ≤ 1048576 := by
      unfold seenOf
      cases hg : pget .str name D.2.1 with
      | none => simp
      | some f => exact (hok.get hg).2.2.1
    have hw : disk_Disk_Write D name at0 text = disk_Disk_Write D name at0 text := rfl
    by_cases c1 : b = true ∧ 0 ≤ at0 ∧ at0 ≤ (seenOf D.2.1 name).length
    · obtain ⟨rfl, h0, h1⟩ := c1
      have hw1 : IntKind.wrap .i64 (at0 + (text.length : Int)) = at0 + text.length := wrap_i64 (by omega) (by omega)
      by_cases c2 : at0 + text.length ≤ 1048576
      · by_cases c3 : pget .str name D.2.1 = none → D.2.1.length < 16
        · by_cases c4 : u + max 0 (at0 + text.length - (seenOf D.2.1 name).length) ≤ D.1
          · have hcap : ∀ u', disk_Disk_Used D = some u' → u' + max 0 (at0 + text.length - (seenOf D.2.1 name).length) ≤ D.1 := fun u' hu' => by rw [hu] at hu'; cases hu'; exact c4
            obtain ⟨e, a, fl, o, p, fs', g1, g2, g3, g4, g5, g6⟩ := Write_core2 hok ho hb ht h0 h1 c2 c3 hcap
            exact .inr ⟨ho, hb, h0, h1, c2, e, a, fl, o, p, fs', g1, g2, g3, g4, g5, g6, hcap⟩
          · refine .inl ⟨41, by decide, ?_⟩
            unfold disk_Disk_Write
            rw [if_neg (by simp [ho])]
            simp only [bnd_eq, hb, hu, Option.bind_some, hw1]
            have hw2 : IntKind.wrap .i64 (at0 + (text.length : Int) - (seenOf D.2.1 name).length) = at0 + text.length - (seenOf D.2.1 name).length := wrap_i64 (by omega) (by omega)
            have hw3 : IntKind.wrap .i64 (u + max 0 (at0 + (text.length : Int) - (seenOf D.2.1 name).length)) = u + max 0 (at0 + (text.length : Int) - (seenOf D.2.1 name).length) := wrap_i64 (by omega) (by omega)
            cases hg : pget .str name D.2.1 with
            | none =>
              have hz : seenOf D.2.1 name = [] := by simp [seenOf, hg]
              rw [hz] at hw2 hw3 c4 h1
              simp only [List.length_nil, Int.natCast_zero] at hw2 hw3 c4 h1
              have h16 := c3 hg
              simp only [Option.isSome_none, Bool.false_eq_true, if_false, Bool.not_true, Bool.false_or, Bool.not_false, if_true, hw2, hw3]
              rw [if_neg (by simp only [Bool.or_eq_true, decide_eq_true_eq]; omega), if_neg (by simp only [decide_eq_true_eq]; omega), if_pos hm, if_neg (by simp only [decide_eq_true_eq]; omega), if_pos (by simp only [decide_eq_true_eq]; omega)]
            | some f =>
              have hz : seenOf D.2.1 name = f.1 := by simp [seenOf, hg]
              rw [hz] at hw2 hw3 c4 h1
              simp only [Option.isSome_some, if_true, Option.bind_some, Bool.not_true, Bool.false_or, Bool.false_eq_true, if_false, hw2, hw3]
              rw [if_neg (by simp only [Bool.or_eq_true, decide_eq_true_eq]; omega), if_neg (by simp only [decide_eq_true_eq]; omega), if_pos (by simp only [decide_eq_true_eq]; omega)]
        · have hg : pget .str name D.2.1 = none := Classical.byContradiction fun h => c3 (fun h' => absurd h' h)
          have h16 : ¬ D.2.1.length < 16 := fun h => c3 (fun _ => h)
          have hz : seenOf D.2.1 name = [] := by simp [seenOf, hg]
          rw [hz] at h1
          simp only [List.length_nil, Int.natCast_zero] at h1
          refine .inl ⟨6, by decide, ?_⟩
          unfold disk_Disk_Write
          rw [if_neg (by simp [ho])]
          simp only [bnd_eq, hb, Option.bind_some, hw1, hg, Option.isSome_none, Bool.false_eq_true, if_false, Bool.not_true, Bool.false_or, Bool.not_false, if_true]
          rw [if_neg (by simp only [Bool.or_eq_true, decide_eq_true_eq]; omega), if_neg (by simp only [decide_eq_true_eq]; omega), if_pos hm, if_pos (by simp only [decide_eq_true_eq]; omega)]
      · refine .inl ⟨3, by decide, ?_⟩
        unfold disk_Disk_Write
        rw [if_neg (by simp [ho])]
        simp only [bnd_eq, hb, Option.bind_some, hw1]
        cases hg : pget .str name D.2.1 with
        | none =>
          have hz : seenOf D.2.1 name = [] := by simp [seenOf, hg]
          rw [hz] at h1
          simp only [List.length_nil, Int.natCast_zero] at h1
          simp only [Option.isSome_none, Bool.false_eq_true, if_false, Bool.not_true, Bool.false_or]
          rw [if_neg (by simp only [Bool.or_eq_true, decide_eq_true_eq]; omega), if_pos (by simp only [decide_eq_true_eq]; omega)]
        | some f =>
          have hz : seenOf D.2.1 name = f.1 := by simp [seenOf, hg]
          rw [hz] at h1
          simp only [Option.isSome_some, if_true, Option.bind_some, Bool.not_true, Bool.false_or]
          rw [if_neg (by simp only [Bool.or_eq_true, decide_eq_true_eq]; omega), if_pos (by simp only [decide_eq_true_eq]; omega)]
    · refine .inl ⟨1, by decide, ?_⟩
      unfold disk_Disk_Write
      rw [if_neg (by simp [ho])]
      simp only [bnd_eq, hb, Option.bind_some]
      cases hg : pget .str name D.2.1 with
      | none =>
        have hz : seenOf D.2.1 name = [] := by simp [seenOf, hg]
        rw [hz] at c1
        simp only [List.length_nil, Int.natCast_zero] at c1
        simp only [Option.isSome_none, Bool.false_eq_true, if_false]
        rw [if_pos (by cases b <;> simp only [Bool.not_false, Bool.not_true, Bool.true_or, Bool.false_or, Bool.or_eq_true, decide_eq_true_eq, true_and] at c1 ⊢; omega)]
      | some f =>
        have hz : seenOf D.2.1 name = f.1 := by simp [seenOf, hg]
        rw [hz] at c1
        simp only [Option.isSome_some, if_true, Option.bind_some]
        rw [if_pos (by cases b <;> simp only [Bool.not_false, Bool.not_true, Bool.true_or, Bool.false_or, Bool.or_eq_true, decide_eq_true_eq, true_and] at c1 ⊢; omega)]
theorem Write_any2 {D : DiskS} {name text : List Int} {at0 : Int} (hok : FsOk D.2.1) (hat : rng .i64 at0) (ht : byteOk text) (htl : text.length ≤ 140737488355328) (hnl : name.length < 4611686018427387904) :
    (∃ e, e ≠ 0 ∧ disk_Disk_Write D name at0 text = some (e, D)) ∨
    (D.2.2.2.2.2.1 = false ∧ disk_isName name = some true ∧ 0 ≤ at0 ∧ at0 ≤ (seenOf D.2.1 name).length ∧ at0 + text.length ≤ 1048576 ∧ ∃ e a fl o p fs', disk_Disk_counted D 1 = some (e, (D.1, D.2.1, a, D.2.2.2.1, fl, o, p)) ∧ disk_Disk_Write D name at0 text = some (if e = 0 then (0, (D.1, fs', a, D.2.2.2.1, fl, o, p)) else (e, (D.1, D.2.1, a, D.2.2.2.1, fl, o, p))) ∧
      FsOk fs' ∧ (∃ ds, pget .str name fs' = some (over (seenOf D.2.1 name) at0.toNat text, safeOf D.2.1 name, ds) ∧ ∀ x, x ∈ ds ↔ x ∈ dirtyOf D.2.1 name ∨ (text ≠ [] ∧ at0 / 64 ≤ x ∧ x * 64 < at0 + text.length)) ∧ (∀ b, name ≠ b → pget .str b fs' = pget .str b D.2.1) ∧ fs'.map (·.1) = (if (pget .str name D.2.1).isSome then D.2.1 else pput .str name ([], [], []) D.2.1).map (·.1)) := by
  rcases Write_any3 hok hat ht htl hnl with h | ⟨ho, hb, h0, h1, c2, e, a, fl, o, p, fs', g1, g2, g3, g4, g5, g6, _⟩
  · exact .inl h
  · exact .inr ⟨ho, hb, h0, h1, c2, e, a, fl, o, p, fs', g1, g2, g3, g4, g5, g6⟩
theorem Write_any {D : DiskS} {name text : List Int} {at0 : Int} (hok : FsOk D.2.1) (hat : rng .i64 at0) (ht : byteOk text) (htl : text.length ≤ 140737488355328) (hnl : name.length < 4611686018427387904) :
    (∃ e, e ≠ 0 ∧ disk_Disk_Write D name at0 text = some (e, D)) ∨
    (D.2.2.2.2.2.1 = false ∧ disk_isName name = some true ∧ 0 ≤ at0 ∧ at0 ≤ (seenOf D.2.1 name).length ∧ at0 + text.length ≤ 1048576 ∧ ∃ e a fl o p fs', disk_Disk_counted D 1 = some (e, (D.1, D.2.1, a, D.2.2.2.1, fl, o, p)) ∧ disk_Disk_Write D name at0 text = some (if e = 0 then (0, (D.1, fs', a, D.2.2.2.1, fl, o, p)) else (e, (D.1, D.2.1, a, D.2.2.2.1, fl, o, p))) ∧
      FsOk fs' ∧ (∃ ds, pget .str name fs' = some (over (seenOf D.2.1 name) at0.toNat text, safeOf D.2.1 name, ds)) ∧ (∀ b, name ≠ b → pget .str b fs' = pget .str b D.2.1) ∧ fs'.map (·.1) = (if (pget .str name D.2.1).isSome then D.2.1 else pput .str name ([], [], []) D.2.1).map (·.1)) := by
  rcases Write_any2 hok hat ht htl hnl with h | ⟨g1, g2, g3, g4, g5, e, a, fl, o, p, fs', g6, g7, g8, ⟨ds, g9, _⟩, g10, g11⟩
  · exact .inl h
  · exact .inr ⟨g1, g2, g3, g4, g5, e, a, fl, o, p, fs', g6, g7, g8, ⟨ds, g9⟩, g10, g11⟩
theorem cutKeys_mem {ks : List Int} {n : Int} {s : Int} : s ∈ cutKeys ks n → s ∈ ks := fun h => (List.mem_filter.1 h).1
end Sx
namespace Sx
open Go
def cutF (f : FileS) (n : Int) : FileS := (f.1.take n.toNat, f.2.1.take n.toNat, cutKeys f.2.2 n)
theorem Trunc_calm {D : DiskS} (h : Calm D) {name : List Int} {f : FileS} {n : Int} (hg : pget .str name D.2.1 = some f) (h0 : 0 ≤ n) (h1 : n ≤ f.1.length) : disk_Disk_Truncate D name n = some (0, withFs D (pset .str name (cutF f n) D.2.1)) ∧ Calm (withFs D (pset .str name (cutF f n) D.2.1)) := by
  have hf := h.1.get hg
  have hl := hf.2.2.1
  have hl2 := hf.2.2.2.1
  refine ⟨?_, FsOk.set h.1 ?_, h.2.1, h.2.2.1, h.2.2.2⟩
  · unfold disk_Disk_Truncate
    rw [found_eq name h.2.1, hg]
    simp only [Option.isSome_some, if_true, Option.bind_some, bnd_eq]
    rw [if_neg (by decide), if_neg (by simp only [Bool.or_eq_true, decide_eq_true_eq]; omega), if_pos (by omega), clone_eq (by simp only [List.length_take]; omega)]
    simp only [Option.bind_some]
    have e1 : List.take (Int.toNat (min n (f.2.1.length : Int))) f.2.1 = f.2.1.take n.toNat := by
      rcases Int.le_total n (f.2.1.length : Int) with h | h
      · rw [Int.min_eq_left h]
      · rw [Int.min_eq_right h, Int.toNat_natCast, List.take_length, List.take_of_length_le (by omega)]
    rw [if_pos (by omega), e1]
    rfl
  · refine ⟨fun x hx => hf.1 x (List.mem_of_mem_take hx), fun x hx => hf.2.1 x (List.mem_of_mem_take hx), ?_, ?_, hf.2.2.2.2.1.filter _, fun s hs => hf.2.2.2.2.2 s (cutKeys_mem hs)⟩
    · simp only [cutF, List.length_take]; omega
    · simp only [cutF, List.length_take]; omega
def rightS (a : List Int) : Bool := a.all (fun c => decide (33 ≤ c) && decide (c ≤ 126)) && (a != []) && decide (a.length ≤ 24)
theorem right_l0 (a : List Int) (hl : a.length < 4611686018427387904) (k : Unit → Option Bool) : ∀ (j i : Nat), i + j = a.length →
    wal_right_l0 a k (j + 1) (i : Int) = if (a.drop i).all (fun c => decide (33 ≤ c) && decide (c ≤ 126)) = true then k () else some false := by
  intro j
  induction j with
  | zero =>
    intro i hi
    rw [List.drop_eq_nil_of_le (by omega), wal_right_l0]
    rw [if_neg (by rw [decide_eq_true_eq]; omega)]
    rfl
  | succ j ih =>
    intro i hi
    have hlt : i < a.length := by omega
    have hdr : a.drop i = a.getD i 0 :: a.drop (i + 1) := by
      rw [List.drop_eq_getElem_cons hlt]
      simp [List.getD, hlt]
    have w5 : IntKind.wrap .i64 ((i : Int) + 1) = ((i + 1 : Nat) : Int) := by rw [wrap_id (by simp only [rng, lo, Sx.hi]; omega)]; omega
    rw [hdr, List.all_cons, wal_right_l0]
    rw [if_pos (by rw [decide_eq_true_eq]; omega), if_pos (by constructor <;> omega)]
    simp only [Int.toNat_natCast, bnd_eq]
    by_cases hA : a.getD i 0 < 33
    · rw [if_pos (by rw [decide_eq_true_eq]; exact hA), if_pos trivial, if_neg (by simp only [Bool.and_eq_true, decide_eq_true_eq]; omega)]
    · rw [if_neg (by rw [decide_eq_true_eq]; exact hA), if_pos (by constructor <;> omega)]
      by_cases hB : a.getD i 0 > 126
      · rw [if_pos (by rw [decide_eq_true_eq]; exact hB), if_neg (by simp only [Bool.and_eq_true, decide_eq_true_eq]; omega)]
      · rw [if_neg (by rw [decide_eq_true_eq]; exact hB), w5, ih (i + 1) (by omega)]
        have : (decide (33 ≤ a.getD i 0) && decide (a.getD i 0 ≤ 126)) = true := by rw [Bool.and_eq_true, decide_eq_true_eq, decide_eq_true_eq]; omega
        rw [this, Bool.true_and]
theorem right_eq (a : List Int) (hl : a.length < 4611686018427387904) : wal_right a = some (rightS a) := by
  unfold wal_right
  simp only [bnd_eq]
  rw [show Int.toNat ((List.length a : Int) - 0) = a.length by omega]
  refine (right_l0 a hl _ a.length 0 (by omega)).trans ?_
  rw [List.drop_zero]
  unfold rightS
  cases h : a.all (fun c => decide (33 ≤ c) && decide (c ≤ 126)) with
  | false => rfl
  | true =>
    rw [if_pos rfl, Bool.true_and]
    congr 2
    exact decide_eq_decide.2 (by omega)
end Sx
namespace Sx
open Go
theorem scan_all (l : List (List Int)) (n : Nat) (rest : List Int) (f : Nat) (hg : goodL l) (hf : l.length < f) (hn : n + l.length < 9223372036854775807) (hb : byteOk rest)
    (hno : ∀ p r, p.length ≤ 65536 → rest ≠ frameOf (n + l.length) p ++ r) : scanF f (frames n l ++ rest) 0 (n : Int) = (l, (lenF l : Int), decide (rest ≠ [])) := by
  have h := scan_frames l n [] rest f hg hf hn
  simp only [List.nil_append, List.length_nil, Nat.zero_add] at h
  refine h ?_
  intro hw
  rw [← frames_len n l] at hw
  obtain ⟨_, p, r, h1, h2⟩ := next_begins (fun c hc => by
    rcases List.mem_append.1 hc with g | g
    · exact frames_byte n hg c g
    · exact hb c g) hw
  rw [Int.toNat_natCast] at h2
  exact hno p r h1 h2
end Sx
namespace Sx
open Go
theorem frame_pay {n : Nat} {p : List Int} (h : byteOk (frameOf n p)) : byteOk p := fun x hx => by
  refine h x ?_
  rw [frame_parts]
  simp [hx]
theorem scan_parts : ∀ (f : Nat) (P c : List Int) (n : Nat), byteOk (P ++ c) → c.length < f → n + c.length < 9223372036854775807 →
    ∃ l rest, goodL l ∧ c = frames n l ++ rest ∧ l.length ≤ c.length ∧ scanF f (P ++ c) (P.length : Int) (n : Int) = (l, ((P.length + lenF l : Nat) : Int), decide (rest ≠ [])) ∧ ∀ p r, p.length ≤ 65536 → rest ≠ frameOf (n + l.length) p ++ r
  | 0, _, _, _, _, h, _ => by omega
  | f + 1, P, c, n, hb, hf, hn => by
    by_cases hw : (nextAns (P ++ c) (P.length : Int) (n : Int)).2.2 = 1
    · obtain ⟨_, p, r1, hp, hc⟩ := next_begins hb hw
      rw [Int.toNat_natCast] at hc
      subst hc
      have hnx := next_frame P r1 p n hp
      have hflen : (frameOf n p).length = room p.length := by
        have := frames_len n [p]
        simpa [frames, lenF] using this
      have hroom := (room_ge p.length).1
      have hpb : byteOk p := frame_pay (n := n) fun x hx => hb x (by simp [hx])
      obtain ⟨l, rest, g1, g2, g3, g4, g5⟩ := scan_parts f (P ++ frameOf n p) r1 (n + 1) (by rw [List.append_assoc]; exact hb) (by simp only [List.length_append] at hf; omega) (by simp only [List.length_append] at hn; omega)
      refine ⟨p :: l, rest, fun q hq => ?_, ?_, ?_, ?_, ?_⟩
      · rcases List.mem_cons.1 hq with rfl | hq
        · exact ⟨hpb, hp⟩
        · exact g1 q hq
      · rw [g2]; simp [frames]
      · simp only [List.length_cons, List.length_append]; omega
      · rw [scanF, if_pos hw, hnx]
        rw [if_neg (by simp only [List.length_append] at hn; omega)]
        dsimp only
        have e1 : (P.length : Int) + (room p.length : Int) = ((P ++ frameOf n p).length : Int) := by rw [List.length_append, hflen]; omega
        have e2 : ((n : Int) + 1) = ((n + 1 : Nat) : Int) := by omega
        rw [e1, e2, ← List.append_assoc, g4]
        have e3 : (P ++ frameOf n p).length + lenF l = P.length + lenF (p :: l) := by rw [List.length_append, hflen]; simp only [lenF, List.map_cons, List.sum_cons]; omega
        rw [e3]
      · intro q r hq
        have := g5 q r hq
        rw [List.length_cons, show n + (l.length + 1) = n + 1 + l.length by omega]
        exact this
    · refine ⟨[], c, fun q hq => by simp at hq, rfl, by simp, ?_, ?_⟩
      · rw [scanF, if_neg hw]
        have : decide ((P.length : Int) < ((P ++ c).length : Int)) = decide (c ≠ []) := decide_eq_decide.2 (by
          rw [List.length_append]
          cases c with
          | nil => simp
          | cons a r => simp; omega)
        rw [this]
        simp [lenF]
      · intro p r hp he
        refine hw ?_
        rw [he, List.length_nil, Nat.add_zero, next_frame P r p n hp]
theorem scanS_parts (b : List Int) (hb : byteOk b) (hl : b.length ≤ 1048576) (n : Nat) (hn : n ≤ 2305843009213693952) :
    ∃ l rest, goodL l ∧ b = frames n l ++ rest ∧ scanS b n = (l, (lenF l : Int), decide (rest ≠ [])) ∧ scanS (frames n l) n = (l, (lenF l : Int), false) := by
  obtain ⟨l, rest, g1, g2, g3, g4, g5⟩ := scan_parts (b.length + 2) [] b n (by simpa using hb) (by omega) (by omega)
  simp only [List.nil_append, List.length_nil, Nat.zero_add] at g4
  refine ⟨l, rest, g1, g2, g4, ?_⟩
  have h := scan_all l n [] ((frames n l).length + 2) g1 (by
    have h64 : ∀ l : List (List Int), l.length ≤ lenF l := by
      intro l
      induction l with
      | nil => simp [lenF]
      | cons p r ih =>
        have := (room_ge p.length).1
        simp only [lenF, List.map_cons, List.sum_cons, List.length_cons] at ih ⊢
        omega
    rw [frames_len]; have := h64 l; omega) (by omega) (fun x hx => by simp at hx) (fun p r hp he => by
      have := (room_ge p.length).1
      have h2 : (frameOf (n + l.length) p).length = room p.length := by
        have := frames_len (n + l.length) [p]
        simpa [frames, lenF] using this
      have h3 := congrArg List.length he
      simp only [List.length_nil, List.length_append] at h3
      omega)
  unfold scanS
  simpa using h
end Sx
namespace Sx
open Go
def log0 (nm : List Int) (most' first : Int) : LogS := ((), nm, most', [], first, false, ())
def numsOf (D : DiskS) (nm : List Int) : List Int := isortI (nums nm (D.2.1.map (·.1)))
theorem numsOf_mem {D : DiskS} {nm : List Int} {x : Int} : x ∈ numsOf D nm ↔ (0 ≤ x ∧ x ≤ 9999999) ∧ fileN nm x ∈ D.2.1.map (·.1) := by
  unfold numsOf
  rw [(isortI_perm _).mem_iff]
  unfold nums
  rw [List.mem_filterMap]
  constructor
  · rintro ⟨f, hf, hn⟩
    obtain ⟨rfl, h0, h1⟩ := numOf_spec.1 hn
    exact ⟨⟨h0, h1⟩, hf⟩
  · rintro ⟨⟨h0, h1⟩, hf⟩
    exact ⟨_, hf, numOf_spec.2 ⟨rfl, h0, h1⟩⟩
theorem numsOf_len {D : DiskS} (hok : FsOk D.2.1) (nm : List Int) : (numsOf D nm).length ≤ 16 := by
  unfold numsOf
  rw [(isortI_perm _).length_eq]
  have := List.length_filterMap_le (numOf nm) (D.2.1.map (·.1))
  rw [List.length_map] at this
  exact Nat.le_trans this hok.2.2
theorem mem_some {fs : List (List Int × FileS)} {k : List Int} (h : k ∈ fs.map (·.1)) : (pget .str k fs).isSome = true := by
  cases hg : pget .str k fs with
  | none => exact absurd h (get_none.1 hg)
  | some f => rfl
def reading (D : DiskS) (nm : List Int) (most' first : Int) : Option (FoundS × LogS × Bool) :=
  (checkS (numsOf D nm) (-1)).map fun last => readsS D.2.1 nm last (numsOf D nm) (([], 0, false, false, ()), log0 nm most' first)
theorem reads_name {fs : List (List Int × FileS)} (nm : List Int) (last : Int) : ∀ (xs : List Int) (s : FoundS × LogS), (readsS fs nm last xs s).2.1.2.1 = s.2.2.1
  | [], s => rfl
  | x :: m, s => by
    simp only [readsS]
    have h : ∀ l k f b, (readS l k f b).1.2.1 = l.2.1 := fun l k f b => by unfold readS; split <;> rfl
    split
    · exact h _ _ _ _
    · rw [reads_name nm last m]; exact h _ _ _ _
theorem reads_files {fs : List (List Int × FileS)} (nm : List Int) (last : Int) : ∀ (xs : List Int) (s : FoundS × LogS), ∃ ys, ys <+: xs ∧ (readsS fs nm last xs s).2.1.2.2.2.1.map (·.1) = s.2.2.2.2.1.map (·.1) ++ ys
  | [], s => ⟨[], List.prefix_refl _, by simp [readsS]⟩
  | x :: m, s => by
    have h : ∀ l k f b, (readS l k f b).1.2.2.2.1.map (·.1) = l.2.2.2.1.map (·.1) ++ [k] := fun l k f b => by unfold readS; split <;> simp
    simp only [readsS]
    split
    · exact ⟨[x], ⟨m, rfl⟩, h _ _ _ _⟩
    · obtain ⟨ys, ⟨t, ht⟩, e⟩ := reads_files nm last m ((readS s.2 x s.1 (seenOf fs (fileN nm x))).2, (readS s.2 x s.1 (seenOf fs (fileN nm x))).1)
      refine ⟨x :: ys, ⟨t, by rw [← ht]; rfl⟩, ?_⟩
      rw [e, h]
      simp
end Sx
namespace Sx
open Go
theorem cloneS_eq {l : List (List Int)} (h : l.length ≤ 1048576) : slices_Clone__string_string l = some l := by
  unfold slices_Clone__string_string
  simp
  omega
theorem names_l0 (l : LogS) (hl : l.2.1.length ≤ 24) (hr : ∀ s ∈ l.2.2.2.1, rng .i64 s.1) (hn : l.2.2.2.1.length ≤ 1048576) (k : List (List Int) → Option (List (List Int))) : ∀ (j i : Nat) (acc : List (List Int)), i + j = l.2.2.2.1.length → acc.length ≤ i →
    wal_Log_Names_l0 l k (j + 1) ((i : Int), acc) = k (acc ++ (l.2.2.2.1.drop i).map fun s => fileN l.2.1 s.1) := by
  intro j
  induction j with
  | zero =>
    intro i acc hi _
    rw [List.drop_eq_nil_of_le (by omega), wal_Log_Names_l0]
    rw [if_neg (by rw [decide_eq_true_eq]; omega)]
    simp
  | succ j ih =>
    intro i acc hi hacc
    have hlt : i < l.2.2.2.1.length := by omega
    have hdr : l.2.2.2.1.drop i = l.2.2.2.1.getD i (0, 0, 0, ()) :: l.2.2.2.1.drop (i + 1) := by
      rw [List.drop_eq_getElem_cons hlt]
      simp [List.getD, hlt]
    have hm : l.2.2.2.1.getD i (0, 0, 0, ()) ∈ l.2.2.2.1 := by simp only [List.getD, List.getElem?_eq_getElem hlt, Option.getD_some]; exact List.getElem_mem hlt
    have w5 : IntKind.wrap .i64 ((i : Int) + 1) = ((i + 1 : Nat) : Int) := by rw [wrap_id (by simp only [rng, lo, Sx.hi]; omega)]; omega
    rw [hdr, wal_Log_Names_l0]
    rw [if_pos (by rw [decide_eq_true_eq]; omega), if_pos (by constructor <;> omega)]
    simp only [Int.toNat_natCast]
    rw [file_eq l _ hl (hr _ hm), bind_eq, if_pos (by simp only [List.length_cons, List.length_nil]; omega), w5]
    rw [ih (i + 1) _ (by omega) (by simp only [List.length_append, List.length_cons, List.length_nil]; omega)]
    rw [List.map_cons, List.append_assoc]
    rfl
theorem names_eq (l : LogS) (D : DiskS) (hl : l.2.1.length ≤ 24) (hr : ∀ s ∈ l.2.2.2.1, rng .i64 s.1) (hn : l.2.2.2.1.length ≤ 1048576) : wal_Log_Names l D = some (l.2.2.2.1.map fun s => fileN l.2.1 s.1) := by
  unfold wal_Log_Names
  simp only [bnd_eq]
  rw [show Int.toNat ((List.length l.2.2.2.1 : Int) - 0) = l.2.2.2.1.length by omega]
  have h := names_l0 l hl hr hn (fun o4 => some o4) l.2.2.2.1.length 0 [] (by omega) (by simp)
  rw [List.drop_zero, List.nil_append] at h
  exact h
end Sx
namespace Sx
open Go
def cutD (D : DiskS) (R : FoundS × LogS × Bool) : DiskS :=
  if R.1.2.2.2.1 = true then
    match pget .str (fileN R.2.1.2.1 ((R.2.1.2.2.2.1.getD (R.2.1.2.2.2.1.length - 1) (0, 0, 0, ())).1)) D.2.1 with
    | some f => withFs D (pset .str (fileN R.2.1.2.1 ((R.2.1.2.2.2.1.getD (R.2.1.2.2.2.1.length - 1) (0, 0, 0, ())).1)) (cutF f (R.2.1.2.2.2.1.getD (R.2.1.2.2.2.1.length - 1) (0, 0, 0, ())).2.1) D.2.1)
    | none => D
  else D
def doneD (D : DiskS) (R : FoundS × LogS × Bool) : DiskS := withFs (cutD D R) (syncAll (cutD D R).2.1 (R.2.1.2.2.2.1.map fun s => fileN R.2.1.2.1 s.1))
def told (R : FoundS × LogS × Bool) (first : Int) : List (List Int) := if R.1.2.2.1 = true then R.1.1.drop (first - R.1.2.1).toNat else R.1.1
def refusedS (R : FoundS × LogS × Bool) (first : Int) : Prop := R.2.2 = true ∨ (R.1.2.2.1 = true ∧ (R.1.2.1 > first ∨ R.2.1.2.2.2.2.1 < first))
def InvR (f : FoundS) (l : LogS) : Prop := (f.2.2.1 = true → l.2.2.2.2.1 = f.2.1 + (f.1.length : Int)) ∧ (f.2.2.1 = false → f.1 = [])
theorem read_inv {l : LogS} {k : Int} {f : FoundS} {b : List Int} (h : InvR f l) : InvR (readS l k f b).2 (readS l k f b).1 := by
  have hh : ((headS l f b).2.1 = true → (headS l f b).2.2 = (headS l f b).1 + (f.1.length : Int)) ∧ ((headS l f b).2.1 = false → f.1 = []) := by
    unfold headS
    by_cases h1 : f.2.2.1 = false ∧ b ≠ []
    · rw [if_pos h1]
      have hp := h.2 h1.1
      refine ⟨fun h2 => ?_, fun _ => hp⟩
      dsimp only at h2 ⊢
      rw [if_pos h2, hp]; simp
    · rw [if_neg h1]
      exact h
  unfold readS
  by_cases h3 : (headS l f b).2.1 = true
  · rw [if_pos h3]
    refine ⟨fun _ => ?_, fun h4 => ?_⟩
    · dsimp only
      rw [hh.1 h3, List.length_append]; omega
    · dsimp only at h4
      rw [h3] at h4; cases h4
  · rw [if_neg h3]
    have h5 : (headS l f b).2.1 = false := by simpa using h3
    exact ⟨fun h4 => absurd h4 h3, fun _ => hh.2 h5⟩
theorem reads_inv {fs : List (List Int × FileS)} (nm : List Int) (last : Int) : ∀ (xs : List Int) (s : FoundS × LogS), InvR s.1 s.2 → InvR (readsS fs nm last xs s).1 (readsS fs nm last xs s).2.1
  | [], s, h => h
  | x :: m, s, h => by
    simp only [readsS]
    split
    · exact read_inv h
    · exact reads_inv nm last m _ (read_inv h)
end Sx
namespace Sx
open Go
theorem pre_beN : ∀ (n v : Nat) (r : List Int), v < 256 ^ n → pre (be v n ++ r) n = (v : Int)
  | 0, v, r, h => by
    have : v = 0 := by simpa using h
    subst this; rfl
  | n + 1, v, r, h => by
    have hd : v / 256 < 256 ^ n := Nat.div_lt_of_lt_mul (by rw [Nat.pow_succ] at h; omega)
    have ih := pre_beN n (v / 256) ([((v % 256 : Nat) : Int)] ++ r) hd
    rw [be_succ, List.append_assoc]
    simp only [pre]
    rw [ih]
    have hg : (be (v / 256) n ++ ([((v % 256 : Nat) : Int)] ++ r)).getD n 0 = ((v % 256 : Nat) : Int) := by
      simp only [List.getD]
      rw [List.getElem?_append_right (by rw [be_len]; exact Nat.le_refl n), be_len]
      simp
    rw [hg]
    omega
theorem pre_be8 (v : Nat) (h : v < 18446744073709551616) (r : List Int) : pre (be v 8 ++ r) 8 = (v : Int) := pre_beN 8 v r (by simpa using h)
theorem frames_begin {x : Nat} (hx : x < 1152921504606846976) {l : List (List Int)} (hg : goodL l) (hne : l ≠ []) (rest : List Int) : beginsS (frames x l ++ rest) = ((x : Int), true) := by
  cases l with
  | nil => exact absurd rfl hne
  | cons p r =>
    have hp := hg p (by simp)
    have hr := (room_ge p.length).1
    have e1 : frames x (p :: r) ++ rest = frameOf x p ++ (frames (x + 1) r ++ rest) := by simp [frames]
    have hlen : 64 ≤ (frames x (p :: r) ++ rest).length := by rw [e1, List.length_append, frameOf_len]; omega
    have hpre : pre ((frames x (p :: r) ++ rest).drop 4) 8 = (x : Int) := by
      rw [e1, frame_parts, List.append_assoc]
      have : (be p.length 4 ++ (be x 8 ++ (be (sumOf x p).toNat 4 ++ (p ++ List.replicate (room p.length - (16 + p.length)) 0)) ++ (frames (x + 1) r ++ rest))).drop 4 = be x 8 ++ ((be (sumOf x p).toNat 4 ++ (p ++ List.replicate (room p.length - (16 + p.length)) 0)) ++ (frames (x + 1) r ++ rest)) := by
        rw [List.drop_left' (be_len _ _), List.append_assoc]
      rw [this]
      exact pre_be8 x (by omega) _
    unfold beginsS
    rw [if_neg (by omega), hpre, if_neg (by omega)]
    have := next_frame [] (frames (x + 1) r ++ rest) p x hp.2
    simp only [List.nil_append, List.length_nil] at this
    rw [e1]
    rw [show ((0 : Nat) : Int) = 0 from rfl] at this
    rw [this]
    rfl
theorem read_again {l : LogS} {k : Int} {f : FoundS} {b : List Int} (hb : byteOk b) (hl : b.length ≤ 1048576) (hn : 0 ≤ l.2.2.2.2.1 ∧ l.2.2.2.2.1 ≤ 2305843009213693952) :
    ∃ u : Nat, (readS l k f b).1.2.2.2.1 = l.2.2.2.1 ++ [(k, (u : Int), (((readS l k f b).1.2.2.2.1.getD l.2.2.2.1.length (0, 0, 0, ())).2.2.1), ())] ∧ u ≤ b.length ∧ ((readS l k f b).2.2.2.2.1 = decide (u < b.length)) ∧
      ∃ fst : Int, readS l k f (b.take u) = ((readS l k f b).1, ((readS l k f b).2.1, fst, (readS l k f b).2.2.2.1, false, f.2.2.2.2)) ∧ ((readS l k f b).2.2.2.1 = true → fst = (readS l k f b).2.2.1) ∧ ((readS l k f b).2.2.2.1 = false → u = 0) := by
  have hbg := begins_rng b hb
  by_cases h1 : f.2.2.1 = true
  ·
    obtain ⟨n, hn'⟩ := Int.eq_ofNat_of_zero_le hn.1
    obtain ⟨ls, rest, g1, g2, g3, g4⟩ := scanS_parts b hb hl n (by omega)
    have hh : ∀ t, headS l f t = (f.2.1, f.2.2.1, l.2.2.2.2.1) := fun t => by
      unfold headS
      rw [if_neg (by rw [h1]; simp)]
    have htk : b.take (lenF ls) = frames n ls := by
      conv => lhs; rw [g2]
      rw [← frames_len n ls, List.take_left]
    have hul : lenF ls ≤ b.length := by rw [g2, List.length_append, frames_len]; omega
    refine ⟨lenF ls, ?_, hul, ?_, f.2.1, ?_, ?_, ?_⟩
    · unfold readS
      rw [hh]
      simp only [h1, if_true, hn', g3]
      simp
    · unfold readS
      rw [hh]
      simp only [h1, if_true, hn', g3]
      exact decide_eq_decide.2 (by omega)
    · rw [htk]
      unfold readS
      rw [hh, hh]
      simp only [h1, if_true, hn', g3, g4]
      rw [frames_len]
      simp
    · intro _
      unfold readS
      rw [hh]
      simp only [h1, if_true]
    · intro h
      unfold readS at h
      rw [hh] at h
      simp only [h1, if_true] at h
      exact absurd h (by decide)
  · have h1' : f.2.2.1 = false := by simpa using h1
    by_cases h2 : b = []
    · subst h2
      have hh : headS l f [] = (f.2.1, f.2.2.1, l.2.2.2.2.1) := by
        unfold headS
        rw [if_neg (by simp)]
      refine ⟨0, ?_, by simp, ?_, f.2.1, ?_, ?_, ?_⟩
      · unfold readS
        rw [hh]
        simp [h1']
      · unfold readS
        rw [hh]
        simp [h1']
      · rw [List.take_nil]
        unfold readS
        rw [hh]
        simp [h1']
      · intro h
        unfold readS at h
        rw [hh] at h
        simp [h1'] at h
      · intro _; rfl
    · have hh : headS l f b = ((beginsS b).1, (beginsS b).2, if (beginsS b).2 = true then (beginsS b).1 else l.2.2.2.2.1) := by
        unfold headS
        rw [if_pos ⟨h1', h2⟩]
      by_cases h3 : (beginsS b).2 = true
      · obtain ⟨x, hx⟩ := Int.eq_ofNat_of_zero_le hbg.1
        obtain ⟨ls, rest, g1, g2, g3, g4⟩ := scanS_parts b hb hl x (by omega)
        have hne : ls ≠ [] := fun e => by
          subst e
          have hw : (nextAns b 0 (beginsS b).1).2.2 = 1 := by
            have := h3
            unfold beginsS at this ⊢
            split at this
            · cases this
            · rename_i c1
              rw [if_neg c1]
              split at this
              · cases this
              · rename_i c2
                rw [if_neg c2]
                simpa using this
          have hs : (scanS b x).1 ≠ [] := by
            unfold scanS
            rw [hx] at hw
            rw [show b.length + 2 = (b.length + 1) + 1 from rfl, scanF, if_pos hw]
            split <;> simp
          rw [g3] at hs
          exact hs rfl
        have htk : b.take (lenF ls) = frames x ls := by
          conv => lhs; rw [g2]
          rw [← frames_len x ls, List.take_left]
        have hul : lenF ls ≤ b.length := by rw [g2, List.length_append, frames_len]; omega
        have hbt : beginsS (frames x ls) = ((x : Int), true) := by
          have := frames_begin (x := x) (by omega) g1 hne []
          simpa using this
        have hnz : frames x ls ≠ [] := fun e => by
          have h0 := congrArg List.length e
          rw [frames_len] at h0
          cases ls with
          | nil => exact hne rfl
          | cons p r =>
            have := (room_ge p.length).1
            simp only [lenF, List.map_cons, List.sum_cons, List.length_nil] at h0
            omega
        have hh2 : headS l f (frames x ls) = ((x : Int), true, (x : Int)) := by
          unfold headS
          rw [if_pos ⟨h1', hnz⟩, hbt]
          rfl
        rw [h3, hx] at hh
        simp only [if_true] at hh
        refine ⟨lenF ls, ?_, hul, ?_, (x : Int), ?_, ?_, ?_⟩
        · unfold readS
          rw [hh]
          simp only [if_true, g3]
          simp
        · unfold readS
          rw [hh]
          simp only [if_true, g3]
          exact decide_eq_decide.2 (by omega)
        · rw [htk]
          unfold readS
          rw [hh, hh2]
          simp only [if_true, g3, g4]
          rw [frames_len]
          simp
        · intro _
          unfold readS
          rw [hh]
          simp only [if_true]
        · intro h
          unfold readS at h
          rw [hh] at h
          simp only [if_true] at h
          exact absurd h (by decide)
      · have h3' : (beginsS b).2 = false := by simpa using h3
        rw [h3'] at hh
        simp only [Bool.false_eq_true, if_false] at hh
        have hh2 : headS l f [] = (f.2.1, f.2.2.1, l.2.2.2.2.1) := by
          unfold headS
          rw [if_neg (by simp)]
        refine ⟨0, ?_, by simp, ?_, f.2.1, ?_, ?_, ?_⟩
        · unfold readS
          rw [hh]
          simp
        · unfold readS
          rw [hh]
          simp
        · rw [List.take_zero]
          unfold readS
          rw [hh, hh2]
          simp [h1']
        · intro h
          unfold readS at h
          rw [hh] at h
          simp at h
        · intro _; rfl
end Sx
namespace Sx
open Go
def LastOf (xs : List Int) (last : Int) : Prop := xs.Nodup ∧ (xs = [] ∨ ∃ ys, xs = ys ++ [last])
theorem LastOf.tail {x : Int} {m : List Int} {last : Int} (h : LastOf (x :: m) last) : LastOf m last := by
  refine ⟨(List.nodup_cons.1 h.1).2, ?_⟩
  rcases h.2 with e | ⟨ys, e⟩
  · cases e
  · cases ys with
    | nil => left; simp only [List.nil_append, List.cons.injEq] at e; exact e.2
    | cons y r => right; simp only [List.cons_append, List.cons.injEq] at e; exact ⟨r, e.2⟩
theorem LastOf.ends {m : List Int} {last : Int} (h : LastOf (last :: m) last) : m = [] := by
  rcases h.2 with e | ⟨ys, e⟩
  · cases e
  · cases ys with
    | nil => simp only [List.nil_append, List.cons.injEq] at e; exact e.2
    | cons y r =>
      simp only [List.cons_append, List.cons.injEq] at e
      have := (List.nodup_cons.1 h.1).1
      rw [e.2] at this
      exact absurd (by simp) this
theorem read_torn {l : LogS} {k : Int} {f : FoundS} {b : List Int} : (readS l k f b).1.2.2.2.1.length = l.2.2.2.1.length + 1 := by
  unfold readS
  split <;> simp
theorem read_named {l : LogS} {k : Int} {f : FoundS} {b : List Int} : (readS l k f b).1.2.2.2.1.map (·.1) = l.2.2.2.1.map (·.1) ++ [k] := by
  unfold readS
  split <;> simp
theorem reads_all {fs : List (List Int × FileS)} (nm : List Int) (last : Int) : ∀ (xs : List Int) (s : FoundS × LogS), LastOf xs last → (readsS fs nm last xs s).2.2 = false → (readsS fs nm last xs s).2.1.2.2.2.1.map (·.1) = s.2.2.2.2.1.map (·.1) ++ xs
  | [], s, _, _ => by simp [readsS]
  | x :: m, s, hL, h => by
    simp only [readsS] at h ⊢
    split at h
    · rename_i ht
      rw [if_pos ht]
      have hx : x = last := by simpa using h
      subst hx
      have := hL.ends
      subst this
      exact read_named
    · rename_i ht
      rw [if_neg ht, reads_all nm last m _ hL.tail h, read_named]
      simp
theorem head_any {l : LogS} {f : FoundS} {b : List Int} (h : f.2.2.1 = true) : (headS l f b).2.1 = true := by
  unfold headS
  rw [if_neg (by rw [h]; simp)]
  exact h
theorem read_any {l : LogS} {k : Int} {f : FoundS} {b : List Int} : (readS l k f b).2.2.2.1 = (headS l f b).2.1 := by
  unfold readS
  split <;> rfl
theorem any_mono {fs : List (List Int × FileS)} (nm : List Int) (last : Int) : ∀ (xs : List Int) (s : FoundS × LogS), s.1.2.2.1 = true → (readsS fs nm last xs s).1.2.2.1 = true
  | [], s, h => h
  | x :: m, s, h => by
    simp only [readsS]
    split
    · exact read_any.trans (head_any h)
    · exact any_mono nm last m _ (read_any.trans (head_any h))
theorem any_seen {fs : List (List Int × FileS)} (nm : List Int) (last : Int) : ∀ (xs : List Int) (s : FoundS × LogS), s.1.2.2.1 = false → (readsS fs nm last xs s).1.2.2.1 = true → ∃ x ∈ xs, seenOf fs (fileN nm x) ≠ []
  | [], s, h, g => by
    simp only [readsS] at g
    rw [h] at g; cases g
  | x :: m, s, h, g => by
    by_cases hx : seenOf fs (fileN nm x) = []
    · have hz : (readS s.2 x s.1 (seenOf fs (fileN nm x))).2.2.2.1 = false := by
        rw [read_any, hx]
        unfold headS
        rw [if_neg (by simp)]
        exact h
      simp only [readsS] at g
      split at g
      · rw [hz] at g; cases g
      · obtain ⟨y, hy, hy2⟩ := any_seen nm last m _ hz g
        exact ⟨y, by simp [hy], hy2⟩
    · exact ⟨x, by simp, hx⟩
theorem none_seen {fs : List (List Int × FileS)} (nm : List Int) (last : Int) : ∀ (xs : List Int) (s : FoundS × LogS), (readsS fs nm last xs s).1.2.2.1 = false → (readsS fs nm last xs s).1.2.2.2.1 = false → ∀ x ∈ xs, seenOf fs (fileN nm x) = []
  | [], s, _, _, x, hx => by cases hx
  | x :: m, s, h, g, y, hy => by
    simp only [readsS] at h g
    split at h
    · rename_i ht
      rw [if_pos ht, ht] at g
      cases g
    · rename_i ht
      rw [if_neg ht] at g
      rcases List.mem_cons.1 hy with rfl | hy
      · have ha : (headS s.2 s.1 (seenOf fs (fileN nm y))).2.1 = false := by
          cases hz : (headS s.2 s.1 (seenOf fs (fileN nm y))).2.1 with
          | false => rfl
          | true =>
            have := any_mono (fs := fs) nm last m ((readS s.2 y s.1 (seenOf fs (fileN nm y))).2, (readS s.2 y s.1 (seenOf fs (fileN nm y))).1) (read_any.trans hz)
            rw [this] at h; cases h
        have : (readS s.2 y s.1 (seenOf fs (fileN nm y))).2.2.2.2.1 = decide (0 < ((seenOf fs (fileN nm y)).length : Int)) := by
          unfold readS
          rw [if_neg (by rw [ha]; decide)]
        rw [this, decide_eq_true_eq] at ht
        exact List.eq_nil_of_length_eq_zero (by omega)
      · exact none_seen nm last m _ h g y hy
theorem read_next {l : LogS} {k : Int} {f : FoundS} {b : List Int} (h : byteOk b) (hl : b.length ≤ 1048576) (hn : 0 ≤ l.2.2.2.2.1 ∧ l.2.2.2.2.1 ≤ 2305843009213693952) : 0 ≤ (readS l k f b).1.2.2.2.2.1 ∧ (readS l k f b).1.2.2.2.2.1 ≤ max l.2.2.2.2.1 1152921504606846976 + 16384 :=
  have := read_bounds (l := l) (k := k) (f := f) h hl hn
  ⟨this.2.1, this.2.2.1⟩
theorem reads_again {fs fs' : List (List Int × FileS)} (nm : List Int) (last : Int) (hb : ∀ x, byteOk (seenOf fs (fileN nm x)) ∧ (seenOf fs (fileN nm x)).length ≤ 1048576) : ∀ (xs : List Int) (s : FoundS × LogS), LastOf xs last → 0 ≤ s.2.2.2.2.2.1 → max s.2.2.2.2.2.1 1152921504606846976 + 16384 * xs.length ≤ 2305843009213693952 → s.1.2.2.2.1 = false →
    (readsS fs nm last xs s).2.2 = false →
    (∀ x ∈ xs, ((readsS fs nm last xs s).1.2.2.2.1 = false ∨ x ≠ last) → seenOf fs' (fileN nm x) = seenOf fs (fileN nm x)) →
    ((readsS fs nm last xs s).1.2.2.2.1 = true → seenOf fs' (fileN nm last) = (seenOf fs (fileN nm last)).take ((readsS fs nm last xs s).2.1.2.2.2.1.getD ((readsS fs nm last xs s).2.1.2.2.2.1.length - 1) (0, 0, 0, ())).2.1.toNat) →
    ∃ fst, readsS fs' nm last xs s = (((readsS fs nm last xs s).1.1, fst, (readsS fs nm last xs s).1.2.2.1, false, ()), (readsS fs nm last xs s).2.1, false) ∧ ((readsS fs nm last xs s).1.2.2.1 = true → fst = (readsS fs nm last xs s).1.2.1)
  | [], s, _, _, _, hs, _, _, _ => by
    refine ⟨s.1.2.1, ?_, fun _ => rfl⟩
    obtain ⟨⟨p, q, r, t, ⟨⟩⟩, l⟩ := s
    simp only [readsS] at hs ⊢
    subst hs
    rfl
  | x :: m, s, hL, h0, h1, hs, hR, hsame, hcut => by
    obtain ⟨hbx, hlx⟩ := hb x
    simp only [List.length_cons] at h1
    obtain ⟨u, hu1, hu2, hu3, fst, hu4, hu5, hu6⟩ := read_again (l := s.2) (k := x) (f := s.1) hbx hlx ⟨h0, by omega⟩
    obtain ⟨n0, n1⟩ := read_next (l := s.2) (k := x) (f := s.1) hbx hlx ⟨h0, by omega⟩
    by_cases ht : (readS s.2 x s.1 (seenOf fs (fileN nm x))).2.2.2.2.1 = true
    · have eR : readsS fs nm last (x :: m) s = ((readS s.2 x s.1 (seenOf fs (fileN nm x))).2, (readS s.2 x s.1 (seenOf fs (fileN nm x))).1, x != last) := by
        simp only [readsS]
        rw [if_pos ht]
      rw [eR] at hR hcut ⊢
      have hx : x = last := by simpa using hR
      subst hx
      have := hL.ends
      subst this
      have hc := hcut ht
      have hg : ((readS s.2 x s.1 (seenOf fs (fileN nm x))).1.2.2.2.1.getD ((readS s.2 x s.1 (seenOf fs (fileN nm x))).1.2.2.2.1.length - 1) (0, 0, 0, ())).2.1 = (u : Int) := by
        rw [read_torn]
        conv => lhs; rw [hu1]
        simp [List.getD]
      dsimp only at hc
      rw [hg, Int.toNat_natCast] at hc
      refine ⟨fst, ?_, hu5⟩
      simp only [readsS]
      rw [hc, hu4]
      rw [if_neg (show ¬ (false = true) by decide)]
    · have ht' : (readS s.2 x s.1 (seenOf fs (fileN nm x))).2.2.2.2.1 = false := by simpa using ht
      have eR : readsS fs nm last (x :: m) s = readsS fs nm last m ((readS s.2 x s.1 (seenOf fs (fileN nm x))).2, (readS s.2 x s.1 (seenOf fs (fileN nm x))).1) := by
        simp only [readsS]
        rw [if_neg ht]
      rw [eR] at hR hcut hsame ⊢
      have hfull : u = (seenOf fs (fileN nm x)).length := by
        rw [ht'] at hu3
        have := of_decide_eq_false hu3.symm
        omega
      have hxs : seenOf fs' (fileN nm x) = seenOf fs (fileN nm x) := by
        by_cases hxl : x = last
        · subst hxl
          have := hL.ends
          subst this
          exact hsame x (by simp) (.inl ht')
        · exact hsame x (by simp) (.inr hxl)
      obtain ⟨g, hg1, hg2⟩ := reads_again nm last hb m ((readS s.2 x s.1 (seenOf fs (fileN nm x))).2, (readS s.2 x s.1 (seenOf fs (fileN nm x))).1) hL.tail n0 (by simp only; omega) ht' hR (fun y hy => hsame y (by simp [hy])) hcut
      refine ⟨g, ?_, hg2⟩
      rw [← hg1]
      simp only [readsS]
      rw [hxs, if_neg ht]
end Sx
namespace Sx
open Go
theorem Off_eq0 (D : DiskS) : disk_Disk_Off D = some D.2.2.2.2.2.1 := rfl
theorem open_args {D : DiskS} {nm : List Int} {mo fi : Int} (hl : nm.length < 4611686018427387904) (h : rightS nm = false ∨ mo < 64 ∨ mo > 1048576 ∨ fi < 0 ∨ fi > 1152921504606846976) :
    wal_Open D nm mo fi = some (noLog, [], 1, D) := by
  unfold wal_Open
  rw [right_eq nm hl, bind_eq]
  rw [bnd_eq, bnd_eq, bnd_eq, bnd_eq]
  rw [if_pos]
  · simp only [Bool.or_eq_true, Bool.not_eq_true', decide_eq_true_eq]
    rcases h with h | h | h | h | h
    · exact .inl (.inl (.inl (.inl h)))
    · exact .inl (.inl (.inl (.inr h)))
    · exact .inl (.inl (.inr h))
    · exact .inl (.inr h)
    · exact .inr h
def NamesOk (fs : List (List Int × FileS)) : Prop := ∀ f ∈ fs.map (·.1), byteOk f ∧ f.length < 4611686018427387904
theorem ar1 {a b c n : Int} {m : Nat} (h : a ≤ max b c + 16384) : a ≤ max b c + 16384 * (((m + 1 : Nat)) : Int) := by omega
theorem ar2 {a b m : Nat} (h : a ≤ b + 16384) : a ≤ b + 16384 * (m + 1) := Nat.le_trans h (Nat.add_le_add_left (Nat.le_mul_of_pos_right 16384 (Nat.succ_pos m)) b)
theorem ar3 {a b c d : Int} {m : Nat} (h : a ≤ max d c + 16384 * (m : Int)) (g : d ≤ max b c + 16384) : a ≤ max b c + 16384 * (((m + 1 : Nat)) : Int) := by omega
theorem ar4 {a b d m : Nat} (h : a ≤ d + 16384 * m) (g : d ≤ b + 16384) : a ≤ b + 16384 * (m + 1) := by
  rw [Nat.mul_succ]
  generalize 16384 * m = t at *
  omega
theorem ar5 {b c d T : Int} {m : Nat} (h : max b c + 16384 * (((m + 1 : Nat)) : Int) ≤ T) (g : d ≤ max b c + 16384) : max d c + 16384 * (m : Int) ≤ T := by omega
theorem reads_bounds {fs : List (List Int × FileS)} {nm : List Int} {last : Int} (hb : ∀ x, byteOk (seenOf fs (fileN nm x)) ∧ (seenOf fs (fileN nm x)).length ≤ 1048576) : ∀ (xs : List Int) (s : FoundS × LogS), 0 ≤ s.2.2.2.2.2.1 → max s.2.2.2.2.2.1 1152921504606846976 + 16384 * xs.length ≤ 2305843009213693952 →
    0 ≤ (readsS fs nm last xs s).2.1.2.2.2.2.1 ∧ (readsS fs nm last xs s).2.1.2.2.2.2.1 ≤ max s.2.2.2.2.2.1 1152921504606846976 + 16384 * xs.length ∧ (readsS fs nm last xs s).1.1.length ≤ s.1.1.length + 16384 * xs.length ∧ (readsS fs nm last xs s).2.1.2.2.2.1.length ≤ s.2.2.2.2.1.length + xs.length
  | [], s, h0, h1 => by
    refine ⟨h0, ?_, ?_, ?_⟩
    · show s.2.2.2.2.2.1 ≤ _
      omega
    · exact Nat.le_refl _
    · exact Nat.le_refl _
  | x :: m, s, h0, h1 => by
    obtain ⟨hbx, hlx⟩ := hb x
    rw [List.length_cons] at h1 ⊢
    have h2 : s.2.2.2.2.2.1 ≤ 2305843009213693952 := by omega
    have hB := read_bounds (l := s.2) (k := x) (f := s.1) hbx hlx ⟨h0, h2⟩
    have e : readsS fs nm last (x :: m) s = if (readS s.2 x s.1 (seenOf fs (fileN nm x))).2.2.2.2.1 = true then ((readS s.2 x s.1 (seenOf fs (fileN nm x))).2, (readS s.2 x s.1 (seenOf fs (fileN nm x))).1, x != last)
      else readsS fs nm last m ((readS s.2 x s.1 (seenOf fs (fileN nm x))).2, (readS s.2 x s.1 (seenOf fs (fileN nm x))).1) := rfl
    rw [e]
    clear e
    revert hB
    generalize readS s.2 x s.1 (seenOf fs (fileN nm x)) = q
    rintro ⟨b1, b2, b3, b4, b5⟩
    by_cases ht : q.2.2.2.2.1 = true
    · rw [if_pos ht]
      exact ⟨b2, ar1 (n := 0) b3, ar2 b4, by rw [b5]; exact Nat.add_le_add_left (Nat.le_add_left 1 _) _⟩
    · rw [if_neg ht]
      have ih := reads_bounds (nm := nm) (last := last) hb m (q.2, q.1) b2 (ar5 h1 b3)
      revert ih
      generalize readsS fs nm last m (q.2, q.1) = R
      rintro ⟨c1, c2, c3, c4⟩
      exact ⟨c1, ar3 c2 b3, ar4 c3 b4, by rw [b5] at c4; rw [Nat.add_comm m.length 1, ← Nat.add_assoc]; exact c4⟩
theorem seen_ok {fs : List (List Int × FileS)} (hok : FsOk fs) (k : List Int) : byteOk (seenOf fs k) ∧ (seenOf fs k).length ≤ 1048576 := by
  unfold seenOf
  cases hg : pget .str k fs with
  | none => exact ⟨fun x hx => (by cases hx), Nat.zero_le _⟩
  | some f => exact ⟨(hok.get hg).1, (hok.get hg).2.2.1⟩
theorem reads_nums {fs : List (List Int × FileS)} {nm : List Int} {last : Int} {xs : List Int} {s : FoundS × LogS} (hs : s.2.2.2.2.1 = []) (P : Int → Prop) (hx : ∀ x ∈ xs, P x) : ∀ t ∈ (readsS fs nm last xs s).2.1.2.2.2.1, P t.1 := by
  obtain ⟨ys, hp, he⟩ := reads_files (fs := fs) nm last xs s
  rw [hs] at he
  intro t ht
  have : t.1 ∈ (readsS fs nm last xs s).2.1.2.2.2.1.map (·.1) := List.mem_map_of_mem ht
  rw [he] at this
  simp only [List.map_nil, List.nil_append] at this
  exact hx _ (hp.subset this)
theorem torn_files {fs : List (List Int × FileS)} (nm : List Int) (last : Int) : ∀ (xs : List Int) (s : FoundS × LogS), s.1.2.2.2.1 = false → (readsS fs nm last xs s).1.2.2.2.1 = true →
    (readsS fs nm last xs s).2.1.2.2.2.1 ≠ []
  | [], s, h, g => by
    simp only [readsS] at g
    rw [h] at g; cases g
  | x :: m, s, h, g => by
    simp only [readsS] at g ⊢
    by_cases ht : (readS s.2 x s.1 (seenOf fs (fileN nm x))).2.2.2.2.1 = true
    · rw [if_pos ht]
      intro e
      have := @read_torn s.2 x s.1 (seenOf fs (fileN nm x))
      dsimp only at e
      rw [e] at this
      simp at this
    · rw [if_neg ht] at g ⊢
      exact torn_files nm last m _ (by simpa using ht) g
end Sx
namespace Sx
open Go
theorem checkS_up : ∀ (xs : List Int) (s t : Int), 0 ≤ s → checkS xs s = some t → (∀ y ∈ xs, s < y) ∧ xs.Nodup ∧ (xs = [] ∨ ∃ ys, xs = ys ++ [t])
  | [], s, t, _, h => ⟨fun y hy => (by cases hy), List.nodup_nil, .inl rfl⟩
  | x :: m, s, t, h0, h => by
    simp only [checkS] at h
    split at h
    · cases h
    · rename_i hc
      have hx : x = s + 1 := by omega
      obtain ⟨g1, g2, g3⟩ := checkS_up m x t (by omega) h
      refine ⟨fun y hy => ?_, List.nodup_cons.2 ⟨fun hm => by have := g1 x hm; omega, g2⟩, .inr ?_⟩
      · rcases List.mem_cons.1 hy with rfl | hy
        · omega
        · have := g1 y hy; omega
      · rcases g3 with rfl | ⟨ys, rfl⟩
        · refine ⟨[], ?_⟩
          simp only [checkS, Option.some.injEq] at h
          rw [h]; rfl
        · exact ⟨x :: ys, rfl⟩
theorem checkS_last {xs : List Int} {t : Int} (hx : ∀ y ∈ xs, 0 ≤ y) (h : checkS xs (-1) = some t) : LastOf xs t := by
  cases xs with
  | nil => exact ⟨List.nodup_nil, .inl rfl⟩
  | cons x m =>
    have h0 := hx x (by simp)
    simp only [checkS] at h
    rw [if_neg (by omega)] at h
    obtain ⟨g1, g2, g3⟩ := checkS_up m x t h0 h
    refine ⟨List.nodup_cons.2 ⟨fun hm => by have := g1 x hm; omega, g2⟩, .inr ?_⟩
    rcases g3 with rfl | ⟨ys, rfl⟩
    · refine ⟨[], ?_⟩
      simp only [checkS, Option.some.injEq] at h
      rw [h]; rfl
    · exact ⟨x :: ys, rfl⟩
theorem nums_rng {D : DiskS} {nm : List Int} : ∀ x ∈ numsOf D nm, 0 ≤ x ∧ x ≤ 9999999 := fun x hx => (numsOf_mem.1 hx).1
theorem cut_calm {D : DiskS} {R : FoundS × LogS × Bool} (hc : Calm D) (hu : ∀ f, pget .str (fileN R.2.1.2.1 ((R.2.1.2.2.2.1.getD (R.2.1.2.2.2.1.length - 1) (0, 0, 0, ())).1)) D.2.1 = some f → 0 ≤ (R.2.1.2.2.2.1.getD (R.2.1.2.2.2.1.length - 1) (0, 0, 0, ())).2.1 ∧ (R.2.1.2.2.2.1.getD (R.2.1.2.2.2.1.length - 1) (0, 0, 0, ())).2.1 ≤ f.1.length) : Calm (cutD D R) := by
  unfold cutD
  split
  · split
    · rename_i f hf
      exact (Trunc_calm hc hf (hu f hf).1 (hu f hf).2).2
    · exact hc
  · exact hc
theorem cut_keys (D : DiskS) (R : FoundS × LogS × Bool) : (cutD D R).2.1.map (·.1) = D.2.1.map (·.1) := by
  unfold cutD
  split
  · split
    · exact pset_keys _ _ _
    · rfl
  · rfl
theorem torn_size {fs : List (List Int × FileS)} {nm : List Int} {last : Int} (hb : ∀ x, byteOk (seenOf fs (fileN nm x)) ∧ (seenOf fs (fileN nm x)).length ≤ 1048576) : ∀ (xs : List Int) (s : FoundS × LogS), 0 ≤ s.2.2.2.2.2.1 → max s.2.2.2.2.2.1 1152921504606846976 + 16384 * xs.length ≤ 2305843009213693952 → s.1.2.2.2.1 = false → (readsS fs nm last xs s).1.2.2.2.1 = true →
    ((readsS fs nm last xs s).2.1.2.2.2.1.getD ((readsS fs nm last xs s).2.1.2.2.2.1.length - 1) (0, 0, 0, ())).1 ∈ xs ∧ ∃ u : Nat, ((readsS fs nm last xs s).2.1.2.2.2.1.getD ((readsS fs nm last xs s).2.1.2.2.2.1.length - 1) (0, 0, 0, ())).2.1 = (u : Int) ∧ u ≤ (seenOf fs (fileN nm ((readsS fs nm last xs s).2.1.2.2.2.1.getD ((readsS fs nm last xs s).2.1.2.2.2.1.length - 1) (0, 0, 0, ())).1)).length
  | [], s, _, _, h, g => by
    simp only [readsS] at g
    rw [h] at g; cases g
  | x :: m, s, h0, h1, h, g => by
    obtain ⟨hbx, hlx⟩ := hb x
    rw [List.length_cons] at h1
    have h2 : s.2.2.2.2.2.1 ≤ 2305843009213693952 := by omega
    have hB := read_next (l := s.2) (k := x) (f := s.1) hbx hlx ⟨h0, h2⟩
    obtain ⟨u, hu1, hu2, _⟩ := read_again (l := s.2) (k := x) (f := s.1) hbx hlx ⟨h0, h2⟩
    have e : readsS fs nm last (x :: m) s = if (readS s.2 x s.1 (seenOf fs (fileN nm x))).2.2.2.2.1 = true then ((readS s.2 x s.1 (seenOf fs (fileN nm x))).2, (readS s.2 x s.1 (seenOf fs (fileN nm x))).1, x != last)
      else readsS fs nm last m ((readS s.2 x s.1 (seenOf fs (fileN nm x))).2, (readS s.2 x s.1 (seenOf fs (fileN nm x))).1) := rfl
    rw [e] at g ⊢
    clear e
    by_cases ht : (readS s.2 x s.1 (seenOf fs (fileN nm x))).2.2.2.2.1 = true
    · rw [if_pos ht]
      have h2 := @read_torn s.2 x s.1 (seenOf fs (fileN nm x))
      have hg : (readS s.2 x s.1 (seenOf fs (fileN nm x))).1.2.2.2.1.getD ((readS s.2 x s.1 (seenOf fs (fileN nm x))).1.2.2.2.1.length - 1) (0, 0, 0, ()) = (x, (u : Int), ((readS s.2 x s.1 (seenOf fs (fileN nm x))).1.2.2.2.1.getD s.2.2.2.2.1.length (0, 0, 0, ())).2.2.1, ()) := by
        rw [h2]
        conv => lhs; rw [hu1]
        simp [List.getD]
      dsimp only
      rw [hg]
      exact ⟨List.mem_cons_self, u, rfl, hu2⟩
    · rw [if_neg ht] at g ⊢
      obtain ⟨a, b⟩ := torn_size hb m ((readS s.2 x s.1 (seenOf fs (fileN nm x))).2, (readS s.2 x s.1 (seenOf fs (fileN nm x))).1) hB.1 (ar5 h1 hB.2) (by simpa using ht) g
      exact ⟨List.mem_cons_of_mem _ a, b⟩
theorem open_gap {D : DiskS} {nm : List Int} {mo fi : Int} (hc : Calm D) (hks : NamesOk D.2.1) (hr : rightS nm = true) (hmo : 64 ≤ mo ∧ mo ≤ 1048576) (hfi : 0 ≤ fi ∧ fi ≤ 1152921504606846976) (hR : reading D nm mo fi = none) :
    wal_Open D nm mo fi = some (noLog, [], 60, D) := by
  have hl : nm.length ≤ 24 := by
    unfold rightS at hr
    rw [Bool.and_eq_true, decide_eq_true_eq] at hr
    exact hr.2
  have hk : checkS (numsOf D nm) (-1) = none := by
    unfold reading at hR
    simpa using hR
  unfold wal_Open
  rw [right_eq nm (by omega), bind_eq]
  rw [bnd_eq, bnd_eq, bnd_eq, bnd_eq]
  rw [if_neg (by rw [hr]; simp; omega), Off_eq0, bind_eq, hc.2.1, if_neg (by decide)]
  rw [bnd_eq, numbers_eq _ hl hc.1 hc.2.1 hks, bind_eq]
  refine (l2_eq D nm mo fi _ _ _ (fun x hx => nums_rng (D := D) (nm := nm) x hx) (by omega) (by omega)).trans ?_
  change (match checkS (numsOf D nm) (-1) with | none => _ | some t => _) = _
  rw [hk]
structure ReadOk (D : DiskS) (nm : List Int) (R : FoundS × LogS × Bool) : Prop where
  name : R.2.1.2.1 = nm
  inv : InvR R.1 R.2.1
  next : 0 ≤ R.2.1.2.2.2.2.1 ∧ R.2.1.2.2.2.2.1 ≤ 1152921504607109120
  pays : R.1.1.length ≤ 262144
  segs : R.2.1.2.2.2.1.length ≤ 16
  nums : ∀ t ∈ R.2.1.2.2.2.1, (0 ≤ t.1 ∧ t.1 ≤ 9999999) ∧ (pget .str (fileN nm t.1) D.2.1).isSome = true
  torn : R.1.2.2.2.1 = true → R.2.1.2.2.2.1 ≠ [] ∧ ∃ f, pget .str (fileN nm (R.2.1.2.2.2.1.getD (R.2.1.2.2.2.1.length - 1) (0, 0, 0, ())).1) D.2.1 = some f ∧ 0 ≤ (R.2.1.2.2.2.1.getD (R.2.1.2.2.2.1.length - 1) (0, 0, 0, ())).2.1 ∧ (R.2.1.2.2.2.1.getD (R.2.1.2.2.2.1.length - 1) (0, 0, 0, ())).2.1 ≤ (f.1.length : Int)
theorem reading_ok {D : DiskS} {nm : List Int} {mo fi : Int} {R : FoundS × LogS × Bool} (hok : FsOk D.2.1) (hfi : 0 ≤ fi ∧ fi ≤ 1152921504606846976) (hR : reading D nm mo fi = some R) : ReadOk D nm R := by
  unfold reading at hR
  rw [Option.map_eq_some_iff] at hR
  obtain ⟨last, hk, rfl⟩ := hR
  have hn := numsOf_len hok nm
  have hb := fun x => seen_ok hok (fileN nm x)
  have hmax : max fi 1152921504606846976 = 1152921504606846976 := by omega
  have h1 : max fi 1152921504606846976 + 16384 * ((numsOf D nm).length : Int) ≤ 2305843009213693952 := by rw [hmax]; omega
  have hbd := reads_bounds (fs := D.2.1) (nm := nm) (last := last) hb (numsOf D nm) (([], 0, false, false, ()), log0 nm mo fi) hfi.1 h1
  have hts := torn_size (fs := D.2.1) (nm := nm) (last := last) hb (numsOf D nm) (([], 0, false, false, ()), log0 nm mo fi) hfi.1 h1 rfl
  have htf := torn_files (fs := D.2.1) nm last (numsOf D nm) (([], 0, false, false, ()), log0 nm mo fi) rfl
  obtain ⟨b1, b2, b3, b4⟩ := hbd
  have hP : ∀ x ∈ numsOf D nm, (0 ≤ x ∧ x ≤ 9999999) ∧ (pget .str (fileN nm x) D.2.1).isSome = true := fun x hx => ⟨(numsOf_mem.1 hx).1, mem_some (numsOf_mem.1 hx).2⟩
  refine ⟨reads_name nm last _ _, reads_inv nm last _ _ ⟨fun h => (by cases h), fun _ => rfl⟩, ⟨b1, ?_⟩, ?_, ?_, reads_nums rfl _ hP, fun ht => ⟨htf ht, ?_⟩⟩
  · refine Int.le_trans b2 ?_
    show max fi _ + _ ≤ _
    rw [hmax]; omega
  · refine Nat.le_trans b3 ?_
    show 0 + 16384 * (numsOf D nm).length ≤ _
    omega
  · refine Nat.le_trans b4 ?_
    show 0 + (numsOf D nm).length ≤ _
    omega
  · obtain ⟨c1, u, c2, c3⟩ := hts ht
    obtain ⟨f, hf⟩ := Option.isSome_iff_exists.1 (hP _ c1).2
    refine ⟨f, hf, by rw [c2]; omega, ?_⟩
    rw [c2]
    have : seenOf D.2.1 (fileN nm ((readsS D.2.1 nm last (numsOf D nm) (([], 0, false, false, ()), log0 nm mo fi)).2.1.2.2.2.1.getD ((readsS D.2.1 nm last (numsOf D nm) (([], 0, false, false, ()), log0 nm mo fi)).2.1.2.2.2.1.length - 1) (0, 0, 0, ())).1) = f.1 := by unfold seenOf; rw [hf]; rfl
    rw [this] at c3
    omega
end Sx
namespace Sx
open Go
theorem file_names {D : DiskS} {nm : List Int} {R : FoundS × LogS × Bool} (h : ReadOk D nm R) : ∀ t ∈ R.2.1.2.2.2.1, rng .i64 t.1 := fun t ht => by
  have := (h.nums t ht).1
  simp only [rng, lo, Sx.hi]; omega
theorem cut_some {D : DiskS} {nm : List Int} {R : FoundS × LogS × Bool} (h : ReadOk D nm R) : ∀ t ∈ R.2.1.2.2.2.1, (pget .str (fileN R.2.1.2.1 t.1) (cutD D R).2.1).isSome = true := fun t ht => by
  rw [some_keys (cut_keys D R), h.name]
  exact (h.nums t ht).2
theorem cut_calm2 {D : DiskS} {nm : List Int} {R : FoundS × LogS × Bool} (hc : Calm D) (h : ReadOk D nm R) : Calm (cutD D R) := by
  cases ht : R.1.2.2.2.1 with
  | false =>
    unfold cutD
    rw [if_neg (by rw [ht]; decide)]
    exact hc
  | true =>
    obtain ⟨_, f, hf, h0, h1⟩ := h.torn ht
    refine cut_calm hc fun g hg => ?_
    rw [h.name, hf] at hg
    obtain rfl := Option.some.inj hg
    exact ⟨h0, h1⟩
theorem syncAll_calm : ∀ (names : List (List Int)) {D : DiskS}, Calm D → Calm (withFs D (syncAll D.2.1 names))
  | [], D, h => h
  | n :: r, D, h => by
    have h1 : Calm (withFs D (sync1 D.2.1 n)) := by
      unfold sync1
      cases hg : pget .str n D.2.1 with
      | none => exact h
      | some f => exact h.sync hg
    exact syncAll_calm r h1
theorem done_calm {D : DiskS} {nm : List Int} {R : FoundS × LogS × Bool} (hc : Calm D) (h : ReadOk D nm R) : Calm (doneD D R) := syncAll_calm _ (cut_calm2 hc h)
theorem done_keys (D : DiskS) (R : FoundS × LogS × Bool) : (doneD D R).2.1.map (·.1) = D.2.1.map (·.1) := by
  unfold doneD
  exact (syncAll_keys _ _).trans (cut_keys D R)
theorem open_mid {D : DiskS} {nm : List Int} {mo fi : Int} {R : FoundS × LogS × Bool} (hc : Calm D) (hks : NamesOk D.2.1) (hl : nm.length ≤ 24) (hfi : 0 ≤ fi ∧ fi ≤ 1152921504606846976) (hR : reading D nm mo fi = some R) (d : Bool) (hd : d = true ↔ refusedS R fi)
    (v : FoundS × LogS × Bool → Bool → Option ((Int × LogS) × List (List Int) × Int × DiskS)) :
    wal_Open_l2 D nm mo fi (fun o14 => bnd (fun o18 : FoundS × LogS × Bool => bnd (fun o23 : Bool => v o18 o23) fun k22 => if o18.2.2 = true then k22 true else (bnd (fun o26 : Bool => k22 o26) fun k25 => if o18.1.2.2.1 = true then (bnd (decide (o18.1.2.1 > fi)) fun b27 => k25 (b27 || decide (o18.2.1.2.2.2.2.1 < fi))) else k25 false)) fun k17 => (wal_Log_numbers_1 o14.1 D).bind fun xs63 => wal_Open_l1 D o14 k17 xs63 (([], 0, false, false, ()), o14.1)) (numsOf D nm) (-1) = v R d := by
  have hn := numsOf_len hc.1 nm
  unfold reading at hR
  rw [Option.map_eq_some_iff] at hR
  obtain ⟨last, hk, hR⟩ := hR
  have hmax : max fi 1152921504606846976 = 1152921504606846976 := by omega
  have hx : ∀ x ∈ numsOf D nm, rng .i64 x ∧ (pget .str (fileN nm x) D.2.1).isSome = true := fun x hx => by
    have := (numsOf_mem.1 hx).1
    exact ⟨by simp only [rng, lo, Sx.hi]; omega, mem_some (numsOf_mem.1 hx).2⟩
  refine (l2_eq D nm mo fi _ _ _ (fun x hx => nums_rng (D := D) (nm := nm) x hx) (by omega) (by omega)).trans ?_
  rw [hk]
  dsimp only
  rw [bnd_eq]
  have hnum := numbers_eq (log0 nm mo fi) hl hc.1 hc.2.1 hks
  unfold log0 at hnum
  rw [hnum, bind_eq]
  refine (l1_eq hl hc.1 hc.2.1 _ _ _ (([], 0, false, false, ()), log0 nm mo fi) hx rfl hfi.1 ?_ ?_ ?_).trans ?_
  · show fi + 16384 * ((numsOf D nm).length : Int) ≤ _
    omega
  · show 0 + 16384 * (numsOf D nm).length ≤ _
    omega
  · show 0 + (numsOf D nm).length ≤ _
    omega
  change bnd (fun o23 => v (readsS D.2.1 nm last (numsOf D nm) (([], 0, false, false, ()), log0 nm mo fi)) o23) _ = _
  rw [hR, bnd_eq]
  have e : ∀ b, b = d → v R b = v R d := fun b hb => by rw [hb]
  by_cases h1 : R.2.2 = true
  · rw [if_pos h1]
    exact e _ (hd.2 (.inl h1)).symm
  · rw [if_neg h1, bnd_eq]
    by_cases h2 : R.1.2.2.1 = true
    · rw [if_pos h2, bnd_eq]
      refine e _ ?_
      rw [Bool.eq_iff_iff, hd, Bool.or_eq_true, decide_eq_true_eq, decide_eq_true_eq]
      unfold refusedS
      exact ⟨fun h => .inr ⟨h2, h⟩, fun h => h.elim (fun h => absurd h h1) (fun h => h.2)⟩
    · rw [if_neg h2]
      refine e _ ?_
      rw [Bool.eq_iff_iff, hd]
      unfold refusedS
      exact ⟨fun h => (by cases h), fun h => h.elim (fun h => absurd h h1) (fun h => absurd h.1 h2)⟩
theorem open_read {D : DiskS} {nm : List Int} {mo fi : Int} {R : FoundS × LogS × Bool} (hc : Calm D) (hks : NamesOk D.2.1) (hr : rightS nm = true) (hmo : 64 ≤ mo ∧ mo ≤ 1048576) (hfi : 0 ≤ fi ∧ fi ≤ 1152921504606846976) (hR : reading D nm mo fi = some R) :
    (refusedS R fi → wal_Open D nm mo fi = some (noLog, [], 60, D)) ∧ (¬ refusedS R fi → wal_Open D nm mo fi = some ((0, R.2.1), told R fi, 0, doneD D R)) := by
  have hl : nm.length ≤ 24 := by
    unfold rightS at hr
    rw [Bool.and_eq_true, decide_eq_true_eq] at hr
    exact hr.2
  have hO := reading_ok hc.1 hfi hR
  have hn := numsOf_len hc.1 nm
  unfold wal_Open
  rw [right_eq nm (by omega), bind_eq]
  rw [bnd_eq, bnd_eq, bnd_eq, bnd_eq]
  rw [if_neg (by rw [hr]; simp; omega), Off_eq0, bind_eq, hc.2.1, if_neg (by decide)]
  rw [bnd_eq, numbers_eq _ hl hc.1 hc.2.1 hks, bind_eq]
  constructor
  · intro hf
    refine (open_mid (mo := mo) hc hks hl hfi hR true ⟨fun _ => hf, fun _ => rfl⟩ _).trans ?_
    rfl
  · intro hf
    refine (open_mid (mo := mo) hc hks hl hfi hR false ⟨fun h => (by cases h), fun h => absurd h hf⟩ _).trans ?_
    rw [if_neg (by decide)]
    suffices hs : ∀ k : DiskS → Option ((Int × LogS) × List (List Int) × Int × DiskS), k (cutD D R) = some ((0, R.2.1), told R fi, 0, doneD D R) → (bnd k fun k28 => if R.1.2.2.2.1 = true then (if (0 : Int) ≤ (IntKind.wrap .i64 ((List.length R.2.1.2.2.2.1 : Int) - 1)) ∧ (IntKind.wrap .i64 ((List.length R.2.1.2.2.2.1 : Int) - 1)) < (List.length R.2.1.2.2.2.1 : Int) then ((wal_Log_file R.2.1 ((List.getD R.2.1.2.2.2.1 (Int.toNat (IntKind.wrap .i64 ((List.length R.2.1.2.2.2.1 : Int) - 1))) (0, 0, 0, ())).1)).bind fun (r53 : List Int) => (disk_Disk_Truncate D r53 ((List.getD R.2.1.2.2.2.1 (Int.toNat (IntKind.wrap .i64 ((List.length R.2.1.2.2.2.1 : Int) - 1))) (0, 0, 0, ())).2.1)).bind fun (r54 : Int × DiskS) => if (r54.1 != 0) = true then (some ((1, ((), [], 0, [], 0, false, ())), [], r54.1, r54.2)) else (k28 r54.2)) else none) else (k28 D)) = some ((0, R.2.1), told R fi, 0, doneD D R) by
      refine hs _ ?_
      have hcc := cut_calm2 hc hO
      have hnx := hO.next
      have hpy := hO.pays
      have hsg := hO.segs
      have hdone : withFs (cutD D R) (syncAll (cutD D R).2.1 ((R.2.1.2.2.2.1.drop 0).map fun s => fileN R.2.1.2.1 s.1)) = doneD D R := rfl
      rw [bnd_eq]
      rw [show Int.toNat ((List.length R.2.1.2.2.2.1 : Int) - 0) = R.2.1.2.2.2.1.length by omega]
      refine (l0_eq R (by rw [hO.name]; exact hl) (file_names hO) (by omega) _ R.2.1.2.2.2.1.length 0 (cutD D R) (by omega) hcc (cut_some hO)).trans ?_
      rw [hdone, bnd_eq]
      unfold told
      unfold refusedS at hf
      by_cases h2 : R.1.2.2.1 = true
      · rw [if_pos h2, if_pos h2]
        have hv := hO.inv.1 h2
        have h3 : R.1.2.1 ≤ fi ∧ fi ≤ R.2.1.2.2.2.2.1 := by
          refine ⟨?_, ?_⟩
          · exact Int.not_lt.1 fun h => hf (.inr ⟨h2, .inl h⟩)
          · exact Int.not_lt.1 fun h => hf (.inr ⟨h2, .inr h⟩)
        have hw : IntKind.wrap .i64 (fi - R.1.2.1) = fi - R.1.2.1 := wrap_id (by simp only [rng, lo, Sx.hi]; omega)
        rw [hw, if_pos (by omega), Int.toNat_natCast, List.take_length]
        dsimp only
        rw [cloneS_eq (by simp only [List.length_drop]; omega), bind_eq]
      · rw [if_neg h2, if_neg h2]
        dsimp only
        rw [cloneS_eq (by omega), bind_eq]
    intro k hk
    rw [bnd_eq]
    cases ht : R.1.2.2.2.1 with
    | false =>
      rw [if_neg (by decide)]
      unfold cutD at hk
      rw [if_neg (by rw [ht]; decide)] at hk
      exact hk
    | true =>
      obtain ⟨hne, f, hf, h0, h1⟩ := hO.torn ht
      have hlen : 0 < R.2.1.2.2.2.1.length := List.length_pos_iff.2 hne
      have hw : IntKind.wrap .i64 ((List.length R.2.1.2.2.2.1 : Int) - 1) = ((R.2.1.2.2.2.1.length - 1 : Nat) : Int) := by
        have := hO.segs
        rw [wrap_id (by simp only [rng, lo, Sx.hi]; omega)]; omega
      have hm : R.2.1.2.2.2.1.getD (R.2.1.2.2.2.1.length - 1) (0, 0, 0, ()) ∈ R.2.1.2.2.2.1 := by
        have hlt : R.2.1.2.2.2.1.length - 1 < R.2.1.2.2.2.1.length := by omega
        simp only [List.getD, List.getElem?_eq_getElem hlt, Option.getD_some]; exact List.getElem_mem hlt
      rw [if_pos rfl, hw, if_pos (by constructor <;> omega), Int.toNat_natCast]
      rw [file_eq R.2.1 _ (by rw [hO.name]; exact hl) (file_names hO _ hm), bind_eq]
      rw [← hO.name] at hf
      rw [(Trunc_calm hc hf h0 h1).1, bind_eq, if_neg (show ¬ (((0 : Int) != 0) = true) by decide)]
      unfold cutD at hk
      rw [if_pos ht, hf] at hk
      exact hk
end Sx
namespace Sx
open Go
theorem fileN_inj {nm : List Int} {x y : Int} (hx : 0 ≤ x ∧ x ≤ 9999999) (hy : 0 ≤ y ∧ y ≤ 9999999) (h : fileN nm x = fileN nm y) : x = y := by
  have h1 : numOf nm (fileN nm x) = some x := numOf_spec.2 ⟨rfl, hx.1, hx.2⟩
  have h2 : numOf nm (fileN nm x) = some y := numOf_spec.2 ⟨h, hy.1, hy.2⟩
  rw [h1] at h2
  exact Option.some.inj h2
theorem get_pset_ne {V : Type} {a b : List Int} (v : V) (h : a ≠ b) : ∀ (l : List (List Int × V)), pget .str b (pset .str a v l) = pget .str b l
  | [] => rfl
  | p :: l => by
    rw [pset_cons, get_cons, get_cons, get_pset_ne v h l]
    by_cases e : p.1 = a
    · rw [if_pos e]
      dsimp only
      rw [if_neg (by rw [e]; exact h), if_neg (by rw [e]; exact h)]
    · rw [if_neg e]
theorem seen_pset {fs : List (List Int × FileS)} {a b : List Int} {f g : FileS} (hg : pget .str a fs = some g) : seenOf (pset .str a f fs) b = if a = b then f.1 else seenOf fs b := by
  unfold seenOf
  by_cases h : a = b
  · subst h
    rw [if_pos rfl, get_pset hg]; rfl
  · rw [if_neg h, get_pset_ne f h]
theorem seen_sync1 (fs : List (List Int × FileS)) (a b : List Int) : seenOf (sync1 fs a) b = seenOf fs b := by
  unfold sync1
  cases hg : pget .str a fs with
  | none => rfl
  | some f =>
    dsimp only
    rw [seen_pset hg]
    by_cases h : a = b
    · subst h
      rw [if_pos rfl]
      unfold seenOf
      rw [hg]; rfl
    · rw [if_neg h]
theorem seen_syncAll : ∀ (names : List (List Int)) (fs : List (List Int × FileS)) (b : List Int), seenOf (syncAll fs names) b = seenOf fs b
  | [], _, _ => rfl
  | n :: r, fs, b => by
    show seenOf (syncAll (sync1 fs n) r) b = _
    rw [seen_syncAll r, seen_sync1]
def SafeAt (fs : List (List Int × FileS)) (k : List Int) : Prop := ∀ f, pget .str k fs = some f → f.2.2 = [] ∧ f.2.1 = f.1
theorem sync1_safe (fs : List (List Int × FileS)) (a : List Int) : SafeAt (sync1 fs a) a := by
  unfold sync1
  cases hg : pget .str a fs with
  | none =>
    intro f hf
    dsimp only at hf
    rw [hg] at hf; cases hf
  | some f =>
    intro g h
    dsimp only at h
    rw [get_pset hg] at h
    obtain rfl := Option.some.inj h
    exact ⟨rfl, rfl⟩
theorem sync1_stays {fs : List (List Int × FileS)} {k : List Int} (h : SafeAt fs k) (a : List Int) : SafeAt (sync1 fs a) k := by
  by_cases e : a = k
  · subst e; exact sync1_safe fs a
  · unfold sync1
    cases hg : pget .str a fs with
    | none => exact h
    | some f =>
      intro g hh
      dsimp only at hh
      rw [get_pset_ne _ e] at hh
      exact h g hh
theorem syncAll_stays : ∀ (names : List (List Int)) {fs : List (List Int × FileS)} {k : List Int}, SafeAt fs k → SafeAt (syncAll fs names) k
  | [], _, _, h => h
  | n :: r, fs, k, h => by
    show SafeAt (syncAll (sync1 fs n) r) k
    exact syncAll_stays r (sync1_stays h n)
theorem syncAll_safe : ∀ (names : List (List Int)) {fs : List (List Int × FileS)} {k : List Int}, k ∈ names → SafeAt (syncAll fs names) k
  | [], _, _, h => by cases h
  | n :: r, fs, k, h => by
    show SafeAt (syncAll (sync1 fs n) r) k
    rcases List.mem_cons.1 h with rfl | h
    · exact syncAll_stays r (sync1_safe fs k)
    · exact syncAll_safe r h
theorem seen_done {D : DiskS} {nm : List Int} {R : FoundS × LogS × Bool} (h : ReadOk D nm R) (b : List Int) :
    (R.1.2.2.2.1 = false → seenOf (doneD D R).2.1 b = seenOf D.2.1 b) ∧
    (R.1.2.2.2.1 = true → seenOf (doneD D R).2.1 b = if fileN nm (R.2.1.2.2.2.1.getD (R.2.1.2.2.2.1.length - 1) (0, 0, 0, ())).1 = b then (seenOf D.2.1 b).take (R.2.1.2.2.2.1.getD (R.2.1.2.2.2.1.length - 1) (0, 0, 0, ())).2.1.toNat else seenOf D.2.1 b) := by
  unfold doneD
  show (_ → seenOf (syncAll _ _) b = _) ∧ (_ → seenOf (syncAll _ _) b = _)
  rw [seen_syncAll]
  constructor
  · intro ht
    unfold cutD
    rw [if_neg (by rw [ht]; decide)]
  · intro ht
    obtain ⟨_, f, hf, h0, h1⟩ := h.torn ht
    unfold cutD
    rw [if_pos ht, h.name, hf]
    show seenOf (pset .str _ _ D.2.1) b = _
    rw [seen_pset hf]
    by_cases e : fileN nm (R.2.1.2.2.2.1.getD (R.2.1.2.2.2.1.length - 1) (0, 0, 0, ())).1 = b
    · rw [if_pos e, if_pos e]
      unfold cutF
      dsimp only
      unfold seenOf
      rw [← e, hf]; rfl
    · rw [if_neg e, if_neg e]
def Good (D : DiskS) : Prop := Calm D ∧ NamesOk D.2.1
theorem NamesOk.of_keys {fs fs' : List (List Int × FileS)} (h : NamesOk fs) (hk : fs'.map (·.1) = fs.map (·.1)) : NamesOk fs' := by
  unfold NamesOk
  rw [hk]; exact h
theorem done_good {D : DiskS} {nm : List Int} {R : FoundS × LogS × Bool} (hg : Good D) (h : ReadOk D nm R) : Good (doneD D R) := ⟨done_calm hg.1 h, hg.2.of_keys (done_keys D R)⟩
theorem nums_keys {D D' : DiskS} (h : D'.2.1.map (·.1) = D.2.1.map (·.1)) (nm : List Int) : numsOf D' nm = numsOf D nm := by
  unfold numsOf
  rw [h]
theorem crash_on {D : DiskS} (hg : Good D) : ∃ D', (disk_Disk_Crash D []).bind disk_Disk_On = some D' ∧ Good D' ∧ D'.2.1.map (·.1) = D.2.1.map (·.1) ∧ ∀ k, SafeAt D.2.1 k → seenOf D'.2.1 k = seenOf D.2.1 k := by
  obtain ⟨fs', h1, h2, h3, h4, h5⟩ := Crash_eq (D := D) (l := []) ⟨by simp, fun x hx => by cases hx⟩ hg.1.1 (fun h => by rw [hg.1.2.1] at h; cases h)
  refine ⟨(D.1, fs', 0, D.2.2.2.1, 0, false, false), ?_, ⟨⟨h2, rfl, rfl, rfl⟩, hg.2.of_keys h3⟩, h3, fun k hk => ?_⟩
  · rw [h1, bind_eq]
    exact On_eq' rfl
  · show seenOf fs' k = seenOf D.2.1 k
    cases hp : pget .str k D.2.1 with
    | none =>
      have : pget .str k fs' = none := by
        have := get_none.1 hp
        rw [← h3] at this
        exact get_none.2 this
      unfold seenOf
      rw [hp, this]
    | some f =>
      obtain ⟨a, b⟩ := hk f hp
      have := h4 k f hp a b
      unfold seenOf
      rw [hp, this]
theorem write_good {D : DiskS} (hg : Good D) {name text : List Int} {at0 : Int} (hat : rng .i64 at0) (ht : byteOk text) (htl : text.length ≤ 140737488355328) (hn : byteOk name ∧ name.length < 4611686018427387904) : ∃ e D', disk_Disk_Write D name at0 text = some (e, D') ∧ Good D' := by
  rcases Write_any hg.1.1 hat ht htl hn.2 with ⟨e, _, h⟩ | ⟨ho, _, _, _, _, e, a, fl, o, p, fs', h1, h2, h3, _, _, h6⟩
  · exact ⟨e, D, h, hg⟩
  · rw [counted_calm 1 hg.1.2.2.1 hg.1.2.2.2] at h1
    simp only [Option.some.injEq, Prod.mk.injEq] at h1
    obtain ⟨rfl, hD⟩ := h1
    rw [if_pos rfl] at h2
    refine ⟨0, _, h2, ⟨h3, ?_, ?_, ?_⟩, ?_⟩
    · have := hg.1.2.1; rw [hD] at this; exact this
    · have := hg.1.2.2.1; rw [hD] at this; exact this
    · have := hg.1.2.2.2; rw [hD] at this; exact this
    · show NamesOk fs'
      unfold NamesOk
      rw [h6]
      intro f hf
      split at hf
      · exact hg.2 f hf
      · obtain ⟨q, hq, rfl⟩ := List.mem_map.1 hf
        rcases pins_mem.1 hq with rfl | hq
        · exact hn
        · exact hg.2 _ (List.mem_map_of_mem (pdel_mem hq))
theorem sync_good {D : DiskS} (hg : Good D) (name : List Int) : ∃ e D', disk_Disk_Sync D name = some (e, D') ∧ Good D' := by
  cases hp : pget .str name D.2.1 with
  | none =>
    refine ⟨5, D, ?_, hg⟩
    unfold disk_Disk_Sync
    rw [found_eq name hg.1.2.1, hp]
    rfl
  | some f => exact ⟨0, _, Sync_calm hg.1 hp, hg.1.sync hp, hg.2.of_keys (pset_keys _ _ _)⟩
end Sx
namespace Sx
open Go
def setNext (l : LogS) (n : Int) : LogS := (l.1, l.2.1, l.2.2.1, l.2.2.2.1, n, l.2.2.2.2.2)
theorem head_set {l : LogS} {f : FoundS} {b : List Int} (n : Int) (hf : f.2.2.1 = false) : headS (setNext l n) f b = ((headS l f b).1, (headS l f b).2.1, if (headS l f b).2.1 = true then (headS l f b).2.2 else n) := by
  unfold headS
  by_cases h : f.2.2.1 = false ∧ b ≠ []
  · rw [if_pos h, if_pos h]
    by_cases g : (beginsS b).2 = true
    · simp only [g, if_true]
    · have g' : (beginsS b).2 = false := by simpa using g
      simp only [g', Bool.false_eq_true, if_false]
      rfl
  · rw [if_neg h, if_neg h]
    simp only [hf, Bool.false_eq_true, if_false]
    rfl
theorem read_set {l : LogS} {k : Int} {f : FoundS} {b : List Int} (n : Int) (hf : f.2.2.1 = false) : readS (setNext l n) k f b = ((if (readS l k f b).2.2.2.1 = true then (readS l k f b).1 else setNext (readS l k f b).1 n), (readS l k f b).2) := by
  rw [read_any]
  unfold readS
  rw [head_set n hf]
  by_cases h : (headS l f b).2.1 = true
  · simp only [h, if_true]
    rfl
  · have h' : (headS l f b).2.1 = false := by simpa using h
    simp only [h', Bool.false_eq_true, if_false]
    rfl
theorem reads_set {fs : List (List Int × FileS)} (nm : List Int) (last n : Int) : ∀ (xs : List Int) (s : FoundS × LogS), s.1.2.2.1 = false → readsS fs nm last xs (s.1, setNext s.2 n) =
    ((readsS fs nm last xs s).1, (if (readsS fs nm last xs s).1.2.2.1 = true then (readsS fs nm last xs s).2.1 else setNext (readsS fs nm last xs s).2.1 n), (readsS fs nm last xs s).2.2)
  | [], s, h => by
    show (s.1, setNext s.2 n, false) = (s.1, (if s.1.2.2.1 = true then s.2 else setNext s.2 n), false)
    rw [if_neg (by rw [h]; decide)]
  | x :: m, s, h => by
    have e : ∀ s : FoundS × LogS, readsS fs nm last (x :: m) s = if (readS s.2 x s.1 (seenOf fs (fileN nm x))).2.2.2.2.1 = true then ((readS s.2 x s.1 (seenOf fs (fileN nm x))).2, (readS s.2 x s.1 (seenOf fs (fileN nm x))).1, x != last)
      else readsS fs nm last m ((readS s.2 x s.1 (seenOf fs (fileN nm x))).2, (readS s.2 x s.1 (seenOf fs (fileN nm x))).1) := fun _ => rfl
    rw [e, e]
    dsimp only
    rw [read_set n h]
    dsimp only
    by_cases ht : (readS s.2 x s.1 (seenOf fs (fileN nm x))).2.2.2.2.1 = true
    · rw [if_pos ht, if_pos ht]
    · rw [if_neg ht, if_neg ht]
      by_cases ha : (readS s.2 x s.1 (seenOf fs (fileN nm x))).2.2.2.1 = true
      · rw [if_pos ha]
        have := any_mono (fs := fs) nm last m ((readS s.2 x s.1 (seenOf fs (fileN nm x))).2, (readS s.2 x s.1 (seenOf fs (fileN nm x))).1) ha
        rw [if_pos this]
      · rw [if_neg ha]
        have ha' : (readS s.2 x s.1 (seenOf fs (fileN nm x))).2.2.2.1 = false := by simpa using ha
        exact reads_set nm last n m ((readS s.2 x s.1 (seenOf fs (fileN nm x))).2, (readS s.2 x s.1 (seenOf fs (fileN nm x))).1) ha'
theorem reading_set {D D' : DiskS} {nm : List Int} {mo fi : Int} {R : FoundS × LogS × Bool} (n : Int) (hk : D'.2.1.map (·.1) = D.2.1.map (·.1)) (hs : ∀ x ∈ numsOf D nm, seenOf D'.2.1 (fileN nm x) = seenOf D.2.1 (fileN nm x)) (h : reading D nm mo fi = some R) :
    reading D' nm mo n = some (R.1, (if R.1.2.2.1 = true then R.2.1 else setNext R.2.1 n), R.2.2) := by
  have hn := nums_keys hk nm
  have hseen : ∀ (last : Int) (xs : List Int) (s : FoundS × LogS), (∀ x ∈ xs, seenOf D'.2.1 (fileN nm x) = seenOf D.2.1 (fileN nm x)) → readsS D'.2.1 nm last xs s = readsS D.2.1 nm last xs s := by
    intro last xs
    induction xs with
    | nil => intro s _; rfl
    | cons x m ih =>
      intro s hx
      simp only [readsS]
      rw [hx x (by simp), ih _ (fun y hy => hx y (by simp [hy]))]
  unfold reading at h ⊢
  rw [hn]
  rw [Option.map_eq_some_iff] at h ⊢
  obtain ⟨last, hc, rfl⟩ := h
  refine ⟨last, hc, ?_⟩
  rw [hseen last _ _ hs]
  exact reads_set nm last n (numsOf D nm) (([], 0, false, false, ()), log0 nm mo fi) rfl
theorem numsOf_nonneg {D : DiskS} {nm : List Int} : ∀ y ∈ numsOf D nm, 0 ≤ y := fun y hy => (numsOf_mem.1 hy).1.1
theorem reading_again {D D' : DiskS} {nm : List Int} {mo fi : Int} {R : FoundS × LogS × Bool} (hok : FsOk D.2.1) (hfi : 0 ≤ fi ∧ fi ≤ 1152921504606846976) (hk : D'.2.1.map (·.1) = D.2.1.map (·.1)) (h : reading D nm mo fi = some R) (hr : R.2.2 = false)
    (hs : ∀ x ∈ numsOf D nm, seenOf D'.2.1 (fileN nm x) = seenOf (doneD D R).2.1 (fileN nm x)) :
    (∃ fst, reading D' nm mo fi = some ((R.1.1, fst, R.1.2.2.1, false, ()), R.2.1, false) ∧ (R.1.2.2.1 = true → fst = R.1.2.1)) ∧ R.2.1.2.2.2.1.map (·.1) = numsOf D nm := by
  have hO := reading_ok hok hfi h
  have hn := nums_keys hk nm
  have hlen := numsOf_len hok nm
  have hsd := seen_done hO
  unfold reading at h ⊢
  rw [hn]
  rw [Option.map_eq_some_iff] at h
  obtain ⟨last, hc, rfl⟩ := h
  have hL := checkS_last numsOf_nonneg hc
  have hmax : max fi 1152921504606846976 = 1152921504606846976 := by omega
  have h1 : max fi 1152921504606846976 + 16384 * ((numsOf D nm).length : Int) ≤ 2305843009213693952 := by rw [hmax]; omega
  have hall := reads_all (fs := D.2.1) nm last (numsOf D nm) (([], 0, false, false, ()), log0 nm mo fi) hL hr
  have hmap : (readsS D.2.1 nm last (numsOf D nm) (([], 0, false, false, ()), log0 nm mo fi)).2.1.2.2.2.1.map (·.1) = numsOf D nm := by rw [hall]; rfl
  have hg := reads_again (fs := D.2.1) (fs' := D'.2.1) nm last (fun x => seen_ok hok _) (numsOf D nm) (([], 0, false, false, ()), log0 nm mo fi) hL hfi.1 h1 rfl hr
  have hlast : (readsS D.2.1 nm last (numsOf D nm) (([], 0, false, false, ()), log0 nm mo fi)).2.1.2.2.2.1 ≠ [] → ((readsS D.2.1 nm last (numsOf D nm) (([], 0, false, false, ()), log0 nm mo fi)).2.1.2.2.2.1.getD ((readsS D.2.1 nm last (numsOf D nm) (([], 0, false, false, ()), log0 nm mo fi)).2.1.2.2.2.1.length - 1) (0, 0, 0, ())).1 = last := by
    intro hne
    have hne2 : numsOf D nm ≠ [] := fun e => by
      have hz := congrArg List.length hmap
      rw [List.length_map] at hz
      exact hne (List.eq_nil_of_length_eq_zero (hz.trans (by rw [e]; rfl)))
    rcases hL.2 with e | ⟨ys, e⟩
    · exact absurd e hne2
    · have hl2 := congrArg List.length hmap
      rw [List.length_map] at hl2
      have h3 : ((readsS D.2.1 nm last (numsOf D nm) (([], 0, false, false, ()), log0 nm mo fi)).2.1.2.2.2.1.map (·.1)).getD ((numsOf D nm).length - 1) 0 = (numsOf D nm).getD ((numsOf D nm).length - 1) 0 := by rw [hmap]
      rw [hl2]
      have hlt : (numsOf D nm).length - 1 < (readsS D.2.1 nm last (numsOf D nm) (([], 0, false, false, ()), log0 nm mo fi)).2.1.2.2.2.1.length := by
        have : 0 < (numsOf D nm).length := List.length_pos_iff.2 hne2
        omega
      have h4 : (numsOf D nm).getD ((numsOf D nm).length - 1) 0 = last := by
        rw [e]
        simp [List.getD]
      rw [h4] at h3
      simp only [List.getD, List.getElem?_map, List.getElem?_eq_getElem hlt, Option.map_some, Option.getD_some] at h3 ⊢
      exact h3
  refine ⟨?_, hmap⟩
  have key := hg (by
    intro x hx hor
    rw [hs x hx]
    cases ht : (readsS D.2.1 nm last (numsOf D nm) (([], 0, false, false, ()), log0 nm mo fi)).1.2.2.2.1 with
    | false => exact (hsd _).1 ht
    | true =>
      rw [(hsd _).2 ht]
      have hxl : x ≠ last := hor.elim (fun h => by rw [ht] at h; cases h) id
      rw [hlast (hO.torn ht).1]
      have hlm : last ∈ numsOf D nm := by
        have := torn_size (fs := D.2.1) (nm := nm) (last := last) (fun x => seen_ok hok _) (numsOf D nm) (([], 0, false, false, ()), log0 nm mo fi) hfi.1 h1 rfl ht
        rw [hlast (hO.torn ht).1] at this
        exact this.1
      rw [if_neg]
      intro e
      exact hxl (fileN_inj (numsOf_mem.1 hx).1 (numsOf_mem.1 hlm).1 e.symm)) (by
    intro ht
    have hlm : last ∈ numsOf D nm := by
      have := torn_size (fs := D.2.1) (nm := nm) (last := last) (fun x => seen_ok hok _) (numsOf D nm) (([], 0, false, false, ()), log0 nm mo fi) hfi.1 h1 rfl ht
      rw [hlast (hO.torn ht).1] at this
      exact this.1
    rw [hs last hlm, (hsd _).2 ht, hlast (hO.torn ht).1, if_pos rfl])
  obtain ⟨fst, e1, e2⟩ := key
  exact ⟨fst, by rw [hc]; exact congrArg some e1, e2⟩
end Sx
namespace Sx
open Go
theorem sameT_l0 (a b : List (List Int)) (hab : a.length = b.length) (hl : a.length < 4611686018427387904) (K : Unit → Option Bool) : ∀ (j i : Nat), i + j = a.length →
    escrowlaw06_sameTexts_l0 a b K (j + 1) (i : Int) = if a.drop i = b.drop i then K () else some false
  | 0, i, h => by
    rw [escrowlaw06_sameTexts_l0, if_neg (by simp; omega), if_pos (by rw [List.drop_of_length_le (by omega), List.drop_of_length_le (by omega)])]
  | j + 1, i, h => by
    have h1 : i < a.length := by omega
    have h2 : i < b.length := by omega
    rw [escrowlaw06_sameTexts_l0, if_pos (by simp; omega), if_pos (by omega), if_pos (by omega), Int.toNat_natCast]
    have e1 : a.getD i [] = a[i] := by simp [List.getD, h1]
    have e2 : b.getD i [] = b[i] := by simp [List.getD, h2]
    have key : (a.drop i = b.drop i) ↔ (a[i] = b[i] ∧ a.drop (i + 1) = b.drop (i + 1)) := by
      rw [List.drop_eq_getElem_cons h1, List.drop_eq_getElem_cons h2, List.cons.injEq]
    have w5 : IntKind.wrap .i64 ((i : Int) + 1) = ((i + 1 : Nat) : Int) := by rw [wrap_id (by simp only [rng, lo, Sx.hi]; omega)]; omega
    rw [e1, e2]
    simp only [key]
    by_cases e : a[i] = b[i]
    · rw [if_neg (by simp [e]), bnd_eq, w5, sameT_l0 a b hab hl K j (i + 1) (by omega)]
      simp [e]
    · rw [if_pos (by simpa using e), if_neg (by simp [e])]
theorem sameT_eq (a b : List (List Int)) (hl : a.length < 4611686018427387904) : escrowlaw06_sameTexts a b = some (decide (a = b)) := by
  unfold escrowlaw06_sameTexts
  by_cases h : a.length = b.length
  · rw [if_neg (by simp [h]), bnd_eq]
    have e : Int.toNat ((a.length : Int) - 0) + 1 = a.length + 1 := by omega
    rw [e]
    refine (sameT_l0 a b h hl _ a.length 0 (by omega)).trans ?_
    simp only [List.drop_zero]
    by_cases q : a = b
    · simp [q]
    · simp [q]
  · rw [if_pos (by simp; omega)]
    have : a ≠ b := fun e => h (by rw [e])
    simp [this]
theorem sameT_true (a : List (List Int)) (hl : a.length < 4611686018427387904) : escrowlaw06_sameTexts a a = some true := by
  rw [sameT_eq a a hl, decide_eq_true rfl]
theorem again_l0 (K : List (List Int) → Option Bool) (v : Option Bool) (hK : ∀ l, K l = v) : ∀ (j i : Nat) (l : List (List Int)), i + j = l.length → l.length < 4611686018427387904 → escrowlaw06_WalAgain_l0 K (j + 1) ((i : Int), l) = v
  | 0, i, l, h, _ => by
    rw [escrowlaw06_WalAgain_l0]
    dsimp only
    rw [if_neg (by rw [decide_eq_true_eq]; omega)]
    exact hK l
  | j + 1, i, l, h, hl => by
    have w5 : IntKind.wrap .i64 ((i : Int) + 1) = ((i + 1 : Nat) : Int) := by rw [wrap_id (by simp only [rng, lo, Sx.hi]; omega)]; omega
    rw [escrowlaw06_WalAgain_l0]
    dsimp only
    rw [if_pos (by rw [decide_eq_true_eq]; omega), if_pos (by constructor <;> omega), bnd_eq, w5]
    exact again_l0 K v hK j (i + 1) _ (by rw [List.length_set]; omega) (by rw [List.length_set]; exact hl)
theorem again_l1 (K : List (List Int) → Option Bool) (v : Option Bool) (hK : ∀ l, K l = v) : ∀ (j i : Nat) (l : List (List Int)), i + j = l.length → l.length < 4611686018427387904 → escrowlaw06_WalAgain_l1 K (j + 1) ((i : Int), l) = v
  | 0, i, l, h, _ => by
    rw [escrowlaw06_WalAgain_l1]
    dsimp only
    rw [if_neg (by rw [decide_eq_true_eq]; omega)]
    exact hK l
  | j + 1, i, l, h, hl => by
    have w5 : IntKind.wrap .i64 ((i : Int) + 1) = ((i + 1 : Nat) : Int) := by rw [wrap_id (by simp only [rng, lo, Sx.hi]; omega)]; omega
    rw [escrowlaw06_WalAgain_l1]
    dsimp only
    rw [if_pos (by rw [decide_eq_true_eq]; omega), if_pos (by constructor <;> omega), bnd_eq, w5]
    exact again_l1 K v hK j (i + 1) _ (by rw [List.length_set]; omega) (by rw [List.length_set]; exact hl)
abbrev WOpS := Int × List Int × List Int × Int × Int × Int × (List (List Int × Int × Int × List Int × Unit)) × Unit
def WOpOk (o : WOpS) : Prop := (byteOk o.2.1 ∧ o.2.1.length ≤ 140737488355328) ∧ (byteOk o.2.2.1 ∧ o.2.2.1.length < 4611686018427387904) ∧ rng .i64 o.2.2.2.1
theorem again_l2 (a0 : List WOpS) (hl : a0.length < 4611686018427387904) (ho : ∀ o ∈ a0, WOpOk o) (r1 : Int × DiskS) (h1 : r1.1 = 0) (K : DiskS → Option Bool) (v : Option Bool) (hK : ∀ D, Good D → K D = v) : ∀ (j i : Nat) (D : DiskS), i + j = a0.length → Good D → escrowlaw06_WalAgain_l2 a0 r1 K (j + 1) ((i : Int), D) = v
  | 0, i, D, h, hg => by
    rw [escrowlaw06_WalAgain_l2, if_neg (by rw [decide_eq_true_eq]; omega)]
    exact hK D hg
  | j + 1, i, D, h, hg => by
    have w5 : IntKind.wrap .i64 ((i : Int) + 1) = ((i + 1 : Nat) : Int) := by rw [wrap_id (by simp only [rng, lo, Sx.hi]; omega)]; omega
    have hlt : i < a0.length := by omega
    have hm : a0.getD i (0, [], [], 0, 0, 0, [], ()) ∈ a0 := by
      simp only [List.getD, List.getElem?_eq_getElem hlt, Option.getD_some]; exact List.getElem_mem hlt
    obtain ⟨g1, g2, g3⟩ := ho _ hm
    rw [escrowlaw06_WalAgain_l2, if_pos (by rw [decide_eq_true_eq]; omega), bnd_eq, if_pos (by constructor <;> omega), if_pos h1]
    simp only [Int.toNat_natCast]
    obtain ⟨e, D1, hw, hg1⟩ := write_good hg g3 g1.1 g1.2 g2
    rw [hw, bind_eq, if_pos (by constructor <;> omega)]
    by_cases hk : (iand .i64 (a0.getD i (0, [], [], 0, 0, 0, [], ())).1 1 == 1) = true
    · rw [if_pos hk, if_pos (by constructor <;> omega)]
      obtain ⟨e2, D2, hs, hg2⟩ := sync_good hg1 (a0.getD i (0, [], [], 0, 0, 0, [], ())).2.2.1
      rw [hs, bind_eq, bnd_eq, w5]
      exact again_l2 a0 hl ho r1 h1 K v hK j (i + 1) D2 (by omega) hg2
    · rw [if_neg hk, bnd_eq, w5]
      exact again_l2 a0 hl ho r1 h1 K v hK j (i + 1) D1 (by omega) hg1
theorem size_seen {D : DiskS} (hc : Calm D) (name : List Int) : ∃ e, disk_Disk_Size D name = some (((seenOf D.2.1 name).length : Int), e) := by
  rw [Size_eq hc.2.1]
  unfold seenOf
  cases pget .str name D.2.1 with
  | none => exact ⟨5, rfl⟩
  | some f => exact ⟨0, rfl⟩
theorem bytes_l0 {D : DiskS} (hc : Calm D) (names : List (List Int)) (hl : names.length < 4611686018427387904) (K : Unit → Option Bool) (hK : K () = some false) : ∀ (j i : Nat), i + j = names.length →
    escrowlaw06_bytes_l0 D names K (j + 1) (i : Int) = some ((names.drop i).any fun n => decide (0 < (seenOf D.2.1 n).length))
  | 0, i, h => by
    rw [escrowlaw06_bytes_l0, if_neg (by rw [decide_eq_true_eq]; omega), List.drop_eq_nil_of_le (by omega)]
    exact hK
  | j + 1, i, h => by
    have hlt : i < names.length := by omega
    have w5 : IntKind.wrap .i64 ((i : Int) + 1) = ((i + 1 : Nat) : Int) := by rw [wrap_id (by simp only [rng, lo, Sx.hi]; omega)]; omega
    have hdr : names.drop i = names.getD i [] :: names.drop (i + 1) := by
      rw [List.drop_eq_getElem_cons hlt]
      simp [List.getD, hlt]
    obtain ⟨e, hse⟩ := size_seen hc (names.getD i [])
    rw [escrowlaw06_bytes_l0, if_pos (by rw [decide_eq_true_eq]; omega), if_pos (by constructor <;> omega), Int.toNat_natCast, hse, bind_eq, hdr, List.any_cons]
    dsimp only
    by_cases hp : 0 < (seenOf D.2.1 (names.getD i [])).length
    · rw [if_pos (by rw [decide_eq_true_eq]; omega), decide_eq_true hp, Bool.true_or]
    · rw [if_neg (by rw [decide_eq_true_eq]; omega), decide_eq_false hp, Bool.false_or, bnd_eq, w5]
      exact bytes_l0 hc names hl K hK j (i + 1) (by omega)
theorem bytes_eq {D : DiskS} (hc : Calm D) (names : List (List Int)) (hl : names.length < 4611686018427387904) : escrowlaw06_bytes D names = some (names.any fun n => decide (0 < (seenOf D.2.1 n).length)) := by
  unfold escrowlaw06_bytes
  rw [bnd_eq]
  have e : Int.toNat ((names.length : Int) - 0) + 1 = names.length + 1 := by omega
  rw [e]
  exact (bytes_l0 hc names hl _ rfl names.length 0 (by omega)).trans (by rw [List.drop_zero])
theorem iand_mask (a : Int) : ∃ n : Nat, n < 1048576 ∧ iand .i64 a 1048575 = (n : Int) := by
  refine ⟨(BitVec.ofInt 64 a &&& BitVec.ofInt 64 1048575).toNat, ?_, ?_⟩
  · rw [BitVec.toNat_and]
    exact Nat.lt_of_le_of_lt Nat.and_le_right (by decide)
  · unfold iand
    show IntKind.wrap .i64 ((BitVec.ofInt 64 a &&& BitVec.ofInt 64 1048575).toNat : Int) = _
    have : (BitVec.ofInt 64 a &&& BitVec.ofInt 64 1048575).toNat < 1048576 := by
      rw [BitVec.toNat_and]
      exact Nat.lt_of_le_of_lt Nat.and_le_right (by decide)
    exact wrap_id (by simp only [rng, lo, Sx.hi]; omega)
theorem by_range (a fi : Int) (m : Nat) (hm : m ≤ 1048576) (h0 : 0 ≤ fi) (h1 : fi ≤ 1152921504606846976) : ∃ b : Nat, b ≤ m ∧ fi + b ≤ 1152921504606846976 ∧ (min (Int.tmod (iand .i64 a 1048575) (IntKind.wrap .i64 ((m : Int) + 1))) (IntKind.wrap .i64 (1152921504606846976 - fi))) = (b : Int) := by
  obtain ⟨n, hn, e⟩ := iand_mask a
  have w1 : IntKind.wrap .i64 ((m : Int) + 1) = ((m + 1 : Nat) : Int) := by rw [wrap_id (by simp only [rng, lo, Sx.hi]; omega)]; omega
  have w2 : IntKind.wrap .i64 (1152921504606846976 - fi) = 1152921504606846976 - fi := wrap_id (by simp only [rng, lo, Sx.hi]; omega)
  rw [e, w1, w2]
  have e2 : Int.tmod (n : Int) ((m + 1 : Nat) : Int) = ((n % (m + 1) : Nat) : Int) := rfl
  rw [e2]
  have h3 := Nat.mod_lt n (Nat.succ_pos m)
  obtain ⟨f, rfl⟩ := Int.eq_ofNat_of_zero_le h0
  generalize n % (m + 1) = q at *
  by_cases hq : (q : Int) ≤ 1152921504606846976 - (f : Int)
  · exact ⟨q, by omega, by omega, Int.min_eq_left hq⟩
  · refine ⟨1152921504606846976 - f, by omega, by omega, ?_⟩
    rw [Int.min_eq_right (by omega)]
    omega
end Sx
namespace Sx
open Go
theorem wal_first : escrowlaw06_first = some true := by kernel_rfl
end Sx
namespace Sx
open Go
theorem read_none_next {l : LogS} {k : Int} {f : FoundS} {b : List Int} (h : (readS l k f b).2.2.2.1 = false) : (readS l k f b).1.2.2.2.2.1 = l.2.2.2.2.1 := by
  rw [read_any] at h
  have hh : (headS l f b).2.2 = l.2.2.2.2.1 := by
    unfold headS at h ⊢
    split
    · rename_i c
      rw [if_pos c] at h
      dsimp only at h ⊢
      rw [if_neg (by rw [h]; decide)]
    · rfl
  unfold readS
  rw [if_neg (by rw [h]; decide)]
  exact hh
theorem reads_none_next {fs : List (List Int × FileS)} (nm : List Int) (last : Int) : ∀ (xs : List Int) (s : FoundS × LogS), (readsS fs nm last xs s).1.2.2.1 = false → (readsS fs nm last xs s).2.1.2.2.2.2.1 = s.2.2.2.2.2.1
  | [], s, _ => rfl
  | x :: m, s, h => by
    have e : readsS fs nm last (x :: m) s = if (readS s.2 x s.1 (seenOf fs (fileN nm x))).2.2.2.2.1 = true then ((readS s.2 x s.1 (seenOf fs (fileN nm x))).2, (readS s.2 x s.1 (seenOf fs (fileN nm x))).1, x != last)
      else readsS fs nm last m ((readS s.2 x s.1 (seenOf fs (fileN nm x))).2, (readS s.2 x s.1 (seenOf fs (fileN nm x))).1) := rfl
    rw [e] at h ⊢
    by_cases ht : (readS s.2 x s.1 (seenOf fs (fileN nm x))).2.2.2.2.1 = true
    · rw [if_pos ht] at h ⊢
      exact read_none_next h
    · rw [if_neg ht] at h ⊢
      have ha : (readS s.2 x s.1 (seenOf fs (fileN nm x))).2.2.2.1 = false := by
        cases hz : (readS s.2 x s.1 (seenOf fs (fileN nm x))).2.2.2.1 with
        | false => rfl
        | true =>
          have := any_mono (fs := fs) nm last m ((readS s.2 x s.1 (seenOf fs (fileN nm x))).2, (readS s.2 x s.1 (seenOf fs (fileN nm x))).1) hz
          rw [this] at h; cases h
      rw [reads_none_next nm last m _ h]
      exact read_none_next ha
theorem told_next {D : DiskS} {nm : List Int} {mo fi : Int} {R : FoundS × LogS × Bool} (hO : ReadOk D nm R) (h : reading D nm mo fi = some R) (hr : ¬ refusedS R fi) : R.2.1.2.2.2.2.1 = fi + ((told R fi).length : Int) ∧ (told R fi).length ≤ 262144 := by
  have hp := hO.pays
  unfold told
  cases ha : R.1.2.2.1 with
  | true =>
    have hv := hO.inv.1 ha
    have h3 : R.1.2.1 ≤ fi ∧ fi ≤ R.2.1.2.2.2.2.1 := by
      unfold refusedS at hr
      refine ⟨?_, ?_⟩
      · exact Int.not_lt.1 fun h => hr (.inr ⟨ha, .inl h⟩)
      · exact Int.not_lt.1 fun h => hr (.inr ⟨ha, .inr h⟩)
    rw [if_pos rfl, List.length_drop]
    omega
  | false =>
    have hv := hO.inv.2 ha
    rw [if_neg (by decide), hv]
    unfold reading at h
    rw [Option.map_eq_some_iff] at h
    obtain ⟨last, hc, rfl⟩ := h
    have := reads_none_next (fs := D.2.1) nm last (numsOf D nm) (([], 0, false, false, ()), log0 nm mo fi) ha
    rw [this]
    show fi = fi + _ ∧ _
    simp
theorem reading_files {D : DiskS} {nm : List Int} {mo fi : Int} {R : FoundS × LogS × Bool} (hok : FsOk D.2.1) (hfi : 0 ≤ fi ∧ fi ≤ 1152921504606846976) (h : reading D nm mo fi = some R) (hr : R.2.2 = false) : R.2.1.2.2.2.1.map (·.1) = numsOf D nm :=
  (reading_again hok hfi (done_keys D R) h hr (fun _ _ => rfl)).2
theorem later {D : DiskS} {nm : List Int} {mo fi : Int} {R : FoundS × LogS × Bool} (hg : Good D) (hr : rightS nm = true) (hmo : 64 ≤ mo ∧ mo ≤ 1048576) (hfi : 0 ≤ fi ∧ fi ≤ 1152921504606846976) (h : reading D nm mo fi = some R) (hR : ¬ refusedS R fi)
    (b : Nat) (hb : b ≤ (told R fi).length) (hb2 : fi + b ≤ 1152921504606846976) :
    ∃ Dc D2 D3 D4 l3, disk_Disk_Crash (doneD D R) [] = some Dc ∧ disk_Disk_On Dc = some D2 ∧ wal_Open D2 nm mo fi = some ((0, R.2.1), told R fi, 0, D3) ∧ wal_Open D3 nm mo (fi + b) = some ((0, l3), (told R fi).drop b, 0, D4) ∧ Good D4 ∧
      ∃ f0 : FoundS, f0.2.2.1 = R.1.2.2.1 ∧ f0.2.2.2.1 = false ∧ ∀ n, reading D4 nm mo n = some (f0, (if R.1.2.2.1 = true then R.2.1 else setNext R.2.1 n), false) := by
  have hO := reading_ok hg.1.1 hfi h
  have hr2 : R.2.2 = false := by
    cases hz : R.2.2 with
    | false => rfl
    | true => exact absurd (.inl hz) hR
  have hfl := reading_files hg.1.1 hfi h hr2
  obtain ⟨hnext, hlen⟩ := told_next hO h hR
  have hg1 := done_good hg hO
  obtain ⟨D2, hc, hg2, hk2, hs2⟩ := crash_on hg1
  rw [Option.bind_eq_some_iff] at hc
  obtain ⟨Dc, hc1, hc2⟩ := hc
  have hk12 : D2.2.1.map (·.1) = D.2.1.map (·.1) := hk2.trans (done_keys D R)
  have hsafe : ∀ x ∈ numsOf D nm, SafeAt (doneD D R).2.1 (fileN nm x) := fun x hx => by
    refine syncAll_safe _ ?_
    rw [← hfl] at hx
    obtain ⟨t, ht, rfl⟩ := List.mem_map.1 hx
    have := List.mem_map_of_mem (f := fun s : SegS => fileN R.2.1.2.1 s.1) ht
    rw [hO.name] at this
    rw [hO.name]
    exact this
  obtain ⟨⟨fst, h2, hf2⟩, _⟩ := reading_again (D' := D2) hg.1.1 hfi hk12 h hr2 (fun x hx => hs2 _ (hsafe x hx))
  have hO2 := reading_ok hg2.1.1 hfi h2
  have hR2 : ¬ refusedS ((R.1.1, fst, R.1.2.2.1, false, ()), R.2.1, false) fi := by
    unfold refusedS at hR ⊢
    rintro (h | ⟨ha, h⟩)
    · cases h
    · dsimp only at ha h
      rw [hf2 ha] at h
      exact hR (.inr ⟨ha, h⟩)
  have ht2 : told ((R.1.1, fst, R.1.2.2.1, false, ()), R.2.1, false) fi = told R fi := by
    unfold told
    dsimp only
    by_cases ha : R.1.2.2.1 = true
    · rw [if_pos ha, if_pos ha, hf2 ha]
    · rw [if_neg ha, if_neg ha]
  have o2 := (open_read hg2.1 hg2.2 hr hmo hfi h2).2 hR2
  rw [ht2] at o2
  have hg3 := done_good hg2 hO2
  have hs3 : ∀ x, seenOf (doneD D2 ((R.1.1, fst, R.1.2.2.1, false, ()), R.2.1, false)).2.1 x = seenOf D2.2.1 x := fun x => (seen_done hO2 x).1 rfl
  have hb0 : 0 ≤ fi + (b : Int) ∧ fi + (b : Int) ≤ 1152921504606846976 := by omega
  have h3 := reading_set (D' := doneD D2 ((R.1.1, fst, R.1.2.2.1, false, ()), R.2.1, false)) (fi + b) (done_keys _ _) (fun x _ => hs3 _) h2
  dsimp only at h3
  have hO3 := reading_ok hg3.1.1 hb0 h3
  have hn3 : R.1.2.2.1 = true → fst ≤ fi ∧ fi ≤ R.2.1.2.2.2.2.1 := fun ha => by
    unfold refusedS at hR2
    refine ⟨?_, ?_⟩
    · exact Int.not_lt.1 fun h => hR2 (.inr ⟨ha, .inl h⟩)
    · exact Int.not_lt.1 fun h => hR2 (.inr ⟨ha, .inr h⟩)
  have hR3 : ¬ refusedS ((R.1.1, fst, R.1.2.2.1, false, ()), (if R.1.2.2.1 = true then R.2.1 else setNext R.2.1 (fi + b)), false) (fi + b) := by
    unfold refusedS
    rintro (h | ⟨ha, h⟩)
    · cases h
    · dsimp only at ha h
      rw [if_pos ha] at h
      have := hn3 ha
      omega
  have ht3 : told ((R.1.1, fst, R.1.2.2.1, false, ()), (if R.1.2.2.1 = true then R.2.1 else setNext R.2.1 (fi + b)), false) (fi + b) = (told R fi).drop b := by
    have hlb := hb
    unfold told at hlb ⊢
    dsimp only
    by_cases ha : R.1.2.2.1 = true
    · rw [if_pos ha, if_pos ha, List.drop_drop]
      have := hn3 ha
      rw [hf2 ha] at this ⊢
      congr 1
      omega
    · have ha' : R.1.2.2.1 = false := by simpa using ha
      rw [if_neg ha, if_neg ha]
      rw [hO.inv.2 ha']
      simp
  have o3 := (open_read hg3.1 hg3.2 hr hmo hb0 h3).2 hR3
  rw [ht3] at o3
  have hg4 := done_good hg3 hO3
  refine ⟨Dc, D2, _, _, _, hc1, hc2, o2, o3, hg4, (R.1.1, fst, R.1.2.2.1, false, ()), rfl, rfl, fun n => ?_⟩
  have hs4 : ∀ x, seenOf (doneD (doneD D2 ((R.1.1, fst, R.1.2.2.1, false, ()), R.2.1, false)) ((R.1.1, fst, R.1.2.2.1, false, ()), (if R.1.2.2.1 = true then R.2.1 else setNext R.2.1 (fi + b)), false)).2.1 x = seenOf (doneD D2 ((R.1.1, fst, R.1.2.2.1, false, ()), R.2.1, false)).2.1 x := fun x => (seen_done hO3 x).1 rfl
  have h4 := reading_set (D' := doneD (doneD D2 ((R.1.1, fst, R.1.2.2.1, false, ()), R.2.1, false)) ((R.1.1, fst, R.1.2.2.1, false, ()), (if R.1.2.2.1 = true then R.2.1 else setNext R.2.1 (fi + b)), false)) n (done_keys _ _) (fun x _ => hs4 _) h3
  rw [h4]
  dsimp only
  by_cases ha : R.1.2.2.1 = true
  · simp only [ha, if_true]
  · have ha' : R.1.2.2.1 = false := by simpa using ha
    simp only [ha', Bool.false_eq_true, if_false]
    rfl
end Sx
namespace Sx
open Go
theorem open_good {D : DiskS} {nm : List Int} {mo fi : Int} (hg : Good D) (hl : nm.length < 4611686018427387904) :
    (∃ e, e ≠ 0 ∧ wal_Open D nm mo fi = some (noLog, [], e, D)) ∨
    (rightS nm = true ∧ (64 ≤ mo ∧ mo ≤ 1048576) ∧ (0 ≤ fi ∧ fi ≤ 1152921504606846976) ∧ ∃ R, reading D nm mo fi = some R ∧ ¬ refusedS R fi ∧ wal_Open D nm mo fi = some ((0, R.2.1), told R fi, 0, doneD D R)) := by
  by_cases hA : rightS nm = false ∨ mo < 64 ∨ mo > 1048576 ∨ fi < 0 ∨ fi > 1152921504606846976
  · exact .inl ⟨1, by decide, open_args hl hA⟩
  · have hr : rightS nm = true := by
      cases hz : rightS nm with
      | true => rfl
      | false => exact absurd (.inl hz) hA
    have hmo : 64 ≤ mo ∧ mo ≤ 1048576 := by omega
    have hfi : 0 ≤ fi ∧ fi ≤ 1152921504606846976 := by omega
    cases h : reading D nm mo fi with
    | none => exact .inl ⟨60, by decide, open_gap hg.1 hg.2 hr hmo hfi h⟩
    | some R =>
      obtain ⟨o1, o2⟩ := open_read hg.1 hg.2 hr hmo hfi h
      by_cases hR : refusedS R fi
      · exact .inl ⟨60, by decide, o1 hR⟩
      · exact .inr ⟨hr, hmo, hfi, R, rfl, hR, o2 hR⟩
theorem reading_any {D : DiskS} {nm : List Int} {mo fi : Int} {R : FoundS × LogS × Bool} (h : reading D nm mo fi = some R) (ha : R.1.2.2.1 = true) : ∃ x ∈ numsOf D nm, seenOf D.2.1 (fileN nm x) ≠ [] := by
  unfold reading at h
  rw [Option.map_eq_some_iff] at h
  obtain ⟨last, hc, rfl⟩ := h
  exact any_seen nm last _ _ rfl ha
theorem reading_none {D : DiskS} {nm : List Int} {mo fi : Int} {R : FoundS × LogS × Bool} (h : reading D nm mo fi = some R) (ha : R.1.2.2.1 = false) (ht : R.1.2.2.2.1 = false) : ∀ x ∈ numsOf D nm, seenOf D.2.1 (fileN nm x) = [] := by
  unfold reading at h
  rw [Option.map_eq_some_iff] at h
  obtain ⟨last, hc, rfl⟩ := h
  exact none_seen nm last _ _ ha ht
theorem last_open {D : DiskS} {nm : List Int} {mo : Int} {R : FoundS × LogS × Bool} {f0 : FoundS} {got : List (List Int)} (hg : Good D) (hr : rightS nm = true) (hmo : 64 ≤ mo ∧ mo ≤ 1048576) (hn : 0 ≤ R.2.1.2.2.2.2.1) (hnm : R.2.1.2.1 = nm)
    (hf1 : f0.2.2.1 = R.1.2.2.1) (hf2 : f0.2.2.2.1 = false) (hrd : ∀ n, reading D nm mo n = some (f0, (if R.1.2.2.1 = true then R.2.1 else setNext R.2.1 n), false)) (hgot : R.1.2.2.1 = false → got = []) :
    ∃ l5 t5 e D5, wal_Open D nm mo (R.2.1.2.2.2.2.1 + 1) = some (l5, t5, e, D5) ∧ Calm D5 ∧
      (e != 0) = (decide ((got.length : Int) > 0) || (decide ((((R.2.1.2.2.2.1.map fun s => fileN R.2.1.2.1 s.1).length : Nat) : Int) > 0) && (R.2.1.2.2.2.1.map fun s => fileN R.2.1.2.1 s.1).any fun k => decide (0 < (seenOf D5.2.1 k).length)) || decide (R.2.1.2.2.2.2.1 ≥ 1152921504606846976)) := by
  have hl : nm.length < 4611686018427387904 := by
    unfold rightS at hr
    rw [Bool.and_eq_true, decide_eq_true_eq] at hr
    omega
  by_cases hbig : R.2.1.2.2.2.2.1 ≥ 1152921504606846976
  · refine ⟨_, _, _, _, open_args hl (.inr (.inr (.inr (.inr (by omega))))), hg.1, ?_⟩
    rw [decide_eq_true hbig, Bool.or_true]
    rfl
  · have hfi : 0 ≤ R.2.1.2.2.2.2.1 + 1 ∧ R.2.1.2.2.2.2.1 + 1 ≤ 1152921504606846976 := by omega
    have h4 := hrd (R.2.1.2.2.2.2.1 + 1)
    have hO := reading_ok hg.1.1 hfi h4
    have hfiles := reading_files hg.1.1 hfi h4 rfl
    have hfs : (if R.1.2.2.1 = true then R.2.1 else setNext R.2.1 (R.2.1.2.2.2.2.1 + 1)).2.2.2.1 = R.2.1.2.2.2.1 := by split <;> rfl
    dsimp only at hfiles
    rw [hfs] at hfiles
    have hkeep : (R.2.1.2.2.2.1.map fun s => fileN R.2.1.2.1 s.1) = (numsOf D nm).map (fileN nm) := by
      rw [← hfiles, List.map_map, hnm]; rfl
    have hz : decide (R.2.1.2.2.2.2.1 ≥ 1152921504606846976) = false := decide_eq_false hbig
    rw [hkeep, hz]
    simp only [Bool.or_false]
    obtain ⟨o1, o2⟩ := open_read hg.1 hg.2 hr hmo hfi h4
    by_cases ha : R.1.2.2.1 = true
    · refine ⟨_, _, _, _, o1 (.inr ⟨hf1.trans ha, .inr ?_⟩), hg.1, ?_⟩
      · dsimp only
        rw [if_pos ha]
        omega
      · obtain ⟨x, hx, hne⟩ := reading_any h4 (hf1.trans ha)
        have h1 : ((numsOf D nm).map (fileN nm)).any (fun k => decide (0 < (seenOf D.2.1 k).length)) = true := by
          rw [List.any_eq_true]
          exact ⟨_, List.mem_map_of_mem hx, decide_eq_true (List.length_pos_iff.2 hne)⟩
        have h2 : decide (((((numsOf D nm).map (fileN nm)).length : Nat) : Int) > 0) = true := by
          rw [decide_eq_true_eq]
          have := List.length_pos_of_mem (List.mem_map_of_mem (f := fileN nm) hx)
          omega
        rw [h1, h2]
        simp
    · have ha' : R.1.2.2.1 = false := by simpa using ha
      have hnr : ¬ refusedS (f0, (if R.1.2.2.1 = true then R.2.1 else setNext R.2.1 (R.2.1.2.2.2.2.1 + 1)), false) (R.2.1.2.2.2.2.1 + 1) := by
        unfold refusedS
        rintro (h | ⟨h, _⟩)
        · cases h
        · dsimp only at h
          rw [hf1, ha'] at h; cases h
      refine ⟨_, _, _, _, o2 hnr, (done_good hg hO).1, ?_⟩
      have hnone := reading_none h4 (hf1.trans ha') hf2
      have hseen : ∀ k, seenOf (doneD D (f0, (if R.1.2.2.1 = true then R.2.1 else setNext R.2.1 (R.2.1.2.2.2.2.1 + 1)), false)).2.1 k = seenOf D.2.1 k := fun k => (seen_done hO k).1 hf2
      have h1 : ((numsOf D nm).map (fileN nm)).any (fun k => decide (0 < (seenOf (doneD D (f0, (if R.1.2.2.1 = true then R.2.1 else setNext R.2.1 (R.2.1.2.2.2.2.1 + 1)), false)).2.1 k).length)) = false := by
        rw [List.any_eq_false]
        intro k hk
        obtain ⟨x, hx, rfl⟩ := List.mem_map.1 hk
        rw [hseen, hnone x hx]
        decide
      rw [h1, hgot ha', Bool.and_false]
      rfl
set_option maxRecDepth 4000 in
theorem escrowlaw06_WalAgain_true (a0 : List WOpS) (a1 : List Int) (a2 a3 a4 : Int) {p0 p4 p5 p6 p7 : WOpS → Prop}
    (h0 : List.length a0 * 88 ≤ 140737488351232 ∧ ∀ y ∈ a0, p0 y ∧ (byteOk y.2.1 ∧ List.length y.2.1 ≤ 140737488351232) ∧ (byteOk y.2.2.1 ∧ List.length y.2.2.1 ≤ 140737488351232) ∧ rng .i64 y.2.2.2.1 ∧ p4 y ∧ p5 y ∧ p6 y ∧ p7 y)
    (h1 : byteOk a1 ∧ List.length a1 ≤ 140737488351232) (h2 : rng .i64 a2) (h3 : rng .i64 a3) (h4 : rng .i64 a4) : escrowlaw06_WalAgain a0 a1 a2 a3 a4 = some true := by
  have hops : ∀ o ∈ a0, WOpOk o := fun o ho => by
    obtain ⟨_, ⟨b1, b2⟩, ⟨c1, c2⟩, d, _⟩ := h0.2 o ho
    exact ⟨⟨b1, by omega⟩, ⟨c1, by omega⟩, d⟩
  have hnew : disk_New 1000000 = some (0, (1000000, [], 0, 0, 0, false, false)) := rfl
  have hgood0 : Good (1000000, [], 0, 0, 0, false, false) := ⟨⟨⟨fun p hp => (by cases hp), List.nodup_nil, Nat.zero_le _⟩, rfl, rfl, rfl⟩, fun f hf => (by cases hf)⟩
  unfold escrowlaw06_WalAgain
  rw [hnew, bind_eq]
  rw [bnd_eq, bnd_eq, bnd_eq]
  rw [if_neg (show ¬ ((((0 : Int) != 0) || ((0 : Int) != 0)) = true) by decide), wal_first, bind_eq]
  try dsimp only
  rw [if_neg (show ¬ ((!true) = true) by decide)]
  rw [bnd_eq]
  have ef : Int.toNat ((a0.length : Int) - 0) + 1 = a0.length + 1 := by omega
  rw [ef]
  refine again_l2 a0 (by omega) hops _ rfl _ _ (fun D hg => ?_) a0.length 0 _ (by omega) hgood0
  try dsimp only
  rw [if_pos rfl]
  rcases open_good (mo := a2) (fi := a3) hg (show a1.length < 4611686018427387904 by omega) with ⟨e, he, ho⟩ | ⟨hr, hmo, hfi, R, hrd, hR, ho⟩
  · rw [ho, bind_eq, if_pos (by simpa using he), bnd_eq]
    rfl
  rw [ho, bind_eq]
  rw [if_neg (show ¬ (((0 : Int) != 0) = true) by decide), bnd_eq, bnd_eq]
  rw [if_neg (show ¬ (((0 : Int) != 0) = true) by decide), if_pos rfl]
  have hO := reading_ok hg.1.1 hfi hrd
  obtain ⟨hnext, hlen⟩ := told_next hO hrd hR
  have hl24 : a1.length ≤ 24 := by
    unfold rightS at hr
    rw [Bool.and_eq_true, decide_eq_true_eq] at hr
    exact hr.2
  have hfl := file_names hO
  have hsg := hO.segs
  have hnx : ∀ D, wal_Log_Next R.2.1 D = some R.2.1.2.2.2.2.1 := fun _ => rfl
  have hnm : ∀ D, wal_Log_Names R.2.1 D = some (R.2.1.2.2.2.1.map fun s => fileN R.2.1.2.1 s.1) := fun D => names_eq R.2.1 D (by rw [hO.name]; exact hl24) hfl (by omega)
  have hnb := hO.next
  rw [hnx, bind_eq]
  try dsimp only
  rw [if_neg (by
    rw [wrap_id (by simp only [rng, lo, Sx.hi]; omega), ← hnext]
    simp)]
  rw [if_pos rfl, hnm, bind_eq]
  generalize hkp : (R.2.1.2.2.2.1.map fun s => fileN R.2.1.2.1 s.1) = keep at hnm
  have hkl : keep.length ≤ 16 := by rw [← hkp, List.length_map]; exact hsg
  rw [if_pos (by simp only [List.length_nil]; omega), bnd_eq]
  have ef2 : Int.toNat ((keep.length : Int) - 0) + 1 = keep.length + 1 := by omega
  rw [ef2]
  refine again_l1 _ _ (fun _ => ?_) keep.length 0 keep (by omega) (by omega)
  obtain ⟨b, hb1, hb2, hby⟩ := by_range a4 a3 (told R a3).length (by omega) hfi.1 hfi.2
  obtain ⟨Dc, D2, D3, D4, l3, c1, c2, o2, o3, hg4, f0, hf1, hf2, hrd4⟩ := later hg hr hmo hfi hrd hR b hb1 hb2
  try dsimp only
  rw [c1, bind_eq, c2, bind_eq, o2, bind_eq]
  rw [bnd_eq, bnd_eq, bnd_eq]
  rw [if_neg (show ¬ ((((0 : Int) != 0) || ((0 : Int) != 0)) = true) by decide)]
  rw [sameT_true (told R a3) (by omega), bind_eq]
  try dsimp only
  rw [bnd_eq]
  rw [if_neg (show ¬ ((!true) = true) by decide), if_pos rfl]
  rw [hnm, bind_eq, List.nil_append, sameT_true keep (by omega), bind_eq]
  try dsimp only
  rw [bnd_eq]
  rw [if_neg (show ¬ ((!true) = true) by decide)]
  rw [bind_eq, sameT_true keep (by omega), bind_eq]
  try dsimp only
  rw [bnd_eq]
  rw [if_neg (show ¬ ((!true) = true) by decide), if_pos rfl]
  rw [hnx, bind_eq, bind_eq]
  try dsimp only
  rw [if_neg (show ¬ ((R.2.1.2.2.2.2.1 != R.2.1.2.2.2.2.1) = true) by simp)]
  have hw : IntKind.wrap .i64 (((told R a3).length : Int) + 1) = ((told R a3).length : Int) + 1 := wrap_id (by simp only [rng, lo, Sx.hi]; omega)
  rw [if_pos (by rw [hw]; omega)]
  rw [bnd_eq, bnd_eq, hby]
  have ef3 : Int.toNat (((told R a3).length : Int) - 0) + 1 = (told R a3).length + 1 := by omega
  rw [ef3]
  refine again_l0 _ _ (fun _ => ?_) (told R a3).length 0 (told R a3) (by omega) (by omega)
  have hw2 : IntKind.wrap .i64 (a3 + (b : Int)) = a3 + (b : Int) := wrap_id (by simp only [rng, lo, Sx.hi]; omega)
  try dsimp only
  rw [hw2, o3, bind_eq, if_pos rfl, hnx, bind_eq]
  have hw3 : IntKind.wrap .i64 (R.2.1.2.2.2.2.1 + 1) = R.2.1.2.2.2.2.1 + 1 := wrap_id (by simp only [rng, lo, Sx.hi]; omega)
  rw [hw3]
  have hgot : R.1.2.2.1 = false → told R a3 = [] := fun ha => by
    unfold told
    rw [if_neg (by rw [ha]; decide)]
    exact hO.inv.2 ha
  obtain ⟨l5, t5, e, D5, o5, hc5, he⟩ := last_open (got := told R a3) hg4 hr hmo hnb.1 hO.name hf1 hf2 hrd4 hgot
  rw [o5, bind_eq]
  dsimp only
  rw [bnd_eq]
  rw [bnd_eq]
  rw [if_pos (show ((0 : Int) == 0) = true by decide), if_pos (by omega), Int.toNat_natCast, Int.toNat_natCast, List.take_length]
  rw [sameT_true _ (by rw [List.length_drop]; omega), bind_eq]
  dsimp only
  rw [bnd_eq, if_pos rfl]
  rw [hkp] at he
  rw [bnd_eq, bnd_eq]
  have key : ∀ o73 : Bool, o73 = (decide (((told R a3).length : Int) > 0) || (decide (((keep.length : Nat) : Int) > 0) && keep.any fun k => decide (0 < (seenOf D5.2.1 k).length))) →
      (bnd (fun o80 : Bool => (fun o70 : Bool => some o70) ((e != 0) == o80)) fun k79 => if o73 = true then k79 true else ((wal_Log_Next R.2.1 D5).bind fun r81 => k79 (decide (r81 ≥ 1152921504606846976)))) = some true := by
    intro o73 ho
    rw [bnd_eq, he, ← ho]
    cases o73 with
    | true => rfl
    | false =>
      rw [if_neg (by decide), hnx, bind_eq, Bool.false_or]
      dsimp only
      rw [beq_self_eq_true]
  rw [bnd_eq]
  cases hd : decide (((told R a3).length : Int) > 0) with
  | true =>
    rw [if_pos rfl]
    exact key true (by rw [hd]; rfl)
  | false =>
    rw [if_neg (by decide)]
    rw [bnd_eq]
    cases hd2 : decide (((keep.length : Nat) : Int) > 0) with
    | true =>
      rw [if_pos rfl, bytes_eq hc5 keep (by omega), bind_eq]
      exact key _ (by rw [hd, hd2]; rfl)
    | false =>
      rw [if_neg (by decide)]
      exact key false (by rw [hd, hd2]; rfl)
end Sx
