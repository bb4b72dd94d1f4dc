/-
  Own work, of several texts. What wraps and shifts of numbers come to.
  Texts cut into lines, words and digits: plain.
  A line's words: plain.
  A number's digits: plain.
  The disk's plain functions: what they answer.
  The disk's plain functions, further.
  The disk's plain functions: Write.
  What a disk tells: names, sizes, lists, bytes.
  The log's plain texts: a segment's name and its number.
  CRC32C without a program in sight: a step, its powers, tables of what becomes of each bit, and what the printed functions answer.
  Frames without a program in sight.
  The log's plain texts: how a segment begins.
  The log's plain texts: opening.
  The log's plain texts: the segments are made safe.
  The disk's plain functions: a crash.
  The disk's plain functions: the power.
  The disk's operations at whatever arguments.
  The log's plain texts: what is torn is cut off.
  The log's plain texts: a text is uaq, one behind the other, and what is none.
  The log's plain texts: Open, whole.
  The log's plain texts: a list cloned, and names.
  The log's plain texts: Open, whole.
  The log's plain texts: a text of which nothing is torn tells the same again.
  The log's plain texts: what Open read, read again.
  The log's plain texts: Open, whole.
  The log's plain texts: Open, whole.
  The log's plain texts: Open, whole.
  The log's plain texts: what is seen behind Open, and behind a loss of power.
  The log's plain texts: reading from another first number; reading again.
  What a crash leaves of a file, to the byte.
  The disk is armed.
  WalKeeps, plain: a log's files told by the payloads of its segments; what reading them tells.
  WalKeeps, plain: the numbers on the disk are those of the segments.
  WalKeeps, plain: Open where the power may fall in its Syncs.
  WalKeeps, plain: what Open reads where the last segment may end with something else.
  WalKeeps, plain: what Open tells.
  WalKeeps, plain: what a loss of power leaves of the frame that was under way.
  WalKeeps, plain: a frame of which sectors were lost.
-/
import Derived.Test.YtfgbjaoendfhdaaGreatDoorDefs
import Derived.Test.YtfgbjaoendfhdaaGreatDoorLib2
import Derived.Test.YtfgbjaoendfhdaaGreatDoorLib3
import Derived.Test.YtfgbjaoendfhdaaGreatDoorComm
namespace Sx
open Go
abbrev B32 := BitVec 32
def u (v : B32) : Int := (v.toNat : Int)
theorem u_lt (a : B32) : 0 ≤ u a ∧ u a < 4294967296 := by unfold u; have := a.isLt; omega
theorem uhi (a : B32) : BitVec.ofInt 32 (u a) = a := by simp [u]
theorem ukw {n : Int} (h0 : 0 ≤ n) (h : n < 4294967296) : IntKind.wrap .u32 n = n := by
  simp only [IntKind.wrap, IntKind.bits, IntKind.signed, Bool.false_and, Bool.false_eq_true, if_false]; omega
theorem uaJ {n : Int} (h0 : -9223372036854775808 ≤ n) (h : n < 9223372036854775808) : IntKind.wrap .i64 n = n := by
  simp [IntKind.wrap, IntKind.bits, IntKind.signed]; omega
theorem unm (a : B32) : IntKind.wrap .u32 (u a) = u a := ukw (u_lt a).1 (u_lt a).2
theorem ukx (a b : B32) : ixor .u32 (u a) (u b) = u (a ^^^ b) := by
  unfold ixor; show IntKind.wrap .u32 (BitVec.ofInt 32 (u a) ^^^ BitVec.ofInt 32 (u b)).toNat = _
  rw [uhi, uhi]; exact unm _
theorem upq (a b : B32) : iand .u32 (u a) (u b) = u (a &&& b) := by
  unfold iand; show IntKind.wrap .u32 (BitVec.ofInt 32 (u a) &&& BitVec.ofInt 32 (u b)).toNat = _
  rw [uhi, uhi]; exact unm _
theorem upr (a : B32) {n : Nat} (hn : n ≤ 32) : ishr .u32 (u a) n = u (a >>> n) := by
  unfold ishr
  have : min (Int.toNat (n : Int)) (IntKind.bits .u32) = n := by simp [IntKind.bits]; omega
  rw [this]
  simp only [u, BitVec.toNat_ushiftRight, Nat.shiftRight_eq_div_pow]
  rw [Int.fdiv_eq_ediv_of_nonneg _ (Int.le_of_lt (Int.pow_pos (by decide)))]
  simp
theorem unn (a : B32) : inot .u32 (u a) = u (~~~a) := by
  unfold inot
  show ixor .u32 (IntKind.max .u32) (u a) = _
  have : IntKind.max .u32 = u (BitVec.allOnes 32) := by decide
  rw [this, ukx]
  congr 1
end Sx
namespace Sx
open Go Go.RowKit
theorem uky (a p : List Int) : ubY a p = some (a.take p.length == p && decide (p.length ≤ a.length)) := by
  unfold ubY uaS
  simp only [ual, Option.bind_eq_bind]
  by_cases h : p.length ≤ a.length
  · have h1 : decide ((List.length a : Int) ≥ (List.length p : Int)) = true := by simp; omega
    simp only [h1, if_true]
    rw [if_pos ⟨by omega, by omega, by omega⟩]
    simp [h, uat]
  · have h1 : decide ((List.length a : Int) ≥ (List.length p : Int)) = false := by simp; omega
    simp [h1, h, uat]
def b8 (c : Int) : UInt8 := UInt8.ofNat c.toNat
theorem ueb {l : List Int} (h : uan l) (n : Nat) : uan (l.drop n) := fun c hc => h c (List.mem_of_mem_drop hc)
end Sx
namespace Sx
open Go Go.RowKit
end Sx
namespace Sx
open Go Go.RowKit
def decI (n : Nat) : List Int := ofB (Lib.decDigits n)
theorem ufu (n : Nat) : decI n = if n < 10 then [48 + (n : Int)] else decI (n / 10) ++ [48 + ((n % 10 : Nat) : Int)] := by
  unfold decI
  rw [Lib.decDigits]
  split
  · rename_i h
    simp only [ofB, List.map_cons, List.map_nil, UInt8.toNat_ofNat']
    congr 1; omega
  · simp only [ofB, List.map_append, List.map_cons, List.map_nil, UInt8.toNat_ofNat']
    congr 2; omega
theorem uhX (n : Int) : itoaI n = if n < 0 then 45 :: decI n.natAbs else decI n.toNat := by
  unfold itoaI Lib.itoa decI
  split
  · rfl
  · rfl
def isDig (c : Int) : Prop := 48 ≤ c ∧ c ≤ 57
instance (c : Int) : Decidable (isDig c) := by unfold isDig; exact inferInstance
def valD (a : Int) (l : List Int) : Int := l.foldl (fun a c => 10 * a + (c - 48)) a
theorem uhy (a : Int) (x y : List Int) : valD a (x ++ y) = valD (valD a x) y := by simp [valD]
theorem uhY : ∀ (n : Nat), (∀ c ∈ decI n, isDig c) ∧ valD 0 (decI n) = n ∧ decI n ≠ [] := by
  intro n
  induction n using Nat.strongRecOn with
  | ind n ih =>
    rw [ufu]
    split
    · rename_i h
      refine ⟨fun c hc => ?_, ?_, by simp⟩
      · simp at hc; subst hc; unfold isDig; omega
      · simp [valD]; omega
    · rename_i h
      obtain ⟨h1, h2, h3⟩ := ih (n / 10) (by omega)
      refine ⟨fun c hc => ?_, ?_, by simp⟩
      · rcases List.mem_append.1 hc with hc | hc
        · exact h1 c hc
        · simp at hc; subst hc; unfold isDig; omega
      · rw [uhy, h2]
        simp only [valD, List.foldl_cons, List.foldl_nil]
        omega
end Sx
namespace Sx
open Go
section
variable {V : Type}
theorem uhj (a b : List Int) : keq .str a b = (a == b) := rfl
theorem uoY (k : List Int) : pget .str k ([] : List (List Int × V)) = none := rfl
theorem ub1 (k : List Int) (p : List Int × V) (l : List (List Int × V)) : pget .str k (p :: l) = if p.1 = k then some p.2 else pget .str k l := by
  unfold pget
  rw [List.find?_cons]
  by_cases h : p.1 = k
  · simp [uhj, h]
  · have : keq .str p.1 k = false := by simp [uhj, h]
    simp [this, h]
theorem ulQ {k : List Int} {v : V} : ∀ {l : List (List Int × V)}, pget .str k l = some v → (k, v) ∈ l
  | [], h => by cases h
  | p :: l, h => by
    rw [ub1] at h
    split at h
    · rename_i hp
      simp only [Option.some.injEq] at h
      subst h; subst hp
      exact List.mem_cons_self ..
    · exact List.mem_cons_of_mem _ (ulQ h)
theorem get_none {k : List Int} : ∀ {l : List (List Int × V)}, pget .str k l = none ↔ k ∉ l.map (·.1)
  | [] => by simp [uoY]
  | p :: l => by
    rw [ub1]
    split
    · rename_i hp; simp [hp]
    · rename_i hp
      rw [get_none]
      simp only [List.map_cons, List.mem_cons, not_or]
      exact ⟨fun h => ⟨fun e => hp e.symm, h⟩, fun h => h.2⟩
theorem ufQ (k : List Int) (v : V) (p : List Int × V) (l : List (List Int × V)) : pset .str k v (p :: l) = (if p.1 = k then (p.1, v) else p) :: pset .str k v l := by
  unfold pset
  rw [List.map_cons]
  by_cases h : p.1 = k
  · simp [uhj, h]
  · simp [uhj, h]
theorem udp {k : List Int} {v y : V} : ∀ {l : List (List Int × V)}, pget .str k l = some y → pget .str k (pset .str k v l) = some v
  | [], h => by cases h
  | p :: l, h => by
    rw [ub1] at h
    rw [ufQ, ub1]
    by_cases hp : p.1 = k
    · simp [hp]
    · rw [if_neg hp] at h
      rw [if_neg hp, if_neg hp]
      exact udp h
theorem ucq (k : List Int) (v : V) : ∀ (l : List (List Int × V)), (pset .str k v l).map (·.1) = l.map (·.1)
  | [] => rfl
  | p :: l => by
    rw [ufQ, List.map_cons, List.map_cons, ucq k v l]
    split <;> simp_all
theorem ukz {k : List Int} {v : V} {q : List Int × V} : ∀ {l : List (List Int × V)}, q ∈ pset .str k v l → q = (k, v) ∨ q ∈ l
  | [], h => by cases h
  | p :: l, h => by
    rw [ufQ] at h
    rcases List.mem_cons.1 h with h | h
    · by_cases hp : p.1 = k
      · rw [if_pos hp] at h; left; rw [h, hp]
      · rw [if_neg hp] at h; right; simp [h]
    · rcases ukz h with h | h
      · exact .inl h
      · exact .inr (by simp [h])
theorem uev (k : List Int) (l : List (List Int × V)) : pdel .str k l = l.filter fun p => !(p.1 == k) := rfl
theorem uec {a b : List Int} (h : a ≠ b) : ∀ (l : List (List Int × V)), pget .str b (pdel .str a l) = pget .str b l
  | [] => rfl
  | p :: l => by
    rw [uev, List.filter_cons]
    by_cases hp : p.1 = a
    · have : (!(p.1 == a)) = false := by simp [hp]
      rw [if_neg (by simp [this]), ub1, if_neg (by rw [hp]; exact h)]
      exact uec h l
    · rw [if_pos (by simp [hp]), ub1, ub1]
      rw [← uev, uec h l]
theorem uhZ {k : List Int} {q : List Int × V} {l : List (List Int × V)} (h : q ∈ pdel .str k l) : q ∈ l := (List.mem_filter.1 h).1
theorem pins_mem {k : List Int} {v : V} {q : List Int × V} : ∀ {l : List (List Int × V)}, q ∈ pins .str k v l ↔ q = (k, v) ∨ q ∈ l
  | [] => by simp [pins]
  | p :: l => by
    simp only [pins]
    split
    · simp
    · simp only [List.mem_cons, pins_mem (l := l)]
      constructor
      · rintro (h | h | h)
        · exact .inr (.inl h)
        · exact .inl h
        · exact .inr (.inr h)
      · rintro (h | h | h)
        · exact .inr (.inl h)
        · exact .inl h
        · exact .inr (.inr h)
theorem ugW {k : List Int} {v : V} : ∀ (l : List (List Int × V)), (pins .str k v l).length = l.length + 1
  | [] => rfl
  | p :: l => by
    simp only [pins]
    split
    · rfl
    · simp [ugW l]
theorem uhz {a b : List Int} (h : a ≠ b) (v : V) : ∀ (l : List (List Int × V)), pget .str b (pins .str a v l) = pget .str b l
  | [] => by rw [show pins .str a v ([] : List (List Int × V)) = [(a, v)] from rfl, ub1, if_neg h]
  | p :: l => by
    simp only [pins]
    split
    · rw [ub1, if_neg h]
    · rw [ub1, ub1, uhz h v l]
theorem ugz {a : List Int} (v : V) : ∀ (l : List (List Int × V)), pget .str a l = none → pget .str a (pins .str a v l) = some v
  | [], _ => by rw [show pins .str a v ([] : List (List Int × V)) = [(a, v)] from rfl, ub1, if_pos rfl]
  | p :: l, h => by
    rw [ub1] at h
    have hp : p.1 ≠ a := fun e => by rw [if_pos e] at h; cases h
    rw [if_neg hp] at h
    simp only [pins]
    split
    · rw [ub1, if_pos rfl]
    · rw [ub1, if_neg hp, ugz v l h]
theorem ugA (a : List Int) (v : V) (l : List (List Int × V)) : pget .str a (pput .str a v l) = some v := ugz v _ (ueg (kt := .str) l)
theorem ule {a b : List Int} (h : a ≠ b) (v : V) (l : List (List Int × V)) : pget .str b (pput .str a v l) = pget .str b l := by
  unfold pput
  rw [uhz h, uec h]
theorem ueS {a : List Int} (v : V) : ∀ (l : List (List Int × V)), ((pins .str a v l).map (·.1)).Perm (a :: l.map (·.1))
  | [] => .refl _
  | p :: l => by
    simp only [pins]
    split
    · exact .refl _
    · simp only [List.map_cons]
      exact ((ueS v l).cons _).trans (.swap _ _ _)
theorem ufT (k : List Int) (l : List (List Int × V)) : (pdel .str k l).length ≤ l.length := List.length_filter_le _ _
theorem ugb {k : List Int} {v : V} : ∀ {l : List (List Int × V)}, pget .str k l = some v → (pdel .str k l).length < l.length
  | [], h => by cases h
  | p :: l, h => by
    rw [ub1] at h
    rw [uev, List.filter_cons]
    by_cases hp : p.1 = k
    · rw [if_neg (by simp [hp])]
      have := ufT k l
      rw [uev] at this
      simp only [List.length_cons]; omega
    · rw [if_neg hp] at h
      rw [if_pos (by simp [hp])]
      have := ugb h
      rw [uev] at this
      simp only [List.length_cons]; omega
theorem uir {k : List Int} {l : List (List Int × V)} (h : (l.map (·.1)).Nodup) : ((pdel .str k l).map (·.1)).Nodup := h.sublist (List.Sublist.map _ List.filter_sublist)
end
def FOk (f : FileS) : Prop := uan f.1 ∧ uan f.2.1 ∧ f.1.length ≤ 1048576 ∧ f.2.1.length ≤ f.1.length ∧ f.2.2.Nodup ∧ ∀ s ∈ f.2.2, 0 ≤ s ∧ s < 16384
def FsOk (fs : List (List Int × FileS)) : Prop := (∀ p ∈ fs, FOk p.2) ∧ (fs.map (·.1)).Nodup ∧ fs.length ≤ 16
theorem FsOk.get {fs : List (List Int × FileS)} (h : FsOk fs) {k : List Int} {f : FileS} (hf : pget .str k fs = some f) : FOk f := h.1 _ (ulQ hf)
theorem FsOk.set {fs : List (List Int × FileS)} (h : FsOk fs) {k : List Int} {f : FileS} (hf : FOk f) : FsOk (pset .str k f fs) :=
  ⟨fun p hp => by rcases ukz hp with rfl | hp; exact hf; exact h.1 p hp, by rw [ucq]; exact h.2.1, by have := congrArg List.length (ucq k f fs); simp only [List.length_map] at this; rw [this]; exact h.2.2⟩
theorem FsOk.del {fs : List (List Int × FileS)} (h : FsOk fs) (k : List Int) : FsOk (pdel .str k fs) := ⟨fun p hp => h.1 p (uhZ hp), uir h.2.1, Nat.le_trans (ufT _ _) h.2.2⟩
theorem FsOk.put {fs : List (List Int × FileS)} (h : FsOk fs) {k : List Int} {f : FileS} (hf : FOk f) (hl : pget .str k fs = none → fs.length < 16) : FsOk (pput .str k f fs) := by
  refine ⟨fun p hp => ?_, ?_, ?_⟩
  · rcases pins_mem.1 hp with rfl | hp
    · exact hf
    · exact h.1 p (uhZ hp)
  · refine (List.Perm.nodup_iff (ueS (a := k) f (pdel .str k fs))).2 ?_
    exact List.nodup_cons.2 ⟨get_none.1 (ueg (kt := .str) fs), uir h.2.1⟩
  · unfold pput
    rw [ugW]
    cases hg : pget .str k fs with
    | none => have := hl hg; have := ufT k fs; omega
    | some y => have := ugb hg; have := h.2.2; omega
theorem ujm (D : DiskS) : ∀ (ks : List (List Int)) (s : Int), (∀ k ∈ ks, ∃ f, pget .str k D.2.1 = some f ∧ f.1.length ≤ 1048576) → 0 ≤ s → s + ks.length * 1048576 < 4611686018427387904 →
    ∃ s', foldK (ubA D) ks s = some s' ∧ 0 ≤ s' ∧ s' ≤ s + ks.length * 1048576
  | [], s, _, h0, _ => ⟨s, rfl, h0, by simp⟩
  | k :: ks, s, hk, h0, hb => by
    obtain ⟨f, hf, hl⟩ := hk k (by simp)
    simp only [List.length_cons, Int.natCast_add, Int.cast_ofNat_Int] at hb ⊢
    have e : ubA D k s = some (s + f.1.length) := by
      unfold ubA
      simp only [hf, Option.bind_some, ual]
      rw [uaJ (by omega) (by omega)]
    obtain ⟨s', h1, h2, h3⟩ := ujm D ks (s + f.1.length) (fun k' hk' => hk k' (by simp [hk'])) (by omega) (by omega)
    refine ⟨s', ?_, h2, by omega⟩
    show (ubA D k s).bind _ = _
    rw [e]; exact h1
theorem ulR {D : DiskS} (h : FsOk D.2.1) : ∃ u, ucs D = some u ∧ 0 ≤ u ∧ u ≤ D.2.1.length * 1048576 := by
  obtain ⟨s', h1, h2, h3⟩ := ujm D (D.2.1.map (·.1)) 0 (fun k hk => by
    cases hg : pget .str k D.2.1 with
    | none => exact absurd hk (get_none.1 hg)
    | some f => exact ⟨f, rfl, (h.get hg).2.2.1⟩) (by omega) (by simp only [List.length_map]; have := h.2.2; omega)
  refine ⟨s', ?_, h2, ?_⟩
  · unfold ucs
    simp only [ual, h1, Option.bind_some]
  · simp only [List.length_map] at h3; omega
end Sx
namespace Sx
open Go
theorem ufo (D : DiskS) (w : Int) : ∃ e a f o p, ubc D w = some (e, (D.1, D.2.1, a, D.2.2.2.1, f, o, p)) ∧ ((e = 9 ∧ o = true ∧ p = true) ∨ ((e = 0 ∨ e = 40) ∧ o = D.2.2.2.2.2.1 ∧ p = D.2.2.2.2.2.2)) := by
  unfold ubc
  simp only [ual]
  split
  · split
    · exact ⟨9, _, _, _, _, rfl, .inl ⟨rfl, rfl, rfl⟩⟩
    · split
      · split
        · split
          · exact ⟨40, _, _, _, _, rfl, .inr ⟨.inr rfl, rfl, rfl⟩⟩
          · exact ⟨0, _, _, _, _, rfl, .inr ⟨.inl rfl, rfl, rfl⟩⟩
        · exact ⟨0, _, _, _, _, rfl, .inr ⟨.inl rfl, rfl, rfl⟩⟩
      · rw [if_neg (by decide)]
        exact ⟨0, _, _, _, _, rfl, .inr ⟨.inl rfl, rfl, rfl⟩⟩
  · split
    · split
      · split
        · exact ⟨40, _, _, _, _, rfl, .inr ⟨.inr rfl, rfl, rfl⟩⟩
        · exact ⟨0, _, _, _, _, rfl, .inr ⟨.inl rfl, rfl, rfl⟩⟩
      · exact ⟨0, _, _, _, _, rfl, .inr ⟨.inl rfl, rfl, rfl⟩⟩
    · rw [if_neg (by decide)]
      exact ⟨0, _, _, _, _, rfl, .inr ⟨.inl rfl, rfl, rfl⟩⟩
theorem ufC {D : DiskS} (name : List Int) (ho : D.2.2.2.2.2.1 = false) : ub4 D name = some (if (pget .str name D.2.1).isSome then 0 else 5) := by
  unfold ub4
  rw [if_neg (by simp [ho])]
  simp only [ual]
  cases pget .str name D.2.1 <;> rfl
theorem ueT {l : List Int} (h : l.length ≤ 1048576) : uaH l = some l := by
  unfold uaH
  rw [if_pos (by simp only [List.length_nil]; omega)]
  rfl
theorem ulS {D : DiskS} {name : List Int} {f : FileS} (hok : FsOk D.2.1) (ho : D.2.2.2.2.2.1 = false) (hf : pget .str name D.2.1 = some f) : ∃ e a fl o p, ubc D 2 = some (e, (D.1, D.2.1, a, D.2.2.2.1, fl, o, p)) ∧
    udb D name = some (if e = 0 then (0, (D.1, pset .str name (f.1, f.1, []) D.2.1, a, D.2.2.2.1, fl, o, p)) else (e, (D.1, D.2.1, a, D.2.2.2.1, fl, o, p))) := by
  obtain ⟨e, a, fl, o, p, hc, _⟩ := ufo D 2
  refine ⟨e, a, fl, o, p, hc, ?_⟩
  unfold udb
  rw [ufC name ho, hf]
  simp only [Option.isSome_some, if_true, Option.bind_some, hc]
  rw [if_neg (by decide)]
  by_cases he : e = 0
  · subst he
    rw [if_neg (by decide)]
    simp only [hf, Option.bind_some, ueT (hok.get hf).2.2.1, if_true]
  · rw [if_pos (by simpa using he), if_neg he]
theorem ujn {D : DiskS} {a : List Int} (ho : D.2.2.2.2.2.1 = false) : ucM D a = some (if (pget .str a D.2.1).isSome then (0, (D.1, pdel .str a D.2.1, D.2.2.1, D.2.2.2.1, D.2.2.2.2.1, D.2.2.2.2.2.1, D.2.2.2.2.2.2)) else (5, D)) := by
  unfold ucM
  rw [ufC a ho]
  cases h : pget .str a D.2.1 <;> simp
theorem kput_mem {k q : Int} {ks : List Int} : q ∈ kput k ks ↔ q = k ∨ q ∈ ks := by
  unfold kput pput
  have : ∀ l : List (Int × Unit), q ∈ (pins (.int .i64) k () l).map (·.1) ↔ q = k ∨ q ∈ l.map (·.1) := by
    intro l
    induction l with
    | nil => simp [pins]
    | cons p l ih =>
      simp only [pins]
      split
      · simp
      · simp only [List.map_cons, List.mem_cons, ih]
        constructor
        · rintro (h | h | h)
          · exact .inr (.inl h)
          · exact .inl h
          · exact .inr (.inr h)
        · rintro (h | h | h)
          · exact .inr (.inl h)
          · exact .inl h
          · exact .inr (.inr h)
  rw [this]
  constructor
  · rintro (h | h)
    · exact .inl h
    · obtain ⟨p, hp, e⟩ := List.mem_map.1 h
      have hp := (List.mem_filter.1 hp).1
      obtain ⟨x, hx, e2⟩ := List.mem_map.1 hp
      subst e2; subst e
      exact .inr hx
  · rintro (h | h)
    · exact .inl h
    · by_cases hq : q = k
      · exact .inl hq
      · exact .inr (List.mem_map.2 ⟨(q, ()), List.mem_filter.2 ⟨List.mem_map.2 ⟨q, h, rfl⟩, by simp [keq, hq]⟩, rfl⟩)
theorem ume {k : Int} {ks : List Int} (h : ks.Nodup) : (kput k ks).Nodup := by
  unfold kput pput
  have key : ∀ l : List (Int × Unit), ((pins (.int .i64) k () l).map (·.1)).Perm (k :: l.map (·.1)) := by
    intro l
    induction l with
    | nil => exact .refl _
    | cons p l ih =>
      simp only [pins]
      split
      · exact .refl _
      · simp only [List.map_cons]
        exact (ih.cons _).trans (.swap _ _ _)
  refine (List.Perm.nodup_iff (key _)).2 (List.nodup_cons.2 ⟨fun hk => ?_, ?_⟩)
  · obtain ⟨p, hp, e⟩ := List.mem_map.1 hk
    have := (List.mem_filter.1 hp).2
    subst e
    simp [keq] at this
  · refine List.Nodup.sublist (List.Sublist.map _ List.filter_sublist) ?_
    have e : (ks.map fun x => (x, ())).map (·.1) = ks := by rw [List.map_map]; exact List.map_id _
    rw [e]; exact h
theorem ugX {l : List Int} (hn : l.Nodup) (hb : ∀ s ∈ l, 0 ≤ s ∧ s < 16384) : l.length ≤ 16384 := by
  have : (l.map Int.toNat).Nodup := by
    refine List.Pairwise.map _ (fun a b h => h) ?_
    refine List.Pairwise.imp_of_mem ?_ hn
    intro a b ha hb' h e
    have := hb a ha; have := hb b hb'
    exact h (by omega)
  have h2 : (l.map Int.toNat) ⊆ List.range 16384 := fun x hx => by
    obtain ⟨s, hs, rfl⟩ := List.mem_map.1 hx
    have := hb s hs
    exact List.mem_range.2 (by omega)
  have := List.Nodup.length_le_of_subset this h2
  simpa using this
theorem ukA (at0 : Int) (text : List Int) (k : List Int → Option (Int × DiskS)) (h0 : 0 ≤ at0) (hb : at0 + text.length ≤ 1048576) : ∀ (fuel : Nat) (s : Int) (ds : List Int), 0 ≤ s → at0 + text.length ≤ (s + fuel - 1) * 64 → 1 ≤ fuel → s ≤ 16384 → ds.Nodup → (∀ x ∈ ds, 0 ≤ x ∧ x < 16384) →
    ∃ ds', ua4 at0 text k fuel (s, ds) = k ds' ∧ ds'.Nodup ∧ (∀ x ∈ ds', 0 ≤ x ∧ x < 16384) ∧ ∀ x, x ∈ ds' ↔ x ∈ ds ∨ (text ≠ [] ∧ s ≤ x ∧ x * 64 < at0 + text.length)
  | 0, s, ds, _, _, h1, _, _, _ => absurd h1 (by omega)
  | fuel + 1, s, ds, hs, hf, _, hs2, hn, hd => by
    simp only [ua4, ual]
    rw [uaJ (n := s * 64) (by omega) (by omega), uaJ (n := at0 + text.length) (by omega) (by omega)]
    by_cases hc : (decide (s * 64 < at0 + (text.length : Int)) && (text != [])) = true
    · rw [if_pos hc]
      have hlt : s * 64 < at0 + (text.length : Int) := by simp only [Bool.and_eq_true, decide_eq_true_eq] at hc; exact hc.1
      rw [if_pos (by have := ugX hn hd; omega), uaJ (n := s + 1) (by omega) (by omega)]
      have hfu : 1 ≤ fuel := by
        rcases Nat.eq_zero_or_pos fuel with h | h
        · subst h; simp at hf; omega
        · exact h
      have htx : text ≠ [] := by simp only [Bool.and_eq_true, bne_iff_ne] at hc; exact hc.2
      obtain ⟨ds', e1, e2, e3, e4⟩ := ukA at0 text k h0 hb fuel (s + 1) (kput s ds) (by omega) (by simp only [Int.natCast_add, Int.cast_ofNat_Int] at hf; omega) hfu (by omega) (ume hn) (fun x hx => by
        rcases kput_mem.1 hx with rfl | hx
        · omega
        · exact hd x hx)
      refine ⟨ds', e1, e2, e3, fun x => (e4 x).trans ?_⟩
      rw [kput_mem]
      constructor
      · rintro ((rfl | h) | ⟨h1, h2, h3⟩)
        · exact .inr ⟨htx, by omega, by omega⟩
        · exact .inl h
        · exact .inr ⟨h1, by omega, h3⟩
      · rintro (h | ⟨h1, h2, h3⟩)
        · exact .inl (.inr h)
        · rcases Int.lt_or_eq_of_le h2 with h | h
          · exact .inr ⟨h1, by omega, h3⟩
          · exact .inl (.inl h.symm)
    · rw [if_neg hc]
      refine ⟨ds, rfl, hn, hd, fun x => ⟨.inl, fun h => h.elim id fun ⟨h1, h2, h3⟩ => absurd ?_ hc⟩⟩
      simp only [Bool.and_eq_true, decide_eq_true_eq, bne_iff_ne]
      exact ⟨by omega, h1⟩
end Sx
namespace Sx
open Go
def over (seen : List Int) (i : Nat) (text : List Int) : List Int := seen.take i ++ text ++ seen.drop (i + text.length)
theorem uhA {seen text : List Int} {i : Nat} (h : i ≤ seen.length) : (over seen i text).length = max seen.length (i + text.length) := by
  unfold over
  simp only [List.length_append, List.length_take, List.length_drop]
  omega
theorem uno {xs ys : List Int} {i : Nat} (h : i + ys.length ≤ xs.length) : uaL xs i ys = over xs i ys := by
  unfold uaL over
  rw [List.take_of_length_le (l := ys) (by omega)]
theorem umf {seen text : List Int} {i : Nat} (h : i ≤ seen.length) (h2 : seen.length < i + text.length) (m : Nat) (hm : m = i + text.length - seen.length) : over (seen ++ List.replicate m 0) i text = over seen i text := by
  unfold over
  rw [List.take_append_of_le_length h, List.drop_of_length_le (by simp; omega), List.drop_of_length_le (by omega)]
theorem ue1 {a b : List Int} (ha : uan a) (hb : uan b) : uan (a ++ b) := fun x hx => (List.mem_append.1 hx).elim (ha x) (hb x)
theorem udC {a b : List Int} (hs : a ⊆ b) (hb : uan b) : uan a := fun x hx => hb x (hs hx)
theorem umg {seen text : List Int} {i : Nat} (hs : uan seen) (ht : uan text) : uan (over seen i text) :=
  ue1 (ue1 (udC (List.take_subset _ _) hs) ht) (udC (List.drop_subset _ _) hs)
def uaB (fs : List (List Int × FileS)) (name : List Int) : List Int := ((pget .str name fs).map (·.1)).getD []
def udJ (fs : List (List Int × FileS)) (name : List Int) : List Int := ((pget .str name fs).map (·.2.1)).getD []
def udj (fs : List (List Int × FileS)) (name : List Int) : List Int := match pget .str name fs with | none => [] | some f => f.2.2
theorem ulf {D : DiskS} {name text : List Int} {at0 : Int} (hok : FsOk D.2.1) (ho : D.2.2.2.2.2.1 = false) (hn : uc7 name = some true) (ht : uan text) (h0 : 0 ≤ at0) (h1 : at0 ≤ (uaB D.2.1 name).length) (hb : at0 + text.length ≤ 1048576)
    (hroom : pget .str name D.2.1 = none → D.2.1.length < 16) (hcap : ∀ u, ucs D = some u → u + max 0 (at0 + text.length - (uaB D.2.1 name).length) ≤ D.1) :
    ∃ e a fl o p fs', ubc D 1 = some (e, (D.1, D.2.1, a, D.2.2.2.1, fl, o, p)) ∧ uaV D name at0 text = some (if e = 0 then (0, (D.1, fs', a, D.2.2.2.1, fl, o, p)) else (e, (D.1, D.2.1, a, D.2.2.2.1, fl, o, p))) ∧
      FsOk fs' ∧ (∃ ds, pget .str name fs' = some (over (uaB D.2.1 name) at0.toNat text, udJ D.2.1 name, ds) ∧ ∀ x, x ∈ ds ↔ x ∈ udj D.2.1 name ∨ (text ≠ [] ∧ at0 / 64 ≤ x ∧ x * 64 < at0 + text.length)) ∧ (∀ b, name ≠ b → pget .str b fs' = pget .str b D.2.1) ∧ fs'.map (·.1) = (if (pget .str name D.2.1).isSome then D.2.1 else pput .str name ([], [], []) D.2.1).map (·.1) := by
  obtain ⟨e, a, fl, o, p, hc, _⟩ := ufo D 1
  obtain ⟨u, hu, hu0, hu1⟩ := ulR hok
  have hlen := hok.2.2
  replace hcap := hcap u hu
  have hbase : ∃ fs1 f1, fs1 = (if (pget .str name D.2.1).isSome then D.2.1 else pput .str name ([], [], []) D.2.1) ∧ pget .str name fs1 = some f1 ∧ f1.1 = uaB D.2.1 name ∧ f1.2.1 = udJ D.2.1 name ∧ f1.2.2 = udj D.2.1 name ∧ FsOk fs1 ∧ FOk f1 ∧ ∀ b, name ≠ b → pget .str b fs1 = pget .str b D.2.1 := by
    cases hg : pget .str name D.2.1 with
    | some f => exact ⟨_, f, by simp, hg, by simp [uaB, hg], by simp [udJ, hg], by simp [udj, hg], hok, hok.get hg, fun _ _ => rfl⟩
    | none =>
      have hf0 : FOk ([], [], []) := ⟨(fun x hx => by cases hx), (fun x hx => by cases hx), by simp, by simp, by simp, (fun x hx => by cases hx)⟩
      exact ⟨_, ([], [], []), by simp, ugA _ _ _, by simp [uaB, hg], by simp [udJ, hg], by simp [udj, hg], hok.put hf0 hroom, hf0, fun b hb => ule hb _ _⟩
  obtain ⟨fs1, f1, hfs1, hg1, hs1, hsf, hdf, hok1, hfo, hne1⟩ := hbase
  have hsl : f1.1.length ≤ 1048576 := hfo.2.2.1
  rw [← hs1] at h1 hcap
  have hlong : ∃ fs2 z, (fs2 = if at0 + (text.length : Int) > f1.1.length then pset .str name (f1.1 ++ List.replicate z 0, f1.2.1, f1.2.2) fs1 else fs1) ∧ z = Int.toNat (at0 + text.length - f1.1.length) := ⟨_, _, rfl, rfl⟩
  obtain ⟨fs2, z, hfs2, hz⟩ := hlong
  let f2s : List Int := if at0 + (text.length : Int) > f1.1.length then f1.1 ++ List.replicate z 0 else f1.1
  have hg2 : pget .str name fs2 = some (f2s, f1.2.1, f1.2.2) := by
    rw [hfs2]
    show _ = some ((if _ then _ else _), _, _)
    split
    · exact udp hg1
    · exact hg1
  have hne2 : ∀ b, name ≠ b → pget .str b fs2 = pget .str b D.2.1 := fun b hb => by
    rw [hfs2]
    split
    · rw [ubU hb, hne1 b hb]
    · exact hne1 b hb
  have hk2 : fs2.map (·.1) = fs1.map (·.1) := by
    rw [hfs2]
    split
    · rw [ucq]
    · rfl
  have hf2l : (f2s.length : Int) = max (f1.1.length : Int) (at0 + text.length) := by
    show ((if _ then _ else _ : List Int).length : Int) = _
    split
    · rename_i hgt
      simp only [List.length_append, List.length_replicate, hz]; omega
    · omega
  have hf2b : uan f2s := by
    show uan (if _ then _ else _)
    split
    · exact ue1 hfo.1 (fun x hx => by rw [(List.mem_replicate.1 hx).2]; decide)
    · exact hfo.1
  have hov : uaL f2s (Int.toNat at0) text = over f1.1 (Int.toNat at0) text := by
    rw [uno (by omega)]
    show over (if _ then _ else _) _ _ = _
    split
    · rename_i hgt
      exact umf (by omega) (by omega) z (by rw [hz]; omega)
    · rfl
  have hok2 : FsOk fs2 := by
    rw [hfs2]
    split
    · rename_i hgt
      refine hok1.set ⟨ue1 hfo.1 (fun x hx => by rw [(List.mem_replicate.1 hx).2]; decide), hfo.2.1, ?_, ?_, hfo.2.2.2.2⟩
      · simp only [List.length_append, List.length_replicate, hz]; omega
      · have := hfo.2.2.2.1
        simp only [List.length_append, List.length_replicate]; omega
    · exact hok1
  obtain ⟨ds, hds, hdn, hdb, hdm⟩ := ukA at0 text (fun o30 => some ((0 : Int), (D.1, pset .str name (uaL f2s (Int.toNat at0) text, f1.2.1, o30) fs2, a, D.2.2.2.1, fl, o, p))) h0 hb (text.length + 2) (at0 / 64) f1.2.2 (by omega) (by omega) (by omega) (by omega) hfo.2.2.2.2.1 hfo.2.2.2.2.2
  refine ⟨e, a, fl, o, p, pset .str name (uaL f2s (Int.toNat at0) text, f1.2.1, ds) fs2, hc, ?_, ?_, ⟨ds, ?_⟩, fun b hb => by rw [ubU hb, hne2 b hb], by rw [ucq, hk2, hfs1]⟩
  · have hsz : (0 : Int) ≤ (f1.1.length : Int) := by omega
    have hw1 : IntKind.wrap .i64 (at0 + (text.length : Int)) = at0 + text.length := uaJ (by omega) (by omega)
    have hw2 : IntKind.wrap .i64 (at0 + (text.length : Int) - f1.1.length) = at0 + text.length - f1.1.length := uaJ (by omega) (by omega)
    have hw3 : IntKind.wrap .i64 (u + max 0 (at0 + (text.length : Int) - f1.1.length)) = u + max 0 (at0 + (text.length : Int) - f1.1.length) := uaJ (by omega) (by omega)
    have htd : IntKind.wrap .i64 (Int.tdiv at0 64) = at0 / 64 := by rw [Int.tdiv_eq_ediv_of_nonneg h0]; exact uaJ (by omega) (by omega)
    have tail : ∀ (n0 : Int), n0 = f1.1.length → ∀ k16fs : List (List Int × FileS), k16fs = fs1 → (fun (o17 : List (List Int × FileS)) => if (decide (at0 + (text.length : Int) > n0)) = true then ((pget .str name o17).bind fun (f41 : FileS) => if 0 ≤ at0 + (text.length : Int) - n0 ∧ (List.length f41.1 + Int.toNat (at0 + (text.length : Int) - n0)) * 1 ≤ 140737488355328 then
        ((pget .str name (pset .str name ((f41.1 ++ List.replicate (Int.toNat (at0 + (text.length : Int) - n0)) 0), f41.2.1, f41.2.2) o17)).bind fun (f22 : FileS) => if (0 : Int) ≤ at0 ∧ at0 ≤ (List.length f22.1 : Int) ∧ (List.length f22.1 : Int) ≤ (List.length f22.1 : Int) then ua4 at0 text (fun o30 => some ((0 : Int), (D.1, (pset .str name ((uaL f22.1 (Int.toNat at0) text), f22.2.1, o30) (pset .str name ((f41.1 ++ List.replicate (Int.toNat (at0 + (text.length : Int) - n0)) 0), f41.2.1, f41.2.2) o17)), a, D.2.2.2.1, fl, o, p))) (text.length + 2) (at0 / 64, f22.2.2) else none) else none) else
        ((pget .str name o17).bind fun (f22 : FileS) => if (0 : Int) ≤ at0 ∧ at0 ≤ (List.length f22.1 : Int) ∧ (List.length f22.1 : Int) ≤ (List.length f22.1 : Int) then ua4 at0 text (fun o30 => some ((0 : Int), (D.1, (pset .str name ((uaL f22.1 (Int.toNat at0) text), f22.2.1, o30) o17), a, D.2.2.2.1, fl, o, p))) (text.length + 2) (at0 / 64, f22.2.2) else none)) k16fs = some (0, (D.1, pset .str name (uaL f2s (Int.toNat at0) text, f1.2.1, ds) fs2, a, D.2.2.2.1, fl, o, p)) := by
      rintro n0 hn0 k16fs rfl
      subst hn0
      rw [← hds]
      show (if _ then _ else _) = _
      by_cases hgt : at0 + (text.length : Int) > f1.1.length
      · have e1 : f2s = f1.1 ++ List.replicate z 0 := if_pos hgt
        have e2 : fs2 = pset .str name (f1.1 ++ List.replicate z 0, f1.2.1, f1.2.2) k16fs := by rw [hfs2, if_pos hgt]
        rw [if_pos (by simpa using hgt), hg1]
        simp only [Option.bind_some]
        rw [if_pos (by omega), ← hz, ← e2, hg2]
        simp only [Option.bind_some]
        rw [if_pos (by omega)]
      · have e1 : f2s = f1.1 := if_neg hgt
        have e2 : fs2 = k16fs := by rw [hfs2, if_neg hgt]
        rw [if_neg (by simpa using hgt)]
        rw [e2] at hg2
        rw [hg2]
        simp only [Option.bind_some]
        rw [if_pos (by omega), e2]
    unfold uaV
    rw [if_neg (by simp [ho])]
    simp only [ual, hn, hu, hc, Option.bind_some]
    have hne : ∀ n0 : Int, n0 = f1.1.length → (if (decide (at0 < 0) || decide (at0 > n0)) = true then some (1, D)
    else
      if decide (IntKind.i64.wrap (at0 + ↑text.length) > 1048576) = true then some (3, D)
      else
        if decide (IntKind.i64.wrap (u + max 0 (IntKind.i64.wrap (IntKind.i64.wrap (at0 + ↑text.length) - n0))) > D.fst) = true then some (41, D)
        else if (e != 0) = true then some (e, D.fst, D.snd.fst, a, D.snd.snd.snd.fst, fl, o, p) else some (0, (D.1, pset .str name (uaL f2s (Int.toNat at0) text, f1.2.1, ds) fs2, a, D.2.2.2.1, fl, o, p))) = some (if e = 0 then (0, (D.1, pset .str name (uaL f2s (Int.toNat at0) text, f1.2.1, ds) fs2, a, D.2.2.2.1, fl, o, p)) else (e, (D.1, D.2.1, a, D.2.2.2.1, fl, o, p))) := by
      rintro n0 rfl
      rw [hw1, hw2, hw3, if_neg (by simp only [Bool.or_eq_true, decide_eq_true_eq]; omega), if_neg (by simp only [decide_eq_true_eq]; omega), if_neg (by simp only [decide_eq_true_eq]; omega)]
      by_cases he : e = 0
      · rw [if_neg (by simp [he]), if_pos he]
      · rw [if_pos (by simpa using he), if_neg he]
    cases hg : pget .str name D.2.1 with
    | none =>
      rw [hg] at hfs1
      simp only [Option.isSome_none, Bool.false_eq_true, if_false] at hfs1
      have hfe : f1 = ([], [], []) := by rw [hfs1, ugA] at hg1; exact (Option.some.inj hg1).symm
      have hl0 : (0 : Int) = (f1.1.length : Int) := by rw [hfe]; rfl
      have hr := hroom hg
      rw [← hne 0 hl0, ← tail 0 hl0 _ hfs1.symm]
      simp only [Option.isSome_none, Bool.false_eq_true, if_false, Bool.not_true, Bool.false_or, Bool.not_false, if_true]
      have hm : D.2.1.length ≤ most := by simp only [most]; omega
      have h16 : ¬ decide ((D.2.1.length : Int) ≥ 16) = true := by simp only [decide_eq_true_eq]; omega
      have h62 : D.2.1.length < 4611686018427387904 := by omega
      simp only [if_pos hm, if_neg h16, if_pos h62, htd, hw1]
      have hw2' : IntKind.wrap .i64 (at0 + (text.length : Int) - 0) = at0 + text.length - 0 := uaJ (by omega) (by omega)
      simp only [hw2']
    | some f =>
      rw [hg] at hfs1
      simp only [Option.isSome_some, if_true] at hfs1
      have hff : f1 = f := by rw [hfs1, hg] at hg1; exact (Option.some.inj hg1).symm
      have hl0 : (f.1.length : Int) = (f1.1.length : Int) := by rw [hff]
      rw [← hne _ hl0, ← tail _ hl0 _ hfs1.symm]
      simp only [Option.isSome_some, if_true, Option.bind_some, Bool.not_true, Bool.false_or, Bool.false_eq_true, if_false]
      have hw2' : IntKind.wrap .i64 (at0 + (text.length : Int) - f.1.length) = at0 + text.length - f.1.length := by rw [hl0]; exact hw2
      simp only [htd, hw1, hw2', hg, Option.bind_some]
  · refine hok2.set ⟨?_, hfo.2.1, ?_, ?_, hdn, hdb⟩
    · show uan (uaL _ _ _)
      rw [hov]; exact umg hfo.1 ht
    · show (uaL _ _ _).length ≤ _
      rw [hov, uhA (by omega)]; omega
    · show f1.2.1.length ≤ (uaL _ _ _).length
      have := hfo.2.2.2.1
      rw [hov, uhA (by omega)]; omega
  · refine ⟨by rw [udp hg2, hov, hs1, hsf], fun x => ?_⟩
    rw [← hdf]; exact hdm x
end Sx
namespace Sx
open Go
theorem ukB (a : List Int) (hl : a.length < 4611686018427387904) (k : Unit → Option Bool) (hk : ∃ b, k () = some b) : ∀ (j i : Nat), i + j = a.length → ∃ b, ucL a k (j + 1) (i : Int) = some b
  | 0, i, h => by
    unfold ucL
    rw [if_neg (by simp only [decide_eq_true_eq]; omega)]
    exact hk
  | j + 1, i, h => by
    unfold ucL
    rw [if_pos (by simp only [decide_eq_true_eq]; omega)]
    have hin : (0 : Int) ≤ (i : Int) ∧ (i : Int) < (a.length : Int) := by omega
    have ew : IntKind.wrap .i64 ((i : Int) + 1) = ((i + 1 : Nat) : Int) := uaJ (by omega) (by omega)
    obtain ⟨b, hb⟩ := ukB a hl k hk j (i + 1) (by omega)
    simp only [ual, ew, hb, if_pos hin]
    by_cases h1 : decide (List.getD a (Int.toNat (i : Int)) 0 < 33) = true
    · rw [if_pos h1]; exact ⟨_, rfl⟩
    · rw [if_neg h1]
      by_cases h2 : decide (List.getD a (Int.toNat (i : Int)) 0 > 126) = true
      · rw [if_pos h2]; exact ⟨_, rfl⟩
      · rw [if_neg h2]; exact ⟨_, rfl⟩
theorem umh (a : List Int) (hl : a.length < 4611686018427387904) : ∃ b, uc7 a = some b := by
  unfold uc7
  simp only [ual]
  have ef : Int.toNat ((a.length : Int) - 0) + 1 = a.length + 1 := by omega
  rw [ef]
  exact ukB a hl _ ⟨_, rfl⟩ a.length 0 (by omega)
theorem uoZ {D : DiskS} {name : List Int} (ho : D.2.2.2.2.2.1 = false) : udx D name = some (match pget .str name D.2.1 with | none => (0, 5) | some f => ((f.1.length : Int), 0)) := by
  unfold udx
  rw [ufC name ho]
  cases h : pget .str name D.2.1 with
  | none => rfl
  | some f => rfl
theorem uo0 {D : DiskS} (hok : FsOk D.2.1) (ho : D.2.2.2.2.2.1 = false) : udw D = some (D.2.1.map (·.1)) := by
  unfold udw
  have := hok.2.2
  rw [if_neg (by simp [ho]), if_pos (by omega)]
theorem uo1 {D : DiskS} {name : List Int} {at0 n : Int} {f : FileS} (hok : FsOk D.2.1) (ho : D.2.2.2.2.2.1 = false) (hg : pget .str name D.2.1 = some f) (h0 : 0 ≤ at0) (h1 : at0 ≤ f.1.length) (hn : 0 ≤ n) : udy D name at0 n = some ((f.1.drop at0.toNat).take n.toNat, 0) := by
  have hl := (hok.get hg).2.2.1
  unfold udy
  rw [ufC name ho, hg]
  simp only [Option.isSome_some, if_true, Option.bind_some, ual]
  rw [if_neg (by decide), if_neg (by simp only [Bool.or_eq_true, decide_eq_true_eq]; omega)]
  by_cases he : at0 ≥ (f.1.length : Int)
  · rw [if_pos (by simpa using he)]
    have : List.drop at0.toNat f.1 = [] := List.drop_eq_nil_of_le (by omega)
    rw [this, List.take_nil]
  · rw [if_neg (by simpa using he), if_pos (by omega), Int.toNat_natCast, List.take_length]
    rw [if_pos (by refine ⟨by omega, ?_, ?_⟩ <;> omega)]
    rcases Int.le_total n ((List.drop at0.toNat f.1).length : Int) with h | h
    · rw [Int.min_eq_left h]
    · rw [Int.min_eq_right h, Int.toNat_natCast, List.take_length, List.take_of_length_le (by omega)]
end Sx
namespace Sx
open Go
theorem uoj : ∀ (n : Nat) (s : List Int), s.length = n → (∀ c ∈ s, isDig c) → s ≠ [] → (s.length = 1 ∨ s.headD 0 ≠ 48) → 0 ≤ valD 0 s ∧ decI (valD 0 s).toNat = s := by
  intro n
  induction n with
  | zero => intro s hl _ hne; exact absurd (List.eq_nil_of_length_eq_zero hl) hne
  | succ n ih =>
    intro s hl hd hne hh
    obtain ⟨init, c, rfl⟩ : ∃ init c, s = init ++ [c] := ⟨s.dropLast, s.getLast hne, (List.dropLast_concat_getLast hne).symm⟩
    have hc := hd c (by simp)
    simp only [isDig] at hc
    by_cases hi : init = []
    · subst hi
      have hv : valD 0 ([] ++ [c]) = c - 48 := by simp [valD]
      rw [hv]
      refine ⟨by omega, ?_⟩
      rw [ufu, if_pos (by omega)]
      simp only [List.nil_append, List.cons.injEq, and_true]
      omega
    · have hlen : init.length = n := by simp only [List.length_append, List.length_cons, List.length_nil] at hl; omega
      have hh2 : init.headD 0 ≠ 48 := by
        cases init with
        | nil => exact absurd rfl hi
        | cons a r =>
          rcases hh with h | h
          · simp at h
          · exact h
      obtain ⟨h0, h1⟩ := ih init hlen (fun x hx => hd x (by simp [hx])) hi (.inr hh2)
      have hv : valD 0 (init ++ [c]) = 10 * valD 0 init + (c - 48) := by rw [uhy]; simp [valD]
      have hpos : valD 0 init ≠ 0 := fun h => by
        rw [h, ufu, if_pos (by decide)] at h1
        rw [← h1] at hh2
        exact hh2 rfl
      rw [hv]
      refine ⟨by omega, ?_⟩
      rw [ufu, if_neg (by omega)]
      have e1 : (10 * valD 0 init + (c - 48)).toNat / 10 = (valD 0 init).toNat := by omega
      have e2 : (((10 * valD 0 init + (c - 48)).toNat % 10 : Nat) : Int) = c - 48 := by omega
      rw [e1, e2, h1]
      congr 2
      omega
def digF : List Int → Int → Int
  | [], n => if n > 9999999 then -1 else n
  | c :: r, n => if c < 48 ∨ c > 57 ∨ n > 9999999 then -1 else digF r (10 * n + (c - 48))
def digS (s : List Int) : Int := if s = [] ∨ (1 < s.length ∧ s.getD 0 0 = 48) then -1 else digF s 0
theorem unp (s : List Int) (hs : uan s) (hl : s.length < 4611686018427387904) (k : Int → Option Int) (hk : ∀ n, k n = some (if n > 9999999 then -1 else n)) : ∀ (j i : Nat) (n : Int), i + j = s.length → 0 ≤ n → n ≤ 99999999 →
    ucG s k (j + 1) (n, (i : Int)) = some (digF (s.drop i) n) := by
  intro j
  induction j with
  | zero =>
    intro i n hi h0 h1
    rw [List.drop_eq_nil_of_le (by omega)]
    simp only [ucG]
    rw [if_neg (by simp only [decide_eq_true_eq]; omega)]
    exact hk n
  | succ j ih =>
    intro i n hi h0 h1
    have hlt : i < s.length := by omega
    have hdr : s.drop i = s.getD i 0 :: s.drop (i + 1) := by
      rw [List.drop_eq_getElem_cons hlt]
      simp [List.getD, hlt]
    have hg := hs (s.getD i 0) (by simp only [List.getD, List.getElem?_eq_getElem hlt, Option.getD_some]; exact List.getElem_mem hlt)
    rw [hdr]
    rw [ucG]
    rw [if_pos (by simp only [decide_eq_true_eq]; omega), if_pos (by constructor <;> omega)]
    simp only [Int.toNat_natCast]
    simp only [ual]
    by_cases hA : s.getD i 0 < 48
    · rw [if_pos (by rw [decide_eq_true_eq]; exact hA), if_pos (by simp)]
      simp only [digF]
      rw [if_pos (.inl hA)]
    · rw [if_neg (by rw [decide_eq_true_eq]; exact hA), if_pos (by constructor <;> omega)]
      by_cases hB : s.getD i 0 > 57 ∨ n > 9999999
      · rw [if_pos (by rw [Bool.or_eq_true, decide_eq_true_eq, decide_eq_true_eq]; exact hB)]
        simp only [digF]
        rw [if_pos (.inr hB)]
      · rw [if_neg (by rw [Bool.or_eq_true, decide_eq_true_eq, decide_eq_true_eq]; exact hB), if_pos (by constructor <;> omega)]
        have w1 : IntKind.wrap .u8 (s.getD i 0 - 48) = s.getD i 0 - 48 := uaN (by simp only [rng, lo, Sx.hi]; omega)
        have w2 : IntKind.wrap .i64 (s.getD i 0 - 48) = s.getD i 0 - 48 := uaN (by simp only [rng, lo, Sx.hi]; omega)
        have w3 : IntKind.wrap .i64 (10 * n) = 10 * n := uaN (by simp only [rng, lo, Sx.hi]; omega)
        have w4 : IntKind.wrap .i64 (10 * n + (s.getD i 0 - 48)) = 10 * n + (s.getD i 0 - 48) := uaN (by simp only [rng, lo, Sx.hi]; omega)
        have w5 : IntKind.wrap .i64 ((i : Int) + 1) = ((i + 1 : Nat) : Int) := by rw [uaN (by simp only [rng, lo, Sx.hi]; omega)]; omega
        rw [w1, w2, w3, w4, w5]
        rw [ih (i + 1) _ (by omega) (by omega) (by omega)]
        simp only [digF]
        rw [if_neg (by omega)]
theorem ujo (s : List Int) (hs : uan s) (hl : s.length < 4611686018427387904) : ueI s = some (digS s) := by
  have hk : ∀ n : Int, (fun o8 : Int => if (decide (o8 > 9999999)) = true then (some (-1) : Option Int) else some o8) n = some (if n > 9999999 then -1 else n) := fun n => by
    by_cases h : n > 9999999
    · simp [h]
    · simp [h]
  have hloop : ucG s (fun o8 : Int => if (decide (o8 > 9999999)) = true then some (-1) else some o8) (Int.toNat ((List.length s : Int) - 0) + 1) (0, 0) = some (digF s 0) := by
    have := unp s hs hl (fun o8 : Int => if (decide (o8 > 9999999)) = true then some (-1) else some o8) hk s.length 0 0 (by omega) (by omega) (by omega)
    rw [List.drop_zero] at this
    rw [show Int.toNat ((List.length s : Int) - 0) = s.length by omega]
    exact this
  unfold ueI
  simp only [ual]
  unfold digS
  by_cases h1 : s = []
  · subst h1; rfl
  · rw [if_neg (by simp [h1])]
    by_cases h2 : 1 < s.length
    · rw [if_pos (by rw [decide_eq_true_eq]; omega), if_pos (by omega)]
      by_cases h3 : s.getD 0 0 = 48
      · rw [if_pos (by rw [beq_iff_eq]; exact h3), if_pos (.inr ⟨h2, h3⟩)]
      · rw [if_neg (by rw [beq_iff_eq]; exact h3), if_neg (by rintro (h | h); exact h1 h; exact h3 h.2)]
        exact hloop
    · rw [if_neg (by rw [decide_eq_true_eq]; omega), if_neg (by decide), if_neg (by rintro (h | h); exact h1 h; exact h2 h.1)]
      exact hloop
theorem ukC : ∀ (s : List Int) (n : Int), 0 ≤ n → 0 ≤ digF s n → (∀ c ∈ s, isDig c) ∧ digF s n = valD n s ∧ digF s n ≤ 9999999
  | [], n, h0, h => by
    simp only [digF] at h ⊢
    split at h
    · omega
    · rename_i hn
      rw [if_neg hn]
      exact ⟨fun _ h => by simp at h, rfl, by omega⟩
  | c :: r, n, h0, h => by
    simp only [digF] at h ⊢
    split at h
    · omega
    · rename_i hc
      rw [if_neg hc]
      obtain ⟨h1, h2, h3⟩ := ukC r _ (by omega) h
      refine ⟨fun x hx => ?_, ?_, h3⟩
      · rcases List.mem_cons.1 hx with rfl | hx
        · simp only [isDig]; omega
        · exact h1 x hx
      · rw [h2]; rfl
theorem unq {s : List Int} (h : 0 ≤ digS s) : decI (digS s).toNat = s ∧ digS s ≤ 9999999 := by
  unfold digS at h ⊢
  split at h
  · omega
  · rename_i hn
    rw [if_neg hn]
    obtain ⟨h1, h2, h3⟩ := ukC s 0 (by omega) h
    refine ⟨?_, h3⟩
    rw [h2]
    have hne : s ≠ [] := fun e => hn (.inl e)
    refine (uoj s.length s rfl h1 hne ?_).2
    by_cases h4 : 1 < s.length
    · right
      intro e
      exact hn (.inr ⟨h4, by cases s with
        | nil => exact absurd rfl hne
        | cons a r => simpa using e⟩)
    · left
      have : s.length ≠ 0 := fun e => hne (List.eq_nil_of_length_eq_zero e)
      omega
theorem ulT : ∀ (s : List Int) (n : Int), 0 ≤ n → (∀ c ∈ s, isDig c) → valD n s ≤ 9999999 → digF s n = valD n s
  | [], n, h0, _, h => by
    simp only [digF]
    have h' : n ≤ 9999999 := h
    rw [if_neg (by omega)]; rfl
  | c :: r, n, h0, hd, h => by
    have hc := hd c (by simp)
    simp only [isDig] at hc
    have hmono : ∀ (r : List Int) (n : Int), 0 ≤ n → (∀ c ∈ r, isDig c) → n ≤ valD n r := by
      intro r
      induction r with
      | nil => intro n _ _; exact Int.le_refl n
      | cons a r ih =>
        intro n h0 hd
        have ha := hd a (by simp)
        simp only [isDig] at ha
        have := ih (10 * n + (a - 48)) (by omega) (fun x hx => hd x (by simp [hx]))
        show n ≤ valD (10 * n + (a - 48)) r
        omega
    have hn : n ≤ valD n (c :: r) := hmono (c :: r) n h0 hd
    simp only [digF]
    rw [if_neg (by omega)]
    exact ulT r _ (by omega) (fun x hx => hd x (by simp [hx])) h
theorem unr {n : Nat} (h : n ≤ 9999999) : digS (decI n) = (n : Int) := by
  obtain ⟨h1, h2, h3⟩ := uhY n
  unfold digS
  have hh : ¬ (decI n = [] ∨ (1 < (decI n).length ∧ (decI n).getD 0 0 = 48)) := by
    rintro (e | ⟨e1, e2⟩)
    · exact h3 e
    ·
      have key : ∀ m : Nat, 0 < m → (decI m).getD 0 0 ≠ 48 := by
        intro m
        induction m using Nat.strongRecOn with
        | ind m ih =>
          intro hm
          rw [ufu]
          split
          · simp; omega
          · have hne := (uhY (m / 10)).2.2
            have := ih (m / 10) (by omega) (by omega)
            cases hd : decI (m / 10) with
            | nil => exact absurd hd hne
            | cons a r => rw [hd] at this; simpa using this
      rcases Nat.eq_zero_or_pos n with rfl | hp
      · rw [ufu, if_pos (by decide)] at e1; simp at e1
      · exact key n hp e2
  rw [if_neg hh, ulT _ 0 (by omega) h1 (by rw [h2]; omega), h2]
def fileN (nm : List Int) (n : Int) : List Int := (nm ++ [46]) ++ itoaI n
theorem ujp {n : Int} (h : rng .i64 n) : (itoaI n).length ≤ 30 := by
  have := ukm h
  simpa [itoaI, ofB] using this
theorem ugc (l : Unit × List Int × Int × (List (Int × Int × Int × Unit)) × Int × Bool × Unit) (n : Int) (hl : l.2.1.length ≤ 24) (hn : rng .i64 n) : ube l n = some (fileN l.2.1 n) := by
  have := ujp hn
  unfold ube strconv_Itoa
  rw [if_pos (by simp only [most, List.length_cons, List.length_nil]; omega), uat, if_pos (by simp only [most, List.length_append, List.length_cons, List.length_nil]; omega)]
  rfl
theorem uo2 (a p : List Int) : ucX a p = some (if a.take p.length == p && decide (p.length ≤ a.length) then (a.drop p.length, true) else (a, false)) := by
  have h0 : uaS a p = some (a.take p.length == p && decide (p.length ≤ a.length)) := by
    have := uky a p
    unfold ubY at this
    cases h : uaS a p with
    | none => rw [h] at this; cases this
    | some b => rw [h, uat] at this; exact this
  unfold ucX ub3
  rw [h0, uat]
  cases hb : (a.take p.length == p && decide (p.length ≤ a.length)) with
  | false => simp only [Bool.not_false, if_true, uat, Bool.false_eq_true, if_false]
  | true =>
    have hle : p.length ≤ a.length := by
      rw [Bool.and_eq_true, decide_eq_true_eq] at hb
      exact hb.2
    rw [if_neg (by decide), if_pos ⟨by omega, by omega, by omega⟩]
    simp only [ual, uat, if_true, Int.toNat_natCast, List.take_length]
def numOf (nm f : List Int) : Option Int :=
  if (f.take (nm ++ [46]).length == nm ++ [46] && decide ((nm ++ [46]).length ≤ f.length)) = true ∧ 0 ≤ digS (f.drop (nm ++ [46]).length) then some (digS (f.drop (nm ++ [46]).length)) else none
theorem numOf_spec {nm f : List Int} {n : Int} : numOf nm f = some n ↔ f = fileN nm n ∧ 0 ≤ n ∧ n ≤ 9999999 := by
  unfold numOf fileN
  constructor
  · intro h
    split at h
    · rename_i hc
      obtain rfl := Option.some.inj h
      obtain ⟨h1, h2⟩ := hc
      rw [Bool.and_eq_true, beq_iff_eq, decide_eq_true_eq] at h1
      obtain ⟨h3, h4⟩ := unq h2
      refine ⟨?_, h2, h4⟩
      rw [uhX, if_neg (by omega), h3]
      conv => lhs; rw [← List.take_append_drop (nm ++ [46]).length f, h1.1]
    · cases h
  · rintro ⟨rfl, h0, h1⟩
    have hd : ((nm ++ [46]) ++ itoaI n).drop (nm ++ [46]).length = decI n.toNat := by
      rw [List.drop_left, uhX, if_neg (by omega)]
    rw [hd, unr (by omega)]
    rw [if_pos ⟨by rw [Bool.and_eq_true, beq_iff_eq, decide_eq_true_eq]; exact ⟨List.take_left, by simp only [List.length_append]; omega⟩, by omega⟩]
    congr 1
    omega
def nums (nm : List Int) (ks : List (List Int)) : List Int := ks.filterMap (numOf nm)
theorem umi (l : Unit × List Int × Int × (List (Int × Int × Int × Unit)) × Int × Bool × Unit) (hn : l.2.1.length ≤ 24) (ks : List (List Int)) (hks : ∀ f ∈ ks, uan f ∧ f.length < 4611686018427387904) (hl : ks.length ≤ 16) (k : List Int → Option (List Int)) : ∀ (j i : Nat) (acc : List Int), i + j = ks.length → acc.length ≤ i →
    ubN l k ks (j + 1) ((i : Int), acc) = k (acc ++ nums l.2.1 (ks.drop i)) := by
  intro j
  induction j with
  | zero =>
    intro i acc hi _
    rw [List.drop_eq_nil_of_le (by omega), ubN]
    rw [if_neg (by rw [decide_eq_true_eq]; omega)]
    simp [nums]
  | succ j ih =>
    intro i acc hi hacc
    have hlt : i < ks.length := by omega
    have hdr : ks.drop i = ks.getD i [] :: ks.drop (i + 1) := by
      rw [List.drop_eq_getElem_cons hlt]
      simp [List.getD, hlt]
    have hm : ks.getD i [] ∈ ks := by simp only [List.getD, List.getElem?_eq_getElem hlt, Option.getD_some]; exact List.getElem_mem hlt
    obtain ⟨hfb, hfl⟩ := hks _ hm
    have w5 : IntKind.wrap .i64 ((i : Int) + 1) = ((i + 1 : Nat) : Int) := by rw [uaN (by simp only [rng, lo, Sx.hi]; omega)]; omega
    rw [hdr, ubN]
    rw [if_pos (by rw [decide_eq_true_eq]; omega)]
    simp only [ual]
    rw [if_pos (by constructor <;> omega), if_pos (by simp only [most, List.length_cons, List.length_nil]; omega)]
    rw [uo2, uat, w5]
    simp only [Int.toNat_natCast]
    have hnums : ∀ r, nums l.2.1 (ks.getD i [] :: r) = (match numOf l.2.1 (ks.getD i []) with | some n => [n] | none => []) ++ nums l.2.1 r := fun r => by
      unfold nums
      rw [List.filterMap_cons]
      cases numOf l.2.1 (ks.getD i []) <;> rfl
    rw [hnums]
    cases hb : (List.take (l.2.1 ++ [46]).length (ks.getD i []) == l.2.1 ++ [46] && decide ((l.2.1 ++ [46]).length ≤ (ks.getD i []).length)) with
    | false =>
      simp only [Bool.false_eq_true, if_false]
      rw [ujo _ hfb hfl, uat, if_neg (by simp)]
      rw [ih (i + 1) acc (by omega) (by omega)]
      have : numOf l.2.1 (ks.getD i []) = none := by unfold numOf; rw [hb]; simp
      rw [this]; rfl
    | true =>
      simp only [if_true]
      rw [ujo _ (ueb hfb _) (by rw [List.length_drop]; omega), uat]
      by_cases hd : 0 ≤ digS ((ks.getD i []).drop (l.2.1 ++ [46]).length)
      · rw [if_pos (by rw [Bool.true_and, decide_eq_true_eq]; exact hd), if_pos (by simp only [List.length_cons, List.length_nil]; omega)]
        rw [ih (i + 1) _ (by omega) (by simp only [List.length_append, List.length_cons, List.length_nil]; omega)]
        have : numOf l.2.1 (ks.getD i []) = some (digS ((ks.getD i []).drop (l.2.1 ++ [46]).length)) := by unfold numOf; rw [hb]; rw [if_pos ⟨rfl, hd⟩]
        rw [this, List.append_assoc]
      · rw [if_neg (by rw [Bool.true_and, decide_eq_true_eq]; exact hd)]
        rw [ih (i + 1) acc (by omega) (by omega)]
        have : numOf l.2.1 (ks.getD i []) = none := by unfold numOf; rw [hb]; rw [if_neg (by rintro ⟨_, h⟩; exact hd h)]
        rw [this]; rfl
theorem uis (l : Unit × List Int × Int × (List (Int × Int × Int × Unit)) × Int × Bool × Unit) (hn : l.2.1.length ≤ 24) {D : DiskS} (hok : FsOk D.2.1) (ho : D.2.2.2.2.2.1 = false) (hks : ∀ f ∈ D.2.1.map (·.1), uan f ∧ f.length < 4611686018427387904) :
    ucd l D = some (ubj (nums l.2.1 (D.2.1.map (·.1)))) := by
  have hl : (D.2.1.map (·.1)).length ≤ 16 := by rw [List.length_map]; exact hok.2.2
  unfold ucd
  simp only [ual]
  rw [uo0 hok ho, uat]
  rw [show Int.toNat ((List.length (D.2.1.map (·.1)) : Int) - 0) = (D.2.1.map (·.1)).length by omega]
  have h0 := umi l hn _ hks hl (fun o4 => if o4.length < 4611686018427387904 then some (ubj o4) else none) (D.2.1.map (·.1)).length 0 [] (by omega) (by simp)
  rw [List.drop_zero, List.nil_append] at h0
  refine h0.trans ?_
  have : (nums l.2.1 (D.2.1.map (·.1))).length ≤ (D.2.1.map (·.1)).length := List.length_filterMap_le _ _
  rw [if_pos (by omega)]
end Sx
namespace Sx
open Go
def poly : B32 := 2197175160#32
def low (x : B32) : Bool := x.getLsbD 0
def step (x : B32) : B32 := (x >>> 1) ^^^ (if low x then poly else 0#32)
theorem uo3 (x y : B32) : low (x ^^^ y) = (low x ^^ low y) := BitVec.getLsbD_xor
theorem uo4 (a b c : B32) : a ^^^ (b ^^^ c) = b ^^^ (a ^^^ c) := by rw [← BitVec.xor_assoc, ← BitVec.xor_assoc, BitVec.xor_comm a b]
def it : Nat → B32 → B32
  | 0, x => x
  | n + 1, x => it n (step x)
theorem uok (x y : B32) : step (x ^^^ y) = step x ^^^ step y := by
  simp only [step, BitVec.ushiftRight_xor_distrib, uo3]
  cases low x <;> cases low y <;> simp [BitVec.xor_assoc, uo4 poly] <;> exact BitVec.xor_comm _ _
theorem uns : ∀ (n : Nat) (x y : B32), it n (x ^^^ y) = it n x ^^^ it n y
  | 0, _, _ => rfl
  | n + 1, x, y => by simp only [it, uok, uns n]
theorem unt : ∀ (m n : Nat) (x : B32), it (m + n) x = it n (it m x)
  | 0, n, x => by simp [it]
  | m + 1, n, x => by rw [Nat.succ_add]; exact unt m n (step x)
theorem unu : ∀ (n : Nat) (x : B32), (∀ i, i < n → x.getLsbD i = false) → it n x = x >>> n
  | 0, x, _ => by simp [it]
  | n + 1, x, h => by
    have h0 : step x = x >>> 1 := by
      have h1 : low x = false := h 0 (by omega)
      simp [step, h1]
    simp only [it, h0]
    rw [unu n (x >>> 1) (fun i hi => by rw [BitVec.getLsbD_ushiftRight]; exact h (1 + i) (by omega)), ← BitVec.shiftRight_add]
    congr 1; omega
theorem uol (n : Nat) (x : B32) : it n x = (x >>> n) ^^^ it n (x &&& (BitVec.allOnes 32 >>> (32 - n))) := by
  have key : x = (x &&& ~~~(BitVec.allOnes 32 >>> (32 - n))) ^^^ (x &&& (BitVec.allOnes 32 >>> (32 - n))) := by
    apply BitVec.eq_of_getLsbD_eq; intro i hi
    simp only [BitVec.getLsbD_xor, BitVec.getLsbD_and, BitVec.getLsbD_not]
    cases x.getLsbD i <;> simp [hi]
  conv => lhs; rw [key]
  rw [uns]
  congr 1
  rw [unu]
  · apply BitVec.eq_of_getLsbD_eq; intro i hi
    simp only [BitVec.getLsbD_ushiftRight, BitVec.getLsbD_and, BitVec.getLsbD_not, BitVec.getLsbD_allOnes]
    by_cases h : n + i < 32
    · have : ¬ (32 - n + (n + i) < 32) := by omega
      simp [h, this]
    · have := BitVec.getLsbD_of_ge x (n + i) (by omega)
      simp [this]
  · intro i hi
    simp only [BitVec.getLsbD_and, BitVec.getLsbD_not, BitVec.getLsbD_ushiftRight, BitVec.getLsbD_allOnes]
    by_cases h : i < 32
    · have : 32 - n + i < 32 := by omega
      simp [this]
    · simp [BitVec.getLsbD_of_ge x i (by omega)]
def halfTab : List Int := (List.range 16).map fun i => u (it 4 (BitVec.ofNat 32 i))
theorem unv : ufs = some halfTab := by decide +kernel
theorem ujq (x : B32) : (if 0 ≤ iand .u32 (u x) 15 ∧ iand .u32 (u x) 15 < 16 then some (ixor .u32 (ishr .u32 (u x) 4) (List.getD halfTab (Int.toNat (iand .u32 (u x) 15)) 0)) else none) = some (u (it 4 x)) := by
  have e : iand .u32 (u x) 15 = u (x &&& 15#32) := upq x 15#32
  have hlt : (x &&& 15#32).toNat < 16 := by rw [BitVec.toNat_and]; exact Nat.lt_of_le_of_lt Nat.and_le_right (by decide)
  rw [e, if_pos (by unfold u; omega)]
  have e2 : Int.toNat (u (x &&& 15#32)) = (x &&& 15#32).toNat := by unfold u; omega
  have e3 : halfTab.getD (x &&& 15#32).toNat 0 = u (it 4 (x &&& 15#32)) := by
    simp only [halfTab, List.getD, List.getElem?_map, List.getElem?_range hlt, Option.map_some, Option.getD_some]
    simp
  have e4 : ishr .u32 (u x) 4 = u (x >>> 4) := upr x (n := 4) (by omega)
  rw [e2, e3, e4, ukx, uol 4 x]
  rfl
def run : B32 → List Int → B32
  | x, [] => x
  | x, c :: r => run (it 8 (x ^^^ BitVec.ofInt 32 c)) r
theorem ups {c : Int} (h : 0 ≤ c ∧ c < 256) : IntKind.wrap .u32 c = u (BitVec.ofInt 32 c) := by
  rw [ukw h.1 (by omega)]
  obtain ⟨n, rfl⟩ := Int.eq_ofNat_of_zero_le h.1
  simp [u]; omega
theorem ukD (b : List Int) (hb : uan b) (hl : b.length < 4611686018427387904) (k : Int → Option Int) : ∀ (j i : Nat) (x : B32), i + j = b.length → udY b halfTab k (j + 1) (u x, (i : Int)) = k (u (run x (b.drop i)))
  | 0, i, x, h => by
    simp only [udY]
    rw [if_neg (by simp; omega), List.drop_of_length_le (by omega)]; rfl
  | j + 1, i, x, h => by
    rw [udY]
    have hlt : i < b.length := by omega
    rw [if_pos (by simp; omega), if_pos (by constructor <;> omega)]
    have hg : List.getD b (Int.toNat (i : Int)) 0 = b[i] := by simp [List.getD, hlt]
    have hx : ixor .u32 (u x) (IntKind.wrap .u32 b[i]) = u (x ^^^ BitVec.ofInt 32 b[i]) := by
      rw [ups (hb _ (List.getElem_mem hlt)), ukx]
    have hd : b.drop i = b[i] :: b.drop (i + 1) := List.drop_eq_getElem_cons hlt
    simp only [ual, hg, hx]
    have s1 := ujq (x ^^^ BitVec.ofInt 32 b[i])
    have s2 := ujq (it 4 (x ^^^ BitVec.ofInt 32 b[i]))
    split at s1
    · rename_i c1
      rw [if_pos c1]
      simp only [Option.some.injEq] at s1
      rw [s1]
      split at s2
      · rename_i c2
        rw [if_pos c2]
        simp only [Option.some.injEq] at s2
        rw [s2, uaJ (by omega) (by omega), show ((i : Int) + 1) = ((i + 1 : Nat) : Int) by omega, ukD b hb hl k j (i + 1) _ (by omega), hd]
        simp only [run]
        rw [← unt 4 4]
      · cases s2
    · cases s1
def on (x : B32) (b : List Int) : B32 := ~~~ run (~~~x) b
theorem On_eq (x : B32) (b : List Int) (hb : uan b) (hl : b.length < 4611686018427387904) : ufb (u x) b = some (u (on x b)) := by
  simp only [ufb, unv, uat, ual]
  have e : Int.toNat ((b.length : Int) - 0) + 1 = b.length + 1 := by omega
  have := ukD b hb hl (fun o => some (inot .u32 o)) b.length 0 (~~~x) (by omega)
  rw [e, unn]
  simp only [unn, List.drop_zero] at this
  exact this
theorem upt (b : List Int) (hb : uan b) (hl : b.length < 4611686018427387904) : ufv b = some (u (on 0#32 b)) := by
  have : ufb 0 b = some (u (on 0#32 b)) := On_eq 0#32 b hb hl
  simp [ufv, this]
theorem ulU : ∀ (a b : List Int) (x : B32), run x (a ++ b) = run (run x a) b
  | [], _, _ => rfl
  | c :: a, b, x => by simp only [List.cons_append, run]; exact ulU a b _
theorem on_on (x : B32) (a b : List Int) : on (on x a) b = on x (a ++ b) := by
  unfold on; rw [ulU]; simp
end Sx
namespace Sx
open Go
theorem uh0 {n : Int} (h0 : 0 ≤ n) (h : n < 18446744073709551616) : IntKind.wrap .u64 n = n := by
  simp only [IntKind.wrap, IntKind.bits, IntKind.signed, Bool.false_and, Bool.false_eq_true, if_false]; omega
theorem uom (x : Nat) : (x : Int) % 256 = ((x % 256 : Nat) : Int) := by omega
theorem uo5 (n : Int) : IntKind.wrap .u8 n = n % 256 := by
  simp only [IntKind.wrap, IntKind.bits, IntKind.signed, Bool.false_and, Bool.false_eq_true, if_false]; rfl
def be (v n : Nat) : List Int := (List.range n).map fun i => ((v / 2 ^ (8 * (n - 1 - i)) % 256 : Nat) : Int)
theorem ucC (v n : Nat) : (be v n).length = n := by simp [be]
theorem ugd (v n : Nat) : uan (be v n) := by
  intro c hc
  simp only [be, List.mem_map] at hc
  obtain ⟨i, _, rfl⟩ := hc
  omega
theorem uon {m : Nat} (f g : Nat → Int) {i : Nat} (hi : i < m) : List.set ((List.range m).map fun k => if k < i then f k else g k) i (f i) = (List.range m).map fun k => if k < i + 1 then f k else g k := by
  apply List.ext_getElem?
  intro k
  rw [List.getElem?_set]
  simp only [List.length_map, List.length_range, List.getElem?_map]
  by_cases hk : i = k
  · subst hk
    simp [hi]
  · rw [if_neg hk]
    by_cases hkm : k < m
    · rw [List.getElem?_range hkm]
      simp only [Option.map_some, Option.some.injEq]
      by_cases h1 : k < i
      · rw [if_pos h1, if_pos (by omega)]
      · rw [if_neg h1, if_neg (by omega)]
    · rw [List.getElem?_eq_none (by simp; omega)]; rfl
theorem uo6 (V m : Nat) (hm : m ≤ 64) : ishr .u64 (V : Int) (m : Int) = ((V / 2 ^ m : Nat) : Int) := by
  unfold ishr
  have : min (Int.toNat (m : Int)) (IntKind.bits .u64) = m := by simp [IntKind.bits]; omega
  rw [this, Int.fdiv_eq_ediv_of_nonneg _ (Int.le_of_lt (Int.pow_pos (by decide)))]
  simp
def ufD (v n i : Nat) : List Int := (List.range n).map fun k => if k < i then ((v / 2 ^ (8 * (n - 1 - k)) % 256 : Nat) : Int) else 0
theorem uit (v n : Nat) (hn : n ≤ 8) (K : List Int → Option (List Int)) : ∀ (j i : Nat), i + j = n → ucU (v : Int) (n : Int) K (j + 1) ((i : Int), ufD v n i) = K (be v n)
  | 0, i, h => by
    obtain rfl : i = n := by omega
    simp only [ucU]
    rw [if_neg (by simp)]
    congr 1
    apply List.map_congr_left; intro k hk; rw [if_pos (by simpa using hk)]
  | j + 1, i, h => by
    rw [ucU]
    have e1 : IntKind.wrap .i64 ((n : Int) - 1) = ((n - 1 : Nat) : Int) := by rw [uaJ (by omega) (by omega)]; omega
    have e2 : IntKind.wrap .i64 (((n - 1 : Nat) : Int) - (i : Int)) = ((n - 1 - i : Nat) : Int) := by rw [uaJ (by omega) (by omega)]; omega
    have e3 : IntKind.wrap .i64 (8 * ((n - 1 - i : Nat) : Int)) = ((8 * (n - 1 - i) : Nat) : Int) := by rw [uaJ (by omega) (by omega)]; omega
    have hl : (ufD v n i).length = n := by simp [ufD]
    simp only [e1, e2, e3, hl, List.length_replicate, Int.toNat_natCast]
    rw [if_pos (by simp; omega), if_pos (by omega), ual, if_pos (by omega), uo6 v _ (by omega), uo5, uaJ (by omega) (by omega), show ((i : Int) + 1) = ((i + 1 : Nat) : Int) by omega]
    have : List.set (ufD v n i) i (((v / 2 ^ (8 * (n - 1 - i)) : Nat) : Int) % 256) = ufD v n (i + 1) := by
      rw [uom]
      exact uon (m := n) (fun k => ((v / 2 ^ (8 * (n - 1 - k)) % 256 : Nat) : Int)) (fun _ => 0) (i := i) (by omega)
    rw [this]
    exact uit v n hn K j (i + 1) (by omega)
theorem ulV (v n : Nat) (hn : n ≤ 8) : ucZ (v : Int) (n : Int) = some (be v n) := by
  unfold ucZ
  rw [if_pos (by omega)]
  simp only [ual, List.length_replicate, Int.toNat_natCast]
  have e : Int.toNat ((n : Int) - 0) + 1 = n + 1 := by omega
  have e2 : List.replicate n (0 : Int) = ufD v n 0 := by
    simp only [ufD, Nat.not_lt_zero, if_false]
    rw [List.map_const', List.length_range]
  rw [e, e2]
  exact uit v n hn (fun o => some o) n 0 (by omega)
def room (n : Nat) : Nat := (16 + n + 63) / 64 * 64
def sumOf (n : Nat) (p : List Int) : B32 := on 0#32 (be p.length 4 ++ be n 8 ++ p)
def bare (n : Nat) (p : List Int) : List Int := be p.length 4 ++ be n 8 ++ be (sumOf n p).toNat 4 ++ p
def uax (n : Nat) (p : List Int) : List Int := bare n p ++ List.replicate (room p.length - (16 + p.length)) 0
theorem ukE (n : Nat) (p : List Int) : (bare n p).length = 16 + p.length := by simp [bare, ucC]; omega
theorem ua0 (n : Nat) (p : List Int) : (uax n p).length = room p.length := by
  simp only [uax, List.length_append, ukE, List.length_replicate, room]; omega
theorem upu (L : Nat) (hL : L ≤ 1000000) : iand .i64 (IntKind.wrap .i64 (0 - (L : Int))) 63 = (((64 - L % 64) % 64 : Nat) : Int) := by
  rw [uaJ (by omega) (by omega)]
  unfold iand
  show IntKind.wrap .i64 ((BitVec.ofInt 64 (0 - (L : Int)) &&& BitVec.ofInt 64 63).toNat : Int) = _
  have e : (BitVec.ofInt 64 (0 - (L : Int)) &&& BitVec.ofInt 64 63).toNat = (64 - L % 64) % 64 := by
    rw [BitVec.toNat_and]
    have h63 : (BitVec.ofInt 64 63).toNat = 2 ^ 6 - 1 := by decide
    rw [h63, Nat.and_two_pow_sub_one_eq_mod, BitVec.toNat_ofInt]
    omega
  rw [e, uaJ (by omega) (by omega)]
theorem uoo (n : Nat) : room n - (16 + n) = (64 - (16 + n) % 64) % 64 := by simp only [room]; omega
def uek (n : Int) (p : List Int) : List Int × Int := if n < 0 then ([], 1) else if p.length > 65536 then ([], 3) else (uax n.toNat p, 0)
theorem unw (n : Nat) (p : List Int) : uan (be p.length 4 ++ be n 8) := fun c hc => by
  rcases List.mem_append.1 hc with h | h
  · exact ugd _ _ c h
  · exact ugd _ _ c h
theorem uh1 (n : Int) (p : List Int) (hn : rng .i64 n) (hp : uan p) (hl : p.length ≤ 140737488351232) : udR n p = some (uek n p) := by
  simp only [rng, lo, hi] at hn
  unfold udR uek
  by_cases h0 : n < 0
  · rw [if_pos (by simpa using h0), if_pos h0]
  · rw [if_neg (by simpa using h0), if_neg h0]
    by_cases h1 : p.length > 65536
    · rw [if_pos (by simp; omega), if_pos h1]
    · rw [if_neg (by simp; omega), if_neg h1]
      obtain ⟨m, rfl⟩ := Int.eq_ofNat_of_zero_le (Int.not_lt.1 h0)
      have e1 : IntKind.wrap .u64 (p.length : Int) = (p.length : Int) := uh0 (by omega) (by omega)
      have e2 : IntKind.wrap .u64 (m : Int) = (m : Int) := uh0 (by omega) (by omega)
      have l4 : ∀ v : Nat, ucZ (v : Int) 4 = some (be v 4) := fun v => ulV v 4 (by omega)
      have l8 : ∀ v : Nat, ucZ (v : Int) 8 = some (be v 8) := fun v => ulV v 8 (by omega)
      have hsum : ufv (be p.length 4 ++ be m 8) = some (u (on 0#32 (be p.length 4 ++ be m 8))) := upt _ (unw m p) (by simp [ucC])
      have hon : ufb (u (on 0#32 (be p.length 4 ++ be m 8))) p = some (u (sumOf m p)) := by
        rw [On_eq _ p hp (by omega), on_on]; rfl
      have e3 : IntKind.wrap .u64 (u (sumOf m p)) = (((sumOf m p).toNat : Nat) : Int) := by
        have := u_lt (sumOf m p)
        rw [uh0 this.1 (by omega)]; rfl
      simp only [e1, e2, l4, l8, uat, ual]
      rw [if_pos (by simp [ucC, most]), hsum]
      simp only [uat, hon, e3, l4]
      have hb : be p.length 4 ++ be m 8 ++ be (sumOf m p).toNat 4 ++ p = bare m p := rfl
      rw [if_pos (by simp [ucC, most]), if_pos (by simp [ucC, most]; omega), hb, ukE, upu _ (by omega), ← uoo]
      have hr : strings_Repeat [0] ((room p.length - (16 + p.length) : Nat) : Int) = some (List.replicate (room p.length - (16 + p.length)) 0) := by
        unfold strings_Repeat
        rw [if_pos ⟨by omega, by simp only [List.length_singleton, Int.toNat_natCast, room]; omega, by simp only [room]; omega⟩, Int.toNat_natCast]
        congr 1
        induction (room p.length - (16 + p.length)) with
        | zero => rfl
        | succ k ih => rw [List.replicate_succ, List.flatten_cons, ih, List.replicate_succ]; rfl
      rw [hr, uat, if_pos (by simp only [List.length_replicate, room, most]; omega)]
      rfl
end Sx
namespace Sx
open Go
/-- the number that the first bytes tell -/
def pre (b : List Int) : Nat → Int
  | 0 => 0
  | i + 1 => pre b i * 256 + b.getD i 0
theorem ugp {a : List Int} (h : uan a) (i : Nat) : 0 ≤ a.getD i 0 ∧ a.getD i 0 < 256 := by
  rcases Nat.lt_or_ge i a.length with g | g
  · have : a.getD i 0 = a[i] := by simp [List.getD, g]
    rw [this]; exact h _ (List.getElem_mem g)
  · have : a.getD i 0 = 0 := by simp [List.getD, List.getElem?_eq_none g]
    rw [this]; omega
theorem udX {b : List Int} (h : uan b) : ∀ i, 0 ≤ pre b i ∧ pre b i < 256 ^ i
  | 0 => by simp [pre]
  | i + 1 => by
    have h1 := udX h i
    have h2 := ugp h i
    simp only [pre]
    rw [Int.pow_succ]
    omega
theorem uop (x c : Nat) (hx : x < 16777216) (hc : c < 256) : ior .i64 (ishl .i64 (x : Int) 8) (c : Int) = ((x * 256 + c : Nat) : Int) := by
  have e1 : ishl .i64 (x : Int) 8 = ((x * 256 : Nat) : Int) := by
    unfold ishl
    have : min (Int.toNat 8) (IntKind.bits .i64) = 8 := by decide
    rw [this, uaJ (by omega) (by omega)]; omega
  rw [e1]
  unfold ior
  show IntKind.wrap .i64 ((BitVec.ofInt 64 ((x * 256 : Nat) : Int) ||| BitVec.ofInt 64 (c : Int)).toNat : Int) = _
  have e2 : (BitVec.ofInt 64 ((x * 256 : Nat) : Int) ||| BitVec.ofInt 64 (c : Int)).toNat = x * 256 + c := by
    rw [BitVec.toNat_or]
    have a1 : (BitVec.ofInt 64 ((x * 256 : Nat) : Int)).toNat = 2 ^ 8 * x := by simp; omega
    have a2 : (BitVec.ofInt 64 (c : Int)).toNat = c := by simp; omega
    rw [a1, a2, ← Nat.two_pow_add_eq_or_of_lt (by omega : c < 2 ^ 8)]; omega
  rw [e2, uaJ (by omega) (by omega)]
theorem uiu {b : List Int} (h : uan b) (hl : 4 ≤ b.length) (K : Int → Option (List Int × Int × Int)) : ∀ (j i : Nat), i + j = 4 → ucV b K (j + 1) (pre b i, (i : Int)) = K (pre b 4)
  | 0, i, e => by
    obtain rfl : i = 4 := by omega
    simp only [ucV]
    rw [if_neg (by simp)]
  | j + 1, i, e => by
    have h1 := udX h i
    have h2 := ugp h i
    have hb : (256 : Int) ^ i ≤ 16777216 := by
      have : i ≤ 3 := by omega
      rcases i with _ | _ | _ | _ | i <;> first | decide | omega
    obtain ⟨x, hx⟩ := Int.eq_ofNat_of_zero_le h1.1
    obtain ⟨c, hc⟩ := Int.eq_ofNat_of_zero_le h2.1
    rw [ucV, if_pos (by simp; omega), if_pos (by omega), Int.toNat_natCast, hc, uaJ (by omega) (by omega), hx, uop x c (by omega) (by omega), ual, uaJ (by omega) (by omega), show ((i : Int) + 1) = ((i + 1 : Nat) : Int) by omega]
    have : ((x * 256 + c : Nat) : Int) = pre b (i + 1) := by simp only [pre, hx, hc]; omega
    rw [this]
    exact uiu h hl K j (i + 1) (by omega)
def uaU (b : List Int) (at0 n : Int) : List Int × Int × Int :=
  if at0 = (b.length : Int) then ([], 0, 0) else if at0 < 0 ∨ at0 > (b.length : Int) ∨ (b.length : Int) - at0 < 16 then ([], 0, 2) else
  if n < 0 ∨ pre (b.drop at0.toNat) 4 > 65536 ∨ room (pre (b.drop at0.toNat) 4).toNat > (b.drop at0.toNat).length then ([], 0, 2)
  else if uax n.toNat (((b.drop at0.toNat).drop 16).take (pre (b.drop at0.toNat) 4).toNat) = (b.drop at0.toNat).take (room (pre (b.drop at0.toNat) 4).toNat) then
    (((b.drop at0.toNat).drop 16).take (pre (b.drop at0.toNat) 4).toNat, (room (pre (b.drop at0.toNat) 4).toNat : Int), 1) else ([], 0, 2)
end Sx
namespace Sx
open Go
theorem unx (a b : List Int) : ubY a b = some (decide (b = a.take b.length)) := by
  unfold ubY uaS
  simp only [ual]
  by_cases h : b.length ≤ a.length
  · rw [if_pos (by simp; omega), if_pos (by omega), Int.toNat_natCast, List.drop_zero, uat]
    congr 1
    rw [Bool.eq_iff_iff]; simp only [beq_iff_eq, decide_eq_true_eq]
    exact ⟨fun h => h.symm, fun h => h.symm⟩
  · rw [if_neg (by simp; omega), uat]
    congr 1
    symm
    rw [decide_eq_false_iff_not]
    intro e
    have := congrArg List.length e
    simp at this; omega
theorem ugY {a : List Int} (h : uan a) (n : Nat) : uan (a.drop n) := fun c hc => h c (List.mem_of_mem_drop hc)
theorem uny {a : List Int} (h : uan a) (n : Nat) : uan (a.take n) := fun c hc => h c (List.mem_of_mem_take hc)
theorem ulW (b : List Int) (at0 n : Int) (hb : uan b) (hl : b.length ≤ 140737488351232) (ha : rng .i64 at0) (hn : rng .i64 n) : udE b at0 n = some (uaU b at0 n) := by
  have hn0 := hn
  simp only [rng, lo, hi] at ha hn
  unfold udE uaU
  by_cases h0 : at0 = (b.length : Int)
  · rw [if_pos (by simpa using h0), if_pos h0]
  · rw [if_neg (by simpa using h0), if_neg h0]
    simp only [ual]
    by_cases h1 : at0 < 0 ∨ at0 > (b.length : Int)
    · rw [if_pos (by rcases h1 with h | h <;> simp [h]), if_pos (by omega)]
    · have hw : IntKind.wrap .i64 ((b.length : Int) - at0) = (b.length : Int) - at0 := uaJ (by omega) (by omega)
      rw [hw]
      by_cases h2 : (b.length : Int) - at0 < 16
      · rw [if_pos (by simp [h2]), if_pos (by omega)]
      · rw [if_neg (c := at0 < 0 ∨ at0 > (b.length : Int) ∨ (b.length : Int) - at0 < 16) (by omega)]
        have hz : (decide (at0 < 0) || decide (at0 > (b.length : Int)) || decide ((b.length : Int) - at0 < 16)) = false := by simp; omega
        rw [hz, if_neg (by simp), if_pos (c := (0 : Int) ≤ at0 ∧ at0 ≤ (b.length : Int) ∧ (b.length : Int) ≤ (b.length : Int)) (by omega)]
        obtain ⟨m, rfl⟩ := Int.eq_ofNat_of_zero_le (show 0 ≤ at0 by omega)
        simp only [Int.toNat_natCast, List.take_length]
        have hc : uan (b.drop m) := ugY hb m
        have hcl : 16 ≤ (b.drop m).length := by simp; omega
        generalize hcd : b.drop m = c at *
        have hcm : c.length ≤ 140737488351232 := by rw [← hcd]; simp; omega
        refine (uiu hc (by omega) _ 4 0 (by omega)).trans ?_
        have hp := udX hc 4
        obtain ⟨L, hL⟩ := Int.eq_ofNat_of_zero_le hp.1
        rw [hL]
        simp only [Int.toNat_natCast]
        have hw2 : IntKind.wrap .i64 ((c.length : Int) - 16) = (c.length : Int) - 16 := uaJ (by omega) (by omega)
        rw [hw2]
        by_cases h3 : (L : Int) > 65536 ∨ (c.length : Int) - 16 < (L : Int)
        · have q : (decide ((L : Int) > 65536) || decide ((c.length : Int) - 16 < (L : Int))) = true := by simpa using h3
          rw [q, if_pos rfl, if_pos (by simp only [room]; omega)]
        · have q : (decide ((L : Int) > 65536) || decide ((c.length : Int) - 16 < (L : Int))) = false := by simp; omega
          have hw3 : IntKind.wrap .i64 (16 + (L : Int)) = ((16 + L : Nat) : Int) := by rw [uaJ (by omega) (by omega)]; omega
          rw [q, if_neg (by simp), hw3, if_pos (c := (0 : Int) ≤ 16 ∧ (16 : Int) ≤ ((16 + L : Nat) : Int) ∧ ((16 + L : Nat) : Int) ≤ (c.length : Int)) (by omega), Int.toNat_natCast]
          have hpay : List.drop 16 (List.take (16 + L) c) = (c.drop 16).take L := by rw [List.drop_take]; congr 1; omega
          rw [hpay]
          have hpl : ((c.drop 16).take L).length = L := by simp; omega
          rw [uh1 n _ hn0 (uny (ugY hc 16) L) (by rw [hpl]; omega), uat]
          unfold uek
          by_cases h4 : n < 0
          · simp [h4]
          · have hF : (if n < 0 then (([], 1) : List Int × Int) else if ((c.drop 16).take L).length > 65536 then ([], 3) else (uax n.toNat ((c.drop 16).take L), 0)) = (uax n.toNat ((c.drop 16).take L), 0) := by
              rw [if_neg h4, if_neg (by rw [hpl]; omega)]
            rw [hF]
            have hfl : (uax n.toNat ((c.drop 16).take L)).length = room L := by rw [ua0, hpl]
            simp only [unx, hfl, uat]
            rw [if_neg (by simp)]
            by_cases h5 : room L > c.length
            · rw [if_pos (c := n < 0 ∨ (L : Int) > 65536 ∨ room L > c.length) (by omega)]
              have : ¬ uax n.toNat ((c.drop 16).take L) = c.take (room L) := fun e => by
                have := congrArg List.length e
                rw [hfl] at this; simp at this; omega
              simp [this]
            · rw [if_neg (c := n < 0 ∨ (L : Int) > 65536 ∨ room L > c.length) (by omega)]
              by_cases h6 : uax n.toNat ((c.drop 16).take L) = c.take (room L)
              · simp [h6]
              · simp [h6]
end Sx
namespace Sx
open Go
end Sx
namespace Sx
open Go
theorem ubw (n : Nat) : 64 ≤ room n ∧ 16 + n ≤ room n ∧ room n ≤ n + 79 := by simp only [room]; omega
/-- what stands from a place on -/
def scanF : Nat → List Int → Int → Int → List (List Int) × Int × Bool
  | 0, _, at0, _ => ([], at0, false)
  | f + 1, b, at0, n =>
    if (uaU b at0 n).2.2 = 1 then
      if n = 9223372036854775807 then ([(uaU b at0 n).1], at0 + (uaU b at0 n).2.1, decide (at0 + (uaU b at0 n).2.1 < (b.length : Int)))
      else ((uaU b at0 n).1 :: (scanF f b (at0 + (uaU b at0 n).2.1) (n + 1)).1, (scanF f b (at0 + (uaU b at0 n).2.1) (n + 1)).2)
    else ([], at0, decide (at0 < (b.length : Int)))
theorem ugq {b : List Int} {at0 n : Int} (hb : uan b) (h : (uaU b at0 n).2.2 = 1) : 0 ≤ at0 ∧ 0 ≤ n ∧ (uaU b at0 n).2.1 = (room (uaU b at0 n).1.length : Int) ∧ at0 + (uaU b at0 n).2.1 ≤ (b.length : Int) ∧
    (uaU b at0 n).1.length ≤ 65536 ∧ uax n.toNat (uaU b at0 n).1 = (b.drop at0.toNat).take (room (uaU b at0 n).1.length) := by
  revert h
  unfold uaU
  split
  · intro h; cases h
  · rename_i h0
    split
    · intro h; cases h
    · rename_i h1
      split
      · intro h; cases h
      · rename_i h2
        split
        · rename_i h3
          intro _
          have hp := udX (ugY hb at0.toNat) 4
          have hr := ubw (pre (b.drop at0.toNat) 4).toNat
          simp only [List.length_drop] at h2
          have hl : (((b.drop at0.toNat).drop 16).take (pre (b.drop at0.toNat) 4).toNat).length = (pre (b.drop at0.toNat) 4).toNat := by simp; omega
          rw [hl]
          exact ⟨by omega, by omega, rfl, by show at0 + ((room _ : Nat) : Int) ≤ _; omega, by omega, h3⟩
        · intro h; cases h
theorem umj {b : List Int} {at0 n : Int} (h0 : 0 ≤ at0) (h1 : at0 ≤ (b.length : Int)) (h : (uaU b at0 n).2.2 ≠ 1) : uaU b at0 n = ([], 0, if at0 = (b.length : Int) then 0 else 2) := by
  revert h
  unfold uaU
  by_cases e : at0 = (b.length : Int)
  · simp [e]
  · simp only [if_neg e]
    split
    · intro _; rfl
    · split
      · intro _; rfl
      · split
        · intro h; exact absurd rfl h
        · intro _; rfl
theorem uiv (b : List Int) (hb : uan b) (hl : b.length ≤ 140737488351232) (K : (Int × Bool × List (List Int)) → Option (List (List Int) × Int × Bool)) : ∀ (f : Nat) (at0 n : Int) (acc : List (List Int)),
    0 ≤ at0 → at0 ≤ (b.length : Int) → rng .i64 n → (acc.length : Int) * 64 ≤ at0 → (b.length : Int) < at0 + 64 * (f : Int) →
    udk b K f (n, at0, acc) = K ((scanF f b at0 n).2.1, (scanF f b at0 n).2.2, acc ++ (scanF f b at0 n).1)
  | 0, at0, n, acc, h0, h1, hn, ha, hf => by omega
  | f + 1, at0, n, acc, h0, h1, hn, ha, hf => by
    have hn' := hn
    simp only [rng, lo, hi] at hn'
    rw [udk]
    simp only [ulW b at0 n hb hl (by simp only [rng, lo, hi]; omega) hn, uat, scanF]
    by_cases hw : (uaU b at0 n).2.2 = 1
    · obtain ⟨_, g2, g3, g4, g5, g6⟩ := ugq hb hw
      have hr := ubw (uaU b at0 n).1.length
      have hadd : IntKind.wrap .i64 (at0 + (uaU b at0 n).2.1) = at0 + (uaU b at0 n).2.1 := uaJ (by omega) (by omega)
      rw [if_neg (by simp [hw]), if_pos hw]
      by_cases hm : n = 9223372036854775807
      · rw [if_pos (by simp [hm]), if_pos hm, if_pos (by simp only [List.length_singleton]; omega)]
        simp only [ual, hadd]
      · rw [if_neg (by simp [hm]), if_neg hm, if_pos (by simp only [List.length_singleton]; omega)]
        simp only [ual, hadd]
        rw [uaJ (by omega) (by omega)]
        rw [uiv b hb hl K f _ _ _ (by omega) (by omega) (by simp only [rng, lo, hi]; omega) (by simp only [List.length_append, List.length_singleton]; omega) (by omega)]
        simp only [List.append_assoc, List.singleton_append]
    · have ho := umj h0 h1 hw
      rw [if_pos (by simpa using hw), if_neg hw]
      simp only [ual]
      rw [ho]
      simp only [List.append_nil]
      congr 2
      by_cases e : at0 = (b.length : Int)
      · simp [e]
      · simp [e]; omega
theorem uo7 (b : List Int) (n : Int) (hb : uan b) (hl : b.length ≤ 140737488351232) (hn : rng .i64 n) : ueK b n = some (scanF (b.length + 2) b 0 n) := by
  simp only [ueK, ual]
  rw [uiv b hb hl _ (b.length + 2) 0 n [] (by omega) (by omega) hn (by simp) (by omega)]
  simp
theorem ujr (b : List Int) (hb : uan b) : ∀ (f : Nat) (at0 n : Int), 0 ≤ at0 → at0 ≤ (b.length : Int) → at0 + 64 * ((scanF f b at0 n).1.length : Int) ≤ (b.length : Int)
  | 0, at0, n, h0, h1 => by simp [scanF, h1]
  | f + 1, at0, n, h0, h1 => by
    simp only [scanF]
    by_cases hw : (uaU b at0 n).2.2 = 1
    · obtain ⟨_, g2, g3, g4, g5, g6⟩ := ugq hb hw
      have hr := ubw (uaU b at0 n).1.length
      rw [if_pos hw]
      by_cases hm : n = 9223372036854775807
      · rw [if_pos hm]; simp only [List.length_singleton]; omega
      · rw [if_neg hm]
        have := ujr b hb f (at0 + (uaU b at0 n).2.1) (n + 1) (by omega) (by omega)
        simp only [List.length_cons]; omega
    · rw [if_neg hw]; simpa using h1
end Sx
namespace Sx
open Go
theorem uiY (v n : Nat) : be v (n + 1) = be (v / 256) n ++ [((v % 256 : Nat) : Int)] := by
  simp only [be, List.range_succ, List.map_append, List.map_cons, List.map_nil]
  congr 1
  · apply List.map_congr_left
    intro i hi
    simp at hi
    rw [Nat.div_div_eq_div_mul]
    have : 2 ^ (8 * (n + 1 - 1 - i)) = 256 * 2 ^ (8 * (n - 1 - i)) := by
      rw [show 8 * (n + 1 - 1 - i) = 8 + 8 * (n - 1 - i) by omega, Nat.pow_add]
    rw [this]
  · simp
theorem uiw : ∀ (n v w : Nat), v < 256 ^ n → w < 256 ^ n → be v n = be w n → v = w
  | 0, v, w, h1, h2, _ => by simp at h1 h2; omega
  | n + 1, v, w, h1, h2, h => by
    rw [uiY, uiY] at h
    have hl : (be (v / 256) n).length = (be (w / 256) n).length := by rw [ucC, ucC]
    obtain ⟨e1, e2⟩ := List.append_inj h hl
    rw [Nat.pow_succ] at h1 h2
    have := uiw n _ _ (by omega) (by omega) e1
    simp at e2
    omega
theorem uiZ (m n : Nat) (a : Int) : List.replicate (m + n) a = List.replicate m a ++ List.replicate n a := (List.replicate_append_replicate).symm
theorem upv (v : Nat) (hv : v < 4294967296) (r : List Int) : pre (be v 4 ++ r) 4 = (v : Int) := by
  simp only [be, List.range_succ, List.range_zero, List.nil_append, List.map_append, List.map_cons, List.map_nil, pre]
  simp [List.getD]
  omega
theorem ucu (n : Nat) (p : List Int) : uax n p = be p.length 4 ++ (be n 8 ++ (be (sumOf n p).toNat 4 ++ (p ++ List.replicate (room p.length - (16 + p.length)) 0))) := by
  simp [uax, bare]
theorem uix (n : Nat) {p : List Int} (hp : uan p) : uan (uax n p) := by
  intro c hc
  rw [ucu] at hc
  simp only [List.mem_append] at hc
  rcases hc with h | h | h | h | h
  · exact ugd _ _ c h
  · exact ugd _ _ c h
  · exact ugd _ _ c h
  · exact hp c h
  · obtain ⟨_, rfl⟩ := List.mem_replicate.1 h; omega
theorem ufp (P rest p : List Int) (n : Nat) (hp : p.length ≤ 65536) : uaU (P ++ (uax n p ++ rest)) (P.length : Int) (n : Int) = (p, (room p.length : Int), 1) := by
  have hr := ubw p.length
  have hfl := ua0 n p
  unfold uaU
  simp only [Int.toNat_natCast, List.drop_left, List.length_append]
  have hpre : pre (uax n p ++ rest) 4 = (p.length : Int) := by
    rw [ucu, List.append_assoc]; exact upv _ (by omega) _
  have hpay : List.take p.length (List.drop 16 (uax n p ++ rest)) = p := by
    rw [ucu]
    have : be p.length 4 ++ (be n 8 ++ (be (sumOf n p).toNat 4 ++ (p ++ List.replicate (room p.length - (16 + p.length)) 0))) ++ rest = (be p.length 4 ++ be n 8 ++ be (sumOf n p).toNat 4) ++ (p ++ (List.replicate (room p.length - (16 + p.length)) 0 ++ rest)) := by simp
    rw [this, show 16 = (be p.length 4 ++ be n 8 ++ be (sumOf n p).toNat 4).length by simp [ucC], List.drop_left, List.take_left]
  have htake : List.take (room p.length) (uax n p ++ rest) = uax n p := by rw [← hfl, List.take_left]
  rw [if_neg (by omega), if_neg (by omega)]
  simp only [hpre, Int.toNat_natCast, hpay, htake]
  rw [if_neg (by omega), if_pos trivial]
/-- what is whole begins with a frame -/
theorem ufU {P c : List Int} {n : Int} (hb : uan (P ++ c)) (h : (uaU (P ++ c) (P.length : Int) n).2.2 = 1) : 0 ≤ n ∧ ∃ p rest, p.length ≤ 65536 ∧ c = uax n.toNat p ++ rest := by
  obtain ⟨g1, g2, g3, g4, g5, g6⟩ := ugq hb h
  refine ⟨g2, _, c.drop (room (uaU (P ++ c) (P.length : Int) n).1.length), g5, ?_⟩
  rw [g6, Int.toNat_natCast, List.drop_left, List.take_append_drop]
def uaq : Nat → List (List Int) → List Int
  | _, [] => []
  | n, p :: r => uax n p ++ uaq (n + 1) r
def lenF (l : List (List Int)) : Nat := (l.map fun p => room p.length).sum
theorem uaF : ∀ (n : Nat) (l : List (List Int)), (uaq n l).length = lenF l
  | _, [] => rfl
  | n, p :: r => by simp only [uaq, List.length_append, ua0, uaF (n + 1) r, lenF, List.map_cons, List.sum_cons]
theorem ugr : ∀ (n : Nat) (l m : List (List Int)), uaq n (l ++ m) = uaq n l ++ uaq (n + l.length) m
  | n, [], m => by simp [uaq]
  | n, p :: r, m => by
    simp only [List.cons_append, uaq, ugr (n + 1) r m, List.append_assoc, List.length_cons]
    rw [show n + 1 + r.length = n + (r.length + 1) by omega]
theorem uoq (l m : List (List Int)) : lenF (l ++ m) = lenF l + lenF m := by simp [lenF]
def goodL (l : List (List Int)) : Prop := ∀ p ∈ l, uan p ∧ p.length ≤ 65536
theorem ued : ∀ (n : Nat) {l : List (List Int)}, goodL l → uan (uaq n l)
  | _, [], _ => fun c hc => by cases hc
  | n, p :: r, h => fun c hc => by
    rcases List.mem_append.1 hc with g | g
    · exact uix n (h p List.mem_cons_self).1 c g
    · exact ued (n + 1) (fun q hq => h q (List.mem_cons_of_mem _ hq)) c g
theorem uhB : ∀ (l : List (List Int)) (n : Nat) (P rest : List Int) (f : Nat), goodL l → l.length < f → n + l.length < 9223372036854775807 →
    (uaU (P ++ (uaq n l ++ rest)) ((P.length + lenF l : Nat) : Int) ((n + l.length : Nat) : Int)).2.2 ≠ 1 →
    scanF f (P ++ (uaq n l ++ rest)) (P.length : Int) (n : Int) = (l, ((P.length + lenF l : Nat) : Int), decide (rest ≠ []))
  | [], n, P, rest, 0, _, hf, _, _ => by simp at hf
  | [], n, P, rest, f + 1, _, _, _, h => by
    simp only [uaq, List.nil_append, lenF, List.map_nil, List.sum_nil, List.length_nil, Nat.add_zero] at h ⊢
    simp only [scanF]
    rw [if_neg h]
    simp only [List.length_append]
    congr 2
    cases rest with
    | nil => simp
    | cons a r => simp; omega
  | p :: r, n, P, rest, 0, _, hf, _, _ => by omega
  | p :: r, n, P, rest, f + 1, hg, hf, hn, h => by
    have hp := hg p List.mem_cons_self
    simp only [List.length_cons] at hf hn h
    have hx := ufp P (uaq (n + 1) r ++ rest) p n hp.2
    have ih := uhB r (n + 1) (P ++ uax n p) rest f (fun q hq => hg q (List.mem_cons_of_mem _ hq)) (by omega) (by omega)
    simp only [List.length_append, ua0, List.append_assoc] at ih
    have hl : lenF (p :: r) = room p.length + lenF r := by simp [lenF]
    rw [hl] at h ⊢
    simp only [uaq, List.append_assoc] at h ⊢
    rw [show P.length + (room p.length + lenF r) = P.length + room p.length + lenF r by omega] at h ⊢
    rw [show n + (r.length + 1) = n + 1 + r.length by omega] at h
    have ih := ih h
    simp only [scanF, hx]
    rw [if_pos trivial, if_neg (by omega), show (P.length : Int) + (room p.length : Int) = ((P.length + room p.length : Nat) : Int) by omega, show (n : Int) + 1 = ((n + 1 : Nat) : Int) by omega, ih]
theorem uhk {v n : Nat} (hv : v < 256 ^ n) (h : be v n = List.replicate n 0) : v = 0 := by
  apply uiw n v 0 hv (Nat.pow_pos (by omega))
  rw [h]
  simp [be, List.map_const']
theorem unz {m k : Nat} {p rest : List Int} (hp : p.length ≤ 65536) (hm : m < 9223372036854775808) : List.replicate k (0 : Int) ≠ uax m p ++ rest := by
  intro h
  have hr := ubw p.length
  have hl := congrArg List.length h
  simp only [List.length_replicate, ua0, List.length_append] at hl
  rw [ucu, List.append_assoc, List.append_assoc, List.append_assoc] at h
  rw [show k = 4 + (8 + (4 + (k - 16))) by omega, uiZ] at h
  obtain ⟨e1, h⟩ := List.append_inj h (by rw [ucC, List.length_replicate])
  rw [uiZ] at h
  obtain ⟨e2, h⟩ := List.append_inj h (by rw [ucC, List.length_replicate])
  rw [uiZ] at h
  obtain ⟨e3, _⟩ := List.append_inj h (by rw [ucC, List.length_replicate])
  have z1 := uhk (by omega) e1.symm
  have z2 := uhk (by omega) e2.symm
  have z3 := uhk (by have := (sumOf m p).isLt; omega) e3.symm
  obtain rfl : p = [] := List.eq_nil_of_length_eq_zero z1
  subst z2
  exact absurd z3 (by decide +kernel)
end Sx
namespace Sx
open Go
theorem umk (x c : Nat) (hx : x < 72057594037927936) (hc : c < 256) : ior .u64 (ishl .u64 (x : Int) 8) (c : Int) = ((x * 256 + c : Nat) : Int) := by
  have e1 : ishl .u64 (x : Int) 8 = ((x * 256 : Nat) : Int) := by
    unfold ishl
    have : min (Int.toNat 8) (IntKind.bits .u64) = 8 := by decide
    rw [this, uaN (by simp only [rng, lo, Sx.hi]; omega)]; omega
  rw [e1]
  unfold ior
  show IntKind.wrap .u64 ((BitVec.ofInt 64 ((x * 256 : Nat) : Int) ||| BitVec.ofInt 64 (c : Int)).toNat : Int) = _
  have e2 : (BitVec.ofInt 64 ((x * 256 : Nat) : Int) ||| BitVec.ofInt 64 (c : Int)).toNat = x * 256 + c := by
    rw [BitVec.toNat_or]
    have a1 : (BitVec.ofInt 64 ((x * 256 : Nat) : Int)).toNat = 2 ^ 8 * x := by simp; omega
    have a2 : (BitVec.ofInt 64 (c : Int)).toNat = c := by simp; omega
    rw [a1, a2, ← Nat.two_pow_add_eq_or_of_lt (by omega : c < 2 ^ 8)]; omega
  rw [e2, uaN (by simp only [rng, lo, Sx.hi]; omega)]
theorem ujs {b : List Int} (h : uan b) (hl : 16 ≤ b.length) (K : Int → Option (Int × Bool)) : ∀ (j i : Nat), i + j = 8 → ucW b K (j + 1) (pre (b.drop 4) i, ((4 + i : Nat) : Int)) = K (pre (b.drop 4) 8)
  | 0, i, e => by
    obtain rfl : i = 8 := by omega
    simp only [ucW]
    rw [if_neg (by simp)]
  | j + 1, i, e => by
    have hd : uan (b.drop 4) := ueb h 4
    have h1 := udX hd i
    have h2 := ugp hd i
    have hg : b.getD (4 + i) 0 = (b.drop 4).getD i 0 := by simp [List.getD, List.getElem?_drop]
    have hb : (256 : Int) ^ i ≤ 72057594037927936 := by
      have : i ≤ 7 := by omega
      rcases i with _ | _ | _ | _ | _ | _ | _ | _ | i <;> first | decide | omega
    obtain ⟨x, hx⟩ := Int.eq_ofNat_of_zero_le h1.1
    obtain ⟨c, hc⟩ := Int.eq_ofNat_of_zero_le h2.1
    rw [ucW, if_pos (by rw [decide_eq_true_eq]; omega), if_pos (by constructor <;> omega), Int.toNat_natCast, hg, hc]
    have w1 : IntKind.wrap .u64 (c : Int) = (c : Int) := uaN (by simp only [rng, lo, Sx.hi]; omega)
    have w2 : IntKind.wrap .i64 (((4 + i : Nat) : Int) + 1) = ((4 + (i + 1) : Nat) : Int) := by rw [uaN (by simp only [rng, lo, Sx.hi]; omega)]; omega
    rw [w1, hx, umk x c (by omega) (by omega), ual, ual, w2]
    have : ((x * 256 + c : Nat) : Int) = pre (b.drop 4) (i + 1) := by simp only [pre, hx, hc]; omega
    rw [this]
    exact ujs h hl K j (i + 1) (by omega)
def ubl (b : List Int) : Int × Bool :=
  if b.length < 16 then (0, false) else if pre (b.drop 4) 8 ≥ 1152921504606846976 then (0, false) else (pre (b.drop 4) 8, (uaU b 0 (pre (b.drop 4) 8)).2.2 == 1)
theorem unA (b : List Int) (h : uan b) (hl : b.length ≤ 140737488351232) : ud4 b = some (ubl b) := by
  unfold ud4 ubl
  by_cases h1 : b.length < 16
  · rw [if_pos (by rw [decide_eq_true_eq]; omega), if_pos h1]
  · rw [if_neg (by rw [decide_eq_true_eq]; omega), if_neg h1]
    rw [ual]
    have h0 := ujs h (by omega) (fun o2 : Int => if (decide (o2 ≥ 1152921504606846976)) = true then (some (0, false)) else ((udE b 0 (IntKind.wrap .i64 o2)).bind fun (r3 : List Int × Int × Int) => some ((IntKind.wrap .i64 o2), (r3.2.2 == 1)))) 8 0 rfl
    refine h0.trans ?_
    have hp := udX (ueb h 4) 8
    by_cases h2 : pre (b.drop 4) 8 ≥ 1152921504606846976
    · rw [if_pos (by rw [decide_eq_true_eq]; exact h2), if_pos h2]
    · have hr : rng .i64 (pre (b.drop 4) 8) := by simp only [rng, lo, Sx.hi]; omega
      rw [if_neg (by rw [decide_eq_true_eq]; exact h2), if_neg h2, uaN hr, ulW b 0 _ h hl (by simp only [rng, lo, Sx.hi]; omega) hr, uat]
abbrev SegS := Int × Int × Int × Unit
abbrev LogS := Unit × List Int × Int × List SegS × Int × Bool × Unit
abbrev uaQ := List (List Int) × Int × Bool × Bool × Unit
def headS (l : LogS) (f : uaQ) (text : List Int) : Int × Bool × Int :=
  if f.2.2.1 = false ∧ text ≠ [] then ((ubl text).1, (ubl text).2, if (ubl text).2 = true then (ubl text).1 else l.2.2.2.2.1) else (f.2.1, f.2.2.1, l.2.2.2.2.1)
def scanS (text : List Int) (n : Int) : List (List Int) × Int × Bool := scanF (text.length + 2) text 0 n
def readS (l : LogS) (k : Int) (f : uaQ) (text : List Int) : LogS × uaQ :=
  if (headS l f text).2.1 = true then
    (((), l.2.1, l.2.2.1, l.2.2.2.1 ++ [(k, (scanS text (headS l f text).2.2).2.1, if 0 < (scanS text (headS l f text).2.2).1.length then (headS l f text).2.2 + ((scanS text (headS l f text).2.2).1.length : Int) else 0, ())], (headS l f text).2.2 + ((scanS text (headS l f text).2.2).1.length : Int), l.2.2.2.2.2.1, l.2.2.2.2.2.2),
      (f.1 ++ (scanS text (headS l f text).2.2).1, (headS l f text).1, (headS l f text).2.1, decide ((scanS text (headS l f text).2.2).2.1 < (text.length : Int)), f.2.2.2.2))
  else
    (((), l.2.1, l.2.2.1, l.2.2.2.1 ++ [(k, 0, 0, ())], (headS l f text).2.2, l.2.2.2.2.2.1, l.2.2.2.2.2.2), (f.1, (headS l f text).1, (headS l f text).2.1, decide (0 < (text.length : Int)), f.2.2.2.2))
theorem ueH (b : List Int) (h : uan b) : 0 ≤ (ubl b).1 ∧ (ubl b).1 < 1152921504606846976 := by
  unfold ubl
  have hp := udX (ueb h 4) 8
  split
  · simp
  · split
    · simp
    · simp only; omega
theorem ukF {l : LogS} {f : uaQ} {b : List Int} (h : uan b) (hn : 0 ≤ l.2.2.2.2.1 ∧ l.2.2.2.2.1 ≤ 2305843009213693952) : 0 ≤ (headS l f b).2.2 ∧ (headS l f b).2.2 ≤ 2305843009213693952 := by
  have := ueH b h
  unfold headS
  split
  · simp only
    split <;> omega
  · exact hn
theorem ujt (b : List Int) (hb : uan b) (n : Int) : 64 * (scanS b n).1.length ≤ b.length := by
  have := ujr b hb (b.length + 2) 0 n (by omega) (by omega)
  unfold scanS
  omega
theorem uo8 {l : LogS} {k : Int} {f : uaQ} {D : DiskS} {g : FileS} (hl : l.2.1.length ≤ 24) (hk : rng .i64 k) (hok : FsOk D.2.1) (ho : D.2.2.2.2.2.1 = false) (hg : pget .str (fileN l.2.1 k) D.2.1 = some g) (hn : 0 ≤ l.2.2.2.2.1 ∧ l.2.2.2.2.1 ≤ 2305843009213693952) (hf : f.1.length ≤ 1048576) (hs : l.2.2.2.1.length ≤ 1048576) :
    udZ l k f D = some (0, readS l k f g.1) := by
  have hF := hok.get hg
  have hb : uan g.1 := hF.1
  have hlen : g.1.length ≤ 1048576 := hF.2.2.1
  have hfe := ugc l k hl hk
  unfold udZ
  rw [ual, hfe, uat, uoZ ho, hg, uat]
  dsimp only
  rw [if_neg (by decide), ual, uat, uo1 hok ho hg (by omega) (by omega) (by omega), uat]
  dsimp only
  have htk : (g.1.drop (0 : Int).toNat).take (g.1.length : Int).toNat = g.1 := by simp
  rw [htk, if_neg (by decide)]
  have hh := ukF (l := l) (f := f) hb hn
  have hsl := ujt g.1 hb (headS l f g.1).2.2
  have hhead : ∀ (K : uaQ × LogS → Option (Int × LogS × uaQ)),
      (bnd K fun k11 => bnd (!f.2.2.1) fun (b23 : Bool) => if (b23 && (g.1 != [])) = true then ((ud4 g.1).bind fun (r24 : Int × Bool) => if r24.2 = true then (k11 ((f.1, r24.1, r24.2, f.2.2.2.1, f.2.2.2.2), ((), l.2.1, l.2.2.1, l.2.2.2.1, r24.1, l.2.2.2.2.2.1, l.2.2.2.2.2.2))) else (k11 ((f.1, r24.1, r24.2, f.2.2.2.1, f.2.2.2.2), l))) else (k11 (f, l)))
      = K ((f.1, (headS l f g.1).1, (headS l f g.1).2.1, f.2.2.2.1, f.2.2.2.2), ((), l.2.1, l.2.2.1, l.2.2.2.1, (headS l f g.1).2.2, l.2.2.2.2.2.1, l.2.2.2.2.2.2)) := fun K => by
    rw [ual, ual]
    unfold headS
    by_cases h1 : f.2.2.1 = false ∧ g.1 ≠ []
    · rw [if_pos (by simp [h1.1, h1.2]), if_pos h1, unA g.1 hb (by omega), uat]
      by_cases h2 : (ubl g.1).2 = true
      · rw [if_pos h2, if_pos h2]
      · rw [if_neg h2, if_neg h2]
    · rw [if_neg (by intro h; rw [Bool.and_eq_true] at h; exact h1 ⟨by simpa using h.1, by simpa using h.2⟩), if_neg h1]
  refine (hhead _).trans ?_
  dsimp only
  rw [ual]
  unfold readS
  by_cases h3 : (headS l f g.1).2.1 = true
  · rw [if_pos h3, if_pos h3]
    have hr : rng .i64 (headS l f g.1).2.2 := by simp only [rng, lo, Sx.hi]; omega
    rw [uo7 g.1 _ hb (by omega) hr, uat]
    have hw : IntKind.wrap .i64 ((headS l f g.1).2.2 + ((scanF (g.1.length + 2) g.1 0 (headS l f g.1).2.2).1.length : Int)) = (headS l f g.1).2.2 + ((scanF (g.1.length + 2) g.1 0 (headS l f g.1).2.2).1.length : Int) := uaN (by
      unfold scanS at hsl
      simp only [rng, lo, Sx.hi]; omega)
    unfold scanS at hsl ⊢
    rw [if_pos (by omega)]
    by_cases h4 : 0 < (scanF (g.1.length + 2) g.1 0 (headS l f g.1).2.2).1.length
    · rw [if_pos (by rw [decide_eq_true_eq]; omega), if_pos h4]
      dsimp only
      rw [ual, if_pos (by simp only [List.length_cons, List.length_nil]; omega), hw]
    · rw [if_neg (by rw [decide_eq_true_eq]; omega), if_neg h4]
      dsimp only
      rw [ual, if_pos (by simp only [List.length_cons, List.length_nil]; omega), hw]
  · rw [if_neg h3, if_neg h3]
    dsimp only
    rw [ual, if_pos (by simp only [List.length_cons, List.length_nil]; omega)]
end Sx
namespace Sx
open Go
def ue8 : List Int → Int → Option Int
  | [], s => some s
  | x :: m, s => if s ≥ 0 ∧ x ≠ s + 1 then none else ue8 m x
abbrev noLog : Int × LogS := (1, ((), [], 0, [], 0, false, ()))
theorem l2_eq (D : DiskS) (nm : List Int) (most' first : Int) (k : LogS × Int → Option ((Int × LogS) × List (List Int) × Int × DiskS)) : ∀ (xs : List Int) (s : Int), (∀ x ∈ xs, 0 ≤ x ∧ x ≤ 9999999) → -1 ≤ s → s ≤ 9999999 →
    ucv D nm most' first k xs s = match ue8 xs s with
      | none => some (noLog, [], 60, D)
      | some t => k (((), nm, most', [], first, false, ()), t)
  | [], s, _, _, _ => rfl
  | x :: m, s, hx, h0, h1 => by
    have w : IntKind.wrap .i64 (s + 1) = s + 1 := uaN (by simp only [rng, lo, Sx.hi]; omega)
    have hx0 := hx x (by simp)
    rw [ucv, ual, w]
    simp only [ue8]
    by_cases h : s ≥ 0 ∧ x ≠ s + 1
    · rw [if_pos (by rw [Bool.and_eq_true, decide_eq_true_eq]; exact ⟨h.1, by simpa using h.2⟩), if_pos h]
    · rw [if_neg (by rw [Bool.and_eq_true, decide_eq_true_eq]; intro g; exact h ⟨g.1, by simpa using g.2⟩), if_neg h]
      exact l2_eq D nm most' first k m x (fun y hy => hx y (by simp [hy])) (by omega) hx0.2
def uaR (fs : List (List Int × FileS)) (nm : List Int) (last : Int) : List Int → uaQ × LogS → uaQ × LogS × Bool
  | [], s => (s.1, s.2, false)
  | x :: m, s => if (readS s.2 x s.1 (uaB fs (fileN nm x))).2.2.2.2.1 = true then ((readS s.2 x s.1 (uaB fs (fileN nm x))).2, (readS s.2 x s.1 (uaB fs (fileN nm x))).1, x != last)
      else uaR fs nm last m ((readS s.2 x s.1 (uaB fs (fileN nm x))).2, (readS s.2 x s.1 (uaB fs (fileN nm x))).1)
theorem uo9 {l : LogS} {f : uaQ} {b : List Int} (h : uan b) : (headS l f b).2.2 ≤ max l.2.2.2.2.1 1152921504606846976 := by
  have := ueH b h
  unfold headS
  split
  · simp only
    split <;> omega
  · simp only; omega
theorem ufV {l : LogS} {k : Int} {f : uaQ} {b : List Int} (h : uan b) (hl : b.length ≤ 1048576) (hn : 0 ≤ l.2.2.2.2.1 ∧ l.2.2.2.2.1 ≤ 2305843009213693952) :
    (readS l k f b).1.2.1 = l.2.1 ∧ 0 ≤ (readS l k f b).1.2.2.2.2.1 ∧ (readS l k f b).1.2.2.2.2.1 ≤ max l.2.2.2.2.1 1152921504606846976 + 16384 ∧ (readS l k f b).2.1.length ≤ f.1.length + 16384 ∧ (readS l k f b).1.2.2.2.1.length = l.2.2.2.1.length + 1 := by
  have h1 := ukF (l := l) (f := f) h hn
  have h2 := uo9 (l := l) (f := f) h
  have h3 := ujt b h (headS l f b).2.2
  unfold readS
  split
  · refine ⟨rfl, ?_, ?_, ?_, ?_⟩ <;> simp only [List.length_append, List.length_cons, List.length_nil] <;> omega
  · refine ⟨rfl, ?_, ?_, ?_, ?_⟩ <;> simp only [List.length_append, List.length_cons, List.length_nil] <;> omega
theorem l1_eq {D : DiskS} {nm : List Int} (hnm : nm.length ≤ 24) (hok : FsOk D.2.1) (ho : D.2.2.2.2.2.1 = false) (o14 : LogS × Int) (k : uaQ × LogS × Bool → Option ((Int × LogS) × List (List Int) × Int × DiskS)) : ∀ (xs : List Int) (s : uaQ × LogS), (∀ x ∈ xs, rng .i64 x ∧ (pget .str (fileN nm x) D.2.1).isSome = true) → s.2.2.1 = nm →
    0 ≤ s.2.2.2.2.2.1 → s.2.2.2.2.2.1 + 16384 * xs.length ≤ 2305843009213693952 → s.1.1.length + 16384 * xs.length ≤ 1048576 → s.2.2.2.2.1.length + xs.length ≤ 1048576 →
    uc6 D o14 k xs s = k (uaR D.2.1 nm o14.2 xs s)
  | [], s, _, _, _, _, _, _ => rfl
  | x :: m, s, hx, hs, h0, h1, h2, h3 => by
    obtain ⟨hr, hsome⟩ := hx x (by simp)
    obtain ⟨g, hg⟩ := Option.isSome_iff_exists.1 hsome
    have hF := hok.get hg
    have hseen : uaB D.2.1 (fileN nm x) = g.1 := by unfold uaB; rw [hg]; rfl
    simp only [List.length_cons] at h1 h2 h3
    have he := uo8 (l := s.2) (k := x) (f := s.1) (D := D) (g := g) (by rw [hs]; exact hnm) hr hok ho (by rw [hs]; exact hg) ⟨h0, by omega⟩ (by omega) (by omega)
    obtain ⟨b1, b2, b3, b4, b5⟩ := ufV (l := s.2) (k := x) (f := s.1) hF.1 hF.2.2.1 ⟨h0, by omega⟩
    rw [uc6, he, uat]
    simp only [uaR, hseen]
    rw [if_neg (by decide)]
    by_cases ht : (readS s.2 x s.1 g.1).2.2.2.2.1 = true
    · rw [if_pos ht, if_pos ht]
    · rw [if_neg ht, if_neg ht]
      exact l1_eq hnm hok ho o14 k m _ (fun y hy => hx y (by simp [hy])) (b1.trans hs) b2 (by simp only; omega) (by simp only; omega) (by simp only; omega)
end Sx
namespace Sx
open Go
def unB (D : DiskS) (fs : List (List Int × FileS)) : DiskS := (D.1, fs, D.2.2)
end Sx
namespace Sx
open Go
abbrev FateS := List Int × Int × Int × List Int × Unit
def ucr (l : List FateS) : Prop := l.length < 4611686018427387904 ∧ ∀ x ∈ l, uan x.2.2.2.1 ∧ x.2.2.2.1.length ≤ 140737488355328
def fate0 : FateS := ([], 0, 0, [], ())
theorem ugZ (l : List FateS) (hl : l.length < 4611686018427387904) (name : List Int) (s : Int) (k : Unit → Option FateS) : ∀ (j i : Nat), i + j = l.length → (∃ r ∈ l, ubq l name s k (j + 1) (i : Int) = some r) ∨ ubq l name s k (j + 1) (i : Int) = k ()
  | 0, i, h => .inr (by simp only [ubq]; rw [if_neg (by simp only [decide_eq_true_eq]; omega)])
  | j + 1, i, h => by
    have e : ubq l name s k (j + 1 + 1) (i : Int) = if ((List.getD l i fate0).1 == name && (List.getD l i fate0).2.1 == s) = true then some (List.getD l i fate0) else ubq l name s k (j + 1) ((i + 1 : Nat) : Int) := by
      conv => lhs; simp only [ubq]
      rw [if_pos (by simp only [decide_eq_true_eq]; omega), if_pos (by omega)]
      simp only [ual, Int.toNat_natCast]
      rw [uaJ (by omega) (by omega)]
      rfl
    rw [e]
    split
    · left
      have hi : i < l.length := by omega
      refine ⟨_, ?_, rfl⟩
      rw [List.getD_eq_getElem?_getD, List.getElem?_eq_getElem hi, Option.getD_some]
      exact List.getElem_mem hi
    · exact ugZ l hl name s k j (i + 1) (by omega)
theorem uju {l : List FateS} (hl : ucr l) (name : List Int) (s : Int) : ∃ r, ubg l name s = some r ∧ uan r.2.2.2.1 ∧ r.2.2.2.1.length ≤ 140737488355328 := by
  unfold ubg
  simp only [ual]
  have e : Int.toNat ((l.length : Int) - 0) + 1 = l.length + 1 := by omega
  rw [e]
  rcases ugZ l hl.1 name s (fun _ => some fate0) l.length 0 (by omega) with ⟨r, hr, h⟩ | h
  · exact ⟨r, h, hl.2 r hr⟩
  · exact ⟨fate0, h, (fun x hx => by cases hx), by simp [fate0]⟩
def MapOk (m : List (Int × FateS)) : Prop := ∀ p ∈ m, uan p.2.2.2.2.1 ∧ p.2.2.2.2.1.length ≤ 140737488355328
theorem ujv {k : Int} {v : FateS} {q : Int × FateS} : ∀ {l : List (Int × FateS)}, q ∈ pins (.int .i64) k v l → q = (k, v) ∨ q ∈ l
  | [], h => by simp [pins] at h; exact .inl h
  | p :: l, h => by
    simp only [pins] at h
    split at h
    · rcases List.mem_cons.1 h with h | h
      · exact .inl h
      · exact .inr h
    · rcases List.mem_cons.1 h with h | h
      · exact .inr (by simp [h])
      · rcases ujv h with h | h
        · exact .inl h
        · exact .inr (by simp [h])
theorem ulX {k : Int} {v : FateS} {m : List (Int × FateS)} (hm : MapOk m) (hv : uan v.2.2.2.1 ∧ v.2.2.2.1.length ≤ 140737488355328) : MapOk (pput (.int .i64) k v m) := fun p hp => by
  rcases ujv hp with rfl | hp
  · exact hv
  · exact hm p (List.mem_filter.1 hp).1
theorem ukG (k : Int) (v : FateS) (m : List (Int × FateS)) : (pput (.int .i64) k v m).length ≤ m.length + 1 := by
  unfold pput
  rw [uf0]
  have : (pdel (.int .i64) k m).length ≤ m.length := List.length_filter_le _ _
  omega
theorem ujw {f : FileS} {name : List Int} {l : List FateS} (hl : ucr l) : ∀ (ks : List Int) (s : Int × List (Int × FateS)), 0 ≤ s.1 → s.1 ≤ f.1.length → s.2.length + ks.length < 4611686018427387904 → MapOk s.2 →
    ∃ s', foldK (uaO f name l) ks s = some s' ∧ 0 ≤ s'.1 ∧ s'.1 ≤ f.1.length ∧ MapOk s'.2
  | [], s, h0, h1, _, hm => ⟨s, rfl, h0, h1, hm⟩
  | k :: ks, s, h0, h1, hb, hm => by
    obtain ⟨r, hr, hrb⟩ := uju hl name k
    simp only [List.length_cons] at hb
    have e : uaO f name l k s = some (if (r.2.2.1 == 1 || r.2.2.1 == 2) = true then max s.1 (min (IntKind.wrap .i64 (IntKind.wrap .i64 (k + 1) * 64)) (f.1.length : Int)) else s.1, pput (.int .i64) k r s.2) := by
      unfold uaO
      simp only [hr, Option.bind_some, ual]
      rw [if_pos (by omega)]
      split <;> rfl
    have hlen := ukG k r s.2
    have hmx : s.1 ≤ max s.1 (min (IntKind.wrap .i64 (IntKind.wrap .i64 (k + 1) * 64)) (f.1.length : Int)) := Int.le_max_left _ _
    have hmy : max s.1 (min (IntKind.wrap .i64 (IntKind.wrap .i64 (k + 1) * 64)) (f.1.length : Int)) ≤ (f.1.length : Int) := Int.max_le.2 ⟨h1, Int.min_le_right _ _⟩
    generalize max s.1 (min (IntKind.wrap .i64 (IntKind.wrap .i64 (k + 1) * 64)) (f.1.length : Int)) = mx at hmx hmy e
    obtain ⟨s', h2, h3, h4, h5⟩ := ujw (f := f) (name := name) hl ks (if (r.2.2.1 == 1 || r.2.2.1 == 2) = true then mx else s.1, pput (.int .i64) k r s.2)
      (by show (0 : Int) ≤ if _ then _ else _; split <;> omega) (by show (if _ then _ else _ : Int) ≤ _; split <;> omega) (by show (pput _ _ _ _).length + _ < _; omega) (ulX hm hrb)
    refine ⟨s', ?_, h3, h4, h5⟩
    show (uaO f name l k s).bind _ = _
    rw [e]; exact h2
theorem ucj {l : List Int} {i : Nat} {c : Int} (h : uan l) (hc : 0 ≤ c ∧ c < 256) : uan (l.set i c) := fun x hx => by
  rcases List.mem_or_eq_of_mem_set hx with h' | rfl
  · exact h x h'
  · exact hc
theorem ue2 {l : List Int} {i : Nat} (h : uan l) (hi : i < l.length) : 0 ≤ l.getD i 0 ∧ l.getD i 0 < 256 := by
  rw [List.getD_eq_getElem?_getD, List.getElem?_eq_getElem hi, Option.getD_some]; exact h _ (List.getElem_mem hi)
theorem ujx {m : List (Int × FateS)} (h : MapOk m) (s : Int) : uan ((pget (.int .i64) s m).getD ([], 0, 0, [], ())).2.2.2.1 ∧ ((pget (.int .i64) s m).getD ([], 0, 0, [], ())).2.2.2.1.length ≤ 140737488355328 := by
  cases hg : pget (.int .i64) s m with
  | none => exact ⟨(fun x hx => by cases hx), by simp⟩
  | some r =>
    unfold pget at hg
    cases hf : m.find? (fun p => keq (.int .i64) p.1 s) with
    | none => rw [hf] at hg; cases hg
    | some p =>
      rw [hf] at hg
      simp only [Option.map_some, Option.some.injEq] at hg
      subst hg
      exact h p (List.mem_of_find?_eq_some hf)
theorem ukH {f : FileS} (hf : uan f.2.1) (o8 : Int × List (Int × FateS)) (hm : MapOk o8.2) (r10 : List Int) (hr : r10.length ≤ 1048576) (k : List Int → Option FileS) : ∀ (j i : Nat) (out : List Int), i + j = r10.length → out.length = r10.length → uan out →
    ∃ out', uaW f o8 r10 k (j + 1) ((i : Int), out) = k out' ∧ out'.length = r10.length ∧ uan out' ∧ (o8.2 = [] → out' = out)
  | 0, i, out, h, hl, hb => ⟨out, by simp only [uaW]; rw [if_neg (by simp only [decide_eq_true_eq]; omega)], hl, hb, fun _ => rfl⟩
  | j + 1, i, out, h, hl, hb => by
    have hi : i < r10.length := by omega
    have htd : IntKind.wrap .i64 (Int.tdiv (i : Int) 64) = ((i / 64 : Nat) : Int) := by
      rw [Int.tdiv_eq_ediv_of_nonneg (by omega)]; exact uaJ (by omega) (by omega)
    have hnx : IntKind.wrap .i64 ((i : Int) + 1) = ((i + 1 : Nat) : Int) := uaJ (by omega) (by omega)
    have hs64 : IntKind.wrap .i64 (((i / 64 : Nat) : Int) * 64) = ((i / 64 * 64 : Nat) : Int) := uaJ (by omega) (by omega)
    have hi41 : IntKind.wrap .i64 ((i : Int) - ((i / 64 * 64 : Nat) : Int)) = ((i % 64 : Nat) : Int) := by
      rw [uaJ (by omega) (by omega)]; omega
    obtain ⟨hx, hxl⟩ := ujx hm ((i / 64 : Nat) : Int)
    have hstep : ∃ out1, uaW f o8 r10 k (j + 1 + 1) ((i : Int), out) = uaW f o8 r10 k (j + 1) (((i + 1 : Nat) : Int), out1) ∧ out1.length = r10.length ∧ uan out1 ∧ (o8.2 = [] → out1 = out) := by
      conv => arg 1; ext out1; lhs; lhs; simp only [uaW]
      rw [if_pos (by simp only [decide_eq_true_eq]; omega)]
      simp only [ual, htd, hnx, hs64, hi41, Int.toNat_natCast]
      generalize hX : (pget (.int .i64) ((i / 64 : Nat) : Int) o8.2).getD ([], 0, 0, [], ()) = x at hx hxl ⊢
      by_cases c1 : (!(pget (.int .i64) ((i / 64 : Nat) : Int) o8.2).isSome || x.2.2.1 == 1) = true
      · rw [if_pos c1]
        exact ⟨out, rfl, hl, hb, fun _ => rfl⟩
      · rw [if_neg c1]
        have hne : o8.2 = [] → False := fun e => by
          rw [e] at c1
          exact c1 (by simp [pget])
        by_cases c2 : (x.2.2.1 == 2) = true
        · rw [if_pos c2, if_pos (by omega)]
          by_cases c3 : decide (((i % 64 : Nat) : Int) < (x.2.2.2.1.length : Int)) = true
          · have c3' : i % 64 < x.2.2.2.1.length := by simp only [decide_eq_true_eq] at c3; omega
            rw [if_pos c3, if_pos (by omega), if_pos (by rw [List.length_set]; omega)]
            exact ⟨_, rfl, by simp [hl], ucj (ucj hb (by decide)) (ue2 hx c3'), fun e => (hne e).elim⟩
          · rw [if_neg c3]
            exact ⟨_, rfl, by simp [hl], ucj hb (by decide), fun e => (hne e).elim⟩
        · rw [if_neg c2, if_pos (by omega)]
          by_cases c3 : decide ((i : Int) < (f.2.1.length : Int)) = true
          · have c3' : i < f.2.1.length := by simp only [decide_eq_true_eq] at c3; omega
            rw [if_pos c3, if_pos (by omega), if_pos (by rw [List.length_set]; omega)]
            exact ⟨_, rfl, by simp [hl], ucj (ucj hb (by decide)) (ue2 hf c3'), fun e => (hne e).elim⟩
          · rw [if_neg c3]
            exact ⟨_, rfl, by simp [hl], ucj hb (by decide), fun e => (hne e).elim⟩
    obtain ⟨out1, e1, l1, b1, s1⟩ := hstep
    obtain ⟨out', e2, l2, b2, s2⟩ := ukH hf o8 hm r10 hr k j (i + 1) out1 (by omega) l1 b1
    exact ⟨out', e1.trans e2, l2, b2, fun e => (s2 e).trans (s1 e)⟩
theorem ui0 {f : FileS} (hf : FOk f) (name : List Int) {l : List FateS} (hl : ucr l) : ∃ g, ubm f name l = some g ∧ FOk g ∧ g.2.1 = g.1 ∧ g.2.2 = [] ∧ (f.2.2 = [] → f.2.1 = f.1 → g = f) := by
  obtain ⟨hb1, hb2, hl1, hl2, hn, hd⟩ := hf
  have hdl := ugX hn hd
  obtain ⟨s', h1, h2, h3, h4⟩ := ujw (f := f) (name := name) hl f.2.2 ((f.2.1.length : Int), []) (by simp) (by simp; omega) (by simp; omega) (fun p hp => by cases hp)
  have hcl : uaH (List.take (Int.toNat s'.1) f.1) = some (List.take (Int.toNat s'.1) f.1) := ueT (by simp; omega)
  have htl : (List.take (Int.toNat s'.1) f.1).length ≤ 1048576 := by simp; omega
  obtain ⟨out, e1, e2, e3, e4⟩ := ukH (f := f) hb2 s' h4 (List.take (Int.toNat s'.1) f.1) htl (fun o13 => (uaH o13).bind fun r17 => some (o13, r17, [])) (List.take (Int.toNat s'.1) f.1).length 0 (List.take (Int.toNat s'.1) f.1) (by omega) rfl (udC (List.take_subset _ _) hb1)
  have hco : uaH out = some out := ueT (by omega)
  refine ⟨(out, out, []), ?_, ⟨e3, e3, by show out.length ≤ _; omega, Nat.le_refl _, List.nodup_nil, fun s hs => by cases hs⟩, rfl, rfl, fun hd0 hs0 => ?_⟩
  · unfold ubm
    simp only [ual, h1, Option.bind_some]
    rw [if_pos (by omega), hcl]
    simp only [Option.bind_some]
    have ef : Int.toNat (((List.take (Int.toNat s'.1) f.1).length : Int) - 0) + 1 = (List.take (Int.toNat s'.1) f.1).length + 1 := by omega
    rw [ef]
    refine e1.trans ?_
    simp only [hco, Option.bind_some]
  · have hs' : s' = ((f.2.1.length : Int), []) := by
      rw [hd0] at h1
      exact (Option.some.inj h1).symm
    have := e4 (by rw [hs'])
    have ht : List.take (Int.toNat s'.1) f.1 = f.1 := by rw [hs', hs0]; simp
    rw [ht] at this
    rw [this]
    obtain ⟨a, b, c⟩ := f
    simp only at hd0 hs0 ⊢
    rw [hd0, hs0]
end Sx
namespace Sx
open Go
theorem uiy {l : List FateS} (hl : ucr l) : ∀ (ks : List (List Int)) (fs : List (List Int × FileS)), FsOk fs → (∀ k ∈ ks, (pget .str k fs).isSome) →
    ∃ fs', foldK (uaX l) ks fs = some fs' ∧ FsOk fs' ∧ fs'.map (·.1) = fs.map (·.1) ∧ (∀ k f, pget .str k fs = some f → f.2.2 = [] → f.2.1 = f.1 → pget .str k fs' = some f) ∧ (∀ k g, (k ∈ ks ∨ ∀ f, pget .str k fs = some f → f.2.1 = f.1 ∧ f.2.2 = []) → pget .str k fs' = some g → g.2.1 = g.1 ∧ g.2.2 = [])
  | [], fs, hok, _ => ⟨fs, rfl, hok, rfl, fun _ _ h _ _ => h, fun k g h hg => by
      rcases h with h | h
      · cases h
      · exact h g hg⟩
  | k :: ks, fs, hok, hk => by
    obtain ⟨f, hf⟩ := Option.isSome_iff_exists.1 (hk k (by simp))
    obtain ⟨g, hg, hgo, hg1, hg2, hg3⟩ := ui0 (hok.get hf) k hl
    have e : uaX l k fs = some (pset .str k g fs) := by
      unfold uaX
      simp only [hf, Option.bind_some, hg]
    have hks : ∀ k' ∈ ks, (pget .str k' (pset .str k g fs)).isSome := fun k' hk' => by
      by_cases h : k = k'
      · subst h; rw [udp hf]; rfl
      · rw [ubU h]; exact hk k' (by simp [hk'])
    obtain ⟨fs', h1, h2, h3, h4, h5⟩ := uiy hl ks (pset .str k g fs) (hok.set hgo) hks
    refine ⟨fs', ?_, h2, by rw [h3, ucq], fun k' f' hf' hd hs => ?_, fun k' g' hor hg' => ?_⟩
    · show (uaX l k fs).bind _ = _
      rw [e]; exact h1
    · refine h4 k' f' ?_ hd hs
      by_cases h : k = k'
      · subst h
        rw [hf] at hf'
        obtain rfl := Option.some.inj hf'
        rw [udp hf, hg3 hd hs]
      · rw [ubU h]; exact hf'
    · refine h5 k' g' ?_ hg'
      by_cases h : k' ∈ ks
      · exact .inl h
      · right
        intro f' hf'
        by_cases hkk : k = k'
        · subst hkk
          rw [udp hf] at hf'
          obtain rfl := Option.some.inj hf'
          exact ⟨hg1, hg2⟩
        · rw [ubU hkk] at hf'
          rcases hor with hor | hor
          · rcases List.mem_cons.1 hor with h' | h'
            · exact absurd h'.symm hkk
            · exact absurd h' h
          · exact hor f' hf'
theorem uor {D : DiskS} {l : List FateS} (hl : ucr l) (hok : FsOk D.2.1) (hop : D.2.2.2.2.2.1 = true → D.2.2.2.2.2.2 = true) : ∃ fs', ua9 D l = some (D.1, fs', 0, D.2.2.2.1, 0, true, false) ∧ FsOk fs' ∧ fs'.map (·.1) = D.2.1.map (·.1) ∧
    (∀ k f, pget .str k D.2.1 = some f → f.2.2 = [] → f.2.1 = f.1 → pget .str k fs' = some f) ∧ (∀ k g, pget .str k fs' = some g → g.2.1 = g.1 ∧ g.2.2 = []) := by
  obtain ⟨fs', h1, h2, h3, h4, h5⟩ := uiy hl (D.2.1.map (·.1)) D.2.1 hok (fun k hk => by
    cases hg : pget .str k D.2.1 with
    | none => exact absurd hk (get_none.1 hg)
    | some f => rfl)
  refine ⟨fs', ?_, h2, h3, h4, fun k g hg => h5 k g (.inl ?_) hg⟩
  · unfold ua9
    rw [if_neg]
    · simp only [ual, h1, Option.bind_some]
    · cases ho : D.2.2.2.2.2.1 with
      | false => simp
      | true => simp [hop ho]
  · rw [← h3]
    refine Classical.byContradiction fun hc => ?_
    have := get_none.2 hc
    rw [hg] at this; cases this
theorem unC {D : DiskS} (hp : D.2.2.2.2.2.2 = false) : udg D = some (D.1, D.2.1, D.2.2.1, D.2.2.2.1, D.2.2.2.2.1, false, false) := by
  unfold udg
  simp only [ual, hp]
  rw [if_neg (by decide)]
theorem ui1 (D : DiskS) (n : Int) : ucN D n = some (D.1, D.2.1, D.2.2.1, D.2.2.2.1, max n 0, D.2.2.2.2.2.1, D.2.2.2.2.2.2) := rfl
end Sx
namespace Sx
open Go
theorem uml {D : DiskS} {name text : List Int} {at0 : Int} (hok : FsOk D.2.1) (hat : rng .i64 at0) (ht : uan text) (htl : text.length ≤ 140737488355328) (hnl : name.length < 4611686018427387904) :
    (∃ e, e ≠ 0 ∧ uaV D name at0 text = some (e, D)) ∨
    (D.2.2.2.2.2.1 = false ∧ uc7 name = some true ∧ 0 ≤ at0 ∧ at0 ≤ (uaB D.2.1 name).length ∧ at0 + text.length ≤ 1048576 ∧ ∃ e a fl o p fs', ubc D 1 = some (e, (D.1, D.2.1, a, D.2.2.2.1, fl, o, p)) ∧ uaV D name at0 text = some (if e = 0 then (0, (D.1, fs', a, D.2.2.2.1, fl, o, p)) else (e, (D.1, D.2.1, a, D.2.2.2.1, fl, o, p))) ∧
      FsOk fs' ∧ (∃ ds, pget .str name fs' = some (over (uaB D.2.1 name) at0.toNat text, udJ D.2.1 name, ds) ∧ ∀ x, x ∈ ds ↔ x ∈ udj D.2.1 name ∨ (text ≠ [] ∧ at0 / 64 ≤ x ∧ x * 64 < at0 + text.length)) ∧ (∀ b, name ≠ b → pget .str b fs' = pget .str b D.2.1) ∧ fs'.map (·.1) = (if (pget .str name D.2.1).isSome then D.2.1 else pput .str name ([], [], []) D.2.1).map (·.1) ∧ ∀ u, ucs D = some u → u + max 0 (at0 + text.length - (uaB D.2.1 name).length) ≤ D.1) := by
  rcases Bool.eq_false_or_eq_true D.2.2.2.2.2.1 with ho | ho
  · exact .inl ⟨9, by decide, by unfold uaV; rw [if_pos ho]⟩
  ·
    obtain ⟨b, hb⟩ := umh name hnl
    obtain ⟨u, hu, hu0, hu1⟩ := ulR hok
    have hlen := hok.2.2
    have hm : D.2.1.length ≤ most := by simp only [most]; omega
    have hr : -9223372036854775808 ≤ at0 ∧ at0 ≤ 9223372036854775807 := by simpa only [rng, lo, Sx.hi] using hat
    have hsl : (uaB D.2.1 name).length ≤ 1048576 := by
      unfold uaB
      cases hg : pget .str name D.2.1 with
      | none => simp
      | some f => exact (hok.get hg).2.2.1
    have hw : uaV D name at0 text = uaV D name at0 text := rfl
    by_cases c1 : b = true ∧ 0 ≤ at0 ∧ at0 ≤ (uaB D.2.1 name).length
    · obtain ⟨rfl, h0, h1⟩ := c1
      have hw1 : IntKind.wrap .i64 (at0 + (text.length : Int)) = at0 + text.length := uaJ (by omega) (by omega)
      by_cases c2 : at0 + text.length ≤ 1048576
      · by_cases c3 : pget .str name D.2.1 = none → D.2.1.length < 16
        · by_cases c4 : u + max 0 (at0 + text.length - (uaB D.2.1 name).length) ≤ D.1
          · have hcap : ∀ u', ucs D = some u' → u' + max 0 (at0 + text.length - (uaB D.2.1 name).length) ≤ D.1 := fun u' hu' => by rw [hu] at hu'; cases hu'; exact c4
            obtain ⟨e, a, fl, o, p, fs', g1, g2, g3, g4, g5, g6⟩ := ulf hok ho hb ht h0 h1 c2 c3 hcap
            exact .inr ⟨ho, hb, h0, h1, c2, e, a, fl, o, p, fs', g1, g2, g3, g4, g5, g6, hcap⟩
          · refine .inl ⟨41, by decide, ?_⟩
            unfold uaV
            rw [if_neg (by simp [ho])]
            simp only [ual, hb, hu, Option.bind_some, hw1]
            have hw2 : IntKind.wrap .i64 (at0 + (text.length : Int) - (uaB D.2.1 name).length) = at0 + text.length - (uaB D.2.1 name).length := uaJ (by omega) (by omega)
            have hw3 : IntKind.wrap .i64 (u + max 0 (at0 + (text.length : Int) - (uaB D.2.1 name).length)) = u + max 0 (at0 + (text.length : Int) - (uaB D.2.1 name).length) := uaJ (by omega) (by omega)
            cases hg : pget .str name D.2.1 with
            | none =>
              have hz : uaB D.2.1 name = [] := by simp [uaB, hg]
              rw [hz] at hw2 hw3 c4 h1
              simp only [List.length_nil, Int.natCast_zero] at hw2 hw3 c4 h1
              have h16 := c3 hg
              simp only [Option.isSome_none, Bool.false_eq_true, if_false, Bool.not_true, Bool.false_or, Bool.not_false, if_true, hw2, hw3]
              rw [if_neg (by simp only [Bool.or_eq_true, decide_eq_true_eq]; omega), if_neg (by simp only [decide_eq_true_eq]; omega), if_pos hm, if_neg (by simp only [decide_eq_true_eq]; omega), if_pos (by simp only [decide_eq_true_eq]; omega)]
            | some f =>
              have hz : uaB D.2.1 name = f.1 := by simp [uaB, hg]
              rw [hz] at hw2 hw3 c4 h1
              simp only [Option.isSome_some, if_true, Option.bind_some, Bool.not_true, Bool.false_or, Bool.false_eq_true, if_false, hw2, hw3]
              rw [if_neg (by simp only [Bool.or_eq_true, decide_eq_true_eq]; omega), if_neg (by simp only [decide_eq_true_eq]; omega), if_pos (by simp only [decide_eq_true_eq]; omega)]
        · have hg : pget .str name D.2.1 = none := Classical.byContradiction fun h => c3 (fun h' => absurd h' h)
          have h16 : ¬ D.2.1.length < 16 := fun h => c3 (fun _ => h)
          have hz : uaB D.2.1 name = [] := by simp [uaB, hg]
          rw [hz] at h1
          simp only [List.length_nil, Int.natCast_zero] at h1
          refine .inl ⟨6, by decide, ?_⟩
          unfold uaV
          rw [if_neg (by simp [ho])]
          simp only [ual, hb, Option.bind_some, hw1, hg, Option.isSome_none, Bool.false_eq_true, if_false, Bool.not_true, Bool.false_or, Bool.not_false, if_true]
          rw [if_neg (by simp only [Bool.or_eq_true, decide_eq_true_eq]; omega), if_neg (by simp only [decide_eq_true_eq]; omega), if_pos hm, if_pos (by simp only [decide_eq_true_eq]; omega)]
      · refine .inl ⟨3, by decide, ?_⟩
        unfold uaV
        rw [if_neg (by simp [ho])]
        simp only [ual, hb, Option.bind_some, hw1]
        cases hg : pget .str name D.2.1 with
        | none =>
          have hz : uaB D.2.1 name = [] := by simp [uaB, hg]
          rw [hz] at h1
          simp only [List.length_nil, Int.natCast_zero] at h1
          simp only [Option.isSome_none, Bool.false_eq_true, if_false, Bool.not_true, Bool.false_or]
          rw [if_neg (by simp only [Bool.or_eq_true, decide_eq_true_eq]; omega), if_pos (by simp only [decide_eq_true_eq]; omega)]
        | some f =>
          have hz : uaB D.2.1 name = f.1 := by simp [uaB, hg]
          rw [hz] at h1
          simp only [Option.isSome_some, if_true, Option.bind_some, Bool.not_true, Bool.false_or]
          rw [if_neg (by simp only [Bool.or_eq_true, decide_eq_true_eq]; omega), if_pos (by simp only [decide_eq_true_eq]; omega)]
    · refine .inl ⟨1, by decide, ?_⟩
      unfold uaV
      rw [if_neg (by simp [ho])]
      simp only [ual, hb, Option.bind_some]
      cases hg : pget .str name D.2.1 with
      | none =>
        have hz : uaB D.2.1 name = [] := by simp [uaB, hg]
        rw [hz] at c1
        simp only [List.length_nil, Int.natCast_zero] at c1
        simp only [Option.isSome_none, Bool.false_eq_true, if_false]
        rw [if_pos (by cases b <;> simp only [Bool.not_false, Bool.not_true, Bool.true_or, Bool.false_or, Bool.or_eq_true, decide_eq_true_eq, true_and] at c1 ⊢; omega)]
      | some f =>
        have hz : uaB D.2.1 name = f.1 := by simp [uaB, hg]
        rw [hz] at c1
        simp only [Option.isSome_some, if_true, Option.bind_some]
        rw [if_pos (by cases b <;> simp only [Bool.not_false, Bool.not_true, Bool.true_or, Bool.false_or, Bool.or_eq_true, decide_eq_true_eq, true_and] at c1 ⊢; omega)]
theorem umm {D : DiskS} {name text : List Int} {at0 : Int} (hok : FsOk D.2.1) (hat : rng .i64 at0) (ht : uan text) (htl : text.length ≤ 140737488355328) (hnl : name.length < 4611686018427387904) :
    (∃ e, e ≠ 0 ∧ uaV D name at0 text = some (e, D)) ∨
    (D.2.2.2.2.2.1 = false ∧ uc7 name = some true ∧ 0 ≤ at0 ∧ at0 ≤ (uaB D.2.1 name).length ∧ at0 + text.length ≤ 1048576 ∧ ∃ e a fl o p fs', ubc D 1 = some (e, (D.1, D.2.1, a, D.2.2.2.1, fl, o, p)) ∧ uaV D name at0 text = some (if e = 0 then (0, (D.1, fs', a, D.2.2.2.1, fl, o, p)) else (e, (D.1, D.2.1, a, D.2.2.2.1, fl, o, p))) ∧
      FsOk fs' ∧ (∃ ds, pget .str name fs' = some (over (uaB D.2.1 name) at0.toNat text, udJ D.2.1 name, ds) ∧ ∀ x, x ∈ ds ↔ x ∈ udj D.2.1 name ∨ (text ≠ [] ∧ at0 / 64 ≤ x ∧ x * 64 < at0 + text.length)) ∧ (∀ b, name ≠ b → pget .str b fs' = pget .str b D.2.1) ∧ fs'.map (·.1) = (if (pget .str name D.2.1).isSome then D.2.1 else pput .str name ([], [], []) D.2.1).map (·.1)) := by
  rcases uml hok hat ht htl hnl with h | ⟨ho, hb, h0, h1, c2, e, a, fl, o, p, fs', g1, g2, g3, g4, g5, g6, _⟩
  · exact .inl h
  · exact .inr ⟨ho, hb, h0, h1, c2, e, a, fl, o, p, fs', g1, g2, g3, g4, g5, g6⟩
theorem ulg {ks : List Int} {n : Int} {s : Int} : s ∈ udi ks n → s ∈ ks := fun h => (List.mem_filter.1 h).1
end Sx
namespace Sx
open Go
def cutF (f : FileS) (n : Int) : FileS := (f.1.take n.toNat, f.2.1.take n.toNat, udi f.2.2 n)
def uch (a : List Int) : Bool := a.all (fun c => decide (33 ≤ c) && decide (c ≤ 126)) && (a != []) && decide (a.length ≤ 24)
theorem uos (a : List Int) (hl : a.length < 4611686018427387904) (k : Unit → Option Bool) : ∀ (j i : Nat), i + j = a.length →
    udf a k (j + 1) (i : Int) = if (a.drop i).all (fun c => decide (33 ≤ c) && decide (c ≤ 126)) = true then k () else some false := by
  intro j
  induction j with
  | zero =>
    intro i hi
    rw [List.drop_eq_nil_of_le (by omega), udf]
    rw [if_neg (by rw [decide_eq_true_eq]; omega)]
    rfl
  | succ j ih =>
    intro i hi
    have hlt : i < a.length := by omega
    have hdr : a.drop i = a.getD i 0 :: a.drop (i + 1) := by
      rw [List.drop_eq_getElem_cons hlt]
      simp [List.getD, hlt]
    have w5 : IntKind.wrap .i64 ((i : Int) + 1) = ((i + 1 : Nat) : Int) := by rw [uaN (by simp only [rng, lo, Sx.hi]; omega)]; omega
    rw [hdr, List.all_cons, udf]
    rw [if_pos (by rw [decide_eq_true_eq]; omega), if_pos (by constructor <;> omega)]
    simp only [Int.toNat_natCast, ual]
    by_cases hA : a.getD i 0 < 33
    · rw [if_pos (by rw [decide_eq_true_eq]; exact hA), if_pos trivial, if_neg (by simp only [Bool.and_eq_true, decide_eq_true_eq]; omega)]
    · rw [if_neg (by rw [decide_eq_true_eq]; exact hA), if_pos (by constructor <;> omega)]
      by_cases hB : a.getD i 0 > 126
      · rw [if_pos (by rw [decide_eq_true_eq]; exact hB), if_neg (by simp only [Bool.and_eq_true, decide_eq_true_eq]; omega)]
      · rw [if_neg (by rw [decide_eq_true_eq]; exact hB), w5, ih (i + 1) (by omega)]
        have : (decide (33 ≤ a.getD i 0) && decide (a.getD i 0 ≤ 126)) = true := by rw [Bool.and_eq_true, decide_eq_true_eq, decide_eq_true_eq]; omega
        rw [this, Bool.true_and]
theorem uot (a : List Int) (hl : a.length < 4611686018427387904) : ufa a = some (uch a) := by
  unfold ufa
  simp only [ual]
  rw [show Int.toNat ((List.length a : Int) - 0) = a.length by omega]
  refine (uos a hl _ a.length 0 (by omega)).trans ?_
  rw [List.drop_zero]
  unfold uch
  cases h : a.all (fun c => decide (33 ≤ c) && decide (c ≤ 126)) with
  | false => rfl
  | true =>
    rw [if_pos rfl, Bool.true_and]
    congr 2
    exact decide_eq_decide.2 (by omega)
end Sx
namespace Sx
open Go
theorem uh2 (l : List (List Int)) (n : Nat) (rest : List Int) (f : Nat) (hg : goodL l) (hf : l.length < f) (hn : n + l.length < 9223372036854775807) (hb : uan rest)
    (hno : ∀ p r, p.length ≤ 65536 → rest ≠ uax (n + l.length) p ++ r) : scanF f (uaq n l ++ rest) 0 (n : Int) = (l, (lenF l : Int), decide (rest ≠ [])) := by
  have h := uhB l n [] rest f hg hf hn
  simp only [List.nil_append, List.length_nil, Nat.zero_add] at h
  refine h ?_
  intro hw
  rw [← uaF n l] at hw
  obtain ⟨_, p, r, h1, h2⟩ := ufU (fun c hc => by
    rcases List.mem_append.1 hc with g | g
    · exact ued n hg c g
    · exact hb c g) hw
  rw [Int.toNat_natCast] at h2
  exact hno p r h1 h2
theorem uhl (l : List (List Int)) : 64 * l.length ≤ lenF l := by
  induction l with
  | nil => simp [lenF]
  | cons p r ih =>
    have := ubw p.length
    have hl : lenF (p :: r) = room p.length + lenF r := by simp [lenF]
    simp only [List.length_cons]; omega
theorem upw (m : Nat) (p r : List Int) : ([] : List Int) ≠ uax m p ++ r := fun h => by
  have := congrArg List.length h
  have hr := ubw p.length
  simp [ua0] at this
  omega
end Sx
namespace Sx
open Go
theorem unD {n : Nat} {p : List Int} (h : uan (uax n p)) : uan p := fun x hx => by
  refine h x ?_
  rw [ucu]
  simp [hx]
theorem ufq : ∀ (f : Nat) (P c : List Int) (n : Nat), uan (P ++ c) → c.length < f → n + c.length < 9223372036854775807 →
    ∃ l rest, goodL l ∧ c = uaq n l ++ rest ∧ l.length ≤ c.length ∧ scanF f (P ++ c) (P.length : Int) (n : Int) = (l, ((P.length + lenF l : Nat) : Int), decide (rest ≠ [])) ∧ ∀ p r, p.length ≤ 65536 → rest ≠ uax (n + l.length) p ++ r
  | 0, _, _, _, _, h, _ => by omega
  | f + 1, P, c, n, hb, hf, hn => by
    by_cases hw : (uaU (P ++ c) (P.length : Int) (n : Int)).2.2 = 1
    · obtain ⟨_, p, r1, hp, hc⟩ := ufU hb hw
      rw [Int.toNat_natCast] at hc
      subst hc
      have hnx := ufp P r1 p n hp
      have hflen : (uax n p).length = room p.length := by
        have := uaF n [p]
        simpa [uaq, lenF] using this
      have hroom := (ubw p.length).1
      have hpb : uan p := unD (n := n) fun x hx => hb x (by simp [hx])
      obtain ⟨l, rest, g1, g2, g3, g4, g5⟩ := ufq f (P ++ uax n p) r1 (n + 1) (by rw [List.append_assoc]; exact hb) (by simp only [List.length_append] at hf; omega) (by simp only [List.length_append] at hn; omega)
      refine ⟨p :: l, rest, fun q hq => ?_, ?_, ?_, ?_, ?_⟩
      · rcases List.mem_cons.1 hq with rfl | hq
        · exact ⟨hpb, hp⟩
        · exact g1 q hq
      · rw [g2]; simp [uaq]
      · simp only [List.length_cons, List.length_append]; omega
      · rw [scanF, if_pos hw, hnx]
        rw [if_neg (by simp only [List.length_append] at hn; omega)]
        dsimp only
        have e1 : (P.length : Int) + (room p.length : Int) = ((P ++ uax n p).length : Int) := by rw [List.length_append, hflen]; omega
        have e2 : ((n : Int) + 1) = ((n + 1 : Nat) : Int) := by omega
        rw [e1, e2, ← List.append_assoc, g4]
        have e3 : (P ++ uax n p).length + lenF l = P.length + lenF (p :: l) := by rw [List.length_append, hflen]; simp only [lenF, List.map_cons, List.sum_cons]; omega
        rw [e3]
      · intro q r hq
        have := g5 q r hq
        rw [List.length_cons, show n + (l.length + 1) = n + 1 + l.length by omega]
        exact this
    · refine ⟨[], c, fun q hq => by simp at hq, rfl, by simp, ?_, ?_⟩
      · rw [scanF, if_neg hw]
        have : decide ((P.length : Int) < ((P ++ c).length : Int)) = decide (c ≠ []) := decide_eq_decide.2 (by
          rw [List.length_append]
          cases c with
          | nil => simp
          | cons a r => simp; omega)
        rw [this]
        simp [lenF]
      · intro p r hp he
        refine hw ?_
        rw [he, List.length_nil, Nat.add_zero, ufp P r p n hp]
theorem uhC (b : List Int) (hb : uan b) (hl : b.length ≤ 1048576) (n : Nat) (hn : n ≤ 2305843009213693952) :
    ∃ l rest, goodL l ∧ b = uaq n l ++ rest ∧ scanS b n = (l, (lenF l : Int), decide (rest ≠ [])) ∧ scanS (uaq n l) n = (l, (lenF l : Int), false) := by
  obtain ⟨l, rest, g1, g2, g3, g4, g5⟩ := ufq (b.length + 2) [] b n (by simpa using hb) (by omega) (by omega)
  simp only [List.nil_append, List.length_nil, Nat.zero_add] at g4
  refine ⟨l, rest, g1, g2, g4, ?_⟩
  have h := uh2 l n [] ((uaq n l).length + 2) g1 (by
    have h64 : ∀ l : List (List Int), l.length ≤ lenF l := by
      intro l
      induction l with
      | nil => simp [lenF]
      | cons p r ih =>
        have := (ubw p.length).1
        simp only [lenF, List.map_cons, List.sum_cons, List.length_cons] at ih ⊢
        omega
    rw [uaF]; have := h64 l; omega) (by omega) (fun x hx => by simp at hx) (fun p r hp he => by
      have := (ubw p.length).1
      have h2 : (uax (n + l.length) p).length = room p.length := by
        have := uaF (n + l.length) [p]
        simpa [uaq, lenF] using this
      have h3 := congrArg List.length he
      simp only [List.length_nil, List.length_append] at h3
      omega)
  unfold scanS
  simpa using h
end Sx
namespace Sx
open Go
def log0 (nm : List Int) (most' first : Int) : LogS := ((), nm, most', [], first, false, ())
def ubE (D : DiskS) (nm : List Int) : List Int := ubj (nums nm (D.2.1.map (·.1)))
theorem numsOf_mem {D : DiskS} {nm : List Int} {x : Int} : x ∈ ubE D nm ↔ (0 ≤ x ∧ x ≤ 9999999) ∧ fileN nm x ∈ D.2.1.map (·.1) := by
  unfold ubE
  rw [(udP _).mem_iff]
  unfold nums
  rw [List.mem_filterMap]
  constructor
  · rintro ⟨f, hf, hn⟩
    obtain ⟨rfl, h0, h1⟩ := numOf_spec.1 hn
    exact ⟨⟨h0, h1⟩, hf⟩
  · rintro ⟨⟨h0, h1⟩, hf⟩
    exact ⟨_, hf, numOf_spec.2 ⟨rfl, h0, h1⟩⟩
theorem ugs {D : DiskS} (hok : FsOk D.2.1) (nm : List Int) : (ubE D nm).length ≤ 16 := by
  unfold ubE
  rw [(udP _).length_eq]
  have := List.length_filterMap_le (numOf nm) (D.2.1.map (·.1))
  rw [List.length_map] at this
  exact Nat.le_trans this hok.2.2
theorem uh3 {fs : List (List Int × FileS)} {k : List Int} (h : k ∈ fs.map (·.1)) : (pget .str k fs).isSome = true := by
  cases hg : pget .str k fs with
  | none => exact absurd h (get_none.1 hg)
  | some f => rfl
def reading (D : DiskS) (nm : List Int) (most' first : Int) : Option (uaQ × LogS × Bool) :=
  (ue8 (ubE D nm) (-1)).map fun last => uaR D.2.1 nm last (ubE D nm) (([], 0, false, false, ()), log0 nm most' first)
theorem uiz {fs : List (List Int × FileS)} (nm : List Int) (last : Int) : ∀ (xs : List Int) (s : uaQ × LogS), (uaR fs nm last xs s).2.1.2.1 = s.2.2.1
  | [], s => rfl
  | x :: m, s => by
    simp only [uaR]
    have h : ∀ l k f b, (readS l k f b).1.2.1 = l.2.1 := fun l k f b => by unfold readS; split <;> rfl
    split
    · exact h _ _ _ _
    · rw [uiz nm last m]; exact h _ _ _ _
theorem uhD {fs : List (List Int × FileS)} (nm : List Int) (last : Int) : ∀ (xs : List Int) (s : uaQ × LogS), ∃ ys, ys <+: xs ∧ (uaR fs nm last xs s).2.1.2.2.2.1.map (·.1) = s.2.2.2.2.1.map (·.1) ++ ys
  | [], s => ⟨[], List.prefix_refl _, by simp [uaR]⟩
  | x :: m, s => by
    have h : ∀ l k f b, (readS l k f b).1.2.2.2.1.map (·.1) = l.2.2.2.1.map (·.1) ++ [k] := fun l k f b => by unfold readS; split <;> simp
    simp only [uaR]
    split
    · exact ⟨[x], ⟨m, rfl⟩, h _ _ _ _⟩
    · obtain ⟨ys, ⟨t, ht⟩, e⟩ := uhD nm last m ((readS s.2 x s.1 (uaB fs (fileN nm x))).2, (readS s.2 x s.1 (uaB fs (fileN nm x))).1)
      refine ⟨x :: ys, ⟨t, by rw [← ht]; rfl⟩, ?_⟩
      rw [e, h]
      simp
end Sx
namespace Sx
open Go
theorem ujy {l : List (List Int)} (h : l.length ≤ 1048576) : ubf l = some l := by
  unfold ubf
  simp
  omega
end Sx
namespace Sx
open Go
def cutD (D : DiskS) (R : uaQ × LogS × Bool) : DiskS :=
  if R.1.2.2.2.1 = true then
    match pget .str (fileN R.2.1.2.1 ((R.2.1.2.2.2.1.getD (R.2.1.2.2.2.1.length - 1) (0, 0, 0, ())).1)) D.2.1 with
    | some f => unB D (pset .str (fileN R.2.1.2.1 ((R.2.1.2.2.2.1.getD (R.2.1.2.2.2.1.length - 1) (0, 0, 0, ())).1)) (cutF f (R.2.1.2.2.2.1.getD (R.2.1.2.2.2.1.length - 1) (0, 0, 0, ())).2.1) D.2.1)
    | none => D
  else D
def told (R : uaQ × LogS × Bool) (first : Int) : List (List Int) := if R.1.2.2.1 = true then R.1.1.drop (first - R.1.2.1).toNat else R.1.1
def udD (R : uaQ × LogS × Bool) (first : Int) : Prop := R.2.2 = true ∨ (R.1.2.2.1 = true ∧ (R.1.2.1 > first ∨ R.2.1.2.2.2.2.1 < first))
def InvR (f : uaQ) (l : LogS) : Prop := (f.2.2.1 = true → l.2.2.2.2.1 = f.2.1 + (f.1.length : Int)) ∧ (f.2.2.1 = false → f.1 = [])
theorem ukI {l : LogS} {k : Int} {f : uaQ} {b : List Int} (h : InvR f l) : InvR (readS l k f b).2 (readS l k f b).1 := by
  have hh : ((headS l f b).2.1 = true → (headS l f b).2.2 = (headS l f b).1 + (f.1.length : Int)) ∧ ((headS l f b).2.1 = false → f.1 = []) := by
    unfold headS
    by_cases h1 : f.2.2.1 = false ∧ b ≠ []
    · rw [if_pos h1]
      have hp := h.2 h1.1
      refine ⟨fun h2 => ?_, fun _ => hp⟩
      dsimp only at h2 ⊢
      rw [if_pos h2, hp]; simp
    · rw [if_neg h1]
      exact h
  unfold readS
  by_cases h3 : (headS l f b).2.1 = true
  · rw [if_pos h3]
    refine ⟨fun _ => ?_, fun h4 => ?_⟩
    · dsimp only
      rw [hh.1 h3, List.length_append]; omega
    · dsimp only at h4
      rw [h3] at h4; cases h4
  · rw [if_neg h3]
    have h5 : (headS l f b).2.1 = false := by simpa using h3
    exact ⟨fun h4 => absurd h4 h3, fun _ => hh.2 h5⟩
theorem ujz {fs : List (List Int × FileS)} (nm : List Int) (last : Int) : ∀ (xs : List Int) (s : uaQ × LogS), InvR s.1 s.2 → InvR (uaR fs nm last xs s).1 (uaR fs nm last xs s).2.1
  | [], s, h => h
  | x :: m, s, h => by
    simp only [uaR]
    split
    · exact ukI h
    · exact ujz nm last m _ (ukI h)
end Sx
namespace Sx
open Go
theorem ulY : ∀ (n v : Nat) (r : List Int), v < 256 ^ n → pre (be v n ++ r) n = (v : Int)
  | 0, v, r, h => by
    have : v = 0 := by simpa using h
    subst this; rfl
  | n + 1, v, r, h => by
    have hd : v / 256 < 256 ^ n := Nat.div_lt_of_lt_mul (by rw [Nat.pow_succ] at h; omega)
    have ih := ulY n (v / 256) ([((v % 256 : Nat) : Int)] ++ r) hd
    rw [uiY, List.append_assoc]
    simp only [pre]
    rw [ih]
    have hg : (be (v / 256) n ++ ([((v % 256 : Nat) : Int)] ++ r)).getD n 0 = ((v % 256 : Nat) : Int) := by
      simp only [List.getD]
      rw [List.getElem?_append_right (by rw [ucC]; exact Nat.le_refl n), ucC]
      simp
    rw [hg]
    omega
theorem upa (v : Nat) (h : v < 18446744073709551616) (r : List Int) : pre (be v 8 ++ r) 8 = (v : Int) := ulY 8 v r (by simpa using h)
theorem ufE {x : Nat} (hx : x < 1152921504606846976) {l : List (List Int)} (hg : goodL l) (hne : l ≠ []) (rest : List Int) : ubl (uaq x l ++ rest) = ((x : Int), true) := by
  cases l with
  | nil => exact absurd rfl hne
  | cons p r =>
    have hp := hg p (by simp)
    have hr := (ubw p.length).1
    have e1 : uaq x (p :: r) ++ rest = uax x p ++ (uaq (x + 1) r ++ rest) := by simp [uaq]
    have hlen : 64 ≤ (uaq x (p :: r) ++ rest).length := by rw [e1, List.length_append, ua0]; omega
    have hpre : pre ((uaq x (p :: r) ++ rest).drop 4) 8 = (x : Int) := by
      rw [e1, ucu, List.append_assoc]
      have : (be p.length 4 ++ (be x 8 ++ (be (sumOf x p).toNat 4 ++ (p ++ List.replicate (room p.length - (16 + p.length)) 0)) ++ (uaq (x + 1) r ++ rest))).drop 4 = be x 8 ++ ((be (sumOf x p).toNat 4 ++ (p ++ List.replicate (room p.length - (16 + p.length)) 0)) ++ (uaq (x + 1) r ++ rest)) := by
        rw [List.drop_left' (ucC _ _), List.append_assoc]
      rw [this]
      exact upa x (by omega) _
    unfold ubl
    rw [if_neg (by omega), hpre, if_neg (by omega)]
    have := ufp [] (uaq (x + 1) r ++ rest) p x hp.2
    simp only [List.nil_append, List.length_nil] at this
    rw [e1]
    rw [show ((0 : Nat) : Int) = 0 from rfl] at this
    rw [this]
    rfl
theorem umn {l : LogS} {k : Int} {f : uaQ} {b : List Int} (hb : uan b) (hl : b.length ≤ 1048576) (hn : 0 ≤ l.2.2.2.2.1 ∧ l.2.2.2.2.1 ≤ 2305843009213693952) :
    ∃ u : Nat, (readS l k f b).1.2.2.2.1 = l.2.2.2.1 ++ [(k, (u : Int), (((readS l k f b).1.2.2.2.1.getD l.2.2.2.1.length (0, 0, 0, ())).2.2.1), ())] ∧ u ≤ b.length ∧ ((readS l k f b).2.2.2.2.1 = decide (u < b.length)) ∧
      ∃ fst : Int, readS l k f (b.take u) = ((readS l k f b).1, ((readS l k f b).2.1, fst, (readS l k f b).2.2.2.1, false, f.2.2.2.2)) ∧ ((readS l k f b).2.2.2.1 = true → fst = (readS l k f b).2.2.1) ∧ ((readS l k f b).2.2.2.1 = false → u = 0) := by
  have hbg := ueH b hb
  by_cases h1 : f.2.2.1 = true
  ·
    obtain ⟨n, hn'⟩ := Int.eq_ofNat_of_zero_le hn.1
    obtain ⟨ls, rest, g1, g2, g3, g4⟩ := uhC b hb hl n (by omega)
    have hh : ∀ t, headS l f t = (f.2.1, f.2.2.1, l.2.2.2.2.1) := fun t => by
      unfold headS
      rw [if_neg (by rw [h1]; simp)]
    have htk : b.take (lenF ls) = uaq n ls := by
      conv => lhs; rw [g2]
      rw [← uaF n ls, List.take_left]
    have hul : lenF ls ≤ b.length := by rw [g2, List.length_append, uaF]; omega
    refine ⟨lenF ls, ?_, hul, ?_, f.2.1, ?_, ?_, ?_⟩
    · unfold readS
      rw [hh]
      simp only [h1, if_true, hn', g3]
      simp
    · unfold readS
      rw [hh]
      simp only [h1, if_true, hn', g3]
      exact decide_eq_decide.2 (by omega)
    · rw [htk]
      unfold readS
      rw [hh, hh]
      simp only [h1, if_true, hn', g3, g4]
      rw [uaF]
      simp
    · intro _
      unfold readS
      rw [hh]
      simp only [h1, if_true]
    · intro h
      unfold readS at h
      rw [hh] at h
      simp only [h1, if_true] at h
      exact absurd h (by decide)
  · have h1' : f.2.2.1 = false := by simpa using h1
    by_cases h2 : b = []
    · subst h2
      have hh : headS l f [] = (f.2.1, f.2.2.1, l.2.2.2.2.1) := by
        unfold headS
        rw [if_neg (by simp)]
      refine ⟨0, ?_, by simp, ?_, f.2.1, ?_, ?_, ?_⟩
      · unfold readS
        rw [hh]
        simp [h1']
      · unfold readS
        rw [hh]
        simp [h1']
      · rw [List.take_nil]
        unfold readS
        rw [hh]
        simp [h1']
      · intro h
        unfold readS at h
        rw [hh] at h
        simp [h1'] at h
      · intro _; rfl
    · have hh : headS l f b = ((ubl b).1, (ubl b).2, if (ubl b).2 = true then (ubl b).1 else l.2.2.2.2.1) := by
        unfold headS
        rw [if_pos ⟨h1', h2⟩]
      by_cases h3 : (ubl b).2 = true
      · obtain ⟨x, hx⟩ := Int.eq_ofNat_of_zero_le hbg.1
        obtain ⟨ls, rest, g1, g2, g3, g4⟩ := uhC b hb hl x (by omega)
        have hne : ls ≠ [] := fun e => by
          subst e
          have hw : (uaU b 0 (ubl b).1).2.2 = 1 := by
            have := h3
            unfold ubl at this ⊢
            split at this
            · cases this
            · rename_i c1
              rw [if_neg c1]
              split at this
              · cases this
              · rename_i c2
                rw [if_neg c2]
                simpa using this
          have hs : (scanS b x).1 ≠ [] := by
            unfold scanS
            rw [hx] at hw
            rw [show b.length + 2 = (b.length + 1) + 1 from rfl, scanF, if_pos hw]
            split <;> simp
          rw [g3] at hs
          exact hs rfl
        have htk : b.take (lenF ls) = uaq x ls := by
          conv => lhs; rw [g2]
          rw [← uaF x ls, List.take_left]
        have hul : lenF ls ≤ b.length := by rw [g2, List.length_append, uaF]; omega
        have hbt : ubl (uaq x ls) = ((x : Int), true) := by
          have := ufE (x := x) (by omega) g1 hne []
          simpa using this
        have hnz : uaq x ls ≠ [] := fun e => by
          have h0 := congrArg List.length e
          rw [uaF] at h0
          cases ls with
          | nil => exact hne rfl
          | cons p r =>
            have := (ubw p.length).1
            simp only [lenF, List.map_cons, List.sum_cons, List.length_nil] at h0
            omega
        have hh2 : headS l f (uaq x ls) = ((x : Int), true, (x : Int)) := by
          unfold headS
          rw [if_pos ⟨h1', hnz⟩, hbt]
          rfl
        rw [h3, hx] at hh
        simp only [if_true] at hh
        refine ⟨lenF ls, ?_, hul, ?_, (x : Int), ?_, ?_, ?_⟩
        · unfold readS
          rw [hh]
          simp only [if_true, g3]
          simp
        · unfold readS
          rw [hh]
          simp only [if_true, g3]
          exact decide_eq_decide.2 (by omega)
        · rw [htk]
          unfold readS
          rw [hh, hh2]
          simp only [if_true, g3, g4]
          rw [uaF]
          simp
        · intro _
          unfold readS
          rw [hh]
          simp only [if_true]
        · intro h
          unfold readS at h
          rw [hh] at h
          simp only [if_true] at h
          exact absurd h (by decide)
      · have h3' : (ubl b).2 = false := by simpa using h3
        rw [h3'] at hh
        simp only [Bool.false_eq_true, if_false] at hh
        have hh2 : headS l f [] = (f.2.1, f.2.2.1, l.2.2.2.2.1) := by
          unfold headS
          rw [if_neg (by simp)]
        refine ⟨0, ?_, by simp, ?_, f.2.1, ?_, ?_, ?_⟩
        · unfold readS
          rw [hh]
          simp
        · unfold readS
          rw [hh]
          simp
        · rw [List.take_zero]
          unfold readS
          rw [hh, hh2]
          simp [h1']
        · intro h
          unfold readS at h
          rw [hh] at h
          simp at h
        · intro _; rfl
end Sx
namespace Sx
open Go
def LastOf (xs : List Int) (last : Int) : Prop := xs.Nodup ∧ (xs = [] ∨ ∃ ys, xs = ys ++ [last])
theorem LastOf.tail {x : Int} {m : List Int} {last : Int} (h : LastOf (x :: m) last) : LastOf m last := by
  refine ⟨(List.nodup_cons.1 h.1).2, ?_⟩
  rcases h.2 with e | ⟨ys, e⟩
  · cases e
  · cases ys with
    | nil => left; simp only [List.nil_append, List.cons.injEq] at e; exact e.2
    | cons y r => right; simp only [List.cons_append, List.cons.injEq] at e; exact ⟨r, e.2⟩
theorem ujA {l : LogS} {k : Int} {f : uaQ} {b : List Int} : (readS l k f b).1.2.2.2.1.length = l.2.2.2.1.length + 1 := by
  unfold readS
  split <;> simp
theorem unE {l : LogS} {k : Int} {f : uaQ} {b : List Int} (h : uan b) (hl : b.length ≤ 1048576) (hn : 0 ≤ l.2.2.2.2.1 ∧ l.2.2.2.2.1 ≤ 2305843009213693952) : 0 ≤ (readS l k f b).1.2.2.2.2.1 ∧ (readS l k f b).1.2.2.2.2.1 ≤ max l.2.2.2.2.1 1152921504606846976 + 16384 :=
  have := ufV (l := l) (k := k) (f := f) h hl hn
  ⟨this.2.1, this.2.2.1⟩
end Sx
namespace Sx
open Go
theorem ulZ (D : DiskS) : udK D = some D.2.2.2.2.2.1 := rfl
def uhm (fs : List (List Int × FileS)) : Prop := ∀ f ∈ fs.map (·.1), uan f ∧ f.length < 4611686018427387904
theorem ar1 {a b c n : Int} {m : Nat} (h : a ≤ max b c + 16384) : a ≤ max b c + 16384 * (((m + 1 : Nat)) : Int) := by omega
theorem ar2 {a b m : Nat} (h : a ≤ b + 16384) : a ≤ b + 16384 * (m + 1) := Nat.le_trans h (Nat.add_le_add_left (Nat.le_mul_of_pos_right 16384 (Nat.succ_pos m)) b)
theorem ar3 {a b c d : Int} {m : Nat} (h : a ≤ max d c + 16384 * (m : Int)) (g : d ≤ max b c + 16384) : a ≤ max b c + 16384 * (((m + 1 : Nat)) : Int) := by omega
theorem ar4 {a b d m : Nat} (h : a ≤ d + 16384 * m) (g : d ≤ b + 16384) : a ≤ b + 16384 * (m + 1) := by
  rw [Nat.mul_succ]
  generalize 16384 * m = t at *
  omega
theorem ar5 {b c d T : Int} {m : Nat} (h : max b c + 16384 * (((m + 1 : Nat)) : Int) ≤ T) (g : d ≤ max b c + 16384) : max d c + 16384 * (m : Int) ≤ T := by omega
theorem ug0 {fs : List (List Int × FileS)} {nm : List Int} {last : Int} (hb : ∀ x, uan (uaB fs (fileN nm x)) ∧ (uaB fs (fileN nm x)).length ≤ 1048576) : ∀ (xs : List Int) (s : uaQ × LogS), 0 ≤ s.2.2.2.2.2.1 → max s.2.2.2.2.2.1 1152921504606846976 + 16384 * xs.length ≤ 2305843009213693952 →
    0 ≤ (uaR fs nm last xs s).2.1.2.2.2.2.1 ∧ (uaR fs nm last xs s).2.1.2.2.2.2.1 ≤ max s.2.2.2.2.2.1 1152921504606846976 + 16384 * xs.length ∧ (uaR fs nm last xs s).1.1.length ≤ s.1.1.length + 16384 * xs.length ∧ (uaR fs nm last xs s).2.1.2.2.2.1.length ≤ s.2.2.2.2.1.length + xs.length
  | [], s, h0, h1 => by
    refine ⟨h0, ?_, ?_, ?_⟩
    · show s.2.2.2.2.2.1 ≤ _
      omega
    · exact Nat.le_refl _
    · exact Nat.le_refl _
  | x :: m, s, h0, h1 => by
    obtain ⟨hbx, hlx⟩ := hb x
    rw [List.length_cons] at h1 ⊢
    have h2 : s.2.2.2.2.2.1 ≤ 2305843009213693952 := by omega
    have hB := ufV (l := s.2) (k := x) (f := s.1) hbx hlx ⟨h0, h2⟩
    have e : uaR fs nm last (x :: m) s = if (readS s.2 x s.1 (uaB fs (fileN nm x))).2.2.2.2.1 = true then ((readS s.2 x s.1 (uaB fs (fileN nm x))).2, (readS s.2 x s.1 (uaB fs (fileN nm x))).1, x != last)
      else uaR fs nm last m ((readS s.2 x s.1 (uaB fs (fileN nm x))).2, (readS s.2 x s.1 (uaB fs (fileN nm x))).1) := rfl
    rw [e]
    clear e
    revert hB
    generalize readS s.2 x s.1 (uaB fs (fileN nm x)) = q
    rintro ⟨b1, b2, b3, b4, b5⟩
    by_cases ht : q.2.2.2.2.1 = true
    · rw [if_pos ht]
      exact ⟨b2, ar1 (n := 0) b3, ar2 b4, by rw [b5]; exact Nat.add_le_add_left (Nat.le_add_left 1 _) _⟩
    · rw [if_neg ht]
      have ih := ug0 (nm := nm) (last := last) hb m (q.2, q.1) b2 (ar5 h1 b3)
      revert ih
      generalize uaR fs nm last m (q.2, q.1) = R
      rintro ⟨c1, c2, c3, c4⟩
      exact ⟨c1, ar3 c2 b3, ar4 c3 b4, by rw [b5] at c4; rw [Nat.add_comm m.length 1, ← Nat.add_assoc]; exact c4⟩
theorem upb {fs : List (List Int × FileS)} (hok : FsOk fs) (k : List Int) : uan (uaB fs k) ∧ (uaB fs k).length ≤ 1048576 := by
  unfold uaB
  cases hg : pget .str k fs with
  | none => exact ⟨fun x hx => (by cases hx), Nat.zero_le _⟩
  | some f => exact ⟨(hok.get hg).1, (hok.get hg).2.2.1⟩
theorem umo {fs : List (List Int × FileS)} {nm : List Int} {last : Int} {xs : List Int} {s : uaQ × LogS} (hs : s.2.2.2.2.1 = []) (P : Int → Prop) (hx : ∀ x ∈ xs, P x) : ∀ t ∈ (uaR fs nm last xs s).2.1.2.2.2.1, P t.1 := by
  obtain ⟨ys, hp, he⟩ := uhD (fs := fs) nm last xs s
  rw [hs] at he
  intro t ht
  have : t.1 ∈ (uaR fs nm last xs s).2.1.2.2.2.1.map (·.1) := List.mem_map_of_mem ht
  rw [he] at this
  simp only [List.map_nil, List.nil_append] at this
  exact hx _ (hp.subset this)
theorem uiA {fs : List (List Int × FileS)} (nm : List Int) (last : Int) : ∀ (xs : List Int) (s : uaQ × LogS), s.1.2.2.2.1 = false → (uaR fs nm last xs s).1.2.2.2.1 = true →
    (uaR fs nm last xs s).2.1.2.2.2.1 ≠ []
  | [], s, h, g => by
    simp only [uaR] at g
    rw [h] at g; cases g
  | x :: m, s, h, g => by
    simp only [uaR] at g ⊢
    by_cases ht : (readS s.2 x s.1 (uaB fs (fileN nm x))).2.2.2.2.1 = true
    · rw [if_pos ht]
      intro e
      have := @ujA s.2 x s.1 (uaB fs (fileN nm x))
      dsimp only at e
      rw [e] at this
      simp at this
    · rw [if_neg ht] at g ⊢
      exact uiA nm last m _ (by simpa using ht) g
end Sx
namespace Sx
open Go
theorem uou {D : DiskS} {nm : List Int} : ∀ x ∈ ubE D nm, 0 ≤ x ∧ x ≤ 9999999 := fun x hx => (numsOf_mem.1 hx).1
theorem uov (D : DiskS) (R : uaQ × LogS × Bool) : (cutD D R).2.1.map (·.1) = D.2.1.map (·.1) := by
  unfold cutD
  split
  · split
    · exact ucq _ _ _
    · rfl
  · rfl
theorem ujB {fs : List (List Int × FileS)} {nm : List Int} {last : Int} (hb : ∀ x, uan (uaB fs (fileN nm x)) ∧ (uaB fs (fileN nm x)).length ≤ 1048576) : ∀ (xs : List Int) (s : uaQ × LogS), 0 ≤ s.2.2.2.2.2.1 → max s.2.2.2.2.2.1 1152921504606846976 + 16384 * xs.length ≤ 2305843009213693952 → s.1.2.2.2.1 = false → (uaR fs nm last xs s).1.2.2.2.1 = true →
    ((uaR fs nm last xs s).2.1.2.2.2.1.getD ((uaR fs nm last xs s).2.1.2.2.2.1.length - 1) (0, 0, 0, ())).1 ∈ xs ∧ ∃ u : Nat, ((uaR fs nm last xs s).2.1.2.2.2.1.getD ((uaR fs nm last xs s).2.1.2.2.2.1.length - 1) (0, 0, 0, ())).2.1 = (u : Int) ∧ u ≤ (uaB fs (fileN nm ((uaR fs nm last xs s).2.1.2.2.2.1.getD ((uaR fs nm last xs s).2.1.2.2.2.1.length - 1) (0, 0, 0, ())).1)).length
  | [], s, _, _, h, g => by
    simp only [uaR] at g
    rw [h] at g; cases g
  | x :: m, s, h0, h1, h, g => by
    obtain ⟨hbx, hlx⟩ := hb x
    rw [List.length_cons] at h1
    have h2 : s.2.2.2.2.2.1 ≤ 2305843009213693952 := by omega
    have hB := unE (l := s.2) (k := x) (f := s.1) hbx hlx ⟨h0, h2⟩
    obtain ⟨u, hu1, hu2, _⟩ := umn (l := s.2) (k := x) (f := s.1) hbx hlx ⟨h0, h2⟩
    have e : uaR fs nm last (x :: m) s = if (readS s.2 x s.1 (uaB fs (fileN nm x))).2.2.2.2.1 = true then ((readS s.2 x s.1 (uaB fs (fileN nm x))).2, (readS s.2 x s.1 (uaB fs (fileN nm x))).1, x != last)
      else uaR fs nm last m ((readS s.2 x s.1 (uaB fs (fileN nm x))).2, (readS s.2 x s.1 (uaB fs (fileN nm x))).1) := rfl
    rw [e] at g ⊢
    clear e
    by_cases ht : (readS s.2 x s.1 (uaB fs (fileN nm x))).2.2.2.2.1 = true
    · rw [if_pos ht]
      have h2 := @ujA s.2 x s.1 (uaB fs (fileN nm x))
      have hg : (readS s.2 x s.1 (uaB fs (fileN nm x))).1.2.2.2.1.getD ((readS s.2 x s.1 (uaB fs (fileN nm x))).1.2.2.2.1.length - 1) (0, 0, 0, ()) = (x, (u : Int), ((readS s.2 x s.1 (uaB fs (fileN nm x))).1.2.2.2.1.getD s.2.2.2.2.1.length (0, 0, 0, ())).2.2.1, ()) := by
        rw [h2]
        conv => lhs; rw [hu1]
        simp [List.getD]
      dsimp only
      rw [hg]
      exact ⟨List.mem_cons_self, u, rfl, hu2⟩
    · rw [if_neg ht] at g ⊢
      obtain ⟨a, b⟩ := ujB hb m ((readS s.2 x s.1 (uaB fs (fileN nm x))).2, (readS s.2 x s.1 (uaB fs (fileN nm x))).1) hB.1 (ar5 h1 hB.2) (by simpa using ht) g
      exact ⟨List.mem_cons_of_mem _ a, b⟩
structure ReadOk (D : DiskS) (nm : List Int) (R : uaQ × LogS × Bool) : Prop where
  name : R.2.1.2.1 = nm
  inv : InvR R.1 R.2.1
  next : 0 ≤ R.2.1.2.2.2.2.1 ∧ R.2.1.2.2.2.2.1 ≤ 1152921504607109120
  pays : R.1.1.length ≤ 262144
  segs : R.2.1.2.2.2.1.length ≤ 16
  nums : ∀ t ∈ R.2.1.2.2.2.1, (0 ≤ t.1 ∧ t.1 ≤ 9999999) ∧ (pget .str (fileN nm t.1) D.2.1).isSome = true
  torn : R.1.2.2.2.1 = true → R.2.1.2.2.2.1 ≠ [] ∧ ∃ f, pget .str (fileN nm (R.2.1.2.2.2.1.getD (R.2.1.2.2.2.1.length - 1) (0, 0, 0, ())).1) D.2.1 = some f ∧ 0 ≤ (R.2.1.2.2.2.1.getD (R.2.1.2.2.2.1.length - 1) (0, 0, 0, ())).2.1 ∧ (R.2.1.2.2.2.1.getD (R.2.1.2.2.2.1.length - 1) (0, 0, 0, ())).2.1 ≤ (f.1.length : Int)
theorem ump {D : DiskS} {nm : List Int} {mo fi : Int} {R : uaQ × LogS × Bool} (hok : FsOk D.2.1) (hfi : 0 ≤ fi ∧ fi ≤ 1152921504606846976) (hR : reading D nm mo fi = some R) : ReadOk D nm R := by
  unfold reading at hR
  rw [Option.map_eq_some_iff] at hR
  obtain ⟨last, hk, rfl⟩ := hR
  have hn := ugs hok nm
  have hb := fun x => upb hok (fileN nm x)
  have hmax : max fi 1152921504606846976 = 1152921504606846976 := by omega
  have h1 : max fi 1152921504606846976 + 16384 * ((ubE D nm).length : Int) ≤ 2305843009213693952 := by rw [hmax]; omega
  have hbd := ug0 (fs := D.2.1) (nm := nm) (last := last) hb (ubE D nm) (([], 0, false, false, ()), log0 nm mo fi) hfi.1 h1
  have hts := ujB (fs := D.2.1) (nm := nm) (last := last) hb (ubE D nm) (([], 0, false, false, ()), log0 nm mo fi) hfi.1 h1 rfl
  have htf := uiA (fs := D.2.1) nm last (ubE D nm) (([], 0, false, false, ()), log0 nm mo fi) rfl
  obtain ⟨b1, b2, b3, b4⟩ := hbd
  have hP : ∀ x ∈ ubE D nm, (0 ≤ x ∧ x ≤ 9999999) ∧ (pget .str (fileN nm x) D.2.1).isSome = true := fun x hx => ⟨(numsOf_mem.1 hx).1, uh3 (numsOf_mem.1 hx).2⟩
  refine ⟨uiz nm last _ _, ujz nm last _ _ ⟨fun h => (by cases h), fun _ => rfl⟩, ⟨b1, ?_⟩, ?_, ?_, umo rfl _ hP, fun ht => ⟨htf ht, ?_⟩⟩
  · refine Int.le_trans b2 ?_
    show max fi _ + _ ≤ _
    rw [hmax]; omega
  · refine Nat.le_trans b3 ?_
    show 0 + 16384 * (ubE D nm).length ≤ _
    omega
  · refine Nat.le_trans b4 ?_
    show 0 + (ubE D nm).length ≤ _
    omega
  · obtain ⟨c1, u, c2, c3⟩ := hts ht
    obtain ⟨f, hf⟩ := Option.isSome_iff_exists.1 (hP _ c1).2
    refine ⟨f, hf, by rw [c2]; omega, ?_⟩
    rw [c2]
    have : uaB D.2.1 (fileN nm ((uaR D.2.1 nm last (ubE D nm) (([], 0, false, false, ()), log0 nm mo fi)).2.1.2.2.2.1.getD ((uaR D.2.1 nm last (ubE D nm) (([], 0, false, false, ()), log0 nm mo fi)).2.1.2.2.2.1.length - 1) (0, 0, 0, ())).1) = f.1 := by unfold uaB; rw [hf]; rfl
    rw [this] at c3
    omega
end Sx
namespace Sx
open Go
theorem uiB {D : DiskS} {nm : List Int} {R : uaQ × LogS × Bool} (h : ReadOk D nm R) : ∀ t ∈ R.2.1.2.2.2.1, rng .i64 t.1 := fun t ht => by
  have := (h.nums t ht).1
  simp only [rng, lo, Sx.hi]; omega
end Sx
namespace Sx
open Go
theorem uc4 {nm : List Int} {x y : Int} (hx : 0 ≤ x ∧ x ≤ 9999999) (hy : 0 ≤ y ∧ y ≤ 9999999) (h : fileN nm x = fileN nm y) : x = y := by
  have h1 : numOf nm (fileN nm x) = some x := numOf_spec.2 ⟨rfl, hx.1, hx.2⟩
  have h2 : numOf nm (fileN nm x) = some y := numOf_spec.2 ⟨h, hy.1, hy.2⟩
  rw [h1] at h2
  exact Option.some.inj h2
theorem ue3 {V : Type} {a b : List Int} (v : V) (h : a ≠ b) : ∀ (l : List (List Int × V)), pget .str b (pset .str a v l) = pget .str b l
  | [] => rfl
  | p :: l => by
    rw [ufQ, ub1, ub1, ue3 v h l]
    by_cases e : p.1 = a
    · rw [if_pos e]
      dsimp only
      rw [if_neg (by rw [e]; exact h), if_neg (by rw [e]; exact h)]
    · rw [if_neg e]
def upx (fs : List (List Int × FileS)) (k : List Int) : Prop := ∀ f, pget .str k fs = some f → f.2.2 = [] ∧ f.2.1 = f.1
end Sx
namespace Sx
open Go
end Sx
namespace Sx
open Go
def ftOf (l : List FateS) (name : List Int) (s : Int) : FateS := (ubg l name s).getD fate0
theorem ft_eq {l : List FateS} (hl : ucr l) (name : List Int) (s : Int) : ubg l name s = some (ftOf l name s) ∧ uan (ftOf l name s).2.2.2.1 ∧ (ftOf l name s).2.2.2.1.length ≤ 140737488355328 := by
  obtain ⟨r, h, h1, h2⟩ := uju hl name s
  unfold ftOf
  rw [h]
  exact ⟨rfl, h1, h2⟩
def stays (x : FateS) : Bool := x.2.2.1 == 1 || x.2.2.1 == 2
theorem umq {a b : Int} {v : FateS} (m : List (Int × FateS)) : pget (.int .i64) b (pput (.int .i64) a v m) = if b = a then some v else pget (.int .i64) b m := by
  have hne : ∀ {l : List (Int × FateS)}, a ≠ b → pget (.int .i64) b (pdel (.int .i64) a l) = pget (.int .i64) b l := fun {l} h => by
    induction l with
    | nil => rfl
    | cons p r ih =>
      simp only [pdel, pget, List.filter_cons, List.find?_cons] at ih ⊢
      by_cases hp : keq (.int .i64) p.1 a = true
      · have hpa : p.1 = a := by simpa [keq] using hp
        have hpb : keq (.int .i64) p.1 b = false := by simp [keq, hpa, h]
        simp only [hp, Bool.not_true, Bool.false_eq_true, if_false, hpb]
        exact ih
      · simp only [Bool.not_eq_true] at hp
        simp only [hp, Bool.not_false, if_true, List.find?_cons]
        cases keq (.int .i64) p.1 b with
        | true => rfl
        | false => exact ih
  by_cases h : b = a
  · subst h
    rw [if_pos rfl]
    have hself : ∀ {l : List (Int × FateS)}, pget (.int .i64) b l = none → pget (.int .i64) b (pins (.int .i64) b v l) = some v := fun {l} h => by
      induction l with
      | nil => simp [pins, pget, keq]
      | cons p r ih =>
        simp only [pins]
        split
        · simp [pget, keq]
        · have hp : keq (.int .i64) p.1 b = false := by
            cases hq : keq (.int .i64) p.1 b with
            | false => rfl
            | true => simp [pget, List.find?_cons, hq] at h
          have h2 : pget (.int .i64) b r = none := by simpa [pget, List.find?_cons, hp] using h
          have := ih h2
          simpa [pget, List.find?_cons, hp] using this
    exact hself (ueg (kt := .int .i64) m)
  · rw [if_neg h]
    unfold pput
    rw [ueO (fun e => h e.symm), hne (fun e => h e.symm)]
theorem uiC {f : FileS} {name : List Int} {l : List FateS} (hl : ucr l) : ∀ (ks : List Int) (s : Int × List (Int × FateS)), (∀ k ∈ ks, 0 ≤ k ∧ k < 16384) → 0 ≤ s.1 → s.1 ≤ f.1.length → s.2.length + ks.length < 4611686018427387904 → MapOk s.2 →
    ∃ s', foldK (uaO f name l) ks s = some s' ∧ s.1 ≤ s'.1 ∧ s'.1 ≤ f.1.length ∧ MapOk s'.2 ∧ (∀ q, pget (.int .i64) q s'.2 = if q ∈ ks then some (ftOf l name q) else pget (.int .i64) q s.2) ∧
      (∀ q ∈ ks, stays (ftOf l name q) = true → min ((q + 1) * 64) (f.1.length : Int) ≤ s'.1) ∧ (s'.1 = s.1 ∨ ∃ q ∈ ks, stays (ftOf l name q) = true ∧ s'.1 = min ((q + 1) * 64) (f.1.length : Int))
  | [], s, _, h0, h1, _, hm => ⟨s, rfl, Int.le_refl _, h1, hm, (fun q => by simp), (fun q hq => by cases hq), .inl rfl⟩
  | k :: ks, s, hk, h0, h1, hb, hm => by
    obtain ⟨hr, hrb⟩ := ft_eq hl name k
    obtain ⟨hk0, hk1⟩ := hk k (by simp)
    simp only [List.length_cons] at hb
    have hw : IntKind.wrap .i64 (IntKind.wrap .i64 (k + 1) * 64) = (k + 1) * 64 := by rw [uaJ (n := k + 1) (by omega) (by omega), uaJ (by omega) (by omega)]
    have e : uaO f name l k s = some (if stays (ftOf l name k) = true then max s.1 (min ((k + 1) * 64) (f.1.length : Int)) else s.1, pput (.int .i64) k (ftOf l name k) s.2) := by
      unfold uaO
      simp only [hr, Option.bind_some, ual, hw]
      rw [if_pos (by omega)]
      unfold stays
      split <;> rfl
    generalize hX : (if stays (ftOf l name k) = true then max s.1 (min ((k + 1) * 64) (f.1.length : Int)) else s.1, pput (.int .i64) k (ftOf l name k) s.2) = s1 at e
    have hx1 : s1.1 = if stays (ftOf l name k) = true then max s.1 (min ((k + 1) * 64) (f.1.length : Int)) else s.1 := by rw [← hX]
    have hx2 : s1.2 = pput (.int .i64) k (ftOf l name k) s.2 := by rw [← hX]
    have hs1 : s.1 ≤ s1.1 ∧ s1.1 ≤ f.1.length := by rw [hx1]; split <;> omega
    obtain ⟨s', g1, g2, g3, g4, g5, g6, g7⟩ := uiC (f := f) (name := name) hl ks s1 (fun q hq => hk q (by simp [hq])) (by omega) hs1.2 (by rw [hx2]; have := ukG k (ftOf l name k) s.2; omega) (by rw [hx2]; exact ulX hm hrb)
    refine ⟨s', ?_, by omega, g3, g4, fun q => ?_, fun q hq hst => ?_, ?_⟩
    · show (uaO f name l k s).bind _ = _
      rw [e]; exact g1
    · rw [g5 q, hx2, umq]
      by_cases hqk : q = k
      · subst hqk; simp
      · simp [hqk]
    · rcases List.mem_cons.1 hq with rfl | hq
      · refine Int.le_trans ?_ g2
        rw [hx1, if_pos hst]; omega
      · exact g6 q hq hst
    · rcases g7 with g7 | ⟨q, hq, hst, g7⟩
      · rw [g7, hx1]
        split
        · rename_i hst
          rcases Int.le_total (min ((k + 1) * 64) (f.1.length : Int)) s.1 with h | h
          · left; omega
          · right; exact ⟨k, by simp, hst, by omega⟩
        · exact .inl rfl
      · exact .inr ⟨q, by simp [hq], hst, g7⟩
def comes (safe : List Int) (x : Option FateS) (was : Int) (q : Nat) : Int := match x with
  | none => was
  | some x => if x.2.2.1 = 1 then was else if x.2.2.1 = 2 then (if q % 64 < x.2.2.2.1.length then x.2.2.2.1.getD (q % 64) 0 else 0) else if q < safe.length then safe.getD q 0 else 0
theorem ujC {f : FileS} (hf : uan f.2.1) (o8 : Int × List (Int × FateS)) (hm : MapOk o8.2) (r10 : List Int) (hr : r10.length ≤ 1048576) (k : List Int → Option FileS) : ∀ (j i : Nat) (out : List Int), i + j = r10.length → out.length = r10.length → uan out →
    ∃ out', uaW f o8 r10 k (j + 1) ((i : Int), out) = k out' ∧ out'.length = r10.length ∧ uan out' ∧ ∀ q, q < r10.length → out'.getD q 0 = if q < i then out.getD q 0 else comes f.2.1 (pget (.int .i64) ((q / 64 : Nat) : Int) o8.2) (out.getD q 0) q
  | 0, i, out, h, hl, hb => ⟨out, by simp only [uaW]; rw [if_neg (by simp only [decide_eq_true_eq]; omega)], hl, hb, fun q hq => by rw [if_pos (by omega)]⟩
  | j + 1, i, out, h, hl, hb => by
    have hi : i < r10.length := by omega
    have htd : IntKind.wrap .i64 (Int.tdiv (i : Int) 64) = ((i / 64 : Nat) : Int) := by
      rw [Int.tdiv_eq_ediv_of_nonneg (by omega)]; exact uaJ (by omega) (by omega)
    have hnx : IntKind.wrap .i64 ((i : Int) + 1) = ((i + 1 : Nat) : Int) := uaJ (by omega) (by omega)
    have hs64 : IntKind.wrap .i64 (((i / 64 : Nat) : Int) * 64) = ((i / 64 * 64 : Nat) : Int) := uaJ (by omega) (by omega)
    have hi41 : IntKind.wrap .i64 ((i : Int) - ((i / 64 * 64 : Nat) : Int)) = ((i % 64 : Nat) : Int) := by
      rw [uaJ (by omega) (by omega)]; omega
    obtain ⟨hx, hxl⟩ := ujx hm ((i / 64 : Nat) : Int)
    have setget : ∀ (c : Int) (q : Nat), (out.set i c).getD q 0 = if q = i then c else out.getD q 0 := fun c q => by
      by_cases hq : q = i
      · subst hq
        rw [if_pos rfl, List.getD_eq_getElem?_getD, List.getElem?_set_self (by omega)]; rfl
      · rw [if_neg hq, List.getD_eq_getElem?_getD, List.getElem?_set_ne (fun e => hq e.symm), ← List.getD_eq_getElem?_getD]
    have hstep : ∃ out1, uaW f o8 r10 k (j + 1 + 1) ((i : Int), out) = uaW f o8 r10 k (j + 1) (((i + 1 : Nat) : Int), out1) ∧ out1.length = r10.length ∧ uan out1 ∧
        ∀ q, out1.getD q 0 = if q = i then comes f.2.1 (pget (.int .i64) ((i / 64 : Nat) : Int) o8.2) (out.getD i 0) i else out.getD q 0 := by
      conv => arg 1; ext out1; lhs; lhs; simp only [uaW]
      rw [if_pos (by simp only [decide_eq_true_eq]; omega)]
      simp only [ual, htd, hnx, hs64, hi41, Int.toNat_natCast]
      cases hg : pget (.int .i64) ((i / 64 : Nat) : Int) o8.2 with
      | none =>
        rw [if_pos (by simp)]
        exact ⟨out, rfl, hl, hb, fun q => by
          split
          · rename_i hq; rw [hq]; rfl
          · rfl⟩
      | some x =>
        rw [hg] at hx hxl
        simp only [Option.getD_some] at hx hxl ⊢
        by_cases c1 : (!(some x : Option FateS).isSome || x.2.2.1 == 1) = true
        · rw [if_pos c1]
          have c1' : x.2.2.1 = 1 := by simpa using c1
          exact ⟨out, rfl, hl, hb, fun q => by
            split
            · rename_i hq; rw [hq]; simp only [comes]; rw [if_pos c1']
            · rfl⟩
        · rw [if_neg c1]
          have c1' : ¬ x.2.2.1 = 1 := by simpa using c1
          by_cases c2 : (x.2.2.1 == 2) = true
          · rw [if_pos c2, if_pos (by omega)]
            have c2' : x.2.2.1 = 2 := by simpa using c2
            by_cases c3 : decide (((i % 64 : Nat) : Int) < (x.2.2.2.1.length : Int)) = true
            · have c3' : i % 64 < x.2.2.2.1.length := by simp only [decide_eq_true_eq] at c3; omega
              rw [if_pos c3, if_pos (by omega), if_pos (by rw [List.length_set]; omega)]
              refine ⟨_, rfl, by simp [hl], ucj (ucj hb (by decide)) (ue2 hx c3'), fun q => ?_⟩
              rw [List.set_set, setget]
              split
              · simp only [comes]; rw [if_neg c1', if_pos c2', if_pos c3']
              · rfl
            · rw [if_neg c3]
              have c3' : ¬ i % 64 < x.2.2.2.1.length := by simp only [decide_eq_true_eq] at c3; omega
              refine ⟨_, rfl, by simp [hl], ucj hb (by decide), fun q => ?_⟩
              rw [setget]
              split
              · simp only [comes]; rw [if_neg c1', if_pos c2', if_neg c3']
              · rfl
          · rw [if_neg c2, if_pos (by omega)]
            have c2' : ¬ x.2.2.1 = 2 := by simpa using c2
            by_cases c3 : decide ((i : Int) < (f.2.1.length : Int)) = true
            · have c3' : i < f.2.1.length := by simp only [decide_eq_true_eq] at c3; omega
              rw [if_pos c3, if_pos (by omega), if_pos (by rw [List.length_set]; omega)]
              refine ⟨_, rfl, by simp [hl], ucj (ucj hb (by decide)) (ue2 hf c3'), fun q => ?_⟩
              rw [List.set_set, setget]
              split
              · simp only [comes]; rw [if_neg c1', if_neg c2', if_pos c3']
              · rfl
            · rw [if_neg c3]
              have c3' : ¬ i < f.2.1.length := by simp only [decide_eq_true_eq] at c3; omega
              refine ⟨_, rfl, by simp [hl], ucj hb (by decide), fun q => ?_⟩
              rw [setget]
              split
              · simp only [comes]; rw [if_neg c1', if_neg c2', if_neg c3']
              · rfl
    obtain ⟨out1, e1, l1, b1, s1⟩ := hstep
    obtain ⟨out', e2, l2, b2, s2⟩ := ujC hf o8 hm r10 hr k j (i + 1) out1 (by omega) l1 b1
    refine ⟨out', e1.trans e2, l2, b2, fun q hq => ?_⟩
    rw [s2 q hq, s1 q]
    by_cases h1 : q < i
    · rw [if_pos (by omega), if_neg (by omega), if_pos h1]
    · rw [if_neg h1]
      by_cases h2 : q = i
      · subst h2
        rw [if_pos (by omega), if_pos rfl]
      · rw [if_neg (by omega), if_neg h2]
theorem umr {f : FileS} (hf : FOk f) (name : List Int) {l : List FateS} (hl : ucr l) : ∃ g, ubm f name l = some g ∧ FOk g ∧ g.2.1 = g.1 ∧ g.2.2 = [] ∧ f.2.1.length ≤ g.1.length ∧ g.1.length ≤ f.1.length ∧
    (∀ s ∈ f.2.2, stays (ftOf l name s) = true → min ((s + 1) * 64) (f.1.length : Int) ≤ g.1.length) ∧ ((g.1.length : Int) = f.2.1.length ∨ ∃ s ∈ f.2.2, stays (ftOf l name s) = true ∧ (g.1.length : Int) = min ((s + 1) * 64) (f.1.length : Int)) ∧
    ∀ q, q < g.1.length → g.1.getD q 0 = comes f.2.1 (if ((q / 64 : Nat) : Int) ∈ f.2.2 then some (ftOf l name ((q / 64 : Nat) : Int)) else none) (f.1.getD q 0) q := by
  obtain ⟨hb1, hb2, hl1, hl2, hn, hd⟩ := hf
  have hdl := ugX hn hd
  obtain ⟨s', h1, h2, h3, h4, h5, h6, h7⟩ := uiC (f := f) (name := name) hl f.2.2 ((f.2.1.length : Int), []) hd (by simp) (by simp; omega) (by simp; omega) (fun p hp => by cases hp)
  simp only at h2 h7
  have hcl : uaH (List.take (Int.toNat s'.1) f.1) = some (List.take (Int.toNat s'.1) f.1) := ueT (by simp; omega)
  have htl : (List.take (Int.toNat s'.1) f.1).length = Int.toNat s'.1 := by simp only [List.length_take]; omega
  obtain ⟨out, e1, e2, e3, e4⟩ := ujC (f := f) hb2 s' h4 (List.take (Int.toNat s'.1) f.1) (by omega) (fun o13 => (uaH o13).bind fun r17 => some (o13, r17, [])) (List.take (Int.toNat s'.1) f.1).length 0 (List.take (Int.toNat s'.1) f.1) (by omega) rfl (udC (List.take_subset _ _) hb1)
  have hco : uaH out = some out := ueT (by omega)
  refine ⟨(out, out, []), ?_, ⟨e3, e3, by show out.length ≤ _; omega, Nat.le_refl _, List.nodup_nil, fun s hs => by cases hs⟩, rfl, rfl, by show _ ≤ out.length; omega, by show out.length ≤ _; omega, fun s hs hst => ?_, ?_, fun q hq => ?_⟩
  · unfold ubm
    simp only [ual, h1, Option.bind_some]
    rw [if_pos (by omega), hcl]
    simp only [Option.bind_some]
    have ef : Int.toNat (((List.take (Int.toNat s'.1) f.1).length : Int) - 0) + 1 = (List.take (Int.toNat s'.1) f.1).length + 1 := by omega
    rw [ef]
    refine e1.trans ?_
    simp only [hco, Option.bind_some]
  · have h8 := h6 s hs hst
    have h9 : min ((s + 1) * 64) (f.1.length : Int) ≤ (out.length : Int) := by omega
    exact h9
  · show ((out.length : Int) = _) ∨ _
    rcases h7 with h7 | ⟨s, hs, hst, h7⟩
    · left; omega
    · right
      have h9 : (out.length : Int) = min ((s + 1) * 64) (f.1.length : Int) := by omega
      exact ⟨s, hs, hst, h9⟩
  · have hq' : q < out.length := hq
    have h := e4 q (by omega)
    rw [if_neg (by omega), h5] at h
    have hget : (List.take (Int.toNat s'.1) f.1).getD q 0 = f.1.getD q 0 := by
      rw [List.getD_eq_getElem?_getD, List.getElem?_take_of_lt (by omega), ← List.getD_eq_getElem?_getD]
    rw [hget] at h
    exact h
theorem uhE {l : List FateS} (hl : ucr l) : ∀ (ks : List (List Int)) (fs : List (List Int × FileS)), ks.Nodup → FsOk fs → (∀ k ∈ ks, (pget .str k fs).isSome) →
    ∃ fs', foldK (uaX l) ks fs = some fs' ∧ FsOk fs' ∧ fs'.map (·.1) = fs.map (·.1) ∧ (∀ k ∈ ks, ∀ f, pget .str k fs = some f → ∃ g, ubm f k l = some g ∧ pget .str k fs' = some g) ∧ ∀ k, k ∉ ks → pget .str k fs' = pget .str k fs
  | [], fs, _, hok, _ => ⟨fs, rfl, hok, rfl, (fun k hk => by cases hk), fun _ _ => rfl⟩
  | k :: ks, fs, hn, hok, hk => by
    rw [List.nodup_cons] at hn
    obtain ⟨f, hf⟩ := Option.isSome_iff_exists.1 (hk k (by simp))
    obtain ⟨g, hg, hgo, _⟩ := ui0 (hok.get hf) k hl
    have e : uaX l k fs = some (pset .str k g fs) := by
      unfold uaX
      simp only [hf, Option.bind_some, hg]
    have hks : ∀ k' ∈ ks, (pget .str k' (pset .str k g fs)).isSome := fun k' hk' => by
      rw [ubU (show k ≠ k' from fun e => hn.1 (by rw [e]; exact hk'))]; exact hk k' (by simp [hk'])
    obtain ⟨fs', h1, h2, h3, h4, h5⟩ := uhE hl ks (pset .str k g fs) hn.2 (hok.set hgo) hks
    refine ⟨fs', ?_, h2, by rw [h3, ucq], fun k' hk' f' hf' => ?_, fun k' hk' => ?_⟩
    · show (uaX l k fs).bind _ = _
      rw [e]; exact h1
    · rcases List.mem_cons.1 hk' with rfl | hk'
      · rw [hf] at hf'
        obtain rfl := Option.some.inj hf'
        exact ⟨g, hg, by rw [h5 k' hn.1, udp hf]⟩
      · refine h4 k' hk' f' ?_
        rw [ubU (show k ≠ k' from fun e => hn.1 (by rw [e]; exact hk'))]; exact hf'
    · simp only [List.mem_cons, not_or] at hk'
      rw [h5 k' hk'.2, ubU (fun e => hk'.1 e.symm)]
theorem ulh {D : DiskS} {l : List FateS} (hl : ucr l) (hok : FsOk D.2.1) (hop : D.2.2.2.2.2.1 = true → D.2.2.2.2.2.2 = true) : ∃ fs', ua9 D l = some (D.1, fs', 0, D.2.2.2.1, 0, true, false) ∧ FsOk fs' ∧ fs'.map (·.1) = D.2.1.map (·.1) ∧
    ∀ k f, pget .str k D.2.1 = some f → ∃ g, ubm f k l = some g ∧ pget .str k fs' = some g := by
  obtain ⟨fs', h1, h2, h3, h4, h5⟩ := uhE hl (D.2.1.map (·.1)) D.2.1 hok.2.1 hok (fun k hk => by
    cases hg : pget .str k D.2.1 with
    | none => exact absurd hk (get_none.1 hg)
    | some f => rfl)
  refine ⟨fs', ?_, h2, h3, fun k f hf => h4 k (Classical.byContradiction fun hc => ?_) f hf⟩
  · unfold ua9
    simp only [ual, h1, Option.bind_some]
    rw [if_neg]
    cases ho : D.2.2.2.2.2.1 with
    | false => simp
    | true => simp [hop ho]
  · have := get_none.2 hc
    rw [hf] at this; cases this
end Sx
namespace Sx
open Go
end Sx
namespace Sx
open Go
abbrev PayS := List (List Int)
def uaE : Int → Nat → List PayS → List SegS
  | _, _, [] => []
  | k, n, p :: r => (k, (lenF p : Int), if 0 < p.length then ((n + p.length : Nat) : Int) else 0, ()) :: uaE (k + 1) (n + p.length) r
def cnt (gs : List PayS) : Nat := gs.flatten.length
def upto (k : Int) : Nat → List Int
  | 0 => []
  | m + 1 => k :: upto (k + 1) m
def uge (fs : List (List Int × FileS)) (nm : List Int) : Int → Nat → List PayS → Prop
  | _, _, [] => True
  | k, n, p :: r => uaB fs (fileN nm k) = uaq n p ∧ uge fs nm (k + 1) (n + p.length) r
theorem uiD {l : PayS} {n : Nat} (hg : goodL l) (hn : n + l.length < 9223372036854775807) : scanS (uaq n l) n = (l, (lenF l : Int), false) := by
  have h := uh2 l n [] ((uaq n l).length + 2) hg (by
    have h64 : ∀ l : List (List Int), l.length ≤ lenF l := by
      intro l
      induction l with
      | nil => simp [lenF]
      | cons p r ih =>
        have := (ubw p.length).1
        simp only [lenF, List.map_cons, List.sum_cons, List.length_cons] at ih ⊢
        omega
    rw [uaF]; have := h64 l; omega) hn (fun x hx => by simp at hx) (fun p r hp he => by
      have := (ubw p.length).1
      have h2 : (uax (n + l.length) p).length = room p.length := ua0 _ _
      have h3 := congrArg List.length he
      simp only [List.length_nil, List.length_append] at h3
      omega)
  unfold scanS
  simpa using h
theorem frames_nil_iff {n : Nat} {p : PayS} : uaq n p = [] ↔ p = [] := by
  constructor
  · intro h
    cases p with
    | nil => rfl
    | cons a r =>
      have h0 := congrArg List.length h
      rw [uaF] at h0
      have := (ubw a.length).1
      simp only [lenF, List.map_cons, List.sum_cons, List.length_nil] at h0
      omega
  · rintro rfl; rfl
theorem ums {l : LogS} {k : Int} {f : uaQ} {n : Nat} {p : PayS} (hg : goodL p) (hn : n < 1152921504606846976) (hn2 : n + p.length < 9223372036854775807) (ha : f.2.2.1 = true → l.2.2.2.2.1 = (n : Int)) :
    readS l k f (uaq n p) = (((), l.2.1, l.2.2.1, l.2.2.2.1 ++ [(k, (lenF p : Int), if 0 < p.length then ((n + p.length : Nat) : Int) else 0, ())], (if f.2.2.1 || decide (p ≠ []) then ((n + p.length : Nat) : Int) else l.2.2.2.2.1), l.2.2.2.2.2.1, l.2.2.2.2.2.2),
      (f.1 ++ p, (if f.2.2.1 then f.2.1 else if p ≠ [] then (n : Int) else f.2.1), (f.2.2.1 || decide (p ≠ [])), false, f.2.2.2.2)) := by
  have hsc := uiD hg hn2
  by_cases h1 : f.2.2.1 = true
  · have hh : headS l f (uaq n p) = (f.2.1, true, (n : Int)) := by
      unfold headS
      rw [if_neg (by rw [h1]; simp), h1, ha h1]
    unfold readS
    rw [hh]
    simp only [if_true, hsc, h1, Bool.true_or, uaF]
    simp only [Int.lt_irrefl, decide_false]
    refine Prod.ext ?_ rfl
    simp only
    by_cases h0 : 0 < p.length
    · simp [h0]
    · simp [h0]
  · have h1' : f.2.2.1 = false := by simpa using h1
    by_cases hp : p = []
    · subst hp
      have hh : headS l f (uaq n []) = (f.2.1, false, l.2.2.2.2.1) := by
        unfold headS
        rw [if_neg (by simp [uaq]), h1']
      unfold readS
      rw [hh]
      simp only [h1', Bool.false_eq_true, if_false]
      simp [uaq, lenF]
    · have hne : uaq n p ≠ [] := fun e => hp (frames_nil_iff.1 e)
      have hb : ubl (uaq n p) = ((n : Int), true) := by
        have := ufE (x := n) hn hg hp []
        simpa using this
      have hh : headS l f (uaq n p) = ((n : Int), true, (n : Int)) := by
        unfold headS
        rw [if_pos ⟨h1', hne⟩, hb]
        rfl
      have hpl : 0 < p.length := List.length_pos_iff.2 hp
      unfold readS
      rw [hh]
      simp only [if_true, hsc, h1', uaF]
      simp only [Int.lt_irrefl, decide_false]
      simp [hp, hpl]
def ucP (s : uaQ × LogS) (k : Int) (n : Nat) (gs : List PayS) : uaQ × LogS :=
  ((s.1.1 ++ gs.flatten, (if s.1.2.2.1 then s.1.2.1 else if gs.flatten ≠ [] then (n : Int) else s.1.2.1), (s.1.2.2.1 || decide (gs.flatten ≠ [])), false, s.1.2.2.2.2),
    ((), s.2.2.1, s.2.2.2.1, s.2.2.2.2.1 ++ uaE k n gs, (if s.1.2.2.1 || decide (gs.flatten ≠ []) then ((n + cnt gs : Nat) : Int) else s.2.2.2.2.2.1), s.2.2.2.2.2.2.1, s.2.2.2.2.2.2.2))
theorem uhF {fs : List (List Int × FileS)} (nm : List Int) (last : Int) (xs : List Int) : ∀ (gs : List PayS) (k : Int) (n : Nat) (s : uaQ × LogS), uge fs nm k n gs → (∀ p ∈ gs, goodL p) → n + cnt gs < 1152921504606846976 → (s.1.2.2.1 = true → s.2.2.2.2.2.1 = (n : Int)) → s.1.2.2.2.1 = false →
    uaR fs nm last (upto k gs.length ++ xs) s = uaR fs nm last xs (ucP s k n gs)
  | [], k, n, s, _, _, _, ha, ht => by
    obtain ⟨⟨p, q, r, t, u⟩, ⟨a, b, c, d, e, f, g⟩⟩ := s
    dsimp only at ha ht
    subst ht
    have : ucP ((p, q, r, false, u), (a, b, c, d, e, f, g)) k n [] = ((p, q, r, false, u), (a, b, c, d, e, f, g)) := by
      unfold ucP
      simp only [List.flatten_nil, List.append_nil, uaE, ne_eq, not_true_eq_false, decide_false, Bool.or_false, if_false, ite_self, cnt, List.length_nil, Nat.add_zero]
      cases r with
      | false => rfl
      | true => simp [ha rfl]
    rw [this]
    rfl
  | p :: r, k, n, s, hs, hg, hn, ha, ht => by
    obtain ⟨h1, h2⟩ := hs
    have hgp := hg p (by simp)
    have hcnt : cnt (p :: r) = p.length + cnt r := by simp [cnt]
    rw [hcnt] at hn
    have hr := ums (l := s.2) (k := k) (f := s.1) hgp (by omega) (by omega) ha
    show uaR fs nm last (k :: (upto (k + 1) r.length ++ xs)) s = _
    simp only [uaR]
    rw [h1, hr]
    rw [if_neg (show ¬ (false = true) by decide)]
    rw [uhF nm last xs r (k + 1) (n + p.length) _ h2 (fun q hq => hg q (by simp [hq])) (by omega) (fun h => by
      dsimp only at h ⊢
      rw [if_pos h]) rfl]
    congr 1
    unfold ucP
    dsimp only
    rw [hcnt]
    refine Prod.ext ?_ ?_
    · dsimp only
      refine Prod.ext ?_ (Prod.ext ?_ (Prod.ext ?_ rfl))
      · simp
      · dsimp only
        cases s.1.2.2.1 with
        | true => simp
        | false =>
          by_cases hp : p = []
          · subst hp; simp
          · simp [hp]
      · dsimp only
        cases s.1.2.2.1 with
        | true => simp
        | false =>
          by_cases hp : p = []
          · subst hp; simp
          · simp [hp]
    · dsimp only
      refine Prod.ext rfl (Prod.ext rfl (Prod.ext rfl (Prod.ext ?_ (Prod.ext ?_ rfl))))
      · simp [uaE]
      · dsimp only
        cases s.1.2.2.1 with
        | true => simp [Nat.add_assoc]
        | false =>
          by_cases hp : p = []
          · subst hp; simp
          · by_cases hr0 : r.flatten = []
            · simp [hp, hr0, cnt]
            · simp [hp, hr0, Nat.add_assoc]
end Sx
namespace Sx
open Go
theorem ujD {α : Type} [DecidableEq α] : ∀ {a b : List α}, a.Nodup → a ⊆ b → a.length ≤ b.length
  | [], _, _, _ => Nat.zero_le _
  | x :: a, b, hn, hs => by
    rw [List.nodup_cons] at hn
    have hx : x ∈ b := hs (by simp)
    have h := ujD (b := b.erase x) hn.2 fun y hy => (List.mem_erase_of_ne (fun e => hn.1 (by rw [← e]; exact hy))).2 (hs (by simp [hy]))
    rw [List.length_erase_of_mem hx] at h
    have := List.length_pos_of_mem hx
    rw [List.length_cons]; omega
theorem upto_mem {x : Int} : ∀ {m : Nat} {k : Int}, x ∈ upto k m ↔ k ≤ x ∧ x < k + m
  | 0, k => by simp only [upto, List.not_mem_nil, false_iff]; omega
  | m + 1, k => by
    rw [upto, List.mem_cons, upto_mem]
    omega
theorem ukJ : ∀ (m : Nat) (k : Int), (upto k m).length = m
  | 0, _ => rfl
  | m + 1, k => by rw [upto, List.length_cons, ukJ]
theorem ufW : ∀ (m : Nat) (k : Int), (upto k m).Pairwise (· < ·)
  | 0, _ => List.Pairwise.nil
  | m + 1, k => by
    rw [upto, List.pairwise_cons]
    exact ⟨fun x hx => by have := upto_mem.1 hx; omega, ufW m (k + 1)⟩
theorem ug1 : ∀ (m : Nat) (k : Int), upto k (m + 1) = upto k m ++ [k + m]
  | 0, k => by simp [upto]
  | m + 1, k => by
    rw [upto, ug1 m (k + 1), upto, List.cons_append]
    congr 3
    omega
theorem ugB : ∀ {a b : List Int}, a.Pairwise (· < ·) → b.Pairwise (· < ·) → (∀ x, x ∈ a ↔ x ∈ b) → a = b
  | [], [], _, _, _ => rfl
  | [], y :: b, _, _, h => absurd ((h y).2 (by simp)) (by simp)
  | x :: a, [], _, _, h => absurd ((h x).1 (by simp)) (by simp)
  | x :: a, y :: b, ha, hb, h => by
    rw [List.pairwise_cons] at ha hb
    have hxy : x = y := by
      have h1 := (h x).1 (by simp)
      have h2 := (h y).2 (by simp)
      rcases List.mem_cons.1 h1 with e | h1
      · exact e
      · rcases List.mem_cons.1 h2 with e | h2
        · exact e.symm
        · have := ha.1 y h2
          have := hb.1 x h1
          omega
    subst hxy
    congr 1
    refine ugB ha.2 hb.2 fun z => ?_
    have := h z
    simp only [List.mem_cons] at this
    constructor
    · intro hz
      rcases this.1 (.inr hz) with e | e
      · have := ha.1 z hz; omega
      · exact e
    · intro hz
      rcases this.2 (.inr hz) with e | e
      · have := hb.1 z hz; omega
      · exact e
theorem ugt {nm : List Int} : ∀ {ks : List (List Int)}, ks.Nodup → (nums nm ks).Nodup
  | [], _ => List.nodup_nil
  | f :: r, h => by
    rw [List.nodup_cons] at h
    unfold nums
    rw [List.filterMap_cons]
    cases hn : numOf nm f with
    | none => exact ugt h.2
    | some n =>
      refine List.nodup_cons.2 ⟨fun hm => ?_, ugt h.2⟩
      obtain ⟨g, hg, hgn⟩ := List.mem_filterMap.1 hm
      have e1 := (numOf_spec.1 hn).1
      have e2 := (numOf_spec.1 hgn).1
      rw [e1, ← e2] at h
      exact h.1 hg
theorem uhG {D : DiskS} {nm : List Int} {k : Int} {m : Nat} (hok : FsOk D.2.1) (h0 : 0 ≤ k) (h1 : k + m ≤ 10000000) (hk : ∀ f, f ∈ D.2.1.map (·.1) ↔ ∃ x, (k ≤ x ∧ x < k + m) ∧ f = fileN nm x) : ubE D nm = upto k m := by
  refine ugB ?_ (ufW m k) fun x => ?_
  · have hs := uff (nums nm (D.2.1.map (·.1)))
    have hn : (ubj (nums nm (D.2.1.map (·.1)))).Nodup := (List.Perm.nodup_iff (udP _)).2 (ugt hok.2.1)
    unfold ubE
    exact (List.Pairwise.and hs hn).imp fun h => by omega
  · rw [numsOf_mem, upto_mem, hk]
    constructor
    · rintro ⟨hr, y, hy, e⟩
      have : x = y := uc4 hr (by omega) e
      omega
    · intro hx
      exact ⟨by omega, x, hx, rfl⟩
theorem uhH : ∀ (m : Nat) (k s : Int), k = s + 1 → ue8 (upto k m) s = some (if m = 0 then s else k + m - 1)
  | 0, k, s, _ => rfl
  | m + 1, k, s, h => by
    rw [upto, ue8, if_neg (by omega), uhH m (k + 1) k rfl]
    congr 1
    by_cases hm : m = 0
    · subst hm; simp
    · rw [if_neg hm, if_neg (by omega)]
      omega
theorem ukK {m : Nat} {k : Int} (h0 : 0 ≤ k) : ue8 (upto k m) (-1) = some (if m = 0 then -1 else k + m - 1) := by
  cases m with
  | zero => rfl
  | succ m =>
    rw [upto, ue8, if_neg (by omega), uhH m (k + 1) k rfl]
    congr 1
    by_cases hm : m = 0
    · subst hm; simp
    · rw [if_neg hm, if_neg (by omega)]
      omega
structure InvF (fs : List (List Int × FileS)) (nm : List Int) (k : Int) (n : Nat) (gs : List PayS) : Prop where
  ok : FsOk fs
  keys : ∀ f, f ∈ fs.map (·.1) ↔ ∃ x, (k ≤ x ∧ x < k + gs.length) ∧ f = fileN nm x
  files : ∀ (i : Nat) (p : PayS), gs[i]? = some p → pget .str (fileN nm (k + i)) fs = some (uaq (n + cnt (gs.take i)) p, uaq (n + cnt (gs.take i)) p, [])
  good : ∀ p ∈ gs, goodL p
  k0 : 0 ≤ k
  kM : k + gs.length ≤ 10000000
theorem uh4 {fs : List (List Int × FileS)} {nm : List Int} : ∀ {gs : List PayS} {k : Int} {n : Nat}, (∀ (i : Nat) (p : PayS), gs[i]? = some p → uaB fs (fileN nm (k + i)) = uaq (n + cnt (gs.take i)) p) → uge fs nm k n gs
  | [], _, _, _ => trivial
  | p :: r, k, n, h => by
    refine ⟨?_, uh4 (fun i q hq => ?_)⟩
    · have := h 0 p rfl
      simpa [cnt] using this
    · have := h (i + 1) q (by simpa using hq)
      rw [show k + 1 + (i : Int) = k + ((i + 1 : Nat) : Int) by omega, this]
      congr 1
      simp [cnt, Nat.add_assoc]
theorem InvF.seen {fs : List (List Int × FileS)} {nm : List Int} {k : Int} {n : Nat} {gs : List PayS} (h : InvF fs nm k n gs) : uge fs nm k n gs := uh4 fun i p hp => by
  unfold uaB
  rw [h.files i p hp]; rfl
theorem InvF.len {fs : List (List Int × FileS)} {nm : List Int} {k : Int} {n : Nat} {gs : List PayS} (h : InvF fs nm k n gs) : gs.length ≤ 16 := by
  have h1 : (upto k gs.length).map (fileN nm) ⊆ fs.map (·.1) := fun f hf => by
    obtain ⟨x, hx, rfl⟩ := List.mem_map.1 hf
    exact (h.keys _).2 ⟨x, upto_mem.1 hx, rfl⟩
  have hnd : ((upto k gs.length).map (fileN nm)).Nodup := by
    rw [List.nodup_iff_pairwise_ne, List.pairwise_map]
    refine (List.Pairwise.and_mem.1 (ufW gs.length k)).imp ?_
    rintro a b ⟨ha, hb, hab⟩ e
    have ha' := upto_mem.1 ha
    have hb' := upto_mem.1 hb
    have := h.k0
    have := h.kM
    have := uc4 (by omega) (by omega) e
    omega
  have := ujD hnd h1
  rw [List.length_map, ukJ, List.length_map] at this
  exact Nat.le_trans this h.ok.2.2
theorem InvF.nums {D : DiskS} {nm : List Int} {k : Int} {n : Nat} {gs : List PayS} (h : InvF D.2.1 nm k n gs) : ubE D nm = upto k gs.length := uhG h.ok h.k0 h.kM h.keys
theorem InvF.safe {fs : List (List Int × FileS)} {nm : List Int} {k : Int} {n : Nat} {gs : List PayS} (h : InvF fs nm k n gs) : ∀ f, upx fs f := fun f g hg => by
  have hm : f ∈ fs.map (·.1) := Classical.byContradiction fun hc => by rw [get_none.2 hc] at hg; cases hg
  obtain ⟨x, hx, rfl⟩ := (h.keys f).1 hm
  have hi : (x - k).toNat < gs.length := by omega
  have := h.files (x - k).toNat gs[(x - k).toNat] (by simp [hi])
  rw [show k + ((x - k).toNat : Int) = x by omega, hg] at this
  obtain rfl := Option.some.inj this
  exact ⟨rfl, rfl⟩
end Sx
namespace Sx
open Go
theorem ukL {D : DiskS} (w : Int) (ha : D.2.2.1 = 0) : ∃ e f o p, ubc D w = some (e, (D.1, D.2.1, 0, D.2.2.2.1, f, o, p)) ∧
    ((e = 9 ∧ o = true ∧ p = true ∧ 0 < D.2.2.2.2.1) ∨ (e = 0 ∧ o = D.2.2.2.2.2.1 ∧ p = D.2.2.2.2.2.2 ∧ (D.2.2.2.2.1 ≤ 0 → f = D.2.2.2.2.1))) := by
  unfold ubc
  simp only [ual, ha]
  by_cases hf : D.2.2.2.2.1 > 0
  · rw [if_pos (by rw [decide_eq_true_eq]; exact hf)]
    split
    · exact ⟨9, _, _, _, rfl, .inl ⟨rfl, rfl, rfl, hf⟩⟩
    · rw [if_neg (by simp), if_neg (by decide)]
      exact ⟨0, _, _, _, rfl, .inr ⟨rfl, rfl, rfl, fun h => by omega⟩⟩
  · rw [if_neg (by rw [decide_eq_true_eq]; exact hf), if_neg (by simp), if_neg (by decide)]
    exact ⟨0, _, _, _, rfl, .inr ⟨rfl, rfl, rfl, fun _ => rfl⟩⟩
theorem ukM {D : DiskS} (hok : FsOk D.2.1) (ho : D.2.2.2.2.2.1 = false) {name : List Int} {f : FileS} {n : Int} (hg : pget .str name D.2.1 = some f) (h0 : 0 ≤ n) (h1 : n ≤ f.1.length) : ub8 D name n = some (0, unB D (pset .str name (cutF f n) D.2.1)) := by
  have hf := hok.get hg
  have hl := hf.2.2.1
  have hl2 := hf.2.2.2.1
  unfold ub8
  rw [ufC name ho, hg]
  simp only [Option.isSome_some, if_true, Option.bind_some, ual]
  rw [if_neg (by decide), if_neg (by simp only [Bool.or_eq_true, decide_eq_true_eq]; omega), if_pos (by omega), ueT (by simp only [List.length_take]; omega)]
  simp only [Option.bind_some]
  have e1 : List.take (Int.toNat (min n (f.2.1.length : Int))) f.2.1 = f.2.1.take n.toNat := by
    rcases Int.le_total n (f.2.1.length : Int) with h | h
    · rw [Int.min_eq_left h]
    · rw [Int.min_eq_right h, Int.toNat_natCast, List.take_length, List.take_of_length_le (by omega)]
  rw [if_pos (by omega), e1]
  rfl
theorem FOk.cut {f : FileS} (hf : FOk f) (n : Int) : FOk (cutF f n) := by
  have hl := hf.2.2.1
  have hl2 := hf.2.2.2.1
  refine ⟨fun x hx => hf.1 x (List.mem_of_mem_take hx), fun x hx => hf.2.1 x (List.mem_of_mem_take hx), ?_, ?_, hf.2.2.2.2.1.filter _, fun s hs => hf.2.2.2.2.2 s (ulg hs)⟩
  · simp only [cutF, List.length_take]; omega
  · simp only [cutF, List.length_take]; omega
theorem InvF.put {fs : List (List Int × FileS)} {nm : List Int} {k : Int} {n : Nat} {gs : List PayS} (h : InvF fs nm k n gs) {a : List Int} {f : FileS} (hf : pget .str a fs = some f) : InvF (pset .str a f fs) nm k n gs := by
  refine ⟨FsOk.set h.ok (h.ok.get hf), fun g => by rw [ucq]; exact h.keys g, fun i p hp => ?_, h.good, h.k0, h.kM⟩
  have := h.files i p hp
  by_cases e : a = fileN nm (k + i)
  · subst e
    rw [udp hf]
    rw [hf] at this
    exact this
  · rw [ue3 _ e]
    exact this
theorem upc (o18 : uaQ × LogS × Bool) (hl : o18.2.1.2.1.length ≤ 24) (hr : ∀ s ∈ o18.2.1.2.2.2.1, rng .i64 s.1) (hn : o18.2.1.2.2.2.1.length ≤ 1048576) (K : DiskS → Option ((Int × LogS) × List (List Int) × Int × DiskS)) {nm : List Int} {k : Int} {n : Nat} {gs : List PayS} : ∀ (j i : Nat) (D : DiskS), i + j = o18.2.1.2.2.2.1.length → D.2.2.2.2.2.1 = false → D.2.2.1 = 0 → InvF D.2.1 nm k n gs → (∀ s ∈ o18.2.1.2.2.2.1, fileN o18.2.1.2.1 s.1 ∈ D.2.1.map (·.1)) →
    ∃ D' : DiskS, InvF D'.2.1 nm k n gs ∧ D'.2.2.1 = 0 ∧ D'.1 = D.1 ∧ D'.2.1.map (·.1) = D.2.1.map (·.1) ∧
      ((uc5 o18 K (j + 1) ((i : Int), D) = K D' ∧ D'.2.2.2.2.2.1 = false) ∨ (uc5 o18 K (j + 1) ((i : Int), D) = some (noLog, [], 9, D') ∧ D'.2.2.2.2.2.1 = true ∧ D'.2.2.2.2.2.2 = true ∧ 0 < D.2.2.2.2.1)) := by
  intro j
  induction j with
  | zero =>
    intro i D hi ho ha hI _
    refine ⟨D, hI, ha, rfl, rfl, .inl ⟨?_, ho⟩⟩
    rw [uc5, if_neg (by rw [decide_eq_true_eq]; omega)]
  | succ j ih =>
    intro i D hi ho ha hI hs
    have hlt : i < o18.2.1.2.2.2.1.length := by omega
    have hm : o18.2.1.2.2.2.1.getD i (0, 0, 0, ()) ∈ o18.2.1.2.2.2.1 := by simp only [List.getD, List.getElem?_eq_getElem hlt, Option.getD_some]; exact List.getElem_mem hlt
    obtain ⟨f, hf⟩ := Option.isSome_iff_exists.1 (uh3 (hs _ hm))
    have hsafe := hI.safe _ f hf
    have w5 : IntKind.wrap .i64 ((i : Int) + 1) = ((i + 1 : Nat) : Int) := by rw [uaN (by simp only [rng, lo, Sx.hi]; omega)]; omega
    obtain ⟨e, a, fl, o, p, hc, hsy⟩ := ulS hI.ok ho hf
    obtain ⟨e2, f2, o2, p2, hc2, hcase⟩ := ukL 2 ha
    rw [hc] at hc2
    simp only [Option.some.injEq, Prod.mk.injEq, true_and] at hc2
    obtain ⟨rfl, rfl, rfl, rfl, rfl⟩ := hc2
    rw [uc5, if_pos (by rw [decide_eq_true_eq]; omega), if_pos (by constructor <;> omega)]
    simp only [Int.toNat_natCast]
    rw [ugc o18.2.1 _ hl (hr _ hm), uat, hsy, uat]
    rcases hcase with ⟨rfl, rfl, rfl, hfall⟩ | ⟨rfl, h1, h2, h3⟩
    · rw [if_neg (show ¬ ((9 : Int) = 0) by decide)]
      refine ⟨(D.1, D.2.1, 0, D.2.2.2.1, fl, true, true), hI, rfl, rfl, rfl, .inr ⟨?_, rfl, rfl, hfall⟩⟩
      rw [if_pos (show ((9 : Int) != 0) = true by decide)]
    · rw [if_pos rfl]
      dsimp only
      rw [if_neg (show ¬ (((0 : Int) != 0) = true) by decide), w5]
      have hff : (f.1, f.1, ([] : List Int)) = f := by
        obtain ⟨f1, f2, f3⟩ := f
        obtain ⟨g1, g2⟩ := hsafe
        dsimp only at g1 g2
        rw [g1, g2]
      rw [hff]
      obtain ⟨D', i1, i2, i3, i4, i5⟩ := ih (i + 1) (D.1, pset .str (fileN o18.2.1.2.1 (o18.2.1.2.2.2.1.getD i (0, 0, 0, ())).1) f D.2.1, 0, D.2.2.2.1, fl, o, p) (by omega) (h1.trans ho) rfl (hI.put hf) (fun s hs' => by
        show _ ∈ (pset .str _ f D.2.1).map (·.1)
        rw [ucq]; exact hs s hs')
      refine ⟨D', i1, i2, i3, i4.trans (ucq _ _ _), ?_⟩
      rcases i5 with i5 | ⟨i5, i6, i7, i8⟩
      · exact .inl i5
      · refine .inr ⟨i5, i6, i7, ?_⟩
        dsimp only at i8
        by_cases hz : D.2.2.2.2.1 ≤ 0
        · rw [h3 hz] at i8; omega
        · omega
theorem ujE {D : DiskS} {nm : List Int} {mo fi : Int} {R : uaQ × LogS × Bool} (hok : FsOk D.2.1) (ho : D.2.2.2.2.2.1 = false) (hks : uhm D.2.1) (hl : nm.length ≤ 24) (hfi : 0 ≤ fi ∧ fi ≤ 1152921504606846976) (hR : reading D nm mo fi = some R) (d : Bool) (hd : d = true ↔ udD R fi)
    (v : uaQ × LogS × Bool → Bool → Option ((Int × LogS) × List (List Int) × Int × DiskS)) :
    ucv D nm mo fi (fun o14 => bnd (fun o18 : uaQ × LogS × Bool => bnd (fun o23 : Bool => v o18 o23) fun k22 => if o18.2.2 = true then k22 true else (bnd (fun o26 : Bool => k22 o26) fun k25 => if o18.1.2.2.1 = true then (bnd (decide (o18.1.2.1 > fi)) fun b27 => k25 (b27 || decide (o18.2.1.2.2.2.2.1 < fi))) else k25 false)) fun k17 => (ucd o14.1 D).bind fun xs63 => uc6 D o14 k17 xs63 (([], 0, false, false, ()), o14.1)) (ubE D nm) (-1) = v R d := by
  have hn := ugs hok nm
  unfold reading at hR
  rw [Option.map_eq_some_iff] at hR
  obtain ⟨last, hk, hR⟩ := hR
  have hmax : max fi 1152921504606846976 = 1152921504606846976 := by omega
  have hx : ∀ x ∈ ubE D nm, rng .i64 x ∧ (pget .str (fileN nm x) D.2.1).isSome = true := fun x hx => by
    have := (numsOf_mem.1 hx).1
    exact ⟨by simp only [rng, lo, Sx.hi]; omega, uh3 (numsOf_mem.1 hx).2⟩
  refine (l2_eq D nm mo fi _ _ _ (fun x hx => uou (D := D) (nm := nm) x hx) (by omega) (by omega)).trans ?_
  rw [hk]
  dsimp only
  rw [ual]
  have hnum := uis (log0 nm mo fi) hl hok ho hks
  unfold log0 at hnum
  rw [hnum, uat]
  refine (l1_eq hl hok ho _ _ _ (([], 0, false, false, ()), log0 nm mo fi) hx rfl hfi.1 ?_ ?_ ?_).trans ?_
  · show fi + 16384 * ((ubE D nm).length : Int) ≤ _
    omega
  · show 0 + 16384 * (ubE D nm).length ≤ _
    omega
  · show 0 + (ubE D nm).length ≤ _
    omega
  change bnd (fun o23 => v (uaR D.2.1 nm last (ubE D nm) (([], 0, false, false, ()), log0 nm mo fi)) o23) _ = _
  rw [hR, ual]
  have e : ∀ b, b = d → v R b = v R d := fun b hb => by rw [hb]
  by_cases h1 : R.2.2 = true
  · rw [if_pos h1]
    exact e _ (hd.2 (.inl h1)).symm
  · rw [if_neg h1, ual]
    by_cases h2 : R.1.2.2.1 = true
    · rw [if_pos h2, ual]
      refine e _ ?_
      rw [Bool.eq_iff_iff, hd, Bool.or_eq_true, decide_eq_true_eq, decide_eq_true_eq]
      unfold udD
      exact ⟨fun h => .inr ⟨h2, h⟩, fun h => h.elim (fun h => absurd h h1) (fun h => h.2)⟩
    · rw [if_neg h2]
      refine e _ ?_
      rw [Bool.eq_iff_iff, hd]
      unfold udD
      exact ⟨fun h => (by cases h), fun h => h.elim (fun h => absurd h h1) (fun h => absurd h.1 h2)⟩
theorem ug2 {D : DiskS} {nm : List Int} {mo fi : Int} {R : uaQ × LogS × Bool} {k : Int} {n : Nat} {gs : List PayS} (hok : FsOk D.2.1) (ho : D.2.2.2.2.2.1 = false) (ha : D.2.2.1 = 0) (hks : uhm D.2.1) (hr : uch nm = true) (hmo : 64 ≤ mo ∧ mo ≤ 1048576) (hfi : 0 ≤ fi ∧ fi ≤ 1152921504606846976) (hR : reading D nm mo fi = some R) (hI : InvF (cutD D R).2.1 nm k n gs) :
    (udD R fi → ubF D nm mo fi = some (noLog, [], 60, D)) ∧ (¬ udD R fi → ∃ D' : DiskS, InvF D'.2.1 nm k n gs ∧ D'.2.2.1 = 0 ∧ D'.1 = D.1 ∧
      ((ubF D nm mo fi = some ((0, R.2.1), told R fi, 0, D') ∧ D'.2.2.2.2.2.1 = false) ∨ (ubF D nm mo fi = some (noLog, [], 9, D') ∧ D'.2.2.2.2.2.1 = true ∧ D'.2.2.2.2.2.2 = true ∧ 0 < D.2.2.2.2.1))) := by
  have hl : nm.length ≤ 24 := by
    unfold uch at hr
    rw [Bool.and_eq_true, decide_eq_true_eq] at hr
    exact hr.2
  have hO := ump hok hfi hR
  have hn := ugs hok nm
  have hstart : ∀ w, ucv D nm mo fi w (ubE D nm) (-1) = ucv D nm mo fi w (ubj (nums nm (D.2.1.map (·.1)))) (-1) := fun _ => rfl
  unfold ubF
  rw [uot nm (by omega), uat]
  rw [ual, ual, ual, ual]
  rw [if_neg (by rw [hr]; simp; omega), ulZ, uat, ho, if_neg (by decide)]
  rw [ual, uis _ hl hok ho hks, uat]
  constructor
  · intro hf
    refine (ujE (mo := mo) hok ho hks hl hfi hR true ⟨fun _ => hf, fun _ => rfl⟩ _).trans ?_
    rfl
  · intro hf
    have hcut : (cutD D R).1 = D.1 ∧ (cutD D R).2.2 = D.2.2 := by
      unfold cutD
      split
      · split
        · exact ⟨rfl, rfl⟩
        · exact ⟨rfl, rfl⟩
      · exact ⟨rfl, rfl⟩
    have hnx := hO.next
    have hpy := hO.pays
    have hsg := hO.segs
    have hs0 : ∀ s ∈ R.2.1.2.2.2.1, fileN R.2.1.2.1 s.1 ∈ (cutD D R).2.1.map (·.1) := fun s hs => by
      rw [uov, hO.name]
      exact Classical.byContradiction fun hc => by
        have := (hO.nums s hs).2
        rw [get_none.2 hc] at this; cases this
    obtain ⟨D', i1, i2, i3, i4, i5⟩ := upc R (by rw [hO.name]; exact hl) (uiB hO) (by omega) (fun o32 => bnd (fun (o35 : (List (List Int) × Int × Bool × Bool × Unit)) => (ubf o35.1).bind fun (r36 : List (List Int)) => some ((0, R.2.1), r36, 0, o32)) fun k34 => if R.1.2.2.1 = true then (if (0 : Int) ≤ (IntKind.wrap .i64 (fi - R.1.2.1)) ∧ (IntKind.wrap .i64 (fi - R.1.2.1)) ≤ (List.length R.1.1 : Int) ∧ (List.length R.1.1 : Int) ≤ (List.length R.1.1 : Int) then (k34 ((List.drop (Int.toNat (IntKind.wrap .i64 (fi - R.1.2.1))) (List.take (Int.toNat (List.length R.1.1 : Int)) R.1.1)), R.1.2.1, R.1.2.2.1, R.1.2.2.2.1, R.1.2.2.2.2)) else none) else (k34 (R.1.1, R.1.2.1, R.1.2.2.1, R.1.2.2.2.1, R.1.2.2.2.2))) R.2.1.2.2.2.1.length 0 (cutD D R) (by omega) (by rw [hcut.2]; exact ho) (by rw [hcut.2]; exact ha) hI hs0
    rw [hcut.1] at i3
    rw [hcut.2] at i5
    have hmid := ujE (mo := mo) hok ho hks hl hfi hR false ⟨fun h => (by cases h), fun h => absurd h hf⟩
    have htail : ∀ D' : DiskS, (bnd (fun (o35 : (List (List Int) × Int × Bool × Bool × Unit)) => (ubf o35.1).bind fun (r36 : List (List Int)) => some ((0, R.2.1), r36, (0 : Int), D')) fun k34 => if R.1.2.2.1 = true then (if (0 : Int) ≤ (IntKind.wrap .i64 (fi - R.1.2.1)) ∧ (IntKind.wrap .i64 (fi - R.1.2.1)) ≤ (List.length R.1.1 : Int) ∧ (List.length R.1.1 : Int) ≤ (List.length R.1.1 : Int) then (k34 ((List.drop (Int.toNat (IntKind.wrap .i64 (fi - R.1.2.1))) (List.take (Int.toNat (List.length R.1.1 : Int)) R.1.1)), R.1.2.1, R.1.2.2.1, R.1.2.2.2.1, R.1.2.2.2.2)) else none) else (k34 (R.1.1, R.1.2.1, R.1.2.2.1, R.1.2.2.2.1, R.1.2.2.2.2))) = some (((0 : Int), R.2.1), told R fi, 0, D') := by
      intro D'
      rw [ual]
      unfold told
      unfold udD at hf
      by_cases h2 : R.1.2.2.1 = true
      · rw [if_pos h2, if_pos h2]
        have hv := hO.inv.1 h2
        have h3 : R.1.2.1 ≤ fi ∧ fi ≤ R.2.1.2.2.2.2.1 := by
          refine ⟨?_, ?_⟩
          · exact Int.not_lt.1 fun h => hf (.inr ⟨h2, .inl h⟩)
          · exact Int.not_lt.1 fun h => hf (.inr ⟨h2, .inr h⟩)
        have hw : IntKind.wrap .i64 (fi - R.1.2.1) = fi - R.1.2.1 := uaN (by simp only [rng, lo, Sx.hi]; omega)
        rw [hw, if_pos (by omega), Int.toNat_natCast, List.take_length]
        dsimp only
        rw [ujy (by simp only [List.length_drop]; omega), uat]
      · rw [if_neg h2, if_neg h2]
        dsimp only
        rw [ujy (by omega), uat]
    have hs : ∀ K : DiskS → Option ((Int × LogS) × List (List Int) × Int × DiskS), (bnd K fun k28 => if R.1.2.2.2.1 = true then (if (0 : Int) ≤ (IntKind.wrap .i64 ((List.length R.2.1.2.2.2.1 : Int) - 1)) ∧ (IntKind.wrap .i64 ((List.length R.2.1.2.2.2.1 : Int) - 1)) < (List.length R.2.1.2.2.2.1 : Int) then ((ube R.2.1 ((List.getD R.2.1.2.2.2.1 (Int.toNat (IntKind.wrap .i64 ((List.length R.2.1.2.2.2.1 : Int) - 1))) (0, 0, 0, ())).1)).bind fun (r53 : List Int) => (ub8 D r53 ((List.getD R.2.1.2.2.2.1 (Int.toNat (IntKind.wrap .i64 ((List.length R.2.1.2.2.2.1 : Int) - 1))) (0, 0, 0, ())).2.1)).bind fun (r54 : Int × DiskS) => if (r54.1 != 0) = true then (some ((1, ((), [], 0, [], 0, false, ())), [], r54.1, r54.2)) else (k28 r54.2)) else none) else (k28 D)) = K (cutD D R) := by
      intro K
      rw [ual]
      unfold cutD
      cases ht : R.1.2.2.2.1 with
      | false =>
        rw [if_neg (by decide), if_neg (by decide)]
      | true =>
        obtain ⟨hne, f, hff, h0, h1⟩ := hO.torn ht
        have hlen : 0 < R.2.1.2.2.2.1.length := List.length_pos_iff.2 hne
        have hw : IntKind.wrap .i64 ((List.length R.2.1.2.2.2.1 : Int) - 1) = ((R.2.1.2.2.2.1.length - 1 : Nat) : Int) := by
          rw [uaN (by simp only [rng, lo, Sx.hi]; omega)]; omega
        have hm : R.2.1.2.2.2.1.getD (R.2.1.2.2.2.1.length - 1) (0, 0, 0, ()) ∈ R.2.1.2.2.2.1 := by
          have hlt : R.2.1.2.2.2.1.length - 1 < R.2.1.2.2.2.1.length := by omega
          simp only [List.getD, List.getElem?_eq_getElem hlt, Option.getD_some]; exact List.getElem_mem hlt
        rw [if_pos rfl, if_pos rfl, hw, if_pos (by constructor <;> omega), Int.toNat_natCast]
        rw [ugc R.2.1 _ (by rw [hO.name]; exact hl) (uiB hO _ hm), uat]
        rw [← hO.name] at hff
        rw [ukM hok ho hff h0 h1, uat, if_neg (show ¬ (((0 : Int) != 0) = true) by decide), hff]
    refine ⟨D', i1, i2, i3, ?_⟩
    rcases i5 with ⟨i5, i6⟩ | ⟨i5, i6, i7, i8⟩
    · refine .inl ⟨?_, i6⟩
      refine (hmid _).trans ?_
      rw [if_neg (by decide)]
      refine (hs _).trans ?_
      rw [ual]
      rw [show Int.toNat ((List.length R.2.1.2.2.2.1 : Int) - 0) = R.2.1.2.2.2.1.length by omega]
      exact i5.trans (htail D')
    · refine .inr ⟨?_, i6, i7, i8⟩
      refine (hmid _).trans ?_
      rw [if_neg (by decide)]
      refine (hs _).trans ?_
      rw [ual]
      rw [show Int.toNat ((List.length R.2.1.2.2.2.1 : Int) - 0) = R.2.1.2.2.2.1.length by omega]
      exact i5
end Sx
namespace Sx
open Go
structure InvC (fs : List (List Int × FileS)) (nm : List Int) (k : Int) (n : Nat) (init : List PayS) (c : List Int) : Prop where
  ok : FsOk fs
  keys : ∀ f, f ∈ fs.map (·.1) ↔ ∃ x, (k ≤ x ∧ x < k + (init.length + 1 : Nat)) ∧ f = fileN nm x
  files : ∀ (i : Nat) (p : PayS), init[i]? = some p → pget .str (fileN nm (k + i)) fs = some (uaq (n + cnt (init.take i)) p, uaq (n + cnt (init.take i)) p, [])
  last : pget .str (fileN nm (k + init.length)) fs = some (c, c, [])
  good : ∀ p ∈ init, goodL p
  k0 : 0 ≤ k
  kM : k + (init.length + 1 : Nat) ≤ 10000000
theorem InvC.bytes {fs : List (List Int × FileS)} {nm : List Int} {k : Int} {n : Nat} {init : List PayS} {c : List Int} (h : InvC fs nm k n init c) : uan c ∧ c.length ≤ 1048576 := by
  have := h.ok.get h.last
  exact ⟨this.1, this.2.2.1⟩
theorem InvC.seen {fs : List (List Int × FileS)} {nm : List Int} {k : Int} {n : Nat} {init : List PayS} {c : List Int} (h : InvC fs nm k n init c) : uge fs nm k n init := uh4 fun i p hp => by
  unfold uaB
  rw [h.files i p hp]; rfl
theorem InvC.put {fs : List (List Int × FileS)} {nm : List Int} {k : Int} {n : Nat} {init : List PayS} {c d : List Int} (h : InvC fs nm k n init c) (hd : uan d ∧ d.length ≤ 1048576) : InvC (pset .str (fileN nm (k + init.length)) (d, d, []) fs) nm k n init d := by
  refine ⟨FsOk.set h.ok ⟨hd.1, hd.1, hd.2, Nat.le_refl _, List.nodup_nil, fun s hs => (by cases hs)⟩, fun g => by rw [ucq]; exact h.keys g, fun i p hp => ?_, udp h.last, h.good, h.k0, h.kM⟩
  have hi : i < init.length := by
    rcases Nat.lt_or_ge i init.length with g | g
    · exact g
    · rw [List.getElem?_eq_none g] at hp; cases hp
  have := h.k0
  have := h.kM
  rw [ue3 _ (fun e => by
    have := uc4 (by omega) (by omega) e
    omega)]
  exact h.files i p hp
theorem InvC.whole {fs : List (List Int × FileS)} {nm : List Int} {k : Int} {n : Nat} {init : List PayS} {l : PayS} (h : InvC fs nm k n init (uaq (n + cnt init) l)) (hl : goodL l) : InvF fs nm k n (init ++ [l]) := by
  refine ⟨h.ok, fun f => by rw [h.keys]; simp, fun i p hp => ?_, fun p hp => ?_, h.k0, by have := h.kM; simp at this ⊢; omega⟩
  · by_cases hi : i < init.length
    · rw [List.getElem?_append_left hi] at hp
      rw [List.take_append_of_le_length (by omega)]
      exact h.files i p hp
    · have hi2 : i = init.length := by
        have : i < (init ++ [l]).length := by
          rcases Nat.lt_or_ge i (init ++ [l]).length with g | g
          · exact g
          · rw [List.getElem?_eq_none g] at hp; cases hp
        simp at this
        omega
      subst hi2
      rw [List.getElem?_append_right (Nat.le_refl _)] at hp
      simp at hp
      subst hp
      rw [List.take_left]
      exact h.last
  · rcases List.mem_append.1 hp with hp | hp
    · exact h.good p hp
    · rw [List.mem_singleton.1 hp]; exact hl
theorem InvF.last {fs : List (List Int × FileS)} {nm : List Int} {k : Int} {n : Nat} {init : List PayS} {l : PayS} (h : InvF fs nm k n (init ++ [l])) : InvC fs nm k n init (uaq (n + cnt init) l) := by
  refine ⟨h.ok, fun f => by rw [h.keys]; simp, fun i p hp => ?_, ?_, fun p hp => h.good p (by simp [hp]), h.k0, by have := h.kM; simp at this ⊢; omega⟩
  · have hi : i < init.length := by
      rcases Nat.lt_or_ge i init.length with g | g
      · exact g
      · rw [List.getElem?_eq_none g] at hp; cases hp
    have := h.files i p (by rw [List.getElem?_append_left hi]; exact hp)
    rw [List.take_append_of_le_length (by omega)] at this
    exact this
  · have := h.files init.length l (by simp)
    rw [List.take_left] at this
    exact this
theorem InvC.nums {D : DiskS} {nm : List Int} {k : Int} {n : Nat} {init : List PayS} {c : List Int} (h : InvC D.2.1 nm k n init c) : ubE D nm = upto k init.length ++ [k + init.length] := by
  rw [← ug1]
  exact uhG h.ok h.k0 h.kM h.keys
theorem udQ {l : PayS} : ∀ {init : List PayS} {k : Int} {n : Nat}, uaE k n (init ++ [l]) = uaE k n init ++ [(k + init.length, (lenF l : Int), if 0 < l.length then ((n + cnt init + l.length : Nat) : Int) else 0, ())]
  | [], k, n => by simp [uaE, cnt]
  | p :: r, k, n => by
    simp only [List.cons_append, uaE]
    have e1 : k + 1 + (r.length : Int) = k + ((p :: r).length : Nat) := by rw [List.length_cons]; omega
    have e2 : n + p.length + cnt r + l.length = n + cnt (p :: r) + l.length := by simp [cnt, Nat.add_assoc]
    rw [udQ (init := r), e1, e2]
theorem umt {fs : List (List Int × FileS)} {nm : List Int} {x : Int} {s : uaQ × LogS} {c : List Int} (hc : uaB fs (fileN nm x) = c) : uaR fs nm x [x] s = ((readS s.2 x s.1 c).2, (readS s.2 x s.1 c).1, false) := by
  simp only [uaR]
  rw [hc]
  split
  · simp
  · rfl
theorem ug3 {D : DiskS} {nm : List Int} {mo fi : Int} {k : Int} {n : Nat} {init : List PayS} {c : List Int} (h : InvC D.2.1 nm k n init c) (hn : n + cnt init < 1152921504606846976) :
    reading D nm mo fi = some ((readS (ucP (([], 0, false, false, ()), log0 nm mo fi) k n init).2 (k + init.length) (ucP (([], 0, false, false, ()), log0 nm mo fi) k n init).1 c).2, (readS (ucP (([], 0, false, false, ()), log0 nm mo fi) k n init).2 (k + init.length) (ucP (([], 0, false, false, ()), log0 nm mo fi) k n init).1 c).1, false) := by
  unfold reading
  rw [h.nums]
  have hc := ukK (m := init.length + 1) h.k0
  rw [if_neg (by omega), ug1, show k + ((init.length + 1 : Nat) : Int) - 1 = k + init.length by omega] at hc
  rw [hc]
  simp only [Option.map_some]
  rw [uhF nm _ [k + init.length] init k n _ h.seen h.good hn (fun e => by cases e) rfl]
  rw [umt (c := c) (by unfold uaB; rw [h.last]; rfl)]
theorem udA (init : List PayS) (l : PayS) : (init ++ [l]).flatten = init.flatten ++ l := by simp
theorem ude (init : List PayS) (l : PayS) : cnt (init ++ [l]) = cnt init + l.length := by simp [cnt]
theorem uow {n : Nat} {l : PayS} {rest : List Int} (hl : goodL l) (hn : n + l.length < 2305843009213693952) (hb : uan (uaq n l ++ rest)) (hlen : (uaq n l ++ rest).length ≤ 1048576) (hr : ∀ p r, p.length ≤ 65536 → rest ≠ uax (n + l.length) p ++ r) : scanS (uaq n l ++ rest) n = (l, (lenF l : Int), decide (rest ≠ [])) := by
  unfold scanS
  refine uh2 l n rest _ hl ?_ (by omega) (fun x hx => hb x (by simp [hx])) hr
  have h64 : ∀ l : List (List Int), l.length ≤ lenF l := by
    intro l
    induction l with
    | nil => simp [lenF]
    | cons p r ih =>
      have := (ubw p.length).1
      simp only [lenF, List.map_cons, List.sum_cons, List.length_cons] at ih ⊢
      omega
  rw [List.length_append, uaF]; have := h64 l; omega
theorem uli {D : DiskS} {nm : List Int} {mo fi : Int} {k : Int} {n : Nat} {init : List PayS} {l : PayS} {rest : List Int} (h : InvC D.2.1 nm k n init (uaq (n + cnt init) l ++ rest)) (hl : goodL l) (hn : n + cnt init < 1152921504606846976) (hn2 : l.length ≤ 1048576) (hA : (init ++ [l]).flatten ≠ []) (hr : ∀ p r, p.length ≤ 65536 → rest ≠ uax (n + cnt init + l.length) p ++ r) :
    reading D nm mo fi = some (((init ++ [l]).flatten, (n : Int), true, decide (rest ≠ []), ()), ((), nm, mo, uaE k n (init ++ [l]), ((n + cnt (init ++ [l]) : Nat) : Int), false, ()), false) := by
  obtain ⟨hb, hlen⟩ := h.bytes
  have hsc := uow hl (by omega) hb hlen hr
  rw [ug3 h (by omega)]
  have hll : ((uaq (n + cnt init) l ++ rest).length : Int) = (lenF l : Int) + (rest.length : Int) := by rw [List.length_append, uaF]; omega
  have htorn : decide ((lenF l : Int) < ((uaq (n + cnt init) l ++ rest).length : Int)) = decide (rest ≠ []) := decide_eq_decide.2 (by
    rw [hll]
    cases rest with
    | nil => simp
    | cons a r => simp; omega)
  have hh : headS (ucP (([], 0, false, false, ()), log0 nm mo fi) k n init).2 (ucP (([], 0, false, false, ()), log0 nm mo fi) k n init).1 (uaq (n + cnt init) l ++ rest) = ((n : Int), true, ((n + cnt init : Nat) : Int)) := by
    unfold headS ucP
    by_cases hi : init.flatten = []
    · have hl0 : l ≠ [] := by
        rw [udA, hi] at hA
        simpa using hA
      have hc0 : cnt init = 0 := by simp [cnt, hi]
      have hne : uaq (n + cnt init) l ++ rest ≠ [] := fun e => hl0 (frames_nil_iff.1 (List.append_eq_nil_iff.1 e).1)
      rw [if_pos ⟨by simp [hi], hne⟩, ufE (by omega) hl hl0 rest]
      simp [hc0]
    · rw [if_neg (by simp [hi])]
      simp [hi, log0]
  unfold readS
  rw [hh]
  simp only [if_true, hsc, htorn]
  rw [udQ, udA, ude]
  have e3 : (ucP (([], 0, false, false, ()), log0 nm mo fi) k n init).2.2.2.2.1 = uaE k n init := by simp [ucP, log0]
  have e4 : (ucP (([], 0, false, false, ()), log0 nm mo fi) k n init).1.1 = init.flatten := by simp [ucP]
  rw [e3, e4]
  have e5 : (((n + cnt init : Nat) : Int) + (l.length : Int)) = ((n + (cnt init + l.length) : Nat) : Int) := by omega
  have e6 : (((n + cnt init : Nat) : Int) + (l.length : Int)) = ((n + cnt init + l.length : Nat) : Int) := by omega
  rw [e5]
  have e7 : (n + (cnt init + l.length) : Nat) = n + cnt init + l.length := by omega
  rw [e7]
  rfl
theorem ukN {D : DiskS} {nm : List Int} {mo fi : Int} {k : Int} {n : Nat} {c : List Int} (h : InvC D.2.1 nm k n [] c) (hn : n < 1152921504606846976) (hc : (ubl c).2 = false) :
    ∃ x, reading D nm mo fi = some (([], x, false, decide (c ≠ []), ()), ((), nm, mo, uaE k n [[]], fi, false, ()), false) := by
  rw [ug3 h (by simpa [cnt] using hn)]
  have hs : ucP (([], 0, false, false, ()), log0 nm mo fi) k n [] = (([], 0, false, false, ()), log0 nm mo fi) := by simp [ucP, log0, uaE]
  rw [hs]
  have hh : ∃ x, headS (log0 nm mo fi) ([], 0, false, false, ()) c = (x, false, fi) := by
    unfold headS
    by_cases h0 : c = []
    · rw [if_neg (by simp [h0])]
      exact ⟨0, rfl⟩
    · rw [if_pos ⟨rfl, h0⟩, hc]
      exact ⟨_, rfl⟩
  obtain ⟨x, hh⟩ := hh
  refine ⟨x, ?_⟩
  unfold readS
  dsimp only
  rw [hh]
  simp only [Bool.false_eq_true, if_false]
  have : decide (0 < (c.length : Int)) = decide (c ≠ []) := decide_eq_decide.2 (by
    cases c with
    | nil => simp
    | cons a r => simp)
  rw [this]
  simp [uaE, lenF, log0]
theorem ujO {D : DiskS} {nm : List Int} {mo fi : Int} {k : Int} {n : Nat} (h : InvF D.2.1 nm k n []) : reading D nm mo fi = some (([], 0, false, false, ()), log0 nm mo fi, false) := by
  unfold reading
  rw [h.nums]
  rfl
end Sx
namespace Sx
open Go
theorem uh5 {nm : List Int} (hr : uch nm = true) {x : Int} (h0 : 0 ≤ x) (h1 : x ≤ 9999999) : uan (fileN nm x) ∧ (fileN nm x).length < 4611686018427387904 := by
  have hlen := ujp (n := x) (by simp only [rng, lo, Sx.hi]; omega)
  unfold uch at hr
  simp only [Bool.and_eq_true, List.all_eq_true, decide_eq_true_eq] at hr
  obtain ⟨⟨ha, _⟩, hl⟩ := hr
  constructor
  · intro c hc
    unfold fileN at hc
    rcases List.mem_append.1 hc with hc | hc
    · rcases List.mem_append.1 hc with hc | hc
      · have := ha c hc; omega
      · rw [List.mem_singleton.1 hc]; omega
    · rw [uhX, if_neg (by omega)] at hc
      have := (uhY x.toNat).1 c hc
      simp only [isDig] at this
      omega
  · unfold fileN
    simp only [List.length_append, List.length_cons, List.length_nil]
    omega
theorem InvC.names {fs : List (List Int × FileS)} {nm : List Int} {k : Int} {n : Nat} {init : List PayS} {c : List Int} (h : InvC fs nm k n init c) (hr : uch nm = true) : uhm fs := fun f hf => by
  obtain ⟨x, hx, rfl⟩ := (h.keys f).1 hf
  have := h.k0
  have := h.kM
  exact uh5 hr (by omega) (by omega)
theorem InvF.names {fs : List (List Int × FileS)} {nm : List Int} {k : Int} {n : Nat} {gs : List PayS} (h : InvF fs nm k n gs) (hr : uch nm = true) : uhm fs := fun f hf => by
  obtain ⟨x, hx, rfl⟩ := (h.keys f).1 hf
  have := h.k0
  have := h.kM
  exact uh5 hr (by omega) (by omega)
theorem unF {α : Type} (l : List α) (x d : α) : (l ++ [x]).getD ((l ++ [x]).length - 1) d = x := by
  simp [List.getD]
theorem ukO {D : DiskS} {nm : List Int} {k : Int} {n : Nat} {init : List PayS} {l : PayS} {c : List Int} {R : uaQ × LogS × Bool} (h : InvC D.2.1 nm k n init c) (hl : goodL l) (hnm : R.2.1.2.1 = nm) (hfs : R.2.1.2.2.2.1 = uaE k n (init ++ [l])) (hc : c.take (lenF l) = uaq (n + cnt init) l) (ht : R.1.2.2.2.1 = false → c = uaq (n + cnt init) l) : InvF (cutD D R).2.1 nm k n (init ++ [l]) := by
  unfold cutD
  cases hb : R.1.2.2.2.1 with
  | false =>
    rw [if_neg (by decide)]
    have := ht hb
    subst this
    exact h.whole hl
  | true =>
    rw [if_pos rfl, hnm, hfs, udQ, unF]
    dsimp only
    rw [h.last]
    dsimp only
    have hcut : cutF (c, c, ([] : List Int)) (lenF l : Int) = (uaq (n + cnt init) l, uaq (n + cnt init) l, []) := by
      unfold cutF
      simp only [Int.toNat_natCast, hc]
      rfl
    rw [hcut]
    have hb2 := h.bytes
    refine (h.put (d := uaq (n + cnt init) l) ⟨ued _ hl, ?_⟩).whole hl
    rw [← hc, List.length_take]; omega
abbrev OpenS (D : DiskS) (nm : List Int) (mo fi : Int) (l : LogS) (got : PayS) (D' : DiskS) : Prop :=
  (ubF D nm mo fi = some ((0, l), got, 0, D') ∧ D'.2.2.2.2.2.1 = false) ∨ (ubF D nm mo fi = some (noLog, [], 9, D') ∧ D'.2.2.2.2.2.1 = true ∧ D'.2.2.2.2.2.2 = true ∧ 0 < D.2.2.2.2.1)
theorem uh6 {D : DiskS} {nm : List Int} {mo fi : Int} {k : Int} {n : Nat} {init : List PayS} {l : PayS} {rest : List Int} (ho : D.2.2.2.2.2.1 = false) (ha : D.2.2.1 = 0) (hr : uch nm = true) (hmo : 64 ≤ mo ∧ mo ≤ 1048576) (hfi : 0 ≤ fi ∧ fi ≤ 1152921504606846976)
    (h : InvC D.2.1 nm k n init (uaq (n + cnt init) l ++ rest)) (hl : goodL l) (hn : n + cnt init < 1152921504606846976) (hn2 : l.length ≤ 1048576) (hA : (init ++ [l]).flatten ≠ []) (hrest : ∀ p r, p.length ≤ 65536 → rest ≠ uax (n + cnt init + l.length) p ++ r) :
    (((n : Int) > fi ∨ ((n + cnt (init ++ [l]) : Nat) : Int) < fi) → ubF D nm mo fi = some (noLog, [], 60, D)) ∧
    ((n : Int) ≤ fi → fi ≤ ((n + cnt (init ++ [l]) : Nat) : Int) → ∃ D' : DiskS, InvF D'.2.1 nm k n (init ++ [l]) ∧ D'.2.2.1 = 0 ∧ D'.1 = D.1 ∧ OpenS D nm mo fi ((), nm, mo, uaE k n (init ++ [l]), ((n + cnt (init ++ [l]) : Nat) : Int), false, ()) ((init ++ [l]).flatten.drop (fi - (n : Int)).toNat) D') := by
  have hrd := uli (mo := mo) (fi := fi) h hl hn hn2 hA hrest
  have hI := ukO (R := (((init ++ [l]).flatten, (n : Int), true, decide (rest ≠ []), ()), ((), nm, mo, uaE k n (init ++ [l]), ((n + cnt (init ++ [l]) : Nat) : Int), false, ()), false)) h hl rfl rfl (by rw [← uaF (n + cnt init) l, List.take_left]) (fun e => by
    have : rest = [] := by simpa using e
    rw [this, List.append_nil])
  obtain ⟨o1, o2⟩ := ug2 h.ok ho ha (h.names hr) hr hmo hfi hrd hI
  constructor
  · intro hx
    exact o1 (.inr ⟨rfl, hx⟩)
  · intro h1 h2
    obtain ⟨D', i1, i2, i3, i4⟩ := o2 (by
      unfold udD
      rintro (e | ⟨_, e⟩)
      · cases e
      · dsimp only at e; omega)
    refine ⟨D', i1, i2, i3, ?_⟩
    unfold told at i4
    dsimp only at i4
    rw [if_pos rfl] at i4
    exact i4
theorem ujF {D : DiskS} {nm : List Int} {mo fi : Int} {k : Int} {n : Nat} {c : List Int} (ho : D.2.2.2.2.2.1 = false) (ha : D.2.2.1 = 0) (hr : uch nm = true) (hmo : 64 ≤ mo ∧ mo ≤ 1048576) (hfi : 0 ≤ fi ∧ fi ≤ 1152921504606846976)
    (h : InvC D.2.1 nm k n [] c) (hn : n < 1152921504606846976) (hc : (ubl c).2 = false) :
    ∃ D' : DiskS, InvF D'.2.1 nm k n [[]] ∧ D'.2.2.1 = 0 ∧ D'.1 = D.1 ∧ OpenS D nm mo fi ((), nm, mo, uaE k n [[]], fi, false, ()) [] D' := by
  obtain ⟨x, hrd⟩ := ukN (mo := mo) (fi := fi) h hn hc
  have hI := ukO (l := []) (R := (([], x, false, decide (c ≠ []), ()), ((), nm, mo, uaE k n [[]], fi, false, ()), false)) h (fun p hp => by cases hp) rfl rfl (by simp [lenF, uaq]) (fun e => by
    have : c = [] := by simpa using e
    rw [this]; rfl)
  obtain ⟨o1, o2⟩ := ug2 h.ok ho ha (h.names hr) hr hmo hfi hrd hI
  obtain ⟨D', i1, i2, i3, i4⟩ := o2 (by
    unfold udD
    rintro (e | ⟨e, _⟩)
    · cases e
    · cases e)
  exact ⟨D', i1, i2, i3, i4⟩
theorem uiE {D : DiskS} {nm : List Int} {mo fi : Int} {k : Int} {n : Nat} (ho : D.2.2.2.2.2.1 = false) (ha : D.2.2.1 = 0) (hr : uch nm = true) (hmo : 64 ≤ mo ∧ mo ≤ 1048576) (hfi : 0 ≤ fi ∧ fi ≤ 1152921504606846976) (h : InvF D.2.1 nm k n []) :
    ∃ D' : DiskS, InvF D'.2.1 nm k n [] ∧ D'.2.2.1 = 0 ∧ D'.1 = D.1 ∧ OpenS D nm mo fi ((), nm, mo, uaE k n [], fi, false, ()) [] D' := by
  have hrd := ujO (mo := mo) (fi := fi) h
  obtain ⟨o1, o2⟩ := ug2 h.ok ho ha (h.names hr) hr hmo hfi hrd (k := k) (n := n) (gs := []) h
  obtain ⟨D', i1, i2, i3, i4⟩ := o2 (by
    unfold udD
    rintro (e | ⟨e, _⟩)
    · cases e
    · cases e)
  exact ⟨D', i1, i2, i3, i4⟩
def Book (n : Nat) (gs : List PayS) (first next : Int) (acked : PayS) : Prop :=
  (gs.flatten ≠ [] → (n : Int) ≤ first ∧ first ≤ next ∧ next = ((n + cnt gs : Nat) : Int) ∧ acked = gs.flatten.drop (first - (n : Int)).toNat) ∧ (gs.flatten = [] → acked = [] ∧ next = first)
def Full (gs : List PayS) : Prop := ∀ p ∈ gs.dropLast, p ≠ []
theorem Full.init {init : List PayS} {l : PayS} (h : Full (init ++ [l])) : ∀ p ∈ init, p ≠ [] := fun p hp => h p (by rw [List.dropLast_concat]; exact hp)
theorem uiF {D : DiskS} {nm : List Int} {mo fi next : Int} {k : Int} {n : Nat} {gs : List PayS} {acked : PayS} (ho : D.2.2.2.2.2.1 = false) (ha : D.2.2.1 = 0) (hr : uch nm = true) (hmo : 64 ≤ mo ∧ mo ≤ 1048576) (hfi : 0 ≤ fi ∧ fi ≤ 1152921504606846976)
    (h : InvF D.2.1 nm k n gs) (hF : Full gs) (hn : n + cnt gs < 1152921504606846976) (hB : Book n gs fi next acked) :
    ∃ D' : DiskS, InvF D'.2.1 nm k n gs ∧ D'.2.2.1 = 0 ∧ D'.1 = D.1 ∧ OpenS D nm mo fi ((), nm, mo, uaE k n gs, next, false, ()) acked D' := by
  rcases List.eq_nil_or_concat gs with rfl | ⟨init, l, e⟩
  · obtain ⟨rfl, rfl⟩ := hB.2 rfl
    exact uiE ho ha hr hmo hfi h
  · rw [List.concat_eq_append] at e
    subst e
    have hL := h.last
    have hgl := h.good l (by simp)
    by_cases hA : (init ++ [l]).flatten = []
    · obtain ⟨rfl, rfl⟩ := hB.2 hA
      rw [udA, List.append_eq_nil_iff] at hA
      obtain ⟨hi, rfl⟩ := hA
      have hi0 : init = [] := by
        cases init with
        | nil => rfl
        | cons p r =>
          have := hF.init p (by simp)
          rw [List.flatten_cons, List.append_eq_nil_iff] at hi
          exact absurd hi.1 this
      subst hi0
      exact ujF ho ha hr hmo hfi hL (by omega) (by simp [uaq, ubl])
    · obtain ⟨b1, b2, rfl, rfl⟩ := hB.1 hA
      rw [ude] at hn
      rw [← List.append_nil (uaq (n + cnt init) l)] at hL
      have hlen := hL.bytes.2
      have h64 := uhl l
      rw [List.append_nil, uaF] at hlen
      exact (uh6 ho ha hr hmo hfi hL hgl (by omega) (by omega) hA (fun p r _ => upw _ p r)).2 b1 b2
end Sx
namespace Sx
open Go
theorem upy {l : List FateS} (hl : ucr l) (name : List Int) (s : Int) : ftOf l name s ∈ l ∨ ftOf l name s = fate0 := by
  unfold ftOf ubg
  simp only [ual]
  have e : Int.toNat ((l.length : Int) - 0) + 1 = l.length + 1 := by omega
  rw [e]
  have key : ∀ r, ubq l name s (fun _ => some fate0) (l.length + 1) ((0 : Nat) : Int) = some r → (ubq l name s (fun _ => some (([], 0, 0, [], ()) : FateS)) (l.length + 1) 0).getD fate0 = r := fun r h => congrArg (fun o => Option.getD o fate0) h
  rcases ugZ l hl.1 name s (fun _ => some fate0) l.length 0 (by omega) with ⟨r, hr, h⟩ | h
  · rw [key r h]; exact .inl hr
  · exact .inr (key _ h)
def ufF (l : List FateS) : Prop := ∀ x ∈ l, x.2.2.1 ≠ 2
theorem ukP (l : PayS) : lenF l % 64 = 0 := by
  induction l with
  | nil => rfl
  | cons p r ih =>
    simp only [lenF, List.map_cons, List.sum_cons] at ih ⊢
    have : room p.length % 64 = 0 := by simp only [room]; omega
    omega
structure InvW (fs : List (List Int × FileS)) (nm : List Int) (k : Int) (n : Nat) (init : List PayS) (p : PayS) (U : List Int) : Prop where
  ok : FsOk fs
  keys : ∀ f, f ∈ fs.map (·.1) ↔ ∃ x, (k ≤ x ∧ x < k + (init.length + 1 : Nat)) ∧ f = fileN nm x
  files : ∀ (i : Nat) (q : PayS), init[i]? = some q → pget .str (fileN nm (k + i)) fs = some (uaq (n + cnt (init.take i)) q, uaq (n + cnt (init.take i)) q, [])
  last : ∃ ds, pget .str (fileN nm (k + init.length)) fs = some (uaq (n + cnt init) p ++ uax (n + cnt init + p.length) U, uaq (n + cnt init) p, ds) ∧ ∀ x, x ∈ ds ↔ ((lenF p : Int) / 64 ≤ x ∧ x * 64 < (lenF p : Int) + (room U.length : Int))
  good : ∀ q ∈ init, goodL q
  goodp : goodL p
  k0 : 0 ≤ k
  kM : k + (init.length + 1 : Nat) ≤ 10000000
def ukQ (X c : List Int) (l : List FateS) : Prop := uan c ∧ c.length ≤ X.length ∧ (ufF l → ∃ keep : Nat → Bool, ∀ q, q < c.length → c.getD q 0 = if keep (q / 64) then X.getD q 0 else 0)
theorem ulj {D : DiskS} {l : List FateS} {nm : List Int} {k : Int} {n : Nat} {init : List PayS} {p : PayS} {U : List Int} (hl : ucr l) (h : InvW D.2.1 nm k n init p U) (hop : D.2.2.2.2.2.1 = true → D.2.2.2.2.2.2 = true) :
    ∃ fs' c, ua9 D l = some (D.1, fs', 0, D.2.2.2.1, 0, true, false) ∧ InvC fs' nm k n init (uaq (n + cnt init) p ++ c) ∧ ukQ (uax (n + cnt init + p.length) U) c l := by
  obtain ⟨fs', h1, h2, h3, h4⟩ := ulh hl h.ok hop
  obtain ⟨ds, hlast, hds⟩ := h.last
  obtain ⟨g, hg1, hg2⟩ := h4 _ _ hlast
  have hF := h.ok.get hlast
  obtain ⟨g', e1, e2, e3, e4, e5, e6, e7, e8, e9⟩ := umr hF (fileN nm (k + init.length)) hl
  rw [hg1] at e1
  obtain rfl := Option.some.inj e1
  dsimp only at e5 e6 e7 e8 e9 hF
  rw [uaF] at e5
  have hm := ukP p
  have hsplit : g.1 = uaq (n + cnt init) p ++ g.1.drop (lenF p) := by
    conv => lhs; rw [← List.take_append_drop (lenF p) g.1]
    congr 1
    apply List.ext_getElem?
    intro q
    by_cases hq : q < lenF p
    · have hq2 : q < g.1.length := by omega
      have h9 := e9 q hq2
      have hnd : ((q / 64 : Nat) : Int) ∉ ds := fun hd => by
        have := ((hds _).1 hd).1
        omega
      rw [if_neg hnd] at h9
      simp only [comes] at h9
      rw [List.getElem?_take_of_lt hq]
      have hfl : q < (uaq (n + cnt init) p).length := by rw [uaF]; exact hq
      rw [List.getD_eq_getElem?_getD, List.getD_eq_getElem?_getD, List.getElem?_append_left hfl, List.getElem?_eq_getElem hq2, List.getElem?_eq_getElem hfl] at h9
      simp only [Option.getD_some] at h9
      rw [List.getElem?_eq_getElem hq2, List.getElem?_eq_getElem hfl, h9]
    · rw [List.getElem?_eq_none (by rw [List.length_take]; omega), List.getElem?_eq_none (by rw [uaF]; omega)]
  have hgf : g = (g.1, g.1, []) := by
    obtain ⟨a, b, c⟩ := g
    dsimp only at e3 e4
    rw [e3, e4]
  refine ⟨fs', g.1.drop (lenF p), h1, ?_, ?_, ?_, ?_⟩
  · rw [← hsplit]
    refine ⟨h2, fun f => by rw [h3]; exact h.keys f, fun i q hq => ?_, by rw [hg2]; exact congrArg some hgf, h.good, h.k0, h.kM⟩
    obtain ⟨g2, q1, q2⟩ := h4 _ _ (h.files i q hq)
    obtain ⟨g3, w1, w2, w3, w4, w5⟩ := ui0 (h.ok.get (h.files i q hq)) (fileN nm (k + i)) hl
    rw [q1] at w1
    obtain rfl := Option.some.inj w1
    rw [q2, w5 rfl rfl]
  · exact ueb e2.1 _
  · rw [List.length_drop, ua0]
    rw [List.length_append, uaF, ua0] at e6
    omega
  · intro hno
    refine ⟨fun j => (ftOf l (fileN nm (k + init.length)) (((lenF p / 64 + j : Nat) : Nat) : Int)).2.2.1 == 1, fun q hq => ?_⟩
    rw [List.length_drop] at hq
    have hq2 : lenF p + q < g.1.length := by omega
    have h9 := e9 (lenF p + q) hq2
    rw [List.length_append, uaF, ua0] at e6
    have hdiv : (lenF p + q) / 64 = lenF p / 64 + q / 64 := by omega
    have hd : (((lenF p + q) / 64 : Nat) : Int) ∈ ds := by
      rw [hds]
      omega
    rw [if_pos hd, hdiv] at h9
    have hgd : g.1.getD (lenF p + q) 0 = (g.1.drop (lenF p)).getD q 0 := by
      rw [List.getD_eq_getElem?_getD, List.getD_eq_getElem?_getD, List.getElem?_drop]
    have hxd : (uaq (n + cnt init) p ++ uax (n + cnt init + p.length) U).getD (lenF p + q) 0 = (uax (n + cnt init + p.length) U).getD q 0 := by
      rw [List.getD_eq_getElem?_getD, List.getD_eq_getElem?_getD, List.getElem?_append_right (by rw [uaF]; omega), uaF]
      congr 2
      omega
    rw [hgd, hxd] at h9
    rw [h9]
    unfold comes
    dsimp only
    by_cases hk : (ftOf l (fileN nm (k + init.length)) ((lenF p / 64 + q / 64 : Nat) : Int)).2.2.1 = 1
    · rw [if_pos hk]
      rw [if_pos (by simpa using hk)]
    · have h2 : (ftOf l (fileN nm (k + init.length)) ((lenF p / 64 + q / 64 : Nat) : Int)).2.2.1 ≠ 2 := by
        rcases upy hl (fileN nm (k + init.length)) ((lenF p / 64 + q / 64 : Nat) : Int) with hm2 | hm2
        · exact hno _ hm2
        · rw [hm2]; decide
      rw [if_neg hk, if_neg h2, if_neg (by rw [uaF]; omega)]
      rw [if_neg (by simpa using hk)]
theorem uhI {D : DiskS} {l : List FateS} {nm : List Int} {k : Int} {n : Nat} {gs : List PayS} (hl : ucr l) (h : InvF D.2.1 nm k n gs) (hop : D.2.2.2.2.2.1 = true → D.2.2.2.2.2.2 = true) :
    ∃ fs', ua9 D l = some (D.1, fs', 0, D.2.2.2.1, 0, true, false) ∧ InvF fs' nm k n gs := by
  obtain ⟨fs', h1, h2, h3, h4, h5⟩ := uor hl h.ok hop
  refine ⟨fs', h1, h2, fun f => by rw [h3]; exact h.keys f, fun i p hp => ?_, h.good, h.k0, h.kM⟩
  exact h4 _ _ (h.files i p hp) rfl rfl
end Sx
namespace Sx
open Go
theorem ugu {a b : List Int} (hl : a.length = b.length) (h : ∀ i, i < a.length → a.getD i 0 = b.getD i 0) : a = b := by
  apply List.ext_getElem hl
  intro i h1 h2
  have := h i h1
  rw [List.getD_eq_getElem?_getD, List.getD_eq_getElem?_getD, List.getElem?_eq_getElem h1, List.getElem?_eq_getElem h2] at this
  exact this
def ul0 (keep : Nat → Bool) (a b : List Int) : Prop := a.length = b.length ∧ ∀ i, i < a.length → a.getD i 0 = if keep ((16 + i) / 64) then b.getD i 0 else 0
theorem ue9 {a : List Int} {s e : Nat} (h1 : s ≤ e) (h2 : e ≤ a.length) : ((a.take e).drop s).length = e - s := by simp; omega
theorem ug4 {a : List Int} {s e i : Nat} (hi : s + i < e) : ((a.take e).drop s).getD i 0 = a.getD (s + i) 0 := by
  rw [List.getD_eq_getElem?_getD, List.getD_eq_getElem?_getD, List.getElem?_drop, List.getElem?_take_of_lt (by omega)]
theorem ul1 {keep : Nat → Bool} {a b : List Int} (hp : ul0 keep a b) (hl : a.length < 4611686018427387904) (k : Unit → Option Bool) (hk : k () = some true) : ∀ (j s : Nat), a.length < s + j → s ≤ a.length → ubz a b k j (s : Int) = some true
  | 0, s, h, hs => by omega
  | j + 1, s, h, hs => by
    rw [ubz]
    by_cases hlt : s < a.length
    · rw [if_pos (by rw [decide_eq_true_eq]; omega), ual, ual]
      have w1 : IntKind.wrap .i64 ((s : Int) + 16) = ((s + 16 : Nat) : Int) := by rw [uaN (by simp only [rng, lo, Sx.hi]; omega)]; omega
      have w2 : IntKind.wrap .i64 (Int.tdiv ((s + 16 : Nat) : Int) 64) = (((s + 16) / 64 : Nat) : Int) := by
        have : Int.tdiv ((s + 16 : Nat) : Int) 64 = (((s + 16) / 64 : Nat) : Int) := rfl
        rw [this, uaN (by simp only [rng, lo, Sx.hi]; omega)]
      have w3 : IntKind.wrap .i64 ((((s + 16) / 64 : Nat) : Int) * 64) = (((s + 16) / 64 * 64 : Nat) : Int) := by rw [uaN (by simp only [rng, lo, Sx.hi]; omega)]; omega
      have w4 : IntKind.wrap .i64 ((((s + 16) / 64 * 64 : Nat) : Int) + 48) = (((s + 16) / 64 * 64 + 48 : Nat) : Int) := by rw [uaN (by simp only [rng, lo, Sx.hi]; omega)]; omega
      rw [w1, w2, w3, w4]
      obtain ⟨e, he, he1, he2, he3⟩ : ∃ e : Nat, (min (a.length : Int) (((s + 16) / 64 * 64 + 48 : Nat) : Int)) = (e : Int) ∧ s < e ∧ e ≤ a.length ∧ e ≤ (s + 16) / 64 * 64 + 48 := by
        refine ⟨min a.length ((s + 16) / 64 * 64 + 48), by omega, by omega, by omega, by omega⟩
      rw [he]
      have hbl := hp.1
      rw [if_pos (by omega), if_pos (by omega)]
      simp only [Int.toNat_natCast]
      have hse : ∀ i, i < e - s → (16 + (s + i)) / 64 = (s + 16) / 64 := fun i hi => by omega
      have hnext : ubz a b k j (e : Int) = some true := ul1 hp hl k hk j e (by omega) he2
      by_cases hkp : keep ((s + 16) / 64) = true
      · have heq : (a.take e).drop s = (b.take e).drop s := by
          refine ugu (by rw [ue9 (by omega) he2, ue9 (by omega) (by omega)]) fun i hi => ?_
          rw [ue9 (by omega) he2] at hi
          rw [ug4 (by omega), ug4 (by omega), hp.2 _ (by omega), hse i hi, if_pos hkp]
        rw [if_neg (by rw [heq]; simp)]
        exact hnext
      · have heq : (a.take e).drop s = List.replicate (e - s) 0 := by
          refine ugu (by rw [ue9 (by omega) he2, List.length_replicate]) fun i hi => ?_
          rw [ue9 (by omega) he2] at hi
          rw [ug4 (by omega), hp.2 _ (by omega), hse i hi, if_neg hkp, List.getD_eq_getElem?_getD, List.getElem?_replicate]
          simp [hi]
        have w5 : IntKind.wrap .i64 ((e : Int) - (s : Int)) = ((e - s : Nat) : Int) := by rw [uaN (by simp only [rng, lo, Sx.hi]; omega)]; omega
        split
        · rw [if_pos (by omega), w5, if_pos (by omega), Int.toNat_natCast, if_neg (by rw [heq]; simp)]
          exact hnext
        · exact hnext
    · rw [if_neg (by rw [decide_eq_true_eq]; omega)]
      exact hk
theorem unG {keep : Nat → Bool} {a b : List Int} (hp : ul0 keep a b) (hl : a.length < 140737488355328) (hne : a ≠ b) : ubO a b = some true := by
  unfold ubO
  rw [ual, if_neg (by rw [hp.1]; simpa using hne), ual]
  exact ul1 hp (by omega) _ rfl _ 0 (by omega) (Nat.zero_le _)
theorem umu {x m : Nat} {a b : List Int} (ha : a.length ≤ 65536) (hb : b.length ≤ 65536) (hx : x < 18446744073709551616) (hm : m < 18446744073709551616) (h : (uax x a).take 64 = (uax m b).take 64) : x = m ∧ a.length = b.length := by
  have hr1 := ubw a.length
  have hr2 := ubw b.length
  have h4 : ∀ (y : Nat) (c : List Int), ((uax y c).take 64).take 4 = be c.length 4 := fun y c => by
    rw [List.take_take, ucu, show min 4 64 = 4 by decide, List.take_left' (ucC _ _)]
  have h8 : ∀ (y : Nat) (c : List Int), (((uax y c).take 64).drop 4).take 8 = be y 8 := fun y c => by
    rw [List.drop_take, List.take_take, show min 8 (64 - 4) = 8 by decide, ucu, List.drop_left' (ucC _ _), List.take_left' (ucC _ _)]
  have e4 := h4 x a
  rw [h, h4 m b] at e4
  have e8 := h8 x a
  rw [h, h8 m b] at e8
  exact ⟨(uiw 8 _ _ (by simpa using hm) (by simpa using hx) e8).symm, (uiw 4 _ _ (by omega) (by omega) e4).symm⟩
theorem umv {x : Nat} {a : List Int} (ha : a.length ≤ 65536) (hx : x < 9223372036854775808) : (uax x a).take 64 ≠ List.replicate 64 0 := fun h => by
  have h4 : ((uax x a).take 64).take 4 = be a.length 4 := by
    rw [List.take_take, ucu, show min 4 64 = 4 by decide, List.take_left' (ucC _ _)]
  rw [h, List.take_replicate, show min 4 64 = 4 by decide] at h4
  have h0 := uhk (v := a.length) (n := 4) (by omega) h4.symm
  have ha0 : a = [] := List.eq_nil_of_length_eq_zero h0
  subst ha0
  have hl : (uax x ([] : List Int)).length = 64 := by rw [ua0]; decide
  rw [List.take_of_length_le (by omega)] at h
  exact unz (m := x) (k := 64) (p := []) (rest := []) (by simp) hx (by rw [List.append_nil]; exact h.symm)
theorem ujG {x : Nat} {a : List Int} {i : Nat} (hi : i < a.length) : (uax x a).getD (16 + i) 0 = a.getD i 0 := by
  have h16 : (be a.length 4 ++ be x 8 ++ be (sumOf x a).toNat 4).length = 16 := by simp [ucC]
  have hp : uax x a = (be a.length 4 ++ be x 8 ++ be (sumOf x a).toNat 4) ++ (a ++ List.replicate (room a.length - (16 + a.length)) 0) := by rw [ucu]; simp
  rw [hp, List.getD_eq_getElem?_getD, List.getElem?_append_right (by omega), h16, List.getD_eq_getElem?_getD, List.getElem?_append_left (by omega)]
  congr 2
  omega
theorem uiG {M x : Nat} {U p' r c : List Int} {l : List FateS} (hU : U.length ≤ 65536) (hp : p'.length ≤ 65536) (hM : M < 9223372036854775808) (hx : x < 9223372036854775808) (hL : ukQ (uax M U) c l) (hno : ufF l) (hc : c = uax x p' ++ r) :
    x = M ∧ r = [] ∧ (p' = U ∨ (p' ≠ U ∧ ubO p' U = some true)) := by
  obtain ⟨_, hlen, hk⟩ := hL
  obtain ⟨keep, hk⟩ := hk hno
  have hr1 := ubw p'.length
  have hr2 := ubw U.length
  have hcl : c.length = room p'.length + r.length := by rw [hc, List.length_append, ua0]
  rw [ua0] at hlen
  have h64 : (uax x p').take 64 = c.take 64 := by rw [hc, List.take_append_of_le_length (by rw [ua0]; omega)]
  have hkeep : keep 0 = true := by
    cases hz : keep 0 with
    | true => rfl
    | false =>
      refine absurd ?_ (umv hp hx)
      rw [h64]
      refine ugu (by simp; omega) fun i hi => ?_
      rw [List.length_take] at hi
      rw [List.getD_eq_getElem?_getD, List.getElem?_take_of_lt (by omega), ← List.getD_eq_getElem?_getD, hk i (by omega), show i / 64 = 0 by omega, if_neg (by rw [hz]; decide)]
      rw [List.getD_eq_getElem?_getD, List.getElem?_replicate]
      split <;> rfl
  have hhead : (uax x p').take 64 = (uax M U).take 64 := by
    rw [h64]
    refine ugu (by simp [ua0]; omega) fun i hi => ?_
    rw [List.length_take] at hi
    rw [List.getD_eq_getElem?_getD, List.getElem?_take_of_lt (by omega), ← List.getD_eq_getElem?_getD, hk i (by omega), show i / 64 = 0 by omega, if_pos hkeep]
    rw [List.getD_eq_getElem?_getD, List.getD_eq_getElem?_getD, List.getElem?_take_of_lt (by omega)]
  obtain ⟨rfl, hpl⟩ := umu hp hU (by omega) (by omega) hhead
  have hr0 : r = [] := List.eq_nil_of_length_eq_zero (by rw [hpl] at hcl; omega)
  subst hr0
  refine ⟨rfl, rfl, ?_⟩
  by_cases he : p' = U
  · exact .inl he
  · refine .inr ⟨he, unG (keep := keep) ⟨hpl, fun i hi => ?_⟩ (by omega) he⟩
    rw [List.append_nil] at hc
    rw [← ujG (x := x) hi, ← hc, hk (16 + i) (by rw [hc, ua0]; omega)]
    rw [ujG (by omega)]
end Sx
