/-
  Own work, of several texts. What wraps and shifts of numbers come to.
  Texts cut into lines, words and digits: plain.
  A line's words: plain.
  A number's digits: plain.
  What a line's words say: plain.
  What a text says: plain.
  The examples that every statement asks first.
  ScriptLines: plain.
  ScriptLines: how much a text says; its loops.
  ScriptLines: plain.
-/
import Derived.Test.YtfdhpfodjaaloaaDoorDefs
import Derived.Test.YtfdhpfodjaaloaaDoorLib2
import Derived.KernelRfl
namespace Sx
open Go

abbrev B32 := BitVec 32
def u (v : B32) : Int := (v.toNat : Int)
theorem wrap_i64 {n : Int} (h0 : -9223372036854775808 ≤ n) (h : n < 9223372036854775808) : IntKind.wrap .i64 n = n := by
  simp [IntKind.wrap, IntKind.bits, IntKind.signed]; omega
end Sx
namespace Sx
open Go Go.RowKit

/-! ### Go's library over texts -/
theorem prefix_eq (a p : List Int) : strings_HasPrefix a p = some (a.take p.length == p && decide (p.length ≤ a.length)) := by
  unfold strings_HasPrefix internal_stringslite_HasPrefix
  simp only [bnd_eq, Option.bind_eq_bind]
  by_cases h : p.length ≤ a.length
  · have h1 : decide ((List.length a : Int) ≥ (List.length p : Int)) = true := by simp; omega
    simp only [h1, if_true]
    rw [if_pos ⟨by omega, by omega, by omega⟩]
    simp [h, bind_eq]
  · have h1 : decide ((List.length a : Int) ≥ (List.length p : Int)) = false := by simp; omega
    simp [h1, h, bind_eq]
theorem trim_eq (a p : List Int) : strings_TrimPrefix a p = some (if a.take p.length == p && decide (p.length ≤ a.length) then a.drop p.length else a) := by
  have h0 : internal_stringslite_HasPrefix a p = some (a.take p.length == p && decide (p.length ≤ a.length)) := by
    have := prefix_eq a p
    unfold strings_HasPrefix at this
    cases h : internal_stringslite_HasPrefix a p with
    | none => rw [h] at this; cases this
    | some x => rw [h, bind_eq] at this; exact this
  unfold strings_TrimPrefix internal_stringslite_TrimPrefix
  rw [h0]
  simp only [bind_eq, bnd_eq]
  by_cases h : (a.take p.length == p && decide (p.length ≤ a.length)) = true
  · rw [if_pos h, if_pos h]
    have hl : p.length ≤ a.length := by simp at h; exact h.2
    rw [if_pos ⟨by omega, by omega, by omega⟩]
    simp [bind_eq]
  · rw [if_neg h, if_neg h]
    simp [bind_eq]

/-- a byte as the library has it -/
def b8 (c : Int) : UInt8 := UInt8.ofNat c.toNat
theorem b8_inj {a b : Int} (ha : 0 ≤ a ∧ a < 256) (hb : 0 ≤ b ∧ b < 256) : (b8 a == b8 b) = (a == b) := by
  rw [Bool.eq_iff_iff]; simp only [beq_iff_eq]
  exact ⟨byte_inj ha hb, fun h => h ▸ rfl⟩
theorem toB_cons (c : Int) (l : List Int) : toB (c :: l) = b8 c :: toB l := rfl
theorem toB_drop (l : List Int) (n : Nat) : (toB l).drop n = toB (l.drop n) := by simp [toB, List.map_drop]
theorem toB_take (l : List Int) (n : Nat) : (toB l).take n = toB (l.take n) := by simp [toB, List.map_take]
theorem byteOk_cons {c : Int} {l : List Int} (h : byteOk (c :: l)) : (0 ≤ c ∧ c < 256) ∧ byteOk l := ⟨h c (by simp), fun x hx => h x (by simp [hx])⟩
theorem byteOk_mk {c : Int} {l : List Int} (h : 0 ≤ c ∧ c < 256) (hl : byteOk l) : byteOk (c :: l) := fun x hx => by
  rcases List.mem_cons.1 hx with rfl | hx
  · exact h
  · exact hl x hx
theorem byteOk_append {a b : List Int} (ha : byteOk a) (hb : byteOk b) : byteOk (a ++ b) := fun x hx => (List.mem_append.1 hx).elim (ha x) (hb x)

/-- where a byte stands first -/
theorem index_one (c : Int) (hc : 0 ≤ c ∧ c < 256) : ∀ (l : List Int), byteOk l → Lib.index (toB l) [b8 c] = if c ∈ l then ((l.takeWhile (· != c)).length : Int) else -1
  | [], _ => by simp [toB, Lib.index]
  | b :: l, h => by
    obtain ⟨hb, hl⟩ := byteOk_cons h
    have ih := index_one c hc l hl
    rw [toB_cons, Lib.index]
    have h1 : List.isPrefixOf [b8 c] (b8 b :: toB l) = (c == b) := by
      simp only [List.isPrefixOf, Bool.and_true]
      exact b8_inj hc hb
    rw [h1, ih]
    by_cases hcb : c = b
    · subst hcb; simp
    · have hbc : ¬ b = c := fun h => hcb h.symm
      have h2 : (c == b) = false := by simpa using hcb
      have h3 : (b != c) = true := by simpa using hbc
      simp only [h2, Bool.false_eq_true, if_false, List.mem_cons, hcb, false_or, List.takeWhile_cons, h3, if_true, List.length_cons]
      by_cases hm : c ∈ l
      · simp only [hm, if_true]
        rw [if_neg (by simp <;> omega)]
        omega
      · simp [hm]

theorem takeWhile_self (c : Int) : ∀ (l : List Int), c ∉ l → l.takeWhile (· != c) = l
  | [], _ => rfl
  | b :: l, h => by
    simp only [List.mem_cons, not_or] at h
    rw [List.takeWhile_cons, if_pos (by simpa using fun e : b = c => h.1 e.symm), takeWhile_self c l h.2]
theorem take_takeWhile (p : Int → Bool) : ∀ (l : List Int), l.take (l.takeWhile p).length = l.takeWhile p
  | [] => rfl
  | b :: l => by
    rw [List.takeWhile_cons]
    split
    · simp [take_takeWhile p l]
    · rfl
theorem drop_takeWhile (p : Int → Bool) : ∀ (l : List Int), l.drop (l.takeWhile p).length = l.dropWhile p
  | [] => rfl
  | b :: l => by
    rw [List.takeWhile_cons, List.dropWhile_cons]
    split
    · simp [drop_takeWhile p l]
    · rfl

/-- strings.Cut at a blank: what stands ahead of it -/
theorem cut_eq (s : List Int) (h : byteOk s) (hl : s.length < 4294967281) : ∃ x, strings_Cut s [32] = some (s.takeWhile (· != 32), x) := by
  unfold strings_Cut
  rw [if_pos hl]
  have hi := index_one 32 ⟨by decide, by decide⟩ s h
  have h32 : toB [32] = [b8 32] := rfl
  rw [h32]
  unfold Lib.cut
  by_cases hm : (32 : Int) ∈ s
  · rw [if_pos hm] at hi
    rw [if_pos (by rw [hi]; omega)]
    have e : ofB ((toB s).take (Lib.index (toB s) [b8 32]).toNat) = s.takeWhile (· != 32) := by
      rw [hi]
      simp only [Int.toNat_natCast]
      rw [toB_take, take_takeWhile, ofB_toB (fun c hc => h c (List.takeWhile_sublist _ |>.subset hc))]
    rw [e]; exact ⟨_, rfl⟩
  · rw [if_neg hm] at hi
    rw [if_neg (by rw [hi]; decide)]
    have e : ofB (toB s) = s.takeWhile (· != 32) := by rw [ofB_toB h, takeWhile_self 32 s hm]
    simp only
    rw [e]; exact ⟨_, rfl⟩

/-! ### lines -/
def lns : List Int → List (List Int)
  | [] => [[]]
  | b :: l => if b = 10 then [] :: lns l else match lns l with
    | [] => [[b]]
    | x :: r => (b :: x) :: r
theorem lns_ne (l : List Int) : lns l ≠ [] := by
  cases l with
  | nil => simp [lns]
  | cons b l =>
    unfold lns
    split
    · simp
    · split <;> simp
theorem split_lns : ∀ (k : Nat) (l : List Int), byteOk l → (toB l).count 10 = k → Lib.splitK [10] 0 k (toB l) = (lns l).map toB := by
  intro k
  induction k with
  | zero =>
    intro l hl hc
    rw [Lib.splitK]
    have hn : ∀ l : List Int, byteOk l → (toB l).count 10 = 0 → lns l = [l] := by
      intro l
      induction l with
      | nil => intro _ _; rfl
      | cons b l ih =>
        intro h hc
        obtain ⟨hb, hl⟩ := byteOk_cons h
        rw [toB_cons, List.count_cons] at hc
        have h1 : (toB l).count 10 = 0 := by omega
        have h2 : ¬ b = 10 := by
          rintro rfl
          simp [b8] at hc
        rw [lns, if_neg h2, ih hl h1]
    rw [hn l hl hc]; rfl
  | succ k ih =>
    intro l
    induction l with
    | nil => intro _ hc; simp [toB] at hc
    | cons b l ihl =>
      intro h hc
      obtain ⟨hb, hl⟩ := byteOk_cons h
      have hi := index_one 10 ⟨by decide, by decide⟩ (b :: l) h
      have h10 : ([10] : List UInt8) = [b8 10] := rfl
      rw [toB_cons, List.count_cons] at hc
      by_cases hb10 : b = 10
      · subst hb10
        have h1 : (toB l).count 10 = k := by
          have : ((b8 10 : UInt8) == 10) = true := by decide
          simp only [this, if_true] at hc; omega
        have e : Lib.index (toB (10 :: l)) [10] = 0 := by rw [h10, hi]; simp
        rw [Lib.splitK, e]
        simp only [Int.toNat_zero, Nat.zero_add, List.length_cons, List.length_nil]
        rw [if_neg (by decide)]
        rw [toB_drop, show (10 :: l : List Int).drop 1 = l from rfl, ih l hl h1, lns, if_pos rfl]
        rfl
      · have hne : ((b8 b : UInt8) == 10) = false := by
          have : (b8 b == b8 10) = (b == 10) := b8_inj hb ⟨by decide, by decide⟩
          rw [show (10 : UInt8) = b8 10 from rfl, this]; simpa using hb10
        rw [hne] at hc
        simp only [Bool.false_eq_true, if_false, Nat.add_zero] at hc
        have ih2 := ihl hl hc
        have hm : (10 : Int) ∈ l := by
          have : 0 < (toB l).count 10 := by omega
          have := List.count_pos_iff.1 this
          obtain ⟨c, hcl, hce⟩ := List.mem_map.1 this
          have := byte_inj (hl c hcl) (b := 10) ⟨by decide, by decide⟩ hce
          exact this ▸ hcl
        have hil := index_one 10 ⟨by decide, by decide⟩ l hl
        rw [if_pos hm] at hil
        have hib : Lib.index (toB (b :: l)) [10] = Lib.index (toB l) [10] + 1 := by
          rw [h10, hi, hil, if_pos (by simp [hm])]
          rw [List.takeWhile_cons, if_pos (by simpa using hb10)]
          simp
        rw [Lib.splitK] at ih2 ⊢
        have n0 : ¬ (Lib.index (toB l) [10] == -1) = true := by rw [h10, hil]; simp <;> omega
        have n1 : ¬ (Lib.index (toB (b :: l)) [10] == -1) = true := by rw [hib, h10, hil]; simp; omega
        rw [if_neg n0] at ih2
        rw [if_neg n1, hib]
        have e1 : (Lib.index (toB l) [10] + 1).toNat = (Lib.index (toB l) [10]).toNat + 1 := by rw [h10, hil]; omega
        rw [e1, lns, if_neg hb10]
        cases hL : lns l with
        | nil => exact absurd hL (lns_ne l)
        | cons x r =>
          rw [hL] at ih2
          simp only [List.map_cons, List.cons.injEq] at ih2 ⊢
          obtain ⟨i1, i2⟩ := ih2
          refine ⟨?_, ?_⟩
          · rw [toB_cons b x, ← i1]; simp [toB_cons]
          · rw [← i2, toB_cons]
            congr 1
theorem lns_ok {l : List Int} (h : byteOk l) : ∀ x ∈ lns l, byteOk x := by
  induction l with
  | nil => intro x hx; simp [lns] at hx; subst hx; intro c hc; cases hc
  | cons b l ih =>
    obtain ⟨hb, hl⟩ := byteOk_cons h
    intro x hx
    unfold lns at hx
    split at hx
    · rcases List.mem_cons.1 hx with rfl | hx
      · intro c hc; cases hc
      · exact ih hl x hx
    · split at hx
      · simp at hx; subst hx; exact byteOk_mk hb (fun c hc => by cases hc)
      · rename_i y r hy
        rcases List.mem_cons.1 hx with rfl | hx
        · exact byteOk_mk hb (ih hl y (by rw [hy]; simp))
        · exact ih hl x (by rw [hy]; simp [hx])
theorem split_eq (s : List Int) (h : byteOk s) (hl : s.length < 4294967281) : strings_Split s [10] = some (lns s) := by
  unfold strings_Split
  rw [if_pos ⟨hl, by decide⟩]
  have e10 : toB [10] = [10] := rfl
  rw [e10]
  unfold Lib.split
  rw [Lib.count_one, split_lns _ s h rfl, List.map_map]
  congr 1
  conv => rhs; rw [← List.map_id (lns s)]
  exact List.map_congr_left fun x hx => ofB_toB (lns_ok h x hx)

/-! ### digits -/
/-- the value of a hexadecimal digit -/
def hexd (c : Int) : Int := if 48 ≤ c ∧ c ≤ 57 then c - 48 else if 97 ≤ c ∧ c ≤ 102 then c - 87 else -1
theorem indexByte_hex : ∀ c : Fin 256, Lib.indexByte (toB [48, 49, 50, 51, 52, 53, 54, 55, 56, 57, 97, 98, 99, 100, 101, 102]) (c.val : Int).toNat.toUInt8 = hexd (c.val : Int) := by decide +kernel
theorem hex_eq {c : Int} (h : 0 ≤ c ∧ c < 256) : strings_IndexByte [48, 49, 50, 51, 52, 53, 54, 55, 56, 57, 97, 98, 99, 100, 101, 102] c = some (hexd c) := by
  unfold strings_IndexByte
  have := indexByte_hex ⟨c.toNat, by omega⟩
  simp only at this
  have e : ((c.toNat : Nat) : Int) = c := by omega
  rw [e] at this
  rw [this]
theorem digit_eq (s : List Int) (i : Nat) (hs : byteOk s) : script_digit s i = some (match s[i]? with | some c => hexd c | none => -1) := by
  unfold script_digit
  by_cases h : i < s.length
  · rw [if_neg (by simp; omega), if_pos ⟨by omega, by omega⟩]
    have hc : s[i]? = some s[i] := by simp [h]
    simp only [Int.toNat_natCast, List.getD, hc, Option.getD_some]
    rw [hex_eq (hs _ (List.getElem_mem h)), bind_eq]
  · rw [if_pos (by simp; omega)]
    simp [List.getElem?_eq_none (Nat.le_of_not_lt h)]
end Sx
namespace Sx
open Go Go.RowKit

/-- what stands in quotes, and what is left behind the closing one -/
def unq : List Int → Option (List Int × List Int)
  | [] => none
  | c :: r =>
    if c = 34 then some ([], r)
    else if c < 32 ∨ c > 126 then none
    else if c ≠ 92 then (unq r).map fun p => (c :: p.1, p.2)
    else match r with
      | [] => none
      | d :: r' =>
        if d = 34 ∨ d = 92 then (unq r').map fun p => (d :: p.1, p.2)
        else match r' with
          | a :: b :: r'' => if d ≠ 120 ∨ hexd a < 0 ∨ hexd b < 0 then none else (unq r'').map fun p => ((16 * hexd a + hexd b) :: p.1, p.2)
          | _ => none

theorem hexd_lt (c : Int) : hexd c < 16 ∧ -1 ≤ hexd c := by unfold hexd; split <;> (try split) <;> omega
theorem wrap_u8b {n : Int} (h0 : 0 ≤ n) (h : n < 256) : IntKind.wrap .u8 n = n := by
  simp only [IntKind.wrap, IntKind.bits, IntKind.signed, Bool.false_and, Bool.false_eq_true, if_false]; omega
theorem hex_byte {a b : Int} (ha : 0 ≤ hexd a) (hb : 0 ≤ hexd b) : IntKind.wrap .u8 (IntKind.wrap .i64 (IntKind.wrap .i64 (16 * hexd a) + hexd b)) = 16 * hexd a + hexd b := by
  have h1 := hexd_lt a
  have h2 := hexd_lt b
  have e1 : IntKind.wrap .i64 (16 * hexd a) = 16 * hexd a := wrap_i64 (by omega) (by omega)
  rw [e1]
  have e2 : IntKind.wrap .i64 (16 * hexd a + hexd b) = 16 * hexd a + hexd b := wrap_i64 (by omega) (by omega)
  rw [e2, wrap_u8b (by omega) (by omega)]

theorem drop_cons {l : List Int} {i : Nat} (h : i < l.length) : l.drop i = l.getD i 0 :: l.drop (i + 1) := by
  rw [List.drop_eq_getElem_cons h]; simp [List.getD, h]
theorem getD_byte {l : List Int} (hl : byteOk l) (i : Nat) : 0 ≤ l.getD i 0 ∧ l.getD i 0 < 256 := by
  by_cases h : i < l.length
  · have : l.getD i 0 = l[i] := by simp [List.getD, h]
    rw [this]; exact hl _ (List.getElem_mem h)
  · simp [List.getD, List.getElem?_eq_none (Nat.le_of_not_lt h)]
theorem take2 {l : List Int} {i : Nat} (x y : Int) : ((l.drop i).take 2 == [x, y] && decide (2 ≤ (l.drop i).length)) = (decide (i + 1 < l.length) && (l.getD i 0 == x && l.getD (i + 1) 0 == y)) := by
  by_cases h : i + 1 < l.length
  · have h1 : decide (2 ≤ (l.drop i).length) = true := by simp; omega
    rw [h1, Bool.and_true, drop_cons (by omega), drop_cons h]
    have : (l.getD i 0 :: l.getD (i + 1) 0 :: l.drop (i + 1 + 1)).take 2 = [l.getD i 0, l.getD (i + 1) 0] := rfl
    rw [this]
    simp only [h, decide_true, Bool.true_and]
    show (_ && (_ && true)) = _
    rw [Bool.and_true]
  · have h1 : decide (2 ≤ (l.drop i).length) = false := by simp; omega
    rw [h1, Bool.and_false]
    simp [h]

theorem unq_l0 (a0 : List Int) (ha : byteOk a0) (hl : a0.length < 4294967296) (x : List Int) (y : Int) : ∀ (m i : Nat) (out : List Int), a0.length - i < m → out.length ≤ i → i ≤ a0.length →
    script_unquoted_l0 a0 (fun _ => some none) m (x, y, (i : Int), out) = some ((unq (a0.drop i)).map fun p => (out ++ p.1, ((a0.length - p.2.length : Nat) : Int)))
  | 0, _, _, h, _, _ => absurd h (Nat.not_lt_zero _)
  | m + 1, i, out, h, ho, hi => by
    unfold script_unquoted_l0
    simp only
    by_cases hlt : i < a0.length
    · rw [if_pos (by simpa using hlt), if_pos ⟨by omega, by omega⟩]
      simp only [bnd_eq, Int.toNat_natCast]
      have hc := getD_byte ha i
      rw [drop_cons hlt]
      generalize hcc : a0.getD i 0 = c at hc
      have w1 : IntKind.wrap .i64 ((i : Int) + 1) = ((i + 1 : Nat) : Int) := by rw [wrap_i64 (by omega) (by omega)]; omega
      have w2 : IntKind.wrap .i64 ((i : Int) + 2) = ((i + 2 : Nat) : Int) := by rw [wrap_i64 (by omega) (by omega)]; omega
      have w3 : IntKind.wrap .i64 ((i : Int) + 3) = ((i + 3 : Nat) : Int) := by rw [wrap_i64 (by omega) (by omega)]; omega
      have w4 : IntKind.wrap .i64 ((i : Int) + 4) = ((i + 4 : Nat) : Int) := by rw [wrap_i64 (by omega) (by omega)]; omega
      unfold unq
      by_cases h34 : c = 34
      · subst h34
        rw [if_pos (by decide), if_pos rfl, w1]
        simp only [Option.map_some, List.append_nil, List.length_drop]
        congr 4; omega
      rw [if_neg (by simpa using h34), if_neg h34]
      by_cases hr : c < 32 ∨ c > 126
      · rw [if_pos (by simpa using hr), if_pos hr]; rfl
      rw [if_neg (by simpa using hr), if_neg hr]
      by_cases h92 : c ≠ 92
      · rw [if_pos (by simpa using h92), if_pos h92, if_pos (by simp only [List.length_cons, List.length_nil]; omega), w1, unq_l0 a0 ha hl x y m (i + 1) _ (by omega) (by simp; omega) (by omega)]
        cases unq (a0.drop (i + 1)) with
        | none => rfl
        | some p => simp
      rw [if_neg (by simpa using h92), if_neg h92]
      have hg : ((0 : Int) ≤ (i : Int) ∧ (i : Int) ≤ (a0.length : Int) ∧ (a0.length : Int) ≤ (a0.length : Int)) := ⟨by omega, by omega, by omega⟩
      have hcc92 : a0.getD i 0 = 92 := by rw [hcc]; simpa using h92
      simp only [if_pos hg, Int.toNat_natCast, List.take_length, prefix_eq, bind_eq, List.length_cons, List.length_nil, Nat.zero_add, Nat.reduceAdd, take2, w1, w2, w3, w4, hcc92, beq_self_eq_true, Bool.true_and]
      by_cases h1 : i + 1 < a0.length
      · have hg2 : ((0 : Int) ≤ ((i + 1 : Nat) : Int) ∧ ((i + 1 : Nat) : Int) < (a0.length : Int)) := ⟨by omega, by omega⟩
        have hg3 : (out.length + 1) * 1 ≤ 140737488355328 := by omega
        simp only [h1, decide_true, Bool.true_and, if_pos hg2, if_pos hg3]
        rw [drop_cons h1]
        simp only
        generalize hd : a0.getD (i + 1) 0 = d
        by_cases hdd : d = 34 ∨ d = 92
        · have key : script_unquoted_l0 a0 (fun _ => some none) m (x, y, ((i + 2 : Nat) : Int), out ++ [d]) =
              some (((unq (a0.drop (i + 1 + 1))).map fun p => (d :: p.1, p.2)).map fun p => (out ++ p.1, ((a0.length - p.2.length : Nat) : Int))) := by
            rw [unq_l0 a0 ha hl x y m (i + 2) _ (by omega) (by simp; omega) (by omega)]
            cases unq (a0.drop (i + 2)) with
            | none => rfl
            | some p => simp
          rw [if_pos hdd]
          rcases hdd with rfl | rfl
          · exact key
          · exact key
        · have e1 : (d == 34) = false := by simp; exact fun h => hdd (.inl h)
          have e2 : (d == 92) = false := by simp; exact fun h => hdd (.inr h)
          simp only [e1, e2, Bool.false_eq_true, if_false]
          rw [if_neg hdd]
          rw [digit_eq a0 (i + 2) ha, digit_eq a0 (i + 3) ha]
          simp only [bind_eq]
          by_cases h2 : i + 3 < a0.length
          · have g2 : a0[i + 2]? = some (a0.getD (i + 2) 0) := by simp [List.getD, show i + 2 < a0.length by omega]
            have g3 : a0[i + 3]? = some (a0.getD (i + 3) 0) := by simp [List.getD, h2]
            rw [show i + 1 + 1 = i + 2 from rfl, drop_cons (show i + 2 < a0.length by omega), show i + 2 + 1 = i + 3 from rfl, drop_cons h2, g2, g3]
            simp only
            generalize a0.getD (i + 2) 0 = a
            generalize a0.getD (i + 3) 0 = b
            by_cases hbad : d ≠ 120 ∨ hexd a < 0 ∨ hexd b < 0
            · rw [if_pos hbad]
              have : ((!(d == 120)) || decide (hexd a < 0) || decide (hexd b < 0)) = true := by
                rcases hbad with h | h | h <;> simp [h]
              rw [if_pos this]; rfl
            · rw [if_neg hbad]
              simp only [not_or, Decidable.not_not] at hbad
              obtain ⟨b1, b2, b3⟩ := hbad
              have : ((!(d == 120)) || decide (hexd a < 0) || decide (hexd b < 0)) = false := by simp [b1, b2, b3] <;> omega
              rw [if_neg (by rw [this]; simp), hex_byte (by omega) (by omega), unq_l0 a0 ha hl x y m (i + 4) _ (by omega) (by simp; omega) (by omega)]
              rw [show i + 3 + 1 = i + 4 from rfl]
              cases unq (a0.drop (i + 4)) with
              | none => rfl
              | some p => simp
          · have g3 : a0[i + 3]? = none := List.getElem?_eq_none (by omega)
            rw [g3]
            simp only
            have e3 : ∀ q : Bool, (q || decide ((-1 : Int) < 0)) = true := fun q => by simp
            rw [if_pos (by rw [e3])]
            have : (match a0.drop (i + 1 + 1) with
                | a :: b :: r'' => if d ≠ 120 ∨ hexd a < 0 ∨ hexd b < 0 then none else (unq r'').map fun p => ((16 * hexd a + hexd b) :: p.1, p.2)
                | _ => none) = none := by
              have hlen : (a0.drop (i + 1 + 1)).length ≤ 1 := by simp; omega
              cases hx : a0.drop (i + 1 + 1) with
              | nil => rfl
              | cons p q => cases q with
                | nil => rfl
                | cons _ _ => rw [hx] at hlen; simp at hlen
            rw [this]; rfl
      · have hnil : a0.drop (i + 1) = [] := List.drop_eq_nil_of_le (by omega)
        have g2 : a0[i + 2]? = none := List.getElem?_eq_none (by omega)
        have g3 : a0[i + 3]? = none := List.getElem?_eq_none (by omega)
        simp only [h1, decide_false, Bool.false_and, Bool.false_eq_true, if_false]
        rw [digit_eq a0 (i + 2) ha, digit_eq a0 (i + 3) ha, g2, g3]
        simp only [bind_eq, hnil]
        rfl
    · rw [if_neg (by simpa using hlt)]
      have : a0.drop i = [] := List.drop_eq_nil_of_le (by omega)
      rw [this]; rfl
theorem unquoted_eq (s : List Int) (hs : byteOk s) (hl : s.length < 4294967296) (h1 : 1 ≤ s.length) : script_unquoted s = some ((unq (s.drop 1)).map fun p => (p.1, ((s.length - p.2.length : Nat) : Int))) := by
  unfold script_unquoted
  simp only [bnd_eq]
  have e : Int.toNat ((s.length : Int) - 1) + 1 = s.length := by omega
  rw [e]
  have := unq_l0 s hs hl [] 0 s.length 1 [] (by omega) (by simp) h1
  simpa using this

/-- what is read is a beginning of what stood there -/
theorem unq_rest : ∀ (n : Nat) (s t r : List Int), s.length ≤ n → byteOk s → unq s = some (t, r) → ∃ p, s = p ++ r ∧ t.length < p.length ∧ byteOk t ∧ byteOk r := by
  intro n
  induction n with
  | zero => intro s t r hl _ h; obtain rfl := List.length_eq_zero_iff.1 (Nat.le_zero.1 hl); simp [unq] at h
  | succ n ih =>
    intro s t r hl hs h
    cases s with
    | nil => simp [unq] at h
    | cons c s =>
      obtain ⟨hc, hs⟩ := byteOk_cons hs
      simp only [List.length_cons] at hl
      unfold unq at h
      split at h
      · simp only [Option.some.injEq, Prod.mk.injEq] at h
        obtain ⟨rfl, rfl⟩ := h
        exact ⟨[c], rfl, by simp, (fun c hc => by cases hc), hs⟩
      split at h
      · cases h
      split at h
      · obtain ⟨⟨t', r'⟩, h1, h2⟩ := Option.map_eq_some_iff.1 h
        simp only [Prod.mk.injEq] at h2
        obtain ⟨rfl, rfl⟩ := h2
        obtain ⟨p, rfl, q1, q2, q3⟩ := ih s t' r' (by omega) hs h1
        exact ⟨c :: p, rfl, by simpa using q1, byteOk_mk hc q2, q3⟩
      cases s with
      | nil => simp at h
      | cons d s =>
        obtain ⟨hd, hs⟩ := byteOk_cons hs
        simp only [List.length_cons] at hl
        simp only at h
        split at h
        · obtain ⟨⟨t', r'⟩, h1, h2⟩ := Option.map_eq_some_iff.1 h
          simp only [Prod.mk.injEq] at h2
          obtain ⟨rfl, rfl⟩ := h2
          obtain ⟨p, rfl, q1, q2, q3⟩ := ih s t' r' (by omega) hs h1
          exact ⟨c :: d :: p, rfl, by simp; omega, byteOk_mk hd q2, q3⟩
        · cases s with
          | nil => cases h
          | cons a s =>
          cases s with
          | nil => cases h
          | cons b s' =>
            obtain ⟨ha, hs⟩ := byteOk_cons hs
            obtain ⟨hb, hs⟩ := byteOk_cons hs
            simp only [List.length_cons] at hl
            by_cases hbad : d ≠ 120 ∨ hexd a < 0 ∨ hexd b < 0
            · simp only [if_pos hbad] at h; cases h
            · simp only [if_neg hbad] at h
              obtain ⟨⟨t', r'⟩, h1, h2⟩ := Option.map_eq_some_iff.1 h
              simp only [Prod.mk.injEq] at h2
              obtain ⟨rfl, rfl⟩ := h2
              obtain ⟨p, rfl, q1, q2, q3⟩ := ih s' t' r' (by omega) hs h1
              have := hexd_lt a
              have := hexd_lt b
              exact ⟨c :: d :: a :: b :: p, rfl, by simp; omega, byteOk_mk (by omega) q2, q3⟩

/-! ### words -/
abbrev Wd := List Int × Bool × Unit
def word1 (s : List Int) : Option (Wd × List Int) :=
  if s.headD 0 = 34 then (unq (s.drop 1)).map fun p => ((p.1, true, ()), p.2)
  else if s.takeWhile (· != 32) = [] then none else some ((s.takeWhile (· != 32), false, ()), s.dropWhile (· != 32))
def wrdsF : Nat → List Int → Option (List Wd)
  | 0, _ => none
  | m + 1, s => match word1 s with
    | none => none
    | some (w, []) => some [w]
    | some (w, c :: r) => if c = 32 then (wrdsF m r).map (w :: ·) else none
def wrds (s : List Int) : Option (List Wd) := wrdsF (s.length + 1) s

theorem word1_rest {s r : List Int} {w : Wd} (hs : byteOk s) (h : word1 s = some (w, r)) : ∃ p, s = p ++ r ∧ 0 < p.length ∧ byteOk r ∧ byteOk w.1 ∧ w.1.length ≤ p.length ∧ (w.2.1 = false → w.1 ≠ [] ∧ p = w.1) := by
  unfold word1 at h
  split at h
  · rename_i h34
    obtain ⟨⟨t, r'⟩, h1, h2⟩ := Option.map_eq_some_iff.1 h
    simp only [Prod.mk.injEq] at h2
    obtain ⟨rfl, rfl⟩ := h2
    cases s with
    | nil => simp at h34
    | cons c s =>
      obtain ⟨hc, hs⟩ := byteOk_cons hs
      obtain ⟨p, h2, q1, q2, q3⟩ := unq_rest _ s t r' (Nat.le_refl _) hs h1
      subst h2
      exact ⟨c :: p, rfl, by simp, q3, q2, by simp; omega, fun h => by cases h⟩
  · split at h
    · cases h
    · rename_i hne
      simp only [Option.some.injEq, Prod.mk.injEq] at h
      obtain ⟨rfl, rfl⟩ := h
      exact ⟨s.takeWhile (· != 32), (List.takeWhile_append_dropWhile).symm, List.length_pos_iff.2 hne, fun c hc => hs c ((List.dropWhile_sublist _).subset hc), fun c hc => hs c ((List.takeWhile_sublist _).subset hc), Nat.le_refl _, fun _ => ⟨hne, rfl⟩⟩

theorem wrdsF_more : ∀ (m : Nat) (s : List Int), byteOk s → s.length < m → wrdsF m s = wrds s := by
  intro m
  induction m using Nat.strongRecOn with
  | ind m ih =>
    intro s hs hm
    cases m with
    | zero => exact absurd hm (Nat.not_lt_zero _)
    | succ m =>
      unfold wrds
      unfold wrdsF
      cases hw : word1 s with
      | none => rfl
      | some x =>
        obtain ⟨w, r⟩ := x
        obtain ⟨p, rfl, hp, hr, _⟩ := word1_rest hs hw
        cases r with
        | nil => rfl
        | cons c r =>
          simp only [List.length_append, List.length_cons] at hm ⊢
          split
          · obtain ⟨_, hr⟩ := byteOk_cons hr
            rw [ih m (by omega) r hr (by omega)]
            rw [ih (p.length + (r.length + 1)) (by omega) r hr (by omega)]
          · rfl
/-- the words, one by one -/
theorem wrds_eq {s : List Int} (hs : byteOk s) : wrds s = match word1 s with
    | none => none
    | some (w, []) => some [w]
    | some (w, c :: r) => if c = 32 then (wrds r).map (w :: ·) else none := by
  conv => lhs; unfold wrds; unfold wrdsF
  cases hw : word1 s with
  | none => rfl
  | some x =>
    obtain ⟨w, r⟩ := x
    obtain ⟨p, rfl, hp, hr, _⟩ := word1_rest hs hw
    cases r with
    | nil => rfl
    | cons c r =>
      simp only
      split
      · obtain ⟨_, hr⟩ := byteOk_cons hr
        rw [wrdsF_more _ r hr (by simp; omega)]
      · rfl

theorem words_l0 : ∀ (m : Nat) (s : List Int) (acc : List Wd), byteOk s → s.length < 4294967281 → s.length < m → acc.length + s.length ≤ 4294967296 →
    script_words_l0 m (s, acc) = some ((wrdsF m s).map (acc ++ ·))
  | 0, _, _, _, _, h, _ => absurd h (Nat.not_lt_zero _)
  | m + 1, s, acc, hs, hl, hm, hacc => by
    have tail : ∀ (w : Wd) (r p : List Int), s = p ++ r → 0 < p.length → byteOk r →
        (if (acc.length + [w].length) * 24 ≤ 140737488355328 then (if (0 : Int) ≤ (p.length : Int) ∧ (p.length : Int) ≤ (s.length : Int) ∧ (s.length : Int) ≤ (s.length : Int) then
          (if (r == []) = true then (some (some (acc ++ [w])) : Option (Option (List Wd))) else
            (if (0 : Int) ≤ 0 ∧ 0 < (r.length : Int) then (if (r.getD 0 0 != 32) = true then some none else
              (if (0 : Int) ≤ 1 ∧ 1 ≤ (r.length : Int) ∧ (r.length : Int) ≤ (r.length : Int) then script_words_l0 m (r.drop 1, acc ++ [w]) else none)) else none)) else none) else none) =
        some ((match (some (w, r) : Option (Wd × List Int)) with
          | none => none
          | some (w, []) => some [w]
          | some (w, c :: r) => if c = 32 then (wrdsF m r).map (w :: ·) else none).map (acc ++ ·)) := by
      intro w r p hp h0 hr
      have hlen : s.length = p.length + r.length := by rw [hp]; simp
      rw [if_pos (by simp only [List.length_cons, List.length_nil]; omega), if_pos ⟨by omega, by omega, by omega⟩]
      cases r with
      | nil => rfl
      | cons c r =>
        have hr' := (byteOk_cons hr).2
        simp only [List.length_cons] at hlen
        rw [if_neg (by simp), if_pos ⟨by omega, by simp only [List.length_cons]; omega⟩]
        simp only [List.getD_cons_zero]
        by_cases h32 : c = 32
        · subst h32
          rw [if_neg (by decide), if_pos ⟨by decide, by simp only [List.length_cons]; omega, by omega⟩, if_pos rfl]
          rw [show (32 :: r).drop 1 = r from rfl, words_l0 m r (acc ++ [w]) hr' (by omega) (by omega) (by simp; omega)]
          cases wrdsF m r with
          | none => rfl
          | some l => simp
        · rw [if_pos (by simpa using h32), if_neg h32]; rfl
    unfold script_words_l0 wrdsF
    simp only [bnd_eq, prefix_eq, bind_eq]
    by_cases h34 : s.headD 0 = 34
    · cases s with
      | nil => simp at h34
      | cons c r =>
        simp only [List.headD_cons] at h34
        subst h34
        have hw : word1 (34 :: r) = (unq r).map fun p => ((p.1, true, ()), p.2) := by simp only [word1, List.headD_cons, if_true]; rfl
        rw [if_pos (by simp), unquoted_eq _ hs (by omega) (by simp), bind_eq, hw]
        rw [show (34 :: r).drop 1 = r from rfl]
        cases hu : unq r with
        | none => rfl
        | some x =>
          obtain ⟨t, r2⟩ := x
          obtain ⟨hc, hr⟩ := byteOk_cons hs
          obtain ⟨p, hp, q1, q2, q3⟩ := unq_rest _ r t r2 (Nat.le_refl _) hr hu
          have hs2 : 34 :: r = (34 :: p) ++ r2 := by rw [hp]; rfl
          have hn : ((34 :: r).length - r2.length : Nat) = (34 :: p).length := by rw [hs2]; simp; omega
          simp only [Option.map_some, pb]
          rw [hn, if_neg (by simp; omega)]
          have hd : List.drop (Int.toNat ((34 :: p).length : Int)) (List.take (Int.toNat ((34 :: r).length : Int)) (34 :: r)) = r2 := by
            rw [Int.toNat_natCast, Int.toNat_natCast, List.take_length, hs2, List.drop_left']
            rfl
          rw [hd]
          have := tail (t, true, ()) r2 (34 :: p) hs2 (by simp) q3
          simpa using this
    · have h34' : (s.take ([34] : List Int).length == [34] && decide (([34] : List Int).length ≤ s.length)) = false := by
        cases s with
        | nil => rfl
        | cons c r => simp at h34; simp [h34]
      rw [h34']
      simp only [Bool.false_eq_true, if_false]
      obtain ⟨x, hx⟩ := cut_eq s hs hl
      rw [hx, bind_eq]
      simp only
      unfold word1
      rw [if_neg h34]
      by_cases hn : s.takeWhile (· != 32) = []
      · rw [if_pos hn, hn]; rfl
      · rw [if_neg hn]
        have hpos := List.length_pos_iff.2 hn
        rw [if_neg (by simpa using hn)]
        have hs2 : s = s.takeWhile (· != 32) ++ s.dropWhile (· != 32) := List.takeWhile_append_dropWhile.symm
        have hd : List.drop (Int.toNat ((s.takeWhile (· != 32)).length : Int)) (List.take (Int.toNat (s.length : Int)) s) = s.dropWhile (· != 32) := by
          rw [Int.toNat_natCast, Int.toNat_natCast, List.take_length, drop_takeWhile]
        rw [hd]
        have := tail (s.takeWhile (· != 32), false, ()) (s.dropWhile (· != 32)) (s.takeWhile (· != 32)) hs2 hpos (fun c hc => hs c ((List.dropWhile_sublist _).subset hc))
        simpa using this
theorem words_eq {s : List Int} (hs : byteOk s) (hl : s.length < 4294967281) : script_words s = some (wrds s) := by
  unfold script_words
  rw [words_l0 _ s [] hs hl (by omega) (by simp; omega), wrdsF_more _ s hs (by omega)]
  cases wrds s with
  | none => rfl
  | some l => rfl
end Sx
namespace Sx
open Go Go.RowKit

/-! ### what strconv.FormatInt gives -/
def decI (n : Nat) : List Int := ofB (Lib.decDigits n)
theorem decI_eq (n : Nat) : decI n = if n < 10 then [48 + (n : Int)] else decI (n / 10) ++ [48 + ((n % 10 : Nat) : Int)] := by
  unfold decI
  rw [Lib.decDigits]
  split
  · rename_i h
    simp only [ofB, List.map_cons, List.map_nil, UInt8.toNat_ofNat']
    congr 1; omega
  · simp only [ofB, List.map_append, List.map_cons, List.map_nil, UInt8.toNat_ofNat']
    congr 2; omega
theorem itoaI_eq (n : Int) : itoaI n = if n < 0 then 45 :: decI n.natAbs else decI n.toNat := by
  unfold itoaI Lib.itoa decI
  split
  · rfl
  · rfl
def isDig (c : Int) : Prop := 48 ≤ c ∧ c ≤ 57
instance (c : Int) : Decidable (isDig c) := by unfold isDig; exact inferInstance
def valD (a : Int) (l : List Int) : Int := l.foldl (fun a c => 10 * a + (c - 48)) a
theorem valD_append (a : Int) (x y : List Int) : valD a (x ++ y) = valD (valD a x) y := by simp [valD]
theorem decI_all : ∀ (n : Nat), (∀ c ∈ decI n, isDig c) ∧ valD 0 (decI n) = n ∧ decI n ≠ [] := by
  intro n
  induction n using Nat.strongRecOn with
  | ind n ih =>
    rw [decI_eq]
    split
    · rename_i h
      refine ⟨fun c hc => ?_, ?_, by simp⟩
      · simp at hc; subst hc; unfold isDig; omega
      · simp [valD]; omega
    · rename_i h
      obtain ⟨h1, h2, h3⟩ := ih (n / 10) (by omega)
      refine ⟨fun c hc => ?_, ?_, by simp⟩
      · rcases List.mem_append.1 hc with hc | hc
        · exact h1 c hc
        · simp at hc; subst hc; unfold isDig; omega
      · rw [valD_append, h2]
        simp only [valD, List.foldl_cons, List.foldl_nil]
        omega
theorem decI_inj {a b : Nat} (h : decI a = decI b) : a = b := by
  have h1 := (decI_all a).2.1
  have h2 := (decI_all b).2.1
  rw [h, h2] at h1
  omega
theorem decI_nomin (n : Nat) : ∀ r, decI n ≠ 45 :: r := fun r h => by
  have := (decI_all n).1 45 (by rw [h]; simp)
  unfold isDig at this; omega
theorem itoaI_inj {a b : Int} (h : itoaI a = itoaI b) : a = b := by
  rw [itoaI_eq, itoaI_eq] at h
  split at h <;> split at h
  · simp only [List.cons.injEq, true_and] at h
    have := decI_inj h; omega
  · exact absurd h.symm (decI_nomin _ _)
  · exact absurd h (decI_nomin _ _)
  · have := decI_inj h; omega

/-! ### runes -/
theorem bs_get {l : List Int} (hl : byteOk l) {p : Nat} (h : p < l.length) (h' : p < (bs l).size) : (((bs l)[p]'h').toNat : Int) = l.getD p 0 := by
  have hb := hl _ (List.getElem_mem h)
  have e : l.getD p 0 = l[p] := by simp [List.getD, h]
  rw [e]
  show (((bs l).data[p]'h').toNat : Int) = _
  simp only [bs, List.getElem_toArray, List.getElem_map, UInt8.toNat_ofNat']
  omega
theorem rune_low {l : List Int} (hl : byteOk l) {p : Nat} (h : p < l.length) (h128 : l.getD p 0 < 128) : rune l p = l.getD p 0 ∧ past l p = p + 1 := by
  have h' : p < (bs l).size := by rw [bs_size]; exact h
  have hg := bs_get hl h h'
  have := decode_ascii (bs l) p h' (by omega)
  unfold rune past
  rw [this]
  exact ⟨hg, rfl⟩
theorem rune_high {l : List Int} (hl : byteOk l) {p : Nat} (h : p < l.length) (h128 : 128 ≤ l.getD p 0) : 128 ≤ rune l p := by
  have h' : p < (bs l).size := by rw [bs_size]; exact h
  have hg := bs_get hl h h'
  have e : (bs l).get! (p + 0) = (bs l)[p]'h' := by
    show (bs l).get! p = _
    simp [ByteArray.get!, getElem!_pos, h']
    rfl
  unfold rune Utf8.decode
  simp only [e]
  have hb : 128 ≤ ((bs l)[p]'h').toNat := by omega
  rw [if_neg (by omega)]
  split
  · split
    · rename_i hh; simp only [ge_iff_le] at hh ⊢; omega
    · simp only [Utf8.runeError]; omega
  · split
    · split
      · rename_i hh; simp only [ge_iff_le, Bool.and_eq_true, decide_eq_true_eq] at hh; omega
      · simp only [Utf8.runeError]; omega
    · split
      · split
        · rename_i hh; simp only [ge_iff_le, Bool.and_eq_true, decide_eq_true_eq] at hh; omega
        · simp only [Utf8.runeError]; omega
      · simp only [Utf8.runeError]; omega

/-! ### the loop over digits -/
abbrev NumK := Int → Option (Option (Int × (List Wd × Unit)))
def numL (k : NumK) : List Int → Int → Option (Option (Int × (List Wd × Unit)))
  | [], n => k n
  | c :: r, n => if isDig c ∧ -9223372036854775808 ≤ 10 * n - (c - 48) then numL k r (10 * n - (c - 48)) else some none
theorem tdiv10 {d n : Int} (h : 0 ≤ d ∧ d ≤ 9) : (n < IntKind.wrap .i64 (Int.tdiv (IntKind.wrap .i64 ((-9223372036854775808) + d)) 10)) ↔ 10 * n - d < -9223372036854775808 := by
  have : d = 0 ∨ d = 1 ∨ d = 2 ∨ d = 3 ∨ d = 4 ∨ d = 5 ∨ d = 6 ∨ d = 7 ∨ d = 8 ∨ d = 9 := by omega
  have w : IntKind.wrap .i64 ((-9223372036854775808) + d) = (-9223372036854775808) + d := wrap_i64 (by omega) (by omega)
  rw [w]
  rcases this with rfl | rfl | rfl | rfl | rfl | rfl | rfl | rfl | rfl | rfl
  · rw [show IntKind.wrap .i64 (Int.tdiv ((-9223372036854775808 : Int) + 0) 10) = -922337203685477580 from by decide]; omega
  · rw [show IntKind.wrap .i64 (Int.tdiv ((-9223372036854775808 : Int) + 1) 10) = -922337203685477580 from by decide]; omega
  · rw [show IntKind.wrap .i64 (Int.tdiv ((-9223372036854775808 : Int) + 2) 10) = -922337203685477580 from by decide]; omega
  · rw [show IntKind.wrap .i64 (Int.tdiv ((-9223372036854775808 : Int) + 3) 10) = -922337203685477580 from by decide]; omega
  · rw [show IntKind.wrap .i64 (Int.tdiv ((-9223372036854775808 : Int) + 4) 10) = -922337203685477580 from by decide]; omega
  · rw [show IntKind.wrap .i64 (Int.tdiv ((-9223372036854775808 : Int) + 5) 10) = -922337203685477580 from by decide]; omega
  · rw [show IntKind.wrap .i64 (Int.tdiv ((-9223372036854775808 : Int) + 6) 10) = -922337203685477580 from by decide]; omega
  · rw [show IntKind.wrap .i64 (Int.tdiv ((-9223372036854775808 : Int) + 7) 10) = -922337203685477580 from by decide]; omega
  · rw [show IntKind.wrap .i64 (Int.tdiv ((-9223372036854775808 : Int) + 8) 10) = -922337203685477580 from by decide]; omega
  · rw [show IntKind.wrap .i64 (Int.tdiv ((-9223372036854775808 : Int) + 9) 10) = -922337203685477579 from by decide]; omega
theorem num_l0 (k : NumK) (s : List Int) (hs : byteOk s) : ∀ (m p : Nat) (n : Int), s.length - p < m → p ≤ s.length → -9223372036854775808 ≤ n → n ≤ 0 → script_reader_number_l0 k s m (n, p) = numL k (s.drop p) n
  | 0, _, _, h, _, _, _ => absurd h (Nat.not_lt_zero _)
  | m + 1, p, n, h, hp, hn, hn0 => by
    unfold script_reader_number_l0
    simp only [bnd_eq]
    by_cases hlt : p < s.length
    · rw [if_pos hlt, drop_cons hlt, numL]
      have hc := getD_byte hs p
      by_cases hd : isDig (s.getD p 0)
      · have hd' := hd
        unfold isDig at hd'
        obtain ⟨r1, r2⟩ := rune_low hs hlt (by omega)
        rw [r1, r2]
        generalize hcc : s.getD p 0 = c at *
        have hb : (decide (c < 48) || decide (c > 57)) = false := by simp; omega
        have w32 : IntKind.wrap .i32 (c - 48) = c - 48 := by simp [IntKind.wrap, IntKind.bits, IntKind.signed]; omega
        have w64 : IntKind.wrap .i64 (c - 48) = c - 48 := wrap_i64 (by omega) (by omega)
        rw [hb, w32, w64]
        simp only [Bool.false_eq_true, if_false]
        by_cases ho : -9223372036854775808 ≤ 10 * n - (c - 48)
        · rw [if_neg (by rw [decide_eq_true_eq, tdiv10 ⟨by omega, by omega⟩]; omega), if_pos ⟨hd, ho⟩]
          have e1 : IntKind.wrap .i64 (10 * n) = 10 * n := wrap_i64 (by omega) (by omega)
          rw [e1]
          have e2 : IntKind.wrap .i64 (10 * n - (c - 48)) = 10 * n - (c - 48) := wrap_i64 (by omega) (by omega)
          rw [e2]
          exact num_l0 k s hs m (p + 1) _ (by omega) (by omega) ho (by omega)
        · rw [if_pos (by rw [decide_eq_true_eq, tdiv10 ⟨by omega, by omega⟩]; omega), if_neg (fun h => ho h.2)]
      · have hr : rune s p < 48 ∨ rune s p > 57 := by
          by_cases h128 : s.getD p 0 < 128
          · rw [(rune_low hs hlt h128).1]; unfold isDig at hd; omega
          · have := rune_high hs hlt (by omega); omega
        have hb : (decide (rune s p < 48) || decide (rune s p > 57)) = true := by simpa using hr
        rw [hb, if_neg (c := isDig _ ∧ _) (fun h => hd h.1)]; simp
    · rw [if_neg hlt]
      have : s.drop p = [] := List.drop_eq_nil_of_le (by omega)
      rw [this, numL]
def negv (n : Int) (s : List Int) : Int := s.foldl (fun n c => 10 * n - (c - 48)) n
theorem negv_val (n : Int) (s : List Int) : negv n s = -(valD (-n) s) := by
  induction s generalizing n with
  | nil => simp [negv, valD]
  | cons c r ih =>
    show negv (10 * n - (c - 48)) r = -(valD (10 * -n + (c - 48)) r)
    rw [ih]
    congr 2; omega
theorem negv_le : ∀ (s : List Int) (n : Int), n ≤ 0 → (∀ c ∈ s, isDig c) → negv n s ≤ n
  | [], _, _, _ => Int.le_refl _
  | c :: r, n, hn, h => by
    have hc : isDig c := h c (by simp)
    unfold isDig at hc
    have := negv_le r (10 * n - (c - 48)) (by omega) (fun x hx => h x (by simp [hx]))
    show negv (10 * n - (c - 48)) r ≤ n
    omega
theorem numL_or (k : NumK) : ∀ (s : List Int) (n : Int), -9223372036854775808 ≤ n → n ≤ 0 → numL k s n = some none ∨ (numL k s n = k (negv n s) ∧ (∀ c ∈ s, isDig c) ∧ -9223372036854775808 ≤ negv n s ∧ negv n s ≤ 0)
  | [], n, h1, h2 => .inr ⟨rfl, by simp, h1, h2⟩
  | c :: r, n, h1, h2 => by
    unfold numL
    by_cases h : isDig c ∧ -9223372036854775808 ≤ 10 * n - (c - 48)
    · rw [if_pos h]
      have hc := h.1
      unfold isDig at hc
      rcases numL_or k r (10 * n - (c - 48)) h.2 (by omega) with h3 | ⟨h3, h4, h5, h6⟩
      · exact .inl h3
      · refine .inr ⟨h3, fun x hx => ?_, h5, h6⟩
        rcases List.mem_cons.1 hx with rfl | hx
        · exact h.1
        · exact h4 x hx
    · rw [if_neg h]; exact .inl rfl
theorem numL_ok (k : NumK) : ∀ (s : List Int) (n : Int), n ≤ 0 → (∀ c ∈ s, isDig c) → -9223372036854775808 ≤ negv n s → numL k s n = k (negv n s)
  | [], _, _, _, _ => rfl
  | c :: r, n, hn, h, hm => by
    have hc : isDig c := h c (by simp)
    have hc' := hc
    unfold isDig at hc'
    have hr : ∀ x ∈ r, isDig x := fun x hx => h x (by simp [hx])
    have := negv_le r (10 * n - (c - 48)) (by omega) hr
    have hm' : -9223372036854775808 ≤ negv (10 * n - (c - 48)) r := hm
    unfold numL
    rw [if_pos ⟨hc, by omega⟩, numL_ok k r _ (by omega) hr hm']
    rfl

/-! ### a reader's words -/
open Classical in
/-- the number that a word says -/
noncomputable def numS (t : List Int) : Option Int := if h : ∃ n, rng .i64 n ∧ itoaI n = t then some h.choose else none
theorem numS_some {n : Int} (h : rng .i64 n) : numS (itoaI n) = some n := by
  unfold numS
  have hx : ∃ m, rng .i64 m ∧ itoaI m = itoaI n := ⟨n, h, rfl⟩
  rw [dif_pos hx]
  exact congrArg some (itoaI_inj hx.choose_spec.2)
theorem numS_spec {t : List Int} {n : Int} (h : numS t = some n) : rng .i64 n ∧ itoaI n = t := by
  unfold numS at h
  split at h
  · rename_i hx
    simp only [Option.some.injEq] at h
    subst h
    exact hx.choose_spec
  · cases h

def nextS (ws : List Wd) (q : Bool) : Option (List Int × (List Wd × Unit)) := match ws with
  | [] => none
  | w :: r => if w.2.1 = q then some (w.1, (r, ())) else none
theorem next_eq (ws : List Wd) (hl : ws.length < 4294967296) (q : Bool) : script_reader_next (ws, ()) q = some (nextS ws q) := by
  unfold script_reader_next nextS
  simp only [bnd_eq]
  cases ws with
  | nil => rfl
  | cons w r =>
    obtain ⟨t, b, u⟩ := w
    have h0 : ((((t, b, u) :: r : List Wd).length : Int) == 0) = false := by simp; omega
    rw [h0]
    simp only [Bool.false_eq_true, if_false, List.getD_cons_zero]
    rw [if_pos ⟨by decide, by simp only [List.length_cons]; omega⟩]
    by_cases hq : b = q
    · subst hq
      simp only [bne_self_eq_false, Bool.false_eq_true, if_false, if_true]
      rw [if_pos ⟨by decide, by simp only [List.length_cons]; omega⟩, if_pos ⟨by decide, by simp only [List.length_cons]; omega, by omega⟩]
      simp
    · rw [if_pos (by simpa using hq), if_neg hq]
theorem name_eq (ws : List Wd) (hl : ws.length < 4294967296) : script_reader_name (ws, ()) = some (nextS ws false) := by
  unfold script_reader_name
  rw [next_eq ws hl, bind_eq]
  cases nextS ws false <;> rfl
theorem quote_eq (ws : List Wd) (hl : ws.length < 4294967296) : script_reader_quote (ws, ()) = some (nextS ws true) := by
  unfold script_reader_quote
  rw [next_eq ws hl, bind_eq]
  cases nextS ws true <;> rfl

noncomputable def numR (ws : List Wd) : Option (Int × (List Wd × Unit)) := (nextS ws false).bind fun p => (numS p.1).map fun n => (n, p.2)

/-- what the words are known for -/
def WdOk (ws : List Wd) : Prop := ws.length < 4294967296 ∧ ∀ w ∈ ws, byteOk w.1 ∧ w.1.length < 4294967296 ∧ (w.2.1 = false → w.1 ≠ [])

theorem number_eq (ws : List Wd) (hw : WdOk ws) : script_reader_number (ws, ()) = some (numR ws) := by
  unfold script_reader_number numR
  rw [name_eq ws hw.1, bind_eq]
  cases ws with
  | nil => rfl
  | cons w r =>
    obtain ⟨t, b, u⟩ := w
    obtain ⟨hb, hl, hne⟩ : byteOk t ∧ t.length < 4294967296 ∧ (b = false → t ≠ []) := hw.2 (t, b, u) (by simp)
    unfold nextS
    cases b with
    | true => rfl
    | false =>
      simp only [if_true, pb, Option.bind_some, bnd_eq]
      have hne := hne rfl
      rw [trim_eq, bind_eq]
      simp only [List.length_cons, List.length_nil, Nat.zero_add]
      -- the digits
      have hgood : ∀ (n : Int), itoaI n = t → ((strconv_FormatInt n 10).bind fun r8 => if (r8 != t) = true then (some none : Option (Option (Int × (List Wd × Unit)))) else some (some (n, (r, ())))) = some (some (n, (r, ()))) := by
        intro n he
        unfold strconv_FormatInt
        rw [if_pos rfl, bind_eq, he, if_neg (by simp)]
      have hbad : ∀ (n : Int), itoaI n ≠ t → ((strconv_FormatInt n 10).bind fun r8 => if (r8 != t) = true then (some none : Option (Option (Int × (List Wd × Unit)))) else some (some (n, (r, ())))) = some none := by
        intro n he
        unfold strconv_FormatInt
        rw [if_pos rfl, bind_eq, if_pos (by simpa using he)]
      have hnone : ∀ n, rng .i64 n → numS t = none → itoaI n ≠ t := fun n hn h he => by rw [← he, numS_some hn] at h; cases h
      have hpos : (0 : Int) ≤ 0 ∧ (0 : Int) < (t.length : Int) := ⟨by decide, by have := List.length_pos_iff.2 hne; omega⟩
      simp only [if_pos hpos]
      by_cases h45 : t.getD 0 0 = 45
      · -- below nought
        obtain ⟨s', rfl⟩ : ∃ s', t = 45 :: s' := by
          cases t with
          | nil => exact absurd rfl hne
          | cons c s' => simp at h45; exact ⟨s', by rw [h45]⟩
        have hs' := (byteOk_cons hb).2
        have e1 : (if ((45 :: s').take 1 == [45] && decide (1 ≤ (45 :: s').length)) = true then (45 :: s').drop 1 else 45 :: s') = s' := by simp
        rw [e1, num_l0 _ s' hs' _ 0 0 (by omega) (by omega) (by decide) (by decide), List.drop_zero]
        cases hS : numS (45 :: s') with
        | some m =>
          obtain ⟨hm, hi⟩ := numS_spec hS
          have hi2 := hi
          rw [itoaI_eq] at hi2
          by_cases hneg : m < 0
          · rw [if_pos hneg] at hi2
            simp only [List.cons.injEq, true_and] at hi2
            obtain ⟨d1, d2, d3⟩ := decI_all m.natAbs
            rw [hi2] at d1 d2
            have hv : negv 0 s' = m := by rw [negv_val]; simp only [Int.neg_zero]; rw [d2]; omega
            simp only [rng, lo, Sx.hi] at hm
            rw [numL_ok _ s' 0 (by decide) d1 (by rw [hv]; omega), hv]
            simp only [List.getD_cons_zero, bne_self_eq_false, Bool.false_eq_true, if_false]
            exact hgood m hi
          · rw [if_neg hneg] at hi2
            exact absurd hi2 (decI_nomin _ _)
        | none =>
          rcases numL_or _ s' 0 (by decide) (by decide) with h | ⟨h, h1, h2, h3⟩
          · rw [h]; rfl
          · rw [h]
            simp only [List.getD_cons_zero, bne_self_eq_false, Bool.false_eq_true, if_false]
            exact hbad _ (hnone _ (by simp only [rng, lo, Sx.hi]; omega) hS)
      · have e1 : (if (t.take 1 == [45] && decide (1 ≤ t.length)) = true then t.drop 1 else t) = t := by
          rw [if_neg]
          cases t with
          | nil => exact absurd rfl hne
          | cons c s' => simp at h45; simp [h45]
        have h45' : (t.getD 0 0 != 45) = true := by simpa using h45
        rw [e1, num_l0 _ t hb _ 0 0 (by rw [Nat.sub_zero]; exact Nat.lt_succ_self _) (Nat.zero_le _) (by decide) (by decide), List.drop_zero]
        simp only [if_pos h45']
        cases hS : numS t with
        | some m =>
          obtain ⟨hm, hi⟩ := numS_spec hS
          have hi2 := hi
          rw [itoaI_eq] at hi2
          by_cases hneg : m < 0
          · rw [if_pos hneg] at hi2
            rw [← hi2] at h45
            exact absurd rfl h45
          · rw [if_neg hneg] at hi2
            obtain ⟨d1, d2, d3⟩ := decI_all m.toNat
            rw [hi2] at d1 d2
            have hv : negv 0 t = -m := by rw [negv_val]; simp only [Int.neg_zero]; rw [d2]; omega
            simp only [rng, lo, Sx.hi] at hm
            rw [numL_ok _ t 0 (by decide) d1 (by rw [hv]; omega), hv]
            have w : IntKind.wrap .i64 (0 - -m) = m := by rw [wrap_i64 (by omega) (by omega)]; omega
            rw [if_neg (by simp; omega), w]
            exact hgood m hi
        | none =>
          rcases numL_or _ t 0 (by decide) (by decide) with h | ⟨h, h1, h2, h3⟩
          · rw [h]; rfl
          · rw [h]
            generalize negv 0 t = v at *
            by_cases hv : v = -9223372036854775808
            · rw [if_pos (by simpa using hv)]; rfl
            · rw [if_neg (by simpa using hv)]
              have w : IntKind.wrap .i64 (0 - v) = -v := by rw [wrap_i64 (by omega) (by omega)]; omega
              rw [w]
              exact hbad _ (hnone _ (by simp only [rng, lo, Sx.hi]; omega) hS)
end Sx
namespace Sx
open Go Go.RowKit

abbrev Fate := List Int × Int × Int × List Int × Unit
abbrev Step := Int × Int × Int × Int × List Int × List Int × List Int × List Fate × Unit
abbrev Wld := Int × Int × List (List Int) × List (List Int) × Int × Int × Unit
abbrev Cmd := Int × Wld × (Int × Int × Step × Unit) × Int × Int × Unit
abbrev Rd := List Wd × Unit
abbrev z32 : List Int := List.replicate 32 (0 : Int)
abbrev z2 : List (List Int) := List.replicate 2 ((List.replicate 32 (0 : Int)) : List (Int))
abbrev zStep : Step := (0, 0, 0, 0, z32, [], [], [], ())
abbrev zWld : Wld := (0, 0, z2, z2, 0, 0, ())

theorem pb_some {α β : Type} {o : Option α} {k : α → Option (Option β)} {F : α → Option β} (h : ∀ r, o = some r → k r = some (F r)) : pb o k = some (o.bind F) := by
  cases o with
  | none => rfl
  | some r => exact h r rfl
theorem ite_some {α : Type} {c : Prop} [Decidable c] {X Y : Option α} {A B : α} (h1 : c → X = some A) (h2 : ¬ c → Y = some B) : (if c then X else Y) = some (if c then A else B) := by
  by_cases h : c
  · rw [if_pos h, if_pos h]; exact h1 h
  · rw [if_neg h, if_neg h]; exact h2 h

theorem WdOk.tail {w : Wd} {r : List Wd} (h : WdOk (w :: r)) : WdOk r := ⟨by have := h.1; simp only [List.length_cons] at this; omega, fun x hx => h.2 x (by simp [hx])⟩
theorem next_ok {ws : List Wd} {q : Bool} {t : List Int} {r : Rd} (h : nextS ws q = some (t, r)) (hw : WdOk ws) : WdOk r.1 ∧ byteOk t ∧ t.length < 4294967296 ∧ ∃ w, ws = w :: r.1 := by
  cases ws with
  | nil => cases h
  | cons w ws =>
    unfold nextS at h
    simp only at h
    split at h
    · simp only [Option.some.injEq, Prod.mk.injEq] at h
      obtain ⟨rfl, rfl⟩ := h
      exact ⟨hw.tail, (hw.2 w (by simp)).1, (hw.2 w (by simp)).2.1, w, rfl⟩
    · cases h
theorem name_r (rd : Rd) (hw : WdOk rd.1) : script_reader_name rd = some (nextS rd.1 false) := name_eq rd.1 hw.1
theorem quote_r (rd : Rd) (hw : WdOk rd.1) : script_reader_quote rd = some (nextS rd.1 true) := quote_eq rd.1 hw.1
theorem number_r (rd : Rd) (hw : WdOk rd.1) : script_reader_number rd = some (numR rd.1) := number_eq rd.1 hw
theorem num_ok {ws : List Wd} {n : Int} {r : Rd} (h : numR ws = some (n, r)) (hw : WdOk ws) : WdOk r.1 := by
  unfold numR at h
  obtain ⟨⟨t, r2⟩, h1, h2⟩ := Option.bind_eq_some_iff.1 h
  obtain ⟨m, _, h3⟩ := Option.map_eq_some_iff.1 h2
  simp only [Prod.mk.injEq] at h3
  obtain ⟨rfl, rfl⟩ := h3
  exact (next_ok h1 hw).1
theorem count_r (rd : Rd) (hw : WdOk rd.1) : script_reader_count rd = some (numR rd.1) := by
  unfold script_reader_count
  rw [number_r rd hw, bind_eq]
  cases numR rd.1 <;> rfl

/-! ### hashes -/
def hexL : List Int → Option (List Int)
  | [] => some []
  | [_] => none
  | a :: b :: r => if hexd a < 0 ∨ hexd b < 0 then none else (hexL r).map fun h => (16 * hexd a + hexd b) :: h
def hashS (t : List Int) : Option (List Int) := if t.length = 64 then hexL t else none
def hashR (ws : List Wd) : Option (List Int × Rd) := (nextS ws false).bind fun p => (hashS p.1).map fun h => (h, p.2)
theorem set_rep (pre : List Int) (j : Nat) (x : Int) : List.set (pre ++ List.replicate (j + 1) 0) pre.length x = (pre ++ [x]) ++ List.replicate j 0 := by
  rw [List.set_append]
  simp [List.replicate_succ]
theorem hash_l0 (t : List Int) (r : Rd) (hb : byteOk t) (ht : t.length = 64) (K : List Int → Option (Option (List Int × Rd))) : ∀ (j i : Nat) (pre : List Int), i + j = 32 → pre.length = i →
    script_reader_hash_l0 (t, r) K (j + 1) ((i : Int), pre ++ List.replicate j 0) = match hexL (t.drop (2 * i)) with | none => some none | some h => K (pre ++ h)
  | 0, i, pre, hi, hp => by
    obtain rfl : i = 32 := by omega
    unfold script_reader_hash_l0
    rw [if_neg (by simp), List.drop_eq_nil_of_le (by omega)]
    simp [hexL]
  | j + 1, i, pre, hi, hp => by
    unfold script_reader_hash_l0
    simp only [bnd_eq]
    rw [if_pos (by simp; omega)]
    have w1 : IntKind.wrap .i64 (2 * (i : Int)) = ((2 * i : Nat) : Int) := by rw [wrap_i64 (by omega) (by omega)]; omega
    have w2 : IntKind.wrap .i64 (((2 * i : Nat) : Int) + 1) = ((2 * i + 1 : Nat) : Int) := by rw [wrap_i64 (by omega) (by omega)]; omega
    have w3 : IntKind.wrap .i64 ((i : Int) + 1) = ((i + 1 : Nat) : Int) := by rw [wrap_i64 (by omega) (by omega)]; omega
    rw [w1, w2, digit_eq t _ hb, digit_eq t _ hb]
    have g1 : t[2 * i]? = some (t.getD (2 * i) 0) := by simp [List.getD, show 2 * i < t.length by omega]
    have g2 : t[2 * i + 1]? = some (t.getD (2 * i + 1) 0) := by simp [List.getD, show 2 * i + 1 < t.length by omega]
    rw [g1, g2, drop_cons (show 2 * i < t.length by omega), drop_cons (show 2 * i + 1 < t.length by omega)]
    simp only [bind_eq, hexL]
    generalize t.getD (2 * i) 0 = a
    generalize t.getD (2 * i + 1) 0 = b
    by_cases hbad : hexd a < 0 ∨ hexd b < 0
    · rw [if_pos (by simpa using hbad), if_pos hbad]
    · rw [if_neg (by simpa using hbad), if_neg hbad, if_pos ⟨by omega, by omega⟩, w3, hex_byte (by omega) (by omega), Int.toNat_natCast]
      have e : List.set (pre ++ List.replicate (j + 1) 0) i (16 * hexd a + hexd b) = (pre ++ [16 * hexd a + hexd b]) ++ List.replicate j 0 := by rw [← hp]; exact set_rep pre j _
      rw [e, hash_l0 t r hb ht K j (i + 1) _ (by omega) (by simp [hp])]
      rw [show 2 * (i + 1) = 2 * i + 1 + 1 by omega]
      cases hexL (t.drop (2 * i + 1 + 1)) with
      | none => rfl
      | some h => simp
theorem hash_r (rd : Rd) (hw : WdOk rd.1) : script_reader_hash rd = some (hashR rd.1) := by
  unfold script_reader_hash hashR
  rw [name_r rd hw, bind_eq]
  refine pb_some fun p hp => ?_
  obtain ⟨t, r⟩ := p
  obtain ⟨_, hb, hl, _⟩ := next_ok hp hw
  simp only [bnd_eq, hashS]
  by_cases h64 : t.length = 64
  · rw [if_neg (by simp; omega), if_pos h64]
    have := hash_l0 t r hb h64 (fun o7 => some (some (o7, r))) 32 0 [] (by omega) rfl
    simp only [List.nil_append, Nat.mul_zero, List.drop_zero] at this
    have this2 : script_reader_hash_l0 (t, r) (fun o7 => some (some (o7, r))) (Int.toNat (32 - 0) + 1) (0, List.replicate 32 0) = _ := this
    rw [this2]
    cases hexL t <;> rfl
  · rw [if_pos (by simp; omega), if_neg h64]; rfl
theorem hash_ok {ws : List Wd} {h : List Int} {r : Rd} (e : hashR ws = some (h, r)) (hw : WdOk ws) : WdOk r.1 := by
  unfold hashR at e
  obtain ⟨⟨t, r2⟩, h1, h2⟩ := Option.bind_eq_some_iff.1 e
  obtain ⟨m, _, h3⟩ := Option.map_eq_some_iff.1 h2
  simp only [Prod.mk.injEq] at h3
  obtain ⟨rfl, rfl⟩ := h3
  exact (next_ok h1 hw).1

/-! ### fates -/
def kindF (t : List Int) : Option Int := if (t == [108, 111, 115, 116]) = true then some 0 else if (t == [107, 101, 112, 116]) = true then some 1 else if (t == [114, 101, 112, 108, 97, 99, 101]) = true then some 2 else none
/-- one fate -/
noncomputable def fateR (ws : List Wd) : Option (Fate × Rd) := (nextS ws false).bind fun p => (kindF p.1).bind fun k => (nextS p.2.1 true).bind fun f => (numR f.2.1).bind fun s =>
  if k = 2 then (nextS s.2.1 true).bind fun b => some ((f.1, s.1, k, b.1, ()), b.2) else some ((f.1, s.1, k, [], ()), s.2)
noncomputable def fatesF : Nat → List Wd → Option (List Fate)
  | 0, _ => none
  | _ + 1, [] => some []
  | m + 1, ws => (fateR ws).bind fun p => (fatesF m p.2.1).map fun l => p.1 :: l
theorem fate_ok {ws : List Wd} {f : Fate} {r : Rd} (h : fateR ws = some (f, r)) (hw : WdOk ws) : WdOk r.1 ∧ r.1.length < ws.length := by
  unfold fateR at h
  obtain ⟨⟨t, r1⟩, h1, h⟩ := Option.bind_eq_some_iff.1 h
  obtain ⟨k, _, h⟩ := Option.bind_eq_some_iff.1 h
  obtain ⟨⟨f1, r2⟩, h2, h⟩ := Option.bind_eq_some_iff.1 h
  obtain ⟨⟨s1, r3⟩, h3, h⟩ := Option.bind_eq_some_iff.1 h
  obtain ⟨w1, _, _, x1, e1⟩ := next_ok h1 hw
  obtain ⟨w2, _, _, x2, e2⟩ := next_ok h2 w1
  have h3' := h3
  unfold numR at h3'
  obtain ⟨⟨t4, r4⟩, g1, g2⟩ := Option.bind_eq_some_iff.1 h3'
  obtain ⟨m, _, g3⟩ := Option.map_eq_some_iff.1 g2
  simp only [Prod.mk.injEq] at g3
  obtain ⟨rfl, rfl⟩ := g3
  obtain ⟨w3, _, _, x3, e3⟩ := next_ok g1 w2
  simp only at e1 e2 e3 h
  split at h
  · obtain ⟨⟨b, r5⟩, h4, h⟩ := Option.bind_eq_some_iff.1 h
    simp only [Option.some.injEq, Prod.mk.injEq] at h
    obtain ⟨_, rfl⟩ := h
    obtain ⟨w4, _, _, x4, e4⟩ := next_ok h4 w3
    refine ⟨w4, ?_⟩
    rw [e1, e2, e3, e4]; simp only [List.length_cons]; omega
  · simp only [Option.some.injEq, Prod.mk.injEq] at h
    obtain ⟨_, rfl⟩ := h
    refine ⟨w3, ?_⟩
    rw [e1, e2, e3]; simp only [List.length_cons]; omega
theorem fates_l0 : ∀ (m : Nat) (ws : List Wd) (acc : List Fate), ws.length < m → WdOk ws → acc.length + ws.length ≤ 4294967296 →
    script_reader_fates_l0 (fun o2 => some (some (o2.1, o2.2))) m ((ws, ()), acc) = some ((fatesF m ws).map fun l => (acc ++ l, ([], ())))
  | 0, _, _, h, _, _ => absurd h (Nat.not_lt_zero _)
  | m + 1, [], acc, _, _, _ => by
    unfold script_reader_fates_l0
    rw [if_neg (by simp)]
    simp [fatesF]
  | m + 1, w :: ws, acc, hm, hw, hacc => by
    have hz : (decide (((((w :: ws, ()), acc) : Rd × List Fate).1.1.length : Int) > 0)) = true := by simp <;> omega
    have last : ∀ (f : Fate) (r : Rd), fateR (w :: ws) = some (f, r) →
        (if (acc.length + [f].length) * 48 ≤ 140737488355328 then script_reader_fates_l0 (fun o2 => some (some (o2.1, o2.2))) m (r, acc ++ [f]) else none) = some ((fatesF m r.1).map fun l => (acc ++ f :: l, ([], ()))) := by
      intro f r hf
      obtain ⟨h1, h2⟩ := fate_ok hf hw
      simp only [List.length_cons] at hm hacc h2
      rw [if_pos (by simp only [List.length_cons, List.length_nil]; omega)]
      have := fates_l0 m r.1 (acc ++ [f]) (by omega) h1 (by simp; omega)
      rw [show ((r.1, ()) : Rd) = r from rfl] at this
      rw [this]
      simp
    have e : fatesF (m + 1) (w :: ws) = (fateR (w :: ws)).bind fun p => (fatesF m p.2.1).map fun l => p.1 :: l := rfl
    have e2 : ((fatesF (m + 1) (w :: ws)).map fun l => (acc ++ l, (([], ()) : Rd))) = (fateR (w :: ws)).bind fun p => (fatesF m p.2.1).map fun l => (acc ++ p.1 :: l, (([], ()) : Rd)) := by
      rw [e]; cases fateR (w :: ws) with
      | none => rfl
      | some p => simp [Option.map_map, Function.comp_def]
    rw [e2]
    unfold script_reader_fates_l0
    rw [if_pos hz]
    simp only [bnd_eq]
    generalize hF : fateR (w :: ws) = F at last ⊢
    unfold fateR at hF
    rw [name_r _ hw, bind_eq]
    simp only
    cases h1 : nextS (w :: ws) false with
    | none => rw [h1] at hF; subst hF; rfl
    | some p1 =>
      obtain ⟨w1, _⟩ := next_ok h1 hw
      rw [h1] at hF
      simp only [Option.bind_some] at hF
      simp only [pb]
      have body : ∀ k : Int, kindF p1.1 = some k → ((script_reader_quote p1.2).bind fun or13 => pb or13 fun r13 => (script_reader_count r13.2).bind fun or14 => pb or14 fun r14 =>
          if (k == 2) = true then (script_reader_quote r14.2).bind fun or19 => pb or19 fun r19 =>
            (if (acc.length + [((r13.1, r14.1, k, r19.1, ()) : Fate)].length) * 48 ≤ 140737488355328 then script_reader_fates_l0 (fun o2 => some (some (o2.1, o2.2))) m (r19.2, acc ++ [(r13.1, r14.1, k, r19.1, ())]) else none)
          else (if (acc.length + [((r13.1, r14.1, k, [], ()) : Fate)].length) * 48 ≤ 140737488355328 then script_reader_fates_l0 (fun o2 => some (some (o2.1, o2.2))) m (r14.2, acc ++ [(r13.1, r14.1, k, [], ())]) else none)) =
          some (F.bind fun p => (fatesF m p.2.1).map fun l => (acc ++ p.1 :: l, (([], ()) : Rd))) := by
        intro k hk
        rw [hk] at hF
        simp only [Option.bind_some] at hF
        rw [quote_r _ w1, bind_eq]
        cases h2 : nextS p1.2.1 true with
        | none => rw [h2] at hF; subst hF; rfl
        | some p2 =>
          obtain ⟨w2, _⟩ := next_ok h2 w1
          rw [h2] at hF
          simp only [Option.bind_some] at hF
          simp only [pb]
          rw [count_r _ w2, bind_eq]
          cases h3 : numR p2.2.1 with
          | none => rw [h3] at hF; subst hF; rfl
          | some p3 =>
            have w3 := num_ok h3 w2
            rw [h3] at hF
            simp only [Option.bind_some] at hF
            simp only [pb]
            by_cases hk2 : k = 2
            · subst hk2
              rw [if_pos rfl] at hF
              rw [if_pos (by decide)]
              rw [quote_r _ w3, bind_eq]
              cases h4 : nextS p3.2.1 true with
              | none => rw [h4] at hF; subst hF; rfl
              | some p4 =>
                rw [h4] at hF
                simp only [Option.bind_some] at hF
                subst hF
                simp only [pb, Option.bind_some]
                exact last _ _ rfl
            · rw [if_neg hk2] at hF
              rw [if_neg (by simpa using hk2)]
              subst hF
              exact last _ _ rfl
      unfold kindF at body hF
      by_cases c1 : (p1.1 == [108, 111, 115, 116]) = true
      · rw [if_pos c1]; exact body 0 (by rw [if_pos c1])
      · rw [if_neg c1]
        by_cases c2 : (p1.1 == [107, 101, 112, 116]) = true
        · rw [if_pos c2]; exact body 1 (by rw [if_neg c1, if_pos c2])
        · rw [if_neg c2]
          by_cases c3 : (p1.1 == [114, 101, 112, 108, 97, 99, 101]) = true
          · rw [if_pos c3]; exact body 2 (by rw [if_neg c1, if_neg c2, if_pos c3])
          · rw [if_neg c3]
            rw [if_neg c1, if_neg c2, if_neg c3] at hF
            subst hF; rfl
noncomputable def fatesR (ws : List Wd) : Option (List Fate × Rd) := (fatesF (ws.length + 1) ws).map fun l => (l, ([], ()))
theorem fates_r (rd : Rd) (hw : WdOk rd.1) : script_reader_fates rd = some (fatesR rd.1) := by
  unfold script_reader_fates fatesR
  simp only [bnd_eq]
  have := fates_l0 (rd.1.length + 1) rd.1 [] (by omega) hw (by have := hw.1; simp; omega)
  simpa using this
end Sx
namespace Sx
open Go Go.RowKit

/-! ### kinds by their word -/
def bareK (w : List Int) : Option Int := if w = [] then some 1 else if w = [115, 105, 103, 110] then some 4 else if w = [99, 108, 111, 115, 101] then some 5 else if w = [99, 111, 110, 110, 101, 99, 116] then some 6
  else if w = [100, 105, 115, 99, 111, 110, 110, 101, 99, 116] then some 7 else if w = [99, 104, 101, 99, 107, 112, 111, 105, 110, 116] then some 9 else if w = [111, 112, 101, 110] then some 13 else none
def askK (w : List Int) : Option Int := if w = [] then some 1 else if w = [115, 116, 97, 116, 101] then some 4 else if w = [108, 101, 100, 103, 101, 114] then some 5 else if w = [109, 97, 114, 107] then some 6 else if w = [112, 105, 112, 101] then some 7 else if w = [102, 105, 108, 101, 115] then some 8 else none
theorem eqc {x w : List Int} {α : Type} {A B : α} : (if (x == w) = true then A else B) = if w = x then A else B := by
  by_cases h : w = x
  · rw [if_pos h, if_pos (by simp [h])]
  · rw [if_neg h, if_neg (by simpa using fun e => h e.symm)]
theorem bare_eq (w : List Int) : script_kindOf_bare 13 w = some (bareK w) := by
  unfold script_kindOf_bare
  simp only [bnd_eq]
  have e : Int.toNat (13 + 1 - 1) + 1 = 14 := rfl
  rw [e]
  simp (decide := true) only [script_kindOf_bare_l0, script_bare, bnd_eq, bind_eq, if_true, if_false, eqc, IntKind.wrap, IntKind.bits, IntKind.signed]
  unfold bareK
  by_cases h : w = []
  · simp [h]
  · simp only [h, if_false]
    repeat' (first | (split <;> try rfl))
theorem ask_eq (w : List Int) : script_kindOf_question 8 w = some (askK w) := by
  unfold script_kindOf_question
  simp only [bnd_eq]
  have e : Int.toNat (8 + 1 - 1) + 1 = 9 := rfl
  rw [e]
  simp (decide := true) only [script_kindOf_question_l0, script_question, bnd_eq, bind_eq, if_true, if_false, eqc, IntKind.wrap, IntKind.bits, IntKind.signed]
  unfold askK
  by_cases h : w = []
  · simp [h]
  · simp only [h, if_false]
    repeat' (first | (split <;> try rfl))

/-! ### steps and commands -/
noncomputable def stepR (ws : List Wd) : Option (Step × Rd) := (nextS ws false).bind fun r2 => if (r2.1 == [111, 102, 102, 101, 114]) = true then ((numR r2.2.1).bind fun r3 => (hashR r3.2.1).bind fun r4 => some ((1, r3.1, 0, 0, r4.1, [], [], [], ()), r4.2)) else (if (r2.1 == [115, 101, 116, 116, 108, 101]) = true then ((numR r2.2.1).bind fun r5 => (hashR r5.2.1).bind fun r6 => some ((2, 0, r5.1, 0, r6.1, [], [], [], ()), r6.2)) else (if (r2.1 == [114, 101, 102, 117, 115, 101]) = true then ((numR r2.2.1).bind fun r7 => (nextS r7.2.1 true).bind fun r8 => some ((3, 0, r7.1, 0, z32, r8.1, [], [], ()), r8.2)) else (if (r2.1 == [116, 97, 107, 101]) = true then ((nextS r2.2.1 true).bind fun r9 => some ((8, 0, 0, 0, z32, [], r9.1, [], ()), r9.2)) else (if (r2.1 == [97, 114, 109]) = true then ((numR r2.2.1).bind fun r10 => some ((10, 0, 0, r10.1, z32, [], [], [], ()), r10.2)) else (if (r2.1 == [102, 97, 108, 108]) = true then ((numR r2.2.1).bind fun r11 => some ((11, 0, 0, r11.1, z32, [], [], [], ()), r11.2)) else (if (r2.1 == [99, 114, 97, 115, 104]) = true then ((numR r2.2.1).bind fun r12 => (fatesR r12.2.1).bind fun r13 => some ((12, 0, 0, r12.1, z32, [], [], r13.1, ()), r13.2)) else ((bareK r2.1).bind fun r15 => some ((r15, 0, 0, 0, z32, [], [], [], ()), r2.2))))))))
theorem step_r (rd : Rd) (hw : WdOk rd.1) : script_reader_step rd = some (stepR rd.1) := by
  unfold script_reader_step stepR
  rw [name_r rd hw, bind_eq]
  refine pb_some fun r2 h2 => ?_
  have w2 := (next_ok h2 hw).1
  refine ite_some (fun _ => ?_) (fun _ => ?_)
  · rw [number_r _ w2, bind_eq]; refine pb_some fun r3 h3 => ?_
    have w3 := num_ok h3 w2
    rw [hash_r _ w3, bind_eq]; exact pb_some fun r4 h4 => rfl
  refine ite_some (fun _ => ?_) (fun _ => ?_)
  · rw [number_r _ w2, bind_eq]; refine pb_some fun r3 h3 => ?_
    have w3 := num_ok h3 w2
    rw [hash_r _ w3, bind_eq]; exact pb_some fun r4 h4 => rfl
  refine ite_some (fun _ => ?_) (fun _ => ?_)
  · rw [number_r _ w2, bind_eq]; refine pb_some fun r3 h3 => ?_
    have w3 := num_ok h3 w2
    rw [quote_r _ w3, bind_eq]; exact pb_some fun r4 h4 => rfl
  refine ite_some (fun _ => ?_) (fun _ => ?_)
  · rw [quote_r _ w2, bind_eq]; exact pb_some fun r4 h4 => rfl
  refine ite_some (fun _ => ?_) (fun _ => ?_)
  · rw [number_r _ w2, bind_eq]; exact pb_some fun r4 h4 => rfl
  refine ite_some (fun _ => ?_) (fun _ => ?_)
  · rw [number_r _ w2, bind_eq]; exact pb_some fun r4 h4 => rfl
  refine ite_some (fun _ => ?_) (fun _ => ?_)
  · rw [number_r _ w2, bind_eq]; refine pb_some fun r3 h3 => ?_
    have w3 := num_ok h3 w2
    rw [fates_r _ w3, bind_eq]; exact pb_some fun r4 h4 => rfl
  · rw [bare_eq, bind_eq]; exact pb_some fun r4 h4 => rfl
noncomputable def cmdR (ws : List Wd) : Option (Cmd × Rd) := (nextS ws false).bind fun r2 => if (r2.1 == [119, 111, 114, 108, 100]) = true then ((numR r2.2.1).bind fun r4 => (numR r4.2.1).bind fun r5 => (numR r5.2.1).bind fun r6 => (numR r6.2.1).bind fun r7 => (hashR r7.2.1).bind fun r8 => (hashR r8.2.1).bind fun r9 => (hashR r9.2.1).bind fun r10 => (hashR r10.2.1).bind fun r11 => some ((1, (r4.1, r5.1, [r8.1, r9.1], [r10.1, r11.1], r6.1, r7.1, ()), (0, 0, zStep, ()), 0, 0, ()), r11.2)) else (if (r2.1 == [115, 116, 101, 112]) = true then ((numR r2.2.1).bind fun r12 => (stepR r12.2.1).bind fun r13 => some ((2, zWld, (1, r12.1, r13.1, ()), 0, 0, ()), r13.2)) else (if (r2.1 == [106, 111, 105, 110]) = true then (some ((2, zWld, (2, 0, zStep, ()), 0, 0, ()), r2.2)) else (if (r2.1 == [99, 117, 116]) = true then (some ((2, zWld, (3, 0, zStep, ()), 0, 0, ()), r2.2)) else (if (r2.1 == [100, 101, 108, 105, 118, 101, 114]) = true then ((numR r2.2.1).bind fun r14 => some ((2, zWld, (4, r14.1, zStep, ()), 0, 0, ()), r14.2)) else (if (r2.1 == [108, 111, 115, 101]) = true then ((numR r2.2.1).bind fun r15 => some ((2, zWld, (5, r15.1, zStep, ()), 0, 0, ()), r15.2)) else (if (r2.1 == [113, 117, 105, 101, 116]) = true then ((numR r2.2.1).bind fun r16 => some ((3, zWld, (0, 0, zStep, ()), r16.1, 0, ()), r16.2)) else (if (r2.1 == [106, 111, 105, 110, 101, 100]) = true then (some ((9, zWld, (0, 0, zStep, ()), 0, 0, ()), r2.2)) else ((askK r2.1).bind fun r17 => (numR r2.2.1).bind fun r18 => some ((r17, zWld, (0, 0, zStep, ()), 0, r18.1, ()), r18.2)))))))))
theorem cmd_r (rd : Rd) (hw : WdOk rd.1) : script_reader_command rd = some (cmdR rd.1) := by
  unfold script_reader_command cmdR
  rw [name_r rd hw, bind_eq]
  refine pb_some fun r2 h2 => ?_
  have w2 := (next_ok h2 hw).1
  refine ite_some (fun _ => ?_) (fun _ => ?_)
  · rw [number_r _ w2, bind_eq]; refine pb_some fun r4 h4 => ?_
    have w4 := num_ok h4 w2
    rw [number_r _ w4, bind_eq]; refine pb_some fun r5 h5 => ?_
    have w5 := num_ok h5 w4
    rw [count_r _ w5, bind_eq]; refine pb_some fun r6 h6 => ?_
    have w6 := num_ok h6 w5
    rw [count_r _ w6, bind_eq]; refine pb_some fun r7 h7 => ?_
    have w7 := num_ok h7 w6
    rw [hash_r _ w7, bind_eq]; refine pb_some fun r8 h8 => ?_
    have w8 := hash_ok h8 w7
    rw [hash_r _ w8, bind_eq]; refine pb_some fun r9 h9 => ?_
    have w9 := hash_ok h9 w8
    rw [if_pos ⟨by decide, by decide⟩, if_pos ⟨by decide, by decide⟩, hash_r _ w9, bind_eq]; refine pb_some fun r10 h10 => ?_
    have w10 := hash_ok h10 w9
    rw [hash_r _ w10, bind_eq]; refine pb_some fun r11 h11 => ?_
    rw [if_pos ⟨by decide, by decide⟩, if_pos ⟨by decide, by decide⟩]
    rfl
  refine ite_some (fun _ => ?_) (fun _ => ?_)
  · rw [count_r _ w2, bind_eq]; refine pb_some fun r3 h3 => ?_
    have w3 := num_ok h3 w2
    rw [step_r _ w3, bind_eq]; exact pb_some fun r4 h4 => rfl
  refine ite_some (fun _ => rfl) (fun _ => ?_)
  refine ite_some (fun _ => rfl) (fun _ => ?_)
  refine ite_some (fun _ => ?_) (fun _ => ?_)
  · rw [count_r _ w2, bind_eq]; exact pb_some fun r4 h4 => rfl
  refine ite_some (fun _ => ?_) (fun _ => ?_)
  · rw [count_r _ w2, bind_eq]; exact pb_some fun r4 h4 => rfl
  refine ite_some (fun _ => ?_) (fun _ => ?_)
  · rw [number_r _ w2, bind_eq]; exact pb_some fun r4 h4 => rfl
  refine ite_some (fun _ => rfl) (fun _ => ?_)
  rw [ask_eq, bind_eq]; refine pb_some fun r4 h4 => ?_
  rw [count_r _ w2, bind_eq]; exact pb_some fun r5 h5 => rfl

/-! ### the whole text -/
theorem wrds_ok : ∀ (n : Nat) (s : List Int), s.length ≤ n → byteOk s → ∀ ws, wrds s = some ws → ws ≠ [] ∧ ws.length ≤ s.length ∧ ∀ w ∈ ws, byteOk w.1 ∧ w.1.length ≤ s.length ∧ (w.2.1 = false → w.1 ≠ []) := by
  intro n
  induction n with
  | zero =>
    intro s hl hs ws h
    obtain rfl := List.length_eq_zero_iff.1 (Nat.le_zero.1 hl)
    rw [wrds_eq hs] at h
    simp [word1] at h
  | succ n ih =>
    intro s hl hs ws h
    rw [wrds_eq hs] at h
    cases hw : word1 s with
    | none => rw [hw] at h; cases h
    | some x =>
      obtain ⟨w, r⟩ := x
      rw [hw] at h
      obtain ⟨p, rfl, hp, hr, hb, hwl, hne⟩ := word1_rest hs hw
      have hw0 : byteOk w.1 ∧ w.1.length ≤ (p ++ r).length ∧ (w.2.1 = false → w.1 ≠ []) := ⟨hb, by simp; omega, fun e => (hne e).1⟩
      cases r with
      | nil =>
        simp only [Option.some.injEq] at h
        subst h
        refine ⟨by simp, by simp; omega, fun x hx => ?_⟩
        obtain rfl := List.mem_singleton.1 hx
        exact hw0
      | cons c r =>
        simp only at h
        split at h
        · obtain ⟨ws', h1, rfl⟩ := Option.map_eq_some_iff.1 h
          obtain ⟨_, hr⟩ := byteOk_cons hr
          simp only [List.length_append, List.length_cons] at hl
          obtain ⟨_, g1, g2⟩ := ih r (by omega) hr ws' h1
          refine ⟨by simp, by simp; omega, fun x hx => ?_⟩
          rcases List.mem_cons.1 hx with rfl | hx
          · exact hw0
          · obtain ⟨q1, q2, q3⟩ := g2 x hx
            exact ⟨q1, by simp; omega, q3⟩
        · cases h
theorem wrds_WdOk {s : List Int} (hs : byteOk s) (hl : s.length < 4294967281) {ws : List Wd} (h : wrds s = some ws) : WdOk ws := by
  obtain ⟨_, h1, h2⟩ := wrds_ok _ s (Nat.le_refl _) hs ws h
  exact ⟨by omega, fun w hw => by obtain ⟨a, b, c⟩ := h2 w hw; exact ⟨a, by omega, c⟩⟩

/-- what a line says -/
noncomputable def lineS (s : List Int) : Option Cmd := (wrds s).bind fun ws => (cmdR ws).bind fun p => if p.2.1 = [] then some p.1 else none
/-- a line that says nothing -/
def mute (s : List Int) : Prop := s = [] ∨ s.headD 0 = 35
instance (s : List Int) : Decidable (mute s) := by unfold mute; exact inferInstance
noncomputable def linesS : List (List Int) → Option (List Cmd)
  | [] => some []
  | s :: r => if mute s then linesS r else (lineS s).bind fun c => (linesS r).map fun l => c :: l
/-- the lines that count -/
def lnsE (t : List Int) : List (List Int) := if (lns t).getLastD [] = [] then (lns t).dropLast else lns t
def longS (t : List Int) : Bool := decide (65536 < t.length) || ((lnsE t).any fun x => decide (4096 < x.length)) || decide (1024 < (lnsE t).length)
noncomputable def parseS (t : List Int) : List Cmd × Int := if longS t then ([], 3) else match linesS (lns t) with | none => ([], 250) | some l => (l, 0)

theorem long_l0 (l : List (List Int)) (hl : l.length < 4294967296) (K : Unit → Option Bool) : ∀ (m i : Nat), i + m = l.length → script_long_l0 l K (m + 1) (i : Int) = if (l.drop i).any (fun x => decide (4096 < x.length)) then some true else K ()
  | 0, i, h => by
    unfold script_long_l0
    rw [if_neg (by simp; omega), List.drop_eq_nil_of_le (by omega)]; rfl
  | m + 1, i, h => by
    unfold script_long_l0
    rw [if_pos (by simp; omega), if_pos ⟨by omega, by omega⟩]
    simp only [bnd_eq, Int.toNat_natCast]
    have hi : i < l.length := by omega
    have e : l.drop i = l.getD i [] :: l.drop (i + 1) := by rw [List.drop_eq_getElem_cons hi]; simp [List.getD, hi]
    have w : IntKind.wrap .i64 ((i : Int) + 1) = ((i + 1 : Nat) : Int) := by rw [wrap_i64 (by omega) (by omega)]; omega
    rw [e, List.any_cons, w, long_l0 l hl K m (i + 1) (by omega)]
    generalize l.getD i [] = x
    by_cases h4 : 4096 < x.length
    · rw [if_pos (by simp; omega)]; simp [h4]
    · rw [if_neg (by simp; omega)]
      have : decide (4096 < x.length) = false := by simpa using h4
      rw [this, Bool.false_or]
theorem lns_len (t : List Int) : (lns t).length ≤ t.length + 1 := by
  induction t with
  | nil => simp [lns]
  | cons b l ih =>
    unfold lns
    split
    · simp; omega
    · split
      · simp
      · rename_i x r h
        rw [h] at ih
        simp only [List.length_cons] at ih ⊢; omega
theorem lns_parts {t : List Int} : ∀ x ∈ lns t, x.length ≤ t.length := by
  induction t with
  | nil => intro x hx; simp [lns] at hx; subst hx; simp
  | cons b l ih =>
    intro x hx
    unfold lns at hx
    split at hx
    · rcases List.mem_cons.1 hx with rfl | hx
      · simp
      · have := ih x hx; simp; omega
    · split at hx
      · simp at hx; subst hx; simp
      · rename_i y r hy
        rcases List.mem_cons.1 hx with rfl | hx
        · have := ih y (by rw [hy]; simp); simp; omega
        · have := ih x (by rw [hy]; simp [hx]); simp; omega
theorem long_eq {t : List Int} (ht : byteOk t) : script_long t = some (longS t) := by
  unfold script_long longS
  by_cases h : 65536 < t.length
  · rw [if_pos (by simp; omega)]; simp [h]
  · rw [if_neg (by simp; omega), split_eq t ht (by omega), bind_eq]
    simp only [bnd_eq]
    have hne := List.length_pos_iff.2 (lns_ne t)
    have hll := lns_len t
    have w : IntKind.wrap .i64 (((lns t).length : Int) - 1) = (((lns t).length - 1 : Nat) : Int) := by rw [wrap_i64 (by omega) (by omega)]; omega
    rw [w, if_pos ⟨by omega, by omega⟩, Int.toNat_natCast]
    have hd : decide (65536 < t.length) = false := by simpa using h
    rw [hd, Bool.false_or]
    have hlast : (lns t).getD ((lns t).length - 1) [] = (lns t).getLastD [] := by
      rw [List.getLastD_eq_getLast?, List.getLast?_eq_getElem?]; rfl
    rw [hlast]
    have fin : ∀ l : List (List Int), l.length ≤ t.length + 1 → script_long_l0 l (fun _ => some (decide ((l.length : Int) > 1024))) (Int.toNat ((l.length : Int) - 0) + 1) 0 = some ((l.any fun x => decide (4096 < x.length)) || decide (1024 < l.length)) := by
      intro l hl
      have := long_l0 l (by omega) (fun _ => some (decide ((l.length : Int) > 1024))) l.length 0 (by omega)
      have e : Int.toNat ((l.length : Int) - 0) + 1 = l.length + 1 := by omega
      rw [e, show (0 : Int) = ((0 : Nat) : Int) from rfl, this, List.drop_zero]
      by_cases ha : (l.any fun x => decide (4096 < x.length)) = true
      · rw [if_pos ha, ha]; rfl
      · rw [if_neg ha]
        have : (l.any fun x => decide (4096 < x.length)) = false := by simpa using ha
        rw [this, Bool.false_or]
        congr 1
        apply Bool.eq_iff_iff.2
        simp; omega
    unfold lnsE
    by_cases he : (lns t).getLastD [] = []
    · rw [if_pos (by simpa using he), if_pos he, if_pos ⟨by decide, by omega, by omega⟩]
      rw [List.drop_zero, ← List.dropLast_eq_take]
      exact fin _ (by simp; omega)
    · rw [if_neg (by simpa using he), if_neg he]
      exact fin _ hll

theorem parse_l0 (L : List (List Int)) (hL : L.length < 4294967296) (hb : ∀ s ∈ L, byteOk s ∧ s.length < 4294967281) : ∀ (m i : Nat) (acc : List Cmd), i + m = L.length → acc.length ≤ i →
    (script_Parse_in_l0 (fun o5 => some (some (o5, 0))) L (m + 1) ((i : Int), acc)).map (fun o => o.getD ([], 250)) = some (match linesS (L.drop i) with | none => ([], 250) | some l => (acc ++ l, 0))
  | 0, i, acc, h, ha => by
    unfold script_Parse_in_l0
    rw [if_neg (by simp; omega), List.drop_eq_nil_of_le (by omega)]
    simp [linesS]
  | m + 1, i, acc, h, ha => by
    unfold script_Parse_in_l0
    rw [if_pos (by simp; omega)]
    simp only [bnd_eq, Int.toNat_natCast]
    have hi : i < L.length := by omega
    rw [if_pos ⟨by omega, by omega⟩]
    have e : L.drop i = L.getD i [] :: L.drop (i + 1) := by rw [List.drop_eq_getElem_cons hi]; simp [List.getD, hi]
    have w : IntKind.wrap .i64 ((i : Int) + 1) = ((i + 1 : Nat) : Int) := by rw [wrap_i64 (by omega) (by omega)]; omega
    have hs := hb (L.getD i []) (by rw [show L.getD i [] = L[i] by simp [List.getD, hi]]; exact List.getElem_mem hi)
    rw [e, linesS, w]
    generalize L.getD i [] = s at hs
    have ih := fun acc h => parse_l0 L hL hb m (i + 1) acc (by omega) h
    by_cases hm : mute s
    · rw [if_pos hm]
      rcases hm with rfl | h35
      · simp only [beq_self_eq_true, if_true]
        exact ih acc (by omega)
      · cases s with
        | nil => simp at h35
        | cons c r =>
          simp only [List.headD_cons] at h35
          subst h35
          have e1 : ((35 :: r : List Int) == []) = false := rfl
          rw [e1]
          simp only [Bool.false_eq_true, if_false]
          rw [if_pos ⟨by decide, by simp only [List.length_cons]; omega⟩]
          simp only [List.getD_cons_zero, beq_self_eq_true, if_true]
          exact ih acc (by omega)
    · rw [if_neg hm]
      unfold mute at hm
      rw [not_or] at hm
      have e1 : (s == []) = false := by simpa using hm.1
      rw [e1]
      simp only [Bool.false_eq_true, if_false]
      have hpos := List.length_pos_iff.2 hm.1
      rw [if_pos ⟨by decide, by omega⟩]
      have e2 : (s.getD 0 0 == 35) = false := by
        cases s with
        | nil => simp at hpos
        | cons c r => simpa using hm.2
      rw [e2]
      simp only [Bool.false_eq_true, if_false]
      rw [words_eq hs.1 hs.2, bind_eq]
      unfold lineS
      cases hw : wrds s with
      | none => rfl
      | some ws =>
        have hok := wrds_WdOk hs.1 hs.2 hw
        simp only [pb, Option.bind_some]
        rw [cmd_r (ws, ()) hok, bind_eq]
        cases hc : cmdR ws with
        | none => rfl
        | some p =>
          obtain ⟨c, r⟩ := p
          simp only [pb, Option.bind_some]
          rw [if_pos (by simp only [List.length_cons, List.length_nil]; omega)]
          by_cases hr : r.1 = []
          · rw [if_neg (by rw [hr]; simp), if_pos hr]
            rw [ih (acc ++ [c]) (by simp; omega)]
            simp only [Option.bind_some]
            cases linesS (L.drop (i + 1)) with
            | none => rfl
            | some l => simp
          · have := List.length_pos_iff.2 hr
            rw [if_pos (by simp; omega), if_neg hr]; rfl
/-- Parse is what the definition says -/
theorem parse_eq {t : List Int} (ht : byteOk t) : script_Parse t = some (parseS t) := by
  unfold script_Parse script_Parse_in parseS
  rw [long_eq ht, bind_eq]
  by_cases h : longS t = true
  · rw [if_pos h, if_pos h]; rfl
  · rw [if_neg h, if_neg h]
    simp only [bnd_eq]
    have hlen : t.length ≤ 65536 := by
      unfold longS at h
      simp only [Bool.or_eq_true, not_or, decide_eq_true_eq] at h
      omega
    rw [split_eq t ht (by omega), bind_eq]
    have hll := lns_len t
    have := parse_l0 (lns t) (by omega) (fun s hs => ⟨lns_ok ht s hs, by have := lns_parts s hs; omega⟩) (lns t).length 0 [] (by omega) (by simp)
    have e : Int.toNat (((lns t).length : Int) - 0) + 1 = (lns t).length + 1 := by omega
    rw [e, show (0 : Int) = ((0 : Nat) : Int) from rfl] 
    rw [List.drop_zero] at this
    simp only [List.nil_append] at this
    exact this
end Sx
namespace Sx
open Go
example : itoaI 12 = [49, 50] := by decide +kernel
theorem head_true : escrowlaw25_head = some true := by kernel_rfl
end Sx
namespace Sx
open Go Go.RowKit

/-! ### texts of lines -/
def unl (L : List (List Int)) : List Int := L.flatMap fun s => s ++ [10]
theorem lns_front {p : List Int} (hp : ∀ c ∈ p, c ≠ 10) (r : List Int) : lns (p ++ 10 :: r) = p :: lns r := by
  induction p with
  | nil => rfl
  | cons c p ih =>
    rw [List.cons_append, lns, if_neg (hp c (by simp)), ih (fun x hx => hp x (by simp [hx]))]
theorem lns_unl (L : List (List Int)) (hL : ∀ s ∈ L, ∀ c ∈ s, c ≠ 10) (r : List Int) : lns (unl L ++ r) = L ++ lns r := by
  induction L with
  | nil => rfl
  | cons s L ih =>
    have e : unl (s :: L) ++ r = s ++ 10 :: (unl L ++ r) := by simp [unl]
    rw [e, lns_front (hL s (by simp)), ih (fun x hx => hL x (by simp [hx]))]; rfl
theorem lns_no10 : ∀ (t : List Int), ∀ s ∈ lns t, ∀ c ∈ s, c ≠ 10
  | [], s, hs, c, hc => by simp [lns] at hs; subst hs; cases hc
  | b :: l, s, hs, c, hc => by
    have ih := lns_no10 l
    unfold lns at hs
    split at hs
    · rcases List.mem_cons.1 hs with rfl | hs
      · cases hc
      · exact ih s hs c hc
    · rename_i hb
      split at hs
      · simp at hs; subst hs; simp at hc; subst hc; exact hb
      · rename_i x r hx
        rcases List.mem_cons.1 hs with rfl | hs
        · rcases List.mem_cons.1 hc with rfl | hc
          · exact hb
          · exact ih x (by rw [hx]; simp) c hc
        · exact ih s (by rw [hx]; simp [hs]) c hc
/-- a text is its lines -/
theorem text_eq : ∀ t : List Int, unl (lns t).dropLast ++ (lns t).getLastD [] = t
  | [] => rfl
  | b :: l => by
    have ih := text_eq l
    have hne := lns_ne l
    unfold lns
    by_cases hb : b = 10
    · subst hb
      rw [if_pos rfl]
      cases hL : lns l with
      | nil => exact absurd hL hne
      | cons x r =>
        rw [hL] at ih
        conv => rhs; rw [← ih]
        simp [unl]
    · rw [if_neg hb]
      cases hL : lns l with
      | nil => exact absurd hL hne
      | cons x r =>
        rw [hL] at ih
        conv => rhs; rw [← ih]
        cases r with
        | nil => simp [unl]
        | cons y r => simp [unl]
theorem linesS_mute (A B : List (List Int)) {s : List Int} (h : mute s) : linesS (A ++ s :: B) = linesS (A ++ B) := by
  induction A with
  | nil => rw [List.nil_append, linesS, if_pos h]; rfl
  | cons a A ih =>
    rw [List.cons_append, List.cons_append, linesS, linesS, ih]
theorem linesS_append (A B : List (List Int)) : linesS (A ++ B) = (linesS A).bind fun a => (linesS B).map fun b => a ++ b := by
  induction A with
  | nil => rw [List.nil_append]; simp only [linesS, Option.bind_some]; cases linesS B <;> simp
  | cons a A ih =>
    rw [List.cons_append, linesS, linesS, ih]
    by_cases h : mute a
    · rw [if_pos h, if_pos h]
    · rw [if_neg h, if_neg h]
      cases lineS a with
      | none => rfl
      | some c =>
        simp only [Option.bind_some]
        cases linesS A with
        | none => rfl
        | some x => simp only [Option.bind_some, Option.map_some]; cases linesS B <;> simp
theorem linesS_len : ∀ (A : List (List Int)) (l : List Cmd), linesS A = some l → l.length ≤ A.length
  | [], l, h => by simp [linesS] at h; subst h; simp
  | a :: A, l, h => by
    rw [linesS] at h
    split at h
    · have := linesS_len A l h; simp; omega
    · obtain ⟨c, _, h⟩ := Option.bind_eq_some_iff.1 h
      obtain ⟨x, h1, rfl⟩ := Option.map_eq_some_iff.1 h
      have := linesS_len A x h1; simp; omega

/-! ### few -/
def fewL : List Int → Nat → Nat → Option Nat
  | [], ln, _ => some ln
  | c :: r, ln, b => if c = 10 then fewL r (ln + 1) 0 else if 4000 < b + 1 then none else fewL r ln (b + 1)
theorem few_l0 (a : List Int) (hl : a.length ≤ 30000) (K : Int → Option Bool) : ∀ (m i ln b : Nat), i + m = a.length → ln ≤ i → b ≤ 4000 →
    escrowlaw25_few_l0 a K (m + 1) ((ln : Int), (b : Int), (i : Int)) = match fewL (a.drop i) ln b with | none => some false | some n => K (n : Int)
  | 0, i, ln, b, h, _, _ => by
    unfold escrowlaw25_few_l0
    rw [if_neg (by simp; omega), List.drop_eq_nil_of_le (by omega)]; rfl
  | m + 1, i, ln, b, h, h1, h2 => by
    unfold escrowlaw25_few_l0
    have hi : i < a.length := by omega
    rw [if_pos (by simp; omega)]
    simp only [bnd_eq, Int.toNat_natCast]
    rw [if_pos ⟨by omega, by omega⟩, drop_cons hi]
    have w1 : IntKind.wrap .i64 ((i : Int) + 1) = ((i + 1 : Nat) : Int) := by rw [wrap_i64 (by omega) (by omega)]; omega
    have w2 : IntKind.wrap .i64 ((b : Int) + 1) = ((b + 1 : Nat) : Int) := by rw [wrap_i64 (by omega) (by omega)]; omega
    have w3 : IntKind.wrap .i64 ((ln : Int) + 1) = ((ln + 1 : Nat) : Int) := by rw [wrap_i64 (by omega) (by omega)]; omega
    rw [w1, w2, w3, fewL]
    by_cases h10 : a.getD i 0 = 10
    · rw [if_pos (by simpa using h10), if_pos h10, if_neg (by simp)]
      have := few_l0 a hl K m (i + 1) (ln + 1) 0 (by omega) (by omega) (by omega)
      exact this
    · rw [if_neg (by simpa using h10), if_neg h10]
      by_cases h4 : 4000 < b + 1
      · rw [if_pos (by simp; omega), if_pos h4]
      · rw [if_neg (by simp; omega), if_neg h4]
        exact few_l0 a hl K m (i + 1) ln (b + 1) (by omega) (by omega) (by omega)
theorem fewL_spec : ∀ (t : List Int) (ln b n : Nat), fewL t ln b = some n → n + 1 = ln + (lns t).length ∧ (∀ x ∈ (lns t).tail, x.length ≤ 4000) ∧ (b ≤ 4000 → ((lns t).headD []).length + b ≤ 4000)
  | [], ln, b, n, h => by
    simp only [fewL, Option.some.injEq] at h
    subst h
    simp [lns]
  | c :: r, ln, b, n, h => by
    rw [fewL] at h
    unfold lns
    by_cases h10 : c = 10
    · rw [if_pos h10] at h ⊢
      obtain ⟨g1, g2, g3⟩ := fewL_spec r (ln + 1) 0 n h
      refine ⟨by simp only [List.length_cons]; omega, ?_, fun hb => by simpa using hb⟩
      intro x hx
      simp only [List.tail_cons] at hx
      have hne := lns_ne r
      cases hL : lns r with
      | nil => exact absurd hL hne
      | cons y q =>
        rw [hL] at hx g2 g3
        rcases List.mem_cons.1 hx with rfl | hx
        · have := g3 (by omega); simpa using this
        · exact g2 x hx
    · rw [if_neg h10] at h ⊢
      by_cases h4 : 4000 < b + 1
      · rw [if_pos h4] at h; cases h
      · rw [if_neg h4] at h
        obtain ⟨g1, g2, g3⟩ := fewL_spec r ln (b + 1) n h
        have hne := lns_ne r
        cases hL : lns r with
        | nil => exact absurd hL hne
        | cons y q =>
          rw [hL] at g1 g2 g3
          have := g3 (by omega)
          simp only [List.headD_cons] at this
          exact ⟨by simpa using g1, by simpa using g2, fun _ => by simp only [List.headD_cons, List.length_cons]; omega⟩
/-- few enough -/
def Few (t : List Int) : Prop := t.length ≤ 30000 ∧ (lns t).length ≤ 300 ∧ ∀ x ∈ lns t, x.length ≤ 4000
theorem few_eq (t : List Int) : ∃ b, escrowlaw25_few t = some b ∧ (b = true → Few t) := by
  unfold escrowlaw25_few
  by_cases h : (t.length : Int) > 30000
  · rw [if_pos (by simpa using h)]; exact ⟨false, rfl, fun h => by cases h⟩
  · rw [if_neg (by simpa using h)]
    simp only [bnd_eq]
    have e : Int.toNat ((t.length : Int) - 0) + 1 = t.length + 1 := by omega
    have := few_l0 t (by omega) (fun o2 => some (decide (o2 < 300))) t.length 0 0 0 (by omega) (by omega) (by omega)
    rw [e]
    rw [show (((0 : Nat) : Int), ((0 : Nat) : Int), ((0 : Nat) : Int)) = ((0 : Int), (0 : Int), (0 : Int)) from rfl] at this
    rw [this, List.drop_zero]
    cases hf : fewL t 0 0 with
    | none => exact ⟨false, rfl, fun h => by cases h⟩
    | some n =>
      refine ⟨_, rfl, fun hb => ?_⟩
      rw [decide_eq_true_eq] at hb
      obtain ⟨g1, g2, g3⟩ := fewL_spec t 0 0 n hf
      refine ⟨by omega, by omega, fun x hx => ?_⟩
      have hne := lns_ne t
      cases hL : lns t with
      | nil => exact absurd hL hne
      | cons y q =>
        rw [hL] at hx g2 g3
        rcases List.mem_cons.1 hx with rfl | hx
        · have := g3 (by omega); simpa using this
        · exact g2 x hx

/-! ### the same commands -/
theorem fates_refl (l : List Fate) (hl : l.length < 4294967296) (K : Unit → Option Bool) : ∀ (m i : Nat), i + m = l.length → escrowref25_SameFates_l0 l l K (m + 1) (i : Int) = K ()
  | 0, i, h => by
    unfold escrowref25_SameFates_l0
    rw [if_neg (by simp; omega)]
  | m + 1, i, h => by
    unfold escrowref25_SameFates_l0
    rw [if_pos (by simp; omega), if_pos ⟨by omega, by omega⟩, if_pos ⟨by omega, by omega⟩]
    rw [(eqD_iff (t := .pair .str (.pair (.int .i64) (.pair (.int .i64) (.pair .str .unit)))) rfl _ _).2 rfl, if_neg (by decide)]
    have w1 : IntKind.wrap .i64 ((i : Int) + 1) = ((i + 1 : Nat) : Int) := by rw [wrap_i64 (by omega) (by omega)]; omega
    rw [bnd_eq, w1]
    exact fates_refl l hl K m (i + 1) (by omega)
theorem sameFates_refl (l : List Fate) (hl : l.length < 4294967296) : escrowref25_SameFates l l = some true := by
  unfold escrowref25_SameFates
  rw [if_neg (by simp)]
  simp only [bnd_eq]
  have e : Int.toNat ((l.length : Int) - 0) + 1 = l.length + 1 := by omega
  rw [e, show (0 : Int) = ((0 : Nat) : Int) from rfl, fates_refl l hl _ l.length 0 (by omega)]
theorem same_l0 (l : List Cmd) (hl : l.length < 4294967296) (hf : ∀ c ∈ l, c.2.2.1.2.2.1.2.2.2.2.2.2.2.1.length < 4294967296) (K : Unit → Option Bool) : ∀ (m i : Nat), i + m = l.length → escrowlaw25_same_l0 l l K (m + 1) (i : Int) = K ()
  | 0, i, h => by
    unfold escrowlaw25_same_l0
    rw [if_neg (by simp; omega)]
  | m + 1, i, h => by
    unfold escrowlaw25_same_l0
    have hi : i < l.length := by omega
    rw [if_pos (by simp; omega), if_pos ⟨by omega, by omega⟩, if_pos ⟨by omega, by omega⟩]
    have hc : (l.getD i (0, zWld, (0, 0, zStep, ()), 0, 0, ())).2.2.1.2.2.1.2.2.2.2.2.2.2.1.length < 4294967296 := hf _ (by rw [show l.getD i (0, zWld, (0, 0, zStep, ()), 0, 0, ()) = l[i] by simp [List.getD, hi]]; exact List.getElem_mem hi)
    have w1 : IntKind.wrap .i64 ((i : Int) + 1) = ((i + 1 : Nat) : Int) := by rw [wrap_i64 (by omega) (by omega)]; omega
    simp only [Int.toNat_natCast]
    generalize (l.getD i _ : Cmd) = c at hc ⊢
    have e1 : eqD (.pair (.int .i64) (.pair (.int .i64) (.pair (.arr 2 (.arr 32 (.int .u8))) (.pair (.arr 2 (.arr 32 (.int .u8))) (.pair (.int .i64) (.pair (.int .i64) .unit)))))) c.2.1 c.2.1 = true := (eqD_iff rfl _ _).2 rfl
    have e2 : eqD (.arr 32 (.int .u8)) c.2.2.1.2.2.1.2.2.2.2.1 c.2.2.1.2.2.1.2.2.2.2.1 = true := (eqD_iff rfl _ _).2 rfl
    simp (decide := true) only [bnd_eq, bne_self_eq_false, e1, e2, Bool.not_true, Bool.or_false, Bool.false_eq_true, if_false, sameFates_refl _ hc, bind_eq, w1]
    exact same_l0 l hl hf K m (i + 1) (by omega)
def FtOk (l : List Cmd) : Prop := l.length < 4294967296 ∧ ∀ c ∈ l, c.2.2.1.2.2.1.2.2.2.2.2.2.2.1.length < 4294967296
theorem same_refl {l : List Cmd} (h : FtOk l) : escrowlaw25_same l l = some true := by
  unfold escrowlaw25_same
  rw [if_neg (by simp)]
  simp only [bnd_eq]
  have e : Int.toNat ((l.length : Int) - 0) + 1 = l.length + 1 := by omega
  rw [e, show (0 : Int) = ((0 : Nat) : Int) from rfl, same_l0 l h.1 h.2 _ l.length 0 (by omega)]
end Sx
namespace Sx
open Go Go.RowKit

theorem next_len {ws : List Wd} {q : Bool} {t : List Int} {r : Rd} (h : nextS ws q = some (t, r)) : r.1.length < ws.length := by
  cases ws with
  | nil => cases h
  | cons w ws =>
    unfold nextS at h
    simp only at h
    split at h
    · simp only [Option.some.injEq, Prod.mk.injEq] at h
      obtain ⟨_, rfl⟩ := h
      simp
    · cases h
theorem num_len {ws : List Wd} {n : Int} {r : Rd} (h : numR ws = some (n, r)) : r.1.length < ws.length := by
  unfold numR at h
  obtain ⟨⟨t, r2⟩, h1, h2⟩ := Option.bind_eq_some_iff.1 h
  obtain ⟨m, _, h3⟩ := Option.map_eq_some_iff.1 h2
  simp only [Prod.mk.injEq] at h3
  obtain ⟨_, rfl⟩ := h3
  exact next_len h1
theorem fate_len {ws : List Wd} {f : Fate} {r : Rd} (h : fateR ws = some (f, r)) : r.1.length < ws.length := by
  unfold fateR at h
  obtain ⟨⟨t, r1⟩, h1, h⟩ := Option.bind_eq_some_iff.1 h
  obtain ⟨k, _, h⟩ := Option.bind_eq_some_iff.1 h
  obtain ⟨⟨f1, r2⟩, h2, h⟩ := Option.bind_eq_some_iff.1 h
  obtain ⟨⟨s1, r3⟩, h3, h⟩ := Option.bind_eq_some_iff.1 h
  have a1 := next_len h1
  have a2 := next_len h2
  have a3 := num_len h3
  simp only at a2 a3 h
  split at h
  · obtain ⟨⟨b, r5⟩, h4, h⟩ := Option.bind_eq_some_iff.1 h
    simp only [Option.some.injEq, Prod.mk.injEq] at h
    obtain ⟨_, rfl⟩ := h
    have a4 := next_len h4
    omega
  · simp only [Option.some.injEq, Prod.mk.injEq] at h
    obtain ⟨_, rfl⟩ := h
    omega
theorem fatesF_len : ∀ (m : Nat) (ws : List Wd) (l : List Fate), fatesF m ws = some l → l.length ≤ ws.length
  | 0, _, _, h => by cases h
  | m + 1, [], l, h => by simp [fatesF] at h; subst h; simp
  | m + 1, w :: ws, l, h => by
    have e : fatesF (m + 1) (w :: ws) = (fateR (w :: ws)).bind fun p => (fatesF m p.2.1).map fun l => p.1 :: l := rfl
    rw [e] at h
    obtain ⟨⟨f, r⟩, h1, h⟩ := Option.bind_eq_some_iff.1 h
    obtain ⟨x, h2, rfl⟩ := Option.map_eq_some_iff.1 h
    have := fate_len h1
    have := fatesF_len m _ x h2
    simp only [List.length_cons] at *; omega
theorem step_fates {ws : List Wd} {p : Step × Rd} (h : stepR ws = some p) : p.1.2.2.2.2.2.2.2.1.length ≤ ws.length := by
  unfold stepR at h
  obtain ⟨⟨t, r⟩, h2, h⟩ := Option.bind_eq_some_iff.1 h
  have a2 := next_len h2
  simp only at h
  split at h
  · obtain ⟨x, _, h⟩ := Option.bind_eq_some_iff.1 h
    obtain ⟨y, _, h⟩ := Option.bind_eq_some_iff.1 h
    cases h; simp
  split at h
  · obtain ⟨x, _, h⟩ := Option.bind_eq_some_iff.1 h
    obtain ⟨y, _, h⟩ := Option.bind_eq_some_iff.1 h
    cases h; simp
  split at h
  · obtain ⟨x, _, h⟩ := Option.bind_eq_some_iff.1 h
    obtain ⟨y, _, h⟩ := Option.bind_eq_some_iff.1 h
    cases h; simp
  split at h
  · obtain ⟨x, _, h⟩ := Option.bind_eq_some_iff.1 h
    cases h; simp
  split at h
  · obtain ⟨x, _, h⟩ := Option.bind_eq_some_iff.1 h
    cases h; simp
  split at h
  · obtain ⟨x, _, h⟩ := Option.bind_eq_some_iff.1 h
    cases h; simp
  split at h
  · obtain ⟨⟨n, r2⟩, h3, h⟩ := Option.bind_eq_some_iff.1 h
    have a3 := num_len h3
    obtain ⟨y, h4, h⟩ := Option.bind_eq_some_iff.1 h
    unfold fatesR at h4
    obtain ⟨l, h5, rfl⟩ := Option.map_eq_some_iff.1 h4
    have a5 := fatesF_len _ _ _ h5
    cases h
    simp only at *; omega
  · obtain ⟨x, _, h⟩ := Option.bind_eq_some_iff.1 h
    cases h; simp
theorem cmd_fates {ws : List Wd} {p : Cmd × Rd} (h : cmdR ws = some p) : p.1.2.2.1.2.2.1.2.2.2.2.2.2.2.1.length ≤ ws.length := by
  unfold cmdR at h
  obtain ⟨⟨t, r⟩, h2, h⟩ := Option.bind_eq_some_iff.1 h
  have a2 := next_len h2
  simp only at h
  split at h
  · obtain ⟨x1, _, h⟩ := Option.bind_eq_some_iff.1 h
    obtain ⟨x2, _, h⟩ := Option.bind_eq_some_iff.1 h
    obtain ⟨x3, _, h⟩ := Option.bind_eq_some_iff.1 h
    obtain ⟨x4, _, h⟩ := Option.bind_eq_some_iff.1 h
    obtain ⟨x5, _, h⟩ := Option.bind_eq_some_iff.1 h
    obtain ⟨x6, _, h⟩ := Option.bind_eq_some_iff.1 h
    obtain ⟨x7, _, h⟩ := Option.bind_eq_some_iff.1 h
    obtain ⟨x8, _, h⟩ := Option.bind_eq_some_iff.1 h
    cases h; simp
  split at h
  · obtain ⟨⟨n, r2⟩, h3, h⟩ := Option.bind_eq_some_iff.1 h
    have a3 := num_len h3
    obtain ⟨y, h4, h⟩ := Option.bind_eq_some_iff.1 h
    have a4 := step_fates h4
    cases h
    simp only at *; omega
  split at h
  · cases h; simp
  split at h
  · cases h; simp
  split at h
  · obtain ⟨x, _, h⟩ := Option.bind_eq_some_iff.1 h
    cases h; simp
  split at h
  · obtain ⟨x, _, h⟩ := Option.bind_eq_some_iff.1 h
    cases h; simp
  split at h
  · obtain ⟨x, _, h⟩ := Option.bind_eq_some_iff.1 h
    cases h; simp
  split at h
  · cases h; simp
  · obtain ⟨x, _, h⟩ := Option.bind_eq_some_iff.1 h
    obtain ⟨y, _, h⟩ := Option.bind_eq_some_iff.1 h
    cases h; simp
theorem lines_fates {B : Nat} : ∀ (A : List (List Int)) (l : List Cmd), (∀ s ∈ A, byteOk s ∧ s.length ≤ B) → linesS A = some l → ∀ c ∈ l, c.2.2.1.2.2.1.2.2.2.2.2.2.2.1.length ≤ B
  | [], l, _, h => by simp [linesS] at h; subst h; intro c hc; cases hc
  | a :: A, l, hA, h => by
    have ih := fun l h => lines_fates A l (fun s hs => hA s (by simp [hs])) h
    rw [linesS] at h
    split at h
    · exact ih l h
    · obtain ⟨c, h1, h⟩ := Option.bind_eq_some_iff.1 h
      obtain ⟨x, h2, rfl⟩ := Option.map_eq_some_iff.1 h
      intro d hd
      rcases List.mem_cons.1 hd with rfl | hd
      · unfold lineS at h1
        obtain ⟨ws, g1, h1⟩ := Option.bind_eq_some_iff.1 h1
        obtain ⟨p, g2, h1⟩ := Option.bind_eq_some_iff.1 h1
        split at h1
        · cases h1
          obtain ⟨b1, b2⟩ := hA a (by simp)
          have := (wrds_ok _ a (Nat.le_refl _) b1 ws g1).2.1
          have := cmd_fates g2
          omega
        · cases h1
      · exact ih x h2 d hd

/-! ### the text with remarks -/
theorem ended_eq (t : List Int) (hl : t.length ≤ 30000) : ∃ L : List (List Int), escrowlaw25_ended t = some (unl L) ∧ (∀ s ∈ L, ∀ c ∈ s, c ≠ 10) ∧ (L = lns t ∨ lns t = L ++ [[]]) ∧ (unl L = t ∨ unl L = t ++ [10]) := by
  have ht := text_eq t
  have hno := lns_no10 t
  have hne := lns_ne t
  unfold escrowlaw25_ended
  simp only [bnd_eq]
  cases t with
  | nil => exact ⟨[], rfl, by simp, .inr rfl, .inl rfl⟩
  | cons a r =>
    generalize hT : a :: r = T at *
    have hTne : T ≠ [] := by rw [← hT]; simp
    have hpos := List.length_pos_iff.2 hTne
    have e1 : (T == []) = false := by simpa using hTne
    have w : IntKind.wrap .i64 ((T.length : Int) - 1) = ((T.length - 1 : Nat) : Int) := by rw [wrap_i64 (by omega) (by omega)]; omega
    rw [e1, if_neg (by decide), w, if_pos ⟨by omega, by omega⟩, Int.toNat_natCast]
    have hlast : T.getD (T.length - 1) 0 = T.getLastD 0 := by rw [List.getLastD_eq_getLast?, List.getLast?_eq_getElem?]; rfl
    rw [hlast]
    have hd : lns T = (lns T).dropLast ++ [(lns T).getLastD []] := by
      conv => lhs; rw [← List.dropLast_concat_getLast hne]
      rw [List.getLastD_eq_getLast?, List.getLast?_eq_some_getLast hne]; rfl
    have hD : ∀ s ∈ (lns T).dropLast, ∀ c ∈ s, c ≠ 10 := fun s hs => hno s ((List.dropLast_sublist _).subset hs)
    have hE : ∀ c ∈ (lns T).getLastD [], c ≠ 10 := hno _ (by rw [hd]; simp)
    by_cases he : (lns T).getLastD [] = []
    · rw [he, List.append_nil] at ht
      have h10 : T.getLastD 0 = 10 := by
        rw [← ht]
        cases hq : (lns T).dropLast.reverse with
        | nil =>
          have : (lns T).dropLast = [] := by simpa using hq
          rw [this] at ht; exact absurd ht.symm hTne
        | cons x y =>
          have : (lns T).dropLast = y.reverse ++ [x] := by rw [← List.reverse_reverse (lns T).dropLast, hq]; simp
          rw [this]
          simp [unl]
      rw [h10, if_pos (by decide)]
      refine ⟨(lns T).dropLast, by rw [ht], hD, .inr ?_, .inl ht⟩
      rw [he] at hd; exact hd
    · have h10 : T.getLastD 0 ≠ 10 := by
        rw [← ht]
        obtain ⟨p, c, hp⟩ : ∃ p c, (lns T).getLastD [] = p ++ [c] := ⟨_, _, (List.dropLast_concat_getLast he).symm⟩
        rw [hp] at hE ⊢
        rw [← List.append_assoc]
        simp only [List.getLastD_concat]
        exact hE c (by simp)
      rw [if_neg (by simpa using h10), if_pos (by simp only [most, List.length_cons, List.length_nil]; omega)]
      have hu : unl (lns T) = T ++ [10] := by
        conv => lhs; rw [hd]
        conv => rhs; rw [← ht]
        simp [unl]
      exact ⟨lns T, by rw [hu], hno, .inl rfl, .inr hu⟩
end Sx
namespace Sx
open Go Go.RowKit

theorem bnd_of {α β : Type} {a : α} {f : α → β} {r : β} (p : α → Prop) (ha : p a) (hf : ∀ x, p x → f x = r) : bnd a f = r := hf a ha
theorem lines_l1 (a : List Int) (hl : a.length ≤ 20) (K : Unit → Option Bool) : ∀ (m i : Nat), i + m = a.length → escrowlaw25_ScriptLines_l1 a K (m + 1) (i : Int) = if (a.drop i).any (fun c => c == 10) then some true else K ()
  | 0, i, h => by
    unfold escrowlaw25_ScriptLines_l1
    rw [if_neg (by simp; omega), List.drop_eq_nil_of_le (by omega)]; rfl
  | m + 1, i, h => by
    unfold escrowlaw25_ScriptLines_l1
    have hi : i < a.length := by omega
    have w1 : IntKind.wrap .i64 ((i : Int) + 1) = ((i + 1 : Nat) : Int) := by rw [wrap_i64 (by omega) (by omega)]; omega
    rw [if_pos (by simp; omega), if_pos ⟨by omega, by omega⟩, Int.toNat_natCast, drop_cons hi, bnd_eq, w1, List.any_cons]
    by_cases h10 : a.getD i 0 = 10
    · have h2 : (a.getD i 0 == 10) = true := by simpa using h10
      rw [if_pos h2, h2, Bool.true_or, if_pos rfl]
    · rw [if_neg (by simpa using h10), lines_l1 a hl K m (i + 1) (by omega)]
      have : (a.getD i 0 == 10) = false := by simpa using h10
      rw [this, Bool.false_or]

/-- with remarks ahead of each line -/
def remk (a : List Int) (L : List (List Int)) : List Int := L.flatMap fun s => 10 :: 35 :: (a ++ 10 :: (s ++ [10]))
theorem lns_remk (a : List Int) (ha : ∀ c ∈ a, c ≠ 10) (L : List (List Int)) (hL : ∀ s ∈ L, ∀ c ∈ s, c ≠ 10) : lns (remk a L) = (L.flatMap fun s => [[], 35 :: a, s]) ++ [[]] := by
  induction L with
  | nil => rfl
  | cons s L ih =>
    have e : remk a (s :: L) = 10 :: ((35 :: a) ++ 10 :: (s ++ 10 :: remk a L)) := by simp [remk]
    rw [e, lns, if_pos rfl, lns_front (p := 35 :: a) (fun c hc => by
      rcases List.mem_cons.1 hc with rfl | hc
      · decide
      · exact ha c hc), lns_front (hL s (by simp)), ih (fun x hx => hL x (by simp [hx]))]
    simp
theorem linesS_remk (a : List Int) (L : List (List Int)) : linesS ((L.flatMap fun s => [[], 35 :: a, s]) ++ [[]]) = linesS L := by
  induction L with
  | nil => rfl
  | cons s L ih =>
    rw [List.flatMap_cons]
    simp only [List.cons_append, List.nil_append]
    rw [linesS, if_pos (.inl rfl), linesS, if_pos (.inr rfl), linesS, linesS, ih]
/-- the loop: what of the text is before it, what of the line stands already -/
theorem lines_l0 (a : List Int) (hla : a.length ≤ 20) (T : List Int) (hT : T.length ≤ 30001) (K : List Int → Option Bool) : ∀ (m i f : Nat) (x : List Int), i + m = T.length → f ≤ i → (∀ c ∈ (T.drop f).take (i - f), c ≠ 10) → x.length ≤ 25 * f →
    ∀ (L : List (List Int)), (∀ s ∈ L, ∀ c ∈ s, c ≠ 10) → T.drop f = unl L → escrowlaw25_ScriptLines_l0 a T K (m + 1) (x, (f : Int), (i : Int)) = K (x ++ remk a L)
  | 0, i, f, x, h, hf, hno, hx, L, hL, hu => by
    unfold escrowlaw25_ScriptLines_l0
    rw [if_neg (by simp; omega)]
    have : L = [] := by
      cases L with
      | nil => rfl
      | cons s L =>
        have e : i = T.length := by omega
        have hh := hno 10 (by
          rw [e, hu, List.take_of_length_le (by rw [← hu, List.length_drop]; omega)]
          simp [unl])
        exact absurd rfl hh
    subst this
    simp [remk]
  | m + 1, i, f, x, h, hf, hno, hx, L, hL, hu => by
    unfold escrowlaw25_ScriptLines_l0
    have hi : i < T.length := by omega
    have w1 : IntKind.wrap .i64 ((i : Int) + 1) = ((i + 1 : Nat) : Int) := by rw [wrap_i64 (by omega) (by omega)]; omega
    rw [if_pos (by simp; omega)]
    simp only [bnd_eq, Int.toNat_natCast, w1]
    rw [if_pos ⟨by omega, by omega⟩]
    by_cases h10 : T.getD i 0 = 10
    · rw [if_pos (by simpa using h10)]
      have h1 : List.length x + 2 ≤ most := by simp only [most]; omega
      rw [if_pos (by exact h1), if_pos (by simp only [most, List.length_append, List.length_cons, List.length_nil]; omega), if_pos (by simp only [most, List.length_append, List.length_cons, List.length_nil]; omega), if_pos ⟨by omega, by omega, by omega⟩, if_pos (by simp only [most, List.length_append, List.length_cons, List.length_nil, List.length_drop, List.length_take]; omega)]
      -- the line is whole
      obtain ⟨s, L', rfl, hs, hu'⟩ : ∃ s L', L = s :: L' ∧ (T.drop f).take (i - f) = s ∧ T.drop (i + 1) = unl L' := by
        have hsplit : T.drop f = (T.drop f).take (i - f) ++ 10 :: T.drop (i + 1) := by
          conv => lhs; rw [← List.take_append_drop (i - f) (T.drop f)]
          rw [List.drop_drop, show f + (i - f) = i by omega, drop_cons hi, h10]
        cases L with
        | nil => rw [hu] at hsplit; simp [unl] at hsplit
        | cons s L' =>
          have e : unl (s :: L') = s ++ 10 :: unl L' := by simp [unl]
          have key : lns (T.drop f) = (T.drop f).take (i - f) :: lns (T.drop (i + 1)) := by
            conv => lhs; rw [hsplit]
            exact lns_front hno _
          have key2 : lns (T.drop f) = s :: lns (unl L') := by rw [hu, e]; exact lns_front (hL s (by simp)) _
          rw [key] at key2
          simp only [List.cons.injEq] at key2
          refine ⟨s, L', rfl, key2.1, ?_⟩
          rw [key2.1, hu, e] at hsplit
          have := List.append_cancel_left hsplit
          simp only [List.cons.injEq, true_and] at this
          exact this.symm
      have hpiece : List.drop f (List.take (i + 1) T) = s ++ [10] := by
        rw [List.drop_take, show i + 1 - f = (i - f) + 1 by omega, List.take_add_one, hs, List.getElem?_drop, show f + (i - f) = i by omega]
        have : T[i]? = some 10 := by rw [← h10]; simp [List.getD, hi]
        rw [this]; rfl
      rw [hpiece]
      have hlen : s.length = i - f := by rw [← hs]; simp; omega
      rw [lines_l0 a hla T hT K m (i + 1) (i + 1) _ (by omega) (by omega) (by simp) ?_ L' (fun y hy => hL y (by simp [hy])) hu']
      · congr 1
        simp [remk]
      · simp only [List.length_append, List.length_cons, List.length_nil]; omega
    · rw [if_neg (by simpa using h10)]
      refine lines_l0 a hla T hT K m (i + 1) f x (by omega) (by omega) ?_ hx L hL hu
      intro c hc
      rw [show i + 1 - f = (i - f) + 1 by omega, List.take_add_one, List.getElem?_drop, show f + (i - f) = i by omega] at hc
      rcases List.mem_append.1 hc with hc | hc
      · exact hno c hc
      · have : T[i]? = some (T.getD i 0) := by simp [List.getD, hi]
        rw [this] at hc
        simp at hc
        subst hc
        simpa [List.getD, hi] using h10

/-! ### the law -/
theorem parse_few {t : List Int} (hs : t.length ≤ 65536) (hL : (lns t).length ≤ 1024) (hw : ∀ x ∈ lns t, x.length ≤ 4096) : parseS t = match linesS (lns t) with | none => ([], 250) | some l => (l, 0) := by
  have : longS t = false := by
    unfold longS
    have e1 : decide (65536 < t.length) = false := by rw [decide_eq_false_iff_not]; omega
    have hsub : ∀ x ∈ lnsE t, x ∈ lns t := by
      unfold lnsE; split
      · exact fun x hx => (List.dropLast_sublist _).subset hx
      · exact fun x hx => hx
    have hlen : (lnsE t).length ≤ (lns t).length := by
      unfold lnsE; split
      · simp
      · exact Nat.le_refl _
    have e2 : ((lnsE t).any fun x => decide (4096 < x.length)) = false := by
      rw [List.any_eq_false]
      intro x hx
      have := hw x (hsub x hx)
      simp; omega
    have e3 : decide (1024 < (lnsE t).length) = false := by rw [decide_eq_false_iff_not]; omega
    rw [e1, e2, e3]; rfl
  unfold parseS
  rw [this]; rfl
theorem escrowlaw25_ScriptLines_true (a0 a1 a2 : List Int) (h0 : byteOk a0 ∧ List.length a0 ≤ 140737488351232) (h1 : byteOk a1 ∧ List.length a1 ≤ 140737488351232) (h2 : byteOk a2 ∧ List.length a2 ≤ 140737488351232) : escrowlaw25_ScriptLines a0 a1 a2 = some true := by
  unfold escrowlaw25_ScriptLines
  rw [head_true, bind_eq, if_neg (by decide)]
  obtain ⟨f0, hf0, F0⟩ := few_eq a0
  obtain ⟨f1, hf1, F1⟩ := few_eq a1
  rw [hf0, bind_eq, hf1]
  simp only [bind_eq]
  refine bnd_of (· = !f0) rfl (fun b3 e => ?_); subst e
  refine bnd_of (fun k => k true = some true ∧ (f0 = true → f1 = true → k false = some true)) ⟨by simp, fun e0 e1 => ?_⟩ (fun k4 hk => ?_)
  · have F0 := F0 e0
    have F1 := F1 e1
    clear hf0 hf1
    by_cases h20 : (List.length a2 : Int) > 20
    · rw [if_pos (by simpa using h20)]
    rw [if_neg (by simpa using h20)]
    have hz : Int.toNat ((a2.length : Int) - 0) + 1 = a2.length + 1 := by omega
    refine bnd_of (fun k => (∀ c ∈ a2, c ≠ 10) → k () = some true) (fun hr => ?_) (fun k8 hk => ?_)
    · obtain ⟨L, hE, hLn, hLl, hLt⟩ := ended_eq a0 F0.1
      have hTl : (unl L).length ≤ 30001 := by
        have := F0.1
        rcases hLt with h | h <;> rw [h] <;> (try simp only [List.length_append, List.length_cons, List.length_nil]) <;> omega
      have hTb : byteOk (unl L) := by
        rcases hLt with h | h <;> rw [h]
        · exact h0.1
        · exact byteOk_append h0.1 (by unfold byteOk; decide)
      have hL1 : L.length ≤ 300 := by
        have := F0.2.1
        rcases hLl with h | h
        · rw [h]; exact this
        · rw [h] at this; simp only [List.length_append, List.length_cons, List.length_nil] at this; omega
      have hLm : ∀ x ∈ L, x ∈ lns a0 := by
        rcases hLl with h | h
        · rw [h]; exact fun x hx => hx
        · rw [h]; exact fun x hx => List.mem_append_left _ hx
      have hL2 : ∀ x ∈ L, x.length ≤ 4000 := fun x hx => F0.2.2 x (hLm x hx)
      have hLb : ∀ x ∈ L, byteOk x ∧ x.length ≤ 4000 := fun x hx => ⟨lns_ok h0.1 x (hLm x hx), hL2 x hx⟩
      have hlT : lns (unl L) = L ++ [[]] := by
        have := lns_unl L hLn []
        rwa [List.append_nil] at this
      have hm0 : linesS (L ++ [[]]) = linesS L := by
        have := linesS_mute L [] (s := []) (.inl rfl)
        rwa [List.append_nil] at this
      have hP0 : linesS (lns a0) = linesS L := by
        rcases hLl with h | h
        · rw [h]
        · rw [h, hm0]
      have q0 : script_Parse a0 = some (match linesS L with | none => ([], 250) | some l => (l, 0)) := by
        rw [parse_eq h0.1, parse_few (by have := F0.1; omega) (by have := F0.2.1; omega) (fun x hx => by have := F0.2.2 x hx; omega), hP0]
      have qT : script_Parse (unl L) = some (match linesS L with | none => ([], 250) | some l => (l, 0)) := by
        rw [parse_eq hTb, parse_few (by omega) (by rw [hlT]; simp only [List.length_append, List.length_cons, List.length_nil]; omega) (fun x hx => by
          rw [hlT] at hx
          rcases List.mem_append.1 hx with hx | hx
          · have := hL2 x hx; omega
          · simp at hx; subst hx; simp), hlT, hm0]
      have qR : (remk a2 L).length ≤ 60000 → script_Parse (remk a2 L) = some (match linesS L with | none => ([], 250) | some l => (l, 0)) := by
        intro hl
        have hb : byteOk (remk a2 L) := by
          intro c hc
          obtain ⟨s, hs, hc⟩ := List.mem_flatMap.1 hc
          simp only [List.mem_cons, List.mem_append, List.not_mem_nil, or_false] at hc
          rcases hc with rfl | rfl | hc | rfl | hc | rfl
          · decide
          · decide
          · exact h2.1 c hc
          · decide
          · exact (hLb s hs).1 c hc
          · decide
        have hlr := lns_remk a2 hr L hLn
        have hlen : ∀ L : List (List Int), (L.flatMap fun s => [[], 35 :: a2, s]).length = 3 * L.length := by
          intro L
          induction L with
          | nil => rfl
          | cons s L ih => rw [List.flatMap_cons, List.length_append, ih]; simp only [List.length_cons, List.length_nil]; omega
        rw [parse_eq hb, parse_few (by omega) (by rw [hlr, List.length_append, hlen]; simp only [List.length_cons, List.length_nil]; omega) (fun x hx => by
          rw [hlr] at hx
          rcases List.mem_append.1 hx with hx | hx
          · obtain ⟨s, hs, hx⟩ := List.mem_flatMap.1 hx
            simp only [List.mem_cons, List.not_mem_nil, or_false] at hx
            rcases hx with rfl | rfl | rfl
            · simp
            · simp only [List.length_cons]; omega
            · have := hL2 x hs; omega
          · simp at hx; subst hx; simp), hlr, linesS_remk]
      have q1 : script_Parse a1 = some (match linesS (lns a1) with | none => ([], 250) | some l => (l, 0)) := by
        rw [parse_eq h1.1, parse_few (by have := F1.1; omega) (by have := F1.2.1; omega) (fun x hx => by have := F1.2.2 x hx; omega)]
      have qB : script_Parse (unl L ++ a1) = some (match linesS L, linesS (lns a1) with | some l, some k => (l ++ k, 0) | _, _ => ([], 250)) := by
        have hl := lns_unl L hLn a1
        rw [parse_eq (byteOk_append hTb h1.1), parse_few (by have := F1.1; simp only [List.length_append]; omega) (by have := F1.2.1; rw [hl]; simp only [List.length_append]; omega) (fun x hx => by
          rw [hl] at hx
          rcases List.mem_append.1 hx with hx | hx
          · have := hL2 x hx; omega
          · have := F1.2.2 x hx; omega), hl, linesS_append]
        cases linesS L with
        | none => rfl
        | some l => cases linesS (lns a1) <;> rfl
      rw [q0, bind_eq, hE, bind_eq, qT, bind_eq]
      have ft1 : ∀ l, linesS (lns a1) = some l → l.length ≤ 300 ∧ ∀ c ∈ l, c.2.2.1.2.2.1.2.2.2.2.2.2.2.1.length ≤ 4000 := fun l h => ⟨by have := linesS_len _ l h; have := F1.2.1; omega, lines_fates (lns a1) l (fun s hs => ⟨lns_ok h1.1 s hs, F1.2.2 s hs⟩) h⟩
      have ft0 : ∀ l, linesS L = some l → l.length ≤ 300 ∧ ∀ c ∈ l, c.2.2.1.2.2.1.2.2.2.2.2.2.2.1.length ≤ 4000 := fun l h => ⟨by have := linesS_len _ l h; omega, lines_fates L l hLb h⟩
      generalize hS0 : linesS L = S0 at *
      generalize hS1 : linesS (lns a1) = S1 at *
      have sr : ∀ l : List Cmd, S0 = some l → escrowlaw25_same l l = some true := fun l h => same_refl ⟨by have := (ft0 l h).1; omega, fun c hc => by have := (ft0 l h).2 c hc; omega⟩
      have sn : escrowlaw25_same [] [] = some true := same_refl ⟨by decide, fun c hc => by cases hc⟩
      have sP : escrowlaw25_same (match S0 with | none => (([], 250) : List Cmd × Int) | some l => (l, 0)).1 (match S0 with | none => (([], 250) : List Cmd × Int) | some l => (l, 0)).1 = some true := by
        cases S0 with
        | none => exact sn
        | some l => exact sr l rfl
      refine bnd_of (· = false) (by simp) (fun b15 e => ?_); subst e
      refine bnd_of (fun k => k false = some true) ?_ (fun k16 hk => ?_)
      · rw [if_neg (by decide), bind_eq]
        refine bnd_of (fun k => k (remk a2 L) = some true) ?_ (fun k20 hk => ?_)
        · refine bnd_of (fun k => k () = some true) ?_ (fun k22 hk => ?_)
          · cases S0 with
            | none => rfl
            | some l =>
              rw [if_neg (by simp), q1, bind_eq]
              cases S1 with
              | none => rfl
              | some k =>
                rw [if_neg (by simp), if_pos (by have := F1.1; simp only [most]; omega), qB, bind_eq]
                have c1 := (ft0 l rfl).1
                have c2 := (ft1 k rfl).1
                rw [if_pos (by simp only [List.length_nil]; omega), if_pos (by simp only [List.nil_append]; omega)]
                simp only [bnd_eq, beq_self_eq_true, if_true, List.nil_append]
                rw [same_refl ⟨by simp only [List.length_append]; omega, fun c hc => by
                  rcases List.mem_append.1 hc with hc | hc
                  · have := (ft0 l rfl).2 c hc; omega
                  · have := (ft1 k rfl).2 c hc; omega⟩]
                rfl
          · by_cases h6 : ((remk a2 L).length : Int) ≤ 60000
            · rw [if_pos (by simpa using h6), qR (by omega), bind_eq]
              refine bnd_of (· = false) (by simp) (fun b36 e => ?_); subst e
              refine bnd_of (fun k => k false = some true) (by rw [if_neg (by decide)]; exact hk) (fun k37 hk => ?_)
              rw [if_neg (by decide), sP, bind_eq]; exact hk
            · rw [if_neg (by simpa using h6)]; exact hk
        · have e1 : Int.toNat (((unl L).length : Int) - 0) + 1 = (unl L).length + 1 := by omega
          rw [e1, show (([] : List Int), (0 : Int), (0 : Int)) = (([] : List Int), ((0 : Nat) : Int), ((0 : Nat) : Int)) from rfl]
          rw [lines_l0 a2 (by omega) (unl L) hTl k20 (unl L).length 0 0 [] (by omega) (by omega) (by simp) (by simp) L hLn (by simp)]
          exact hk
      · rw [if_neg (by decide), sP, bind_eq]; exact hk
    · rw [hz, show (0 : Int) = ((0 : Nat) : Int) from rfl, lines_l1 a2 (by omega) k8 a2.length 0 (by omega), List.drop_zero]
      by_cases ha : (a2.any fun c => c == 10) = true
      · rw [if_pos ha]
      · rw [if_neg ha]
        refine hk (fun c hc h => ha ?_)
        rw [List.any_eq_true]
        exact ⟨c, hc, by simpa using h⟩
  · cases f0 with
    | false => exact hk.1
    | true =>
      cases f1 with
      | false => exact hk.1
      | true => exact hk.2 rfl rfl
end Sx
