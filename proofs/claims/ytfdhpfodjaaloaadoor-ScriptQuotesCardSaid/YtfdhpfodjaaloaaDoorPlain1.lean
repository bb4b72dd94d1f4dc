/-
  Own work, of several texts. What wraps and shifts of numbers come to.
  Texts cut into lines, words and digits: plain.
  A line's words: plain.
  A number's digits: plain.
  What a line's words say: plain.
  What a text says: plain.
  The examples that every statement asks first.
  Quoted texts: plain.
  ScriptQuotes: plain.
-/
import Derived.Test.YtfdhpfodjaaloaaDoorDefs
import Derived.Test.YtfdhpfodjaaloaaDoorLib2
import Derived.KernelRfl
namespace Sx
open Go

abbrev B32 := BitVec 32
def u (v : B32) : Int := (v.toNat : Int)
theorem wrap_i64 {n : Int} (h0 : -9223372036854775808 ≤ n) (h : n < 9223372036854775808) : IntKind.wrap .i64 n = n := by
  simp [IntKind.wrap, IntKind.bits, IntKind.signed]; omega
end Sx
namespace Sx
open Go Go.RowKit

/-! ### Go's library over texts -/
theorem prefix_eq (a p : List Int) : strings_HasPrefix a p = some (a.take p.length == p && decide (p.length ≤ a.length)) := by
  unfold strings_HasPrefix internal_stringslite_HasPrefix
  simp only [bnd_eq, Option.bind_eq_bind]
  by_cases h : p.length ≤ a.length
  · have h1 : decide ((List.length a : Int) ≥ (List.length p : Int)) = true := by simp; omega
    simp only [h1, if_true]
    rw [if_pos ⟨by omega, by omega, by omega⟩]
    simp [h, bind_eq]
  · have h1 : decide ((List.length a : Int) ≥ (List.length p : Int)) = false := by simp; omega
    simp [h1, h, bind_eq]
theorem trim_eq (a p : List Int) : strings_TrimPrefix a p = some (if a.take p.length == p && decide (p.length ≤ a.length) then a.drop p.length else a) := by
  have h0 : internal_stringslite_HasPrefix a p = some (a.take p.length == p && decide (p.length ≤ a.length)) := by
    have := prefix_eq a p
    unfold strings_HasPrefix at this
    cases h : internal_stringslite_HasPrefix a p with
    | none => rw [h] at this; cases this
    | some x => rw [h, bind_eq] at this; exact this
  unfold strings_TrimPrefix internal_stringslite_TrimPrefix
  rw [h0]
  simp only [bind_eq, bnd_eq]
  by_cases h : (a.take p.length == p && decide (p.length ≤ a.length)) = true
  · rw [if_pos h, if_pos h]
    have hl : p.length ≤ a.length := by simp at h; exact h.2
    rw [if_pos ⟨by omega, by omega, by omega⟩]
    simp [bind_eq]
  · rw [if_neg h, if_neg h]
    simp [bind_eq]

/-- a byte as the library has it -/
def b8 (c : Int) : UInt8 := UInt8.ofNat c.toNat
theorem b8_inj {a b : Int} (ha : 0 ≤ a ∧ a < 256) (hb : 0 ≤ b ∧ b < 256) : (b8 a == b8 b) = (a == b) := by
  rw [Bool.eq_iff_iff]; simp only [beq_iff_eq]
  exact ⟨byte_inj ha hb, fun h => h ▸ rfl⟩
theorem toB_cons (c : Int) (l : List Int) : toB (c :: l) = b8 c :: toB l := rfl
theorem toB_drop (l : List Int) (n : Nat) : (toB l).drop n = toB (l.drop n) := by simp [toB, List.map_drop]
theorem toB_take (l : List Int) (n : Nat) : (toB l).take n = toB (l.take n) := by simp [toB, List.map_take]
theorem byteOk_drop {l : List Int} (h : byteOk l) (n : Nat) : byteOk (l.drop n) := fun c hc => h c (List.mem_of_mem_drop hc)
theorem byteOk_take {l : List Int} (h : byteOk l) (n : Nat) : byteOk (l.take n) := fun c hc => h c (List.mem_of_mem_take hc)
theorem byteOk_cons {c : Int} {l : List Int} (h : byteOk (c :: l)) : (0 ≤ c ∧ c < 256) ∧ byteOk l := ⟨h c (by simp), fun x hx => h x (by simp [hx])⟩
theorem byteOk_mk {c : Int} {l : List Int} (h : 0 ≤ c ∧ c < 256) (hl : byteOk l) : byteOk (c :: l) := fun x hx => by
  rcases List.mem_cons.1 hx with rfl | hx
  · exact h
  · exact hl x hx
theorem byteOk_append {a b : List Int} (ha : byteOk a) (hb : byteOk b) : byteOk (a ++ b) := fun x hx => (List.mem_append.1 hx).elim (ha x) (hb x)

/-- where a byte stands first -/
theorem index_one (c : Int) (hc : 0 ≤ c ∧ c < 256) : ∀ (l : List Int), byteOk l → Lib.index (toB l) [b8 c] = if c ∈ l then ((l.takeWhile (· != c)).length : Int) else -1
  | [], _ => by simp [toB, Lib.index]
  | b :: l, h => by
    obtain ⟨hb, hl⟩ := byteOk_cons h
    have ih := index_one c hc l hl
    rw [toB_cons, Lib.index]
    have h1 : List.isPrefixOf [b8 c] (b8 b :: toB l) = (c == b) := by
      simp only [List.isPrefixOf, Bool.and_true]
      exact b8_inj hc hb
    rw [h1, ih]
    by_cases hcb : c = b
    · subst hcb; simp
    · have hbc : ¬ b = c := fun h => hcb h.symm
      have h2 : (c == b) = false := by simpa using hcb
      have h3 : (b != c) = true := by simpa using hbc
      simp only [h2, Bool.false_eq_true, if_false, List.mem_cons, hcb, false_or, List.takeWhile_cons, h3, if_true, List.length_cons]
      by_cases hm : c ∈ l
      · simp only [hm, if_true]
        rw [if_neg (by simp <;> omega)]
        omega
      · simp [hm]

theorem takeWhile_self (c : Int) : ∀ (l : List Int), c ∉ l → l.takeWhile (· != c) = l
  | [], _ => rfl
  | b :: l, h => by
    simp only [List.mem_cons, not_or] at h
    rw [List.takeWhile_cons, if_pos (by simpa using fun e : b = c => h.1 e.symm), takeWhile_self c l h.2]
theorem take_takeWhile (p : Int → Bool) : ∀ (l : List Int), l.take (l.takeWhile p).length = l.takeWhile p
  | [] => rfl
  | b :: l => by
    rw [List.takeWhile_cons]
    split
    · simp [take_takeWhile p l]
    · rfl
theorem drop_takeWhile (p : Int → Bool) : ∀ (l : List Int), l.drop (l.takeWhile p).length = l.dropWhile p
  | [] => rfl
  | b :: l => by
    rw [List.takeWhile_cons, List.dropWhile_cons]
    split
    · simp [drop_takeWhile p l]
    · rfl

/-- strings.Cut at a blank: what stands ahead of it -/
theorem cut_eq (s : List Int) (h : byteOk s) (hl : s.length < 4294967281) : ∃ x, strings_Cut s [32] = some (s.takeWhile (· != 32), x) := by
  unfold strings_Cut
  rw [if_pos hl]
  have hi := index_one 32 ⟨by decide, by decide⟩ s h
  have h32 : toB [32] = [b8 32] := rfl
  rw [h32]
  unfold Lib.cut
  by_cases hm : (32 : Int) ∈ s
  · rw [if_pos hm] at hi
    rw [if_pos (by rw [hi]; omega)]
    have e : ofB ((toB s).take (Lib.index (toB s) [b8 32]).toNat) = s.takeWhile (· != 32) := by
      rw [hi]
      simp only [Int.toNat_natCast]
      rw [toB_take, take_takeWhile, ofB_toB (fun c hc => h c (List.takeWhile_sublist _ |>.subset hc))]
    rw [e]; exact ⟨_, rfl⟩
  · rw [if_neg hm] at hi
    rw [if_neg (by rw [hi]; decide)]
    have e : ofB (toB s) = s.takeWhile (· != 32) := by rw [ofB_toB h, takeWhile_self 32 s hm]
    simp only
    rw [e]; exact ⟨_, rfl⟩

/-! ### lines -/
def lns : List Int → List (List Int)
  | [] => [[]]
  | b :: l => if b = 10 then [] :: lns l else match lns l with
    | [] => [[b]]
    | x :: r => (b :: x) :: r
theorem lns_ne (l : List Int) : lns l ≠ [] := by
  cases l with
  | nil => simp [lns]
  | cons b l =>
    unfold lns
    split
    · simp
    · split <;> simp
theorem split_lns : ∀ (k : Nat) (l : List Int), byteOk l → (toB l).count 10 = k → Lib.splitK [10] 0 k (toB l) = (lns l).map toB := by
  intro k
  induction k with
  | zero =>
    intro l hl hc
    rw [Lib.splitK]
    have hn : ∀ l : List Int, byteOk l → (toB l).count 10 = 0 → lns l = [l] := by
      intro l
      induction l with
      | nil => intro _ _; rfl
      | cons b l ih =>
        intro h hc
        obtain ⟨hb, hl⟩ := byteOk_cons h
        rw [toB_cons, List.count_cons] at hc
        have h1 : (toB l).count 10 = 0 := by omega
        have h2 : ¬ b = 10 := by
          rintro rfl
          simp [b8] at hc
        rw [lns, if_neg h2, ih hl h1]
    rw [hn l hl hc]; rfl
  | succ k ih =>
    intro l
    induction l with
    | nil => intro _ hc; simp [toB] at hc
    | cons b l ihl =>
      intro h hc
      obtain ⟨hb, hl⟩ := byteOk_cons h
      have hi := index_one 10 ⟨by decide, by decide⟩ (b :: l) h
      have h10 : ([10] : List UInt8) = [b8 10] := rfl
      rw [toB_cons, List.count_cons] at hc
      by_cases hb10 : b = 10
      · subst hb10
        have h1 : (toB l).count 10 = k := by
          have : ((b8 10 : UInt8) == 10) = true := by decide
          simp only [this, if_true] at hc; omega
        have e : Lib.index (toB (10 :: l)) [10] = 0 := by rw [h10, hi]; simp
        rw [Lib.splitK, e]
        simp only [Int.toNat_zero, Nat.zero_add, List.length_cons, List.length_nil]
        rw [if_neg (by decide)]
        rw [toB_drop, show (10 :: l : List Int).drop 1 = l from rfl, ih l hl h1, lns, if_pos rfl]
        rfl
      · have hne : ((b8 b : UInt8) == 10) = false := by
          have : (b8 b == b8 10) = (b == 10) := b8_inj hb ⟨by decide, by decide⟩
          rw [show (10 : UInt8) = b8 10 from rfl, this]; simpa using hb10
        rw [hne] at hc
        simp only [Bool.false_eq_true, if_false, Nat.add_zero] at hc
        have ih2 := ihl hl hc
        have hm : (10 : Int) ∈ l := by
          have : 0 < (toB l).count 10 := by omega
          have := List.count_pos_iff.1 this
          obtain ⟨c, hcl, hce⟩ := List.mem_map.1 this
          have := byte_inj (hl c hcl) (b := 10) ⟨by decide, by decide⟩ hce
          exact this ▸ hcl
        have hil := index_one 10 ⟨by decide, by decide⟩ l hl
        rw [if_pos hm] at hil
        have hib : Lib.index (toB (b :: l)) [10] = Lib.index (toB l) [10] + 1 := by
          rw [h10, hi, hil, if_pos (by simp [hm])]
          rw [List.takeWhile_cons, if_pos (by simpa using hb10)]
          simp
        rw [Lib.splitK] at ih2 ⊢
        have n0 : ¬ (Lib.index (toB l) [10] == -1) = true := by rw [h10, hil]; simp <;> omega
        have n1 : ¬ (Lib.index (toB (b :: l)) [10] == -1) = true := by rw [hib, h10, hil]; simp; omega
        rw [if_neg n0] at ih2
        rw [if_neg n1, hib]
        have e1 : (Lib.index (toB l) [10] + 1).toNat = (Lib.index (toB l) [10]).toNat + 1 := by rw [h10, hil]; omega
        rw [e1, lns, if_neg hb10]
        cases hL : lns l with
        | nil => exact absurd hL (lns_ne l)
        | cons x r =>
          rw [hL] at ih2
          simp only [List.map_cons, List.cons.injEq] at ih2 ⊢
          obtain ⟨i1, i2⟩ := ih2
          refine ⟨?_, ?_⟩
          · rw [toB_cons b x, ← i1]; simp [toB_cons]
          · rw [← i2, toB_cons]
            congr 1
theorem lns_ok {l : List Int} (h : byteOk l) : ∀ x ∈ lns l, byteOk x := by
  induction l with
  | nil => intro x hx; simp [lns] at hx; subst hx; intro c hc; cases hc
  | cons b l ih =>
    obtain ⟨hb, hl⟩ := byteOk_cons h
    intro x hx
    unfold lns at hx
    split at hx
    · rcases List.mem_cons.1 hx with rfl | hx
      · intro c hc; cases hc
      · exact ih hl x hx
    · split at hx
      · simp at hx; subst hx; exact byteOk_mk hb (fun c hc => by cases hc)
      · rename_i y r hy
        rcases List.mem_cons.1 hx with rfl | hx
        · exact byteOk_mk hb (ih hl y (by rw [hy]; simp))
        · exact ih hl x (by rw [hy]; simp [hx])
theorem split_eq (s : List Int) (h : byteOk s) (hl : s.length < 4294967281) : strings_Split s [10] = some (lns s) := by
  unfold strings_Split
  rw [if_pos ⟨hl, by decide⟩]
  have e10 : toB [10] = [10] := rfl
  rw [e10]
  unfold Lib.split
  rw [Lib.count_one, split_lns _ s h rfl, List.map_map]
  congr 1
  conv => rhs; rw [← List.map_id (lns s)]
  exact List.map_congr_left fun x hx => ofB_toB (lns_ok h x hx)

/-! ### digits -/
/-- the value of a hexadecimal digit -/
def hexd (c : Int) : Int := if 48 ≤ c ∧ c ≤ 57 then c - 48 else if 97 ≤ c ∧ c ≤ 102 then c - 87 else -1
theorem indexByte_hex : ∀ c : Fin 256, Lib.indexByte (toB [48, 49, 50, 51, 52, 53, 54, 55, 56, 57, 97, 98, 99, 100, 101, 102]) (c.val : Int).toNat.toUInt8 = hexd (c.val : Int) := by decide +kernel
theorem hex_eq {c : Int} (h : 0 ≤ c ∧ c < 256) : strings_IndexByte [48, 49, 50, 51, 52, 53, 54, 55, 56, 57, 97, 98, 99, 100, 101, 102] c = some (hexd c) := by
  unfold strings_IndexByte
  have := indexByte_hex ⟨c.toNat, by omega⟩
  simp only at this
  have e : ((c.toNat : Nat) : Int) = c := by omega
  rw [e] at this
  rw [this]
theorem digit_eq (s : List Int) (i : Nat) (hs : byteOk s) : script_digit s i = some (match s[i]? with | some c => hexd c | none => -1) := by
  unfold script_digit
  by_cases h : i < s.length
  · rw [if_neg (by simp; omega), if_pos ⟨by omega, by omega⟩]
    have hc : s[i]? = some s[i] := by simp [h]
    simp only [Int.toNat_natCast, List.getD, hc, Option.getD_some]
    rw [hex_eq (hs _ (List.getElem_mem h)), bind_eq]
  · rw [if_pos (by simp; omega)]
    simp [List.getElem?_eq_none (Nat.le_of_not_lt h)]
end Sx
namespace Sx
open Go Go.RowKit

/-- what stands in quotes, and what is left behind the closing one -/
def unq : List Int → Option (List Int × List Int)
  | [] => none
  | c :: r =>
    if c = 34 then some ([], r)
    else if c < 32 ∨ c > 126 then none
    else if c ≠ 92 then (unq r).map fun p => (c :: p.1, p.2)
    else match r with
      | [] => none
      | d :: r' =>
        if d = 34 ∨ d = 92 then (unq r').map fun p => (d :: p.1, p.2)
        else match r' with
          | a :: b :: r'' => if d ≠ 120 ∨ hexd a < 0 ∨ hexd b < 0 then none else (unq r'').map fun p => ((16 * hexd a + hexd b) :: p.1, p.2)
          | _ => none

theorem hexd_lt (c : Int) : hexd c < 16 ∧ -1 ≤ hexd c := by unfold hexd; split <;> (try split) <;> omega
theorem wrap_u8b {n : Int} (h0 : 0 ≤ n) (h : n < 256) : IntKind.wrap .u8 n = n := by
  simp only [IntKind.wrap, IntKind.bits, IntKind.signed, Bool.false_and, Bool.false_eq_true, if_false]; omega
theorem hex_byte {a b : Int} (ha : 0 ≤ hexd a) (hb : 0 ≤ hexd b) : IntKind.wrap .u8 (IntKind.wrap .i64 (IntKind.wrap .i64 (16 * hexd a) + hexd b)) = 16 * hexd a + hexd b := by
  have h1 := hexd_lt a
  have h2 := hexd_lt b
  have e1 : IntKind.wrap .i64 (16 * hexd a) = 16 * hexd a := wrap_i64 (by omega) (by omega)
  rw [e1]
  have e2 : IntKind.wrap .i64 (16 * hexd a + hexd b) = 16 * hexd a + hexd b := wrap_i64 (by omega) (by omega)
  rw [e2, wrap_u8b (by omega) (by omega)]

theorem drop_cons {l : List Int} {i : Nat} (h : i < l.length) : l.drop i = l.getD i 0 :: l.drop (i + 1) := by
  rw [List.drop_eq_getElem_cons h]; simp [List.getD, h]
theorem getD_byte {l : List Int} (hl : byteOk l) (i : Nat) : 0 ≤ l.getD i 0 ∧ l.getD i 0 < 256 := by
  by_cases h : i < l.length
  · have : l.getD i 0 = l[i] := by simp [List.getD, h]
    rw [this]; exact hl _ (List.getElem_mem h)
  · simp [List.getD, List.getElem?_eq_none (Nat.le_of_not_lt h)]
theorem take2 {l : List Int} {i : Nat} (x y : Int) : ((l.drop i).take 2 == [x, y] && decide (2 ≤ (l.drop i).length)) = (decide (i + 1 < l.length) && (l.getD i 0 == x && l.getD (i + 1) 0 == y)) := by
  by_cases h : i + 1 < l.length
  · have h1 : decide (2 ≤ (l.drop i).length) = true := by simp; omega
    rw [h1, Bool.and_true, drop_cons (by omega), drop_cons h]
    have : (l.getD i 0 :: l.getD (i + 1) 0 :: l.drop (i + 1 + 1)).take 2 = [l.getD i 0, l.getD (i + 1) 0] := rfl
    rw [this]
    simp only [h, decide_true, Bool.true_and]
    show (_ && (_ && true)) = _
    rw [Bool.and_true]
  · have h1 : decide (2 ≤ (l.drop i).length) = false := by simp; omega
    rw [h1, Bool.and_false]
    simp [h]

theorem unq_l0 (a0 : List Int) (ha : byteOk a0) (hl : a0.length < 4294967296) (x : List Int) (y : Int) : ∀ (m i : Nat) (out : List Int), a0.length - i < m → out.length ≤ i → i ≤ a0.length →
    script_unquoted_l0 a0 (fun _ => some none) m (x, y, (i : Int), out) = some ((unq (a0.drop i)).map fun p => (out ++ p.1, ((a0.length - p.2.length : Nat) : Int)))
  | 0, _, _, h, _, _ => absurd h (Nat.not_lt_zero _)
  | m + 1, i, out, h, ho, hi => by
    unfold script_unquoted_l0
    simp only
    by_cases hlt : i < a0.length
    · rw [if_pos (by simpa using hlt), if_pos ⟨by omega, by omega⟩]
      simp only [bnd_eq, Int.toNat_natCast]
      have hc := getD_byte ha i
      rw [drop_cons hlt]
      generalize hcc : a0.getD i 0 = c at hc
      have w1 : IntKind.wrap .i64 ((i : Int) + 1) = ((i + 1 : Nat) : Int) := by rw [wrap_i64 (by omega) (by omega)]; omega
      have w2 : IntKind.wrap .i64 ((i : Int) + 2) = ((i + 2 : Nat) : Int) := by rw [wrap_i64 (by omega) (by omega)]; omega
      have w3 : IntKind.wrap .i64 ((i : Int) + 3) = ((i + 3 : Nat) : Int) := by rw [wrap_i64 (by omega) (by omega)]; omega
      have w4 : IntKind.wrap .i64 ((i : Int) + 4) = ((i + 4 : Nat) : Int) := by rw [wrap_i64 (by omega) (by omega)]; omega
      unfold unq
      by_cases h34 : c = 34
      · subst h34
        rw [if_pos (by decide), if_pos rfl, w1]
        simp only [Option.map_some, List.append_nil, List.length_drop]
        congr 4; omega
      rw [if_neg (by simpa using h34), if_neg h34]
      by_cases hr : c < 32 ∨ c > 126
      · rw [if_pos (by simpa using hr), if_pos hr]; rfl
      rw [if_neg (by simpa using hr), if_neg hr]
      by_cases h92 : c ≠ 92
      · rw [if_pos (by simpa using h92), if_pos h92, if_pos (by simp only [List.length_cons, List.length_nil]; omega), w1, unq_l0 a0 ha hl x y m (i + 1) _ (by omega) (by simp; omega) (by omega)]
        cases unq (a0.drop (i + 1)) with
        | none => rfl
        | some p => simp
      rw [if_neg (by simpa using h92), if_neg h92]
      have hg : ((0 : Int) ≤ (i : Int) ∧ (i : Int) ≤ (a0.length : Int) ∧ (a0.length : Int) ≤ (a0.length : Int)) := ⟨by omega, by omega, by omega⟩
      have hcc92 : a0.getD i 0 = 92 := by rw [hcc]; simpa using h92
      simp only [if_pos hg, Int.toNat_natCast, List.take_length, prefix_eq, bind_eq, List.length_cons, List.length_nil, Nat.zero_add, Nat.reduceAdd, take2, w1, w2, w3, w4, hcc92, beq_self_eq_true, Bool.true_and]
      by_cases h1 : i + 1 < a0.length
      · have hg2 : ((0 : Int) ≤ ((i + 1 : Nat) : Int) ∧ ((i + 1 : Nat) : Int) < (a0.length : Int)) := ⟨by omega, by omega⟩
        have hg3 : (out.length + 1) * 1 ≤ 140737488355328 := by omega
        simp only [h1, decide_true, Bool.true_and, if_pos hg2, if_pos hg3]
        rw [drop_cons h1]
        simp only
        generalize hd : a0.getD (i + 1) 0 = d
        by_cases hdd : d = 34 ∨ d = 92
        · have key : script_unquoted_l0 a0 (fun _ => some none) m (x, y, ((i + 2 : Nat) : Int), out ++ [d]) =
              some (((unq (a0.drop (i + 1 + 1))).map fun p => (d :: p.1, p.2)).map fun p => (out ++ p.1, ((a0.length - p.2.length : Nat) : Int))) := by
            rw [unq_l0 a0 ha hl x y m (i + 2) _ (by omega) (by simp; omega) (by omega)]
            cases unq (a0.drop (i + 2)) with
            | none => rfl
            | some p => simp
          rw [if_pos hdd]
          rcases hdd with rfl | rfl
          · exact key
          · exact key
        · have e1 : (d == 34) = false := by simp; exact fun h => hdd (.inl h)
          have e2 : (d == 92) = false := by simp; exact fun h => hdd (.inr h)
          simp only [e1, e2, Bool.false_eq_true, if_false]
          rw [if_neg hdd]
          rw [digit_eq a0 (i + 2) ha, digit_eq a0 (i + 3) ha]
          simp only [bind_eq]
          by_cases h2 : i + 3 < a0.length
          · have g2 : a0[i + 2]? = some (a0.getD (i + 2) 0) := by simp [List.getD, show i + 2 < a0.length by omega]
            have g3 : a0[i + 3]? = some (a0.getD (i + 3) 0) := by simp [List.getD, h2]
            rw [show i + 1 + 1 = i + 2 from rfl, drop_cons (show i + 2 < a0.length by omega), show i + 2 + 1 = i + 3 from rfl, drop_cons h2, g2, g3]
            simp only
            generalize a0.getD (i + 2) 0 = a
            generalize a0.getD (i + 3) 0 = b
            by_cases hbad : d ≠ 120 ∨ hexd a < 0 ∨ hexd b < 0
            · rw [if_pos hbad]
              have : ((!(d == 120)) || decide (hexd a < 0) || decide (hexd b < 0)) = true := by
                rcases hbad with h | h | h <;> simp [h]
              rw [if_pos this]; rfl
            · rw [if_neg hbad]
              simp only [not_or, Decidable.not_not] at hbad
              obtain ⟨b1, b2, b3⟩ := hbad
              have : ((!(d == 120)) || decide (hexd a < 0) || decide (hexd b < 0)) = false := by simp [b1, b2, b3] <;> omega
              rw [if_neg (by rw [this]; simp), hex_byte (by omega) (by omega), unq_l0 a0 ha hl x y m (i + 4) _ (by omega) (by simp; omega) (by omega)]
              rw [show i + 3 + 1 = i + 4 from rfl]
              cases unq (a0.drop (i + 4)) with
              | none => rfl
              | some p => simp
          · have g3 : a0[i + 3]? = none := List.getElem?_eq_none (by omega)
            rw [g3]
            simp only
            have e3 : ∀ q : Bool, (q || decide ((-1 : Int) < 0)) = true := fun q => by simp
            rw [if_pos (by rw [e3])]
            have : (match a0.drop (i + 1 + 1) with
                | a :: b :: r'' => if d ≠ 120 ∨ hexd a < 0 ∨ hexd b < 0 then none else (unq r'').map fun p => ((16 * hexd a + hexd b) :: p.1, p.2)
                | _ => none) = none := by
              have hlen : (a0.drop (i + 1 + 1)).length ≤ 1 := by simp; omega
              cases hx : a0.drop (i + 1 + 1) with
              | nil => rfl
              | cons p q => cases q with
                | nil => rfl
                | cons _ _ => rw [hx] at hlen; simp at hlen
            rw [this]; rfl
      · have hnil : a0.drop (i + 1) = [] := List.drop_eq_nil_of_le (by omega)
        have g2 : a0[i + 2]? = none := List.getElem?_eq_none (by omega)
        have g3 : a0[i + 3]? = none := List.getElem?_eq_none (by omega)
        simp only [h1, decide_false, Bool.false_and, Bool.false_eq_true, if_false]
        rw [digit_eq a0 (i + 2) ha, digit_eq a0 (i + 3) ha, g2, g3]
        simp only [bind_eq, hnil]
        rfl
    · rw [if_neg (by simpa using hlt)]
      have : a0.drop i = [] := List.drop_eq_nil_of_le (by omega)
      rw [this]; rfl
theorem unquoted_eq (s : List Int) (hs : byteOk s) (hl : s.length < 4294967296) (h1 : 1 ≤ s.length) : script_unquoted s = some ((unq (s.drop 1)).map fun p => (p.1, ((s.length - p.2.length : Nat) : Int))) := by
  unfold script_unquoted
  simp only [bnd_eq]
  have e : Int.toNat ((s.length : Int) - 1) + 1 = s.length := by omega
  rw [e]
  have := unq_l0 s hs hl [] 0 s.length 1 [] (by omega) (by simp) h1
  simpa using this

/-- what is read is a beginning of what stood there -/
theorem unq_rest : ∀ (n : Nat) (s t r : List Int), s.length ≤ n → byteOk s → unq s = some (t, r) → ∃ p, s = p ++ r ∧ t.length < p.length ∧ byteOk t ∧ byteOk r := by
  intro n
  induction n with
  | zero => intro s t r hl _ h; obtain rfl := List.length_eq_zero_iff.1 (Nat.le_zero.1 hl); simp [unq] at h
  | succ n ih =>
    intro s t r hl hs h
    cases s with
    | nil => simp [unq] at h
    | cons c s =>
      obtain ⟨hc, hs⟩ := byteOk_cons hs
      simp only [List.length_cons] at hl
      unfold unq at h
      split at h
      · simp only [Option.some.injEq, Prod.mk.injEq] at h
        obtain ⟨rfl, rfl⟩ := h
        exact ⟨[c], rfl, by simp, (fun c hc => by cases hc), hs⟩
      split at h
      · cases h
      split at h
      · obtain ⟨⟨t', r'⟩, h1, h2⟩ := Option.map_eq_some_iff.1 h
        simp only [Prod.mk.injEq] at h2
        obtain ⟨rfl, rfl⟩ := h2
        obtain ⟨p, rfl, q1, q2, q3⟩ := ih s t' r' (by omega) hs h1
        exact ⟨c :: p, rfl, by simpa using q1, byteOk_mk hc q2, q3⟩
      cases s with
      | nil => simp at h
      | cons d s =>
        obtain ⟨hd, hs⟩ := byteOk_cons hs
        simp only [List.length_cons] at hl
        simp only at h
        split at h
        · obtain ⟨⟨t', r'⟩, h1, h2⟩ := Option.map_eq_some_iff.1 h
          simp only [Prod.mk.injEq] at h2
          obtain ⟨rfl, rfl⟩ := h2
          obtain ⟨p, rfl, q1, q2, q3⟩ := ih s t' r' (by omega) hs h1
          exact ⟨c :: d :: p, rfl, by simp; omega, byteOk_mk hd q2, q3⟩
        · cases s with
          | nil => cases h
          | cons a s =>
          cases s with
          | nil => cases h
          | cons b s' =>
            obtain ⟨ha, hs⟩ := byteOk_cons hs
            obtain ⟨hb, hs⟩ := byteOk_cons hs
            simp only [List.length_cons] at hl
            by_cases hbad : d ≠ 120 ∨ hexd a < 0 ∨ hexd b < 0
            · simp only [if_pos hbad] at h; cases h
            · simp only [if_neg hbad] at h
              obtain ⟨⟨t', r'⟩, h1, h2⟩ := Option.map_eq_some_iff.1 h
              simp only [Prod.mk.injEq] at h2
              obtain ⟨rfl, rfl⟩ := h2
              obtain ⟨p, rfl, q1, q2, q3⟩ := ih s' t' r' (by omega) hs h1
              have := hexd_lt a
              have := hexd_lt b
              exact ⟨c :: d :: a :: b :: p, rfl, by simp; omega, byteOk_mk (by omega) q2, q3⟩

/-! ### words -/
abbrev Wd := List Int × Bool × Unit
def word1 (s : List Int) : Option (Wd × List Int) :=
  if s.headD 0 = 34 then (unq (s.drop 1)).map fun p => ((p.1, true, ()), p.2)
  else if s.takeWhile (· != 32) = [] then none else some ((s.takeWhile (· != 32), false, ()), s.dropWhile (· != 32))
def wrdsF : Nat → List Int → Option (List Wd)
  | 0, _ => none
  | m + 1, s => match word1 s with
    | none => none
    | some (w, []) => some [w]
    | some (w, c :: r) => if c = 32 then (wrdsF m r).map (w :: ·) else none
def wrds (s : List Int) : Option (List Wd) := wrdsF (s.length + 1) s

theorem word1_rest {s r : List Int} {w : Wd} (hs : byteOk s) (h : word1 s = some (w, r)) : ∃ p, s = p ++ r ∧ 0 < p.length ∧ byteOk r ∧ byteOk w.1 ∧ w.1.length ≤ p.length ∧ (w.2.1 = false → w.1 ≠ [] ∧ p = w.1) := by
  unfold word1 at h
  split at h
  · rename_i h34
    obtain ⟨⟨t, r'⟩, h1, h2⟩ := Option.map_eq_some_iff.1 h
    simp only [Prod.mk.injEq] at h2
    obtain ⟨rfl, rfl⟩ := h2
    cases s with
    | nil => simp at h34
    | cons c s =>
      obtain ⟨hc, hs⟩ := byteOk_cons hs
      obtain ⟨p, h2, q1, q2, q3⟩ := unq_rest _ s t r' (Nat.le_refl _) hs h1
      subst h2
      exact ⟨c :: p, rfl, by simp, q3, q2, by simp; omega, fun h => by cases h⟩
  · split at h
    · cases h
    · rename_i hne
      simp only [Option.some.injEq, Prod.mk.injEq] at h
      obtain ⟨rfl, rfl⟩ := h
      exact ⟨s.takeWhile (· != 32), (List.takeWhile_append_dropWhile).symm, List.length_pos_iff.2 hne, fun c hc => hs c ((List.dropWhile_sublist _).subset hc), fun c hc => hs c ((List.takeWhile_sublist _).subset hc), Nat.le_refl _, fun _ => ⟨hne, rfl⟩⟩

theorem wrdsF_more : ∀ (m : Nat) (s : List Int), byteOk s → s.length < m → wrdsF m s = wrds s := by
  intro m
  induction m using Nat.strongRecOn with
  | ind m ih =>
    intro s hs hm
    cases m with
    | zero => exact absurd hm (Nat.not_lt_zero _)
    | succ m =>
      unfold wrds
      unfold wrdsF
      cases hw : word1 s with
      | none => rfl
      | some x =>
        obtain ⟨w, r⟩ := x
        obtain ⟨p, rfl, hp, hr, _⟩ := word1_rest hs hw
        cases r with
        | nil => rfl
        | cons c r =>
          simp only [List.length_append, List.length_cons] at hm ⊢
          split
          · obtain ⟨_, hr⟩ := byteOk_cons hr
            rw [ih m (by omega) r hr (by omega)]
            rw [ih (p.length + (r.length + 1)) (by omega) r hr (by omega)]
          · rfl
/-- the words, one by one -/
theorem wrds_eq {s : List Int} (hs : byteOk s) : wrds s = match word1 s with
    | none => none
    | some (w, []) => some [w]
    | some (w, c :: r) => if c = 32 then (wrds r).map (w :: ·) else none := by
  conv => lhs; unfold wrds; unfold wrdsF
  cases hw : word1 s with
  | none => rfl
  | some x =>
    obtain ⟨w, r⟩ := x
    obtain ⟨p, rfl, hp, hr, _⟩ := word1_rest hs hw
    cases r with
    | nil => rfl
    | cons c r =>
      simp only
      split
      · obtain ⟨_, hr⟩ := byteOk_cons hr
        rw [wrdsF_more _ r hr (by simp; omega)]
      · rfl

theorem words_l0 : ∀ (m : Nat) (s : List Int) (acc : List Wd), byteOk s → s.length < 4294967281 → s.length < m → acc.length + s.length ≤ 4294967296 →
    script_words_l0 m (s, acc) = some ((wrdsF m s).map (acc ++ ·))
  | 0, _, _, _, _, h, _ => absurd h (Nat.not_lt_zero _)
  | m + 1, s, acc, hs, hl, hm, hacc => by
    have tail : ∀ (w : Wd) (r p : List Int), s = p ++ r → 0 < p.length → byteOk r →
        (if (acc.length + [w].length) * 24 ≤ 140737488355328 then (if (0 : Int) ≤ (p.length : Int) ∧ (p.length : Int) ≤ (s.length : Int) ∧ (s.length : Int) ≤ (s.length : Int) then
          (if (r == []) = true then (some (some (acc ++ [w])) : Option (Option (List Wd))) else
            (if (0 : Int) ≤ 0 ∧ 0 < (r.length : Int) then (if (r.getD 0 0 != 32) = true then some none else
              (if (0 : Int) ≤ 1 ∧ 1 ≤ (r.length : Int) ∧ (r.length : Int) ≤ (r.length : Int) then script_words_l0 m (r.drop 1, acc ++ [w]) else none)) else none)) else none) else none) =
        some ((match (some (w, r) : Option (Wd × List Int)) with
          | none => none
          | some (w, []) => some [w]
          | some (w, c :: r) => if c = 32 then (wrdsF m r).map (w :: ·) else none).map (acc ++ ·)) := by
      intro w r p hp h0 hr
      have hlen : s.length = p.length + r.length := by rw [hp]; simp
      rw [if_pos (by simp only [List.length_cons, List.length_nil]; omega), if_pos ⟨by omega, by omega, by omega⟩]
      cases r with
      | nil => rfl
      | cons c r =>
        have hr' := (byteOk_cons hr).2
        simp only [List.length_cons] at hlen
        rw [if_neg (by simp), if_pos ⟨by omega, by simp only [List.length_cons]; omega⟩]
        simp only [List.getD_cons_zero]
        by_cases h32 : c = 32
        · subst h32
          rw [if_neg (by decide), if_pos ⟨by decide, by simp only [List.length_cons]; omega, by omega⟩, if_pos rfl]
          rw [show (32 :: r).drop 1 = r from rfl, words_l0 m r (acc ++ [w]) hr' (by omega) (by omega) (by simp; omega)]
          cases wrdsF m r with
          | none => rfl
          | some l => simp
        · rw [if_pos (by simpa using h32), if_neg h32]; rfl
    unfold script_words_l0 wrdsF
    simp only [bnd_eq, prefix_eq, bind_eq]
    by_cases h34 : s.headD 0 = 34
    · cases s with
      | nil => simp at h34
      | cons c r =>
        simp only [List.headD_cons] at h34
        subst h34
        have hw : word1 (34 :: r) = (unq r).map fun p => ((p.1, true, ()), p.2) := by simp only [word1, List.headD_cons, if_true]; rfl
        rw [if_pos (by simp), unquoted_eq _ hs (by omega) (by simp), bind_eq, hw]
        rw [show (34 :: r).drop 1 = r from rfl]
        cases hu : unq r with
        | none => rfl
        | some x =>
          obtain ⟨t, r2⟩ := x
          obtain ⟨hc, hr⟩ := byteOk_cons hs
          obtain ⟨p, hp, q1, q2, q3⟩ := unq_rest _ r t r2 (Nat.le_refl _) hr hu
          have hs2 : 34 :: r = (34 :: p) ++ r2 := by rw [hp]; rfl
          have hn : ((34 :: r).length - r2.length : Nat) = (34 :: p).length := by rw [hs2]; simp; omega
          simp only [Option.map_some, pb]
          rw [hn, if_neg (by simp; omega)]
          have hd : List.drop (Int.toNat ((34 :: p).length : Int)) (List.take (Int.toNat ((34 :: r).length : Int)) (34 :: r)) = r2 := by
            rw [Int.toNat_natCast, Int.toNat_natCast, List.take_length, hs2, List.drop_left']
            rfl
          rw [hd]
          have := tail (t, true, ()) r2 (34 :: p) hs2 (by simp) q3
          simpa using this
    · have h34' : (s.take ([34] : List Int).length == [34] && decide (([34] : List Int).length ≤ s.length)) = false := by
        cases s with
        | nil => rfl
        | cons c r => simp at h34; simp [h34]
      rw [h34']
      simp only [Bool.false_eq_true, if_false]
      obtain ⟨x, hx⟩ := cut_eq s hs hl
      rw [hx, bind_eq]
      simp only
      unfold word1
      rw [if_neg h34]
      by_cases hn : s.takeWhile (· != 32) = []
      · rw [if_pos hn, hn]; rfl
      · rw [if_neg hn]
        have hpos := List.length_pos_iff.2 hn
        rw [if_neg (by simpa using hn)]
        have hs2 : s = s.takeWhile (· != 32) ++ s.dropWhile (· != 32) := List.takeWhile_append_dropWhile.symm
        have hd : List.drop (Int.toNat ((s.takeWhile (· != 32)).length : Int)) (List.take (Int.toNat (s.length : Int)) s) = s.dropWhile (· != 32) := by
          rw [Int.toNat_natCast, Int.toNat_natCast, List.take_length, drop_takeWhile]
        rw [hd]
        have := tail (s.takeWhile (· != 32), false, ()) (s.dropWhile (· != 32)) (s.takeWhile (· != 32)) hs2 hpos (fun c hc => hs c ((List.dropWhile_sublist _).subset hc))
        simpa using this
theorem words_eq {s : List Int} (hs : byteOk s) (hl : s.length < 4294967281) : script_words s = some (wrds s) := by
  unfold script_words
  rw [words_l0 _ s [] hs hl (by omega) (by simp; omega), wrdsF_more _ s hs (by omega)]
  cases wrds s with
  | none => rfl
  | some l => rfl
end Sx
namespace Sx
open Go Go.RowKit

/-! ### what strconv.FormatInt gives -/
def decI (n : Nat) : List Int := ofB (Lib.decDigits n)
theorem decI_eq (n : Nat) : decI n = if n < 10 then [48 + (n : Int)] else decI (n / 10) ++ [48 + ((n % 10 : Nat) : Int)] := by
  unfold decI
  rw [Lib.decDigits]
  split
  · rename_i h
    simp only [ofB, List.map_cons, List.map_nil, UInt8.toNat_ofNat']
    congr 1; omega
  · simp only [ofB, List.map_append, List.map_cons, List.map_nil, UInt8.toNat_ofNat']
    congr 2; omega
theorem itoaI_eq (n : Int) : itoaI n = if n < 0 then 45 :: decI n.natAbs else decI n.toNat := by
  unfold itoaI Lib.itoa decI
  split
  · rfl
  · rfl
def isDig (c : Int) : Prop := 48 ≤ c ∧ c ≤ 57
instance (c : Int) : Decidable (isDig c) := by unfold isDig; exact inferInstance
def valD (a : Int) (l : List Int) : Int := l.foldl (fun a c => 10 * a + (c - 48)) a
theorem valD_append (a : Int) (x y : List Int) : valD a (x ++ y) = valD (valD a x) y := by simp [valD]
theorem decI_all : ∀ (n : Nat), (∀ c ∈ decI n, isDig c) ∧ valD 0 (decI n) = n ∧ decI n ≠ [] := by
  intro n
  induction n using Nat.strongRecOn with
  | ind n ih =>
    rw [decI_eq]
    split
    · rename_i h
      refine ⟨fun c hc => ?_, ?_, by simp⟩
      · simp at hc; subst hc; unfold isDig; omega
      · simp [valD]; omega
    · rename_i h
      obtain ⟨h1, h2, h3⟩ := ih (n / 10) (by omega)
      refine ⟨fun c hc => ?_, ?_, by simp⟩
      · rcases List.mem_append.1 hc with hc | hc
        · exact h1 c hc
        · simp at hc; subst hc; unfold isDig; omega
      · rw [valD_append, h2]
        simp only [valD, List.foldl_cons, List.foldl_nil]
        omega
theorem decI_inj {a b : Nat} (h : decI a = decI b) : a = b := by
  have h1 := (decI_all a).2.1
  have h2 := (decI_all b).2.1
  rw [h, h2] at h1
  omega
theorem decI_nomin (n : Nat) : ∀ r, decI n ≠ 45 :: r := fun r h => by
  have := (decI_all n).1 45 (by rw [h]; simp)
  unfold isDig at this; omega
theorem itoaI_inj {a b : Int} (h : itoaI a = itoaI b) : a = b := by
  rw [itoaI_eq, itoaI_eq] at h
  split at h <;> split at h
  · simp only [List.cons.injEq, true_and] at h
    have := decI_inj h; omega
  · exact absurd h.symm (decI_nomin _ _)
  · exact absurd h (decI_nomin _ _)
  · have := decI_inj h; omega

/-! ### runes -/
theorem bs_get {l : List Int} (hl : byteOk l) {p : Nat} (h : p < l.length) (h' : p < (bs l).size) : (((bs l)[p]'h').toNat : Int) = l.getD p 0 := by
  have hb := hl _ (List.getElem_mem h)
  have e : l.getD p 0 = l[p] := by simp [List.getD, h]
  rw [e]
  show (((bs l).data[p]'h').toNat : Int) = _
  simp only [bs, List.getElem_toArray, List.getElem_map, UInt8.toNat_ofNat']
  omega
theorem rune_low {l : List Int} (hl : byteOk l) {p : Nat} (h : p < l.length) (h128 : l.getD p 0 < 128) : rune l p = l.getD p 0 ∧ past l p = p + 1 := by
  have h' : p < (bs l).size := by rw [bs_size]; exact h
  have hg := bs_get hl h h'
  have := decode_ascii (bs l) p h' (by omega)
  unfold rune past
  rw [this]
  exact ⟨hg, rfl⟩
theorem rune_high {l : List Int} (hl : byteOk l) {p : Nat} (h : p < l.length) (h128 : 128 ≤ l.getD p 0) : 128 ≤ rune l p := by
  have h' : p < (bs l).size := by rw [bs_size]; exact h
  have hg := bs_get hl h h'
  have e : (bs l).get! (p + 0) = (bs l)[p]'h' := by
    show (bs l).get! p = _
    simp [ByteArray.get!, getElem!_pos, h']
    rfl
  unfold rune Utf8.decode
  simp only [e]
  have hb : 128 ≤ ((bs l)[p]'h').toNat := by omega
  rw [if_neg (by omega)]
  split
  · split
    · rename_i hh; simp only [ge_iff_le] at hh ⊢; omega
    · simp only [Utf8.runeError]; omega
  · split
    · split
      · rename_i hh; simp only [ge_iff_le, Bool.and_eq_true, decide_eq_true_eq] at hh; omega
      · simp only [Utf8.runeError]; omega
    · split
      · split
        · rename_i hh; simp only [ge_iff_le, Bool.and_eq_true, decide_eq_true_eq] at hh; omega
        · simp only [Utf8.runeError]; omega
      · simp only [Utf8.runeError]; omega

/-! ### the loop over digits -/
abbrev NumK := Int → Option (Option (Int × (List Wd × Unit)))
def numL (k : NumK) : List Int → Int → Option (Option (Int × (List Wd × Unit)))
  | [], n => k n
  | c :: r, n => if isDig c ∧ -9223372036854775808 ≤ 10 * n - (c - 48) then numL k r (10 * n - (c - 48)) else some none
theorem tdiv10 {d n : Int} (h : 0 ≤ d ∧ d ≤ 9) : (n < IntKind.wrap .i64 (Int.tdiv (IntKind.wrap .i64 ((-9223372036854775808) + d)) 10)) ↔ 10 * n - d < -9223372036854775808 := by
  have : d = 0 ∨ d = 1 ∨ d = 2 ∨ d = 3 ∨ d = 4 ∨ d = 5 ∨ d = 6 ∨ d = 7 ∨ d = 8 ∨ d = 9 := by omega
  have w : IntKind.wrap .i64 ((-9223372036854775808) + d) = (-9223372036854775808) + d := wrap_i64 (by omega) (by omega)
  rw [w]
  rcases this with rfl | rfl | rfl | rfl | rfl | rfl | rfl | rfl | rfl | rfl
  · rw [show IntKind.wrap .i64 (Int.tdiv ((-9223372036854775808 : Int) + 0) 10) = -922337203685477580 from by decide]; omega
  · rw [show IntKind.wrap .i64 (Int.tdiv ((-9223372036854775808 : Int) + 1) 10) = -922337203685477580 from by decide]; omega
  · rw [show IntKind.wrap .i64 (Int.tdiv ((-9223372036854775808 : Int) + 2) 10) = -922337203685477580 from by decide]; omega
  · rw [show IntKind.wrap .i64 (Int.tdiv ((-9223372036854775808 : Int) + 3) 10) = -922337203685477580 from by decide]; omega
  · rw [show IntKind.wrap .i64 (Int.tdiv ((-9223372036854775808 : Int) + 4) 10) = -922337203685477580 from by decide]; omega
  · rw [show IntKind.wrap .i64 (Int.tdiv ((-9223372036854775808 : Int) + 5) 10) = -922337203685477580 from by decide]; omega
  · rw [show IntKind.wrap .i64 (Int.tdiv ((-9223372036854775808 : Int) + 6) 10) = -922337203685477580 from by decide]; omega
  · rw [show IntKind.wrap .i64 (Int.tdiv ((-9223372036854775808 : Int) + 7) 10) = -922337203685477580 from by decide]; omega
  · rw [show IntKind.wrap .i64 (Int.tdiv ((-9223372036854775808 : Int) + 8) 10) = -922337203685477580 from by decide]; omega
  · rw [show IntKind.wrap .i64 (Int.tdiv ((-9223372036854775808 : Int) + 9) 10) = -922337203685477579 from by decide]; omega
theorem num_l0 (k : NumK) (s : List Int) (hs : byteOk s) : ∀ (m p : Nat) (n : Int), s.length - p < m → p ≤ s.length → -9223372036854775808 ≤ n → n ≤ 0 → script_reader_number_l0 k s m (n, p) = numL k (s.drop p) n
  | 0, _, _, h, _, _, _ => absurd h (Nat.not_lt_zero _)
  | m + 1, p, n, h, hp, hn, hn0 => by
    unfold script_reader_number_l0
    simp only [bnd_eq]
    by_cases hlt : p < s.length
    · rw [if_pos hlt, drop_cons hlt, numL]
      have hc := getD_byte hs p
      by_cases hd : isDig (s.getD p 0)
      · have hd' := hd
        unfold isDig at hd'
        obtain ⟨r1, r2⟩ := rune_low hs hlt (by omega)
        rw [r1, r2]
        generalize hcc : s.getD p 0 = c at *
        have hb : (decide (c < 48) || decide (c > 57)) = false := by simp; omega
        have w32 : IntKind.wrap .i32 (c - 48) = c - 48 := by simp [IntKind.wrap, IntKind.bits, IntKind.signed]; omega
        have w64 : IntKind.wrap .i64 (c - 48) = c - 48 := wrap_i64 (by omega) (by omega)
        rw [hb, w32, w64]
        simp only [Bool.false_eq_true, if_false]
        by_cases ho : -9223372036854775808 ≤ 10 * n - (c - 48)
        · rw [if_neg (by rw [decide_eq_true_eq, tdiv10 ⟨by omega, by omega⟩]; omega), if_pos ⟨hd, ho⟩]
          have e1 : IntKind.wrap .i64 (10 * n) = 10 * n := wrap_i64 (by omega) (by omega)
          rw [e1]
          have e2 : IntKind.wrap .i64 (10 * n - (c - 48)) = 10 * n - (c - 48) := wrap_i64 (by omega) (by omega)
          rw [e2]
          exact num_l0 k s hs m (p + 1) _ (by omega) (by omega) ho (by omega)
        · rw [if_pos (by rw [decide_eq_true_eq, tdiv10 ⟨by omega, by omega⟩]; omega), if_neg (fun h => ho h.2)]
      · have hr : rune s p < 48 ∨ rune s p > 57 := by
          by_cases h128 : s.getD p 0 < 128
          · rw [(rune_low hs hlt h128).1]; unfold isDig at hd; omega
          · have := rune_high hs hlt (by omega); omega
        have hb : (decide (rune s p < 48) || decide (rune s p > 57)) = true := by simpa using hr
        rw [hb, if_neg (c := isDig _ ∧ _) (fun h => hd h.1)]; simp
    · rw [if_neg hlt]
      have : s.drop p = [] := List.drop_eq_nil_of_le (by omega)
      rw [this, numL]
def negv (n : Int) (s : List Int) : Int := s.foldl (fun n c => 10 * n - (c - 48)) n
theorem negv_val (n : Int) (s : List Int) : negv n s = -(valD (-n) s) := by
  induction s generalizing n with
  | nil => simp [negv, valD]
  | cons c r ih =>
    show negv (10 * n - (c - 48)) r = -(valD (10 * -n + (c - 48)) r)
    rw [ih]
    congr 2; omega
theorem negv_le : ∀ (s : List Int) (n : Int), n ≤ 0 → (∀ c ∈ s, isDig c) → negv n s ≤ n
  | [], _, _, _ => Int.le_refl _
  | c :: r, n, hn, h => by
    have hc : isDig c := h c (by simp)
    unfold isDig at hc
    have := negv_le r (10 * n - (c - 48)) (by omega) (fun x hx => h x (by simp [hx]))
    show negv (10 * n - (c - 48)) r ≤ n
    omega
theorem numL_or (k : NumK) : ∀ (s : List Int) (n : Int), -9223372036854775808 ≤ n → n ≤ 0 → numL k s n = some none ∨ (numL k s n = k (negv n s) ∧ (∀ c ∈ s, isDig c) ∧ -9223372036854775808 ≤ negv n s ∧ negv n s ≤ 0)
  | [], n, h1, h2 => .inr ⟨rfl, by simp, h1, h2⟩
  | c :: r, n, h1, h2 => by
    unfold numL
    by_cases h : isDig c ∧ -9223372036854775808 ≤ 10 * n - (c - 48)
    · rw [if_pos h]
      have hc := h.1
      unfold isDig at hc
      rcases numL_or k r (10 * n - (c - 48)) h.2 (by omega) with h3 | ⟨h3, h4, h5, h6⟩
      · exact .inl h3
      · refine .inr ⟨h3, fun x hx => ?_, h5, h6⟩
        rcases List.mem_cons.1 hx with rfl | hx
        · exact h.1
        · exact h4 x hx
    · rw [if_neg h]; exact .inl rfl
theorem numL_ok (k : NumK) : ∀ (s : List Int) (n : Int), n ≤ 0 → (∀ c ∈ s, isDig c) → -9223372036854775808 ≤ negv n s → numL k s n = k (negv n s)
  | [], _, _, _, _ => rfl
  | c :: r, n, hn, h, hm => by
    have hc : isDig c := h c (by simp)
    have hc' := hc
    unfold isDig at hc'
    have hr : ∀ x ∈ r, isDig x := fun x hx => h x (by simp [hx])
    have := negv_le r (10 * n - (c - 48)) (by omega) hr
    have hm' : -9223372036854775808 ≤ negv (10 * n - (c - 48)) r := hm
    unfold numL
    rw [if_pos ⟨hc, by omega⟩, numL_ok k r _ (by omega) hr hm']
    rfl

/-! ### a reader's words -/
open Classical in
/-- the number that a word says -/
noncomputable def numS (t : List Int) : Option Int := if h : ∃ n, rng .i64 n ∧ itoaI n = t then some h.choose else none
theorem numS_some {n : Int} (h : rng .i64 n) : numS (itoaI n) = some n := by
  unfold numS
  have hx : ∃ m, rng .i64 m ∧ itoaI m = itoaI n := ⟨n, h, rfl⟩
  rw [dif_pos hx]
  exact congrArg some (itoaI_inj hx.choose_spec.2)
theorem numS_spec {t : List Int} {n : Int} (h : numS t = some n) : rng .i64 n ∧ itoaI n = t := by
  unfold numS at h
  split at h
  · rename_i hx
    simp only [Option.some.injEq] at h
    subst h
    exact hx.choose_spec
  · cases h

def nextS (ws : List Wd) (q : Bool) : Option (List Int × (List Wd × Unit)) := match ws with
  | [] => none
  | w :: r => if w.2.1 = q then some (w.1, (r, ())) else none
theorem next_eq (ws : List Wd) (hl : ws.length < 4294967296) (q : Bool) : script_reader_next (ws, ()) q = some (nextS ws q) := by
  unfold script_reader_next nextS
  simp only [bnd_eq]
  cases ws with
  | nil => rfl
  | cons w r =>
    obtain ⟨t, b, u⟩ := w
    have h0 : ((((t, b, u) :: r : List Wd).length : Int) == 0) = false := by simp; omega
    rw [h0]
    simp only [Bool.false_eq_true, if_false, List.getD_cons_zero]
    rw [if_pos ⟨by decide, by simp only [List.length_cons]; omega⟩]
    by_cases hq : b = q
    · subst hq
      simp only [bne_self_eq_false, Bool.false_eq_true, if_false, if_true]
      rw [if_pos ⟨by decide, by simp only [List.length_cons]; omega⟩, if_pos ⟨by decide, by simp only [List.length_cons]; omega, by omega⟩]
      simp
    · rw [if_pos (by simpa using hq), if_neg hq]
theorem name_eq (ws : List Wd) (hl : ws.length < 4294967296) : script_reader_name (ws, ()) = some (nextS ws false) := by
  unfold script_reader_name
  rw [next_eq ws hl, bind_eq]
  cases nextS ws false <;> rfl
theorem quote_eq (ws : List Wd) (hl : ws.length < 4294967296) : script_reader_quote (ws, ()) = some (nextS ws true) := by
  unfold script_reader_quote
  rw [next_eq ws hl, bind_eq]
  cases nextS ws true <;> rfl

noncomputable def numR (ws : List Wd) : Option (Int × (List Wd × Unit)) := (nextS ws false).bind fun p => (numS p.1).map fun n => (n, p.2)

/-- what the words are known for -/
def WdOk (ws : List Wd) : Prop := ws.length < 4294967296 ∧ ∀ w ∈ ws, byteOk w.1 ∧ w.1.length < 4294967296 ∧ (w.2.1 = false → w.1 ≠ [])

theorem number_eq (ws : List Wd) (hw : WdOk ws) : script_reader_number (ws, ()) = some (numR ws) := by
  unfold script_reader_number numR
  rw [name_eq ws hw.1, bind_eq]
  cases ws with
  | nil => rfl
  | cons w r =>
    obtain ⟨t, b, u⟩ := w
    obtain ⟨hb, hl, hne⟩ : byteOk t ∧ t.length < 4294967296 ∧ (b = false → t ≠ []) := hw.2 (t, b, u) (by simp)
    unfold nextS
    cases b with
    | true => rfl
    | false =>
      simp only [if_true, pb, Option.bind_some, bnd_eq]
      have hne := hne rfl
      rw [trim_eq, bind_eq]
      simp only [List.length_cons, List.length_nil, Nat.zero_add]
      -- the digits
      have hgood : ∀ (n : Int), itoaI n = t → ((strconv_FormatInt n 10).bind fun r8 => if (r8 != t) = true then (some none : Option (Option (Int × (List Wd × Unit)))) else some (some (n, (r, ())))) = some (some (n, (r, ()))) := by
        intro n he
        unfold strconv_FormatInt
        rw [if_pos rfl, bind_eq, he, if_neg (by simp)]
      have hbad : ∀ (n : Int), itoaI n ≠ t → ((strconv_FormatInt n 10).bind fun r8 => if (r8 != t) = true then (some none : Option (Option (Int × (List Wd × Unit)))) else some (some (n, (r, ())))) = some none := by
        intro n he
        unfold strconv_FormatInt
        rw [if_pos rfl, bind_eq, if_pos (by simpa using he)]
      have hnone : ∀ n, rng .i64 n → numS t = none → itoaI n ≠ t := fun n hn h he => by rw [← he, numS_some hn] at h; cases h
      have hpos : (0 : Int) ≤ 0 ∧ (0 : Int) < (t.length : Int) := ⟨by decide, by have := List.length_pos_iff.2 hne; omega⟩
      simp only [if_pos hpos]
      by_cases h45 : t.getD 0 0 = 45
      · -- below nought
        obtain ⟨s', rfl⟩ : ∃ s', t = 45 :: s' := by
          cases t with
          | nil => exact absurd rfl hne
          | cons c s' => simp at h45; exact ⟨s', by rw [h45]⟩
        have hs' := (byteOk_cons hb).2
        have e1 : (if ((45 :: s').take 1 == [45] && decide (1 ≤ (45 :: s').length)) = true then (45 :: s').drop 1 else 45 :: s') = s' := by simp
        rw [e1, num_l0 _ s' hs' _ 0 0 (by omega) (by omega) (by decide) (by decide), List.drop_zero]
        cases hS : numS (45 :: s') with
        | some m =>
          obtain ⟨hm, hi⟩ := numS_spec hS
          have hi2 := hi
          rw [itoaI_eq] at hi2
          by_cases hneg : m < 0
          · rw [if_pos hneg] at hi2
            simp only [List.cons.injEq, true_and] at hi2
            obtain ⟨d1, d2, d3⟩ := decI_all m.natAbs
            rw [hi2] at d1 d2
            have hv : negv 0 s' = m := by rw [negv_val]; simp only [Int.neg_zero]; rw [d2]; omega
            simp only [rng, lo, Sx.hi] at hm
            rw [numL_ok _ s' 0 (by decide) d1 (by rw [hv]; omega), hv]
            simp only [List.getD_cons_zero, bne_self_eq_false, Bool.false_eq_true, if_false]
            exact hgood m hi
          · rw [if_neg hneg] at hi2
            exact absurd hi2 (decI_nomin _ _)
        | none =>
          rcases numL_or _ s' 0 (by decide) (by decide) with h | ⟨h, h1, h2, h3⟩
          · rw [h]; rfl
          · rw [h]
            simp only [List.getD_cons_zero, bne_self_eq_false, Bool.false_eq_true, if_false]
            exact hbad _ (hnone _ (by simp only [rng, lo, Sx.hi]; omega) hS)
      · have e1 : (if (t.take 1 == [45] && decide (1 ≤ t.length)) = true then t.drop 1 else t) = t := by
          rw [if_neg]
          cases t with
          | nil => exact absurd rfl hne
          | cons c s' => simp at h45; simp [h45]
        have h45' : (t.getD 0 0 != 45) = true := by simpa using h45
        rw [e1, num_l0 _ t hb _ 0 0 (by rw [Nat.sub_zero]; exact Nat.lt_succ_self _) (Nat.zero_le _) (by decide) (by decide), List.drop_zero]
        simp only [if_pos h45']
        cases hS : numS t with
        | some m =>
          obtain ⟨hm, hi⟩ := numS_spec hS
          have hi2 := hi
          rw [itoaI_eq] at hi2
          by_cases hneg : m < 0
          · rw [if_pos hneg] at hi2
            rw [← hi2] at h45
            exact absurd rfl h45
          · rw [if_neg hneg] at hi2
            obtain ⟨d1, d2, d3⟩ := decI_all m.toNat
            rw [hi2] at d1 d2
            have hv : negv 0 t = -m := by rw [negv_val]; simp only [Int.neg_zero]; rw [d2]; omega
            simp only [rng, lo, Sx.hi] at hm
            rw [numL_ok _ t 0 (by decide) d1 (by rw [hv]; omega), hv]
            have w : IntKind.wrap .i64 (0 - -m) = m := by rw [wrap_i64 (by omega) (by omega)]; omega
            rw [if_neg (by simp; omega), w]
            exact hgood m hi
        | none =>
          rcases numL_or _ t 0 (by decide) (by decide) with h | ⟨h, h1, h2, h3⟩
          · rw [h]; rfl
          · rw [h]
            generalize negv 0 t = v at *
            by_cases hv : v = -9223372036854775808
            · rw [if_pos (by simpa using hv)]; rfl
            · rw [if_neg (by simpa using hv)]
              have w : IntKind.wrap .i64 (0 - v) = -v := by rw [wrap_i64 (by omega) (by omega)]; omega
              rw [w]
              exact hbad _ (hnone _ (by simp only [rng, lo, Sx.hi]; omega) hS)
end Sx
namespace Sx
open Go Go.RowKit

abbrev Fate := List Int × Int × Int × List Int × Unit
abbrev Step := Int × Int × Int × Int × List Int × List Int × List Int × List Fate × Unit
abbrev Wld := Int × Int × List (List Int) × List (List Int) × Int × Int × Unit
abbrev Cmd := Int × Wld × (Int × Int × Step × Unit) × Int × Int × Unit
abbrev Rd := List Wd × Unit
abbrev z32 : List Int := List.replicate 32 (0 : Int)
abbrev z2 : List (List Int) := List.replicate 2 ((List.replicate 32 (0 : Int)) : List (Int))
abbrev zStep : Step := (0, 0, 0, 0, z32, [], [], [], ())
abbrev zWld : Wld := (0, 0, z2, z2, 0, 0, ())

theorem pb_some {α β : Type} {o : Option α} {k : α → Option (Option β)} {F : α → Option β} (h : ∀ r, o = some r → k r = some (F r)) : pb o k = some (o.bind F) := by
  cases o with
  | none => rfl
  | some r => exact h r rfl
theorem ite_some {α : Type} {c : Prop} [Decidable c] {X Y : Option α} {A B : α} (h1 : c → X = some A) (h2 : ¬ c → Y = some B) : (if c then X else Y) = some (if c then A else B) := by
  by_cases h : c
  · rw [if_pos h, if_pos h]; exact h1 h
  · rw [if_neg h, if_neg h]; exact h2 h

theorem WdOk.tail {w : Wd} {r : List Wd} (h : WdOk (w :: r)) : WdOk r := ⟨by have := h.1; simp only [List.length_cons] at this; omega, fun x hx => h.2 x (by simp [hx])⟩
theorem next_ok {ws : List Wd} {q : Bool} {t : List Int} {r : Rd} (h : nextS ws q = some (t, r)) (hw : WdOk ws) : WdOk r.1 ∧ byteOk t ∧ t.length < 4294967296 ∧ ∃ w, ws = w :: r.1 := by
  cases ws with
  | nil => cases h
  | cons w ws =>
    unfold nextS at h
    simp only at h
    split at h
    · simp only [Option.some.injEq, Prod.mk.injEq] at h
      obtain ⟨rfl, rfl⟩ := h
      exact ⟨hw.tail, (hw.2 w (by simp)).1, (hw.2 w (by simp)).2.1, w, rfl⟩
    · cases h
theorem name_r (rd : Rd) (hw : WdOk rd.1) : script_reader_name rd = some (nextS rd.1 false) := name_eq rd.1 hw.1
theorem quote_r (rd : Rd) (hw : WdOk rd.1) : script_reader_quote rd = some (nextS rd.1 true) := quote_eq rd.1 hw.1
theorem number_r (rd : Rd) (hw : WdOk rd.1) : script_reader_number rd = some (numR rd.1) := number_eq rd.1 hw
theorem num_ok {ws : List Wd} {n : Int} {r : Rd} (h : numR ws = some (n, r)) (hw : WdOk ws) : WdOk r.1 := by
  unfold numR at h
  obtain ⟨⟨t, r2⟩, h1, h2⟩ := Option.bind_eq_some_iff.1 h
  obtain ⟨m, _, h3⟩ := Option.map_eq_some_iff.1 h2
  simp only [Prod.mk.injEq] at h3
  obtain ⟨rfl, rfl⟩ := h3
  exact (next_ok h1 hw).1
theorem count_r (rd : Rd) (hw : WdOk rd.1) : script_reader_count rd = some (numR rd.1) := by
  unfold script_reader_count
  rw [number_r rd hw, bind_eq]
  cases numR rd.1 <;> rfl

/-! ### hashes -/
def hexL : List Int → Option (List Int)
  | [] => some []
  | [_] => none
  | a :: b :: r => if hexd a < 0 ∨ hexd b < 0 then none else (hexL r).map fun h => (16 * hexd a + hexd b) :: h
def hashS (t : List Int) : Option (List Int) := if t.length = 64 then hexL t else none
def hashR (ws : List Wd) : Option (List Int × Rd) := (nextS ws false).bind fun p => (hashS p.1).map fun h => (h, p.2)
theorem set_rep (pre : List Int) (j : Nat) (x : Int) : List.set (pre ++ List.replicate (j + 1) 0) pre.length x = (pre ++ [x]) ++ List.replicate j 0 := by
  rw [List.set_append]
  simp [List.replicate_succ]
theorem hash_l0 (t : List Int) (r : Rd) (hb : byteOk t) (ht : t.length = 64) (K : List Int → Option (Option (List Int × Rd))) : ∀ (j i : Nat) (pre : List Int), i + j = 32 → pre.length = i →
    script_reader_hash_l0 (t, r) K (j + 1) ((i : Int), pre ++ List.replicate j 0) = match hexL (t.drop (2 * i)) with | none => some none | some h => K (pre ++ h)
  | 0, i, pre, hi, hp => by
    obtain rfl : i = 32 := by omega
    unfold script_reader_hash_l0
    rw [if_neg (by simp), List.drop_eq_nil_of_le (by omega)]
    simp [hexL]
  | j + 1, i, pre, hi, hp => by
    unfold script_reader_hash_l0
    simp only [bnd_eq]
    rw [if_pos (by simp; omega)]
    have w1 : IntKind.wrap .i64 (2 * (i : Int)) = ((2 * i : Nat) : Int) := by rw [wrap_i64 (by omega) (by omega)]; omega
    have w2 : IntKind.wrap .i64 (((2 * i : Nat) : Int) + 1) = ((2 * i + 1 : Nat) : Int) := by rw [wrap_i64 (by omega) (by omega)]; omega
    have w3 : IntKind.wrap .i64 ((i : Int) + 1) = ((i + 1 : Nat) : Int) := by rw [wrap_i64 (by omega) (by omega)]; omega
    rw [w1, w2, digit_eq t _ hb, digit_eq t _ hb]
    have g1 : t[2 * i]? = some (t.getD (2 * i) 0) := by simp [List.getD, show 2 * i < t.length by omega]
    have g2 : t[2 * i + 1]? = some (t.getD (2 * i + 1) 0) := by simp [List.getD, show 2 * i + 1 < t.length by omega]
    rw [g1, g2, drop_cons (show 2 * i < t.length by omega), drop_cons (show 2 * i + 1 < t.length by omega)]
    simp only [bind_eq, hexL]
    generalize t.getD (2 * i) 0 = a
    generalize t.getD (2 * i + 1) 0 = b
    by_cases hbad : hexd a < 0 ∨ hexd b < 0
    · rw [if_pos (by simpa using hbad), if_pos hbad]
    · rw [if_neg (by simpa using hbad), if_neg hbad, if_pos ⟨by omega, by omega⟩, w3, hex_byte (by omega) (by omega), Int.toNat_natCast]
      have e : List.set (pre ++ List.replicate (j + 1) 0) i (16 * hexd a + hexd b) = (pre ++ [16 * hexd a + hexd b]) ++ List.replicate j 0 := by rw [← hp]; exact set_rep pre j _
      rw [e, hash_l0 t r hb ht K j (i + 1) _ (by omega) (by simp [hp])]
      rw [show 2 * (i + 1) = 2 * i + 1 + 1 by omega]
      cases hexL (t.drop (2 * i + 1 + 1)) with
      | none => rfl
      | some h => simp
theorem hash_r (rd : Rd) (hw : WdOk rd.1) : script_reader_hash rd = some (hashR rd.1) := by
  unfold script_reader_hash hashR
  rw [name_r rd hw, bind_eq]
  refine pb_some fun p hp => ?_
  obtain ⟨t, r⟩ := p
  obtain ⟨_, hb, hl, _⟩ := next_ok hp hw
  simp only [bnd_eq, hashS]
  by_cases h64 : t.length = 64
  · rw [if_neg (by simp; omega), if_pos h64]
    have := hash_l0 t r hb h64 (fun o7 => some (some (o7, r))) 32 0 [] (by omega) rfl
    simp only [List.nil_append, Nat.mul_zero, List.drop_zero] at this
    have this2 : script_reader_hash_l0 (t, r) (fun o7 => some (some (o7, r))) (Int.toNat (32 - 0) + 1) (0, List.replicate 32 0) = _ := this
    rw [this2]
    cases hexL t <;> rfl
  · rw [if_pos (by simp; omega), if_neg h64]; rfl
theorem hash_ok {ws : List Wd} {h : List Int} {r : Rd} (e : hashR ws = some (h, r)) (hw : WdOk ws) : WdOk r.1 := by
  unfold hashR at e
  obtain ⟨⟨t, r2⟩, h1, h2⟩ := Option.bind_eq_some_iff.1 e
  obtain ⟨m, _, h3⟩ := Option.map_eq_some_iff.1 h2
  simp only [Prod.mk.injEq] at h3
  obtain ⟨rfl, rfl⟩ := h3
  exact (next_ok h1 hw).1

/-! ### fates -/
def kindF (t : List Int) : Option Int := if (t == [108, 111, 115, 116]) = true then some 0 else if (t == [107, 101, 112, 116]) = true then some 1 else if (t == [114, 101, 112, 108, 97, 99, 101]) = true then some 2 else none
/-- one fate -/
noncomputable def fateR (ws : List Wd) : Option (Fate × Rd) := (nextS ws false).bind fun p => (kindF p.1).bind fun k => (nextS p.2.1 true).bind fun f => (numR f.2.1).bind fun s =>
  if k = 2 then (nextS s.2.1 true).bind fun b => some ((f.1, s.1, k, b.1, ()), b.2) else some ((f.1, s.1, k, [], ()), s.2)
noncomputable def fatesF : Nat → List Wd → Option (List Fate)
  | 0, _ => none
  | _ + 1, [] => some []
  | m + 1, ws => (fateR ws).bind fun p => (fatesF m p.2.1).map fun l => p.1 :: l
theorem fate_ok {ws : List Wd} {f : Fate} {r : Rd} (h : fateR ws = some (f, r)) (hw : WdOk ws) : WdOk r.1 ∧ r.1.length < ws.length := by
  unfold fateR at h
  obtain ⟨⟨t, r1⟩, h1, h⟩ := Option.bind_eq_some_iff.1 h
  obtain ⟨k, _, h⟩ := Option.bind_eq_some_iff.1 h
  obtain ⟨⟨f1, r2⟩, h2, h⟩ := Option.bind_eq_some_iff.1 h
  obtain ⟨⟨s1, r3⟩, h3, h⟩ := Option.bind_eq_some_iff.1 h
  obtain ⟨w1, _, _, x1, e1⟩ := next_ok h1 hw
  obtain ⟨w2, _, _, x2, e2⟩ := next_ok h2 w1
  have h3' := h3
  unfold numR at h3'
  obtain ⟨⟨t4, r4⟩, g1, g2⟩ := Option.bind_eq_some_iff.1 h3'
  obtain ⟨m, _, g3⟩ := Option.map_eq_some_iff.1 g2
  simp only [Prod.mk.injEq] at g3
  obtain ⟨rfl, rfl⟩ := g3
  obtain ⟨w3, _, _, x3, e3⟩ := next_ok g1 w2
  simp only at e1 e2 e3 h
  split at h
  · obtain ⟨⟨b, r5⟩, h4, h⟩ := Option.bind_eq_some_iff.1 h
    simp only [Option.some.injEq, Prod.mk.injEq] at h
    obtain ⟨_, rfl⟩ := h
    obtain ⟨w4, _, _, x4, e4⟩ := next_ok h4 w3
    refine ⟨w4, ?_⟩
    rw [e1, e2, e3, e4]; simp only [List.length_cons]; omega
  · simp only [Option.some.injEq, Prod.mk.injEq] at h
    obtain ⟨_, rfl⟩ := h
    refine ⟨w3, ?_⟩
    rw [e1, e2, e3]; simp only [List.length_cons]; omega
theorem fates_l0 : ∀ (m : Nat) (ws : List Wd) (acc : List Fate), ws.length < m → WdOk ws → acc.length + ws.length ≤ 4294967296 →
    script_reader_fates_l0 (fun o2 => some (some (o2.1, o2.2))) m ((ws, ()), acc) = some ((fatesF m ws).map fun l => (acc ++ l, ([], ())))
  | 0, _, _, h, _, _ => absurd h (Nat.not_lt_zero _)
  | m + 1, [], acc, _, _, _ => by
    unfold script_reader_fates_l0
    rw [if_neg (by simp)]
    simp [fatesF]
  | m + 1, w :: ws, acc, hm, hw, hacc => by
    have hz : (decide (((((w :: ws, ()), acc) : Rd × List Fate).1.1.length : Int) > 0)) = true := by simp <;> omega
    have last : ∀ (f : Fate) (r : Rd), fateR (w :: ws) = some (f, r) →
        (if (acc.length + [f].length) * 48 ≤ 140737488355328 then script_reader_fates_l0 (fun o2 => some (some (o2.1, o2.2))) m (r, acc ++ [f]) else none) = some ((fatesF m r.1).map fun l => (acc ++ f :: l, ([], ()))) := by
      intro f r hf
      obtain ⟨h1, h2⟩ := fate_ok hf hw
      simp only [List.length_cons] at hm hacc h2
      rw [if_pos (by simp only [List.length_cons, List.length_nil]; omega)]
      have := fates_l0 m r.1 (acc ++ [f]) (by omega) h1 (by simp; omega)
      rw [show ((r.1, ()) : Rd) = r from rfl] at this
      rw [this]
      simp
    have e : fatesF (m + 1) (w :: ws) = (fateR (w :: ws)).bind fun p => (fatesF m p.2.1).map fun l => p.1 :: l := rfl
    have e2 : ((fatesF (m + 1) (w :: ws)).map fun l => (acc ++ l, (([], ()) : Rd))) = (fateR (w :: ws)).bind fun p => (fatesF m p.2.1).map fun l => (acc ++ p.1 :: l, (([], ()) : Rd)) := by
      rw [e]; cases fateR (w :: ws) with
      | none => rfl
      | some p => simp [Option.map_map, Function.comp_def]
    rw [e2]
    unfold script_reader_fates_l0
    rw [if_pos hz]
    simp only [bnd_eq]
    generalize hF : fateR (w :: ws) = F at last ⊢
    unfold fateR at hF
    rw [name_r _ hw, bind_eq]
    simp only
    cases h1 : nextS (w :: ws) false with
    | none => rw [h1] at hF; subst hF; rfl
    | some p1 =>
      obtain ⟨w1, _⟩ := next_ok h1 hw
      rw [h1] at hF
      simp only [Option.bind_some] at hF
      simp only [pb]
      have body : ∀ k : Int, kindF p1.1 = some k → ((script_reader_quote p1.2).bind fun or13 => pb or13 fun r13 => (script_reader_count r13.2).bind fun or14 => pb or14 fun r14 =>
          if (k == 2) = true then (script_reader_quote r14.2).bind fun or19 => pb or19 fun r19 =>
            (if (acc.length + [((r13.1, r14.1, k, r19.1, ()) : Fate)].length) * 48 ≤ 140737488355328 then script_reader_fates_l0 (fun o2 => some (some (o2.1, o2.2))) m (r19.2, acc ++ [(r13.1, r14.1, k, r19.1, ())]) else none)
          else (if (acc.length + [((r13.1, r14.1, k, [], ()) : Fate)].length) * 48 ≤ 140737488355328 then script_reader_fates_l0 (fun o2 => some (some (o2.1, o2.2))) m (r14.2, acc ++ [(r13.1, r14.1, k, [], ())]) else none)) =
          some (F.bind fun p => (fatesF m p.2.1).map fun l => (acc ++ p.1 :: l, (([], ()) : Rd))) := by
        intro k hk
        rw [hk] at hF
        simp only [Option.bind_some] at hF
        rw [quote_r _ w1, bind_eq]
        cases h2 : nextS p1.2.1 true with
        | none => rw [h2] at hF; subst hF; rfl
        | some p2 =>
          obtain ⟨w2, _⟩ := next_ok h2 w1
          rw [h2] at hF
          simp only [Option.bind_some] at hF
          simp only [pb]
          rw [count_r _ w2, bind_eq]
          cases h3 : numR p2.2.1 with
          | none => rw [h3] at hF; subst hF; rfl
          | some p3 =>
            have w3 := num_ok h3 w2
            rw [h3] at hF
            simp only [Option.bind_some] at hF
            simp only [pb]
            by_cases hk2 : k = 2
            · subst hk2
              rw [if_pos rfl] at hF
              rw [if_pos (by decide)]
              rw [quote_r _ w3, bind_eq]
              cases h4 : nextS p3.2.1 true with
              | none => rw [h4] at hF; subst hF; rfl
              | some p4 =>
                rw [h4] at hF
                simp only [Option.bind_some] at hF
                subst hF
                simp only [pb, Option.bind_some]
                exact last _ _ rfl
            · rw [if_neg hk2] at hF
              rw [if_neg (by simpa using hk2)]
              subst hF
              exact last _ _ rfl
      unfold kindF at body hF
      by_cases c1 : (p1.1 == [108, 111, 115, 116]) = true
      · rw [if_pos c1]; exact body 0 (by rw [if_pos c1])
      · rw [if_neg c1]
        by_cases c2 : (p1.1 == [107, 101, 112, 116]) = true
        · rw [if_pos c2]; exact body 1 (by rw [if_neg c1, if_pos c2])
        · rw [if_neg c2]
          by_cases c3 : (p1.1 == [114, 101, 112, 108, 97, 99, 101]) = true
          · rw [if_pos c3]; exact body 2 (by rw [if_neg c1, if_neg c2, if_pos c3])
          · rw [if_neg c3]
            rw [if_neg c1, if_neg c2, if_neg c3] at hF
            subst hF; rfl
noncomputable def fatesR (ws : List Wd) : Option (List Fate × Rd) := (fatesF (ws.length + 1) ws).map fun l => (l, ([], ()))
theorem fates_r (rd : Rd) (hw : WdOk rd.1) : script_reader_fates rd = some (fatesR rd.1) := by
  unfold script_reader_fates fatesR
  simp only [bnd_eq]
  have := fates_l0 (rd.1.length + 1) rd.1 [] (by omega) hw (by have := hw.1; simp; omega)
  simpa using this
end Sx
namespace Sx
open Go Go.RowKit

/-! ### kinds by their word -/
def bareK (w : List Int) : Option Int := if w = [] then some 1 else if w = [115, 105, 103, 110] then some 4 else if w = [99, 108, 111, 115, 101] then some 5 else if w = [99, 111, 110, 110, 101, 99, 116] then some 6
  else if w = [100, 105, 115, 99, 111, 110, 110, 101, 99, 116] then some 7 else if w = [99, 104, 101, 99, 107, 112, 111, 105, 110, 116] then some 9 else if w = [111, 112, 101, 110] then some 13 else none
def askK (w : List Int) : Option Int := if w = [] then some 1 else if w = [115, 116, 97, 116, 101] then some 4 else if w = [108, 101, 100, 103, 101, 114] then some 5 else if w = [109, 97, 114, 107] then some 6 else if w = [112, 105, 112, 101] then some 7 else if w = [102, 105, 108, 101, 115] then some 8 else none
theorem eqc {x w : List Int} {α : Type} {A B : α} : (if (x == w) = true then A else B) = if w = x then A else B := by
  by_cases h : w = x
  · rw [if_pos h, if_pos (by simp [h])]
  · rw [if_neg h, if_neg (by simpa using fun e => h e.symm)]
theorem bare_eq (w : List Int) : script_kindOf_bare 13 w = some (bareK w) := by
  unfold script_kindOf_bare
  simp only [bnd_eq]
  have e : Int.toNat (13 + 1 - 1) + 1 = 14 := rfl
  rw [e]
  simp (decide := true) only [script_kindOf_bare_l0, script_bare, bnd_eq, bind_eq, if_true, if_false, eqc, IntKind.wrap, IntKind.bits, IntKind.signed]
  unfold bareK
  by_cases h : w = []
  · simp [h]
  · simp only [h, if_false]
    repeat' (first | (split <;> try rfl))
theorem ask_eq (w : List Int) : script_kindOf_question 8 w = some (askK w) := by
  unfold script_kindOf_question
  simp only [bnd_eq]
  have e : Int.toNat (8 + 1 - 1) + 1 = 9 := rfl
  rw [e]
  simp (decide := true) only [script_kindOf_question_l0, script_question, bnd_eq, bind_eq, if_true, if_false, eqc, IntKind.wrap, IntKind.bits, IntKind.signed]
  unfold askK
  by_cases h : w = []
  · simp [h]
  · simp only [h, if_false]
    repeat' (first | (split <;> try rfl))

/-! ### steps and commands -/
noncomputable def stepR (ws : List Wd) : Option (Step × Rd) := (nextS ws false).bind fun r2 => if (r2.1 == [111, 102, 102, 101, 114]) = true then ((numR r2.2.1).bind fun r3 => (hashR r3.2.1).bind fun r4 => some ((1, r3.1, 0, 0, r4.1, [], [], [], ()), r4.2)) else (if (r2.1 == [115, 101, 116, 116, 108, 101]) = true then ((numR r2.2.1).bind fun r5 => (hashR r5.2.1).bind fun r6 => some ((2, 0, r5.1, 0, r6.1, [], [], [], ()), r6.2)) else (if (r2.1 == [114, 101, 102, 117, 115, 101]) = true then ((numR r2.2.1).bind fun r7 => (nextS r7.2.1 true).bind fun r8 => some ((3, 0, r7.1, 0, z32, r8.1, [], [], ()), r8.2)) else (if (r2.1 == [116, 97, 107, 101]) = true then ((nextS r2.2.1 true).bind fun r9 => some ((8, 0, 0, 0, z32, [], r9.1, [], ()), r9.2)) else (if (r2.1 == [97, 114, 109]) = true then ((numR r2.2.1).bind fun r10 => some ((10, 0, 0, r10.1, z32, [], [], [], ()), r10.2)) else (if (r2.1 == [102, 97, 108, 108]) = true then ((numR r2.2.1).bind fun r11 => some ((11, 0, 0, r11.1, z32, [], [], [], ()), r11.2)) else (if (r2.1 == [99, 114, 97, 115, 104]) = true then ((numR r2.2.1).bind fun r12 => (fatesR r12.2.1).bind fun r13 => some ((12, 0, 0, r12.1, z32, [], [], r13.1, ()), r13.2)) else ((bareK r2.1).bind fun r15 => some ((r15, 0, 0, 0, z32, [], [], [], ()), r2.2))))))))
theorem step_r (rd : Rd) (hw : WdOk rd.1) : script_reader_step rd = some (stepR rd.1) := by
  unfold script_reader_step stepR
  rw [name_r rd hw, bind_eq]
  refine pb_some fun r2 h2 => ?_
  have w2 := (next_ok h2 hw).1
  refine ite_some (fun _ => ?_) (fun _ => ?_)
  · rw [number_r _ w2, bind_eq]; refine pb_some fun r3 h3 => ?_
    have w3 := num_ok h3 w2
    rw [hash_r _ w3, bind_eq]; exact pb_some fun r4 h4 => rfl
  refine ite_some (fun _ => ?_) (fun _ => ?_)
  · rw [number_r _ w2, bind_eq]; refine pb_some fun r3 h3 => ?_
    have w3 := num_ok h3 w2
    rw [hash_r _ w3, bind_eq]; exact pb_some fun r4 h4 => rfl
  refine ite_some (fun _ => ?_) (fun _ => ?_)
  · rw [number_r _ w2, bind_eq]; refine pb_some fun r3 h3 => ?_
    have w3 := num_ok h3 w2
    rw [quote_r _ w3, bind_eq]; exact pb_some fun r4 h4 => rfl
  refine ite_some (fun _ => ?_) (fun _ => ?_)
  · rw [quote_r _ w2, bind_eq]; exact pb_some fun r4 h4 => rfl
  refine ite_some (fun _ => ?_) (fun _ => ?_)
  · rw [number_r _ w2, bind_eq]; exact pb_some fun r4 h4 => rfl
  refine ite_some (fun _ => ?_) (fun _ => ?_)
  · rw [number_r _ w2, bind_eq]; exact pb_some fun r4 h4 => rfl
  refine ite_some (fun _ => ?_) (fun _ => ?_)
  · rw [number_r _ w2, bind_eq]; refine pb_some fun r3 h3 => ?_
    have w3 := num_ok h3 w2
    rw [fates_r _ w3, bind_eq]; exact pb_some fun r4 h4 => rfl
  · rw [bare_eq, bind_eq]; exact pb_some fun r4 h4 => rfl
noncomputable def cmdR (ws : List Wd) : Option (Cmd × Rd) := (nextS ws false).bind fun r2 => if (r2.1 == [119, 111, 114, 108, 100]) = true then ((numR r2.2.1).bind fun r4 => (numR r4.2.1).bind fun r5 => (numR r5.2.1).bind fun r6 => (numR r6.2.1).bind fun r7 => (hashR r7.2.1).bind fun r8 => (hashR r8.2.1).bind fun r9 => (hashR r9.2.1).bind fun r10 => (hashR r10.2.1).bind fun r11 => some ((1, (r4.1, r5.1, [r8.1, r9.1], [r10.1, r11.1], r6.1, r7.1, ()), (0, 0, zStep, ()), 0, 0, ()), r11.2)) else (if (r2.1 == [115, 116, 101, 112]) = true then ((numR r2.2.1).bind fun r12 => (stepR r12.2.1).bind fun r13 => some ((2, zWld, (1, r12.1, r13.1, ()), 0, 0, ()), r13.2)) else (if (r2.1 == [106, 111, 105, 110]) = true then (some ((2, zWld, (2, 0, zStep, ()), 0, 0, ()), r2.2)) else (if (r2.1 == [99, 117, 116]) = true then (some ((2, zWld, (3, 0, zStep, ()), 0, 0, ()), r2.2)) else (if (r2.1 == [100, 101, 108, 105, 118, 101, 114]) = true then ((numR r2.2.1).bind fun r14 => some ((2, zWld, (4, r14.1, zStep, ()), 0, 0, ()), r14.2)) else (if (r2.1 == [108, 111, 115, 101]) = true then ((numR r2.2.1).bind fun r15 => some ((2, zWld, (5, r15.1, zStep, ()), 0, 0, ()), r15.2)) else (if (r2.1 == [113, 117, 105, 101, 116]) = true then ((numR r2.2.1).bind fun r16 => some ((3, zWld, (0, 0, zStep, ()), r16.1, 0, ()), r16.2)) else (if (r2.1 == [106, 111, 105, 110, 101, 100]) = true then (some ((9, zWld, (0, 0, zStep, ()), 0, 0, ()), r2.2)) else ((askK r2.1).bind fun r17 => (numR r2.2.1).bind fun r18 => some ((r17, zWld, (0, 0, zStep, ()), 0, r18.1, ()), r18.2)))))))))
theorem cmd_r (rd : Rd) (hw : WdOk rd.1) : script_reader_command rd = some (cmdR rd.1) := by
  unfold script_reader_command cmdR
  rw [name_r rd hw, bind_eq]
  refine pb_some fun r2 h2 => ?_
  have w2 := (next_ok h2 hw).1
  refine ite_some (fun _ => ?_) (fun _ => ?_)
  · rw [number_r _ w2, bind_eq]; refine pb_some fun r4 h4 => ?_
    have w4 := num_ok h4 w2
    rw [number_r _ w4, bind_eq]; refine pb_some fun r5 h5 => ?_
    have w5 := num_ok h5 w4
    rw [count_r _ w5, bind_eq]; refine pb_some fun r6 h6 => ?_
    have w6 := num_ok h6 w5
    rw [count_r _ w6, bind_eq]; refine pb_some fun r7 h7 => ?_
    have w7 := num_ok h7 w6
    rw [hash_r _ w7, bind_eq]; refine pb_some fun r8 h8 => ?_
    have w8 := hash_ok h8 w7
    rw [hash_r _ w8, bind_eq]; refine pb_some fun r9 h9 => ?_
    have w9 := hash_ok h9 w8
    rw [if_pos ⟨by decide, by decide⟩, if_pos ⟨by decide, by decide⟩, hash_r _ w9, bind_eq]; refine pb_some fun r10 h10 => ?_
    have w10 := hash_ok h10 w9
    rw [hash_r _ w10, bind_eq]; refine pb_some fun r11 h11 => ?_
    rw [if_pos ⟨by decide, by decide⟩, if_pos ⟨by decide, by decide⟩]
    rfl
  refine ite_some (fun _ => ?_) (fun _ => ?_)
  · rw [count_r _ w2, bind_eq]; refine pb_some fun r3 h3 => ?_
    have w3 := num_ok h3 w2
    rw [step_r _ w3, bind_eq]; exact pb_some fun r4 h4 => rfl
  refine ite_some (fun _ => rfl) (fun _ => ?_)
  refine ite_some (fun _ => rfl) (fun _ => ?_)
  refine ite_some (fun _ => ?_) (fun _ => ?_)
  · rw [count_r _ w2, bind_eq]; exact pb_some fun r4 h4 => rfl
  refine ite_some (fun _ => ?_) (fun _ => ?_)
  · rw [count_r _ w2, bind_eq]; exact pb_some fun r4 h4 => rfl
  refine ite_some (fun _ => ?_) (fun _ => ?_)
  · rw [number_r _ w2, bind_eq]; exact pb_some fun r4 h4 => rfl
  refine ite_some (fun _ => rfl) (fun _ => ?_)
  rw [ask_eq, bind_eq]; refine pb_some fun r4 h4 => ?_
  rw [count_r _ w2, bind_eq]; exact pb_some fun r5 h5 => rfl

/-! ### the whole text -/
theorem wrds_ok : ∀ (n : Nat) (s : List Int), s.length ≤ n → byteOk s → ∀ ws, wrds s = some ws → ws ≠ [] ∧ ws.length ≤ s.length ∧ ∀ w ∈ ws, byteOk w.1 ∧ w.1.length ≤ s.length ∧ (w.2.1 = false → w.1 ≠ []) := by
  intro n
  induction n with
  | zero =>
    intro s hl hs ws h
    obtain rfl := List.length_eq_zero_iff.1 (Nat.le_zero.1 hl)
    rw [wrds_eq hs] at h
    simp [word1] at h
  | succ n ih =>
    intro s hl hs ws h
    rw [wrds_eq hs] at h
    cases hw : word1 s with
    | none => rw [hw] at h; cases h
    | some x =>
      obtain ⟨w, r⟩ := x
      rw [hw] at h
      obtain ⟨p, rfl, hp, hr, hb, hwl, hne⟩ := word1_rest hs hw
      have hw0 : byteOk w.1 ∧ w.1.length ≤ (p ++ r).length ∧ (w.2.1 = false → w.1 ≠ []) := ⟨hb, by simp; omega, fun e => (hne e).1⟩
      cases r with
      | nil =>
        simp only [Option.some.injEq] at h
        subst h
        refine ⟨by simp, by simp; omega, fun x hx => ?_⟩
        obtain rfl := List.mem_singleton.1 hx
        exact hw0
      | cons c r =>
        simp only at h
        split at h
        · obtain ⟨ws', h1, rfl⟩ := Option.map_eq_some_iff.1 h
          obtain ⟨_, hr⟩ := byteOk_cons hr
          simp only [List.length_append, List.length_cons] at hl
          obtain ⟨_, g1, g2⟩ := ih r (by omega) hr ws' h1
          refine ⟨by simp, by simp; omega, fun x hx => ?_⟩
          rcases List.mem_cons.1 hx with rfl | hx
          · exact hw0
          · obtain ⟨q1, q2, q3⟩ := g2 x hx
            exact ⟨q1, by simp; omega, q3⟩
        · cases h
theorem wrds_WdOk {s : List Int} (hs : byteOk s) (hl : s.length < 4294967281) {ws : List Wd} (h : wrds s = some ws) : WdOk ws := by
  obtain ⟨_, h1, h2⟩ := wrds_ok _ s (Nat.le_refl _) hs ws h
  exact ⟨by omega, fun w hw => by obtain ⟨a, b, c⟩ := h2 w hw; exact ⟨a, by omega, c⟩⟩

/-- what a line says -/
noncomputable def lineS (s : List Int) : Option Cmd := (wrds s).bind fun ws => (cmdR ws).bind fun p => if p.2.1 = [] then some p.1 else none
/-- a line that says nothing -/
def mute (s : List Int) : Prop := s = [] ∨ s.headD 0 = 35
instance (s : List Int) : Decidable (mute s) := by unfold mute; exact inferInstance
noncomputable def linesS : List (List Int) → Option (List Cmd)
  | [] => some []
  | s :: r => if mute s then linesS r else (lineS s).bind fun c => (linesS r).map fun l => c :: l
/-- the lines that count -/
def lnsE (t : List Int) : List (List Int) := if (lns t).getLastD [] = [] then (lns t).dropLast else lns t
def longS (t : List Int) : Bool := decide (65536 < t.length) || ((lnsE t).any fun x => decide (4096 < x.length)) || decide (1024 < (lnsE t).length)
noncomputable def parseS (t : List Int) : List Cmd × Int := if longS t then ([], 3) else match linesS (lns t) with | none => ([], 250) | some l => (l, 0)

theorem long_l0 (l : List (List Int)) (hl : l.length < 4294967296) (K : Unit → Option Bool) : ∀ (m i : Nat), i + m = l.length → script_long_l0 l K (m + 1) (i : Int) = if (l.drop i).any (fun x => decide (4096 < x.length)) then some true else K ()
  | 0, i, h => by
    unfold script_long_l0
    rw [if_neg (by simp; omega), List.drop_eq_nil_of_le (by omega)]; rfl
  | m + 1, i, h => by
    unfold script_long_l0
    rw [if_pos (by simp; omega), if_pos ⟨by omega, by omega⟩]
    simp only [bnd_eq, Int.toNat_natCast]
    have hi : i < l.length := by omega
    have e : l.drop i = l.getD i [] :: l.drop (i + 1) := by rw [List.drop_eq_getElem_cons hi]; simp [List.getD, hi]
    have w : IntKind.wrap .i64 ((i : Int) + 1) = ((i + 1 : Nat) : Int) := by rw [wrap_i64 (by omega) (by omega)]; omega
    rw [e, List.any_cons, w, long_l0 l hl K m (i + 1) (by omega)]
    generalize l.getD i [] = x
    by_cases h4 : 4096 < x.length
    · rw [if_pos (by simp; omega)]; simp [h4]
    · rw [if_neg (by simp; omega)]
      have : decide (4096 < x.length) = false := by simpa using h4
      rw [this, Bool.false_or]
theorem lns_len (t : List Int) : (lns t).length ≤ t.length + 1 := by
  induction t with
  | nil => simp [lns]
  | cons b l ih =>
    unfold lns
    split
    · simp; omega
    · split
      · simp
      · rename_i x r h
        rw [h] at ih
        simp only [List.length_cons] at ih ⊢; omega
theorem lns_parts {t : List Int} : ∀ x ∈ lns t, x.length ≤ t.length := by
  induction t with
  | nil => intro x hx; simp [lns] at hx; subst hx; simp
  | cons b l ih =>
    intro x hx
    unfold lns at hx
    split at hx
    · rcases List.mem_cons.1 hx with rfl | hx
      · simp
      · have := ih x hx; simp; omega
    · split at hx
      · simp at hx; subst hx; simp
      · rename_i y r hy
        rcases List.mem_cons.1 hx with rfl | hx
        · have := ih y (by rw [hy]; simp); simp; omega
        · have := ih x (by rw [hy]; simp [hx]); simp; omega
theorem long_eq {t : List Int} (ht : byteOk t) : script_long t = some (longS t) := by
  unfold script_long longS
  by_cases h : 65536 < t.length
  · rw [if_pos (by simp; omega)]; simp [h]
  · rw [if_neg (by simp; omega), split_eq t ht (by omega), bind_eq]
    simp only [bnd_eq]
    have hne := List.length_pos_iff.2 (lns_ne t)
    have hll := lns_len t
    have w : IntKind.wrap .i64 (((lns t).length : Int) - 1) = (((lns t).length - 1 : Nat) : Int) := by rw [wrap_i64 (by omega) (by omega)]; omega
    rw [w, if_pos ⟨by omega, by omega⟩, Int.toNat_natCast]
    have hd : decide (65536 < t.length) = false := by simpa using h
    rw [hd, Bool.false_or]
    have hlast : (lns t).getD ((lns t).length - 1) [] = (lns t).getLastD [] := by
      rw [List.getLastD_eq_getLast?, List.getLast?_eq_getElem?]; rfl
    rw [hlast]
    have fin : ∀ l : List (List Int), l.length ≤ t.length + 1 → script_long_l0 l (fun _ => some (decide ((l.length : Int) > 1024))) (Int.toNat ((l.length : Int) - 0) + 1) 0 = some ((l.any fun x => decide (4096 < x.length)) || decide (1024 < l.length)) := by
      intro l hl
      have := long_l0 l (by omega) (fun _ => some (decide ((l.length : Int) > 1024))) l.length 0 (by omega)
      have e : Int.toNat ((l.length : Int) - 0) + 1 = l.length + 1 := by omega
      rw [e, show (0 : Int) = ((0 : Nat) : Int) from rfl, this, List.drop_zero]
      by_cases ha : (l.any fun x => decide (4096 < x.length)) = true
      · rw [if_pos ha, ha]; rfl
      · rw [if_neg ha]
        have : (l.any fun x => decide (4096 < x.length)) = false := by simpa using ha
        rw [this, Bool.false_or]
        congr 1
        apply Bool.eq_iff_iff.2
        simp; omega
    unfold lnsE
    by_cases he : (lns t).getLastD [] = []
    · rw [if_pos (by simpa using he), if_pos he, if_pos ⟨by decide, by omega, by omega⟩]
      rw [List.drop_zero, ← List.dropLast_eq_take]
      exact fin _ (by simp; omega)
    · rw [if_neg (by simpa using he), if_neg he]
      exact fin _ hll

theorem parse_l0 (L : List (List Int)) (hL : L.length < 4294967296) (hb : ∀ s ∈ L, byteOk s ∧ s.length < 4294967281) : ∀ (m i : Nat) (acc : List Cmd), i + m = L.length → acc.length ≤ i →
    (script_Parse_in_l0 (fun o5 => some (some (o5, 0))) L (m + 1) ((i : Int), acc)).map (fun o => o.getD ([], 250)) = some (match linesS (L.drop i) with | none => ([], 250) | some l => (acc ++ l, 0))
  | 0, i, acc, h, ha => by
    unfold script_Parse_in_l0
    rw [if_neg (by simp; omega), List.drop_eq_nil_of_le (by omega)]
    simp [linesS]
  | m + 1, i, acc, h, ha => by
    unfold script_Parse_in_l0
    rw [if_pos (by simp; omega)]
    simp only [bnd_eq, Int.toNat_natCast]
    have hi : i < L.length := by omega
    rw [if_pos ⟨by omega, by omega⟩]
    have e : L.drop i = L.getD i [] :: L.drop (i + 1) := by rw [List.drop_eq_getElem_cons hi]; simp [List.getD, hi]
    have w : IntKind.wrap .i64 ((i : Int) + 1) = ((i + 1 : Nat) : Int) := by rw [wrap_i64 (by omega) (by omega)]; omega
    have hs := hb (L.getD i []) (by rw [show L.getD i [] = L[i] by simp [List.getD, hi]]; exact List.getElem_mem hi)
    rw [e, linesS, w]
    generalize L.getD i [] = s at hs
    have ih := fun acc h => parse_l0 L hL hb m (i + 1) acc (by omega) h
    by_cases hm : mute s
    · rw [if_pos hm]
      rcases hm with rfl | h35
      · simp only [beq_self_eq_true, if_true]
        exact ih acc (by omega)
      · cases s with
        | nil => simp at h35
        | cons c r =>
          simp only [List.headD_cons] at h35
          subst h35
          have e1 : ((35 :: r : List Int) == []) = false := rfl
          rw [e1]
          simp only [Bool.false_eq_true, if_false]
          rw [if_pos ⟨by decide, by simp only [List.length_cons]; omega⟩]
          simp only [List.getD_cons_zero, beq_self_eq_true, if_true]
          exact ih acc (by omega)
    · rw [if_neg hm]
      unfold mute at hm
      rw [not_or] at hm
      have e1 : (s == []) = false := by simpa using hm.1
      rw [e1]
      simp only [Bool.false_eq_true, if_false]
      have hpos := List.length_pos_iff.2 hm.1
      rw [if_pos ⟨by decide, by omega⟩]
      have e2 : (s.getD 0 0 == 35) = false := by
        cases s with
        | nil => simp at hpos
        | cons c r => simpa using hm.2
      rw [e2]
      simp only [Bool.false_eq_true, if_false]
      rw [words_eq hs.1 hs.2, bind_eq]
      unfold lineS
      cases hw : wrds s with
      | none => rfl
      | some ws =>
        have hok := wrds_WdOk hs.1 hs.2 hw
        simp only [pb, Option.bind_some]
        rw [cmd_r (ws, ()) hok, bind_eq]
        cases hc : cmdR ws with
        | none => rfl
        | some p =>
          obtain ⟨c, r⟩ := p
          simp only [pb, Option.bind_some]
          rw [if_pos (by simp only [List.length_cons, List.length_nil]; omega)]
          by_cases hr : r.1 = []
          · rw [if_neg (by rw [hr]; simp), if_pos hr]
            rw [ih (acc ++ [c]) (by simp; omega)]
            simp only [Option.bind_some]
            cases linesS (L.drop (i + 1)) with
            | none => rfl
            | some l => simp
          · have := List.length_pos_iff.2 hr
            rw [if_pos (by simp; omega), if_neg hr]; rfl
/-- Parse is what the definition says -/
theorem parse_eq {t : List Int} (ht : byteOk t) : script_Parse t = some (parseS t) := by
  unfold script_Parse script_Parse_in parseS
  rw [long_eq ht, bind_eq]
  by_cases h : longS t = true
  · rw [if_pos h, if_pos h]; rfl
  · rw [if_neg h, if_neg h]
    simp only [bnd_eq]
    have hlen : t.length ≤ 65536 := by
      unfold longS at h
      simp only [Bool.or_eq_true, not_or, decide_eq_true_eq] at h
      omega
    rw [split_eq t ht (by omega), bind_eq]
    have hll := lns_len t
    have := parse_l0 (lns t) (by omega) (fun s hs => ⟨lns_ok ht s hs, by have := lns_parts s hs; omega⟩) (lns t).length 0 [] (by omega) (by simp)
    have e : Int.toNat (((lns t).length : Int) - 0) + 1 = (lns t).length + 1 := by omega
    rw [e, show (0 : Int) = ((0 : Nat) : Int) from rfl] 
    rw [List.drop_zero] at this
    simp only [List.nil_append] at this
    exact this
end Sx
namespace Sx
open Go
example : itoaI 12 = [49, 50] := by decide +kernel
theorem head_true : escrowlaw25_head = some true := by kernel_rfl
end Sx
namespace Sx
open Go Go.RowKit

def HEX : List Int := [48, 49, 50, 51, 52, 53, 54, 55, 56, 57, 97, 98, 99, 100, 101, 102]
def hxc (n : Nat) : Int := HEX.getD n 0
theorem hxc_all : ∀ n : Fin 16, hexd (hxc n.val) = (n.val : Int) ∧ 48 ≤ hxc n.val ∧ hxc n.val ≤ 102 := by decide +kernel
def escx (c : Int) : List Int := [92, 120, hxc (c.toNat / 16), hxc (c.toNat % 16)]
def esc (c : Int) : List Int := if c = 34 ∨ c = 92 then [92, c] else if 32 ≤ c ∧ c ≤ 126 then [c] else escx c
theorem nib : ∀ c : Fin 256, ishr .u8 (c.val : Int) 4 = ((c.val / 16 : Nat) : Int) ∧ iand .u8 (c.val : Int) 15 = ((c.val % 16 : Nat) : Int) := by decide +kernel
theorem nib_eq {c : Int} (h : 0 ≤ c ∧ c < 256) : ishr .u8 c 4 = ((c.toNat / 16 : Nat) : Int) ∧ iand .u8 c 15 = ((c.toNat % 16 : Nat) : Int) := by
  have := nib ⟨c.toNat, by omega⟩
  simp only at this
  rwa [show ((c.toNat : Nat) : Int) = c by omega] at this

theorem quote_l0 (s : List Int) (hs : byteOk s) (hl : s.length < 4294967296) (K : List Int → Option (List Int)) : ∀ (m i : Nat) (acc : List Int), i + m = s.length → acc.length ≤ 4 * i + 1 → script_Quote_l0 s K (m + 1) ((i : Int), acc) = K (acc ++ (s.drop i).flatMap esc)
  | 0, i, acc, h, _ => by
    unfold script_Quote_l0
    rw [if_neg (by simp; omega), List.drop_eq_nil_of_le (by omega)]; simp
  | m + 1, i, acc, h, ha => by
    unfold script_Quote_l0
    have hi : i < s.length := by omega
    rw [if_pos (by simp; omega)]
    simp only [bnd_eq, Int.toNat_natCast]
    rw [if_pos ⟨by omega, by omega⟩, drop_cons hi]
    have hc := getD_byte hs i
    generalize s.getD i 0 = c at hc
    have w : IntKind.wrap .i64 ((i : Int) + 1) = ((i + 1 : Nat) : Int) := by rw [wrap_i64 (by omega) (by omega)]; omega
    have ih := fun acc h => quote_l0 s hs hl K m (i + 1) acc (by omega) h
    have hB : ∀ (a : List Int) (c : Int), a.length + 1 ≤ 140737488355328 → strings_Builder_WriteByte a c = some (.nilIface, a ++ [c]) := fun a c h => by unfold strings_Builder_WriteByte; rw [if_pos h]
    have hS : strings_Builder_WriteString acc [92, 120] = some (2, .nilIface, acc ++ [92, 120]) := by unfold strings_Builder_WriteString; rw [if_pos ⟨by simp, by simp; omega⟩]; rfl
    rw [w, List.flatMap_cons, ← List.append_assoc]
    by_cases h1 : c = 34 ∨ c = 92
    · have e : (c == 34 || c == 92) = true := by simpa using h1
      rw [if_pos e, hB _ _ (by omega), bind_eq, hB _ _ (by simp; omega), bind_eq, ih _ (by simp; omega)]
      unfold esc; rw [if_pos h1]; simp
    · have e : (c == 34 || c == 92) = false := by simpa using h1
      rw [e]
      simp only [Bool.false_eq_true, if_false]
      by_cases h2 : 32 ≤ c ∧ c ≤ 126
      · have e2 : (decide (c ≥ 32) && decide (c ≤ 126)) = true := by simpa using h2
        rw [if_pos e2, hB _ _ (by omega), bind_eq, ih _ (by simp; omega)]
        unfold esc; rw [if_neg h1, if_pos h2]
      · have e2 : (decide (c ≥ 32) && decide (c ≤ 126)) = false := by
          rw [← Bool.not_eq_true]; simpa using h2
        obtain ⟨n1, n2⟩ := nib_eq hc
        rw [e2]
        simp only [Bool.false_eq_true, if_false]
        rw [hS, bind_eq, n1, n2, if_pos ⟨by omega, by simp; omega⟩]
        simp only [Int.toNat_natCast]
        rw [hB _ _ (by simp; omega), bind_eq, if_pos ⟨by omega, by simp; omega⟩, hB _ _ (by simp; omega), bind_eq, ih _ (by simp; omega)]
        unfold esc; rw [if_neg h1, if_neg h2]
        unfold escx hxc HEX
        simp
def quoteS (s : List Int) : List Int := 34 :: (s.flatMap esc ++ [34])
theorem esc_len (c : Int) : (esc c).length ≤ 4 := by unfold esc; split <;> (try split) <;> simp [escx]
theorem fmap_len (f : Int → List Int) (hf : ∀ c, (f c).length ≤ 4) : ∀ s : List Int, (s.flatMap f).length ≤ 4 * s.length
  | [] => by simp
  | c :: s => by
    have := fmap_len f hf s
    have := hf c
    simp only [List.flatMap_cons, List.length_append, List.length_cons]; omega
theorem quote_text {s : List Int} (hs : byteOk s) (hl : s.length < 4294967296) : script_Quote s = some (quoteS s) := by
  unfold script_Quote
  have hB : ∀ (a : List Int) (c : Int), a.length + 1 ≤ 140737488355328 → strings_Builder_WriteByte a c = some (.nilIface, a ++ [c]) := fun a c h => by unfold strings_Builder_WriteByte; rw [if_pos h]
  rw [hB _ _ (by simp), bind_eq]
  simp only [bnd_eq]
  have e : Int.toNat ((s.length : Int) - 0) + 1 = s.length + 1 := by omega
  rw [e, show (0 : Int) = ((0 : Nat) : Int) from rfl, quote_l0 s hs hl _ s.length 0 _ (by omega) (by simp)]
  have := fmap_len esc esc_len s
  rw [List.drop_zero, hB _ _ (by simp only [List.length_append, List.length_cons, List.length_nil]; omega), bind_eq]
  simp [quoteS]

/-! ### reading it back -/
theorem unq_esc {c : Int} (hc : 0 ≤ c ∧ c < 256) (r : List Int) : unq (escx c ++ r) = (unq r).map fun p => (c :: p.1, p.2) := by
  unfold escx
  obtain ⟨a1, _, _⟩ := hxc_all ⟨c.toNat / 16, by omega⟩
  obtain ⟨b1, _, _⟩ := hxc_all ⟨c.toNat % 16, by omega⟩
  simp only at a1 b1
  simp only [List.cons_append, List.nil_append]
  conv => lhs; unfold unq
  simp only
  rw [if_neg (by decide), if_neg (by decide), if_neg (by decide), if_neg (by decide), a1, b1, if_neg (by omega)]
  congr 1
  funext p
  rw [show 16 * ((c.toNat / 16 : Nat) : Int) + ((c.toNat % 16 : Nat) : Int) = c by omega]
theorem unq_c {c : Int} (hc : 0 ≤ c ∧ c < 256) (r : List Int) : unq (esc c ++ r) = (unq r).map fun p => (c :: p.1, p.2) := by
  unfold esc
  by_cases h1 : c = 34 ∨ c = 92
  · rw [if_pos h1]
    simp only [List.cons_append, List.nil_append]
    conv => lhs; unfold unq
    simp only
    rw [if_neg (by decide), if_neg (by decide), if_neg (by decide), if_pos h1]
  · rw [if_neg h1]
    by_cases h2 : 32 ≤ c ∧ c ≤ 126
    · rw [if_pos h2]
      simp only [List.cons_append, List.nil_append]
      conv => lhs; unfold unq
      rw [if_neg (fun h => h1 (.inl h)), if_neg (by omega), if_pos (fun h => h1 (.inr h))]
    · rw [if_neg h2]; exact unq_esc hc r
theorem unq_flat (f : Int → List Int) (hf : ∀ c, 0 ≤ c ∧ c < 256 → ∀ r, unq (f c ++ r) = (unq r).map fun p => (c :: p.1, p.2)) : ∀ (s : List Int), byteOk s → ∀ r, unq (s.flatMap f ++ r) = (unq r).map fun p => (s ++ p.1, p.2)
  | [], _, r => by simp
  | c :: s, h, r => by
    obtain ⟨hc, hs⟩ := byteOk_cons h
    rw [List.flatMap_cons, List.append_assoc, hf c hc, unq_flat f hf s hs r]
    cases unq r <;> simp
theorem unq_end (r : List Int) : unq (34 :: r) = some ([], r) := by unfold unq; rw [if_pos rfl]

/-! ### lines of words -/
theorem wrds_bare {w r : List Int} (hw : byteOk (w ++ 32 :: r)) (hn : w ≠ []) (h34 : w.headD 0 ≠ 34) (h32 : ∀ c ∈ w, c ≠ 32) : wrds (w ++ 32 :: r) = (wrds r).map fun l => (w, false, ()) :: l := by
  have e1 : (w ++ 32 :: r).takeWhile (· != 32) = w := by
    rw [List.takeWhile_append_of_pos (fun c hc => by simpa using h32 c hc)]; simp
  have e2 : (w ++ 32 :: r).dropWhile (· != 32) = 32 :: r := by
    rw [List.dropWhile_append_of_pos (fun c hc => by simpa using h32 c hc)]; simp
  have e3 : (w ++ 32 :: r).headD 0 = w.headD 0 := by cases w with
    | nil => exact absurd rfl hn
    | cons c w => rfl
  rw [wrds_eq hw]
  unfold word1
  rw [e3, if_neg h34, e1, if_neg hn, e2]
  simp
theorem wrds_quoted {b : List Int} (hb : byteOk (34 :: b)) : wrds (34 :: b) = match unq b with
    | none => none
    | some (t, []) => some [(t, true, ())]
    | some (t, c :: r) => if c = 32 then (wrds r).map fun l => (t, true, ()) :: l else none := by
  rw [wrds_eq hb]
  unfold word1
  rw [show (34 :: b : List Int).headD 0 = 34 from rfl, if_pos rfl, show (34 :: b : List Int).drop 1 = b from rfl]
  cases unq b with
  | none => rfl
  | some x => obtain ⟨t, r⟩ := x; cases r <;> rfl
theorem lns_one : ∀ {t : List Int}, (∀ c ∈ t, c ≠ 10) → lns t = [t]
  | [], _ => rfl
  | c :: t, h => by
    rw [lns, if_neg (h c (by simp)), lns_one (fun x hx => h x (by simp [hx]))]
theorem long_one {t : List Int} (h : ∀ c ∈ t, c ≠ 10) (hl : t.length ≤ 4096) : longS t = false := by
  unfold longS lnsE
  rw [lns_one h]
  have h1 : decide (65536 < t.length) = false := by simp; omega
  rw [h1]
  by_cases ht : t = []
  · subst ht; rfl
  · rw [if_neg (by simpa using ht)]
    simp; omega
theorem parse_one {t : List Int} (h : ∀ c ∈ t, c ≠ 10) (hl : t.length ≤ 4096) (hm : ¬ mute t) : parseS t = match lineS t with | none => ([], 250) | some c => ([c], 0) := by
  unfold parseS
  rw [long_one h hl, lns_one h]
  simp only [Bool.false_eq_true, if_false, linesS]
  rw [if_neg hm]
  cases lineS t <;> rfl
theorem num_five : numS [53] = some 5 := by
  have : itoaI 5 = [53] := by decide +kernel
  rw [← this]; exact numS_some (by decide)
def STEP5 : List Int := [115, 116, 101, 112, 32, 53, 32, 116, 97, 107, 101, 32]
/-- 'step 5 take' and a text -/
theorem take_line {b : List Int} (hb : byteOk (34 :: b)) (h10 : ∀ c ∈ b, c ≠ 10) (hl : b.length ≤ 4000) : script_Parse (STEP5 ++ 34 :: b) = some (match unq b with
    | some (t, []) => ([(2, zWld, (1, 5, (8, 0, 0, 0, z32, [], t, [], ()), ()), 0, 0, ())], 0)
    | _ => parseS (STEP5 ++ 34 :: b)) ∧ (unq b = none → script_Parse (STEP5 ++ 34 :: b) = some ([], 250)) := by
  have hS : byteOk STEP5 := by unfold STEP5 byteOk; decide
  have hok : byteOk (STEP5 ++ 34 :: b) := byteOk_append hS hb
  have hp := parse_eq hok
  have hne : ∀ c ∈ STEP5 ++ 34 :: b, c ≠ 10 := by
    intro c hc
    rcases List.mem_append.1 hc with hc | hc
    · have : ∀ c ∈ STEP5, c ≠ 10 := by unfold STEP5; decide
      exact this c hc
    · rcases List.mem_cons.1 hc with rfl | hc
      · decide
      · exact h10 c hc
  have hm : ¬ mute (STEP5 ++ 34 :: b) := by unfold mute STEP5; simp
  have h1 := parse_one hne (by unfold STEP5; simp; omega) hm
  have w1 : wrds (STEP5 ++ 34 :: b) = ((((wrds (34 :: b)).map fun l => ([116, 97, 107, 101], false, ()) :: l).map fun l => ([53], false, ()) :: l).map fun l => ([115, 116, 101, 112], false, ()) :: l) := by
    have e : STEP5 ++ 34 :: b = [115, 116, 101, 112] ++ 32 :: ([53] ++ 32 :: ([116, 97, 107, 101] ++ 32 :: (34 :: b))) := rfl
    have b3 : byteOk ([116, 97, 107, 101] ++ 32 :: (34 :: b)) := byteOk_append (by unfold byteOk; decide) (byteOk_mk (by decide) hb)
    have b2 : byteOk ([53] ++ 32 :: ([116, 97, 107, 101] ++ 32 :: (34 :: b))) := byteOk_append (by unfold byteOk; decide) (byteOk_mk (by decide) b3)
    rw [e] at hok ⊢
    rw [wrds_bare hok (by decide) (by decide) (by decide), wrds_bare b2 (by decide) (by decide) (by decide), wrds_bare b3 (by decide) (by decide) (by decide)]
  have w2 := wrds_quoted hb
  constructor
  · rw [hp]
    cases hu : unq b with
    | none => rfl
    | some x =>
      obtain ⟨t, r⟩ := x
      cases r with
      | cons c r => rfl
      | nil =>
        rw [hu] at w2
        simp only at w2
        rw [h1]
        have : lineS (STEP5 ++ 34 :: b) = some (2, zWld, (1, 5, (8, 0, 0, 0, z32, [], t, [], ()), ()), 0, 0, ()) := by
          unfold lineS
          rw [w1, w2]
          simp only [Option.map_some, Option.bind_some]
          unfold cmdR
          simp (decide := true) only [nextS, if_true, if_false, Option.bind_some, numR, num_five, Option.map_some, stepR]
        rw [this]
  · intro hu
    rw [hu] at w2
    simp only at w2
    have : lineS (STEP5 ++ 34 :: b) = none := by
      unfold lineS
      rw [w1, w2]; rfl
    rw [hp, h1, this]
end Sx
namespace Sx
open Go Go.RowKit

theorem bnd_all {α β : Type} {a : α} {f : α → β} {r : β} (p : α → Prop) (ha : p a) (hf : ∀ x, p x → f x = r) : bnd a f = r := hf a ha
theorem escx_ok {c : Int} (hc : 0 ≤ c ∧ c < 256) : ∀ x ∈ escx c, 32 ≤ x ∧ x ≤ 126 := by
  obtain ⟨_, a1, a2⟩ := hxc_all ⟨c.toNat / 16, by omega⟩
  obtain ⟨_, b1, b2⟩ := hxc_all ⟨c.toNat % 16, by omega⟩
  simp only at a1 a2 b1 b2
  intro x hx
  unfold escx at hx
  simp only [List.mem_cons, List.not_mem_nil, or_false] at hx
  rcases hx with rfl | rfl | rfl | rfl <;> omega
theorem esc_ok {c : Int} (hc : 0 ≤ c ∧ c < 256) : ∀ x ∈ esc c, 32 ≤ x ∧ x ≤ 126 := by
  unfold esc
  by_cases h1 : c = 34 ∨ c = 92
  · rw [if_pos h1]; intro x hx
    simp only [List.mem_cons, List.not_mem_nil, or_false] at hx
    rcases hx with rfl | rfl <;> omega
  · rw [if_neg h1]
    by_cases h2 : 32 ≤ c ∧ c ≤ 126
    · rw [if_pos h2]; intro x hx
      simp only [List.mem_cons, List.not_mem_nil, or_false] at hx
      subst hx; exact h2
    · rw [if_neg h2]; exact escx_ok hc
theorem fmap_ok (f : Int → List Int) (hf : ∀ c, 0 ≤ c ∧ c < 256 → ∀ x ∈ f c, 32 ≤ x ∧ x ≤ 126) {s : List Int} (hs : byteOk s) : ∀ x ∈ s.flatMap f, 32 ≤ x ∧ x ≤ 126 := by
  intro x hx
  obtain ⟨c, hc, hx⟩ := List.mem_flatMap.1 hx
  exact hf c (hs c hc) x hx
theorem escx_len (c : Int) : (escx c).length = 4 := rfl
theorem fmapx_len : ∀ s : List Int, (s.flatMap escx).length = 4 * s.length
  | [] => rfl
  | c :: s => by rw [List.flatMap_cons, List.length_append, escx_len, fmapx_len s, List.length_cons]; omega
theorem print_ok {l : List Int} (h : ∀ x ∈ l, 32 ≤ x ∧ x ≤ 126) : byteOk l ∧ ∀ x ∈ l, x ≠ 10 := ⟨fun x hx => by have := h x hx; omega, fun x hx => by have := h x hx; omega⟩

theorem good_take (f : Int → List Int) (hf : ∀ c, 0 ≤ c ∧ c < 256 → ∀ r, unq (f c ++ r) = (unq r).map fun p => (c :: p.1, p.2)) (hk : ∀ c, 0 ≤ c ∧ c < 256 → ∀ x ∈ f c, 32 ≤ x ∧ x ≤ 126) (hl : ∀ c, (f c).length ≤ 4) {s : List Int} (hs : byteOk s) (h9 : s.length ≤ 900) :
    script_Parse (STEP5 ++ 34 :: (s.flatMap f ++ [34])) = some ([(2, zWld, (1, 5, (8, 0, 0, 0, z32, [], s, [], ()), ()), 0, 0, ())], 0) := by
  obtain ⟨b1, b2⟩ := print_ok (fmap_ok f hk hs)
  have hlen := fmap_len f hl s
  have hb : byteOk (34 :: (s.flatMap f ++ [34])) := byteOk_mk (by decide) (byteOk_append b1 (by unfold byteOk; decide))
  have h10 : ∀ c ∈ s.flatMap f ++ [34], c ≠ 10 := by
    intro c hc
    rcases List.mem_append.1 hc with hc | hc
    · exact b2 c hc
    · simp at hc; subst hc; decide
  have := (take_line hb h10 (by simp only [List.length_append, List.length_cons, List.length_nil]; omega)).1
  rw [unq_flat f hf s hs [34], unq_end] at this
  simp only [Option.map_some, List.append_nil] at this
  exact this
theorem bad_take {p r : List Int} (hp : byteOk p) (h9 : p.length ≤ 900) (hr : byteOk r) (h10 : ∀ c ∈ r, c ≠ 10) (hl : 4 * p.length + r.length ≤ 3900) (hu : unq r = none) :
    script_Parse (STEP5 ++ 34 :: (p.flatMap escx ++ r)) = some ([], 250) := by
  obtain ⟨b1, b2⟩ := print_ok (fmap_ok escx (fun c hc => escx_ok hc) hp)
  have hlen := fmapx_len p
  refine (take_line (byteOk_mk (by decide) (byteOk_append b1 hr)) ?_ (by simp only [List.length_append]; omega)).2 ?_
  · intro c hc
    rcases List.mem_append.1 hc with hc | hc
    · exact b2 c hc
    · exact h10 c hc
  · rw [unq_flat escx (fun c hc r => unq_esc hc r) p hp r, hu]; rfl

/-! ### the loops -/
theorem tdiv16 : ∀ c : Fin 256, IntKind.wrap .u8 (Int.tdiv (c.val : Int) 16) = ((c.val / 16 : Nat) : Int) ∧ Int.tmod (c.val : Int) 16 = ((c.val % 16 : Nat) : Int) := by decide +kernel
theorem quotes_l2 (s : List Int) (hs : byteOk s) (hl : s.length ≤ 900) (K : List Int → Option Bool) : ∀ (m i : Nat) (acc : List Int), i + m = s.length → acc.length ≤ 4 * i + 1 → escrowlaw25_ScriptQuotes_l2 s K (m + 1) (acc, (i : Int)) = K (acc ++ (s.drop i).flatMap escx)
  | 0, i, acc, h, _ => by
    unfold escrowlaw25_ScriptQuotes_l2
    rw [if_neg (by simp; omega), List.drop_eq_nil_of_le (by omega)]; simp
  | m + 1, i, acc, h, ha => by
    unfold escrowlaw25_ScriptQuotes_l2
    have hi : i < s.length := by omega
    rw [if_pos (by simp; omega)]
    simp only [bnd_eq, Int.toNat_natCast]
    have hg : (0 : Int) ≤ (i : Int) ∧ (i : Int) < (s.length : Int) := ⟨by omega, by omega⟩
    rw [drop_cons hi]
    have hc := getD_byte hs i
    generalize s.getD i 0 = c at hc
    have w : IntKind.wrap .i64 ((i : Int) + 1) = ((i + 1 : Nat) : Int) := by rw [wrap_i64 (by omega) (by omega)]; omega
    have td := tdiv16 ⟨c.toNat, by omega⟩
    simp only at td
    rw [show ((c.toNat : Nat) : Int) = c by omega] at td
    rw [td.1, td.2, w]
    rw [if_pos (by simp only [most, List.length_cons, List.length_nil]; omega), if_pos hg, if_pos ⟨by omega, by simp; omega⟩, if_pos hg, if_pos ⟨by omega, by simp; omega⟩, if_pos (by simp only [most, List.length_append, List.length_cons, List.length_nil]; omega)]
    rw [quotes_l2 s hs hl K m (i + 1) _ (by omega) (by simp only [List.length_append, List.length_cons, List.length_nil]; omega), List.flatMap_cons]
    simp only [Int.toNat_natCast]
    unfold escx hxc HEX
    simp
theorem quotes_l1 (q : List Int) (hq : ∀ x ∈ q, 32 ≤ x ∧ x ≤ 126) (hl : q.length < 4294967296) (K : Unit → Option Bool) : ∀ (m i : Nat), i + m = q.length → escrowlaw25_ScriptQuotes_l1 q K (m + 1) (i : Int) = K ()
  | 0, i, h => by
    unfold escrowlaw25_ScriptQuotes_l1
    rw [if_neg (by simp; omega)]
  | m + 1, i, h => by
    unfold escrowlaw25_ScriptQuotes_l1
    have hi : i < q.length := by omega
    have hg : (0 : Int) ≤ (i : Int) ∧ (i : Int) < (q.length : Int) := ⟨by omega, by omega⟩
    have hx := hq (q.getD i 0) (by rw [show q.getD i 0 = q[i] by simp [List.getD, hi]]; exact List.getElem_mem hi)
    rw [if_pos (by simp; omega)]
    simp only [bnd_eq, Int.toNat_natCast, if_pos hg]
    have w : IntKind.wrap .i64 ((i : Int) + 1) = ((i + 1 : Nat) : Int) := by rw [wrap_i64 (by omega) (by omega)]; omega
    have d1 : decide (q.getD i 0 < 32) = false := by rw [decide_eq_false_iff_not]; omega
    have d2 : decide (q.getD i 0 > 126) = false := by rw [decide_eq_false_iff_not]; omega
    rw [d1, d2, w]
    simp only [Bool.false_eq_true, if_false]
    exact quotes_l1 q hq hl K m (i + 1) (by omega)

theorem take_long (s : List Int) (j : Nat) (hj : j ≤ s.length) : (34 :: (s.flatMap escx ++ [34])).take (4 * j + 1) = 34 :: (s.take j).flatMap escx ∧ (34 :: (s.flatMap escx ++ [34])).drop (4 * j + 1) = (s.drop j).flatMap escx ++ [34] := by
  have e : s.flatMap escx ++ [34] = (s.take j).flatMap escx ++ ((s.drop j).flatMap escx ++ [34]) := by
    rw [← List.append_assoc, ← List.flatMap_append, List.take_append_drop]
  have hl : ((s.take j).flatMap escx).length = 4 * j := by rw [fmapx_len, List.length_take]; omega
  rw [e]
  constructor
  · rw [List.take_succ_cons, List.take_left' hl]
  · rw [List.drop_succ_cons, List.drop_left' hl]

theorem l0_all (a2 : Int) (T : List Int) (o : Int) (K : Unit → Option Bool) (hK : K () = some true)
    (h : ∀ i : Nat, i < 4 → (STEP5.length + (List.getD ([(((List.drop 0 (List.take (Int.toNat o) T)) ++ [a2]) ++ (List.drop (Int.toNat o) (List.take (Int.toNat (List.length T : Int)) T))), (List.drop 0 (List.take (Int.toNat (IntKind.wrap .i64 ((List.length T : Int) - 1))) T)), (((List.drop 0 (List.take (Int.toNat o) T)) ++ [92, 113]) ++ (List.drop (Int.toNat o) (List.take (Int.toNat (List.length T : Int)) T))), (((List.drop 0 (List.take (Int.toNat o) T)) ++ [92, 120, 65, 48]) ++ (List.drop (Int.toNat o) (List.take (Int.toNat (List.length T : Int)) T)))]) i []).length ≤ most) ∧
      script_Parse (STEP5 ++ (List.getD ([(((List.drop 0 (List.take (Int.toNat o) T)) ++ [a2]) ++ (List.drop (Int.toNat o) (List.take (Int.toNat (List.length T : Int)) T))), (List.drop 0 (List.take (Int.toNat (IntKind.wrap .i64 ((List.length T : Int) - 1))) T)), (((List.drop 0 (List.take (Int.toNat o) T)) ++ [92, 113]) ++ (List.drop (Int.toNat o) (List.take (Int.toNat (List.length T : Int)) T))), (((List.drop 0 (List.take (Int.toNat o) T)) ++ [92, 120, 65, 48]) ++ (List.drop (Int.toNat o) (List.take (Int.toNat (List.length T : Int)) T)))]) i [])) = some ([], 250)) :
    ∀ (m i : Nat), i + m = 4 → escrowlaw25_ScriptQuotes_l0 a2 T o K (m + 1) (i : Int) = some true
  | 0, i, hi => by
    unfold escrowlaw25_ScriptQuotes_l0
    rw [if_neg (by simp; omega)]; exact hK
  | m + 1, i, hi => by
    unfold escrowlaw25_ScriptQuotes_l0
    obtain ⟨h1, h2⟩ := h i (by omega)
    have w : IntKind.wrap .i64 ((i : Int) + 1) = ((i + 1 : Nat) : Int) := by rw [wrap_i64 (by omega) (by omega)]; omega
    rw [if_pos (by simp; omega), if_pos ⟨by omega, by omega⟩, bnd_eq, w]
    have ei : (Int.toNat (i : Int)) = i := Int.toNat_natCast i
    unfold STEP5 at h1 h2
    rw [ei, if_pos (by exact h1), h2, bind_eq]
    rw [if_neg (by decide)]
    exact l0_all a2 T o K hK h m (i + 1) (by omega)

theorem escrowlaw25_ScriptQuotes_true (a0 : List Int) (a1 a2 : Int) (h0 : byteOk a0 ∧ List.length a0 ≤ 140737488351232) (h1 : rng .i64 a1) (h2 : rng .u8 a2) : escrowlaw25_ScriptQuotes a0 a1 a2 = some true := by
  simp only [rng, lo, Sx.hi] at h1 h2
  unfold escrowlaw25_ScriptQuotes
  rw [head_true, bind_eq, if_neg (by decide)]
  refine bnd_all (fun k2 => ∀ s : List Int, byteOk s → s.length ≤ 900 → k2 s = some true) (fun s hs hl => ?_) (fun k2 hk => ?_)
  · rw [quote_text hs (by omega), bind_eq]
    have hX := fmapx_len s
    have hQl := fmap_len esc esc_len s
    have lenL : (34 :: (s.flatMap escx ++ [34])).length = 4 * s.length + 2 := by simp only [List.length_cons, List.length_append, List.length_nil, hX]
    refine bnd_all (fun k5 => k5 (34 :: s.flatMap escx) = some true) ?_ (fun k5 hk5 => ?_)
    · rw [if_pos (by simp only [most, List.length_cons, List.length_nil, hX]; omega)]
      have e0 : (34 :: s.flatMap escx) ++ [34] = 34 :: (s.flatMap escx ++ [34]) := rfl
      rw [bnd_eq, e0]
      refine bnd_all (fun k8 => k8 () = some true) ?_ (fun k8 hk8 => ?_)
      · have g1 := good_take esc (fun c hc r => unq_c hc r) (fun c hc => esc_ok hc) esc_len hs hl
        have g2 := good_take escx (fun c hc r => unq_esc hc r) (fun c hc => escx_ok hc) (fun c => by rw [escx_len]; omega) hs hl
        have l1 : List.length [115, 116, 101, 112, 32, 53, 32, 116, 97, 107, 101, 32] + (quoteS s).length ≤ most := by unfold quoteS; simp only [most, List.length_cons, List.length_append, List.length_nil]; omega
        have l2 : List.length [115, 116, 101, 112, 32, 53, 32, 116, 97, 107, 101, 32] + (34 :: (s.flatMap escx ++ [34])).length ≤ most := by rw [lenL]; simp only [most, List.length_cons, List.length_nil]; omega
        unfold STEP5 at g1 g2
        unfold quoteS at l1 ⊢
        rw [if_pos l1, g1, bind_eq, if_pos l2, g2, bind_eq]
        refine bnd_all (· = false) rfl (fun b14 e => ?_); subst e
        refine bnd_all (· = false) rfl (fun b15 e => ?_); subst e
        refine bnd_all (· = false) rfl (fun b16 e => ?_); subst e
        refine bnd_all (· = false) rfl (fun b17 e => ?_); subst e
        refine bnd_all (fun k => k false = some true) ?_ (fun k18 hk => ?_)
        · refine bnd_all (fun k => k false = some true) ?_ (fun k24 hk => ?_)
          · refine bnd_all (fun k => k false = some true) ?_ (fun k30 hk => ?_)
            · have lq : ¬ ((34 :: (s.flatMap esc ++ [34])).length : Int) > ((34 :: (s.flatMap escx ++ [34])).length : Int) := by rw [lenL]; simp only [List.length_cons, List.length_append, List.length_nil]; omega
              have dq : decide (((34 :: (s.flatMap esc ++ [34])).length : Int) > ((34 :: (s.flatMap escx ++ [34])).length : Int)) = false := by rw [decide_eq_false_iff_not]; exact lq
              rw [dq, if_neg (by decide)]
              clear g1 g2 l1 l2 lq dq
              have htk := take_long s
              generalize hT : (34 :: (s.flatMap escx ++ [34]) : List Int) = T at lenL htk ⊢
              refine bnd_all (· = decide (a2 ≥ 32)) rfl (fun b36 e => ?_); subst e
              refine bnd_all (· = (decide (a2 ≥ 32) && decide (a2 ≤ 126))) rfl (fun b37 e => ?_); subst e
              by_cases hb : ((decide (a2 ≥ 32) && decide (a2 ≤ 126)) || (a2 == 10)) = true
              · rw [if_pos hb]
              rw [if_neg hb]
              have hb2 : (a2 < 32 ∨ 126 < a2) ∧ a2 ≠ 10 := by
                simp only [Bool.or_eq_true, Bool.and_eq_true, decide_eq_true_eq, beq_iff_eq, not_or, not_and] at hb
                omega
              rw [if_pos (by omega)]
              have hq1 : -((4 * s.length + 2 : Nat) : Int) < Int.tmod a1 (T.length : Int) ∧ Int.tmod a1 (T.length : Int) < ((4 * s.length + 2 : Nat) : Int) := by
                rw [lenL]
                have a := Int.tmod_lt_of_pos a1 (b := ((4 * s.length + 2 : Nat) : Int)) (by omega)
                have b := Int.tmod_lt_of_pos (-a1) (b := ((4 * s.length + 2 : Nat) : Int)) (by omega)
                rw [Int.neg_tmod] at b
                omega
              refine bnd_all (· = Int.tmod a1 (T.length : Int)) rfl (fun k38 e => ?_); subst e
              generalize Int.tmod a1 (T.length : Int) = k38 at hq1 ⊢
              refine bnd_all (fun k => ∀ n : Nat, n < 4 * s.length + 2 → k (n : Int) = some true) (fun n hn => ?_) (fun k39 hk => ?_)
              · refine bnd_all (fun k => ∀ j : Nat, j ≤ s.length → k ((4 * j + 1 : Nat) : Int) = some true) (fun j hj => ?_) (fun k41 hk => ?_)
                · refine bnd_all (fun k => k () = some true) rfl (fun k43 hk43 => ?_)
                  have hW : IntKind.wrap .i64 ((T.length : Int) - 1) = ((4 * s.length + 1 : Nat) : Int) := by rw [lenL, wrap_i64 (by omega) (by omega)]; omega
                  have A1 : (0 : Int) ≤ (0 : Int) ∧ (0 : Int) ≤ ((4 * j + 1 : Nat) : Int) ∧ ((4 * j + 1 : Nat) : Int) ≤ (T.length : Int) := ⟨by decide, by omega, by rw [lenL]; omega⟩
                  have A2 : (0 : Int) ≤ ((4 * j + 1 : Nat) : Int) ∧ ((4 * j + 1 : Nat) : Int) ≤ (T.length : Int) ∧ (T.length : Int) ≤ (T.length : Int) := ⟨by omega, by rw [lenL]; omega, by omega⟩
                  have A3 : (0 : Int) ≤ (0 : Int) ∧ (0 : Int) ≤ IntKind.wrap .i64 ((T.length : Int) - 1) ∧ IntKind.wrap .i64 ((T.length : Int) - 1) ≤ (T.length : Int) := ⟨by decide, by rw [hW]; omega, by rw [hW, lenL]; omega⟩
                  have B : ∀ (x y : List Int), x.length ≤ 10 → (List.length (List.drop 0 (List.take (Int.toNat ((4 * j + 1 : Nat) : Int)) T) ++ x) + List.length (List.drop (Int.toNat ((4 * j + 1 : Nat) : Int)) (List.take (Int.toNat (T.length : Int)) T)) ≤ most) ∧ List.length (List.drop 0 (List.take (Int.toNat ((4 * j + 1 : Nat) : Int)) T)) + x.length ≤ most := by
                    intro x y hx
                    simp only [most, List.length_append, List.length_drop, List.length_take, lenL, Int.toNat_natCast]
                    omega
                  rw [if_pos A1, if_pos A2, if_pos A3, if_pos A1, if_pos (by exact (B [92, 113] [] (by decide)).2), if_pos A2, if_pos (B [92, 113] [] (by decide)).1, if_pos A1, if_pos (by exact (B [92, 120, 65, 48] [] (by decide)).2), if_pos A2, if_pos (B [92, 120, 65, 48] [] (by decide)).1, if_pos (B [a2] [] (by simp)).2, if_pos (B [a2] [] (by simp)).1]
                  have hR : byteOk ((s.drop j).flatMap escx ++ [34]) ∧ ∀ c ∈ (s.drop j).flatMap escx ++ [34], c ≠ 10 := by
                    apply print_ok
                    intro x hx
                    rcases List.mem_append.1 hx with hx | hx
                    · exact fmap_ok escx (fun c hc => escx_ok hc) (byteOk_drop hs j) x hx
                    · simp at hx; subst hx; omega
                  have hRl : ((s.drop j).flatMap escx ++ [34]).length = 4 * (s.length - j) + 1 := by rw [List.length_append, fmapx_len, List.length_drop]; rfl
                  obtain ⟨t1, t2⟩ := htk j hj
                  have t3 := (htk s.length (Nat.le_refl _)).1
                  have mid : ∀ m : List Int, byteOk m → (∀ c ∈ m, c ≠ 10) → m.length ≤ 10 → unq (m ++ ((s.drop j).flatMap escx ++ [34])) = none →
                      script_Parse (STEP5 ++ ((34 :: (s.take j).flatMap escx) ++ m ++ ((s.drop j).flatMap escx ++ [34]))) = some ([], 250) := by
                    intro m hm1 hm2 hm3 hu
                    have e : (34 :: (s.take j).flatMap escx) ++ m ++ ((s.drop j).flatMap escx ++ [34]) = 34 :: ((s.take j).flatMap escx ++ (m ++ ((s.drop j).flatMap escx ++ [34]))) := by simp
                    rw [e]
                    refine bad_take (byteOk_take hs j) (by rw [List.length_take]; omega) (byteOk_append hm1 hR.1) ?_ ?_ hu
                    · intro c hc
                      rcases List.mem_append.1 hc with hc | hc
                      · exact hm2 c hc
                      · exact hR.2 c hc
                    · rw [List.length_append, hRl, List.length_take]; omega
                  have e4 : Int.toNat (4 - 0) + 1 = 4 + 1 := rfl
                  rw [e4]
                  refine l0_all a2 T _ k43 hk43 ?_ 4 0 rfl
                  intro i hi
                  have hlen : ∀ x : List Int, x.length ≤ 4000 → STEP5.length + x.length ≤ most := by
                    intro x hx; unfold STEP5; simp only [most, List.length_cons, List.length_nil]; omega
                  have hml : ∀ m : List Int, m.length ≤ 10 → ((34 :: (s.take j).flatMap escx) ++ m ++ ((s.drop j).flatMap escx ++ [34])).length ≤ 4000 := by
                    intro m hm
                    rw [List.length_append, List.length_append, List.length_cons, fmapx_len, hRl, List.length_take]; omega
                  rw [hW]
                  simp only [Int.toNat_natCast, List.drop_zero, List.take_length, t1, t2, t3]
                  rcases i with _ | _ | _ | _ | i
                  · refine ⟨hlen _ (hml [a2] (by simp)), mid [a2] ?_ ?_ (by simp) ?_⟩
                    · intro c hc; simp at hc; subst hc; omega
                    · intro c hc; simp at hc; subst hc; exact hb2.2
                    · rw [List.singleton_append]; unfold unq; rw [if_neg (by omega), if_pos hb2.1]
                  · have e : s.take s.length = s := List.take_length
                    refine ⟨hlen _ ?_, ?_⟩
                    · simp only [List.getD_cons_succ, List.getD_cons_zero, List.length_cons, fmapx_len, List.length_take]; omega
                    · have := bad_take (p := s) (r := []) hs hl (fun c hc => by cases hc) (fun c hc => by cases hc) (by simp only [List.length_nil]; omega) rfl
                      rw [List.append_nil] at this
                      simp only [List.getD_cons_succ, List.getD_cons_zero, e]
                      exact this
                  · refine ⟨hlen _ (hml [92, 113] (by decide)), mid [92, 113] (by unfold byteOk; decide) (by decide) (by decide) ?_⟩
                    generalize (s.drop j).flatMap escx ++ [34] = R
                    simp only [List.cons_append, List.nil_append]
                    unfold unq
                    simp only
                    rw [if_neg (by decide), if_neg (by decide), if_neg (by decide), if_neg (by decide)]
                    cases R with
                    | nil => rfl
                    | cons a R => cases R with
                      | nil => rfl
                      | cons b R => simp
                  · refine ⟨hlen _ (hml [92, 120, 65, 48] (by decide)), mid [92, 120, 65, 48] (by unfold byteOk; decide) (by decide) (by decide) ?_⟩
                    generalize (s.drop j).flatMap escx ++ [34] = R
                    simp only [List.cons_append, List.nil_append]
                    unfold unq
                    simp only
                    rw [if_neg (by decide), if_neg (by decide), if_neg (by decide), if_neg (by decide), if_pos (by decide)]
                  · omega
                · refine bnd_all (· = ((n : Int) == 0)) rfl (fun b52 e => ?_); subst e
                  by_cases hc : (((n : Int) == 0) || ((Int.tmod (IntKind.wrap .i64 ((n : Int) - 1)) 4) != 0)) = true
                  · rw [if_pos hc]; exact hk 0 (by omega)
                  · rw [if_neg hc]
                    simp only [Bool.or_eq_true, not_or, beq_iff_eq, bne_iff_ne, ne_eq, Decidable.not_not] at hc
                    obtain ⟨c1, c2⟩ := hc
                    rw [wrap_i64 (by omega) (by omega)] at c2
                    have : Int.tmod ((n : Int) - 1) 4 = (((n - 1) % 4 : Nat) : Int) := by
                      rw [show (n : Int) - 1 = ((n - 1 : Nat) : Int) by omega]
                      exact (Int.ofNat_tmod (n - 1) 4).symm
                    rw [this] at c2
                    have := hk ((n - 1) / 4) (by omega)
                    rwa [show 4 * ((n - 1) / 4) + 1 = n by omega] at this
              · by_cases hneg : k38 < 0
                · rw [if_pos (by simpa using hneg)]
                  refine bnd_all (· = (((-k38).toNat : Nat) : Int)) (by rw [wrap_i64 (by omega) (by omega)]; omega) (fun k53 e => ?_); subst e
                  exact hk _ (by omega)
                · rw [if_neg (by simpa using hneg)]
                  have := hk k38.toNat (by omega)
                  rwa [show ((k38.toNat : Nat) : Int) = k38 by omega] at this
            · rw [if_neg (by decide), if_pos ⟨by decide, by simp⟩]
              exact bnd_all (· = false) rfl (fun t e => by subst e; exact hk)
          · rw [if_neg (by decide), if_pos ⟨by decide, by simp⟩]
            exact bnd_all (· = false) (by simp) (fun t e => by subst e; exact hk)
        · rw [if_neg (by decide), if_pos ⟨by decide, by simp⟩]
          exact bnd_all (· = false) (by simp) (fun t e => by subst e; exact hk)
      · have e1 : Int.toNat (((quoteS s).length : Int) - 0) + 1 = (quoteS s).length + 1 := by omega
        rw [e1, show (0 : Int) = ((0 : Nat) : Int) from rfl]
        rw [quotes_l1 (quoteS s) ?_ (by unfold quoteS; simp only [List.length_cons, List.length_append, List.length_nil]; omega) k8 _ 0 (by omega)]
        · exact hk8
        · intro x hx
          unfold quoteS at hx
          rcases List.mem_cons.1 hx with rfl | hx
          · omega
          · rcases List.mem_append.1 hx with hx | hx
            · exact fmap_ok esc (fun c hc => esc_ok hc) hs x hx
            · simp at hx; subst hx; omega
    · have e1 : Int.toNat ((s.length : Int) - 0) + 1 = s.length + 1 := by omega
      rw [e1, show (0 : Int) = ((0 : Nat) : Int) from rfl, quotes_l2 s hs hl k5 s.length 0 [34] (by omega) (by simp), List.drop_zero]
      exact hk5
  · by_cases h9 : (List.length a0 : Int) > 900
    · rw [if_pos (by simpa using h9), if_pos ⟨by decide, by decide, by omega⟩, bnd_eq, List.drop_zero]
      exact hk _ (byteOk_take h0.1 900) (by rw [List.length_take]; omega)
    · rw [if_neg (by simpa using h9)]
      exact hk a0 h0.1 (by omega)
end Sx
