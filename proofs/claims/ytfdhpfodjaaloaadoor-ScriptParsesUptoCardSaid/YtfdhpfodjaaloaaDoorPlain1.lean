/-
  Own work, of several texts. What wraps and shifts of numbers come to.
  Texts cut into lines, words and digits: plain.
  A line's words: plain.
  A number's digits: plain.
  What a line's words say: plain.
  What a text says: plain.
  The examples that every statement asks first.
  Quoted texts: plain.
  What Print writes: plain.
  Print is what the definition says: plain.
  What is printed is read as the same: plain.
  What is read has nothing that its kinds do not name: plain.
  What the document's Print answers, and lists told anew: plain.
  The document's lines: plain.
  Lists of commands told anew, and compared: plain.
  The document's words, numbers and hashes: plain.
  What the document reads in words: plain.
  What the document reads in a line: plain.
  What the document reads in a text; ScriptParses: plain.
  ScriptParses: plain.
-/
import Derived.Test.YtfdhpfodjaaloaaDoorDefs
import Derived.Test.YtfdhpfodjaaloaaDoorLib2
import Derived.KernelRfl
namespace Sx
open Go

abbrev B32 := BitVec 32
def u (v : B32) : Int := (v.toNat : Int)
theorem wrap_i64 {n : Int} (h0 : -9223372036854775808 ≤ n) (h : n < 9223372036854775808) : IntKind.wrap .i64 n = n := by
  simp [IntKind.wrap, IntKind.bits, IntKind.signed]; omega
end Sx
namespace Sx
open Go Go.RowKit

/-! ### Go's library over texts -/
theorem prefix_eq (a p : List Int) : strings_HasPrefix a p = some (a.take p.length == p && decide (p.length ≤ a.length)) := by
  unfold strings_HasPrefix internal_stringslite_HasPrefix
  simp only [bnd_eq, Option.bind_eq_bind]
  by_cases h : p.length ≤ a.length
  · have h1 : decide ((List.length a : Int) ≥ (List.length p : Int)) = true := by simp; omega
    simp only [h1, if_true]
    rw [if_pos ⟨by omega, by omega, by omega⟩]
    simp [h, bind_eq]
  · have h1 : decide ((List.length a : Int) ≥ (List.length p : Int)) = false := by simp; omega
    simp [h1, h, bind_eq]
theorem trim_eq (a p : List Int) : strings_TrimPrefix a p = some (if a.take p.length == p && decide (p.length ≤ a.length) then a.drop p.length else a) := by
  have h0 : internal_stringslite_HasPrefix a p = some (a.take p.length == p && decide (p.length ≤ a.length)) := by
    have := prefix_eq a p
    unfold strings_HasPrefix at this
    cases h : internal_stringslite_HasPrefix a p with
    | none => rw [h] at this; cases this
    | some x => rw [h, bind_eq] at this; exact this
  unfold strings_TrimPrefix internal_stringslite_TrimPrefix
  rw [h0]
  simp only [bind_eq, bnd_eq]
  by_cases h : (a.take p.length == p && decide (p.length ≤ a.length)) = true
  · rw [if_pos h, if_pos h]
    have hl : p.length ≤ a.length := by simp at h; exact h.2
    rw [if_pos ⟨by omega, by omega, by omega⟩]
    simp [bind_eq]
  · rw [if_neg h, if_neg h]
    simp [bind_eq]

/-- a byte as the library has it -/
def b8 (c : Int) : UInt8 := UInt8.ofNat c.toNat
theorem b8_inj {a b : Int} (ha : 0 ≤ a ∧ a < 256) (hb : 0 ≤ b ∧ b < 256) : (b8 a == b8 b) = (a == b) := by
  rw [Bool.eq_iff_iff]; simp only [beq_iff_eq]
  exact ⟨byte_inj ha hb, fun h => h ▸ rfl⟩
theorem toB_cons (c : Int) (l : List Int) : toB (c :: l) = b8 c :: toB l := rfl
theorem toB_drop (l : List Int) (n : Nat) : (toB l).drop n = toB (l.drop n) := by simp [toB, List.map_drop]
theorem toB_take (l : List Int) (n : Nat) : (toB l).take n = toB (l.take n) := by simp [toB, List.map_take]
theorem byteOk_drop {l : List Int} (h : byteOk l) (n : Nat) : byteOk (l.drop n) := fun c hc => h c (List.mem_of_mem_drop hc)
theorem byteOk_cons {c : Int} {l : List Int} (h : byteOk (c :: l)) : (0 ≤ c ∧ c < 256) ∧ byteOk l := ⟨h c (by simp), fun x hx => h x (by simp [hx])⟩
theorem byteOk_mk {c : Int} {l : List Int} (h : 0 ≤ c ∧ c < 256) (hl : byteOk l) : byteOk (c :: l) := fun x hx => by
  rcases List.mem_cons.1 hx with rfl | hx
  · exact h
  · exact hl x hx
/-- where a byte stands first -/
theorem index_one (c : Int) (hc : 0 ≤ c ∧ c < 256) : ∀ (l : List Int), byteOk l → Lib.index (toB l) [b8 c] = if c ∈ l then ((l.takeWhile (· != c)).length : Int) else -1
  | [], _ => by simp [toB, Lib.index]
  | b :: l, h => by
    obtain ⟨hb, hl⟩ := byteOk_cons h
    have ih := index_one c hc l hl
    rw [toB_cons, Lib.index]
    have h1 : List.isPrefixOf [b8 c] (b8 b :: toB l) = (c == b) := by
      simp only [List.isPrefixOf, Bool.and_true]
      exact b8_inj hc hb
    rw [h1, ih]
    by_cases hcb : c = b
    · subst hcb; simp
    · have hbc : ¬ b = c := fun h => hcb h.symm
      have h2 : (c == b) = false := by simpa using hcb
      have h3 : (b != c) = true := by simpa using hbc
      simp only [h2, Bool.false_eq_true, if_false, List.mem_cons, hcb, false_or, List.takeWhile_cons, h3, if_true, List.length_cons]
      by_cases hm : c ∈ l
      · simp only [hm, if_true]
        rw [if_neg (by simp <;> omega)]
        omega
      · simp [hm]

theorem takeWhile_self (c : Int) : ∀ (l : List Int), c ∉ l → l.takeWhile (· != c) = l
  | [], _ => rfl
  | b :: l, h => by
    simp only [List.mem_cons, not_or] at h
    rw [List.takeWhile_cons, if_pos (by simpa using fun e : b = c => h.1 e.symm), takeWhile_self c l h.2]
theorem take_takeWhile (p : Int → Bool) : ∀ (l : List Int), l.take (l.takeWhile p).length = l.takeWhile p
  | [] => rfl
  | b :: l => by
    rw [List.takeWhile_cons]
    split
    · simp [take_takeWhile p l]
    · rfl
theorem drop_takeWhile (p : Int → Bool) : ∀ (l : List Int), l.drop (l.takeWhile p).length = l.dropWhile p
  | [] => rfl
  | b :: l => by
    rw [List.takeWhile_cons, List.dropWhile_cons]
    split
    · simp [drop_takeWhile p l]
    · rfl

/-- strings.Cut at a blank: what stands ahead of it -/
theorem cut_eq (s : List Int) (h : byteOk s) (hl : s.length < 4294967281) : ∃ x, strings_Cut s [32] = some (s.takeWhile (· != 32), x) := by
  unfold strings_Cut
  rw [if_pos hl]
  have hi := index_one 32 ⟨by decide, by decide⟩ s h
  have h32 : toB [32] = [b8 32] := rfl
  rw [h32]
  unfold Lib.cut
  by_cases hm : (32 : Int) ∈ s
  · rw [if_pos hm] at hi
    rw [if_pos (by rw [hi]; omega)]
    have e : ofB ((toB s).take (Lib.index (toB s) [b8 32]).toNat) = s.takeWhile (· != 32) := by
      rw [hi]
      simp only [Int.toNat_natCast]
      rw [toB_take, take_takeWhile, ofB_toB (fun c hc => h c (List.takeWhile_sublist _ |>.subset hc))]
    rw [e]; exact ⟨_, rfl⟩
  · rw [if_neg hm] at hi
    rw [if_neg (by rw [hi]; decide)]
    have e : ofB (toB s) = s.takeWhile (· != 32) := by rw [ofB_toB h, takeWhile_self 32 s hm]
    simp only
    rw [e]; exact ⟨_, rfl⟩

/-! ### lines -/
def lns : List Int → List (List Int)
  | [] => [[]]
  | b :: l => if b = 10 then [] :: lns l else match lns l with
    | [] => [[b]]
    | x :: r => (b :: x) :: r
theorem lns_ne (l : List Int) : lns l ≠ [] := by
  cases l with
  | nil => simp [lns]
  | cons b l =>
    unfold lns
    split
    · simp
    · split <;> simp
theorem split_lns : ∀ (k : Nat) (l : List Int), byteOk l → (toB l).count 10 = k → Lib.splitK [10] 0 k (toB l) = (lns l).map toB := by
  intro k
  induction k with
  | zero =>
    intro l hl hc
    rw [Lib.splitK]
    have hn : ∀ l : List Int, byteOk l → (toB l).count 10 = 0 → lns l = [l] := by
      intro l
      induction l with
      | nil => intro _ _; rfl
      | cons b l ih =>
        intro h hc
        obtain ⟨hb, hl⟩ := byteOk_cons h
        rw [toB_cons, List.count_cons] at hc
        have h1 : (toB l).count 10 = 0 := by omega
        have h2 : ¬ b = 10 := by
          rintro rfl
          simp [b8] at hc
        rw [lns, if_neg h2, ih hl h1]
    rw [hn l hl hc]; rfl
  | succ k ih =>
    intro l
    induction l with
    | nil => intro _ hc; simp [toB] at hc
    | cons b l ihl =>
      intro h hc
      obtain ⟨hb, hl⟩ := byteOk_cons h
      have hi := index_one 10 ⟨by decide, by decide⟩ (b :: l) h
      have h10 : ([10] : List UInt8) = [b8 10] := rfl
      rw [toB_cons, List.count_cons] at hc
      by_cases hb10 : b = 10
      · subst hb10
        have h1 : (toB l).count 10 = k := by
          have : ((b8 10 : UInt8) == 10) = true := by decide
          simp only [this, if_true] at hc; omega
        have e : Lib.index (toB (10 :: l)) [10] = 0 := by rw [h10, hi]; simp
        rw [Lib.splitK, e]
        simp only [Int.toNat_zero, Nat.zero_add, List.length_cons, List.length_nil]
        rw [if_neg (by decide)]
        rw [toB_drop, show (10 :: l : List Int).drop 1 = l from rfl, ih l hl h1, lns, if_pos rfl]
        rfl
      · have hne : ((b8 b : UInt8) == 10) = false := by
          have : (b8 b == b8 10) = (b == 10) := b8_inj hb ⟨by decide, by decide⟩
          rw [show (10 : UInt8) = b8 10 from rfl, this]; simpa using hb10
        rw [hne] at hc
        simp only [Bool.false_eq_true, if_false, Nat.add_zero] at hc
        have ih2 := ihl hl hc
        have hm : (10 : Int) ∈ l := by
          have : 0 < (toB l).count 10 := by omega
          have := List.count_pos_iff.1 this
          obtain ⟨c, hcl, hce⟩ := List.mem_map.1 this
          have := byte_inj (hl c hcl) (b := 10) ⟨by decide, by decide⟩ hce
          exact this ▸ hcl
        have hil := index_one 10 ⟨by decide, by decide⟩ l hl
        rw [if_pos hm] at hil
        have hib : Lib.index (toB (b :: l)) [10] = Lib.index (toB l) [10] + 1 := by
          rw [h10, hi, hil, if_pos (by simp [hm])]
          rw [List.takeWhile_cons, if_pos (by simpa using hb10)]
          simp
        rw [Lib.splitK] at ih2 ⊢
        have n0 : ¬ (Lib.index (toB l) [10] == -1) = true := by rw [h10, hil]; simp <;> omega
        have n1 : ¬ (Lib.index (toB (b :: l)) [10] == -1) = true := by rw [hib, h10, hil]; simp; omega
        rw [if_neg n0] at ih2
        rw [if_neg n1, hib]
        have e1 : (Lib.index (toB l) [10] + 1).toNat = (Lib.index (toB l) [10]).toNat + 1 := by rw [h10, hil]; omega
        rw [e1, lns, if_neg hb10]
        cases hL : lns l with
        | nil => exact absurd hL (lns_ne l)
        | cons x r =>
          rw [hL] at ih2
          simp only [List.map_cons, List.cons.injEq] at ih2 ⊢
          obtain ⟨i1, i2⟩ := ih2
          refine ⟨?_, ?_⟩
          · rw [toB_cons b x, ← i1]; simp [toB_cons]
          · rw [← i2, toB_cons]
            congr 1
theorem lns_ok {l : List Int} (h : byteOk l) : ∀ x ∈ lns l, byteOk x := by
  induction l with
  | nil => intro x hx; simp [lns] at hx; subst hx; intro c hc; cases hc
  | cons b l ih =>
    obtain ⟨hb, hl⟩ := byteOk_cons h
    intro x hx
    unfold lns at hx
    split at hx
    · rcases List.mem_cons.1 hx with rfl | hx
      · intro c hc; cases hc
      · exact ih hl x hx
    · split at hx
      · simp at hx; subst hx; exact byteOk_mk hb (fun c hc => by cases hc)
      · rename_i y r hy
        rcases List.mem_cons.1 hx with rfl | hx
        · exact byteOk_mk hb (ih hl y (by rw [hy]; simp))
        · exact ih hl x (by rw [hy]; simp [hx])
theorem split_eq (s : List Int) (h : byteOk s) (hl : s.length < 4294967281) : strings_Split s [10] = some (lns s) := by
  unfold strings_Split
  rw [if_pos ⟨hl, by decide⟩]
  have e10 : toB [10] = [10] := rfl
  rw [e10]
  unfold Lib.split
  rw [Lib.count_one, split_lns _ s h rfl, List.map_map]
  congr 1
  conv => rhs; rw [← List.map_id (lns s)]
  exact List.map_congr_left fun x hx => ofB_toB (lns_ok h x hx)

/-! ### digits -/
/-- the value of a hexadecimal digit -/
def hexd (c : Int) : Int := if 48 ≤ c ∧ c ≤ 57 then c - 48 else if 97 ≤ c ∧ c ≤ 102 then c - 87 else -1
theorem indexByte_hex : ∀ c : Fin 256, Lib.indexByte (toB [48, 49, 50, 51, 52, 53, 54, 55, 56, 57, 97, 98, 99, 100, 101, 102]) (c.val : Int).toNat.toUInt8 = hexd (c.val : Int) := by decide +kernel
theorem hex_eq {c : Int} (h : 0 ≤ c ∧ c < 256) : strings_IndexByte [48, 49, 50, 51, 52, 53, 54, 55, 56, 57, 97, 98, 99, 100, 101, 102] c = some (hexd c) := by
  unfold strings_IndexByte
  have := indexByte_hex ⟨c.toNat, by omega⟩
  simp only at this
  have e : ((c.toNat : Nat) : Int) = c := by omega
  rw [e] at this
  rw [this]
theorem digit_eq (s : List Int) (i : Nat) (hs : byteOk s) : script_digit s i = some (match s[i]? with | some c => hexd c | none => -1) := by
  unfold script_digit
  by_cases h : i < s.length
  · rw [if_neg (by simp; omega), if_pos ⟨by omega, by omega⟩]
    have hc : s[i]? = some s[i] := by simp [h]
    simp only [Int.toNat_natCast, List.getD, hc, Option.getD_some]
    rw [hex_eq (hs _ (List.getElem_mem h)), bind_eq]
  · rw [if_pos (by simp; omega)]
    simp [List.getElem?_eq_none (Nat.le_of_not_lt h)]
end Sx
namespace Sx
open Go Go.RowKit

/-- what stands in quotes, and what is left behind the closing one -/
def unq : List Int → Option (List Int × List Int)
  | [] => none
  | c :: r =>
    if c = 34 then some ([], r)
    else if c < 32 ∨ c > 126 then none
    else if c ≠ 92 then (unq r).map fun p => (c :: p.1, p.2)
    else match r with
      | [] => none
      | d :: r' =>
        if d = 34 ∨ d = 92 then (unq r').map fun p => (d :: p.1, p.2)
        else match r' with
          | a :: b :: r'' => if d ≠ 120 ∨ hexd a < 0 ∨ hexd b < 0 then none else (unq r'').map fun p => ((16 * hexd a + hexd b) :: p.1, p.2)
          | _ => none

theorem hexd_lt (c : Int) : hexd c < 16 ∧ -1 ≤ hexd c := by unfold hexd; split <;> (try split) <;> omega
theorem wrap_u8b {n : Int} (h0 : 0 ≤ n) (h : n < 256) : IntKind.wrap .u8 n = n := by
  simp only [IntKind.wrap, IntKind.bits, IntKind.signed, Bool.false_and, Bool.false_eq_true, if_false]; omega
theorem hex_byte {a b : Int} (ha : 0 ≤ hexd a) (hb : 0 ≤ hexd b) : IntKind.wrap .u8 (IntKind.wrap .i64 (IntKind.wrap .i64 (16 * hexd a) + hexd b)) = 16 * hexd a + hexd b := by
  have h1 := hexd_lt a
  have h2 := hexd_lt b
  have e1 : IntKind.wrap .i64 (16 * hexd a) = 16 * hexd a := wrap_i64 (by omega) (by omega)
  rw [e1]
  have e2 : IntKind.wrap .i64 (16 * hexd a + hexd b) = 16 * hexd a + hexd b := wrap_i64 (by omega) (by omega)
  rw [e2, wrap_u8b (by omega) (by omega)]

theorem drop_cons {l : List Int} {i : Nat} (h : i < l.length) : l.drop i = l.getD i 0 :: l.drop (i + 1) := by
  rw [List.drop_eq_getElem_cons h]; simp [List.getD, h]
theorem getD_byte {l : List Int} (hl : byteOk l) (i : Nat) : 0 ≤ l.getD i 0 ∧ l.getD i 0 < 256 := by
  by_cases h : i < l.length
  · have : l.getD i 0 = l[i] := by simp [List.getD, h]
    rw [this]; exact hl _ (List.getElem_mem h)
  · simp [List.getD, List.getElem?_eq_none (Nat.le_of_not_lt h)]
theorem take2 {l : List Int} {i : Nat} (x y : Int) : ((l.drop i).take 2 == [x, y] && decide (2 ≤ (l.drop i).length)) = (decide (i + 1 < l.length) && (l.getD i 0 == x && l.getD (i + 1) 0 == y)) := by
  by_cases h : i + 1 < l.length
  · have h1 : decide (2 ≤ (l.drop i).length) = true := by simp; omega
    rw [h1, Bool.and_true, drop_cons (by omega), drop_cons h]
    have : (l.getD i 0 :: l.getD (i + 1) 0 :: l.drop (i + 1 + 1)).take 2 = [l.getD i 0, l.getD (i + 1) 0] := rfl
    rw [this]
    simp only [h, decide_true, Bool.true_and]
    show (_ && (_ && true)) = _
    rw [Bool.and_true]
  · have h1 : decide (2 ≤ (l.drop i).length) = false := by simp; omega
    rw [h1, Bool.and_false]
    simp [h]

theorem unq_l0 (a0 : List Int) (ha : byteOk a0) (hl : a0.length < 4294967296) (x : List Int) (y : Int) : ∀ (m i : Nat) (out : List Int), a0.length - i < m → out.length ≤ i → i ≤ a0.length →
    script_unquoted_l0 a0 (fun _ => some none) m (x, y, (i : Int), out) = some ((unq (a0.drop i)).map fun p => (out ++ p.1, ((a0.length - p.2.length : Nat) : Int)))
  | 0, _, _, h, _, _ => absurd h (Nat.not_lt_zero _)
  | m + 1, i, out, h, ho, hi => by
    unfold script_unquoted_l0
    simp only
    by_cases hlt : i < a0.length
    · rw [if_pos (by simpa using hlt), if_pos ⟨by omega, by omega⟩]
      simp only [bnd_eq, Int.toNat_natCast]
      have hc := getD_byte ha i
      rw [drop_cons hlt]
      generalize hcc : a0.getD i 0 = c at hc
      have w1 : IntKind.wrap .i64 ((i : Int) + 1) = ((i + 1 : Nat) : Int) := by rw [wrap_i64 (by omega) (by omega)]; omega
      have w2 : IntKind.wrap .i64 ((i : Int) + 2) = ((i + 2 : Nat) : Int) := by rw [wrap_i64 (by omega) (by omega)]; omega
      have w3 : IntKind.wrap .i64 ((i : Int) + 3) = ((i + 3 : Nat) : Int) := by rw [wrap_i64 (by omega) (by omega)]; omega
      have w4 : IntKind.wrap .i64 ((i : Int) + 4) = ((i + 4 : Nat) : Int) := by rw [wrap_i64 (by omega) (by omega)]; omega
      unfold unq
      by_cases h34 : c = 34
      · subst h34
        rw [if_pos (by decide), if_pos rfl, w1]
        simp only [Option.map_some, List.append_nil, List.length_drop]
        congr 4; omega
      rw [if_neg (by simpa using h34), if_neg h34]
      by_cases hr : c < 32 ∨ c > 126
      · rw [if_pos (by simpa using hr), if_pos hr]; rfl
      rw [if_neg (by simpa using hr), if_neg hr]
      by_cases h92 : c ≠ 92
      · rw [if_pos (by simpa using h92), if_pos h92, if_pos (by simp only [List.length_cons, List.length_nil]; omega), w1, unq_l0 a0 ha hl x y m (i + 1) _ (by omega) (by simp; omega) (by omega)]
        cases unq (a0.drop (i + 1)) with
        | none => rfl
        | some p => simp
      rw [if_neg (by simpa using h92), if_neg h92]
      have hg : ((0 : Int) ≤ (i : Int) ∧ (i : Int) ≤ (a0.length : Int) ∧ (a0.length : Int) ≤ (a0.length : Int)) := ⟨by omega, by omega, by omega⟩
      have hcc92 : a0.getD i 0 = 92 := by rw [hcc]; simpa using h92
      simp only [if_pos hg, Int.toNat_natCast, List.take_length, prefix_eq, bind_eq, List.length_cons, List.length_nil, Nat.zero_add, Nat.reduceAdd, take2, w1, w2, w3, w4, hcc92, beq_self_eq_true, Bool.true_and]
      by_cases h1 : i + 1 < a0.length
      · have hg2 : ((0 : Int) ≤ ((i + 1 : Nat) : Int) ∧ ((i + 1 : Nat) : Int) < (a0.length : Int)) := ⟨by omega, by omega⟩
        have hg3 : (out.length + 1) * 1 ≤ 140737488355328 := by omega
        simp only [h1, decide_true, Bool.true_and, if_pos hg2, if_pos hg3]
        rw [drop_cons h1]
        simp only
        generalize hd : a0.getD (i + 1) 0 = d
        by_cases hdd : d = 34 ∨ d = 92
        · have key : script_unquoted_l0 a0 (fun _ => some none) m (x, y, ((i + 2 : Nat) : Int), out ++ [d]) =
              some (((unq (a0.drop (i + 1 + 1))).map fun p => (d :: p.1, p.2)).map fun p => (out ++ p.1, ((a0.length - p.2.length : Nat) : Int))) := by
            rw [unq_l0 a0 ha hl x y m (i + 2) _ (by omega) (by simp; omega) (by omega)]
            cases unq (a0.drop (i + 2)) with
            | none => rfl
            | some p => simp
          rw [if_pos hdd]
          rcases hdd with rfl | rfl
          · exact key
          · exact key
        · have e1 : (d == 34) = false := by simp; exact fun h => hdd (.inl h)
          have e2 : (d == 92) = false := by simp; exact fun h => hdd (.inr h)
          simp only [e1, e2, Bool.false_eq_true, if_false]
          rw [if_neg hdd]
          rw [digit_eq a0 (i + 2) ha, digit_eq a0 (i + 3) ha]
          simp only [bind_eq]
          by_cases h2 : i + 3 < a0.length
          · have g2 : a0[i + 2]? = some (a0.getD (i + 2) 0) := by simp [List.getD, show i + 2 < a0.length by omega]
            have g3 : a0[i + 3]? = some (a0.getD (i + 3) 0) := by simp [List.getD, h2]
            rw [show i + 1 + 1 = i + 2 from rfl, drop_cons (show i + 2 < a0.length by omega), show i + 2 + 1 = i + 3 from rfl, drop_cons h2, g2, g3]
            simp only
            generalize a0.getD (i + 2) 0 = a
            generalize a0.getD (i + 3) 0 = b
            by_cases hbad : d ≠ 120 ∨ hexd a < 0 ∨ hexd b < 0
            · rw [if_pos hbad]
              have : ((!(d == 120)) || decide (hexd a < 0) || decide (hexd b < 0)) = true := by
                rcases hbad with h | h | h <;> simp [h]
              rw [if_pos this]; rfl
            · rw [if_neg hbad]
              simp only [not_or, Decidable.not_not] at hbad
              obtain ⟨b1, b2, b3⟩ := hbad
              have : ((!(d == 120)) || decide (hexd a < 0) || decide (hexd b < 0)) = false := by simp [b1, b2, b3] <;> omega
              rw [if_neg (by rw [this]; simp), hex_byte (by omega) (by omega), unq_l0 a0 ha hl x y m (i + 4) _ (by omega) (by simp; omega) (by omega)]
              rw [show i + 3 + 1 = i + 4 from rfl]
              cases unq (a0.drop (i + 4)) with
              | none => rfl
              | some p => simp
          · have g3 : a0[i + 3]? = none := List.getElem?_eq_none (by omega)
            rw [g3]
            simp only
            have e3 : ∀ q : Bool, (q || decide ((-1 : Int) < 0)) = true := fun q => by simp
            rw [if_pos (by rw [e3])]
            have : (match a0.drop (i + 1 + 1) with
                | a :: b :: r'' => if d ≠ 120 ∨ hexd a < 0 ∨ hexd b < 0 then none else (unq r'').map fun p => ((16 * hexd a + hexd b) :: p.1, p.2)
                | _ => none) = none := by
              have hlen : (a0.drop (i + 1 + 1)).length ≤ 1 := by simp; omega
              cases hx : a0.drop (i + 1 + 1) with
              | nil => rfl
              | cons p q => cases q with
                | nil => rfl
                | cons _ _ => rw [hx] at hlen; simp at hlen
            rw [this]; rfl
      · have hnil : a0.drop (i + 1) = [] := List.drop_eq_nil_of_le (by omega)
        have g2 : a0[i + 2]? = none := List.getElem?_eq_none (by omega)
        have g3 : a0[i + 3]? = none := List.getElem?_eq_none (by omega)
        simp only [h1, decide_false, Bool.false_and, Bool.false_eq_true, if_false]
        rw [digit_eq a0 (i + 2) ha, digit_eq a0 (i + 3) ha, g2, g3]
        simp only [bind_eq, hnil]
        rfl
    · rw [if_neg (by simpa using hlt)]
      have : a0.drop i = [] := List.drop_eq_nil_of_le (by omega)
      rw [this]; rfl
theorem unquoted_eq (s : List Int) (hs : byteOk s) (hl : s.length < 4294967296) (h1 : 1 ≤ s.length) : script_unquoted s = some ((unq (s.drop 1)).map fun p => (p.1, ((s.length - p.2.length : Nat) : Int))) := by
  unfold script_unquoted
  simp only [bnd_eq]
  have e : Int.toNat ((s.length : Int) - 1) + 1 = s.length := by omega
  rw [e]
  have := unq_l0 s hs hl [] 0 s.length 1 [] (by omega) (by simp) h1
  simpa using this

/-- what is read is a beginning of what stood there -/
theorem unq_rest : ∀ (n : Nat) (s t r : List Int), s.length ≤ n → byteOk s → unq s = some (t, r) → ∃ p, s = p ++ r ∧ t.length < p.length ∧ byteOk t ∧ byteOk r := by
  intro n
  induction n with
  | zero => intro s t r hl _ h; obtain rfl := List.length_eq_zero_iff.1 (Nat.le_zero.1 hl); simp [unq] at h
  | succ n ih =>
    intro s t r hl hs h
    cases s with
    | nil => simp [unq] at h
    | cons c s =>
      obtain ⟨hc, hs⟩ := byteOk_cons hs
      simp only [List.length_cons] at hl
      unfold unq at h
      split at h
      · simp only [Option.some.injEq, Prod.mk.injEq] at h
        obtain ⟨rfl, rfl⟩ := h
        exact ⟨[c], rfl, by simp, (fun c hc => by cases hc), hs⟩
      split at h
      · cases h
      split at h
      · obtain ⟨⟨t', r'⟩, h1, h2⟩ := Option.map_eq_some_iff.1 h
        simp only [Prod.mk.injEq] at h2
        obtain ⟨rfl, rfl⟩ := h2
        obtain ⟨p, rfl, q1, q2, q3⟩ := ih s t' r' (by omega) hs h1
        exact ⟨c :: p, rfl, by simpa using q1, byteOk_mk hc q2, q3⟩
      cases s with
      | nil => simp at h
      | cons d s =>
        obtain ⟨hd, hs⟩ := byteOk_cons hs
        simp only [List.length_cons] at hl
        simp only at h
        split at h
        · obtain ⟨⟨t', r'⟩, h1, h2⟩ := Option.map_eq_some_iff.1 h
          simp only [Prod.mk.injEq] at h2
          obtain ⟨rfl, rfl⟩ := h2
          obtain ⟨p, rfl, q1, q2, q3⟩ := ih s t' r' (by omega) hs h1
          exact ⟨c :: d :: p, rfl, by simp; omega, byteOk_mk hd q2, q3⟩
        · cases s with
          | nil => cases h
          | cons a s =>
          cases s with
          | nil => cases h
          | cons b s' =>
            obtain ⟨ha, hs⟩ := byteOk_cons hs
            obtain ⟨hb, hs⟩ := byteOk_cons hs
            simp only [List.length_cons] at hl
            by_cases hbad : d ≠ 120 ∨ hexd a < 0 ∨ hexd b < 0
            · simp only [if_pos hbad] at h; cases h
            · simp only [if_neg hbad] at h
              obtain ⟨⟨t', r'⟩, h1, h2⟩ := Option.map_eq_some_iff.1 h
              simp only [Prod.mk.injEq] at h2
              obtain ⟨rfl, rfl⟩ := h2
              obtain ⟨p, rfl, q1, q2, q3⟩ := ih s' t' r' (by omega) hs h1
              have := hexd_lt a
              have := hexd_lt b
              exact ⟨c :: d :: a :: b :: p, rfl, by simp; omega, byteOk_mk (by omega) q2, q3⟩

/-! ### words -/
abbrev Wd := List Int × Bool × Unit
def word1 (s : List Int) : Option (Wd × List Int) :=
  if s.headD 0 = 34 then (unq (s.drop 1)).map fun p => ((p.1, true, ()), p.2)
  else if s.takeWhile (· != 32) = [] then none else some ((s.takeWhile (· != 32), false, ()), s.dropWhile (· != 32))
def wrdsF : Nat → List Int → Option (List Wd)
  | 0, _ => none
  | m + 1, s => match word1 s with
    | none => none
    | some (w, []) => some [w]
    | some (w, c :: r) => if c = 32 then (wrdsF m r).map (w :: ·) else none
def wrds (s : List Int) : Option (List Wd) := wrdsF (s.length + 1) s

theorem word1_rest {s r : List Int} {w : Wd} (hs : byteOk s) (h : word1 s = some (w, r)) : ∃ p, s = p ++ r ∧ 0 < p.length ∧ byteOk r ∧ byteOk w.1 ∧ w.1.length ≤ p.length ∧ (w.2.1 = false → w.1 ≠ [] ∧ p = w.1) := by
  unfold word1 at h
  split at h
  · rename_i h34
    obtain ⟨⟨t, r'⟩, h1, h2⟩ := Option.map_eq_some_iff.1 h
    simp only [Prod.mk.injEq] at h2
    obtain ⟨rfl, rfl⟩ := h2
    cases s with
    | nil => simp at h34
    | cons c s =>
      obtain ⟨hc, hs⟩ := byteOk_cons hs
      obtain ⟨p, h2, q1, q2, q3⟩ := unq_rest _ s t r' (Nat.le_refl _) hs h1
      subst h2
      exact ⟨c :: p, rfl, by simp, q3, q2, by simp; omega, fun h => by cases h⟩
  · split at h
    · cases h
    · rename_i hne
      simp only [Option.some.injEq, Prod.mk.injEq] at h
      obtain ⟨rfl, rfl⟩ := h
      exact ⟨s.takeWhile (· != 32), (List.takeWhile_append_dropWhile).symm, List.length_pos_iff.2 hne, fun c hc => hs c ((List.dropWhile_sublist _).subset hc), fun c hc => hs c ((List.takeWhile_sublist _).subset hc), Nat.le_refl _, fun _ => ⟨hne, rfl⟩⟩

theorem wrdsF_more : ∀ (m : Nat) (s : List Int), byteOk s → s.length < m → wrdsF m s = wrds s := by
  intro m
  induction m using Nat.strongRecOn with
  | ind m ih =>
    intro s hs hm
    cases m with
    | zero => exact absurd hm (Nat.not_lt_zero _)
    | succ m =>
      unfold wrds
      unfold wrdsF
      cases hw : word1 s with
      | none => rfl
      | some x =>
        obtain ⟨w, r⟩ := x
        obtain ⟨p, rfl, hp, hr, _⟩ := word1_rest hs hw
        cases r with
        | nil => rfl
        | cons c r =>
          simp only [List.length_append, List.length_cons] at hm ⊢
          split
          · obtain ⟨_, hr⟩ := byteOk_cons hr
            rw [ih m (by omega) r hr (by omega)]
            rw [ih (p.length + (r.length + 1)) (by omega) r hr (by omega)]
          · rfl
/-- the words, one by one -/
theorem wrds_eq {s : List Int} (hs : byteOk s) : wrds s = match word1 s with
    | none => none
    | some (w, []) => some [w]
    | some (w, c :: r) => if c = 32 then (wrds r).map (w :: ·) else none := by
  conv => lhs; unfold wrds; unfold wrdsF
  cases hw : word1 s with
  | none => rfl
  | some x =>
    obtain ⟨w, r⟩ := x
    obtain ⟨p, rfl, hp, hr, _⟩ := word1_rest hs hw
    cases r with
    | nil => rfl
    | cons c r =>
      simp only
      split
      · obtain ⟨_, hr⟩ := byteOk_cons hr
        rw [wrdsF_more _ r hr (by simp; omega)]
      · rfl

theorem words_l0 : ∀ (m : Nat) (s : List Int) (acc : List Wd), byteOk s → s.length < 4294967281 → s.length < m → acc.length + s.length ≤ 4294967296 →
    script_words_l0 m (s, acc) = some ((wrdsF m s).map (acc ++ ·))
  | 0, _, _, _, _, h, _ => absurd h (Nat.not_lt_zero _)
  | m + 1, s, acc, hs, hl, hm, hacc => by
    have tail : ∀ (w : Wd) (r p : List Int), s = p ++ r → 0 < p.length → byteOk r →
        (if (acc.length + [w].length) * 24 ≤ 140737488355328 then (if (0 : Int) ≤ (p.length : Int) ∧ (p.length : Int) ≤ (s.length : Int) ∧ (s.length : Int) ≤ (s.length : Int) then
          (if (r == []) = true then (some (some (acc ++ [w])) : Option (Option (List Wd))) else
            (if (0 : Int) ≤ 0 ∧ 0 < (r.length : Int) then (if (r.getD 0 0 != 32) = true then some none else
              (if (0 : Int) ≤ 1 ∧ 1 ≤ (r.length : Int) ∧ (r.length : Int) ≤ (r.length : Int) then script_words_l0 m (r.drop 1, acc ++ [w]) else none)) else none)) else none) else none) =
        some ((match (some (w, r) : Option (Wd × List Int)) with
          | none => none
          | some (w, []) => some [w]
          | some (w, c :: r) => if c = 32 then (wrdsF m r).map (w :: ·) else none).map (acc ++ ·)) := by
      intro w r p hp h0 hr
      have hlen : s.length = p.length + r.length := by rw [hp]; simp
      rw [if_pos (by simp only [List.length_cons, List.length_nil]; omega), if_pos ⟨by omega, by omega, by omega⟩]
      cases r with
      | nil => rfl
      | cons c r =>
        have hr' := (byteOk_cons hr).2
        simp only [List.length_cons] at hlen
        rw [if_neg (by simp), if_pos ⟨by omega, by simp only [List.length_cons]; omega⟩]
        simp only [List.getD_cons_zero]
        by_cases h32 : c = 32
        · subst h32
          rw [if_neg (by decide), if_pos ⟨by decide, by simp only [List.length_cons]; omega, by omega⟩, if_pos rfl]
          rw [show (32 :: r).drop 1 = r from rfl, words_l0 m r (acc ++ [w]) hr' (by omega) (by omega) (by simp; omega)]
          cases wrdsF m r with
          | none => rfl
          | some l => simp
        · rw [if_pos (by simpa using h32), if_neg h32]; rfl
    unfold script_words_l0 wrdsF
    simp only [bnd_eq, prefix_eq, bind_eq]
    by_cases h34 : s.headD 0 = 34
    · cases s with
      | nil => simp at h34
      | cons c r =>
        simp only [List.headD_cons] at h34
        subst h34
        have hw : word1 (34 :: r) = (unq r).map fun p => ((p.1, true, ()), p.2) := by simp only [word1, List.headD_cons, if_true]; rfl
        rw [if_pos (by simp), unquoted_eq _ hs (by omega) (by simp), bind_eq, hw]
        rw [show (34 :: r).drop 1 = r from rfl]
        cases hu : unq r with
        | none => rfl
        | some x =>
          obtain ⟨t, r2⟩ := x
          obtain ⟨hc, hr⟩ := byteOk_cons hs
          obtain ⟨p, hp, q1, q2, q3⟩ := unq_rest _ r t r2 (Nat.le_refl _) hr hu
          have hs2 : 34 :: r = (34 :: p) ++ r2 := by rw [hp]; rfl
          have hn : ((34 :: r).length - r2.length : Nat) = (34 :: p).length := by rw [hs2]; simp; omega
          simp only [Option.map_some, pb]
          rw [hn, if_neg (by simp; omega)]
          have hd : List.drop (Int.toNat ((34 :: p).length : Int)) (List.take (Int.toNat ((34 :: r).length : Int)) (34 :: r)) = r2 := by
            rw [Int.toNat_natCast, Int.toNat_natCast, List.take_length, hs2, List.drop_left']
            rfl
          rw [hd]
          have := tail (t, true, ()) r2 (34 :: p) hs2 (by simp) q3
          simpa using this
    · have h34' : (s.take ([34] : List Int).length == [34] && decide (([34] : List Int).length ≤ s.length)) = false := by
        cases s with
        | nil => rfl
        | cons c r => simp at h34; simp [h34]
      rw [h34']
      simp only [Bool.false_eq_true, if_false]
      obtain ⟨x, hx⟩ := cut_eq s hs hl
      rw [hx, bind_eq]
      simp only
      unfold word1
      rw [if_neg h34]
      by_cases hn : s.takeWhile (· != 32) = []
      · rw [if_pos hn, hn]; rfl
      · rw [if_neg hn]
        have hpos := List.length_pos_iff.2 hn
        rw [if_neg (by simpa using hn)]
        have hs2 : s = s.takeWhile (· != 32) ++ s.dropWhile (· != 32) := List.takeWhile_append_dropWhile.symm
        have hd : List.drop (Int.toNat ((s.takeWhile (· != 32)).length : Int)) (List.take (Int.toNat (s.length : Int)) s) = s.dropWhile (· != 32) := by
          rw [Int.toNat_natCast, Int.toNat_natCast, List.take_length, drop_takeWhile]
        rw [hd]
        have := tail (s.takeWhile (· != 32), false, ()) (s.dropWhile (· != 32)) (s.takeWhile (· != 32)) hs2 hpos (fun c hc => hs c ((List.dropWhile_sublist _).subset hc))
        simpa using this
theorem words_eq {s : List Int} (hs : byteOk s) (hl : s.length < 4294967281) : script_words s = some (wrds s) := by
  unfold script_words
  rw [words_l0 _ s [] hs hl (by omega) (by simp; omega), wrdsF_more _ s hs (by omega)]
  cases wrds s with
  | none => rfl
  | some l => rfl
end Sx
namespace Sx
open Go Go.RowKit

/-! ### what strconv.FormatInt gives -/
def decI (n : Nat) : List Int := ofB (Lib.decDigits n)
theorem decI_eq (n : Nat) : decI n = if n < 10 then [48 + (n : Int)] else decI (n / 10) ++ [48 + ((n % 10 : Nat) : Int)] := by
  unfold decI
  rw [Lib.decDigits]
  split
  · rename_i h
    simp only [ofB, List.map_cons, List.map_nil, UInt8.toNat_ofNat']
    congr 1; omega
  · simp only [ofB, List.map_append, List.map_cons, List.map_nil, UInt8.toNat_ofNat']
    congr 2; omega
theorem itoaI_eq (n : Int) : itoaI n = if n < 0 then 45 :: decI n.natAbs else decI n.toNat := by
  unfold itoaI Lib.itoa decI
  split
  · rfl
  · rfl
def isDig (c : Int) : Prop := 48 ≤ c ∧ c ≤ 57
instance (c : Int) : Decidable (isDig c) := by unfold isDig; exact inferInstance
def valD (a : Int) (l : List Int) : Int := l.foldl (fun a c => 10 * a + (c - 48)) a
theorem valD_append (a : Int) (x y : List Int) : valD a (x ++ y) = valD (valD a x) y := by simp [valD]
theorem decI_all : ∀ (n : Nat), (∀ c ∈ decI n, isDig c) ∧ valD 0 (decI n) = n ∧ decI n ≠ [] := by
  intro n
  induction n using Nat.strongRecOn with
  | ind n ih =>
    rw [decI_eq]
    split
    · rename_i h
      refine ⟨fun c hc => ?_, ?_, by simp⟩
      · simp at hc; subst hc; unfold isDig; omega
      · simp [valD]; omega
    · rename_i h
      obtain ⟨h1, h2, h3⟩ := ih (n / 10) (by omega)
      refine ⟨fun c hc => ?_, ?_, by simp⟩
      · rcases List.mem_append.1 hc with hc | hc
        · exact h1 c hc
        · simp at hc; subst hc; unfold isDig; omega
      · rw [valD_append, h2]
        simp only [valD, List.foldl_cons, List.foldl_nil]
        omega
theorem decI_inj {a b : Nat} (h : decI a = decI b) : a = b := by
  have h1 := (decI_all a).2.1
  have h2 := (decI_all b).2.1
  rw [h, h2] at h1
  omega
theorem decI_nomin (n : Nat) : ∀ r, decI n ≠ 45 :: r := fun r h => by
  have := (decI_all n).1 45 (by rw [h]; simp)
  unfold isDig at this; omega
theorem itoaI_inj {a b : Int} (h : itoaI a = itoaI b) : a = b := by
  rw [itoaI_eq, itoaI_eq] at h
  split at h <;> split at h
  · simp only [List.cons.injEq, true_and] at h
    have := decI_inj h; omega
  · exact absurd h.symm (decI_nomin _ _)
  · exact absurd h (decI_nomin _ _)
  · have := decI_inj h; omega

/-! ### runes -/
theorem bs_get {l : List Int} (hl : byteOk l) {p : Nat} (h : p < l.length) (h' : p < (bs l).size) : (((bs l)[p]'h').toNat : Int) = l.getD p 0 := by
  have hb := hl _ (List.getElem_mem h)
  have e : l.getD p 0 = l[p] := by simp [List.getD, h]
  rw [e]
  show (((bs l).data[p]'h').toNat : Int) = _
  simp only [bs, List.getElem_toArray, List.getElem_map, UInt8.toNat_ofNat']
  omega
theorem rune_low {l : List Int} (hl : byteOk l) {p : Nat} (h : p < l.length) (h128 : l.getD p 0 < 128) : rune l p = l.getD p 0 ∧ past l p = p + 1 := by
  have h' : p < (bs l).size := by rw [bs_size]; exact h
  have hg := bs_get hl h h'
  have := decode_ascii (bs l) p h' (by omega)
  unfold rune past
  rw [this]
  exact ⟨hg, rfl⟩
theorem rune_high {l : List Int} (hl : byteOk l) {p : Nat} (h : p < l.length) (h128 : 128 ≤ l.getD p 0) : 128 ≤ rune l p := by
  have h' : p < (bs l).size := by rw [bs_size]; exact h
  have hg := bs_get hl h h'
  have e : (bs l).get! (p + 0) = (bs l)[p]'h' := by
    show (bs l).get! p = _
    simp [ByteArray.get!, getElem!_pos, h']
    rfl
  unfold rune Utf8.decode
  simp only [e]
  have hb : 128 ≤ ((bs l)[p]'h').toNat := by omega
  rw [if_neg (by omega)]
  split
  · split
    · rename_i hh; simp only [ge_iff_le] at hh ⊢; omega
    · simp only [Utf8.runeError]; omega
  · split
    · split
      · rename_i hh; simp only [ge_iff_le, Bool.and_eq_true, decide_eq_true_eq] at hh; omega
      · simp only [Utf8.runeError]; omega
    · split
      · split
        · rename_i hh; simp only [ge_iff_le, Bool.and_eq_true, decide_eq_true_eq] at hh; omega
        · simp only [Utf8.runeError]; omega
      · simp only [Utf8.runeError]; omega

/-! ### the loop over digits -/
abbrev NumK := Int → Option (Option (Int × (List Wd × Unit)))
def numL (k : NumK) : List Int → Int → Option (Option (Int × (List Wd × Unit)))
  | [], n => k n
  | c :: r, n => if isDig c ∧ -9223372036854775808 ≤ 10 * n - (c - 48) then numL k r (10 * n - (c - 48)) else some none
theorem tdiv10 {d n : Int} (h : 0 ≤ d ∧ d ≤ 9) : (n < IntKind.wrap .i64 (Int.tdiv (IntKind.wrap .i64 ((-9223372036854775808) + d)) 10)) ↔ 10 * n - d < -9223372036854775808 := by
  have : d = 0 ∨ d = 1 ∨ d = 2 ∨ d = 3 ∨ d = 4 ∨ d = 5 ∨ d = 6 ∨ d = 7 ∨ d = 8 ∨ d = 9 := by omega
  have w : IntKind.wrap .i64 ((-9223372036854775808) + d) = (-9223372036854775808) + d := wrap_i64 (by omega) (by omega)
  rw [w]
  rcases this with rfl | rfl | rfl | rfl | rfl | rfl | rfl | rfl | rfl | rfl
  · rw [show IntKind.wrap .i64 (Int.tdiv ((-9223372036854775808 : Int) + 0) 10) = -922337203685477580 from by decide]; omega
  · rw [show IntKind.wrap .i64 (Int.tdiv ((-9223372036854775808 : Int) + 1) 10) = -922337203685477580 from by decide]; omega
  · rw [show IntKind.wrap .i64 (Int.tdiv ((-9223372036854775808 : Int) + 2) 10) = -922337203685477580 from by decide]; omega
  · rw [show IntKind.wrap .i64 (Int.tdiv ((-9223372036854775808 : Int) + 3) 10) = -922337203685477580 from by decide]; omega
  · rw [show IntKind.wrap .i64 (Int.tdiv ((-9223372036854775808 : Int) + 4) 10) = -922337203685477580 from by decide]; omega
  · rw [show IntKind.wrap .i64 (Int.tdiv ((-9223372036854775808 : Int) + 5) 10) = -922337203685477580 from by decide]; omega
  · rw [show IntKind.wrap .i64 (Int.tdiv ((-9223372036854775808 : Int) + 6) 10) = -922337203685477580 from by decide]; omega
  · rw [show IntKind.wrap .i64 (Int.tdiv ((-9223372036854775808 : Int) + 7) 10) = -922337203685477580 from by decide]; omega
  · rw [show IntKind.wrap .i64 (Int.tdiv ((-9223372036854775808 : Int) + 8) 10) = -922337203685477580 from by decide]; omega
  · rw [show IntKind.wrap .i64 (Int.tdiv ((-9223372036854775808 : Int) + 9) 10) = -922337203685477579 from by decide]; omega
theorem num_l0 (k : NumK) (s : List Int) (hs : byteOk s) : ∀ (m p : Nat) (n : Int), s.length - p < m → p ≤ s.length → -9223372036854775808 ≤ n → n ≤ 0 → script_reader_number_l0 k s m (n, p) = numL k (s.drop p) n
  | 0, _, _, h, _, _, _ => absurd h (Nat.not_lt_zero _)
  | m + 1, p, n, h, hp, hn, hn0 => by
    unfold script_reader_number_l0
    simp only [bnd_eq]
    by_cases hlt : p < s.length
    · rw [if_pos hlt, drop_cons hlt, numL]
      have hc := getD_byte hs p
      by_cases hd : isDig (s.getD p 0)
      · have hd' := hd
        unfold isDig at hd'
        obtain ⟨r1, r2⟩ := rune_low hs hlt (by omega)
        rw [r1, r2]
        generalize hcc : s.getD p 0 = c at *
        have hb : (decide (c < 48) || decide (c > 57)) = false := by simp; omega
        have w32 : IntKind.wrap .i32 (c - 48) = c - 48 := by simp [IntKind.wrap, IntKind.bits, IntKind.signed]; omega
        have w64 : IntKind.wrap .i64 (c - 48) = c - 48 := wrap_i64 (by omega) (by omega)
        rw [hb, w32, w64]
        simp only [Bool.false_eq_true, if_false]
        by_cases ho : -9223372036854775808 ≤ 10 * n - (c - 48)
        · rw [if_neg (by rw [decide_eq_true_eq, tdiv10 ⟨by omega, by omega⟩]; omega), if_pos ⟨hd, ho⟩]
          have e1 : IntKind.wrap .i64 (10 * n) = 10 * n := wrap_i64 (by omega) (by omega)
          rw [e1]
          have e2 : IntKind.wrap .i64 (10 * n - (c - 48)) = 10 * n - (c - 48) := wrap_i64 (by omega) (by omega)
          rw [e2]
          exact num_l0 k s hs m (p + 1) _ (by omega) (by omega) ho (by omega)
        · rw [if_pos (by rw [decide_eq_true_eq, tdiv10 ⟨by omega, by omega⟩]; omega), if_neg (fun h => ho h.2)]
      · have hr : rune s p < 48 ∨ rune s p > 57 := by
          by_cases h128 : s.getD p 0 < 128
          · rw [(rune_low hs hlt h128).1]; unfold isDig at hd; omega
          · have := rune_high hs hlt (by omega); omega
        have hb : (decide (rune s p < 48) || decide (rune s p > 57)) = true := by simpa using hr
        rw [hb, if_neg (c := isDig _ ∧ _) (fun h => hd h.1)]; simp
    · rw [if_neg hlt]
      have : s.drop p = [] := List.drop_eq_nil_of_le (by omega)
      rw [this, numL]
def negv (n : Int) (s : List Int) : Int := s.foldl (fun n c => 10 * n - (c - 48)) n
theorem negv_val (n : Int) (s : List Int) : negv n s = -(valD (-n) s) := by
  induction s generalizing n with
  | nil => simp [negv, valD]
  | cons c r ih =>
    show negv (10 * n - (c - 48)) r = -(valD (10 * -n + (c - 48)) r)
    rw [ih]
    congr 2; omega
theorem negv_le : ∀ (s : List Int) (n : Int), n ≤ 0 → (∀ c ∈ s, isDig c) → negv n s ≤ n
  | [], _, _, _ => Int.le_refl _
  | c :: r, n, hn, h => by
    have hc : isDig c := h c (by simp)
    unfold isDig at hc
    have := negv_le r (10 * n - (c - 48)) (by omega) (fun x hx => h x (by simp [hx]))
    show negv (10 * n - (c - 48)) r ≤ n
    omega
theorem numL_or (k : NumK) : ∀ (s : List Int) (n : Int), -9223372036854775808 ≤ n → n ≤ 0 → numL k s n = some none ∨ (numL k s n = k (negv n s) ∧ (∀ c ∈ s, isDig c) ∧ -9223372036854775808 ≤ negv n s ∧ negv n s ≤ 0)
  | [], n, h1, h2 => .inr ⟨rfl, by simp, h1, h2⟩
  | c :: r, n, h1, h2 => by
    unfold numL
    by_cases h : isDig c ∧ -9223372036854775808 ≤ 10 * n - (c - 48)
    · rw [if_pos h]
      have hc := h.1
      unfold isDig at hc
      rcases numL_or k r (10 * n - (c - 48)) h.2 (by omega) with h3 | ⟨h3, h4, h5, h6⟩
      · exact .inl h3
      · refine .inr ⟨h3, fun x hx => ?_, h5, h6⟩
        rcases List.mem_cons.1 hx with rfl | hx
        · exact h.1
        · exact h4 x hx
    · rw [if_neg h]; exact .inl rfl
theorem numL_ok (k : NumK) : ∀ (s : List Int) (n : Int), n ≤ 0 → (∀ c ∈ s, isDig c) → -9223372036854775808 ≤ negv n s → numL k s n = k (negv n s)
  | [], _, _, _, _ => rfl
  | c :: r, n, hn, h, hm => by
    have hc : isDig c := h c (by simp)
    have hc' := hc
    unfold isDig at hc'
    have hr : ∀ x ∈ r, isDig x := fun x hx => h x (by simp [hx])
    have := negv_le r (10 * n - (c - 48)) (by omega) hr
    have hm' : -9223372036854775808 ≤ negv (10 * n - (c - 48)) r := hm
    unfold numL
    rw [if_pos ⟨hc, by omega⟩, numL_ok k r _ (by omega) hr hm']
    rfl

/-! ### a reader's words -/
open Classical in
/-- the number that a word says -/
noncomputable def numS (t : List Int) : Option Int := if h : ∃ n, rng .i64 n ∧ itoaI n = t then some h.choose else none
theorem numS_some {n : Int} (h : rng .i64 n) : numS (itoaI n) = some n := by
  unfold numS
  have hx : ∃ m, rng .i64 m ∧ itoaI m = itoaI n := ⟨n, h, rfl⟩
  rw [dif_pos hx]
  exact congrArg some (itoaI_inj hx.choose_spec.2)
theorem numS_none {t : List Int} (h : ∀ n, rng .i64 n → itoaI n ≠ t) : numS t = none := by
  unfold numS
  rw [dif_neg]
  rintro ⟨n, h1, h2⟩
  exact h n h1 h2
theorem numS_spec {t : List Int} {n : Int} (h : numS t = some n) : rng .i64 n ∧ itoaI n = t := by
  unfold numS at h
  split at h
  · rename_i hx
    simp only [Option.some.injEq] at h
    subst h
    exact hx.choose_spec
  · cases h

def nextS (ws : List Wd) (q : Bool) : Option (List Int × (List Wd × Unit)) := match ws with
  | [] => none
  | w :: r => if w.2.1 = q then some (w.1, (r, ())) else none
theorem next_eq (ws : List Wd) (hl : ws.length < 4294967296) (q : Bool) : script_reader_next (ws, ()) q = some (nextS ws q) := by
  unfold script_reader_next nextS
  simp only [bnd_eq]
  cases ws with
  | nil => rfl
  | cons w r =>
    obtain ⟨t, b, u⟩ := w
    have h0 : ((((t, b, u) :: r : List Wd).length : Int) == 0) = false := by simp; omega
    rw [h0]
    simp only [Bool.false_eq_true, if_false, List.getD_cons_zero]
    rw [if_pos ⟨by decide, by simp only [List.length_cons]; omega⟩]
    by_cases hq : b = q
    · subst hq
      simp only [bne_self_eq_false, Bool.false_eq_true, if_false, if_true]
      rw [if_pos ⟨by decide, by simp only [List.length_cons]; omega⟩, if_pos ⟨by decide, by simp only [List.length_cons]; omega, by omega⟩]
      simp
    · rw [if_pos (by simpa using hq), if_neg hq]
theorem name_eq (ws : List Wd) (hl : ws.length < 4294967296) : script_reader_name (ws, ()) = some (nextS ws false) := by
  unfold script_reader_name
  rw [next_eq ws hl, bind_eq]
  cases nextS ws false <;> rfl
theorem quote_eq (ws : List Wd) (hl : ws.length < 4294967296) : script_reader_quote (ws, ()) = some (nextS ws true) := by
  unfold script_reader_quote
  rw [next_eq ws hl, bind_eq]
  cases nextS ws true <;> rfl

noncomputable def numR (ws : List Wd) : Option (Int × (List Wd × Unit)) := (nextS ws false).bind fun p => (numS p.1).map fun n => (n, p.2)

/-- what the words are known for -/
def WdOk (ws : List Wd) : Prop := ws.length < 4294967296 ∧ ∀ w ∈ ws, byteOk w.1 ∧ w.1.length < 4294967296 ∧ (w.2.1 = false → w.1 ≠ [])

theorem number_eq (ws : List Wd) (hw : WdOk ws) : script_reader_number (ws, ()) = some (numR ws) := by
  unfold script_reader_number numR
  rw [name_eq ws hw.1, bind_eq]
  cases ws with
  | nil => rfl
  | cons w r =>
    obtain ⟨t, b, u⟩ := w
    obtain ⟨hb, hl, hne⟩ : byteOk t ∧ t.length < 4294967296 ∧ (b = false → t ≠ []) := hw.2 (t, b, u) (by simp)
    unfold nextS
    cases b with
    | true => rfl
    | false =>
      simp only [if_true, pb, Option.bind_some, bnd_eq]
      have hne := hne rfl
      rw [trim_eq, bind_eq]
      simp only [List.length_cons, List.length_nil, Nat.zero_add]
      -- the digits
      have hgood : ∀ (n : Int), itoaI n = t → ((strconv_FormatInt n 10).bind fun r8 => if (r8 != t) = true then (some none : Option (Option (Int × (List Wd × Unit)))) else some (some (n, (r, ())))) = some (some (n, (r, ()))) := by
        intro n he
        unfold strconv_FormatInt
        rw [if_pos rfl, bind_eq, he, if_neg (by simp)]
      have hbad : ∀ (n : Int), itoaI n ≠ t → ((strconv_FormatInt n 10).bind fun r8 => if (r8 != t) = true then (some none : Option (Option (Int × (List Wd × Unit)))) else some (some (n, (r, ())))) = some none := by
        intro n he
        unfold strconv_FormatInt
        rw [if_pos rfl, bind_eq, if_pos (by simpa using he)]
      have hnone : ∀ n, rng .i64 n → numS t = none → itoaI n ≠ t := fun n hn h he => by rw [← he, numS_some hn] at h; cases h
      have hpos : (0 : Int) ≤ 0 ∧ (0 : Int) < (t.length : Int) := ⟨by decide, by have := List.length_pos_iff.2 hne; omega⟩
      simp only [if_pos hpos]
      by_cases h45 : t.getD 0 0 = 45
      · -- below nought
        obtain ⟨s', rfl⟩ : ∃ s', t = 45 :: s' := by
          cases t with
          | nil => exact absurd rfl hne
          | cons c s' => simp at h45; exact ⟨s', by rw [h45]⟩
        have hs' := (byteOk_cons hb).2
        have e1 : (if ((45 :: s').take 1 == [45] && decide (1 ≤ (45 :: s').length)) = true then (45 :: s').drop 1 else 45 :: s') = s' := by simp
        rw [e1, num_l0 _ s' hs' _ 0 0 (by omega) (by omega) (by decide) (by decide), List.drop_zero]
        cases hS : numS (45 :: s') with
        | some m =>
          obtain ⟨hm, hi⟩ := numS_spec hS
          have hi2 := hi
          rw [itoaI_eq] at hi2
          by_cases hneg : m < 0
          · rw [if_pos hneg] at hi2
            simp only [List.cons.injEq, true_and] at hi2
            obtain ⟨d1, d2, d3⟩ := decI_all m.natAbs
            rw [hi2] at d1 d2
            have hv : negv 0 s' = m := by rw [negv_val]; simp only [Int.neg_zero]; rw [d2]; omega
            simp only [rng, lo, Sx.hi] at hm
            rw [numL_ok _ s' 0 (by decide) d1 (by rw [hv]; omega), hv]
            simp only [List.getD_cons_zero, bne_self_eq_false, Bool.false_eq_true, if_false]
            exact hgood m hi
          · rw [if_neg hneg] at hi2
            exact absurd hi2 (decI_nomin _ _)
        | none =>
          rcases numL_or _ s' 0 (by decide) (by decide) with h | ⟨h, h1, h2, h3⟩
          · rw [h]; rfl
          · rw [h]
            simp only [List.getD_cons_zero, bne_self_eq_false, Bool.false_eq_true, if_false]
            exact hbad _ (hnone _ (by simp only [rng, lo, Sx.hi]; omega) hS)
      · have e1 : (if (t.take 1 == [45] && decide (1 ≤ t.length)) = true then t.drop 1 else t) = t := by
          rw [if_neg]
          cases t with
          | nil => exact absurd rfl hne
          | cons c s' => simp at h45; simp [h45]
        have h45' : (t.getD 0 0 != 45) = true := by simpa using h45
        rw [e1, num_l0 _ t hb _ 0 0 (by rw [Nat.sub_zero]; exact Nat.lt_succ_self _) (Nat.zero_le _) (by decide) (by decide), List.drop_zero]
        simp only [if_pos h45']
        cases hS : numS t with
        | some m =>
          obtain ⟨hm, hi⟩ := numS_spec hS
          have hi2 := hi
          rw [itoaI_eq] at hi2
          by_cases hneg : m < 0
          · rw [if_pos hneg] at hi2
            rw [← hi2] at h45
            exact absurd rfl h45
          · rw [if_neg hneg] at hi2
            obtain ⟨d1, d2, d3⟩ := decI_all m.toNat
            rw [hi2] at d1 d2
            have hv : negv 0 t = -m := by rw [negv_val]; simp only [Int.neg_zero]; rw [d2]; omega
            simp only [rng, lo, Sx.hi] at hm
            rw [numL_ok _ t 0 (by decide) d1 (by rw [hv]; omega), hv]
            have w : IntKind.wrap .i64 (0 - -m) = m := by rw [wrap_i64 (by omega) (by omega)]; omega
            rw [if_neg (by simp; omega), w]
            exact hgood m hi
        | none =>
          rcases numL_or _ t 0 (by decide) (by decide) with h | ⟨h, h1, h2, h3⟩
          · rw [h]; rfl
          · rw [h]
            generalize negv 0 t = v at *
            by_cases hv : v = -9223372036854775808
            · rw [if_pos (by simpa using hv)]; rfl
            · rw [if_neg (by simpa using hv)]
              have w : IntKind.wrap .i64 (0 - v) = -v := by rw [wrap_i64 (by omega) (by omega)]; omega
              rw [w]
              exact hbad _ (hnone _ (by simp only [rng, lo, Sx.hi]; omega) hS)
end Sx
namespace Sx
open Go Go.RowKit

abbrev Fate := List Int × Int × Int × List Int × Unit
abbrev Step := Int × Int × Int × Int × List Int × List Int × List Int × List Fate × Unit
abbrev Wld := Int × Int × List (List Int) × List (List Int) × Int × Int × Unit
abbrev Cmd := Int × Wld × (Int × Int × Step × Unit) × Int × Int × Unit
abbrev Rd := List Wd × Unit
abbrev z32 : List Int := List.replicate 32 (0 : Int)
abbrev z2 : List (List Int) := List.replicate 2 ((List.replicate 32 (0 : Int)) : List (Int))
abbrev zStep : Step := (0, 0, 0, 0, z32, [], [], [], ())
abbrev zWld : Wld := (0, 0, z2, z2, 0, 0, ())

theorem pb_some {α β : Type} {o : Option α} {k : α → Option (Option β)} {F : α → Option β} (h : ∀ r, o = some r → k r = some (F r)) : pb o k = some (o.bind F) := by
  cases o with
  | none => rfl
  | some r => exact h r rfl
theorem ite_some {α : Type} {c : Prop} [Decidable c] {X Y : Option α} {A B : α} (h1 : c → X = some A) (h2 : ¬ c → Y = some B) : (if c then X else Y) = some (if c then A else B) := by
  by_cases h : c
  · rw [if_pos h, if_pos h]; exact h1 h
  · rw [if_neg h, if_neg h]; exact h2 h

theorem WdOk.tail {w : Wd} {r : List Wd} (h : WdOk (w :: r)) : WdOk r := ⟨by have := h.1; simp only [List.length_cons] at this; omega, fun x hx => h.2 x (by simp [hx])⟩
theorem next_ok {ws : List Wd} {q : Bool} {t : List Int} {r : Rd} (h : nextS ws q = some (t, r)) (hw : WdOk ws) : WdOk r.1 ∧ byteOk t ∧ t.length < 4294967296 ∧ ∃ w, ws = w :: r.1 := by
  cases ws with
  | nil => cases h
  | cons w ws =>
    unfold nextS at h
    simp only at h
    split at h
    · simp only [Option.some.injEq, Prod.mk.injEq] at h
      obtain ⟨rfl, rfl⟩ := h
      exact ⟨hw.tail, (hw.2 w (by simp)).1, (hw.2 w (by simp)).2.1, w, rfl⟩
    · cases h
theorem name_r (rd : Rd) (hw : WdOk rd.1) : script_reader_name rd = some (nextS rd.1 false) := name_eq rd.1 hw.1
theorem quote_r (rd : Rd) (hw : WdOk rd.1) : script_reader_quote rd = some (nextS rd.1 true) := quote_eq rd.1 hw.1
theorem number_r (rd : Rd) (hw : WdOk rd.1) : script_reader_number rd = some (numR rd.1) := number_eq rd.1 hw
theorem num_ok {ws : List Wd} {n : Int} {r : Rd} (h : numR ws = some (n, r)) (hw : WdOk ws) : WdOk r.1 := by
  unfold numR at h
  obtain ⟨⟨t, r2⟩, h1, h2⟩ := Option.bind_eq_some_iff.1 h
  obtain ⟨m, _, h3⟩ := Option.map_eq_some_iff.1 h2
  simp only [Prod.mk.injEq] at h3
  obtain ⟨rfl, rfl⟩ := h3
  exact (next_ok h1 hw).1
theorem count_r (rd : Rd) (hw : WdOk rd.1) : script_reader_count rd = some (numR rd.1) := by
  unfold script_reader_count
  rw [number_r rd hw, bind_eq]
  cases numR rd.1 <;> rfl

/-! ### hashes -/
def hexL : List Int → Option (List Int)
  | [] => some []
  | [_] => none
  | a :: b :: r => if hexd a < 0 ∨ hexd b < 0 then none else (hexL r).map fun h => (16 * hexd a + hexd b) :: h
def hashS (t : List Int) : Option (List Int) := if t.length = 64 then hexL t else none
def hashR (ws : List Wd) : Option (List Int × Rd) := (nextS ws false).bind fun p => (hashS p.1).map fun h => (h, p.2)
theorem set_rep (pre : List Int) (j : Nat) (x : Int) : List.set (pre ++ List.replicate (j + 1) 0) pre.length x = (pre ++ [x]) ++ List.replicate j 0 := by
  rw [List.set_append]
  simp [List.replicate_succ]
theorem hash_l0 (t : List Int) (r : Rd) (hb : byteOk t) (ht : t.length = 64) (K : List Int → Option (Option (List Int × Rd))) : ∀ (j i : Nat) (pre : List Int), i + j = 32 → pre.length = i →
    script_reader_hash_l0 (t, r) K (j + 1) ((i : Int), pre ++ List.replicate j 0) = match hexL (t.drop (2 * i)) with | none => some none | some h => K (pre ++ h)
  | 0, i, pre, hi, hp => by
    obtain rfl : i = 32 := by omega
    unfold script_reader_hash_l0
    rw [if_neg (by simp), List.drop_eq_nil_of_le (by omega)]
    simp [hexL]
  | j + 1, i, pre, hi, hp => by
    unfold script_reader_hash_l0
    simp only [bnd_eq]
    rw [if_pos (by simp; omega)]
    have w1 : IntKind.wrap .i64 (2 * (i : Int)) = ((2 * i : Nat) : Int) := by rw [wrap_i64 (by omega) (by omega)]; omega
    have w2 : IntKind.wrap .i64 (((2 * i : Nat) : Int) + 1) = ((2 * i + 1 : Nat) : Int) := by rw [wrap_i64 (by omega) (by omega)]; omega
    have w3 : IntKind.wrap .i64 ((i : Int) + 1) = ((i + 1 : Nat) : Int) := by rw [wrap_i64 (by omega) (by omega)]; omega
    rw [w1, w2, digit_eq t _ hb, digit_eq t _ hb]
    have g1 : t[2 * i]? = some (t.getD (2 * i) 0) := by simp [List.getD, show 2 * i < t.length by omega]
    have g2 : t[2 * i + 1]? = some (t.getD (2 * i + 1) 0) := by simp [List.getD, show 2 * i + 1 < t.length by omega]
    rw [g1, g2, drop_cons (show 2 * i < t.length by omega), drop_cons (show 2 * i + 1 < t.length by omega)]
    simp only [bind_eq, hexL]
    generalize t.getD (2 * i) 0 = a
    generalize t.getD (2 * i + 1) 0 = b
    by_cases hbad : hexd a < 0 ∨ hexd b < 0
    · rw [if_pos (by simpa using hbad), if_pos hbad]
    · rw [if_neg (by simpa using hbad), if_neg hbad, if_pos ⟨by omega, by omega⟩, w3, hex_byte (by omega) (by omega), Int.toNat_natCast]
      have e : List.set (pre ++ List.replicate (j + 1) 0) i (16 * hexd a + hexd b) = (pre ++ [16 * hexd a + hexd b]) ++ List.replicate j 0 := by rw [← hp]; exact set_rep pre j _
      rw [e, hash_l0 t r hb ht K j (i + 1) _ (by omega) (by simp [hp])]
      rw [show 2 * (i + 1) = 2 * i + 1 + 1 by omega]
      cases hexL (t.drop (2 * i + 1 + 1)) with
      | none => rfl
      | some h => simp
theorem hash_r (rd : Rd) (hw : WdOk rd.1) : script_reader_hash rd = some (hashR rd.1) := by
  unfold script_reader_hash hashR
  rw [name_r rd hw, bind_eq]
  refine pb_some fun p hp => ?_
  obtain ⟨t, r⟩ := p
  obtain ⟨_, hb, hl, _⟩ := next_ok hp hw
  simp only [bnd_eq, hashS]
  by_cases h64 : t.length = 64
  · rw [if_neg (by simp; omega), if_pos h64]
    have := hash_l0 t r hb h64 (fun o7 => some (some (o7, r))) 32 0 [] (by omega) rfl
    simp only [List.nil_append, Nat.mul_zero, List.drop_zero] at this
    have this2 : script_reader_hash_l0 (t, r) (fun o7 => some (some (o7, r))) (Int.toNat (32 - 0) + 1) (0, List.replicate 32 0) = _ := this
    rw [this2]
    cases hexL t <;> rfl
  · rw [if_pos (by simp; omega), if_neg h64]; rfl
theorem hash_ok {ws : List Wd} {h : List Int} {r : Rd} (e : hashR ws = some (h, r)) (hw : WdOk ws) : WdOk r.1 := by
  unfold hashR at e
  obtain ⟨⟨t, r2⟩, h1, h2⟩ := Option.bind_eq_some_iff.1 e
  obtain ⟨m, _, h3⟩ := Option.map_eq_some_iff.1 h2
  simp only [Prod.mk.injEq] at h3
  obtain ⟨rfl, rfl⟩ := h3
  exact (next_ok h1 hw).1

/-! ### fates -/
def kindF (t : List Int) : Option Int := if (t == [108, 111, 115, 116]) = true then some 0 else if (t == [107, 101, 112, 116]) = true then some 1 else if (t == [114, 101, 112, 108, 97, 99, 101]) = true then some 2 else none
/-- one fate -/
noncomputable def fateR (ws : List Wd) : Option (Fate × Rd) := (nextS ws false).bind fun p => (kindF p.1).bind fun k => (nextS p.2.1 true).bind fun f => (numR f.2.1).bind fun s =>
  if k = 2 then (nextS s.2.1 true).bind fun b => some ((f.1, s.1, k, b.1, ()), b.2) else some ((f.1, s.1, k, [], ()), s.2)
noncomputable def fatesF : Nat → List Wd → Option (List Fate)
  | 0, _ => none
  | _ + 1, [] => some []
  | m + 1, ws => (fateR ws).bind fun p => (fatesF m p.2.1).map fun l => p.1 :: l
theorem fate_ok {ws : List Wd} {f : Fate} {r : Rd} (h : fateR ws = some (f, r)) (hw : WdOk ws) : WdOk r.1 ∧ r.1.length < ws.length := by
  unfold fateR at h
  obtain ⟨⟨t, r1⟩, h1, h⟩ := Option.bind_eq_some_iff.1 h
  obtain ⟨k, _, h⟩ := Option.bind_eq_some_iff.1 h
  obtain ⟨⟨f1, r2⟩, h2, h⟩ := Option.bind_eq_some_iff.1 h
  obtain ⟨⟨s1, r3⟩, h3, h⟩ := Option.bind_eq_some_iff.1 h
  obtain ⟨w1, _, _, x1, e1⟩ := next_ok h1 hw
  obtain ⟨w2, _, _, x2, e2⟩ := next_ok h2 w1
  have h3' := h3
  unfold numR at h3'
  obtain ⟨⟨t4, r4⟩, g1, g2⟩ := Option.bind_eq_some_iff.1 h3'
  obtain ⟨m, _, g3⟩ := Option.map_eq_some_iff.1 g2
  simp only [Prod.mk.injEq] at g3
  obtain ⟨rfl, rfl⟩ := g3
  obtain ⟨w3, _, _, x3, e3⟩ := next_ok g1 w2
  simp only at e1 e2 e3 h
  split at h
  · obtain ⟨⟨b, r5⟩, h4, h⟩ := Option.bind_eq_some_iff.1 h
    simp only [Option.some.injEq, Prod.mk.injEq] at h
    obtain ⟨_, rfl⟩ := h
    obtain ⟨w4, _, _, x4, e4⟩ := next_ok h4 w3
    refine ⟨w4, ?_⟩
    rw [e1, e2, e3, e4]; simp only [List.length_cons]; omega
  · simp only [Option.some.injEq, Prod.mk.injEq] at h
    obtain ⟨_, rfl⟩ := h
    refine ⟨w3, ?_⟩
    rw [e1, e2, e3]; simp only [List.length_cons]; omega
theorem fates_l0 : ∀ (m : Nat) (ws : List Wd) (acc : List Fate), ws.length < m → WdOk ws → acc.length + ws.length ≤ 4294967296 →
    script_reader_fates_l0 (fun o2 => some (some (o2.1, o2.2))) m ((ws, ()), acc) = some ((fatesF m ws).map fun l => (acc ++ l, ([], ())))
  | 0, _, _, h, _, _ => absurd h (Nat.not_lt_zero _)
  | m + 1, [], acc, _, _, _ => by
    unfold script_reader_fates_l0
    rw [if_neg (by simp)]
    simp [fatesF]
  | m + 1, w :: ws, acc, hm, hw, hacc => by
    have hz : (decide (((((w :: ws, ()), acc) : Rd × List Fate).1.1.length : Int) > 0)) = true := by simp <;> omega
    have last : ∀ (f : Fate) (r : Rd), fateR (w :: ws) = some (f, r) →
        (if (acc.length + [f].length) * 48 ≤ 140737488355328 then script_reader_fates_l0 (fun o2 => some (some (o2.1, o2.2))) m (r, acc ++ [f]) else none) = some ((fatesF m r.1).map fun l => (acc ++ f :: l, ([], ()))) := by
      intro f r hf
      obtain ⟨h1, h2⟩ := fate_ok hf hw
      simp only [List.length_cons] at hm hacc h2
      rw [if_pos (by simp only [List.length_cons, List.length_nil]; omega)]
      have := fates_l0 m r.1 (acc ++ [f]) (by omega) h1 (by simp; omega)
      rw [show ((r.1, ()) : Rd) = r from rfl] at this
      rw [this]
      simp
    have e : fatesF (m + 1) (w :: ws) = (fateR (w :: ws)).bind fun p => (fatesF m p.2.1).map fun l => p.1 :: l := rfl
    have e2 : ((fatesF (m + 1) (w :: ws)).map fun l => (acc ++ l, (([], ()) : Rd))) = (fateR (w :: ws)).bind fun p => (fatesF m p.2.1).map fun l => (acc ++ p.1 :: l, (([], ()) : Rd)) := by
      rw [e]; cases fateR (w :: ws) with
      | none => rfl
      | some p => simp [Option.map_map, Function.comp_def]
    rw [e2]
    unfold script_reader_fates_l0
    rw [if_pos hz]
    simp only [bnd_eq]
    generalize hF : fateR (w :: ws) = F at last ⊢
    unfold fateR at hF
    rw [name_r _ hw, bind_eq]
    simp only
    cases h1 : nextS (w :: ws) false with
    | none => rw [h1] at hF; subst hF; rfl
    | some p1 =>
      obtain ⟨w1, _⟩ := next_ok h1 hw
      rw [h1] at hF
      simp only [Option.bind_some] at hF
      simp only [pb]
      have body : ∀ k : Int, kindF p1.1 = some k → ((script_reader_quote p1.2).bind fun or13 => pb or13 fun r13 => (script_reader_count r13.2).bind fun or14 => pb or14 fun r14 =>
          if (k == 2) = true then (script_reader_quote r14.2).bind fun or19 => pb or19 fun r19 =>
            (if (acc.length + [((r13.1, r14.1, k, r19.1, ()) : Fate)].length) * 48 ≤ 140737488355328 then script_reader_fates_l0 (fun o2 => some (some (o2.1, o2.2))) m (r19.2, acc ++ [(r13.1, r14.1, k, r19.1, ())]) else none)
          else (if (acc.length + [((r13.1, r14.1, k, [], ()) : Fate)].length) * 48 ≤ 140737488355328 then script_reader_fates_l0 (fun o2 => some (some (o2.1, o2.2))) m (r14.2, acc ++ [(r13.1, r14.1, k, [], ())]) else none)) =
          some (F.bind fun p => (fatesF m p.2.1).map fun l => (acc ++ p.1 :: l, (([], ()) : Rd))) := by
        intro k hk
        rw [hk] at hF
        simp only [Option.bind_some] at hF
        rw [quote_r _ w1, bind_eq]
        cases h2 : nextS p1.2.1 true with
        | none => rw [h2] at hF; subst hF; rfl
        | some p2 =>
          obtain ⟨w2, _⟩ := next_ok h2 w1
          rw [h2] at hF
          simp only [Option.bind_some] at hF
          simp only [pb]
          rw [count_r _ w2, bind_eq]
          cases h3 : numR p2.2.1 with
          | none => rw [h3] at hF; subst hF; rfl
          | some p3 =>
            have w3 := num_ok h3 w2
            rw [h3] at hF
            simp only [Option.bind_some] at hF
            simp only [pb]
            by_cases hk2 : k = 2
            · subst hk2
              rw [if_pos rfl] at hF
              rw [if_pos (by decide)]
              rw [quote_r _ w3, bind_eq]
              cases h4 : nextS p3.2.1 true with
              | none => rw [h4] at hF; subst hF; rfl
              | some p4 =>
                rw [h4] at hF
                simp only [Option.bind_some] at hF
                subst hF
                simp only [pb, Option.bind_some]
                exact last _ _ rfl
            · rw [if_neg hk2] at hF
              rw [if_neg (by simpa using hk2)]
              subst hF
              exact last _ _ rfl
      unfold kindF at body hF
      by_cases c1 : (p1.1 == [108, 111, 115, 116]) = true
      · rw [if_pos c1]; exact body 0 (by rw [if_pos c1])
      · rw [if_neg c1]
        by_cases c2 : (p1.1 == [107, 101, 112, 116]) = true
        · rw [if_pos c2]; exact body 1 (by rw [if_neg c1, if_pos c2])
        · rw [if_neg c2]
          by_cases c3 : (p1.1 == [114, 101, 112, 108, 97, 99, 101]) = true
          · rw [if_pos c3]; exact body 2 (by rw [if_neg c1, if_neg c2, if_pos c3])
          · rw [if_neg c3]
            rw [if_neg c1, if_neg c2, if_neg c3] at hF
            subst hF; rfl
noncomputable def fatesR (ws : List Wd) : Option (List Fate × Rd) := (fatesF (ws.length + 1) ws).map fun l => (l, ([], ()))
theorem fates_r (rd : Rd) (hw : WdOk rd.1) : script_reader_fates rd = some (fatesR rd.1) := by
  unfold script_reader_fates fatesR
  simp only [bnd_eq]
  have := fates_l0 (rd.1.length + 1) rd.1 [] (by omega) hw (by have := hw.1; simp; omega)
  simpa using this
end Sx
namespace Sx
open Go Go.RowKit

/-! ### kinds by their word -/
def bareK (w : List Int) : Option Int := if w = [] then some 1 else if w = [115, 105, 103, 110] then some 4 else if w = [99, 108, 111, 115, 101] then some 5 else if w = [99, 111, 110, 110, 101, 99, 116] then some 6
  else if w = [100, 105, 115, 99, 111, 110, 110, 101, 99, 116] then some 7 else if w = [99, 104, 101, 99, 107, 112, 111, 105, 110, 116] then some 9 else if w = [111, 112, 101, 110] then some 13 else none
def askK (w : List Int) : Option Int := if w = [] then some 1 else if w = [115, 116, 97, 116, 101] then some 4 else if w = [108, 101, 100, 103, 101, 114] then some 5 else if w = [109, 97, 114, 107] then some 6 else if w = [112, 105, 112, 101] then some 7 else if w = [102, 105, 108, 101, 115] then some 8 else none
theorem eqc {x w : List Int} {α : Type} {A B : α} : (if (x == w) = true then A else B) = if w = x then A else B := by
  by_cases h : w = x
  · rw [if_pos h, if_pos (by simp [h])]
  · rw [if_neg h, if_neg (by simpa using fun e => h e.symm)]
theorem bare_eq (w : List Int) : script_kindOf_bare 13 w = some (bareK w) := by
  unfold script_kindOf_bare
  simp only [bnd_eq]
  have e : Int.toNat (13 + 1 - 1) + 1 = 14 := rfl
  rw [e]
  simp (decide := true) only [script_kindOf_bare_l0, script_bare, bnd_eq, bind_eq, if_true, if_false, eqc, IntKind.wrap, IntKind.bits, IntKind.signed]
  unfold bareK
  by_cases h : w = []
  · simp [h]
  · simp only [h, if_false]
    repeat' (first | (split <;> try rfl))
theorem ask_eq (w : List Int) : script_kindOf_question 8 w = some (askK w) := by
  unfold script_kindOf_question
  simp only [bnd_eq]
  have e : Int.toNat (8 + 1 - 1) + 1 = 9 := rfl
  rw [e]
  simp (decide := true) only [script_kindOf_question_l0, script_question, bnd_eq, bind_eq, if_true, if_false, eqc, IntKind.wrap, IntKind.bits, IntKind.signed]
  unfold askK
  by_cases h : w = []
  · simp [h]
  · simp only [h, if_false]
    repeat' (first | (split <;> try rfl))

/-! ### steps and commands -/
noncomputable def stepR (ws : List Wd) : Option (Step × Rd) := (nextS ws false).bind fun r2 => if (r2.1 == [111, 102, 102, 101, 114]) = true then ((numR r2.2.1).bind fun r3 => (hashR r3.2.1).bind fun r4 => some ((1, r3.1, 0, 0, r4.1, [], [], [], ()), r4.2)) else (if (r2.1 == [115, 101, 116, 116, 108, 101]) = true then ((numR r2.2.1).bind fun r5 => (hashR r5.2.1).bind fun r6 => some ((2, 0, r5.1, 0, r6.1, [], [], [], ()), r6.2)) else (if (r2.1 == [114, 101, 102, 117, 115, 101]) = true then ((numR r2.2.1).bind fun r7 => (nextS r7.2.1 true).bind fun r8 => some ((3, 0, r7.1, 0, z32, r8.1, [], [], ()), r8.2)) else (if (r2.1 == [116, 97, 107, 101]) = true then ((nextS r2.2.1 true).bind fun r9 => some ((8, 0, 0, 0, z32, [], r9.1, [], ()), r9.2)) else (if (r2.1 == [97, 114, 109]) = true then ((numR r2.2.1).bind fun r10 => some ((10, 0, 0, r10.1, z32, [], [], [], ()), r10.2)) else (if (r2.1 == [102, 97, 108, 108]) = true then ((numR r2.2.1).bind fun r11 => some ((11, 0, 0, r11.1, z32, [], [], [], ()), r11.2)) else (if (r2.1 == [99, 114, 97, 115, 104]) = true then ((numR r2.2.1).bind fun r12 => (fatesR r12.2.1).bind fun r13 => some ((12, 0, 0, r12.1, z32, [], [], r13.1, ()), r13.2)) else ((bareK r2.1).bind fun r15 => some ((r15, 0, 0, 0, z32, [], [], [], ()), r2.2))))))))
theorem step_r (rd : Rd) (hw : WdOk rd.1) : script_reader_step rd = some (stepR rd.1) := by
  unfold script_reader_step stepR
  rw [name_r rd hw, bind_eq]
  refine pb_some fun r2 h2 => ?_
  have w2 := (next_ok h2 hw).1
  refine ite_some (fun _ => ?_) (fun _ => ?_)
  · rw [number_r _ w2, bind_eq]; refine pb_some fun r3 h3 => ?_
    have w3 := num_ok h3 w2
    rw [hash_r _ w3, bind_eq]; exact pb_some fun r4 h4 => rfl
  refine ite_some (fun _ => ?_) (fun _ => ?_)
  · rw [number_r _ w2, bind_eq]; refine pb_some fun r3 h3 => ?_
    have w3 := num_ok h3 w2
    rw [hash_r _ w3, bind_eq]; exact pb_some fun r4 h4 => rfl
  refine ite_some (fun _ => ?_) (fun _ => ?_)
  · rw [number_r _ w2, bind_eq]; refine pb_some fun r3 h3 => ?_
    have w3 := num_ok h3 w2
    rw [quote_r _ w3, bind_eq]; exact pb_some fun r4 h4 => rfl
  refine ite_some (fun _ => ?_) (fun _ => ?_)
  · rw [quote_r _ w2, bind_eq]; exact pb_some fun r4 h4 => rfl
  refine ite_some (fun _ => ?_) (fun _ => ?_)
  · rw [number_r _ w2, bind_eq]; exact pb_some fun r4 h4 => rfl
  refine ite_some (fun _ => ?_) (fun _ => ?_)
  · rw [number_r _ w2, bind_eq]; exact pb_some fun r4 h4 => rfl
  refine ite_some (fun _ => ?_) (fun _ => ?_)
  · rw [number_r _ w2, bind_eq]; refine pb_some fun r3 h3 => ?_
    have w3 := num_ok h3 w2
    rw [fates_r _ w3, bind_eq]; exact pb_some fun r4 h4 => rfl
  · rw [bare_eq, bind_eq]; exact pb_some fun r4 h4 => rfl
noncomputable def cmdR (ws : List Wd) : Option (Cmd × Rd) := (nextS ws false).bind fun r2 => if (r2.1 == [119, 111, 114, 108, 100]) = true then ((numR r2.2.1).bind fun r4 => (numR r4.2.1).bind fun r5 => (numR r5.2.1).bind fun r6 => (numR r6.2.1).bind fun r7 => (hashR r7.2.1).bind fun r8 => (hashR r8.2.1).bind fun r9 => (hashR r9.2.1).bind fun r10 => (hashR r10.2.1).bind fun r11 => some ((1, (r4.1, r5.1, [r8.1, r9.1], [r10.1, r11.1], r6.1, r7.1, ()), (0, 0, zStep, ()), 0, 0, ()), r11.2)) else (if (r2.1 == [115, 116, 101, 112]) = true then ((numR r2.2.1).bind fun r12 => (stepR r12.2.1).bind fun r13 => some ((2, zWld, (1, r12.1, r13.1, ()), 0, 0, ()), r13.2)) else (if (r2.1 == [106, 111, 105, 110]) = true then (some ((2, zWld, (2, 0, zStep, ()), 0, 0, ()), r2.2)) else (if (r2.1 == [99, 117, 116]) = true then (some ((2, zWld, (3, 0, zStep, ()), 0, 0, ()), r2.2)) else (if (r2.1 == [100, 101, 108, 105, 118, 101, 114]) = true then ((numR r2.2.1).bind fun r14 => some ((2, zWld, (4, r14.1, zStep, ()), 0, 0, ()), r14.2)) else (if (r2.1 == [108, 111, 115, 101]) = true then ((numR r2.2.1).bind fun r15 => some ((2, zWld, (5, r15.1, zStep, ()), 0, 0, ()), r15.2)) else (if (r2.1 == [113, 117, 105, 101, 116]) = true then ((numR r2.2.1).bind fun r16 => some ((3, zWld, (0, 0, zStep, ()), r16.1, 0, ()), r16.2)) else (if (r2.1 == [106, 111, 105, 110, 101, 100]) = true then (some ((9, zWld, (0, 0, zStep, ()), 0, 0, ()), r2.2)) else ((askK r2.1).bind fun r17 => (numR r2.2.1).bind fun r18 => some ((r17, zWld, (0, 0, zStep, ()), 0, r18.1, ()), r18.2)))))))))
theorem cmd_r (rd : Rd) (hw : WdOk rd.1) : script_reader_command rd = some (cmdR rd.1) := by
  unfold script_reader_command cmdR
  rw [name_r rd hw, bind_eq]
  refine pb_some fun r2 h2 => ?_
  have w2 := (next_ok h2 hw).1
  refine ite_some (fun _ => ?_) (fun _ => ?_)
  · rw [number_r _ w2, bind_eq]; refine pb_some fun r4 h4 => ?_
    have w4 := num_ok h4 w2
    rw [number_r _ w4, bind_eq]; refine pb_some fun r5 h5 => ?_
    have w5 := num_ok h5 w4
    rw [count_r _ w5, bind_eq]; refine pb_some fun r6 h6 => ?_
    have w6 := num_ok h6 w5
    rw [count_r _ w6, bind_eq]; refine pb_some fun r7 h7 => ?_
    have w7 := num_ok h7 w6
    rw [hash_r _ w7, bind_eq]; refine pb_some fun r8 h8 => ?_
    have w8 := hash_ok h8 w7
    rw [hash_r _ w8, bind_eq]; refine pb_some fun r9 h9 => ?_
    have w9 := hash_ok h9 w8
    rw [if_pos ⟨by decide, by decide⟩, if_pos ⟨by decide, by decide⟩, hash_r _ w9, bind_eq]; refine pb_some fun r10 h10 => ?_
    have w10 := hash_ok h10 w9
    rw [hash_r _ w10, bind_eq]; refine pb_some fun r11 h11 => ?_
    rw [if_pos ⟨by decide, by decide⟩, if_pos ⟨by decide, by decide⟩]
    rfl
  refine ite_some (fun _ => ?_) (fun _ => ?_)
  · rw [count_r _ w2, bind_eq]; refine pb_some fun r3 h3 => ?_
    have w3 := num_ok h3 w2
    rw [step_r _ w3, bind_eq]; exact pb_some fun r4 h4 => rfl
  refine ite_some (fun _ => rfl) (fun _ => ?_)
  refine ite_some (fun _ => rfl) (fun _ => ?_)
  refine ite_some (fun _ => ?_) (fun _ => ?_)
  · rw [count_r _ w2, bind_eq]; exact pb_some fun r4 h4 => rfl
  refine ite_some (fun _ => ?_) (fun _ => ?_)
  · rw [count_r _ w2, bind_eq]; exact pb_some fun r4 h4 => rfl
  refine ite_some (fun _ => ?_) (fun _ => ?_)
  · rw [number_r _ w2, bind_eq]; exact pb_some fun r4 h4 => rfl
  refine ite_some (fun _ => rfl) (fun _ => ?_)
  rw [ask_eq, bind_eq]; refine pb_some fun r4 h4 => ?_
  rw [count_r _ w2, bind_eq]; exact pb_some fun r5 h5 => rfl

/-! ### the whole text -/
theorem wrds_ok : ∀ (n : Nat) (s : List Int), s.length ≤ n → byteOk s → ∀ ws, wrds s = some ws → ws ≠ [] ∧ ws.length ≤ s.length ∧ ∀ w ∈ ws, byteOk w.1 ∧ w.1.length ≤ s.length ∧ (w.2.1 = false → w.1 ≠ []) := by
  intro n
  induction n with
  | zero =>
    intro s hl hs ws h
    obtain rfl := List.length_eq_zero_iff.1 (Nat.le_zero.1 hl)
    rw [wrds_eq hs] at h
    simp [word1] at h
  | succ n ih =>
    intro s hl hs ws h
    rw [wrds_eq hs] at h
    cases hw : word1 s with
    | none => rw [hw] at h; cases h
    | some x =>
      obtain ⟨w, r⟩ := x
      rw [hw] at h
      obtain ⟨p, rfl, hp, hr, hb, hwl, hne⟩ := word1_rest hs hw
      have hw0 : byteOk w.1 ∧ w.1.length ≤ (p ++ r).length ∧ (w.2.1 = false → w.1 ≠ []) := ⟨hb, by simp; omega, fun e => (hne e).1⟩
      cases r with
      | nil =>
        simp only [Option.some.injEq] at h
        subst h
        refine ⟨by simp, by simp; omega, fun x hx => ?_⟩
        obtain rfl := List.mem_singleton.1 hx
        exact hw0
      | cons c r =>
        simp only at h
        split at h
        · obtain ⟨ws', h1, rfl⟩ := Option.map_eq_some_iff.1 h
          obtain ⟨_, hr⟩ := byteOk_cons hr
          simp only [List.length_append, List.length_cons] at hl
          obtain ⟨_, g1, g2⟩ := ih r (by omega) hr ws' h1
          refine ⟨by simp, by simp; omega, fun x hx => ?_⟩
          rcases List.mem_cons.1 hx with rfl | hx
          · exact hw0
          · obtain ⟨q1, q2, q3⟩ := g2 x hx
            exact ⟨q1, by simp; omega, q3⟩
        · cases h
theorem wrds_WdOk {s : List Int} (hs : byteOk s) (hl : s.length < 4294967281) {ws : List Wd} (h : wrds s = some ws) : WdOk ws := by
  obtain ⟨_, h1, h2⟩ := wrds_ok _ s (Nat.le_refl _) hs ws h
  exact ⟨by omega, fun w hw => by obtain ⟨a, b, c⟩ := h2 w hw; exact ⟨a, by omega, c⟩⟩

/-- what a line says -/
noncomputable def lineS (s : List Int) : Option Cmd := (wrds s).bind fun ws => (cmdR ws).bind fun p => if p.2.1 = [] then some p.1 else none
/-- a line that says nothing -/
def mute (s : List Int) : Prop := s = [] ∨ s.headD 0 = 35
instance (s : List Int) : Decidable (mute s) := by unfold mute; exact inferInstance
noncomputable def linesS : List (List Int) → Option (List Cmd)
  | [] => some []
  | s :: r => if mute s then linesS r else (lineS s).bind fun c => (linesS r).map fun l => c :: l
/-- the lines that count -/
def lnsE (t : List Int) : List (List Int) := if (lns t).getLastD [] = [] then (lns t).dropLast else lns t
def longS (t : List Int) : Bool := decide (65536 < t.length) || ((lnsE t).any fun x => decide (4096 < x.length)) || decide (1024 < (lnsE t).length)
noncomputable def parseS (t : List Int) : List Cmd × Int := if longS t then ([], 3) else match linesS (lns t) with | none => ([], 250) | some l => (l, 0)

theorem long_l0 (l : List (List Int)) (hl : l.length < 4294967296) (K : Unit → Option Bool) : ∀ (m i : Nat), i + m = l.length → script_long_l0 l K (m + 1) (i : Int) = if (l.drop i).any (fun x => decide (4096 < x.length)) then some true else K ()
  | 0, i, h => by
    unfold script_long_l0
    rw [if_neg (by simp; omega), List.drop_eq_nil_of_le (by omega)]; rfl
  | m + 1, i, h => by
    unfold script_long_l0
    rw [if_pos (by simp; omega), if_pos ⟨by omega, by omega⟩]
    simp only [bnd_eq, Int.toNat_natCast]
    have hi : i < l.length := by omega
    have e : l.drop i = l.getD i [] :: l.drop (i + 1) := by rw [List.drop_eq_getElem_cons hi]; simp [List.getD, hi]
    have w : IntKind.wrap .i64 ((i : Int) + 1) = ((i + 1 : Nat) : Int) := by rw [wrap_i64 (by omega) (by omega)]; omega
    rw [e, List.any_cons, w, long_l0 l hl K m (i + 1) (by omega)]
    generalize l.getD i [] = x
    by_cases h4 : 4096 < x.length
    · rw [if_pos (by simp; omega)]; simp [h4]
    · rw [if_neg (by simp; omega)]
      have : decide (4096 < x.length) = false := by simpa using h4
      rw [this, Bool.false_or]
theorem lns_len (t : List Int) : (lns t).length ≤ t.length + 1 := by
  induction t with
  | nil => simp [lns]
  | cons b l ih =>
    unfold lns
    split
    · simp; omega
    · split
      · simp
      · rename_i x r h
        rw [h] at ih
        simp only [List.length_cons] at ih ⊢; omega
theorem lns_parts {t : List Int} : ∀ x ∈ lns t, x.length ≤ t.length := by
  induction t with
  | nil => intro x hx; simp [lns] at hx; subst hx; simp
  | cons b l ih =>
    intro x hx
    unfold lns at hx
    split at hx
    · rcases List.mem_cons.1 hx with rfl | hx
      · simp
      · have := ih x hx; simp; omega
    · split at hx
      · simp at hx; subst hx; simp
      · rename_i y r hy
        rcases List.mem_cons.1 hx with rfl | hx
        · have := ih y (by rw [hy]; simp); simp; omega
        · have := ih x (by rw [hy]; simp [hx]); simp; omega
theorem long_eq {t : List Int} (ht : byteOk t) : script_long t = some (longS t) := by
  unfold script_long longS
  by_cases h : 65536 < t.length
  · rw [if_pos (by simp; omega)]; simp [h]
  · rw [if_neg (by simp; omega), split_eq t ht (by omega), bind_eq]
    simp only [bnd_eq]
    have hne := List.length_pos_iff.2 (lns_ne t)
    have hll := lns_len t
    have w : IntKind.wrap .i64 (((lns t).length : Int) - 1) = (((lns t).length - 1 : Nat) : Int) := by rw [wrap_i64 (by omega) (by omega)]; omega
    rw [w, if_pos ⟨by omega, by omega⟩, Int.toNat_natCast]
    have hd : decide (65536 < t.length) = false := by simpa using h
    rw [hd, Bool.false_or]
    have hlast : (lns t).getD ((lns t).length - 1) [] = (lns t).getLastD [] := by
      rw [List.getLastD_eq_getLast?, List.getLast?_eq_getElem?]; rfl
    rw [hlast]
    have fin : ∀ l : List (List Int), l.length ≤ t.length + 1 → script_long_l0 l (fun _ => some (decide ((l.length : Int) > 1024))) (Int.toNat ((l.length : Int) - 0) + 1) 0 = some ((l.any fun x => decide (4096 < x.length)) || decide (1024 < l.length)) := by
      intro l hl
      have := long_l0 l (by omega) (fun _ => some (decide ((l.length : Int) > 1024))) l.length 0 (by omega)
      have e : Int.toNat ((l.length : Int) - 0) + 1 = l.length + 1 := by omega
      rw [e, show (0 : Int) = ((0 : Nat) : Int) from rfl, this, List.drop_zero]
      by_cases ha : (l.any fun x => decide (4096 < x.length)) = true
      · rw [if_pos ha, ha]; rfl
      · rw [if_neg ha]
        have : (l.any fun x => decide (4096 < x.length)) = false := by simpa using ha
        rw [this, Bool.false_or]
        congr 1
        apply Bool.eq_iff_iff.2
        simp; omega
    unfold lnsE
    by_cases he : (lns t).getLastD [] = []
    · rw [if_pos (by simpa using he), if_pos he, if_pos ⟨by decide, by omega, by omega⟩]
      rw [List.drop_zero, ← List.dropLast_eq_take]
      exact fin _ (by simp; omega)
    · rw [if_neg (by simpa using he), if_neg he]
      exact fin _ hll

theorem parse_l0 (L : List (List Int)) (hL : L.length < 4294967296) (hb : ∀ s ∈ L, byteOk s ∧ s.length < 4294967281) : ∀ (m i : Nat) (acc : List Cmd), i + m = L.length → acc.length ≤ i →
    (script_Parse_in_l0 (fun o5 => some (some (o5, 0))) L (m + 1) ((i : Int), acc)).map (fun o => o.getD ([], 250)) = some (match linesS (L.drop i) with | none => ([], 250) | some l => (acc ++ l, 0))
  | 0, i, acc, h, ha => by
    unfold script_Parse_in_l0
    rw [if_neg (by simp; omega), List.drop_eq_nil_of_le (by omega)]
    simp [linesS]
  | m + 1, i, acc, h, ha => by
    unfold script_Parse_in_l0
    rw [if_pos (by simp; omega)]
    simp only [bnd_eq, Int.toNat_natCast]
    have hi : i < L.length := by omega
    rw [if_pos ⟨by omega, by omega⟩]
    have e : L.drop i = L.getD i [] :: L.drop (i + 1) := by rw [List.drop_eq_getElem_cons hi]; simp [List.getD, hi]
    have w : IntKind.wrap .i64 ((i : Int) + 1) = ((i + 1 : Nat) : Int) := by rw [wrap_i64 (by omega) (by omega)]; omega
    have hs := hb (L.getD i []) (by rw [show L.getD i [] = L[i] by simp [List.getD, hi]]; exact List.getElem_mem hi)
    rw [e, linesS, w]
    generalize L.getD i [] = s at hs
    have ih := fun acc h => parse_l0 L hL hb m (i + 1) acc (by omega) h
    by_cases hm : mute s
    · rw [if_pos hm]
      rcases hm with rfl | h35
      · simp only [beq_self_eq_true, if_true]
        exact ih acc (by omega)
      · cases s with
        | nil => simp at h35
        | cons c r =>
          simp only [List.headD_cons] at h35
          subst h35
          have e1 : ((35 :: r : List Int) == []) = false := rfl
          rw [e1]
          simp only [Bool.false_eq_true, if_false]
          rw [if_pos ⟨by decide, by simp only [List.length_cons]; omega⟩]
          simp only [List.getD_cons_zero, beq_self_eq_true, if_true]
          exact ih acc (by omega)
    · rw [if_neg hm]
      unfold mute at hm
      rw [not_or] at hm
      have e1 : (s == []) = false := by simpa using hm.1
      rw [e1]
      simp only [Bool.false_eq_true, if_false]
      have hpos := List.length_pos_iff.2 hm.1
      rw [if_pos ⟨by decide, by omega⟩]
      have e2 : (s.getD 0 0 == 35) = false := by
        cases s with
        | nil => simp at hpos
        | cons c r => simpa using hm.2
      rw [e2]
      simp only [Bool.false_eq_true, if_false]
      rw [words_eq hs.1 hs.2, bind_eq]
      unfold lineS
      cases hw : wrds s with
      | none => rfl
      | some ws =>
        have hok := wrds_WdOk hs.1 hs.2 hw
        simp only [pb, Option.bind_some]
        rw [cmd_r (ws, ()) hok, bind_eq]
        cases hc : cmdR ws with
        | none => rfl
        | some p =>
          obtain ⟨c, r⟩ := p
          simp only [pb, Option.bind_some]
          rw [if_pos (by simp only [List.length_cons, List.length_nil]; omega)]
          by_cases hr : r.1 = []
          · rw [if_neg (by rw [hr]; simp), if_pos hr]
            rw [ih (acc ++ [c]) (by simp; omega)]
            simp only [Option.bind_some]
            cases linesS (L.drop (i + 1)) with
            | none => rfl
            | some l => simp
          · have := List.length_pos_iff.2 hr
            rw [if_pos (by simp; omega), if_neg hr]; rfl
/-- Parse is what the definition says -/
theorem parse_eq {t : List Int} (ht : byteOk t) : script_Parse t = some (parseS t) := by
  unfold script_Parse script_Parse_in parseS
  rw [long_eq ht, bind_eq]
  by_cases h : longS t = true
  · rw [if_pos h, if_pos h]; rfl
  · rw [if_neg h, if_neg h]
    simp only [bnd_eq]
    have hlen : t.length ≤ 65536 := by
      unfold longS at h
      simp only [Bool.or_eq_true, not_or, decide_eq_true_eq] at h
      omega
    rw [split_eq t ht (by omega), bind_eq]
    have hll := lns_len t
    have := parse_l0 (lns t) (by omega) (fun s hs => ⟨lns_ok ht s hs, by have := lns_parts s hs; omega⟩) (lns t).length 0 [] (by omega) (by simp)
    have e : Int.toNat (((lns t).length : Int) - 0) + 1 = (lns t).length + 1 := by omega
    rw [e, show (0 : Int) = ((0 : Nat) : Int) from rfl] 
    rw [List.drop_zero] at this
    simp only [List.nil_append] at this
    exact this
end Sx
namespace Sx
open Go
example : itoaI 12 = [49, 50] := by decide +kernel
theorem head_true : escrowlaw25_head = some true := by kernel_rfl
end Sx
namespace Sx
open Go Go.RowKit

def HEX : List Int := [48, 49, 50, 51, 52, 53, 54, 55, 56, 57, 97, 98, 99, 100, 101, 102]
def hxc (n : Nat) : Int := HEX.getD n 0
/-! ### reading it back -/
/-! ### lines of words -/
theorem lns_one : ∀ {t : List Int}, (∀ c ∈ t, c ≠ 10) → lns t = [t]
  | [], _ => rfl
  | c :: t, h => by
    rw [lns, if_neg (h c (by simp)), lns_one (fun x hx => h x (by simp [hx]))]
end Sx
namespace Sx
open Go Go.RowKit

/-! ### words as they are written -/
def wb (t : List Int) : Wd := (t, false, ())
def wq (t : List Int) : Wd := (t, true, ())
def hexC (c : Int) : List Int := [hxc (c.toNat / 16), hxc (c.toNat % 16)]
def hexS (h : List Int) : List Int := h.flatMap hexC
def fkW (k : Int) : Option (List Int) := if k = 0 then some [108, 111, 115, 116] else if k = 1 then some [107, 101, 112, 116] else if k = 2 then some [114, 101, 112, 108, 97, 99, 101] else none
def fateV (f : Fate) : Option (List Wd) := (fkW f.2.2.1).map fun w => wb w :: wq f.1 :: wb (itoaI f.2.1) :: (if f.2.2.1 = 2 then [wq f.2.2.2.1] else [])
def fatesV : List Fate → Option (List Wd)
  | [] => some []
  | f :: r => (fateV f).bind fun a => (fatesV r).map fun b => a ++ b
def bareW (k : Int) : List Int := if k = 4 then [115, 105, 103, 110] else if k = 5 then [99, 108, 111, 115, 101] else if k = 6 then [99, 111, 110, 110, 101, 99, 116] else if k = 7 then [100, 105, 115, 99, 111, 110, 110, 101, 99, 116] else if k = 9 then [99, 104, 101, 99, 107, 112, 111, 105, 110, 116] else if k = 13 then [111, 112, 101, 110] else []
def askW (k : Int) : List Int := if k = 4 then [115, 116, 97, 116, 101] else if k = 5 then [108, 101, 100, 103, 101, 114] else if k = 6 then [109, 97, 114, 107] else if k = 7 then [112, 105, 112, 101] else if k = 8 then [102, 105, 108, 101, 115] else []
def stepV (s : Step) : Option (List Wd) :=
  if s.1 = 1 then some [wb [111, 102, 102, 101, 114], wb (itoaI s.2.1), wb (hexS s.2.2.2.2.1)]
  else if s.1 = 2 then some [wb [115, 101, 116, 116, 108, 101], wb (itoaI s.2.2.1), wb (hexS s.2.2.2.2.1)]
  else if s.1 = 3 then some [wb [114, 101, 102, 117, 115, 101], wb (itoaI s.2.2.1), wq s.2.2.2.2.2.1]
  else if s.1 = 8 then some [wb [116, 97, 107, 101], wq s.2.2.2.2.2.2.1]
  else if s.1 = 10 then some [wb [97, 114, 109], wb (itoaI s.2.2.2.1)]
  else if s.1 = 11 then some [wb [102, 97, 108, 108], wb (itoaI s.2.2.2.1)]
  else if s.1 = 12 then (fatesV s.2.2.2.2.2.2.2.1).map fun l => wb [99, 114, 97, 115, 104] :: wb (itoaI s.2.2.2.1) :: l
  else if bareW s.1 = [] then none else some [wb (bareW s.1)]
abbrev Mov := Int × Int × Step × Unit
def moveV (m : Mov) : Option (List Wd) :=
  if m.1 = 1 then (stepV m.2.2.1).map fun l => wb [115, 116, 101, 112] :: wb (itoaI m.2.1) :: l
  else if m.1 = 2 then some [wb [106, 111, 105, 110]]
  else if m.1 = 3 then some [wb [99, 117, 116]]
  else if m.1 = 4 then some [wb [100, 101, 108, 105, 118, 101, 114], wb (itoaI m.2.1)]
  else if m.1 = 5 then some [wb [108, 111, 115, 101], wb (itoaI m.2.1)]
  else none
def cmdV (c : Cmd) : Option (List Wd) :=
  if c.1 = 1 then some (wb [119, 111, 114, 108, 100] :: wb (itoaI c.2.1.1) :: wb (itoaI c.2.1.2.1) :: wb (itoaI c.2.1.2.2.2.2.1) :: wb (itoaI c.2.1.2.2.2.2.2.1) :: (c.2.1.2.2.1 ++ c.2.1.2.2.2.1).map fun h => wb (hexS h))
  else if c.1 = 2 then moveV c.2.2.1
  else if c.1 = 3 then some [wb [113, 117, 105, 101, 116], wb (itoaI c.2.2.2.1)]
  else if c.1 = 9 then some [wb [106, 111, 105, 110, 101, 100]]
  else if askW c.1 = [] then none else some [wb (askW c.1), wb (itoaI c.2.2.2.2.1)]
/-! ### what commands are known for -/
def hOk (h : List Int) : Prop := h.length = 32 ∧ byteOk h
def fOk (f : Fate) : Prop := byteOk f.1 ∧ rng .i64 f.2.1 ∧ byteOk f.2.2.2.1
def sOk (s : Step) : Prop := rng .i64 s.2.1 ∧ rng .i64 s.2.2.1 ∧ rng .i64 s.2.2.2.1 ∧ hOk s.2.2.2.2.1 ∧ byteOk s.2.2.2.2.2.1 ∧ byteOk s.2.2.2.2.2.2.1 ∧ ∀ f ∈ s.2.2.2.2.2.2.2.1, fOk f
def wOk (w : Wld) : Prop := rng .i64 w.1 ∧ rng .i64 w.2.1 ∧ (w.2.2.1.length = 2 ∧ ∀ h ∈ w.2.2.1, hOk h) ∧ (w.2.2.2.1.length = 2 ∧ ∀ h ∈ w.2.2.2.1, hOk h) ∧ rng .i64 w.2.2.2.2.1 ∧ rng .i64 w.2.2.2.2.2.1
def cOk (c : Cmd) : Prop := wOk c.2.1 ∧ rng .i64 c.2.2.1.2.1 ∧ sOk c.2.2.1.2.2.1 ∧ rng .i64 c.2.2.2.1 ∧ rng .i64 c.2.2.2.2.1
def szF (f : Fate) : Nat := f.1.length + f.2.2.2.1.length + 1
def szS (s : Step) : Nat := s.2.2.2.2.2.1.length + s.2.2.2.2.2.2.1.length + (s.2.2.2.2.2.2.2.1.map szF).sum + 1
def szC (c : Cmd) : Nat := szS c.2.2.1.2.2.1
def szL (l : List Cmd) : Nat := (l.map szC).sum

/-! ### lengths -/
theorem decI_len : ∀ (k n : Nat), 1 ≤ k → n < 10 ^ k → (decI n).length ≤ k := by
  intro k
  induction k with
  | zero => intro n h; omega
  | succ k ih =>
    intro n _ hn
    rw [decI_eq]
    split
    · simp
    · rename_i h
      by_cases hk : k = 0
      · subst hk; simp at hn; omega
      · have := ih (n / 10) (by omega) (by rw [Nat.pow_succ] at hn; omega)
        simp; omega
theorem two {α : Type} {l : List α} (h : l.length = 2) : ∃ a b, l = [a, b] := by
  cases l with
  | nil => cases h
  | cons a l => cases l with
    | nil => cases h
    | cons b l => cases l with
      | nil => exact ⟨a, b, rfl⟩
      | cons _ _ => simp at h
end Sx
namespace Sx
open Go Go.RowKit

/-! ### fates -/
theorem sum_ge {α : Type} (f : α → Nat) {l : List α} {x : α} (h : x ∈ l) : f x ≤ (l.map f).sum := by
  induction l with
  | nil => cases h
  | cons y l ih =>
    rw [List.map_cons, List.sum_cons]
    rcases List.mem_cons.1 h with rfl | h
    · omega
    · have := ih h; omega
theorem getD_mem {α : Type} {l : List α} {i : Nat} (d : α) (h : i < l.length) : l.getD i d ∈ l := by
  rw [show l.getD i d = l[i] by simp [List.getD, h]]; exact List.getElem_mem h
theorem drop_consD {α : Type} {l : List α} {i : Nat} (d : α) (h : i < l.length) : l.drop i = l.getD i d :: l.drop (i + 1) := by
  rw [List.drop_eq_getElem_cons h]; simp [List.getD, h]
theorem len_le_sum (l : List Fate) : l.length ≤ (l.map szF).sum := by
  induction l with
  | nil => simp
  | cons f l ih => rw [List.map_cons, List.sum_cons, List.length_cons]; unfold szF at ih ⊢; omega
theorem decI_dig (n : Nat) : ∀ x ∈ decI n, 48 ≤ x ∧ x ≤ 57 := (decI_all n).1
theorem itoa_all (n : Int) : ∀ x ∈ itoaI n, 45 ≤ x ∧ x ≤ 57 := by
  intro x hx
  rw [itoaI_eq] at hx
  split at hx
  · rcases List.mem_cons.1 hx with rfl | hx
    · omega
    · have := decI_dig _ x hx; omega
  · have := decI_dig _ x hx; omega
end Sx
namespace Sx
open Go Go.RowKit

/-! ### what is not named is nought -/
def clearF (f : Fate) : Fate := (f.1, f.2.1, f.2.2.1, if f.2.2.1 = 2 then f.2.2.2.1 else [], ())
def clearS (s : Step) : Step :=
  if s.1 = 1 then (1, s.2.1, 0, 0, s.2.2.2.2.1, [], [], [], ())
  else if s.1 = 2 then (2, 0, s.2.2.1, 0, s.2.2.2.2.1, [], [], [], ())
  else if s.1 = 3 then (3, 0, s.2.2.1, 0, z32, s.2.2.2.2.2.1, [], [], ())
  else if s.1 = 8 then (8, 0, 0, 0, z32, [], s.2.2.2.2.2.2.1, [], ())
  else if s.1 = 10 then (10, 0, 0, s.2.2.2.1, z32, [], [], [], ())
  else if s.1 = 11 then (11, 0, 0, s.2.2.2.1, z32, [], [], [], ())
  else if s.1 = 12 then (12, 0, 0, s.2.2.2.1, z32, [], [], s.2.2.2.2.2.2.2.1.map clearF, ())
  else (s.1, 0, 0, 0, z32, [], [], [], ())
def clearM (m : Mov) : Mov :=
  if m.1 = 1 then (1, m.2.1, clearS m.2.2.1, ())
  else if m.1 = 4 ∨ m.1 = 5 then (m.1, m.2.1, zStep, ())
  else (m.1, 0, zStep, ())
def clearC (c : Cmd) : Cmd :=
  if c.1 = 1 then (1, c.2.1, (0, 0, zStep, ()), 0, 0, ())
  else if c.1 = 2 then (2, zWld, clearM c.2.2.1, 0, 0, ())
  else if c.1 = 3 then (3, zWld, (0, 0, zStep, ()), c.2.2.2.1, 0, ())
  else if c.1 = 9 then (9, zWld, (0, 0, zStep, ()), 0, 0, ())
  else (c.1, zWld, (0, 0, zStep, ()), 0, c.2.2.2.2.1, ())

/-! ### words are read -/
/-! ### lines are read -/
/-! ### texts are read -/
end Sx
namespace Sx
open Go Go.RowKit

def wsz (ws : List Wd) : Nat := (ws.map fun w => w.1.length + 1).sum
theorem wsz_cons (w : Wd) (ws : List Wd) : wsz (w :: ws) = w.1.length + 1 + wsz ws := by simp [wsz]
theorem wrds_wsz : ∀ (n : Nat) (s : List Int), s.length ≤ n → byteOk s → ∀ ws, wrds s = some ws → wsz ws ≤ s.length + 1 := by
  intro n
  induction n with
  | zero =>
    intro s hl hs ws h
    obtain rfl := List.length_eq_zero_iff.1 (Nat.le_zero.1 hl)
    rw [wrds_eq hs] at h
    simp [word1] at h
  | succ n ih =>
    intro s hl hs ws h
    rw [wrds_eq hs] at h
    cases hw : word1 s with
    | none => rw [hw] at h; cases h
    | some x =>
      obtain ⟨w, r⟩ := x
      rw [hw] at h
      obtain ⟨p, rfl, hp, hr, hb, hwl, hne⟩ := word1_rest hs hw
      cases r with
      | nil =>
        simp only [Option.some.injEq] at h
        subst h
        rw [wsz_cons]; simp [wsz]; omega
      | cons c r =>
        simp only at h
        split at h
        · obtain ⟨ws', h1, rfl⟩ := Option.map_eq_some_iff.1 h
          obtain ⟨_, hr⟩ := byteOk_cons hr
          simp only [List.length_append, List.length_cons] at hl ⊢
          have := ih r (by omega) hr ws' h1
          rw [wsz_cons]; omega
        · cases h
theorem next_sz {ws : List Wd} {q : Bool} {t : List Int} {r : Rd} (h : nextS ws q = some (t, r)) : wsz ws = t.length + 1 + wsz r.1 := by
  cases ws with
  | nil => cases h
  | cons w ws =>
    unfold nextS at h
    simp only at h
    split at h
    · simp only [Option.some.injEq, Prod.mk.injEq] at h
      obtain ⟨rfl, rfl⟩ := h
      exact wsz_cons _ _
    · cases h
theorem num_sz {ws : List Wd} {n : Int} {r : Rd} (h : numR ws = some (n, r)) : rng .i64 n ∧ wsz r.1 ≤ wsz ws := by
  unfold numR at h
  obtain ⟨⟨t, r2⟩, h1, h2⟩ := Option.bind_eq_some_iff.1 h
  obtain ⟨m, h4, h3⟩ := Option.map_eq_some_iff.1 h2
  simp only [Prod.mk.injEq] at h3
  obtain ⟨rfl, rfl⟩ := h3
  have := next_sz h1
  exact ⟨(numS_spec h4).1, by have := next_sz h1; omega⟩
theorem hexL_ok : ∀ (n : Nat) (t h : List Int), t.length ≤ n → hexL t = some h → byteOk h ∧ 2 * h.length = t.length
  | _, [], h, _, e => by
    simp only [hexL, Option.some.injEq] at e; subst e
    exact ⟨fun c hc => (by cases hc), rfl⟩
  | _, [_], h, _, e => by simp [hexL] at e
  | 0, _ :: _, _, hl, _ => by simp at hl
  | n + 1, a :: b :: r, h, hl, e => by
    unfold hexL at e
    split at e
    · cases e
    · rename_i hab
      obtain ⟨h', h1, rfl⟩ := Option.map_eq_some_iff.1 e
      obtain ⟨q1, q2⟩ := hexL_ok n r h' (by simp at hl; omega) h1
      have l1 := hexd_lt a
      have l2 := hexd_lt b
      exact ⟨byteOk_mk (by omega) q1, by simp only [List.length_cons]; omega⟩
theorem hash_sz {ws : List Wd} {h : List Int} {r : Rd} (e : hashR ws = some (h, r)) : hOk h ∧ wsz r.1 ≤ wsz ws := by
  unfold hashR at e
  obtain ⟨⟨t, r2⟩, h1, h2⟩ := Option.bind_eq_some_iff.1 e
  obtain ⟨m, h4, h3⟩ := Option.map_eq_some_iff.1 h2
  simp only [Prod.mk.injEq] at h3
  obtain ⟨rfl, rfl⟩ := h3
  have := next_sz h1
  unfold hashS at h4
  split at h4
  · rename_i hl
    obtain ⟨q1, q2⟩ := hexL_ok _ _ _ (Nat.le_refl _) h4
    exact ⟨⟨by omega, q1⟩, by have := next_sz h1; omega⟩
  · cases h4
theorem kindF_some {t : List Int} {k : Int} (h : kindF t = some k) : fkW k = some t := by
  unfold kindF at h
  split at h
  · rename_i e; cases h; rw [beq_iff_eq] at e; subst e; rfl
  split at h
  · rename_i e; cases h; rw [beq_iff_eq] at e; subst e; rfl
  split at h
  · rename_i e; cases h; rw [beq_iff_eq] at e; subst e; rfl
  · cases h
theorem fate_canon {ws : List Wd} {f : Fate} {r : Rd} (h : fateR ws = some (f, r)) (hw : WdOk ws) : fOk f ∧ clearF f = f ∧ (fateV f).isSome = true ∧ szF f + wsz r.1 ≤ wsz ws := by
  unfold fateR at h
  obtain ⟨⟨t, r1⟩, h1, h⟩ := Option.bind_eq_some_iff.1 h
  obtain ⟨k, hk, h⟩ := Option.bind_eq_some_iff.1 h
  obtain ⟨⟨f1, r2⟩, h2, h⟩ := Option.bind_eq_some_iff.1 h
  obtain ⟨⟨s1, r3⟩, h3, h⟩ := Option.bind_eq_some_iff.1 h
  obtain ⟨w1, _, _, _⟩ := next_ok h1 hw
  obtain ⟨w2, b2, _, _⟩ := next_ok h2 w1
  have w3 := num_ok h3 w2
  have z1 := next_sz h1
  have z2 := next_sz h2
  have z3 := num_sz h3
  have hk2 := kindF_some hk
  simp only at h z1 z2 z3 w1 w2 w3
  split at h
  · rename_i e2
    obtain ⟨⟨b, r5⟩, h4, h⟩ := Option.bind_eq_some_iff.1 h
    simp only [Option.some.injEq, Prod.mk.injEq] at h
    obtain ⟨rfl, rfl⟩ := h
    obtain ⟨_, b4, _, _⟩ := next_ok h4 w3
    have z4 := next_sz h4
    refine ⟨⟨b2, z3.1, b4⟩, ?_, ?_, ?_⟩
    · unfold clearF; simp [e2]
    · unfold fateV; simp only; rw [hk2]; rfl
    · unfold szF; simp only; omega
  · rename_i e2
    simp only [Option.some.injEq, Prod.mk.injEq] at h
    obtain ⟨rfl, rfl⟩ := h
    refine ⟨⟨b2, z3.1, fun c hc => by cases hc⟩, ?_, ?_, ?_⟩
    · unfold clearF; simp [e2]
    · unfold fateV; simp only; rw [hk2]; rfl
    · unfold szF; simp only [List.length_nil]; omega
theorem fates_canon : ∀ (m : Nat) (ws : List Wd) (l : List Fate), fatesF m ws = some l → WdOk ws → (∀ f ∈ l, fOk f) ∧ l.map clearF = l ∧ (fatesV l).isSome = true ∧ (l.map szF).sum ≤ wsz ws
  | 0, _, _, h, _ => by cases h
  | m + 1, [], l, h, _ => by
    simp only [fatesF, Option.some.injEq] at h; subst h
    exact ⟨fun f hf => (by cases hf), rfl, rfl, by simp⟩
  | m + 1, w :: ws, l, h, hw => by
    rw [fatesF] at h
    · obtain ⟨⟨f, r⟩, h1, h⟩ := Option.bind_eq_some_iff.1 h
      obtain ⟨l', h2, rfl⟩ := Option.map_eq_some_iff.1 h
      obtain ⟨a1, a2, a3, a4⟩ := fate_canon h1 hw
      obtain ⟨b1, b2, b3, b4⟩ := fates_canon m r.1 l' h2 (fate_ok h1 hw).1
      refine ⟨fun x hx => ?_, by rw [List.map_cons, a2, b2], ?_, ?_⟩
      · rcases List.mem_cons.1 hx with rfl | hx
        · exact a1
        · exact b1 x hx
      · rw [fatesV]
        obtain ⟨x, hx⟩ := Option.isSome_iff_exists.1 a3
        obtain ⟨y, hy⟩ := Option.isSome_iff_exists.1 b3
        rw [hx, Option.bind_some, hy]; rfl
      · rw [List.map_cons, List.sum_cons]; simp only at a4 ⊢; omega
    · simp
theorem bareK_some {w : List Int} {k : Int} (h : bareK w = some k) (hw : w ≠ []) : (k = 4 ∨ k = 5 ∨ k = 6 ∨ k = 7 ∨ k = 9 ∨ k = 13) := by
  unfold bareK at h
  rw [if_neg hw] at h
  repeat' split at h
  all_goals first | cases h | skip
  all_goals decide
theorem askK_some {w : List Int} {k : Int} (h : askK w = some k) (hw : w ≠ []) : (k = 4 ∨ k = 5 ∨ k = 6 ∨ k = 7 ∨ k = 8) := by
  unfold askK at h
  rw [if_neg hw] at h
  repeat' split at h
  all_goals first | cases h | skip
  all_goals decide
theorem z0 : rng .i64 0 := by decide
theorem hOk_z : hOk z32 := ⟨rfl, by unfold byteOk; decide⟩
theorem nilOk : byteOk [] := fun c hc => by cases hc
theorem sOk_z : sOk zStep := ⟨z0, z0, z0, hOk_z, nilOk, nilOk, fun f hf => by cases hf⟩
theorem wOk_z : wOk zWld := by
  refine ⟨z0, z0, ⟨rfl, ?_⟩, ⟨rfl, ?_⟩, z0, z0⟩ <;> (intro h hm; rw [List.eq_of_mem_replicate hm]; exact hOk_z)
theorem next_ne {ws : List Wd} {t : List Int} {r : Rd} (h : nextS ws false = some (t, r)) (hw : WdOk ws) : t ≠ [] := by
  cases ws with
  | nil => cases h
  | cons w ws =>
    unfold nextS at h
    simp only at h
    split at h
    · rename_i e
      simp only [Option.some.injEq, Prod.mk.injEq] at h
      obtain ⟨rfl, rfl⟩ := h
      exact (hw.2 w (by simp)).2.2 e
    · cases h
def canS (s : Step) : Prop := sOk s ∧ clearS s = s ∧ (stepV s).isSome = true
theorem step_canon {ws : List Wd} {s : Step} {r : Rd} (h : stepR ws = some (s, r)) (hw : WdOk ws) : canS s ∧ szS s ≤ wsz ws + 1 := by
  unfold stepR at h
  obtain ⟨⟨t, r1⟩, h1, h⟩ := Option.bind_eq_some_iff.1 h
  obtain ⟨w1, _, _, _⟩ := next_ok h1 hw
  have y1 := next_sz h1
  have hne := next_ne h1 hw
  simp only at h y1 w1
  split at h
  · obtain ⟨⟨n, r2⟩, h2, h⟩ := Option.bind_eq_some_iff.1 h
    obtain ⟨⟨x, r3⟩, h3, h⟩ := Option.bind_eq_some_iff.1 h
    simp only [Option.some.injEq, Prod.mk.injEq] at h
    obtain ⟨rfl, rfl⟩ := h
    exact ⟨⟨⟨(num_sz h2).1, z0, z0, (hash_sz h3).1, nilOk, nilOk, fun f hf => by cases hf⟩, rfl, rfl⟩, by unfold szS; simp⟩
  split at h
  · obtain ⟨⟨n, r2⟩, h2, h⟩ := Option.bind_eq_some_iff.1 h
    obtain ⟨⟨x, r3⟩, h3, h⟩ := Option.bind_eq_some_iff.1 h
    simp only [Option.some.injEq, Prod.mk.injEq] at h
    obtain ⟨rfl, rfl⟩ := h
    exact ⟨⟨⟨z0, (num_sz h2).1, z0, (hash_sz h3).1, nilOk, nilOk, fun f hf => by cases hf⟩, rfl, rfl⟩, by unfold szS; simp⟩
  split at h
  · obtain ⟨⟨n, r2⟩, h2, h⟩ := Option.bind_eq_some_iff.1 h
    obtain ⟨⟨x, r3⟩, h3, h⟩ := Option.bind_eq_some_iff.1 h
    simp only [Option.some.injEq, Prod.mk.injEq] at h
    obtain ⟨rfl, rfl⟩ := h
    have w2 := num_ok h2 w1
    have y2 := (num_sz h2).2
    have y3 := next_sz h3
    simp only at y2 y3 w2 h3
    exact ⟨⟨⟨z0, (num_sz h2).1, z0, hOk_z, (next_ok h3 w2).2.1, nilOk, fun f hf => by cases hf⟩, rfl, rfl⟩, by unfold szS; simp; omega⟩
  split at h
  · obtain ⟨⟨x, r3⟩, h3, h⟩ := Option.bind_eq_some_iff.1 h
    simp only [Option.some.injEq, Prod.mk.injEq] at h
    obtain ⟨rfl, rfl⟩ := h
    have y3 := next_sz h3
    exact ⟨⟨⟨z0, z0, z0, hOk_z, nilOk, (next_ok h3 w1).2.1, fun f hf => by cases hf⟩, rfl, rfl⟩, by unfold szS; simp; omega⟩
  split at h
  · obtain ⟨⟨n, r2⟩, h2, h⟩ := Option.bind_eq_some_iff.1 h
    simp only [Option.some.injEq, Prod.mk.injEq] at h
    obtain ⟨rfl, rfl⟩ := h
    exact ⟨⟨⟨z0, z0, (num_sz h2).1, hOk_z, nilOk, nilOk, fun f hf => by cases hf⟩, rfl, rfl⟩, by unfold szS; simp⟩
  split at h
  · obtain ⟨⟨n, r2⟩, h2, h⟩ := Option.bind_eq_some_iff.1 h
    simp only [Option.some.injEq, Prod.mk.injEq] at h
    obtain ⟨rfl, rfl⟩ := h
    exact ⟨⟨⟨z0, z0, (num_sz h2).1, hOk_z, nilOk, nilOk, fun f hf => by cases hf⟩, rfl, rfl⟩, by unfold szS; simp⟩
  split at h
  · obtain ⟨⟨n, r2⟩, h2, h⟩ := Option.bind_eq_some_iff.1 h
    obtain ⟨⟨x, r3⟩, h3, h⟩ := Option.bind_eq_some_iff.1 h
    simp only [Option.some.injEq, Prod.mk.injEq] at h
    obtain ⟨rfl, rfl⟩ := h
    have w2 := num_ok h2 w1
    have y2 := (num_sz h2).2
    unfold fatesR at h3
    obtain ⟨l, h4, h5⟩ := Option.map_eq_some_iff.1 h3
    simp only [Prod.mk.injEq] at h5
    obtain ⟨rfl, _⟩ := h5
    obtain ⟨q1, q2, q3, q4⟩ := fates_canon _ _ _ h4 w2
    simp only at y2 q4
    refine ⟨⟨⟨z0, z0, (num_sz h2).1, hOk_z, nilOk, nilOk, q1⟩, ?_, ?_⟩, by unfold szS; simp; omega⟩
    · unfold clearS; simp [q2]
    · obtain ⟨y, hy⟩ := Option.isSome_iff_exists.1 q3
      unfold stepV; simp [hy]
  · obtain ⟨k, h2, h⟩ := Option.bind_eq_some_iff.1 h
    simp only [Option.some.injEq, Prod.mk.injEq] at h
    obtain ⟨rfl, rfl⟩ := h
    have hk := bareK_some h2 hne
    refine ⟨⟨⟨z0, z0, z0, hOk_z, nilOk, nilOk, fun f hf => by cases hf⟩, ?_, ?_⟩, by unfold szS; simp⟩
    · rcases hk with rfl | rfl | rfl | rfl | rfl | rfl <;> rfl
    · rcases hk with rfl | rfl | rfl | rfl | rfl | rfl <;> rfl
def canC (c : Cmd) : Prop := cOk c ∧ clearC c = c ∧ (cmdV c).isSome = true
theorem cmd_canon {ws : List Wd} {c : Cmd} {r : Rd} (h : cmdR ws = some (c, r)) (hw : WdOk ws) : canC c ∧ szC c ≤ wsz ws + 1 := by
  have hz1 : szS zStep = 1 := rfl
  unfold cmdR at h
  obtain ⟨⟨t, r1⟩, h1, h⟩ := Option.bind_eq_some_iff.1 h
  obtain ⟨w1, _, _, _⟩ := next_ok h1 hw
  have y1 := next_sz h1
  have hne := next_ne h1 hw
  simp only at h y1 w1
  split at h
  · obtain ⟨⟨n1, r2⟩, g1, h⟩ := Option.bind_eq_some_iff.1 h
    obtain ⟨⟨n2, r3⟩, g2, h⟩ := Option.bind_eq_some_iff.1 h
    obtain ⟨⟨n3, r4⟩, g3, h⟩ := Option.bind_eq_some_iff.1 h
    obtain ⟨⟨n4, r5⟩, g4, h⟩ := Option.bind_eq_some_iff.1 h
    obtain ⟨⟨x1, r6⟩, g5, h⟩ := Option.bind_eq_some_iff.1 h
    obtain ⟨⟨x2, r7⟩, g6, h⟩ := Option.bind_eq_some_iff.1 h
    obtain ⟨⟨x3, r8⟩, g7, h⟩ := Option.bind_eq_some_iff.1 h
    obtain ⟨⟨x4, r9⟩, g8, h⟩ := Option.bind_eq_some_iff.1 h
    simp only [Option.some.injEq, Prod.mk.injEq] at h
    obtain ⟨rfl, rfl⟩ := h
    refine ⟨⟨⟨⟨(num_sz g1).1, (num_sz g2).1, ⟨rfl, ?_⟩, ⟨rfl, ?_⟩, (num_sz g3).1, (num_sz g4).1⟩, z0, sOk_z, z0, z0⟩, rfl, rfl⟩, by unfold szC; simp only; omega⟩
    · intro y hy
      simp only [List.mem_cons, List.not_mem_nil, or_false] at hy
      rcases hy with rfl | rfl
      · exact (hash_sz g5).1
      · exact (hash_sz g6).1
    · intro y hy
      simp only [List.mem_cons, List.not_mem_nil, or_false] at hy
      rcases hy with rfl | rfl
      · exact (hash_sz g7).1
      · exact (hash_sz g8).1
  split at h
  · obtain ⟨⟨n, r2⟩, h2, h⟩ := Option.bind_eq_some_iff.1 h
    obtain ⟨⟨s, r3⟩, h3, h⟩ := Option.bind_eq_some_iff.1 h
    simp only [Option.some.injEq, Prod.mk.injEq] at h
    obtain ⟨rfl, rfl⟩ := h
    have w2 := num_ok h2 w1
    have y2 := (num_sz h2).2
    obtain ⟨⟨q1, q2, q3⟩, q4⟩ := step_canon h3 w2
    simp only at y2 q4
    refine ⟨⟨⟨wOk_z, (num_sz h2).1, q1, z0, z0⟩, ?_, ?_⟩, by unfold szC; simp only; omega⟩
    · unfold clearC clearM; simp [q2]
    · obtain ⟨y, hy⟩ := Option.isSome_iff_exists.1 q3
      unfold cmdV moveV; simp [hy]
  split at h
  · simp only [Option.some.injEq, Prod.mk.injEq] at h
    obtain ⟨rfl, rfl⟩ := h
    exact ⟨⟨⟨wOk_z, z0, sOk_z, z0, z0⟩, rfl, rfl⟩, by unfold szC; simp only; omega⟩
  split at h
  · simp only [Option.some.injEq, Prod.mk.injEq] at h
    obtain ⟨rfl, rfl⟩ := h
    exact ⟨⟨⟨wOk_z, z0, sOk_z, z0, z0⟩, rfl, rfl⟩, by unfold szC; simp only; omega⟩
  split at h
  · obtain ⟨⟨n, r2⟩, h2, h⟩ := Option.bind_eq_some_iff.1 h
    simp only [Option.some.injEq, Prod.mk.injEq] at h
    obtain ⟨rfl, rfl⟩ := h
    exact ⟨⟨⟨wOk_z, (num_sz h2).1, sOk_z, z0, z0⟩, rfl, rfl⟩, by unfold szC; simp only; omega⟩
  split at h
  · obtain ⟨⟨n, r2⟩, h2, h⟩ := Option.bind_eq_some_iff.1 h
    simp only [Option.some.injEq, Prod.mk.injEq] at h
    obtain ⟨rfl, rfl⟩ := h
    exact ⟨⟨⟨wOk_z, (num_sz h2).1, sOk_z, z0, z0⟩, rfl, rfl⟩, by unfold szC; simp only; omega⟩
  split at h
  · obtain ⟨⟨n, r2⟩, h2, h⟩ := Option.bind_eq_some_iff.1 h
    simp only [Option.some.injEq, Prod.mk.injEq] at h
    obtain ⟨rfl, rfl⟩ := h
    exact ⟨⟨⟨wOk_z, z0, sOk_z, (num_sz h2).1, z0⟩, rfl, rfl⟩, by unfold szC; simp only; omega⟩
  split at h
  · simp only [Option.some.injEq, Prod.mk.injEq] at h
    obtain ⟨rfl, rfl⟩ := h
    exact ⟨⟨⟨wOk_z, z0, sOk_z, z0, z0⟩, rfl, rfl⟩, by unfold szC; simp only; omega⟩
  · obtain ⟨k, h2, h⟩ := Option.bind_eq_some_iff.1 h
    obtain ⟨⟨n, r2⟩, h3, h⟩ := Option.bind_eq_some_iff.1 h
    simp only [Option.some.injEq, Prod.mk.injEq] at h
    obtain ⟨rfl, rfl⟩ := h
    have hk := askK_some h2 hne
    refine ⟨⟨⟨wOk_z, z0, sOk_z, z0, (num_sz h3).1⟩, ?_, ?_⟩, by unfold szC; simp only; omega⟩
    · rcases hk with rfl | rfl | rfl | rfl | rfl <;> rfl
    · rcases hk with rfl | rfl | rfl | rfl | rfl <;> rfl
theorem line_canon {s : List Int} (hs : byteOk s) (hl : s.length < 4294967281) {c : Cmd} (h : lineS s = some c) : canC c ∧ szC c ≤ s.length + 2 := by
  unfold lineS at h
  obtain ⟨ws, h1, h⟩ := Option.bind_eq_some_iff.1 h
  obtain ⟨⟨c', r⟩, h2, h⟩ := Option.bind_eq_some_iff.1 h
  split at h
  · cases h
    have w := wrds_WdOk hs hl h1
    have z := wrds_wsz _ s (Nat.le_refl _) hs ws h1
    obtain ⟨q1, q2⟩ := cmd_canon h2 w
    exact ⟨q1, by simp only; omega⟩
  · cases h
theorem lines_canon : ∀ (L : List (List Int)), (∀ s ∈ L, byteOk s ∧ s.length < 4294967281) → ∀ (m : List Cmd), linesS L = some m → (∀ c ∈ m, canC c) ∧ szL m ≤ (L.map fun s => s.length + 2).sum
  | [], _, m, h => by
    simp only [linesS, Option.some.injEq] at h; subst h
    exact ⟨fun c hc => (by cases hc), by simp [szL]⟩
  | s :: L, hL, m, h => by
    rw [linesS] at h
    have ih := lines_canon L (fun x hx => hL x (by simp [hx]))
    rw [List.map_cons, List.sum_cons]
    split at h
    · obtain ⟨q1, q2⟩ := ih m h
      exact ⟨q1, by omega⟩
    · obtain ⟨c, h1, h⟩ := Option.bind_eq_some_iff.1 h
      obtain ⟨m', h2, rfl⟩ := Option.map_eq_some_iff.1 h
      obtain ⟨q1, q2⟩ := ih m' h2
      obtain ⟨p1, p2⟩ := line_canon (hL s (by simp)).1 (hL s (by simp)).2 h1
      refine ⟨fun x hx => ?_, ?_⟩
      · rcases List.mem_cons.1 hx with rfl | hx
        · exact p1
        · exact q1 x hx
      · unfold szL at q2 ⊢
        rw [List.map_cons, List.sum_cons]; omega
theorem lns_sum : ∀ t : List Int, ((lns t).map fun s => s.length + 2).sum ≤ 2 * t.length + 2
  | [] => by simp [lns]
  | b :: l => by
    have ih := lns_sum l
    unfold lns
    split
    · rw [List.map_cons, List.sum_cons]; simp only [List.length_nil, List.length_cons]; omega
    · cases hL : lns l with
      | nil => simp; omega
      | cons x r =>
        rw [hL] at ih
        simp only [List.map_cons, List.sum_cons, List.length_cons] at ih ⊢; omega
/-- what is read of a text, and how much it is -/
theorem parse_canon {t : List Int} (ht : byteOk t) {m : List Cmd} {e : Int} (h : parseS t = (m, e)) : (e ≠ 0 ∧ m = []) ∨ (e = 0 ∧ (∀ c ∈ m, canC c) ∧ szL m ≤ 131074) := by
  unfold parseS at h
  split at h
  · cases h; exact .inl ⟨by decide, rfl⟩
  · rename_i hl
    cases hL : linesS (lns t) with
    | none => rw [hL] at h; cases h; exact .inl ⟨by decide, rfl⟩
    | some l =>
      rw [hL] at h
      cases h
      have hlen : t.length ≤ 65536 := by
        unfold longS at hl
        simp only [Bool.or_eq_true, not_or, decide_eq_true_eq] at hl
        omega
      have hs := lns_sum t
      obtain ⟨q1, q2⟩ := lines_canon (lns t) (fun s hs => ⟨lns_ok ht s hs, by have := lns_parts s hs; omega⟩) _ hL
      exact .inr ⟨rfl, q1, by omega⟩
end Sx
namespace Sx
open Go Go.RowKit

/-! ### numbers, hashes, quoted texts -/
theorem wrap_u64' {n : Int} (h0 : 0 ≤ n) (h : n < 18446744073709551616) : IntKind.wrap .u64 n = n := by
  simp only [IntKind.wrap, IntKind.bits, IntKind.signed, Bool.false_and, Bool.false_eq_true, if_false]; omega
theorem wrap_u64n {n : Int} (h0 : -18446744073709551616 ≤ n) (h : n < 0) : IntKind.wrap .u64 n = n + 18446744073709551616 := by
  simp only [IntKind.wrap, IntKind.bits, IntKind.signed, Bool.false_and, Bool.false_eq_true, if_false]; omega
/-! ### lines -/
end Sx
namespace Sx
open Go Go.RowKit

/-! ### lines of a text -/
theorem lns_front2 {p : List Int} (hp : ∀ c ∈ p, c ≠ 10) (r : List Int) : lns (p ++ 10 :: r) = p :: lns r := by
  induction p with
  | nil => rfl
  | cons c p ih =>
    rw [List.cons_append, lns, if_neg (hp c (by simp)), ih (fun x hx => hp x (by simp [hx]))]
theorem getLastD_cons {α : Type} (a d : α) {l : List α} (h : l ≠ []) : (a :: l).getLastD d = l.getLastD d := by
  cases l with
  | nil => exact absurd rfl h
  | cons b l => rfl
theorem rlines_l0 (t : List Int) (hl : t.length < 4294967296) (K : Int × List (List Int) → Option (List (List Int))) : ∀ (m i frm : Nat) (L : List (List Int)), i + m = t.length → frm ≤ i → (∀ c ∈ (t.take i).drop frm, c ≠ 10) → L.length ≤ i →
    ∃ f2 : Nat, f2 ≤ t.length ∧ t.drop f2 = (lns (t.drop frm)).getLastD [] ∧ escrowref25_Lines_l0 t K (m + 1) ((frm : Int), (i : Int), L) = K ((f2 : Int), L ++ (lns (t.drop frm)).dropLast)
  | 0, i, frm, L, h, hf, hn, _ => by
    unfold escrowref25_Lines_l0
    rw [if_neg (by simp; omega)]
    obtain rfl : i = t.length := by omega
    rw [List.take_length] at hn
    have e : lns (t.drop frm) = [t.drop frm] := lns_one hn
    exact ⟨frm, hf, by rw [e]; rfl, by rw [e]; simp⟩
  | m + 1, i, frm, L, h, hf, hn, hL => by
    unfold escrowref25_Lines_l0
    have hi : i < t.length := by omega
    have g : (0 : Int) ≤ (i : Int) ∧ (i : Int) < (t.length : Int) := ⟨by omega, by omega⟩
    have w : IntKind.wrap .i64 ((i : Int) + 1) = ((i + 1 : Nat) : Int) := by rw [wrap_i64 (by omega) (by omega)]; omega
    rw [if_pos (by simp; omega)]
    simp only [bnd_eq, Int.toNat_natCast, if_pos g, w]
    have e1 : t.take (i + 1) = t.take i ++ [t.getD i 0] := by
      rw [List.take_add_one]; congr 1; simp [List.getD, hi]
    by_cases h10 : t.getD i 0 = 10
    · rw [if_pos (by simpa using h10), if_pos ⟨by omega, by omega, by omega⟩, if_pos (by simp only [List.length_cons, List.length_nil]; omega)]
      have e2 : t.drop frm = (t.take i).drop frm ++ 10 :: t.drop (i + 1) := by
        conv => lhs; rw [← List.take_append_drop i t]
        rw [List.drop_append_of_le_length (by rw [List.length_take]; omega), drop_consD 0 hi, h10]
      obtain ⟨f2, a1, a2, a3⟩ := rlines_l0 t hl K m (i + 1) (i + 1) (L ++ [(t.take i).drop frm]) (by omega) (Nat.le_refl _) (by
        intro c hc
        rw [List.drop_eq_nil_of_le (by rw [List.length_take]; omega)] at hc; cases hc) (by simp; omega)
      have hne := lns_ne (t.drop (i + 1))
      rw [e2, lns_front2 hn, getLastD_cons _ _ hne, List.dropLast_cons_of_ne_nil hne]
      exact ⟨f2, a1, a2, by rw [a3]; simp⟩
    · rw [if_neg (by simpa using h10)]
      exact rlines_l0 t hl K m (i + 1) frm L (by omega) (by omega) (by
        intro c hc
        rw [e1, List.drop_append_of_le_length (by rw [List.length_take]; omega)] at hc
        rcases List.mem_append.1 hc with hc | hc
        · exact hn c hc
        · simp at hc; rw [hc]
          simpa [List.getD] using h10) (by omega)
theorem dropLast_getLastD {α : Type} (d : α) : ∀ {l : List α}, l ≠ [] → l.dropLast ++ [l.getLastD d] = l
  | [], h => absurd rfl h
  | [a], _ => rfl
  | a :: b :: l, _ => by
    have := dropLast_getLastD d (l := b :: l) (by simp)
    rw [List.dropLast_cons_of_ne_nil (by simp), getLastD_cons a d (by simp), List.cons_append, this]
theorem rlines_r (t : List Int) (hl : t.length < 4294967296) : escrowref25_Lines t = some (lnsE t) := by
  unfold escrowref25_Lines
  simp only [bnd_eq]
  have e : Int.toNat ((t.length : Int) - 0) + 1 = t.length + 1 := by omega
  obtain ⟨f2, a1, a2, a3⟩ := rlines_l0 t hl (fun o2 => if decide (o2.1 < (t.length : Int)) = true then if 0 ≤ o2.1 ∧ o2.1 ≤ (t.length : Int) ∧ (t.length : Int) ≤ (t.length : Int) then if (o2.2.length + List.length [(t.take (Int.toNat (t.length : Int))).drop (Int.toNat o2.1)]) * 16 ≤ 140737488355328 then some (o2.2 ++ [(t.take (Int.toNat (t.length : Int))).drop (Int.toNat o2.1)]) else none else none else some o2.2) t.length 0 0 [] (by omega) (Nat.le_refl _) (by intro c hc; simp at hc) (by simp)
  rw [List.drop_zero] at a2 a3
  rw [e]
  refine Eq.trans a3 ?_
  have hlen := lns_len t
  have hdl : (lns t).dropLast.length ≤ t.length := by simp; omega
  simp only [List.nil_append, Int.toNat_natCast, List.take_length]
  rw [a2]
  unfold lnsE
  by_cases hf : f2 < t.length
  · have hne : ¬ (lns t).getLastD [] = [] := by
      rw [← a2]; intro h
      have := congrArg List.length h
      rw [List.length_drop] at this
      simp at this; omega
    rw [if_pos (by simpa using hf), if_pos ⟨by omega, by omega, by omega⟩, if_pos (by simp only [List.length_cons, List.length_nil]; omega), if_neg hne, dropLast_getLastD [] (lns_ne t)]
  · have hne : (lns t).getLastD [] = [] := by rw [← a2]; exact List.drop_eq_nil_of_le (by omega)
    rw [if_neg (by simpa using hf), if_pos hne]
theorem rlong_l0 (l : List (List Int)) (hl : l.length < 4294967300) (K : Unit → Option Bool) : ∀ (m i : Nat), i + m = l.length → escrowref25_long_l0 l K (m + 1) (i : Int) = if (l.drop i).any (fun x => decide (4096 < x.length)) then some true else K ()
  | 0, i, h => by
    unfold escrowref25_long_l0
    rw [if_neg (by simp; omega), List.drop_eq_nil_of_le (by omega)]; rfl
  | m + 1, i, h => by
    unfold escrowref25_long_l0
    rw [if_pos (by simp; omega), if_pos ⟨by omega, by omega⟩]
    simp only [bnd_eq, Int.toNat_natCast]
    have hi : i < l.length := by omega
    have w : IntKind.wrap .i64 ((i : Int) + 1) = ((i + 1 : Nat) : Int) := by rw [wrap_i64 (by omega) (by omega)]; omega
    rw [drop_consD [] hi, List.any_cons, w, rlong_l0 l hl K m (i + 1) (by omega)]
    by_cases h4 : 4096 < (l.getD i []).length
    · have d : decide (4096 < (l.getD i []).length) = true := by simpa using h4
      have d2 : decide (((l.getD i []).length : Int) > 4096) = true := by rw [decide_eq_true_eq]; omega
      rw [if_pos d2, d, Bool.true_or, if_pos rfl]
    · have d : decide (4096 < (l.getD i []).length) = false := by simpa using h4
      have d2 : ¬ decide (((l.getD i []).length : Int) > 4096) = true := by rw [decide_eq_true_eq]; omega
      rw [if_neg d2, d, Bool.false_or]
theorem rlong_r (t : List Int) (hl : t.length < 4294967296) : escrowref25_long t = some (longS t) := by
  have hlen := lns_len t
  have hE : (lnsE t).length ≤ t.length + 1 := by
    unfold lnsE
    split
    · simp; omega
    · omega
  unfold escrowref25_long longS
  rw [rlines_r t hl, bind_eq]
  simp only [bnd_eq]
  have d1 : decide ((t.length : Int) > 65536) = decide (65536 < t.length) := by rw [Bool.eq_iff_iff]; simp; omega
  have d2 : decide (((lnsE t).length : Int) > 1024) = decide (1024 < (lnsE t).length) := by rw [Bool.eq_iff_iff]; simp; omega
  rw [d1, d2]
  have e : Int.toNat (((lnsE t).length : Int) - 0) + 1 = (lnsE t).length + 1 := by omega
  rw [e, show (0 : Int) = ((0 : Nat) : Int) from rfl, rlong_l0 (lnsE t) (by omega) _ (lnsE t).length 0 (by omega), List.drop_zero]
  generalize decide (65536 < t.length) = A
  generalize decide (1024 < (lnsE t).length) = B
  generalize ((lnsE t).any fun x => decide (4096 < x.length)) = C
  cases A <;> cases B <;> cases C <;> rfl

end Sx
namespace Sx
open Go Go.RowKit

theorem cmds_len (l : List Cmd) : l.length ≤ szL l := by
  induction l with
  | nil => simp
  | cons c l ih => unfold szL at ih ⊢; rw [List.map_cons, List.sum_cons, List.length_cons]; unfold szC szS at *; omega
/-! ### lists of one's own, and the same -/
theorem own_l0 (l : List Cmd) (hl : l.length ≤ 4294967296) (hf : ∀ c ∈ l, c.2.2.1.2.2.1.2.2.2.2.2.2.2.1.length ≤ 4294967296) (K : List Cmd → Option (List Cmd)) : ∀ (m i : Nat) (acc : List Cmd), i + m = l.length → acc = l.take i → escrowlaw25_own_l0 l K (m + 1) ((i : Int), acc) = K l
  | 0, i, acc, h, ha => by
    unfold escrowlaw25_own_l0
    rw [if_neg (by simp; omega), ha, List.take_of_length_le (by omega)]
  | m + 1, i, acc, h, ha => by
    unfold escrowlaw25_own_l0
    have hi : i < l.length := by omega
    have w : IntKind.wrap .i64 ((i : Int) + 1) = ((i + 1 : Nat) : Int) := by rw [wrap_i64 (by omega) (by omega)]; omega
    rw [if_pos (by simp; omega), if_pos ⟨by omega, by omega⟩, Int.toNat_natCast, w]
    have q := hf _ (getD_mem (0, (0, 0, (List.replicate 2 ((List.replicate 32 (0 : Int)) : List (Int))), (List.replicate 2 ((List.replicate 32 (0 : Int)) : List (Int))), 0, 0, ()), (0, 0, (0, 0, 0, 0, (List.replicate 32 (0 : Int)), [], [], [], ()), ()), 0, 0, ()) hi)
    have e1 : l.take (i + 1) = l.take i ++ [l.getD i (0, (0, 0, (List.replicate 2 ((List.replicate 32 (0 : Int)) : List (Int))), (List.replicate 2 ((List.replicate 32 (0 : Int)) : List (Int))), 0, 0, ()), (0, 0, (0, 0, 0, 0, (List.replicate 32 (0 : Int)), [], [], [], ()), ()), 0, 0, ())] := by
      rw [List.take_add_one]; congr 1; simp [List.getD, hi]
    generalize l.getD i _ = c at q e1 ⊢
    have hF : escrowlaw25_fates c.2.2.1.2.2.1.2.2.2.2.2.2.2.1 = some c.2.2.1.2.2.1.2.2.2.2.2.2.2.1 := by
      unfold escrowlaw25_fates
      rw [if_pos (by simp only [List.length_nil]; omega), List.nil_append]
    have hal : acc.length ≤ l.length := by rw [ha, List.length_take]; omega
    rw [hF, bind_eq, if_pos (by simp only [List.length_cons, List.length_nil]; omega), bnd_eq]
    exact own_l0 l hl hf K m (i + 1) _ (by omega) (by rw [e1, ha])
theorem own_eq {l : List Cmd} (hl : l.length ≤ 4294967296) (hf : ∀ c ∈ l, c.2.2.1.2.2.1.2.2.2.2.2.2.2.1.length ≤ 4294967296) : escrowlaw25_own l = some l := by
  unfold escrowlaw25_own
  simp only [bnd_eq]
  have e : Int.toNat ((l.length : Int) - 0) + 1 = l.length + 1 := by omega
  rw [e, show (0 : Int) = ((0 : Nat) : Int) from rfl, own_l0 l hl hf _ l.length 0 [] (by omega) rfl]
theorem sameF_l0 (a : List Fate) (hl : a.length ≤ 4294967296) (K : Unit → Option Bool) : ∀ (m i : Nat), i + m = a.length → escrowref25_SameFates_l0 a a K (m + 1) (i : Int) = K ()
  | 0, i, h => by
    unfold escrowref25_SameFates_l0
    rw [if_neg (by simp; omega)]
  | m + 1, i, h => by
    unfold escrowref25_SameFates_l0
    have g : (0 : Int) ≤ (i : Int) ∧ (i : Int) < (a.length : Int) := ⟨by omega, by omega⟩
    have w : IntKind.wrap .i64 ((i : Int) + 1) = ((i + 1 : Nat) : Int) := by rw [wrap_i64 (by omega) (by omega)]; omega
    rw [if_pos (by simp; omega), if_pos g, if_pos g, w]
    generalize List.getD a _ _ = x
    have he : eqD (.pair .str (.pair (.int .i64) (.pair (.int .i64) (.pair .str .unit)))) x x = true := (eqD_iff (t := .pair .str (.pair (.int .i64) (.pair (.int .i64) (.pair .str .unit)))) rfl x x).2 rfl
    rw [he, if_neg (by decide), bnd_eq]
    exact sameF_l0 a hl K m (i + 1) (by omega)
theorem sameF_self {a : List Fate} (hl : a.length ≤ 4294967296) : escrowref25_SameFates a a = some true := by
  unfold escrowref25_SameFates
  rw [if_neg (by simp)]
  simp only [bnd_eq]
  have e : Int.toNat ((a.length : Int) - 0) + 1 = a.length + 1 := by omega
  rw [e, show (0 : Int) = ((0 : Nat) : Int) from rfl, sameF_l0 a hl _ a.length 0 (by omega)]
theorem same_l0 (a : List Cmd) (hl : a.length ≤ 4294967296) (hf : ∀ c ∈ a, c.2.2.1.2.2.1.2.2.2.2.2.2.2.1.length ≤ 4294967296) (K : Unit → Option Bool) : ∀ (m i : Nat), i + m = a.length → escrowlaw25_same_l0 a a K (m + 1) (i : Int) = K ()
  | 0, i, h => by
    unfold escrowlaw25_same_l0
    rw [if_neg (by simp; omega)]
  | m + 1, i, h => by
    unfold escrowlaw25_same_l0
    have hi : i < a.length := by omega
    have g : (0 : Int) ≤ (i : Int) ∧ (i : Int) < (a.length : Int) := ⟨by omega, by omega⟩
    have w : IntKind.wrap .i64 ((i : Int) + 1) = ((i + 1 : Nat) : Int) := by rw [wrap_i64 (by omega) (by omega)]; omega
    rw [if_pos (by simp; omega), if_pos g, if_pos g, w, Int.toNat_natCast]
    have q := hf _ (getD_mem (0, (0, 0, (List.replicate 2 ((List.replicate 32 (0 : Int)) : List (Int))), (List.replicate 2 ((List.replicate 32 (0 : Int)) : List (Int))), 0, 0, ()), (0, 0, (0, 0, 0, 0, (List.replicate 32 (0 : Int)), [], [], [], ()), ()), 0, 0, ()) hi)
    generalize List.getD a i _ = c at q ⊢
    have e1 : eqD (.pair (.int .i64) (.pair (.int .i64) (.pair (.arr 2 (.arr 32 (.int .u8))) (.pair (.arr 2 (.arr 32 (.int .u8))) (.pair (.int .i64) (.pair (.int .i64) .unit)))))) c.2.1 c.2.1 = true := (eqD_iff (t := .pair (.int .i64) (.pair (.int .i64) (.pair (.arr 2 (.arr 32 (.int .u8))) (.pair (.arr 2 (.arr 32 (.int .u8))) (.pair (.int .i64) (.pair (.int .i64) .unit)))))) rfl c.2.1 c.2.1).2 rfl
    have e2 : eqD (.arr 32 (.int .u8)) c.2.2.1.2.2.1.2.2.2.2.1 c.2.2.1.2.2.1.2.2.2.2.1 = true := (eqD_iff (t := .arr 32 (.int .u8)) rfl _ _).2 rfl
    have e3 := sameF_self q
    have ih := same_l0 a hl hf K m (i + 1) (by omega)
    simp only [bnd_eq, bne_self_eq_false, e1, e2, Bool.not_true, Bool.or_self, Bool.false_eq_true, if_false]
    rw [e3, bind_eq]
    simp only [Bool.not_true, Bool.false_eq_true, if_false]
    exact ih
theorem same_self {a : List Cmd} (hl : a.length ≤ 4294967296) (hf : ∀ c ∈ a, c.2.2.1.2.2.1.2.2.2.2.2.2.2.1.length ≤ 4294967296) : escrowlaw25_same a a = some true := by
  unfold escrowlaw25_same
  rw [if_neg (by simp)]
  simp only [bnd_eq]
  have e : Int.toNat ((a.length : Int) - 0) + 1 = a.length + 1 := by omega
  rw [e, show (0 : Int) = ((0 : Nat) : Int) from rfl, same_l0 a hl hf _ a.length 0 (by omega)]

/-! ### what the row says of the arguments -/
theorem sum_le {α : Type} (f g : α → Nat) (h : ∀ x, f x ≤ g x) : ∀ l : List α, (l.map f).sum ≤ (l.map g).sum
  | [] => by simp
  | x :: l => by
    have := sum_le f g h l
    have := h x
    simp only [List.map_cons, List.sum_cons]; omega
theorem fates_le {l : List Cmd} {n : Nat} (hz : szL l ≤ n) : l.length ≤ n ∧ ∀ c ∈ l, c.2.2.1.2.2.1.2.2.2.2.2.2.2.1.length ≤ n := by
  refine ⟨Nat.le_trans (cmds_len l) hz, fun c hc => ?_⟩
  have h1 := sum_ge szC hc
  have h2 := len_le_sum c.2.2.1.2.2.1.2.2.2.2.2.2.2.1
  unfold szL at hz
  unfold szC szS at *
  omega

end Sx
namespace Sx
open Go Go.RowKit

abbrev RW := Bool × List Int × Unit
def rwd (w : Wd) : RW := (w.2.1, w.1, ())

/-! ### digits -/
theorem digit_l0 (c : Int) (K : Unit → Option Int) : ∀ (m i : Nat), i + m = 16 → escrowref25_digit_l0 c K (m + 1) (i : Int) = match (HEX.drop i).findIdx? (· == c) with | some j => some (((i + j : Nat) : Nat) : Int) | none => K ()
  | 0, i, h => by
    unfold escrowref25_digit_l0
    rw [if_neg (by simp; omega), List.drop_eq_nil_of_le (by simp [HEX]; omega)]; rfl
  | m + 1, i, h => by
    unfold escrowref25_digit_l0
    have hl : HEX.length = 16 := rfl
    have hi : i < HEX.length := by omega
    have w : IntKind.wrap .i64 ((i : Int) + 1) = ((i + 1 : Nat) : Int) := by rw [wrap_i64 (by omega) (by omega)]; omega
    rw [if_pos (by simp; omega), if_pos ⟨by omega, by simp; omega⟩]
    simp only [bnd_eq, Int.toNat_natCast]
    rw [w, digit_l0 c K m (i + 1) (by omega), drop_consD 0 hi, List.findIdx?_cons]
    change (if (HEX.getD i 0 == c) = true then some ((i : Nat) : Int) else _) = _
    cases hc : (HEX.getD i 0 == c) with
    | true => simp
    | false =>
      simp only [Bool.false_eq_true, if_false]
      cases (HEX.drop (i + 1)).findIdx? (· == c) with
      | none => rfl
      | some j => simp; omega
theorem digit_all : ∀ c : Fin 256, (match HEX.findIdx? (· == (c.val : Int)) with | some j => ((j : Nat) : Int) | none => -1) = hexd (c.val : Int) := by decide +kernel
theorem rdigit_r {c : Int} (h : 0 ≤ c ∧ c < 256) : escrowref25_digit c = some (hexd c) := by
  unfold escrowref25_digit
  simp only [bnd_eq]
  have e : Int.toNat (16 - 0) + 1 = 16 + 1 := rfl
  have hd := digit_all ⟨c.toNat, by omega⟩
  simp only at hd
  rw [show ((c.toNat : Nat) : Int) = c by omega] at hd
  rw [e, show (0 : Int) = ((0 : Nat) : Int) from rfl, digit_l0 c _ 16 0 (by omega), List.drop_zero, ← hd]
  cases HEX.findIdx? (· == c) with
  | none => rfl
  | some j => simp

/-! ### quoted texts -/
theorem rquoted_l0 (a0 : List Int) (ha : byteOk a0) (hl : a0.length < 4294967296) : ∀ (m i : Nat) (out : List Int), a0.length - i < m → out.length ≤ i →
    escrowref25_quoted_l0 a0 (fun _ => some ([], -1)) m ((i : Int), out) = some (match unq (a0.drop i) with | some p => (out ++ p.1, ((a0.length - p.2.length : Nat) : Int)) | none => ([], -1))
  | 0, _, _, h, _ => absurd h (Nat.not_lt_zero _)
  | m + 1, i, out, h, ho => by
    unfold escrowref25_quoted_l0
    by_cases hlt : i < a0.length
    · rw [if_pos (by simpa using hlt), if_pos ⟨by omega, by omega⟩]
      simp only [bnd_eq, Int.toNat_natCast]
      have hc := getD_byte ha i
      rw [drop_cons hlt]
      generalize hcc : a0.getD i 0 = c at hc
      have w1 : IntKind.wrap .i64 ((i : Int) + 1) = ((i + 1 : Nat) : Int) := by rw [wrap_i64 (by omega) (by omega)]; omega
      have w2 : IntKind.wrap .i64 ((i : Int) + 2) = ((i + 2 : Nat) : Int) := by rw [wrap_i64 (by omega) (by omega)]; omega
      have w3 : IntKind.wrap .i64 ((i : Int) + 3) = ((i + 3 : Nat) : Int) := by rw [wrap_i64 (by omega) (by omega)]; omega
      have w4 : IntKind.wrap .i64 ((i : Int) + 4) = ((i + 4 : Nat) : Int) := by rw [wrap_i64 (by omega) (by omega)]; omega
      rw [w1, w2, w3, w4]
      have ih := fun i out h ho => rquoted_l0 a0 ha hl m i out h ho
      unfold unq
      by_cases h34 : c = 34
      · subst h34
        rw [if_pos (by decide), if_pos rfl]
        simp only [List.append_nil, List.length_drop]
        congr 3; omega
      rw [if_neg (by simpa using h34), if_neg h34]
      by_cases hr : c < 32 ∨ c > 126
      · rw [if_pos (by simpa using hr), if_pos hr]
      rw [if_neg (by simpa using hr), if_neg hr]
      by_cases h92 : c ≠ 92
      · rw [if_pos (by simpa using h92), if_pos h92, if_pos (by simp only [List.length_cons, List.length_nil]; omega), ih (i + 1) _ (by omega) (by simp; omega)]
        cases unq (a0.drop (i + 1)) with
        | none => rfl
        | some p => simp
      rw [if_neg (by simpa using h92), if_neg h92]
      by_cases h1 : i + 1 < a0.length
      · have d1 : decide (((i + 1 : Nat) : Int) < (a0.length : Int)) = true := by simp; omega
        have g1 : (0 : Int) ≤ ((i + 1 : Nat) : Int) ∧ ((i + 1 : Nat) : Int) < (a0.length : Int) := ⟨by omega, by omega⟩
        rw [d1, if_pos rfl]
        simp only [if_pos g1, Int.toNat_natCast]
        rw [drop_cons h1]
        simp only
        generalize hd : a0.getD (i + 1) 0 = d
        by_cases hdd : d = 34 ∨ d = 92
        · have key : escrowref25_quoted_l0 a0 (fun _ => some ([], -1)) m (((i + 2 : Nat) : Int), out ++ [d]) =
              some (match (unq (a0.drop (i + 1 + 1))).map fun p => (d :: p.1, p.2) with | some p => (out ++ p.1, ((a0.length - p.2.length : Nat) : Int)) | none => ([], -1)) := by
            rw [ih (i + 2) _ (by omega) (by simp; omega)]
            cases unq (a0.drop (i + 2)) with
            | none => rfl
            | some p => simp
          rw [if_pos hdd]
          have hl1 : (out.length + [d].length) * 1 ≤ 140737488355328 := by simp only [List.length_cons, List.length_nil]; omega
          rcases hdd with rfl | rfl
          · simp only [beq_self_eq_true, if_true]
            rw [if_pos hl1]; exact key
          · have : ((92 : Int) == 34) = false := by decide
            rw [this]
            simp only [Bool.false_eq_true, if_false, beq_self_eq_true, if_true]
            rw [if_pos hl1]; exact key
        · have e1 : (d == 34) = false := by simp; exact fun h => hdd (.inl h)
          have e2 : (d == 92) = false := by simp; exact fun h => hdd (.inr h)
          rw [e1, e2]
          simp only [Bool.false_eq_true, if_false]
          rw [if_neg hdd]
          by_cases h2 : i + 3 < a0.length
          · have d3 : decide (((i + 3 : Nat) : Int) < (a0.length : Int)) = true := by simp; omega
            have g2 : (0 : Int) ≤ ((i + 2 : Nat) : Int) ∧ ((i + 2 : Nat) : Int) < (a0.length : Int) := ⟨by omega, by omega⟩
            have g3 : (0 : Int) ≤ ((i + 3 : Nat) : Int) ∧ ((i + 3 : Nat) : Int) < (a0.length : Int) := ⟨by omega, by omega⟩
            have b2 := getD_byte ha (i + 2)
            have b3 := getD_byte ha (i + 3)
            rw [d3, if_pos rfl]
            simp only [if_pos g2, if_pos g3, Int.toNat_natCast]
            rw [show i + 1 + 1 = i + 2 from rfl, drop_cons (show i + 2 < a0.length by omega), show i + 2 + 1 = i + 3 from rfl, drop_cons h2]
            simp only
            generalize a0.getD (i + 2) 0 = a at b2
            generalize a0.getD (i + 3) 0 = b at b3
            rw [rdigit_r b2, rdigit_r b3]
            simp only [bind_eq]
            by_cases hbad : d ≠ 120 ∨ hexd a < 0 ∨ hexd b < 0
            · rw [if_pos hbad]
              by_cases h120 : d = 120
              · have : (d == 120) = true := by simpa using h120
                rw [this, if_pos rfl]
                by_cases hha : hexd a < 0
                · have : decide (hexd a ≥ 0) = false := by simp; omega
                  rw [this]; rfl
                · have t1 : decide (hexd a ≥ 0) = true := by simp; omega
                  have t2 : decide (hexd b ≥ 0) = false := by simp; omega
                  rw [t1, if_pos rfl, t2]; rfl
              · have : (d == 120) = false := by simpa using h120
                rw [this]; rfl
            · rw [if_neg hbad]
              simp only [not_or, Decidable.not_not] at hbad
              obtain ⟨rfl, b2', b3'⟩ := hbad
              have t1 : decide (hexd a ≥ 0) = true := by simp; omega
              have t2 : decide (hexd b ≥ 0) = true := by simp; omega
              rw [beq_self_eq_true, if_pos rfl, t1, if_pos rfl, t2, if_pos rfl, hex_byte (by omega) (by omega), if_pos (by simp only [List.length_cons, List.length_nil]; omega), ih (i + 4) _ (by omega) (by simp; omega)]
              rw [show i + 3 + 1 = i + 4 from rfl]
              cases unq (a0.drop (i + 4)) with
              | none => rfl
              | some p => simp
          · have d3 : decide (((i + 3 : Nat) : Int) < (a0.length : Int)) = false := by simp; omega
            rw [d3]
            simp only [Bool.false_eq_true, if_false]
            have hlen : (a0.drop (i + 1 + 1)).length ≤ 1 := by simp; omega
            cases hx : a0.drop (i + 1 + 1) with
            | nil => rfl
            | cons p q => cases q with
              | nil => rfl
              | cons _ _ => rw [hx] at hlen; simp at hlen
      · have hnil : a0.drop (i + 1) = [] := List.drop_eq_nil_of_le (by omega)
        have d1 : decide (((i + 1 : Nat) : Int) < (a0.length : Int)) = false := by simp; omega
        have d3 : decide (((i + 3 : Nat) : Int) < (a0.length : Int)) = false := by simp; omega
        rw [d1, d3, hnil]
        simp only [Bool.false_eq_true, if_false]
    · rw [if_neg (by simpa using hlt)]
      have : a0.drop i = [] := List.drop_eq_nil_of_le (by omega)
      rw [this]; rfl
theorem rquoted_r (s : List Int) (hs : byteOk s) (hl : s.length < 4294967296) (i : Nat) (hi : i < s.length) : escrowref25_quoted s (i : Int) = some (match unq (s.drop (i + 1)) with | some p => (p.1, ((s.length - p.2.length : Nat) : Int)) | none => ([], -1)) := by
  unfold escrowref25_quoted
  have w1 : IntKind.wrap .i64 ((i : Int) + 1) = ((i + 1 : Nat) : Int) := by rw [wrap_i64 (by omega) (by omega)]; omega
  simp only [bnd_eq]
  rw [w1, rquoted_l0 s hs hl (s.length + 2) (i + 1) [] (by omega) (by simp)]
  simp

/-! ### words, as the document cuts them -/
def bareQ (c : Int) : Bool := c != 32 && c != 34
def word1Q (s : List Int) : Option (Wd × List Int) :=
  if s.headD 0 = 34 then (unq (s.drop 1)).map fun p => ((p.1, true, ()), p.2)
  else if s.takeWhile bareQ = [] then none else some ((s.takeWhile bareQ, false, ()), s.dropWhile bareQ)
def wrdsQF : Nat → List Int → Option (List Wd)
  | 0, _ => none
  | m + 1, s => match word1Q s with
    | none => none
    | some (w, []) => some [w]
    | some (w, c :: r) => if c = 32 then (wrdsQF m r).map (w :: ·) else none
theorem bare_l1 (s : List Int) (hl : s.length < 4294967296) (K : Int → Option (List RW × Bool)) : ∀ (m i : Nat), s.length - i < m → i ≤ s.length → escrowref25_words_l1 s K m (i : Int) = K ((i + ((s.drop i).takeWhile bareQ).length : Nat) : Int)
  | 0, _, h, _ => absurd h (Nat.not_lt_zero _)
  | m + 1, i, h, hi => by
    unfold escrowref25_words_l1
    simp only [bnd_eq]
    have w1 : IntKind.wrap .i64 ((i : Int) + 1) = ((i + 1 : Nat) : Int) := by rw [wrap_i64 (by omega) (by omega)]; omega
    by_cases hlt : i < s.length
    · have g : (0 : Int) ≤ (i : Int) ∧ (i : Int) < (s.length : Int) := ⟨by omega, by omega⟩
      rw [if_pos (by simpa using hlt)]
      simp only [if_pos g, Int.toNat_natCast, w1]
      rw [drop_cons hlt, List.takeWhile_cons]
      generalize s.getD i 0 = c
      unfold bareQ
      cases h1 : (c != 32) with
      | false => simp
      | true =>
        cases h2 : (c != 34) with
        | false => simp
        | true =>
          simp only [Bool.and_self, if_true]
          rw [bare_l1 s hl K m (i + 1) (by omega) (by omega)]
          congr 2
          simp only [List.length_cons]
          show i + 1 + ((s.drop (i + 1)).takeWhile bareQ).length = _
          unfold bareQ
          omega
    · rw [if_neg (by simpa using hlt)]
      have : s.drop i = [] := List.drop_eq_nil_of_le (by omega)
      rw [this]
      simp
theorem rwords_l0 (s : List Int) (hs : byteOk s) (hl : s.length < 4294967000) : ∀ (m i : Nat) (acc : List RW), s.length - i < m → i ≤ s.length → acc.length ≤ i →
    escrowref25_words_l0 s m ((i : Int), acc) = some (match wrdsQF m (s.drop i) with | some ws => (acc ++ ws.map rwd, true) | none => ([], false))
  | 0, _, _, h, _, _ => absurd h (Nat.not_lt_zero _)
  | m + 1, i, acc, h, hi, ha => by
    unfold escrowref25_words_l0
    by_cases hlt : i < s.length
    · rw [if_neg (by simp; omega)]
      have g : (0 : Int) ≤ (i : Int) ∧ (i : Int) < (s.length : Int) := ⟨by omega, by omega⟩
      rw [bnd_eq, if_pos g, Int.toNat_natCast]
      -- what follows a word that ends at j
      have tail : ∀ (w : Wd) (j : Nat), i < j → j ≤ s.length → (if ((j : Int) == (s.length : Int)) = true then (some (acc ++ [rwd w], true) : Option (List RW × Bool)) else if (0 : Int) ≤ (j : Int) ∧ (j : Int) < (s.length : Int) then if (s.getD (Int.toNat (j : Int)) 0 != 32) = true then some ([], false) else bnd (IntKind.wrap .i64 ((j : Int) + 1)) fun at10 => escrowref25_words_l0 s m (at10, acc ++ [rwd w]) else none) =
          some (match (match (some (w, s.drop j) : Option (Wd × List Int)) with | none => none | some (w, []) => some [w] | some (w, c :: r) => if c = 32 then (wrdsQF m r).map (w :: ·) else none) with | some ws => (acc ++ ws.map rwd, true) | none => ([], false)) := by
        intro w j hij hj
        by_cases he : j = s.length
        · subst he
          rw [if_pos (by simp), List.drop_length]
          simp
        · have hjl : j < s.length := by omega
          rw [if_neg (by simp; omega), if_pos ⟨by omega, by omega⟩, Int.toNat_natCast, drop_cons hjl]
          simp only
          by_cases h32 : s.getD j 0 = 32
          · have w1 : IntKind.wrap .i64 ((j : Int) + 1) = ((j + 1 : Nat) : Int) := by rw [wrap_i64 (by omega) (by omega)]; omega
            rw [if_neg (by simpa using h32), if_pos h32, bnd_eq, w1, rwords_l0 s hs hl m (j + 1) (acc ++ [rwd w]) (by omega) (by omega) (by simp; omega)]
            cases wrdsQF m (s.drop (j + 1)) with
            | none => rfl
            | some ws => simp
          · rw [if_pos (by simpa using h32), if_neg h32]
      have hh : (s.drop i).headD 0 = s.getD i 0 := by rw [drop_cons hlt]; rfl
      unfold wrdsQF word1Q
      rw [hh]
      by_cases h34 : s.getD i 0 = 34
      · rw [if_pos (by simpa using h34), if_pos h34, rquoted_r s hs (by omega) i hlt, bind_eq, List.drop_drop]
        cases hu : unq (s.drop (i + 1)) with
        | none =>
          simp only
          rw [if_pos (show decide ((-1 : Int) < 0) = true from rfl)]; rfl
        | some p =>
          obtain ⟨q, e1, e2, e3, e4⟩ := unq_rest _ _ p.1 p.2 (Nat.le_refl _) (byteOk_drop hs (i + 1)) hu
          have hlen : s.length - (i + 1) = q.length + p.2.length := by rw [← List.length_drop, e1]; simp
          have hnn : ¬ decide (((s.length - p.2.length : Nat) : Int) < 0) = true := by simp
          simp only
          rw [if_neg hnn, if_pos (by simp only [List.length_cons, List.length_nil]; omega)]
          have hdr : s.drop (s.length - p.2.length) = p.2 := by
            have : s.length - p.2.length = (i + 1) + q.length := by omega
            rw [this, ← List.drop_drop, e1, List.drop_left]
          have := tail (p.1, true, ()) (s.length - p.2.length) (by omega) (by omega)
          rw [hdr] at this
          exact this
      · rw [if_neg (by simpa using h34), if_neg h34, bnd_eq, bare_l1 s (by omega) _ (s.length + 2) i (by omega) hi]
        have htl : ((s.drop i).takeWhile bareQ).length ≤ s.length - i := by rw [← List.length_drop]; exact (List.takeWhile_sublist _).length_le
        by_cases hn : (s.drop i).takeWhile bareQ = []
        · rw [hn, if_pos (by simp)]
          simp
        · have hpos := List.length_pos_iff.2 hn
          rw [if_neg (by simp; omega), if_pos ⟨by omega, by omega, by omega⟩, if_pos (by simp only [List.length_cons, List.length_nil]; omega), if_neg hn]
          have e1 : ((s.take (Int.toNat ((i + ((s.drop i).takeWhile bareQ).length : Nat) : Int))).drop i) = (s.drop i).takeWhile bareQ := by
            rw [Int.toNat_natCast, List.drop_take, Nat.add_sub_cancel_left, take_takeWhile]
          have := tail ((s.drop i).takeWhile bareQ, false, ()) (i + ((s.drop i).takeWhile bareQ).length) (by omega) (by omega)
          rw [← List.drop_drop, drop_takeWhile] at this
          rw [e1]
          exact this
    · rw [if_pos (by simp; omega)]
      have : s.drop i = [] := List.drop_eq_nil_of_le (by omega)
      rw [this]; rfl
def wrdsQ (s : List Int) : Option (List Wd) := wrdsQF (s.length + 2) s
theorem rwords_r (s : List Int) (hs : byteOk s) (hl : s.length < 4294967000) : escrowref25_words s = some (match wrdsQ s with | some ws => (ws.map rwd, true) | none => ([], false)) := by
  unfold escrowref25_words wrdsQ
  have := rwords_l0 s hs hl (s.length + 2) 0 [] (by omega) (by omega) (by simp)
  rw [List.drop_zero] at this
  simpa using this

/-! ### both ways of cutting -/
def okW (w : Wd) : Prop := w.2.1 = false → (34 : Int) ∉ w.1
theorem takeQ_eq {s : List Int} (h : (34 : Int) ∉ s.takeWhile (· != 32)) : s.takeWhile bareQ = s.takeWhile (· != 32) ∧ s.dropWhile bareQ = s.dropWhile (· != 32) := by
  induction s with
  | nil => exact ⟨rfl, rfl⟩
  | cons c s ih =>
    rw [List.takeWhile_cons] at h
    rw [List.takeWhile_cons, List.takeWhile_cons, List.dropWhile_cons, List.dropWhile_cons]
    unfold bareQ
    by_cases h32 : c = 32
    · subst h32; simp
    · have h1 : (c != 32) = true := by simpa using h32
      rw [h1, if_pos rfl] at h
      simp only [List.mem_cons, not_or] at h
      have h2 : (c != 34) = true := by simpa using fun e : c = 34 => h.1 e.symm
      rw [h1, h2]
      simp only [Bool.and_self, if_true]
      obtain ⟨i1, i2⟩ := ih h.2
      unfold bareQ at i1 i2
      exact ⟨by rw [i1], i2⟩
theorem takeQ_in {s : List Int} (h : s.dropWhile bareQ = [] ∨ ∃ r, s.dropWhile bareQ = 32 :: r) : s.takeWhile bareQ = s.takeWhile (· != 32) ∧ s.dropWhile bareQ = s.dropWhile (· != 32) := by
  induction s with
  | nil => exact ⟨rfl, rfl⟩
  | cons c s ih =>
    rw [List.dropWhile_cons] at h
    rw [List.takeWhile_cons, List.takeWhile_cons, List.dropWhile_cons, List.dropWhile_cons]
    unfold bareQ at h ⊢
    by_cases h32 : c = 32
    · subst h32; simp
    · have h1 : (c != 32) = true := by simpa using h32
      rw [h1] at h ⊢
      by_cases h34 : c = 34
      · subst h34; simp at h
      · have h2 : (c != 34) = true := by simpa using h34
        rw [h2] at h ⊢
        simp only [Bool.and_self, if_true] at h ⊢
        obtain ⟨i1, i2⟩ := ih h
        unfold bareQ at i1 i2
        exact ⟨by rw [i1], i2⟩
theorem cutQ_to : ∀ (m : Nat) (s : List Int), byteOk s → ∀ ws, wrdsQF m s = some ws → wrds s = some ws
  | 0, _, _, _, h => by cases h
  | m + 1, s, hs, ws, h => by
    rw [wrds_eq hs]
    unfold wrdsQF at h
    have key : ∀ w r, word1Q s = some (w, r) → (r = [] ∨ ∃ q, r = 32 :: q) → word1 s = some (w, r) := by
      intro w r h1 h2
      unfold word1Q at h1
      unfold word1
      split at h1
      · rename_i e; rw [if_pos e]; exact h1
      · rename_i e
        rw [if_neg e]
        split at h1
        · cases h1
        · rename_i hn
          simp only [Option.some.injEq, Prod.mk.injEq] at h1
          obtain ⟨rfl, rfl⟩ := h1
          obtain ⟨i1, i2⟩ := takeQ_in h2
          rw [← i1, ← i2, if_neg hn]
    cases hw : word1Q s with
    | none => rw [hw] at h; cases h
    | some x =>
      obtain ⟨w, r⟩ := x
      rw [hw] at h
      cases r with
      | nil =>
        rw [key w [] hw (.inl rfl)]; exact h
      | cons c r =>
        simp only at h
        split at h
        · rename_i e
          subst e
          have hw1 := key w _ hw (.inr ⟨r, rfl⟩)
          obtain ⟨p, e1, _, hr, _⟩ := word1_rest hs hw1
          obtain ⟨ws', h1, rfl⟩ := Option.map_eq_some_iff.1 h
          rw [hw1]
          simp only [if_true]
          rw [cutQ_to m r (byteOk_cons hr).2 ws' h1]; rfl
        · cases h
theorem cutQ_of : ∀ (m : Nat) (s : List Int), byteOk s → s.length < m → ∀ ws, wrds s = some ws → (∀ w ∈ ws, okW w) → wrdsQF m s = some ws
  | 0, _, _, h, _, _, _ => absurd h (Nat.not_lt_zero _)
  | m + 1, s, hs, hm, ws, h, ho => by
    rw [wrds_eq hs] at h
    unfold wrdsQF
    have key : ∀ w r, word1 s = some (w, r) → okW w → word1Q s = some (w, r) := by
      intro w r h1 h2
      unfold word1 at h1
      unfold word1Q
      split at h1
      · rename_i e; rw [if_pos e]; exact h1
      · rename_i e
        rw [if_neg e]
        split at h1
        · cases h1
        · rename_i hn
          simp only [Option.some.injEq, Prod.mk.injEq] at h1
          obtain ⟨rfl, rfl⟩ := h1
          obtain ⟨i1, i2⟩ := takeQ_eq (h2 rfl)
          rw [i1, i2, if_neg hn]
    cases hw : word1 s with
    | none => rw [hw] at h; cases h
    | some x =>
      obtain ⟨w, r⟩ := x
      obtain ⟨p, e1, hp, hr, _⟩ := word1_rest hs hw
      rw [hw] at h
      cases r with
      | nil =>
        simp only [Option.some.injEq] at h
        subst h
        rw [key w [] hw (ho w (by simp))]
      | cons c r =>
        simp only at h
        split at h
        · rename_i e
          subst e
          obtain ⟨ws', h1, rfl⟩ := Option.map_eq_some_iff.1 h
          rw [key w _ hw (ho w (by simp))]
          simp only [if_true]
          rw [cutQ_of m r (byteOk_cons hr).2 (by rw [e1] at hm; simp at hm; omega) ws' h1 (fun x hx => ho x (by simp [hx]))]; rfl
        · cases h
end Sx
namespace Sx
open Go Go.RowKit

/-! ### numbers -/
def Got {α : Type} (x : α × Bool) (o : Option α) : Prop := x.2 = o.isSome ∧ ∀ a, o = some a → x.1 = a
theorem got_some {α : Type} {a : α} : Got (a, true) (some a) := ⟨rfl, fun _ h => by cases h; rfl⟩
theorem got_none {α : Type} {a : α} : Got (a, false) none := ⟨rfl, fun _ h => by cases h⟩
theorem digits_val : ∀ (n : Nat) (s : List Int), s.length ≤ n → s ≠ [] → (∀ c ∈ s, isDig c) → (s.length = 1 ∨ s.headD 0 ≠ 48) → decI (valD 0 s).toNat = s ∧ 0 ≤ valD 0 s ∧ (s.headD 0 ≠ 48 → 0 < valD 0 s)
  | 0, s, hl, hn, _, _ => absurd (List.length_eq_zero_iff.1 (Nat.le_zero.1 hl)) hn
  | n + 1, s, hl, hn, hd, hz => by
    have e : s.dropLast ++ [s.getLast hn] = s := List.dropLast_concat_getLast hn
    generalize hp : s.dropLast = p at e
    generalize s.getLast hn = c at e
    subst e
    have hc : isDig c := hd c (by simp)
    have hc' := hc
    unfold isDig at hc'
    rw [valD_append]
    by_cases h0 : p = []
    · subst h0
      have : valD (valD 0 []) [c] = c - 48 := by simp [valD]
      rw [this]
      refine ⟨?_, by omega, fun h => by simp at h; omega⟩
      rw [decI_eq, if_pos (by omega)]
      simp; omega
    · have hh : (p ++ [c]).headD 0 = p.headD 0 := by cases p with
        | nil => exact absurd rfl h0
        | cons a p => rfl
      have hz' : p.headD 0 ≠ 48 := by
        rcases hz with h | h
        · have := List.length_pos_iff.2 h0
          rw [List.length_append] at h
          simp only [List.length_cons, List.length_nil] at h
          omega
        · rwa [hh] at h
      obtain ⟨i1, i2, i3⟩ := digits_val n p (by rw [List.length_append] at hl; simp only [List.length_cons, List.length_nil] at hl; omega) h0 (fun x hx => hd x (by simp [hx])) (.inr hz')
      have i4 := i3 hz'
      have : valD (valD 0 p) [c] = 10 * valD 0 p + (c - 48) := by simp [valD]
      rw [this]
      refine ⟨?_, by omega, fun _ => by omega⟩
      rw [decI_eq, if_neg (by omega)]
      have e1 : (10 * valD 0 p + (c - 48)).toNat / 10 = (valD 0 p).toNat := by omega
      have e2 : (((10 * valD 0 p + (c - 48)).toNat % 10 : Nat) : Int) = c - 48 := by omega
      rw [e1, i1, e2]
      congr 2; omega
theorem valD_lt : ∀ (s : List Int) (a : Int) (k : Nat), (∀ c ∈ s, isDig c) → 0 ≤ a → a < 10 ^ k → 0 ≤ valD a s ∧ valD a s < 10 ^ (k + s.length)
  | [], a, k, _, h0, h => ⟨h0, h⟩
  | c :: s, a, k, hd, h0, h => by
    have hc : isDig c := hd c (by simp)
    unfold isDig at hc
    have := valD_lt s (10 * a + (c - 48)) (k + 1) (fun x hx => hd x (by simp [hx])) (by omega) (by rw [Int.pow_succ]; omega)
    show 0 ≤ valD (10 * a + (c - 48)) s ∧ valD (10 * a + (c - 48)) s < _
    rw [List.length_cons, show k + (s.length + 1) = k + 1 + s.length by omega]
    exact this
def allD (l : List Int) : Bool := l.all fun c => decide (isDig c)
theorem allD_iff {l : List Int} : allD l = true ↔ ∀ c ∈ l, isDig c := by unfold allD; simp
theorem rnum_l0 (s : List Int) (hs : byteOk s) (hl : s.length ≤ 19) (K : Int → Option (Int × Bool)) : ∀ (m i : Nat) (v : Int), i + m = s.length → 0 ≤ v → v < 10 ^ i →
    escrowref25_number_l0 s K (m + 1) (v, (i : Int)) = if allD (s.drop i) = true then K (valD v (s.drop i)) else some (0, false)
  | 0, i, v, h, _, _ => by
    unfold escrowref25_number_l0
    rw [if_neg (by simp; omega), List.drop_eq_nil_of_le (by omega), if_pos (show allD [] = true from rfl)]; rfl
  | m + 1, i, v, h, h0, hv => by
    unfold escrowref25_number_l0
    have hi : i < s.length := by omega
    have g : (0 : Int) ≤ (i : Int) ∧ (i : Int) < (s.length : Int) := ⟨by omega, by omega⟩
    have w : IntKind.wrap .i64 ((i : Int) + 1) = ((i + 1 : Nat) : Int) := by rw [wrap_i64 (by omega) (by omega)]; omega
    rw [if_pos (by simp; omega), if_pos g]
    simp only [bnd_eq, Int.toNat_natCast, if_pos g, if_true]
    rw [drop_cons hi]
    have hc := getD_byte hs i
    have hp : (10 : Int) ^ i ≤ 10 ^ 18 := by
      have : (10 : Nat) ^ i ≤ 10 ^ 18 := Nat.pow_le_pow_right (by decide) (by omega)
      exact_mod_cast this
    have h18 : (10 : Int) ^ 18 = 1000000000000000000 := by decide
    by_cases hd : isDig (s.getD i 0)
    · have hd' := hd
      unfold isDig at hd'
      have b1 : ¬ decide (s.getD i 0 < 48) = true := by rw [decide_eq_true_eq]; omega
      have b2 : ¬ decide (s.getD i 0 > 57) = true := by rw [decide_eq_true_eq]; omega
      rw [if_neg b1, if_neg b2, wrap_u8b (by omega) (by omega), wrap_u64' (n := s.getD i 0 - 48) (by omega) (by omega), wrap_u64' (n := v * 10) (by omega) (by omega), wrap_u64' (by omega) (by omega), w, show v * 10 + (s.getD i 0 - 48) = 10 * v + (s.getD i 0 - 48) by omega,
        rnum_l0 s hs hl K m (i + 1) _ (by omega) (by omega) (by rw [Int.pow_succ]; omega)]
      have e : allD (s.getD i 0 :: s.drop (i + 1)) = allD (s.drop (i + 1)) := by
        unfold allD
        rw [List.all_cons, decide_eq_true hd, Bool.true_and]
      rw [e]; rfl
    · have hn : ¬ allD (s.getD i 0 :: s.drop (i + 1)) = true := fun h => hd (allD_iff.1 h _ List.mem_cons_self)
      rw [if_neg hn]
      unfold isDig at hd
      by_cases h48 : s.getD i 0 < 48
      · rw [if_pos (decide_eq_true h48)]
      · rw [if_neg (by rw [decide_eq_true_eq]; exact h48)]
        have : decide (s.getD i 0 > 57) = true := by rw [decide_eq_true_eq]; omega
        rw [if_pos this]
/-- the number that a word says, as the definition has it -/
noncomputable def numW (w : Wd) : Option Int := if w.2.1 = true then none else numS w.1
theorem numS_dig {s : List Int} (hn : s ≠ []) (hd : ∀ c ∈ s, isDig c) (hz : s.length = 1 ∨ s.headD 0 ≠ 48) : numS s = if valD 0 s ≤ 9223372036854775807 then some (valD 0 s) else none := by
  obtain ⟨q1, q2, _⟩ := digits_val _ s (Nat.le_refl _) hn hd hz
  have e : itoaI (valD 0 s) = s := by rw [itoaI_eq, if_neg (by omega)]; exact q1
  split
  · rename_i h
    have := numS_some (n := valD 0 s) (by simp only [rng, lo, Sx.hi]; omega)
    rwa [e] at this
  · rename_i h
    apply numS_none
    intro n hr hi
    rw [← e] at hi
    have := itoaI_inj hi
    simp only [rng, lo, Sx.hi] at hr
    omega
theorem numS_min {s : List Int} (hn : s ≠ []) (hd : ∀ c ∈ s, isDig c) (hz : s.headD 0 ≠ 48) : numS (45 :: s) = if valD 0 s ≤ 9223372036854775808 then some (-(valD 0 s)) else none := by
  obtain ⟨q1, q2, q3⟩ := digits_val _ s (Nat.le_refl _) hn hd (.inr hz)
  have q4 := q3 hz
  have e : itoaI (-(valD 0 s)) = 45 :: s := by
    rw [itoaI_eq, if_pos (by omega), show (-(valD 0 s)).natAbs = (valD 0 s).toNat by omega, q1]
  split
  · rename_i h
    have := numS_some (n := -(valD 0 s)) (by simp only [rng, lo, Sx.hi]; omega)
    rwa [e] at this
  · rename_i h
    apply numS_none
    intro n hr hi
    rw [← e] at hi
    have := itoaI_inj hi
    simp only [rng, lo, Sx.hi] at hr
    omega
theorem numS_form {t : List Int} {n : Int} (h : numS t = some n) : ∃ s, (t = s ∨ t = 45 :: s) ∧ s ≠ [] ∧ (∀ c ∈ s, isDig c) ∧ s.length ≤ 19 ∧ ((s.length = 1 ∧ t = s) ∨ s.headD 0 ≠ 48) := by
  obtain ⟨hr, hi⟩ := numS_spec h
  simp only [rng, lo, Sx.hi] at hr
  rw [itoaI_eq] at hi
  have h19 : (10 : Nat) ^ 19 = 10000000000000000000 := by decide
  have lead : ∀ k : Nat, 0 < k → (decI k).headD 0 ≠ 48 := by
    intro k hk
    cases hd : decI k with
    | nil => simp
    | cons c r =>
      intro e
      simp only [List.headD_cons] at e
      subst e
      have : ∀ (n : Nat), 0 < n → ∀ r, decI n ≠ 48 :: r := by
        intro n
        induction n using Nat.strongRecOn with
        | ind n ih =>
          intro h0 r h
          rw [decI_eq] at h
          split at h
          · simp only [List.cons.injEq] at h; omega
          · have hne := (decI_all (n / 10)).2.2
            cases hd : decI (n / 10) with
            | nil => exact hne hd
            | cons c q =>
              rw [hd] at h
              simp only [List.cons_append, List.cons.injEq] at h
              obtain ⟨rfl, _⟩ := h
              exact ih (n / 10) (by omega) (by omega) q hd
      exact this k hk r hd
  split at hi
  · exact ⟨decI n.natAbs, .inr hi.symm, (decI_all _).2.2, (decI_all _).1, decI_len 19 _ (by decide) (by rw [h19]; omega), .inr (lead _ (by omega))⟩
  · refine ⟨decI n.toNat, .inl hi.symm, (decI_all _).2.2, (decI_all _).1, decI_len 19 _ (by decide) (by rw [h19]; omega), ?_⟩
    by_cases h0 : n.toNat = 0
    · left
      have e : decI 0 = [48] := by rw [decI_eq]; rfl
      rw [h0, e]
      rw [h0, e] at hi
      exact ⟨rfl, hi.symm⟩
    · exact .inr (lead _ (by omega))
theorem rnumber_r (w : Wd) (hb : byteOk w.1) (hl : w.1.length < 4294967296) : ∃ x, escrowref25_number (rwd w) = some x ∧ Got x (numW w) := by
  obtain ⟨t, q, u⟩ := w
  simp only at hb hl
  -- the text behind the sign
  obtain ⟨s, minus, hst, hcase⟩ : ∃ (s : List Int) (minus : Bool), byteOk s ∧ ((minus = true ∧ t = 45 :: s) ∨ (minus = false ∧ t = s ∧ s.headD 0 ≠ 45)) := by
    cases t with
    | nil => exact ⟨[], false, hb, .inr ⟨rfl, rfl, by decide⟩⟩
    | cons c r =>
      by_cases h : c = 45
      · subst h; exact ⟨r, true, (byteOk_cons hb).2, .inl ⟨rfl, rfl⟩⟩
      · exact ⟨c :: r, false, hb, .inr ⟨rfl, rfl, by simpa using h⟩⟩
  have hsl : s.length ≤ t.length := by rcases hcase with ⟨_, rfl⟩ | ⟨_, rfl, _⟩ <;> simp
  have start : escrowref25_number (rwd (t, q, u)) = bnd (q || decide ((s.length : Int) < 1)) (fun b8 => bnd (b8 || decide ((s.length : Int) > 19)) fun b9 => bnd (fun o11 => if o11 = true then (some (0, false) : Option (Int × Bool)) else bnd (fun o17 => if minus = true then some (IntKind.wrap .i64 (IntKind.wrap .u64 (0 - o17)), decide (o17 ≤ 9223372036854775808)) else some (IntKind.wrap .i64 o17, decide (o17 ≤ 9223372036854775807))) fun k16 => escrowref25_number_l0 s k16 (Int.toNat ((s.length : Int) - 0) + 1) (0, 0)) fun k10 => if b9 = true then k10 true else if (0 : Int) ≤ 0 ∧ 0 < (s.length : Int) then bnd (s.getD 0 0 == 48) fun b12 => bnd (fun o14 => k10 o14) fun k13 => if b12 = true then bnd (decide ((s.length : Int) > 1)) fun b15 => k13 (b15 || minus) else k13 false else none) := by
    unfold escrowref25_number rwd
    simp only
    rcases hcase with ⟨rfl, rfl⟩ | ⟨rfl, rfl, h45⟩
    · have d : decide (((45 :: s).length : Int) > 0) = true := by simp
      have gg : (0 : Int) ≤ 0 ∧ (0 : Int) < ((45 :: s).length : Int) := ⟨by decide, by simp only [List.length_cons]; omega⟩
      have g2 : (0 : Int) ≤ 1 ∧ (1 : Int) ≤ ((45 :: s).length : Int) ∧ ((45 :: s).length : Int) ≤ ((45 :: s).length : Int) := ⟨by decide, by simp only [List.length_cons]; omega, by omega⟩
      have h45 : ((45 :: s).getD 0 0 == 45) = true := rfl
      have ht : (List.drop 1 (List.take (Int.toNat ((45 :: s).length : Int)) (45 :: s))) = s := by rw [Int.toNat_natCast, List.take_length]; rfl
      simp only [bnd_eq, if_pos d, if_pos gg, h45, if_pos g2, if_true, ht]
    · cases t with
      | nil => rfl
      | cons c r =>
        have d : decide (((c :: r).length : Int) > 0) = true := by simp
        have gg : (0 : Int) ≤ 0 ∧ (0 : Int) < ((c :: r).length : Int) := ⟨by decide, by simp only [List.length_cons]; omega⟩
        have hc : ((c :: r).getD 0 0 == 45) = false := by simpa using h45
        simp only [bnd_eq, if_pos d, if_pos gg, hc, Bool.false_eq_true, if_false]
  rw [start]
  simp only [bnd_eq]
  -- bad shapes
  have none_of : (q = true ∨ s.length < 1 ∨ 19 < s.length ∨ (s.headD 0 = 48 ∧ (1 < s.length ∨ minus = true)) ∨ ¬ ∀ c ∈ s, isDig c) → numW (t, q, u) = none := by
    intro hbad
    unfold numW
    simp only
    by_cases hq : q = true
    · rw [if_pos hq]
    rw [if_neg hq]
    cases hN : numS t with
    | none => rfl
    | some n =>
      exfalso
      obtain ⟨s', f1, f2, f3, f4, f5⟩ := numS_form hN
      have hss : s = s' ∧ (minus = true → t = 45 :: s' ∧ s'.headD 0 ≠ 48) := by
        rcases hcase with ⟨rfl, rfl⟩ | ⟨rfl, rfl, h45⟩
        · rcases f1 with f1 | f1
          · exfalso
            have := f3 45 (by rw [← f1]; simp)
            unfold isDig at this; omega
          · simp only [List.cons.injEq, true_and] at f1
            subst f1
            refine ⟨rfl, fun _ => ⟨rfl, ?_⟩⟩
            rcases f5 with ⟨_, f5⟩ | f5
            · have := congrArg List.length f5; simp at this
            · exact f5
        · rcases f1 with f1 | f1
          · exact ⟨f1, fun h => by cases h⟩
          · rw [f1] at h45; simp at h45
      obtain ⟨rfl, hm⟩ := hss
      rcases hbad with h | h | h | ⟨h1, h2⟩ | h
      · exact hq h
      · exact f2 (List.length_eq_zero_iff.1 (by omega))
      · omega
      · rcases h2 with h2 | h2
        · rcases f5 with ⟨f5, _⟩ | f5
          · omega
          · exact f5 h1
        · exact (hm h2).2 h1
      · exact h f3
  by_cases hq : (q || decide ((s.length : Int) < 1) || decide ((s.length : Int) > 19)) = true
  · rw [hq]
    simp only [if_true]
    rw [none_of (by
      simp only [Bool.or_eq_true, decide_eq_true_eq] at hq
      rcases hq with (h | h) | h
      · exact .inl h
      · exact .inr (.inl (by omega))
      · exact .inr (.inr (.inl (by omega))))]
    exact ⟨_, rfl, got_none⟩
  · rw [if_neg hq]
    simp only [Bool.or_eq_true, decide_eq_true_eq, not_or] at hq
    obtain ⟨⟨h1, h2⟩, h3⟩ := hq
    have hs0 : s ≠ [] := fun e => by subst e; simp at h2
    have hpos := List.length_pos_iff.2 hs0
    rw [if_pos ⟨by decide, by omega⟩]
    have hhd : s.getD 0 0 = s.headD 0 := by cases s <;> rfl
    rw [hhd]
    by_cases h48 : s.headD 0 = 48 ∧ (1 < s.length ∨ minus = true)
    · have d1 : (s.headD 0 == 48) = true := by simpa using h48.1
      have d2 : (decide ((s.length : Int) > 1) || minus) = true := by
        rcases h48.2 with h | h
        · have : decide ((s.length : Int) > 1) = true := by simp; omega
          rw [this]; rfl
        · rw [h, Bool.or_true]
      rw [if_pos d1, d2]
      simp only [if_true]
      rw [none_of (.inr (.inr (.inr (.inl h48))))]
      exact ⟨_, rfl, got_none⟩
    · suffices main : ∃ x, escrowref25_number_l0 s (fun o17 => if minus = true then some (IntKind.wrap .i64 (IntKind.wrap .u64 (0 - o17)), decide (o17 ≤ 9223372036854775808)) else some (IntKind.wrap .i64 o17, decide (o17 ≤ 9223372036854775807))) (Int.toNat ((s.length : Int) - 0) + 1) (0, 0) = some x ∧ Got x (numW (t, q, u)) by
        by_cases d1 : s.headD 0 = 48
        · have d2 : ¬ (decide ((s.length : Int) > 1) || minus) = true := by
            simp only [Bool.or_eq_true, decide_eq_true_eq]
            intro h
            exact h48 ⟨d1, h.imp (fun h => by omega) id⟩
          rw [if_pos (by simpa using d1), if_neg d2]
          exact main
        · rw [if_neg (by simpa using d1)]
          exact main
      have e : Int.toNat ((s.length : Int) - 0) + 1 = s.length + 1 := by omega
      have h0 := rnum_l0 s hst (by omega) (fun o17 => if minus = true then some (IntKind.wrap .i64 (IntKind.wrap .u64 (0 - o17)), decide (o17 ≤ 9223372036854775808)) else some (IntKind.wrap .i64 o17, decide (o17 ≤ 9223372036854775807))) s.length 0 0 (by omega) (by decide) (by decide)
      rw [show ((0 : Nat) : Int) = 0 from rfl] at h0
      rw [e, h0, List.drop_zero]
      by_cases hd' : allD s = true
      · have hd := allD_iff.1 hd'
        rw [if_pos hd']
        have hv := valD_lt s 0 0 hd (by decide) (by decide)
        have hp : (10 : Int) ^ (0 + s.length) ≤ 10 ^ 19 := by
          have : (10 : Nat) ^ (0 + s.length) ≤ 10 ^ 19 := Nat.pow_le_pow_right (by decide) (by omega)
          exact_mod_cast this
        have h19 : (10 : Int) ^ 19 = 10000000000000000000 := by decide
        have hN : numW (t, q, u) = numS t := by unfold numW; simp only; rw [if_neg h1]
        rw [hN]
        generalize hV : valD 0 s = v at hv
        rcases hcase with ⟨rfl, rfl⟩ | ⟨rfl, rfl, _⟩
        · have hz : s.headD 0 ≠ 48 := fun h => h48 ⟨h, .inr rfl⟩
          rw [numS_min hs0 hd hz, hV, if_pos rfl]
          by_cases hle : v ≤ 9223372036854775808
          · rw [if_pos hle]
            refine ⟨_, rfl, by simp [hle], fun a ha => ?_⟩
            cases ha
            by_cases hv0 : v = 0
            · subst hv0; decide
            · simp only
              rw [wrap_u64n (by omega) (by omega)]
              by_cases hmin : v = 9223372036854775808
              · subst hmin; decide
              · simp [IntKind.wrap, IntKind.bits, IntKind.signed]; omega
          · rw [if_neg hle]
            exact ⟨_, rfl, by simp [hle], fun a ha => by cases ha⟩
        · have hz : t.length = 1 ∨ t.headD 0 ≠ 48 := by
            by_cases h : t.headD 0 = 48
            · left
              have : ¬ 1 < t.length := fun h2 => h48 ⟨h, .inl h2⟩
              omega
            · exact .inr h
          rw [numS_dig hs0 hd hz, hV, if_neg (by decide)]
          by_cases hle : v ≤ 9223372036854775807
          · rw [if_pos hle]
            refine ⟨_, rfl, by simp [hle], fun a ha => ?_⟩
            cases ha
            exact wrap_i64 (by omega) (by omega)
          · rw [if_neg hle]
            exact ⟨_, rfl, by simp [hle], fun a ha => by cases ha⟩
      · have hd : ¬ ∀ c ∈ s, isDig c := fun h => hd' (allD_iff.2 h)
        rw [if_neg hd', none_of (.inr (.inr (.inr (.inr hd))))]
        exact ⟨_, rfl, got_none⟩
end Sx
namespace Sx
open Go Go.RowKit

/-- what a word is known for -/
def WOk (w : Wd) : Prop := byteOk w.1 ∧ w.1.length < 4294967296
def hashW (w : Wd) : Option (List Int) := if w.2.1 = true then none else hashS w.1
theorem numR_cons (w : Wd) (r : List Wd) : numR (w :: r) = (numW w).map fun n => (n, (r, ())) := by
  obtain ⟨t, q, u⟩ := w
  unfold numR numW nextS
  cases q with
  | true => rfl
  | false => simp
theorem hashR_cons (w : Wd) (r : List Wd) : hashR (w :: r) = (hashW w).map fun n => (n, (r, ())) := by
  obtain ⟨t, q, u⟩ := w
  unfold hashR hashW nextS
  cases q with
  | true => rfl
  | false => simp
theorem rhash_l0 (t : List Int) (q : Bool) (hb : byteOk t) (ht : t.length = 64) (K : List Int → Option (List Int × Bool)) : ∀ (j i : Nat) (pre : List Int), i + j = 32 → pre.length = i →
    escrowref25_hash_l0 (q, t, ()) K (j + 1) ((i : Int), pre ++ List.replicate j 0) = match hexL (t.drop (2 * i)) with | none => some (z32, false) | some h => K (pre ++ h)
  | 0, i, pre, hi, hp => by
    obtain rfl : i = 32 := by omega
    unfold escrowref25_hash_l0
    rw [if_neg (by simp), List.drop_eq_nil_of_le (by omega)]
    simp [hexL]
  | j + 1, i, pre, hi, hp => by
    unfold escrowref25_hash_l0
    rw [if_pos (by simp; omega)]
    have w1 : IntKind.wrap .i64 (2 * (i : Int)) = ((2 * i : Nat) : Int) := by rw [wrap_i64 (by omega) (by omega)]; omega
    have w2 : IntKind.wrap .i64 (((2 * i : Nat) : Int) + 1) = ((2 * i + 1 : Nat) : Int) := by rw [wrap_i64 (by omega) (by omega)]; omega
    have w3 : IntKind.wrap .i64 ((i : Int) + 1) = ((i + 1 : Nat) : Int) := by rw [wrap_i64 (by omega) (by omega)]; omega
    simp only [w1, w2]
    rw [if_pos ⟨by omega, by omega⟩, Int.toNat_natCast, rdigit_r (getD_byte hb _), bind_eq, if_pos ⟨by omega, by omega⟩, Int.toNat_natCast, rdigit_r (getD_byte hb _), bind_eq, bnd_eq]
    rw [drop_cons (show 2 * i < t.length by omega), drop_cons (show 2 * i + 1 < t.length by omega)]
    simp only [hexL]
    by_cases hbad : hexd (t.getD (2 * i) 0) < 0 ∨ hexd (t.getD (2 * i + 1) 0) < 0
    · rw [if_pos (by simpa using hbad), if_pos hbad]
    · rw [if_neg (by simpa using hbad), if_neg hbad, if_pos ⟨by omega, by omega⟩, bnd_eq, w3, hex_byte (by omega) (by omega), Int.toNat_natCast]
      have e : List.set (pre ++ List.replicate (j + 1) 0) i (16 * hexd (t.getD (2 * i) 0) + hexd (t.getD (2 * i + 1) 0)) = (pre ++ [16 * hexd (t.getD (2 * i) 0) + hexd (t.getD (2 * i + 1) 0)]) ++ List.replicate j 0 := by rw [← hp]; exact set_rep pre j _
      rw [e, rhash_l0 t q hb ht K j (i + 1) _ (by omega) (by simp [hp])]
      rw [show 2 * (i + 1) = 2 * i + 1 + 1 by omega]
      cases hexL (t.drop (2 * i + 1 + 1)) with
      | none => rfl
      | some h => simp
theorem rhash_r (w : Wd) (hb : WOk w) : ∃ x, escrowref25_hash (rwd w) = some x ∧ Got x (hashW w) := by
  obtain ⟨t, q, u⟩ := w
  unfold escrowref25_hash rwd hashW hashS
  simp only [bnd_eq]
  cases q with
  | true => exact ⟨_, rfl, got_none⟩
  | false =>
    simp only [Bool.false_or, Bool.false_eq_true, if_false]
    by_cases h64 : t.length = 64
    · rw [if_neg (by simp; omega), if_pos h64]
      have := rhash_l0 t false hb.1 h64 (fun o6 => some (o6, true)) 32 0 [] (by omega) rfl
      simp only [List.nil_append, Nat.mul_zero, List.drop_zero] at this
      have this2 : escrowref25_hash_l0 (false, t, ()) (fun o6 => some (o6, true)) (Int.toNat (32 - 0) + 1) (0, List.replicate 32 0) = _ := this
      rw [this2]
      cases hexL t with
      | none => exact ⟨_, rfl, got_none⟩
      | some h => exact ⟨_, rfl, got_some⟩
    · rw [if_pos (by simp; omega), if_neg h64]
      exact ⟨_, rfl, got_none⟩
theorem num_w (w : Wd) (hb : WOk w) : ∃ v, escrowref25_num (rwd w) = some v ∧ ∀ n, numW w = some n → v = n := by
  obtain ⟨x, e1, e2, e3⟩ := rnumber_r w hb.1 hb.2
  unfold escrowref25_num
  rw [e1, bind_eq]
  exact ⟨_, rfl, e3⟩
theorem num_is {w : Wd} (hb : WOk w) {n : Int} (h : numW w = some n) : escrowref25_num (rwd w) = some n := by
  obtain ⟨v, e1, e2⟩ := num_w w hb
  rw [e1, e2 n h]
theorem sum_is {w : Wd} (hb : WOk w) {n : List Int} (h : hashW w = some n) : escrowref25_sum (rwd w) = some n := by
  obtain ⟨x, e1, e2, e3⟩ := rhash_r w hb
  unfold escrowref25_sum
  rw [e1, bind_eq, e3 n h]

/-! ### sorts -/
noncomputable def sortW (w : Wd) (c : Int) : Bool := if c = 110 then (numW w).isSome else if c = 104 then (hashW w).isSome else w.2.1
noncomputable def likeS : List Wd → List Int → Bool
  | [], [] => true
  | w :: ws, c :: cs => sortW w c && likeS ws cs
  | _, _ => false
theorem map_getD {ws : List Wd} {i : Nat} (h : i < ws.length) : (ws.map rwd).getD i (false, [], ()) = rwd (ws.getD i ([], false, ())) := by
  simp [List.getD, h]
theorem like_l0 (ws : List Wd) (hw : ∀ w ∈ ws, WOk w) (cs : List Int) (hc : ws.length = cs.length) (hl : ws.length < 4294967296) (K : Unit → Option Bool) : ∀ (m i : Nat), i + m = ws.length → escrowref25_like_l0 (ws.map rwd) cs K (m + 1) (i : Int) = if likeS (ws.drop i) (cs.drop i) = true then K () else some false
  | 0, i, h => by
    unfold escrowref25_like_l0
    rw [if_neg (by simp; omega), List.drop_eq_nil_of_le (by omega), List.drop_eq_nil_of_le (by omega)]
    rfl
  | m + 1, i, h => by
    unfold escrowref25_like_l0
    have hi : i < ws.length := by omega
    have g : (0 : Int) ≤ (i : Int) ∧ (i : Int) < ((ws.map rwd).length : Int) := ⟨by omega, by rw [List.length_map]; omega⟩
    have g2 : (0 : Int) ≤ (i : Int) ∧ (i : Int) < (cs.length : Int) := ⟨by omega, by omega⟩
    have w1 : IntKind.wrap .i64 ((i : Int) + 1) = ((i + 1 : Nat) : Int) := by rw [wrap_i64 (by omega) (by omega)]; omega
    have ih := like_l0 ws hw cs hc hl K m (i + 1) (by omega)
    rw [if_pos (by simp; omega), if_pos g]
    simp only [bnd_eq, if_pos g, if_pos g2, w1, Int.toNat_natCast, map_getD hi]
    rw [drop_consD ([], false, ()) hi, drop_cons (show i < cs.length by omega)]
    have hwi := hw _ (getD_mem ([], false, ()) hi)
    have fin : ∀ b : Bool, b = sortW (ws.getD i ([], false, ())) (cs.getD i 0) → (if (!b) = true then (some false : Option Bool) else escrowref25_like_l0 (ws.map rwd) cs K (m + 1) ((i + 1 : Nat) : Int)) = if likeS (ws.getD i ([], false, ()) :: ws.drop (i + 1)) (cs.getD i 0 :: cs.drop (i + 1)) = true then K () else some false := by
      intro b hb
      rw [likeS, ← hb, ih]
      cases b <;> simp
    by_cases h110 : cs.getD i 0 = 110
    · rw [if_pos (by simpa using h110)]
      obtain ⟨x, e1, e2, _⟩ := rnumber_r _ hwi.1 hwi.2
      rw [e1, bind_eq]
      exact fin _ (by unfold sortW; rw [if_pos h110, e2])
    · rw [if_neg (by simpa using h110)]
      by_cases h104 : cs.getD i 0 = 104
      · rw [if_pos (by simpa using h104)]
        obtain ⟨x, e1, e2, _⟩ := rhash_r _ hwi
        rw [e1, bind_eq]
        exact fin _ (by unfold sortW; rw [if_neg h110, if_pos h104, e2])
      · rw [if_neg (by simpa using h104)]
        exact fin _ (by unfold sortW; rw [if_neg h110, if_neg h104]; rfl)
theorem likeS_len : ∀ (ws : List Wd) (cs : List Int), likeS ws cs = true → ws.length = cs.length
  | [], [], _ => rfl
  | [], _ :: _, h => by cases h
  | _ :: _, [], h => by cases h
  | w :: ws, c :: cs, h => by
    rw [likeS, Bool.and_eq_true] at h
    simp [likeS_len ws cs h.2]
theorem like_r (ws : List Wd) (hw : ∀ w ∈ ws, WOk w) (cs : List Int) (hl : ws.length < 4294967296) : escrowref25_like (ws.map rwd) cs = some (likeS ws cs) := by
  unfold escrowref25_like
  by_cases hc : ws.length = cs.length
  · rw [if_neg (by simp; omega), bnd_eq]
    have e : Int.toNat (((ws.map rwd).length : Int) - 0) + 1 = ws.length + 1 := by rw [List.length_map]; omega
    rw [e, show (0 : Int) = ((0 : Nat) : Int) from rfl, like_l0 ws hw cs hc hl _ ws.length 0 (by omega), List.drop_zero, List.drop_zero]
    cases likeS ws cs <;> rfl
  · rw [if_pos (by simp; omega)]
    have : likeS ws cs = false := by
      rw [← Bool.not_eq_true]
      exact fun h => hc (likeS_len ws cs h)
    rw [this]

/-! ### fates -/
theorem eqW (w : Wd) (t : List Int) : eqD (.pair .bool (.pair .str .unit)) (rwd w) (false, t, ()) = (!w.2.1 && (w.1 == t)) := by
  rw [Bool.eq_iff_iff, eqD_iff (t := .pair .bool (.pair .str .unit)) rfl]
  obtain ⟨x, q, u⟩ := w
  cases q <;> simp [rwd]
theorem numR_next (a b : Wd) (r : List Wd) {α : Type} (F : List Int × Rd → Int × Rd → Option α) : ((nextS (a :: b :: r) true).bind fun f => (numR f.2.1).bind fun s => F f s) = (if a.2.1 = true then (numW b).bind fun n => F (a.1, (b :: r, ())) (n, (r, ())) else none) := by
  obtain ⟨ta, qa, ua⟩ := a
  cases qa with
  | false => rfl
  | true =>
    have : nextS ((ta, true, ua) :: b :: r) true = some (ta, (b :: r, ())) := rfl
    rw [this, Option.bind_some]
    simp only [if_true]
    rw [numR_cons]
    cases numW b <;> rfl
theorem rfates_l0 (K : List Fate → Option (List Fate × Bool)) : ∀ (m : Nat) (ws : List Wd) (acc : List Fate), ws.length < m → (∀ w ∈ ws, WOk w) → acc.length + ws.length ≤ 4294967295 →
    escrowref25_fates_l0 K m (ws.map rwd, acc) = match fatesF m ws with | none => some ([], false) | some l => K (acc ++ l)
  | 0, _, _, h, _, _ => absurd h (Nat.not_lt_zero _)
  | m + 1, [], acc, _, _, _ => by
    unfold escrowref25_fates_l0
    rw [if_neg (by simp)]
    simp [fatesF]
  | m + 1, w :: ws, acc, hm, hw, hacc => by
    have e : fatesF (m + 1) (w :: ws) = (fateR (w :: ws)).bind fun p => (fatesF m p.2.1).map fun l => p.1 :: l := rfl
    rw [e]
    simp only [List.length_cons] at hm hacc
    unfold escrowref25_fates_l0
    have hpos : decide ((((w :: ws).map rwd).length : Int) > 0) = true := by simp
    have g0 : (0 : Int) ≤ 0 ∧ (0 : Int) < (((w :: ws).map rwd).length : Int) := ⟨by decide, by rw [List.length_map, List.length_cons]; omega⟩
    rw [if_pos hpos, bnd_eq, if_pos g0]
    have e0 : ((w :: ws).map rwd).getD 0 (false, [], ()) = rwd w := rfl
    rw [e0, eqW, eqW, eqW]
    obtain ⟨t, q, u⟩ := w
    cases q with
    | true => rfl
    | false =>
      unfold fateR
      have hN : nextS ((t, false, u) :: ws) false = some (t, (ws, ())) := rfl
      rw [hN, Option.bind_some]
      simp only [Bool.not_false, Bool.true_and, bnd_eq, if_true]
      unfold kindF
      have ihr := fun (r : List Wd) (acc : List Fate) (h1 : r.length < m) (h2 : ∀ w ∈ r, WOk w) (h3 : acc.length + r.length ≤ 4294967295) => rfates_l0 K m r acc h1 h2 h3
      by_cases c1 : (t == [108, 111, 115, 116]) = true
      · rw [if_pos c1, if_pos c1, Option.bind_some]
        rcases ws with _ | ⟨a, _ | ⟨b, r⟩⟩
        · rfl
        · obtain ⟨ta, qa, ua⟩ := a
          cases qa <;> rfl
        · have wa := hw a (by simp)
          have wb' := hw b (by simp)
          have hlen : ((((t, false, u) :: a :: b :: r).map rwd).length : Int) = (r.length : Int) + 3 := by simp; omega
          have d1 : ¬ decide (((((t, false, u) :: a :: b :: r).map rwd).length : Int) < 3) = true := by rw [decide_eq_true_eq]; omega
          have d2 : (0 : Int) ≤ 1 ∧ (1 : Int) ≤ 3 ∧ (3 : Int) ≤ ((((t, false, u) :: a :: b :: r).map rwd).length : Int) := ⟨by decide, by decide, by omega⟩
          have d3 : (0 : Int) ≤ (0 : Int) ∧ (0 : Int) ≤ IntKind.wrap .i64 (3 - 1) ∧ IntKind.wrap .i64 (3 - 1) ≤ (List.length [113, 110, 113] : Int) := by decide
          have d4 : (0 : Int) ≤ 1 ∧ (1 : Int) < ((((t, false, u) :: a :: b :: r).map rwd).length : Int) := ⟨by decide, by omega⟩
          have d5 : (0 : Int) ≤ 2 ∧ (2 : Int) < ((((t, false, u) :: a :: b :: r).map rwd).length : Int) := ⟨by decide, by omega⟩
          have d6 : (0 : Int) ≤ 3 ∧ (3 : Int) ≤ ((((t, false, u) :: a :: b :: r).map rwd).length : Int) ∧ ((((t, false, u) :: a :: b :: r).map rwd).length : Int) ≤ ((((t, false, u) :: a :: b :: r).map rwd).length : Int) := ⟨by decide, by omega, by omega⟩
          have hk : escrowref25_like (List.drop 1 (List.take (Int.toNat 3) (((t, false, u) :: a :: b :: r).map rwd))) (List.drop 0 (List.take (Int.toNat (IntKind.wrap .i64 (3 - 1))) [113, 110, 113])) = some (likeS [a, b] [113, 110]) := like_r [a, b] (fun x hx => hw x (by simp only [List.mem_cons, List.not_mem_nil, or_false] at hx ⊢; rcases hx with h | h <;> simp [h])) [113, 110] (by simp)
          have dr : List.drop (Int.toNat 3) (List.take (Int.toNat ((((t, false, u) :: a :: b :: r).map rwd).length : Int)) (((t, false, u) :: a :: b :: r).map rwd)) = r.map rwd := by rw [Int.toNat_natCast, List.take_length]; rfl
          have e2 : (((t, false, u) :: a :: b :: r).map rwd).getD 2 (false, [], ()) = rwd b := rfl
          have e1 : (((t, false, u) :: a :: b :: r).map rwd).getD 1 (false, [], ()) = rwd a := rfl
          rw [if_neg d1, if_pos d2, if_pos d3, hk, bind_eq, numR_next]
          have hl : likeS [a, b] [113, 110] = (a.2.1 && (numW b).isSome) := by simp [likeS, sortW]
          rw [hl]
          obtain ⟨ta, qa, ua⟩ := a
          cases qa with
          | false => rfl
          | true =>
            cases hnb : numW b with
            | none => rfl
            | some n =>
              simp only [Option.isSome_some, Bool.and_self, Bool.not_true, Bool.false_eq_true, if_false]
              rw [if_pos d4, if_pos d5, e2, num_is wb' hnb, bind_eq, if_neg (by decide), if_pos (by simp only [List.length_cons, List.length_nil]; omega), if_pos d6, dr, e1, ihr r _ (by simp at hm; omega) (fun x hx => hw x (by simp [hx])) (by simp at hacc ⊢; omega)]
              simp (decide := true) only [Option.map_some, Option.bind_some, if_true, if_false]
              cases fatesF m r with
              | none => rfl
              | some l => simp [rwd]
      rw [if_neg c1, if_neg c1]
      by_cases c2 : (t == [107, 101, 112, 116]) = true
      · rw [if_pos c2, if_pos c2, Option.bind_some]
        rcases ws with _ | ⟨a, _ | ⟨b, r⟩⟩
        · rfl
        · obtain ⟨ta, qa, ua⟩ := a
          cases qa <;> rfl
        · have wa := hw a (by simp)
          have wb' := hw b (by simp)
          have hlen : ((((t, false, u) :: a :: b :: r).map rwd).length : Int) = (r.length : Int) + 3 := by simp; omega
          have d1 : ¬ decide (((((t, false, u) :: a :: b :: r).map rwd).length : Int) < 3) = true := by rw [decide_eq_true_eq]; omega
          have d2 : (0 : Int) ≤ 1 ∧ (1 : Int) ≤ 3 ∧ (3 : Int) ≤ ((((t, false, u) :: a :: b :: r).map rwd).length : Int) := ⟨by decide, by decide, by omega⟩
          have d3 : (0 : Int) ≤ (0 : Int) ∧ (0 : Int) ≤ IntKind.wrap .i64 (3 - 1) ∧ IntKind.wrap .i64 (3 - 1) ≤ (List.length [113, 110, 113] : Int) := by decide
          have d4 : (0 : Int) ≤ 1 ∧ (1 : Int) < ((((t, false, u) :: a :: b :: r).map rwd).length : Int) := ⟨by decide, by omega⟩
          have d5 : (0 : Int) ≤ 2 ∧ (2 : Int) < ((((t, false, u) :: a :: b :: r).map rwd).length : Int) := ⟨by decide, by omega⟩
          have d6 : (0 : Int) ≤ 3 ∧ (3 : Int) ≤ ((((t, false, u) :: a :: b :: r).map rwd).length : Int) ∧ ((((t, false, u) :: a :: b :: r).map rwd).length : Int) ≤ ((((t, false, u) :: a :: b :: r).map rwd).length : Int) := ⟨by decide, by omega, by omega⟩
          have hk : escrowref25_like (List.drop 1 (List.take (Int.toNat 3) (((t, false, u) :: a :: b :: r).map rwd))) (List.drop 0 (List.take (Int.toNat (IntKind.wrap .i64 (3 - 1))) [113, 110, 113])) = some (likeS [a, b] [113, 110]) := like_r [a, b] (fun x hx => hw x (by simp only [List.mem_cons, List.not_mem_nil, or_false] at hx ⊢; rcases hx with h | h <;> simp [h])) [113, 110] (by simp)
          have dr : List.drop (Int.toNat 3) (List.take (Int.toNat ((((t, false, u) :: a :: b :: r).map rwd).length : Int)) (((t, false, u) :: a :: b :: r).map rwd)) = r.map rwd := by rw [Int.toNat_natCast, List.take_length]; rfl
          have e2 : (((t, false, u) :: a :: b :: r).map rwd).getD 2 (false, [], ()) = rwd b := rfl
          have e1 : (((t, false, u) :: a :: b :: r).map rwd).getD 1 (false, [], ()) = rwd a := rfl
          rw [if_neg d1, if_pos d2, if_pos d3, hk, bind_eq, numR_next]
          have hl : likeS [a, b] [113, 110] = (a.2.1 && (numW b).isSome) := by simp [likeS, sortW]
          rw [hl]
          obtain ⟨ta, qa, ua⟩ := a
          cases qa with
          | false => rfl
          | true =>
            cases hnb : numW b with
            | none => rfl
            | some n =>
              simp only [Option.isSome_some, Bool.and_self, Bool.not_true, Bool.false_eq_true, if_false]
              rw [if_pos d4, if_pos d5, e2, num_is wb' hnb, bind_eq, if_neg (by decide), if_pos (by simp only [List.length_cons, List.length_nil]; omega), if_pos d6, dr, e1, ihr r _ (by simp at hm; omega) (fun x hx => hw x (by simp [hx])) (by simp at hacc ⊢; omega)]
              simp (decide := true) only [Option.map_some, Option.bind_some, if_true, if_false]
              cases fatesF m r with
              | none => rfl
              | some l => simp [rwd]
      rw [if_neg c2, if_neg c2]
      by_cases c3 : (t == [114, 101, 112, 108, 97, 99, 101]) = true
      · rw [if_pos c3, if_pos c3, Option.bind_some]
        rcases ws with _ | ⟨a, _ | ⟨b, _ | ⟨d, r⟩⟩⟩
        · rfl
        · obtain ⟨ta, qa, ua⟩ := a
          cases qa <;> rfl
        · have d1 : decide (((((t, false, u) :: a :: [b]).map rwd).length : Int) < 4) = true := rfl
          rw [if_pos d1, numR_next]
          obtain ⟨ta, qa, ua⟩ := a
          cases qa with
          | false => rfl
          | true => cases numW b <;> rfl
        · have wb' := hw b (by simp)
          have hlen : ((((t, false, u) :: a :: b :: d :: r).map rwd).length : Int) = (r.length : Int) + 4 := by simp; omega
          have d1 : ¬ decide (((((t, false, u) :: a :: b :: d :: r).map rwd).length : Int) < 4) = true := by rw [decide_eq_true_eq]; omega
          have d2 : (0 : Int) ≤ 1 ∧ (1 : Int) ≤ 4 ∧ (4 : Int) ≤ ((((t, false, u) :: a :: b :: d :: r).map rwd).length : Int) := ⟨by decide, by decide, by omega⟩
          have d3 : (0 : Int) ≤ (0 : Int) ∧ (0 : Int) ≤ IntKind.wrap .i64 (4 - 1) ∧ IntKind.wrap .i64 (4 - 1) ≤ (List.length [113, 110, 113] : Int) := by decide
          have d4 : (0 : Int) ≤ 1 ∧ (1 : Int) < ((((t, false, u) :: a :: b :: d :: r).map rwd).length : Int) := ⟨by decide, by omega⟩
          have d5 : (0 : Int) ≤ 2 ∧ (2 : Int) < ((((t, false, u) :: a :: b :: d :: r).map rwd).length : Int) := ⟨by decide, by omega⟩
          have d7 : (0 : Int) ≤ 3 ∧ (3 : Int) < ((((t, false, u) :: a :: b :: d :: r).map rwd).length : Int) := ⟨by decide, by omega⟩
          have d6 : (0 : Int) ≤ 4 ∧ (4 : Int) ≤ ((((t, false, u) :: a :: b :: d :: r).map rwd).length : Int) ∧ ((((t, false, u) :: a :: b :: d :: r).map rwd).length : Int) ≤ ((((t, false, u) :: a :: b :: d :: r).map rwd).length : Int) := ⟨by decide, by omega, by omega⟩
          have hk : escrowref25_like (List.drop 1 (List.take (Int.toNat 4) (((t, false, u) :: a :: b :: d :: r).map rwd))) (List.drop 0 (List.take (Int.toNat (IntKind.wrap .i64 (4 - 1))) [113, 110, 113])) = some (likeS [a, b, d] [113, 110, 113]) := like_r [a, b, d] (fun x hx => hw x (by simp only [List.mem_cons, List.not_mem_nil, or_false] at hx ⊢; rcases hx with h | h | h <;> simp [h])) [113, 110, 113] (by simp)
          have dr : List.drop (Int.toNat 4) (List.take (Int.toNat ((((t, false, u) :: a :: b :: d :: r).map rwd).length : Int)) (((t, false, u) :: a :: b :: d :: r).map rwd)) = r.map rwd := by rw [Int.toNat_natCast, List.take_length]; rfl
          have e3 : (((t, false, u) :: a :: b :: d :: r).map rwd).getD 3 (false, [], ()) = rwd d := rfl
          have e2 : (((t, false, u) :: a :: b :: d :: r).map rwd).getD 2 (false, [], ()) = rwd b := rfl
          have e1 : (((t, false, u) :: a :: b :: d :: r).map rwd).getD 1 (false, [], ()) = rwd a := rfl
          rw [if_neg d1, if_pos d2, if_pos d3, hk, bind_eq, numR_next]
          have hl : likeS [a, b, d] [113, 110, 113] = (a.2.1 && ((numW b).isSome && d.2.1)) := by simp [likeS, sortW]
          rw [hl]
          obtain ⟨ta, qa, ua⟩ := a
          obtain ⟨td, qd, ud⟩ := d
          cases qa with
          | false => rfl
          | true =>
            cases hnb : numW b with
            | none => rfl
            | some n =>
              cases qd with
              | false => rfl
              | true =>
                simp only [Option.isSome_some, Bool.and_self, Bool.not_true, Bool.false_eq_true, if_false]
                rw [if_pos d4, if_pos d5, e2, num_is wb' hnb, bind_eq, if_pos (by decide), if_pos d7, if_pos (by simp only [List.length_cons, List.length_nil]; omega), if_pos d6, dr, e1, e3, ihr r _ (by simp at hm; omega) (fun x hx => hw x (by simp [hx])) (by simp at hacc ⊢; omega)]
                have hq : nextS ((td, true, ud) :: r) true = some (td, (r, ())) := rfl
                simp (decide := true) only [Option.map_some, Option.bind_some, if_true, hq]
                cases fatesF m r with
                | none => rfl
                | some l => simp [rwd]
      rw [if_neg c3, if_neg c3]
      rfl
end Sx
namespace Sx
open Go Go.RowKit

theorem bindN {α β : Type} (o : Option α) : (o.bind fun _ => (none : Option β)) = none := by cases o <;> rfl
theorem numR_b {α : Type} (w : Wd) (r : List Wd) (F : Int × Rd → Option α) : (numR (w :: r)).bind F = (numW w).bind fun n => F (n, (r, ())) := by
  rw [numR_cons]; cases numW w <;> rfl
theorem hashR_b {α : Type} (w : Wd) (r : List Wd) (F : List Int × Rd → Option α) : (hashR (w :: r)).bind F = (hashW w).bind fun n => F (n, (r, ())) := by
  rw [hashR_cons]; cases hashW w <;> rfl
theorem quote_b {α : Type} (w : Wd) (r : List Wd) (F : List Int × Rd → Option α) : (nextS (w :: r) true).bind F = if w.2.1 = true then F (w.1, (r, ())) else none := by
  obtain ⟨t, q, u⟩ := w; cases q <;> rfl
theorem numR_n : numR [] = none := rfl
theorem hashR_n : hashR [] = none := rfl

/-! ### the words behind a name -/
noncomputable def nhW : List Wd → Option (Int × List Int)
  | [a, b] => (numW a).bind fun n => (hashW b).map fun h => (n, h)
  | _ => none
noncomputable def nqW : List Wd → Option (Int × List Int)
  | [a, b] => (numW a).bind fun n => if b.2.1 = true then some (n, b.1) else none
  | _ => none
def qW : List Wd → Option (List Int)
  | [a] => if a.2.1 = true then some a.1 else none
  | _ => none
noncomputable def nW : List Wd → Option Int
  | [a] => numW a
  | _ => none
theorem nhW2 (a b : Wd) : nhW [a, b] = (numW a).bind fun n => (hashW b).map fun h => (n, h) := rfl
theorem nqW2 (a b : Wd) : nqW [a, b] = (numW a).bind fun n => if b.2.1 = true then some (n, b.1) else none := rfl
theorem qW1 (a : Wd) : qW [a] = if a.2.1 = true then some a.1 else none := rfl
theorem nW1 (a : Wd) : nW [a] = numW a := rfl
theorem nh_eq {α : Type} (r : List Wd) (F : Int → List Int → α) : ((numR r).bind fun r3 => (hashR r3.2.1).bind fun r4 => if r4.2.1 = [] then some (F r3.1 r4.1) else none) = (nhW r).map fun p => F p.1 p.2 := by
  rcases r with _ | ⟨a, _ | ⟨b, _ | ⟨c, r⟩⟩⟩
  · rfl
  · rw [numR_b]; simp only [hashR_n, Option.bind_none, bindN]; rfl
  · rw [numR_b]; simp only [hashR_b, if_true]; rw [nhW2]; cases numW a <;> (try rfl); cases hashW b <;> rfl
  · rw [numR_b]; simp only [hashR_b]; simp only [List.cons_ne_nil, reduceCtorEq, if_false, bindN]; rfl
theorem nq_eq {α : Type} (r : List Wd) (F : Int → List Int → α) : ((numR r).bind fun r3 => (nextS r3.2.1 true).bind fun r4 => if r4.2.1 = [] then some (F r3.1 r4.1) else none) = (nqW r).map fun p => F p.1 p.2 := by
  rcases r with _ | ⟨a, _ | ⟨b, _ | ⟨c, r⟩⟩⟩
  · rfl
  · rw [numR_b]
    have : ∀ n : Int, ((nextS (n, (([] : List Wd), ())).2.1 true).bind fun (r4 : List Int × Rd) => if r4.2.1 = [] then some (F (n, (([] : List Wd), ())).1 r4.1) else none) = none := fun _ => rfl
    simp only [this, bindN]; rfl
  · rw [numR_b]; simp only [quote_b, if_true]; rw [nqW2]; cases numW a <;> (try rfl); obtain ⟨t, q, u⟩ := b; cases q <;> rfl
  · rw [numR_b]; simp only [quote_b]; simp only [List.cons_ne_nil, reduceCtorEq, if_false, ite_self, bindN]; rfl
theorem q_eq {α : Type} (r : List Wd) (F : List Int → α) : ((nextS r true).bind fun r4 => if r4.2.1 = [] then some (F r4.1) else none) = (qW r).map fun p => F p := by
  rcases r with _ | ⟨b, _ | ⟨c, r⟩⟩
  · rfl
  · rw [quote_b, qW1]; obtain ⟨t, q, u⟩ := b; cases q <;> rfl
  · rw [quote_b]; simp only [List.cons_ne_nil, reduceCtorEq, if_false, ite_self]; rfl
theorem n_eq {α : Type} (r : List Wd) (F : Int → α) : ((numR r).bind fun r4 => if r4.2.1 = [] then some (F r4.1) else none) = (nW r).map fun p => F p := by
  rcases r with _ | ⟨b, _ | ⟨c, r⟩⟩
  · rfl
  · rw [numR_b, nW1]; cases numW b <;> rfl
  · rw [numR_b]; simp only [List.cons_ne_nil, reduceCtorEq, if_false, bindN]; rfl
theorem nh_like (r : List Wd) : likeS r [110, 104] = (nhW r).isSome := by
  rcases r with _ | ⟨a, _ | ⟨b, _ | ⟨c, r⟩⟩⟩
  · rfl
  · simp [likeS, nhW]
  · rw [nhW2]
    simp only [likeS, sortW, Bool.and_true, if_true]
    rw [if_neg (by decide)]
    cases numW a <;> cases hashW b <;> rfl
  · simp [likeS, nhW]
theorem nq_like (r : List Wd) : likeS r [110, 113] = (nqW r).isSome := by
  rcases r with _ | ⟨a, _ | ⟨b, _ | ⟨c, r⟩⟩⟩
  · rfl
  · simp [likeS, nqW]
  · rw [nqW2]
    simp only [likeS, sortW, Bool.and_true, if_true]
    rw [if_neg (by decide), if_neg (by decide)]
    obtain ⟨t, q, u⟩ := b
    cases numW a <;> cases q <;> rfl
  · simp [likeS, nqW]
theorem q_like (r : List Wd) : likeS r [113] = (qW r).isSome := by
  rcases r with _ | ⟨b, _ | ⟨c, r⟩⟩
  · rfl
  · rw [qW1]
    simp only [likeS, sortW, Bool.and_true]
    rw [if_neg (by decide), if_neg (by decide)]
    obtain ⟨t, q, u⟩ := b
    cases q <;> rfl
  · simp [likeS, qW]
theorem n_like (r : List Wd) : likeS r [110] = (nW r).isSome := by
  rcases r with _ | ⟨b, _ | ⟨c, r⟩⟩
  · rfl
  · rw [nW1]
    simp only [likeS, sortW, Bool.and_true, if_true]
  · simp [likeS, nW]
theorem nh_some {r : List Wd} {n : Int} {h : List Int} (e : nhW r = some (n, h)) : ∃ a b, r = [a, b] ∧ numW a = some n ∧ hashW b = some h := by
  rcases r with _ | ⟨a, _ | ⟨b, _ | ⟨c, r⟩⟩⟩
  · cases e
  · cases e
  · rw [nhW2] at e
    obtain ⟨n', h1, e⟩ := Option.bind_eq_some_iff.1 e
    obtain ⟨h', h2, e⟩ := Option.map_eq_some_iff.1 e
    cases e
    exact ⟨a, b, rfl, h1, h2⟩
  · cases e
theorem nq_some {r : List Wd} {n : Int} {h : List Int} (e : nqW r = some (n, h)) : ∃ a b, r = [a, b] ∧ numW a = some n ∧ b.1 = h := by
  rcases r with _ | ⟨a, _ | ⟨b, _ | ⟨c, r⟩⟩⟩
  · cases e
  · cases e
  · rw [nqW2] at e
    obtain ⟨n', h1, e⟩ := Option.bind_eq_some_iff.1 e
    split at e
    · cases e; exact ⟨a, b, rfl, h1, rfl⟩
    · cases e
  · cases e
theorem q_some {r : List Wd} {h : List Int} (e : qW r = some h) : ∃ b, r = [b] ∧ b.1 = h := by
  rcases r with _ | ⟨b, _ | ⟨c, r⟩⟩
  · cases e
  · rw [qW1] at e
    split at e
    · cases e; exact ⟨b, rfl, rfl⟩
    · cases e
  · cases e
theorem n_some {r : List Wd} {n : Int} (e : nW r = some n) : ∃ b, r = [b] ∧ numW b = some n := by
  rcases r with _ | ⟨b, _ | ⟨c, r⟩⟩
  · cases e
  · exact ⟨b, rfl, e⟩
  · cases e

/-! ### steps -/
noncomputable def stepE (ws : List Wd) : Option Step := (stepR ws).bind fun p => if p.2.1 = [] then some p.1 else none
def bareL (t : List Int) : Option Int := if t = [] then none else bareK t
theorem step_loop (A : List RW) (t : List Int) (R : List RW) : escrowref25_step_l0 ((false, t, ()) :: A) R (fun _ => some ((0, 0, 0, 0, z32, [], [], [], ()), false)) (Int.toNat (13 + 1 - 4) + 1) 4 = some (match bareL t with | some k => ((k, 0, 0, 0, z32, [], [], [], ()), ((R.length : Int) == 0)) | none => ((0, 0, 0, 0, z32, [], [], [], ()), false)) := by
  have g : (0 : Int) ≤ 0 ∧ (0 : Int) < ((((false, t, ()) : RW) :: A).length : Int) := ⟨by decide, by rw [List.length_cons]; omega⟩
  have g2 := g.2
  have e : Int.toNat (13 + 1 - 4) + 1 = 11 := rfl
  rw [e]
  simp (decide := true) only [-List.reduceReplicate, escrowref25_step_l0, escrowref25_bare, bnd_eq, bind_eq, true_and, g2, if_true, if_false, List.getD_cons_zero, eqc, IntKind.wrap, IntKind.bits, IntKind.signed]
  unfold bareL bareK
  by_cases h : t = []
  · subst h; rfl
  · simp only [h, if_false]
    repeat' (first | (split <;> try rfl))
theorem rfates_r (ws : List Wd) (hw : ∀ w ∈ ws, WOk w) (hl : ws.length < 4294967290) : ∃ x, escrowref25_fates (ws.map rwd) = some x ∧ Got x (fatesF (ws.length + 1) ws) := by
  unfold escrowref25_fates
  rw [bnd_eq, List.length_map, rfates_l0 _ (ws.length + 1) ws [] (by omega) hw (by simp; omega)]
  cases fatesF (ws.length + 1) ws with
  | none => exact ⟨_, rfl, got_none⟩
  | some l => exact ⟨_, rfl, got_some⟩
theorem bare_kw {t : List Int} (h : t = [111, 102, 102, 101, 114] ∨ t = [115, 101, 116, 116, 108, 101] ∨ t = [114, 101, 102, 117, 115, 101] ∨ t = [116, 97, 107, 101] ∨ t = [97, 114, 109] ∨ t = [102, 97, 108, 108] ∨ t = [99, 114, 97, 115, 104]) : bareL t = none := by
  rcases h with rfl | rfl | rfl | rfl | rfl | rfl | rfl <;> decide
theorem rstepE_r (ws : List Wd) (hw : ∀ w ∈ ws, WOk w) (hl : ws.length < 4294967290) (hne : ∀ w ∈ ws, w.2.1 = false → w.1 ≠ []) : ∃ x, escrowref25_step (ws.map rwd) = some x ∧ Got x (stepE ws) := by
  rcases ws with _ | ⟨w, r⟩
  · exact ⟨_, rfl, got_none⟩
  obtain ⟨t, q, u⟩ := w
  have hr : ∀ w ∈ r, WOk w := fun x hx => hw x (by simp [hx])
  have htne := hne (t, q, u) (by simp)
  simp only [List.length_cons] at hl
  have d0 : ¬ (((((t, q, u) :: r).map rwd).length : Int) == 0) = true := by simp; omega
  have g0 : (0 : Int) ≤ 0 ∧ (0 : Int) < ((((t, q, u) :: r).map rwd).length : Int) := ⟨by decide, by rw [List.length_map, List.length_cons]; omega⟩
  have g1 : (0 : Int) ≤ 1 ∧ (1 : Int) ≤ ((((t, q, u) :: r).map rwd).length : Int) ∧ ((((t, q, u) :: r).map rwd).length : Int) ≤ ((((t, q, u) :: r).map rwd).length : Int) := ⟨by decide, by rw [List.length_map, List.length_cons]; omega, by omega⟩
  have e0 : (((t, q, u) :: r).map rwd).getD 0 (false, [], ()) = (q, t, ()) := rfl
  have e1 : List.drop 1 (List.take (Int.toNat ((((t, q, u) :: r).map rwd).length : Int)) (((t, q, u) :: r).map rwd)) = r.map rwd := by rw [Int.toNat_natCast, List.take_length]; rfl
  unfold escrowref25_step
  rw [bnd_eq, bnd_eq, if_neg d0, if_pos g0, e0]
  cases q with
  | true => exact ⟨_, rfl, got_none⟩
  | false =>
    have hN : nextS ((t, false, u) :: r) false = some (t, (r, ())) := rfl
    simp only [-List.reduceReplicate, Bool.false_eq_true, if_false]
    rw [if_pos g1, bnd_eq, e1]
    unfold stepE stepR
    rw [hN, Option.bind_some]
    -- what is read when no form fits
    have loop := step_loop (r.map rwd) t (r.map rwd)
    have none_kw : bareL t = none → escrowref25_step_l0 (((t, false, u) :: r).map rwd) (r.map rwd) (fun _ => some ((0, 0, 0, 0, z32, [], [], [], ()), false)) (Int.toNat (13 + 1 - 4) + 1) 4 = some ((0, 0, 0, 0, z32, [], [], [], ()), false) := by
      intro h
      have := loop
      rw [h] at this
      exact this
    rw [bnd_eq, bnd_eq, if_pos g0]
    by_cases c1 : (t == [111, 102, 102, 101, 114]) = true
    · have ht : t = [111, 102, 102, 101, 114] := beq_iff_eq.1 c1
      rw [if_pos c1, if_pos c1, like_r r hr _ (by omega), bind_eq, nh_like, Option.bind_assoc]
      have := nh_eq r (fun n h => ((1, n, 0, 0, h, [], [], [], ()) : Step))
      simp only [Option.bind_assoc, Option.bind_some] at this ⊢
      rw [this]
      cases hc : nhW r with
      | none => exact ⟨_, none_kw (bare_kw (.inl ht)), got_none⟩
      | some p =>
        obtain ⟨n, h⟩ := p
        obtain ⟨a, b, rfl, ha, hb⟩ := nh_some hc
        have g3 : (0 : Int) ≤ 0 ∧ (0 : Int) < (([a, b].map rwd).length : Int) := by simp
        have g4 : (0 : Int) ≤ 1 ∧ (1 : Int) < (([a, b].map rwd).length : Int) := by simp
        rw [if_pos Option.isSome_some, if_pos g3, if_pos g4]
        have k0 : ([a, b].map rwd).getD 0 (false, [], ()) = rwd a := rfl
        have k1 : ([a, b].map rwd).getD 1 (false, [], ()) = rwd b := rfl
        rw [k0, k1, num_is (hr a (by simp)) ha, bind_eq, sum_is (hr b (by simp)) hb, bind_eq]
        exact ⟨_, rfl, got_some⟩
    rw [if_neg c1, if_neg c1]
    by_cases c2 : (t == [115, 101, 116, 116, 108, 101]) = true
    · have ht : t = [115, 101, 116, 116, 108, 101] := beq_iff_eq.1 c2
      rw [if_pos c2, if_pos c2, like_r r hr _ (by omega), bind_eq, nh_like, Option.bind_assoc]
      have := nh_eq r (fun n h => ((2, 0, n, 0, h, [], [], [], ()) : Step))
      simp only [Option.bind_assoc, Option.bind_some] at this ⊢
      rw [this]
      cases hc : nhW r with
      | none => exact ⟨_, none_kw (bare_kw (.inr (.inl ht))), got_none⟩
      | some p =>
        obtain ⟨n, h⟩ := p
        obtain ⟨a, b, rfl, ha, hb⟩ := nh_some hc
        have g3 : (0 : Int) ≤ 0 ∧ (0 : Int) < (([a, b].map rwd).length : Int) := by simp
        have g4 : (0 : Int) ≤ 1 ∧ (1 : Int) < (([a, b].map rwd).length : Int) := by simp
        rw [if_pos Option.isSome_some, if_pos g3, if_pos g4]
        have k0 : ([a, b].map rwd).getD 0 (false, [], ()) = rwd a := rfl
        have k1 : ([a, b].map rwd).getD 1 (false, [], ()) = rwd b := rfl
        rw [k0, k1, num_is (hr a (by simp)) ha, bind_eq, sum_is (hr b (by simp)) hb, bind_eq]
        exact ⟨_, rfl, got_some⟩
    rw [if_neg c2, if_neg c2]
    by_cases c3 : (t == [114, 101, 102, 117, 115, 101]) = true
    · have ht : t = [114, 101, 102, 117, 115, 101] := beq_iff_eq.1 c3
      rw [if_pos c3, if_pos c3, like_r r hr _ (by omega), bind_eq, nq_like, Option.bind_assoc]
      have := nq_eq r (fun n h => ((3, 0, n, 0, z32, h, [], [], ()) : Step))
      simp only [Option.bind_assoc, Option.bind_some] at this ⊢
      rw [this]
      cases hc : nqW r with
      | none => exact ⟨_, none_kw (bare_kw (.inr (.inr (.inl ht)))), got_none⟩
      | some p =>
        obtain ⟨n, h⟩ := p
        obtain ⟨a, b, rfl, ha, rfl⟩ := nq_some hc
        have g3 : (0 : Int) ≤ 0 ∧ (0 : Int) < (([a, b].map rwd).length : Int) := by simp
        have g4 : (0 : Int) ≤ 1 ∧ (1 : Int) < (([a, b].map rwd).length : Int) := by simp
        rw [if_pos Option.isSome_some, if_pos g3, if_pos g4]
        have k0 : ([a, b].map rwd).getD 0 (false, [], ()) = rwd a := rfl
        rw [k0, num_is (hr a (by simp)) ha, bind_eq]
        exact ⟨_, rfl, got_some⟩
    rw [if_neg c3, if_neg c3]
    by_cases c4 : (t == [116, 97, 107, 101]) = true
    · have ht : t = [116, 97, 107, 101] := beq_iff_eq.1 c4
      rw [if_pos c4, if_pos c4, like_r r hr _ (by omega), bind_eq, q_like, Option.bind_assoc]
      have := q_eq r (fun h => ((8, 0, 0, 0, z32, [], h, [], ()) : Step))
      simp only [Option.bind_some] at this ⊢
      rw [this]
      cases hc : qW r with
      | none => exact ⟨_, none_kw (bare_kw (.inr (.inr (.inr (.inl ht))))), got_none⟩
      | some h =>
        obtain ⟨b, rfl, rfl⟩ := q_some hc
        have g3 : (0 : Int) ≤ 0 ∧ (0 : Int) < (([b].map rwd).length : Int) := by simp
        rw [if_pos Option.isSome_some, if_pos g3]
        exact ⟨_, rfl, got_some⟩
    rw [if_neg c4, if_neg c4]
    by_cases c5 : (t == [97, 114, 109]) = true
    · have ht : t = [97, 114, 109] := beq_iff_eq.1 c5
      rw [if_pos c5, if_pos c5, like_r r hr _ (by omega), bind_eq, n_like, Option.bind_assoc]
      have := n_eq r (fun n => ((10, 0, 0, n, z32, [], [], [], ()) : Step))
      simp only [Option.bind_some] at this ⊢
      rw [this]
      cases hc : nW r with
      | none => exact ⟨_, none_kw (bare_kw (.inr (.inr (.inr (.inr (.inl ht)))))), got_none⟩
      | some n =>
        obtain ⟨b, rfl, hb⟩ := n_some hc
        have g3 : (0 : Int) ≤ 0 ∧ (0 : Int) < (([b].map rwd).length : Int) := by simp
        have k0 : ([b].map rwd).getD 0 (false, [], ()) = rwd b := rfl
        rw [if_pos Option.isSome_some, if_pos g3, k0, num_is (hr b (by simp)) hb, bind_eq]
        exact ⟨_, rfl, got_some⟩
    rw [if_neg c5, if_neg c5]
    by_cases c6 : (t == [102, 97, 108, 108]) = true
    · have ht : t = [102, 97, 108, 108] := beq_iff_eq.1 c6
      rw [if_pos c6, if_pos c6, like_r r hr _ (by omega), bind_eq, n_like, Option.bind_assoc]
      have := n_eq r (fun n => ((11, 0, 0, n, z32, [], [], [], ()) : Step))
      simp only [Option.bind_some] at this ⊢
      rw [this]
      cases hc : nW r with
      | none => exact ⟨_, none_kw (bare_kw (.inr (.inr (.inr (.inr (.inr (.inl ht))))))), got_none⟩
      | some n =>
        obtain ⟨b, rfl, hb⟩ := n_some hc
        have g3 : (0 : Int) ≤ 0 ∧ (0 : Int) < (([b].map rwd).length : Int) := by simp
        have k0 : ([b].map rwd).getD 0 (false, [], ()) = rwd b := rfl
        rw [if_pos Option.isSome_some, if_pos g3, k0, num_is (hr b (by simp)) hb, bind_eq]
        exact ⟨_, rfl, got_some⟩
    rw [if_neg c6, if_neg c6]
    by_cases c7 : (t == [99, 114, 97, 115, 104]) = true
    · have ht : t = [99, 114, 97, 115, 104] := beq_iff_eq.1 c7
      rw [if_pos c7, if_pos c7, bnd_eq, bnd_eq]
      rcases r with _ | ⟨a, r⟩
      · exact ⟨_, none_kw (bare_kw (.inr (.inr (.inr (.inr (.inr (.inr ht))))))), got_none⟩
      · have dp : decide ((((a :: r).map rwd).length : Int) > 0) = true := by simp
        have g3 : (0 : Int) ≤ (0 : Int) ∧ (0 : Int) ≤ 1 ∧ (1 : Int) ≤ (((a :: r).map rwd).length : Int) := ⟨by decide, by decide, by rw [List.length_map, List.length_cons]; omega⟩
        have g4 : (0 : Int) ≤ 1 ∧ (1 : Int) ≤ (((a :: r).map rwd).length : Int) ∧ (((a :: r).map rwd).length : Int) ≤ (((a :: r).map rwd).length : Int) := ⟨by decide, by rw [List.length_map, List.length_cons]; omega, by omega⟩
        have g5 : (0 : Int) ≤ 0 ∧ (0 : Int) < (((a :: r).map rwd).length : Int) := ⟨by decide, by rw [List.length_map, List.length_cons]; omega⟩
        have hk : escrowref25_like (List.drop 0 (List.take 1 ((a :: r).map rwd))) [110] = some (likeS [a] [110]) := like_r [a] (fun x hx => hr x (by simp at hx; simp [hx])) [110] (by simp)
        rw [if_pos dp, if_pos g3, hk, bind_eq, n_like]
        have hna : nW [a] = numW a := rfl
        rw [hna, numR_cons]
        cases hn : numW a with
        | none => exact ⟨_, none_kw (bare_kw (.inr (.inr (.inr (.inr (.inr (.inr ht))))))), got_none⟩
        | some n =>
          have dr : List.drop 1 (List.take (Int.toNat (((a :: r).map rwd).length : Int)) ((a :: r).map rwd)) = r.map rwd := by rw [Int.toNat_natCast, List.take_length]; rfl
          have k0 : ((a :: r).map rwd).getD 0 (false, [], ()) = rwd a := rfl
          obtain ⟨x, f1, f2, f3⟩ := rfates_r r (fun x hx => hr x (by simp [hx])) (by simp at hl; omega)
          simp only [Option.isSome_some, if_true, Option.map_some, Option.bind_some]
          rw [if_pos g4, dr, f1, bind_eq, if_pos g5, k0, num_is (hr a (by simp)) hn, bind_eq]
          unfold fatesR
          cases hF : fatesF (r.length + 1) r with
          | none =>
            rw [hF] at f2
            exact ⟨_, rfl, by simp [f2], fun _ h => by cases h⟩
          | some l =>
            rw [hF] at f2
            refine ⟨_, rfl, by simp [f2], fun s h => ?_⟩
            simp only [Option.map_some, Option.bind_some, if_true, Option.some.injEq] at h
            rw [← h, f3 l hF]
    rw [if_neg c7, if_neg c7]
    have ht0 : t ≠ [] := htne rfl
    have hb : bareL t = bareK t := by unfold bareL; rw [if_neg ht0]
    refine ⟨_, loop, ?_⟩
    rw [hb]
    cases hk : bareK t with
    | none => exact got_none
    | some k =>
      simp only [Option.bind_some, List.length_map]
      rcases r with _ | ⟨a, r⟩
      · exact got_some
      · refine ⟨?_, fun s h => by simp at h⟩
        simp; omega

/-! ### commands -/
theorem rasks_r (t : List Int) : escrowref25_asks t = some (if t = [115, 116, 97, 116, 101] then 4 else if t = [108, 101, 100, 103, 101, 114] then 5 else if t = [109, 97, 114, 107] then 6 else if t = [112, 105, 112, 101] then 7 else if t = [102, 105, 108, 101, 115] then 8 else 0) := by
  unfold escrowref25_asks
  have e : Int.toNat (5 - 0) + 1 = 6 := rfl
  rw [e]
  simp (decide := true) only [escrowref25_asks_l0, bnd_eq, if_true, if_false, eqc, IntKind.wrap, IntKind.bits, IntKind.signed]
  have i0 : Int.toNat 0 = 0 := rfl
  have i1 : ((0 + 1) % 2 ^ 64 : Int).toNat = 1 := by decide
  have i2 : (((0 + 1) % 2 ^ 64 + 1) % 2 ^ 64 : Int).toNat = 2 := by decide
  have i3 : ((((0 + 1) % 2 ^ 64 + 1) % 2 ^ 64 + 1) % 2 ^ 64 : Int).toNat = 3 := by decide
  have i4 : (((((0 + 1) % 2 ^ 64 + 1) % 2 ^ 64 + 1) % 2 ^ 64 + 1) % 2 ^ 64 : Int).toNat = 4 := by decide
  simp only [i0, i1, i2, i3, i4, List.getD_cons_zero, List.getD_cons_succ]
  repeat' (first | (split <;> try rfl))
noncomputable def w8W : List Wd → Option Wld
  | [a, b, c, d, e, f, g, h] => (numW a).bind fun n1 => (numW b).bind fun n2 => (numW c).bind fun n3 => (numW d).bind fun n4 => (hashW e).bind fun h1 => (hashW f).bind fun h2 => (hashW g).bind fun h3 => (hashW h).bind fun h4 => some (n1, n2, [h1, h2], [h3, h4], n3, n4, ())
  | _ => none
theorem w8W8 (a b c d e f g h : Wd) : w8W [a, b, c, d, e, f, g, h] = (numW a).bind fun n1 => (numW b).bind fun n2 => (numW c).bind fun n3 => (numW d).bind fun n4 => (hashW e).bind fun h1 => (hashW f).bind fun h2 => (hashW g).bind fun h3 => (hashW h).bind fun h4 => some (n1, n2, [h1, h2], [h3, h4], n3, n4, ()) := rfl
theorem w8_eq {α : Type} (r : List Wd) (F : Wld → α) : ((numR r).bind fun r4 => (numR r4.2.1).bind fun r5 => (numR r5.2.1).bind fun r6 => (numR r6.2.1).bind fun r7 => (hashR r7.2.1).bind fun r8 => (hashR r8.2.1).bind fun r9 => (hashR r9.2.1).bind fun r10 => (hashR r10.2.1).bind fun r11 => if r11.2.1 = [] then some (F (r4.1, r5.1, [r8.1, r9.1], [r10.1, r11.1], r6.1, r7.1, ())) else none) = (w8W r).map F := by
  rcases r with _ | ⟨a, _ | ⟨b, _ | ⟨c, _ | ⟨d, _ | ⟨e, _ | ⟨f, _ | ⟨g, _ | ⟨h, _ | ⟨i, r⟩⟩⟩⟩⟩⟩⟩⟩⟩
  all_goals simp only [numR_b, hashR_b, numR_n, hashR_n, Option.bind_none, bindN, List.cons_ne_nil, reduceCtorEq, if_false, if_true]
  all_goals try rfl
  rw [w8W8]
  cases numW a <;> (try rfl)
  cases numW b <;> (try rfl)
  cases numW c <;> (try rfl)
  cases numW d <;> (try rfl)
  cases hashW e <;> (try rfl)
  cases hashW f <;> (try rfl)
  cases hashW g <;> (try rfl)
  cases hashW h <;> rfl
theorem w8_like (r : List Wd) : likeS r [110, 110, 110, 110, 104, 104, 104, 104] = (w8W r).isSome := by
  rcases r with _ | ⟨a, _ | ⟨b, _ | ⟨c, _ | ⟨d, _ | ⟨e, _ | ⟨f, _ | ⟨g, _ | ⟨h, _ | ⟨i, r⟩⟩⟩⟩⟩⟩⟩⟩⟩
  all_goals first | (simp [likeS, w8W]; done) | skip
  rw [w8W8]
  have hs : ∀ w, sortW w 104 = (hashW w).isSome := fun w => by unfold sortW; rw [if_neg (by decide), if_pos rfl]
  have ns : ∀ w, sortW w 110 = (numW w).isSome := fun w => by unfold sortW; rw [if_pos rfl]
  simp only [likeS, hs, ns]
  cases numW a <;> (try rfl)
  cases numW b <;> (try rfl)
  cases numW c <;> (try rfl)
  cases numW d <;> (try rfl)
  cases hashW e <;> (try rfl)
  cases hashW f <;> (try rfl)
  cases hashW g <;> (try rfl)
  cases hashW h <;> rfl
theorem w8_some {r : List Wd} {x : Wld} (h : w8W r = some x) : ∃ a b c d e f g i n1 n2 n3 n4 h1 h2 h3 h4, r = [a, b, c, d, e, f, g, i] ∧ numW a = some n1 ∧ numW b = some n2 ∧ numW c = some n3 ∧ numW d = some n4 ∧ hashW e = some h1 ∧ hashW f = some h2 ∧ hashW g = some h3 ∧ hashW i = some h4 ∧ x = (n1, n2, [h1, h2], [h3, h4], n3, n4, ()) := by
  rcases r with _ | ⟨a, _ | ⟨b, _ | ⟨c, _ | ⟨d, _ | ⟨e, _ | ⟨f, _ | ⟨g, _ | ⟨i, _ | ⟨j, r⟩⟩⟩⟩⟩⟩⟩⟩⟩
  all_goals first | (exact absurd h (by intro h; cases h)) | skip
  rw [w8W8] at h
  obtain ⟨n1, k1, h⟩ := Option.bind_eq_some_iff.1 h
  obtain ⟨n2, k2, h⟩ := Option.bind_eq_some_iff.1 h
  obtain ⟨n3, k3, h⟩ := Option.bind_eq_some_iff.1 h
  obtain ⟨n4, k4, h⟩ := Option.bind_eq_some_iff.1 h
  obtain ⟨h1, k5, h⟩ := Option.bind_eq_some_iff.1 h
  obtain ⟨h2, k6, h⟩ := Option.bind_eq_some_iff.1 h
  obtain ⟨h3, k7, h⟩ := Option.bind_eq_some_iff.1 h
  obtain ⟨h4, k8, h⟩ := Option.bind_eq_some_iff.1 h
  cases h
  exact ⟨a, b, c, d, e, f, g, i, n1, n2, n3, n4, h1, h2, h3, h4, rfl, k1, k2, k3, k4, k5, k6, k7, k8, rfl⟩
noncomputable def cmdE (ws : List Wd) : Option Cmd := (cmdR ws).bind fun p => if p.2.1 = [] then some p.1 else none
theorem askK_r (t : List Int) (h : t ≠ []) : askK t = if t = [115, 116, 97, 116, 101] then some 4 else if t = [108, 101, 100, 103, 101, 114] then some 5 else if t = [109, 97, 114, 107] then some 6 else if t = [112, 105, 112, 101] then some 7 else if t = [102, 105, 108, 101, 115] then some 8 else none := by
  unfold askK; rw [if_neg h]
theorem rcmdE_r (w : Wd) (r : List Wd) (hw : ∀ x ∈ w :: r, WOk x) (hl : r.length < 4294967200) (hne : ∀ x ∈ w :: r, x.2.1 = false → x.1 ≠ []) : ∃ x, escrowref25_command ((w :: r).map rwd) = some x ∧ Got x (cmdE (w :: r)) := by
  obtain ⟨t, q, u⟩ := w
  have hr : ∀ w ∈ r, WOk w := fun x hx => hw x (by simp [hx])
  have htne := hne (t, q, u) (by simp)
  have g0 : (0 : Int) ≤ 0 ∧ (0 : Int) < ((((t, q, u) :: r).map rwd).length : Int) := ⟨by decide, by rw [List.length_map, List.length_cons]; omega⟩
  have g1 : (0 : Int) ≤ 1 ∧ (1 : Int) ≤ ((((t, q, u) :: r).map rwd).length : Int) ∧ ((((t, q, u) :: r).map rwd).length : Int) ≤ ((((t, q, u) :: r).map rwd).length : Int) := ⟨by decide, by rw [List.length_map, List.length_cons]; omega, by omega⟩
  have e0 : (((t, q, u) :: r).map rwd).getD 0 (false, [], ()) = (q, t, ()) := rfl
  have e1 : List.drop 1 (List.take (Int.toNat ((((t, q, u) :: r).map rwd).length : Int)) (((t, q, u) :: r).map rwd)) = r.map rwd := by rw [Int.toNat_natCast, List.take_length]; rfl
  unfold escrowref25_command
  rw [if_pos g0, e0]
  cases q with
  | true => exact ⟨_, rfl, got_none⟩
  | false =>
    have hN : nextS ((t, false, u) :: r) false = some (t, (r, ())) := rfl
    rw [if_neg (show ¬ ((false, t, ()) : RW).1 = true from Bool.false_ne_true), if_pos g0, bnd_eq, if_pos g1, bnd_eq, e1]
    unfold cmdE cmdR
    rw [hN, Option.bind_some]
    by_cases c1 : (t == [119, 111, 114, 108, 100]) = true
    · rw [if_pos c1, if_pos c1, like_r r hr _ (by omega), bind_eq, w8_like]
      have := w8_eq r (fun x => ((1, x, (0, 0, zStep, ()), 0, 0, ()) : Cmd))
      simp only [Option.bind_assoc, Option.bind_some] at this ⊢
      rw [this]
      cases hc : w8W r with
      | none => exact ⟨_, rfl, got_none⟩
      | some x =>
        obtain ⟨a, b, c, d, e, f, g, i, n1, n2, n3, n4, h1, h2, h3, h4, rfl, k1, k2, k3, k4, k5, k6, k7, k8, rfl⟩ := w8_some hc
        rw [if_neg (show ¬ (!Option.isSome (some _)) = true from Bool.false_ne_true)]
        rw [if_pos (show (0 : Int) ≤ 0 ∧ (0 : Int) < (([a, b, c, d, e, f, g, i].map rwd).length : Int) by simp), if_pos (show (0 : Int) ≤ 1 ∧ (1 : Int) < (([a, b, c, d, e, f, g, i].map rwd).length : Int) by simp), if_pos (show (0 : Int) ≤ 2 ∧ (2 : Int) < (([a, b, c, d, e, f, g, i].map rwd).length : Int) by simp), if_pos (show (0 : Int) ≤ 3 ∧ (3 : Int) < (([a, b, c, d, e, f, g, i].map rwd).length : Int) by simp)]
        rw [show ([a, b, c, d, e, f, g, i].map rwd).getD 0 (false, [], ()) = rwd a from rfl, show ([a, b, c, d, e, f, g, i].map rwd).getD 1 (false, [], ()) = rwd b from rfl, show ([a, b, c, d, e, f, g, i].map rwd).getD 2 (false, [], ()) = rwd c from rfl, show ([a, b, c, d, e, f, g, i].map rwd).getD 3 (false, [], ()) = rwd d from rfl]
        rw [num_is (hr a (by simp)) k1, bind_eq, num_is (hr b (by simp)) k2, bind_eq, num_is (hr c (by simp)) k3, bind_eq, num_is (hr d (by simp)) k4, bind_eq]
        rw [if_pos (show (0 : Int) ≤ 4 ∧ (4 : Int) < (([a, b, c, d, e, f, g, i].map rwd).length : Int) by simp), if_pos (show (0 : Int) ≤ 5 ∧ (5 : Int) < (([a, b, c, d, e, f, g, i].map rwd).length : Int) by simp)]
        rw [show ([a, b, c, d, e, f, g, i].map rwd).getD 4 (false, [], ()) = rwd e from rfl, show ([a, b, c, d, e, f, g, i].map rwd).getD 5 (false, [], ()) = rwd f from rfl]
        rw [sum_is (hr e (by simp)) k5, bind_eq, sum_is (hr f (by simp)) k6, bind_eq]
        rw [if_pos (show (0 : Int) ≤ 6 ∧ (6 : Int) < (([a, b, c, d, e, f, g, i].map rwd).length : Int) by simp), if_pos (show (0 : Int) ≤ 7 ∧ (7 : Int) < (([a, b, c, d, e, f, g, i].map rwd).length : Int) by simp)]
        rw [show ([a, b, c, d, e, f, g, i].map rwd).getD 6 (false, [], ()) = rwd g from rfl, show ([a, b, c, d, e, f, g, i].map rwd).getD 7 (false, [], ()) = rwd i from rfl]
        rw [sum_is (hr g (by simp)) k7, bind_eq, sum_is (hr i (by simp)) k8, bind_eq]
        exact ⟨_, rfl, got_some⟩
    rw [if_neg c1, if_neg c1]
    by_cases c2 : (t == [115, 116, 101, 112]) = true
    · rw [if_pos c2, if_pos c2, bnd_eq, bnd_eq]
      rcases r with _ | ⟨a, r⟩
      · exact ⟨_, rfl, got_none⟩
      · have dp : ¬ ((((a :: r).map rwd).length : Int) == 0) = true := by simp; omega
        have g3 : (0 : Int) ≤ (0 : Int) ∧ (0 : Int) ≤ 1 ∧ (1 : Int) ≤ (((a :: r).map rwd).length : Int) := ⟨by decide, by decide, by rw [List.length_map, List.length_cons]; omega⟩
        have g4 : (0 : Int) ≤ 1 ∧ (1 : Int) ≤ (((a :: r).map rwd).length : Int) ∧ (((a :: r).map rwd).length : Int) ≤ (((a :: r).map rwd).length : Int) := ⟨by decide, by rw [List.length_map, List.length_cons]; omega, by omega⟩
        have g5 : (0 : Int) ≤ 0 ∧ (0 : Int) < (((a :: r).map rwd).length : Int) := ⟨by decide, by rw [List.length_map, List.length_cons]; omega⟩
        have hk : escrowref25_like (List.drop 0 (List.take 1 ((a :: r).map rwd))) [110] = some (likeS [a] [110]) := like_r [a] (fun x hx => hr x (by simp at hx; simp [hx])) [110] (by simp)
        rw [if_neg dp, if_pos g3, hk, bind_eq, n_like]
        have hna : nW [a] = numW a := rfl
        rw [hna, numR_cons]
        cases hn : numW a with
        | none => exact ⟨_, rfl, got_none⟩
        | some n =>
          have dr : List.drop 1 (List.take (Int.toNat (((a :: r).map rwd).length : Int)) ((a :: r).map rwd)) = r.map rwd := by rw [Int.toNat_natCast, List.take_length]; rfl
          have k0 : ((a :: r).map rwd).getD 0 (false, [], ()) = rwd a := rfl
          obtain ⟨x, f1, f2, f3⟩ := rstepE_r r (fun x hx => hr x (by simp [hx])) (by simp at hl; omega) (fun x hx => hne x (by simp [hx]))
          simp only [-List.reduceReplicate, Option.isSome_some, Bool.not_true, Bool.false_eq_true, if_false]
          rw [if_pos g4, dr, f1, bind_eq, if_pos g5, k0, num_is (hr a (by simp)) hn, bind_eq]
          have hE : (((some n).map fun n => (n, (r, ()))).bind fun r12 : Int × Rd => (stepR r12.2.1).bind fun r13 => some (((2, zWld, (1, r12.1, r13.1, ()), 0, 0, ()) : Cmd), r13.2)).bind (fun p => if p.2.1 = [] then some p.1 else none) = (stepE r).map fun s => ((2, zWld, (1, n, s, ()), 0, 0, ()) : Cmd) := by
            unfold stepE
            simp only [Option.map_some, Option.bind_some]
            cases stepR r with
            | none => rfl
            | some p =>
              simp only [Option.bind_some]
              by_cases hp : p.2.1 = []
              · rw [if_pos hp, if_pos hp]; rfl
              · rw [if_neg hp, if_neg hp]; rfl
          rw [hE]
          cases hS : stepE r with
          | none => rw [hS] at f2; exact ⟨_, rfl, by simp [f2], fun _ h => by cases h⟩
          | some s =>
            rw [hS] at f2
            exact ⟨_, rfl, by simp [f2], fun c h => by cases h; rw [f3 s hS]⟩
    rw [if_neg c2, if_neg c2]
    have left : ∀ c : Cmd, Got (c, ((((r.map rwd).length : Nat) : Int) == 0)) ((some (c, ((r, ()) : Rd))).bind fun p => if p.2.1 = [] then some p.1 else none) := by
      intro c
      rcases r with _ | ⟨a, r⟩
      · exact got_some
      · refine ⟨?_, fun s h => by simp at h⟩
        simp; omega
    by_cases c3 : (t == [106, 111, 105, 110]) = true
    · rw [if_pos c3, if_pos c3]; exact ⟨_, rfl, left _⟩
    rw [if_neg c3, if_neg c3]
    by_cases c4 : (t == [99, 117, 116]) = true
    · rw [if_pos c4, if_pos c4]; exact ⟨_, rfl, left _⟩
    rw [if_neg c4, if_neg c4]
    -- the words with one number
    by_cases c5 : (t == [106, 111, 105, 110, 101, 100]) = true
    · have ht : t = [106, 111, 105, 110, 101, 100] := beq_iff_eq.1 c5
      rw [if_pos c5]
      have d1 : ¬ (t == [100, 101, 108, 105, 118, 101, 114]) = true := by rw [ht]; decide
      have d2 : ¬ (t == [108, 111, 115, 101]) = true := by rw [ht]; decide
      have d3 : ¬ (t == [113, 117, 105, 101, 116]) = true := by rw [ht]; decide
      rw [if_neg d1, if_neg d2, if_neg d3, if_pos c5]
      exact ⟨_, rfl, left _⟩
    rw [if_neg c5, like_r r hr _ (by omega), bind_eq, n_like]
    have nF : ∀ F : Int → Cmd, ((numR r).bind fun r14 => some (F r14.1, r14.2)).bind (fun p => if p.2.1 = [] then some p.1 else none) = (nW r).map F := by
      intro F
      have := n_eq r F
      rw [← this]
      cases numR r <;> rfl
    have ht0 : t ≠ [] := htne rfl
    have hask : ((askK t).bind fun r17 => (numR r).bind fun r18 => some (((r17, zWld, (0, 0, zStep, ()), 0, r18.1, ()) : Cmd), r18.2)).bind (fun p => if p.2.1 = [] then some p.1 else none) = (askK t).bind fun k => (nW r).map fun n => ((k, zWld, (0, 0, zStep, ()), 0, n, ()) : Cmd) := by
      cases askK t with
      | none => rfl
      | some k => exact nF fun n => (k, zWld, (0, 0, zStep, ()), 0, n, ())
    cases hc : nW r with
    | none =>
      refine ⟨_, rfl, ?_⟩
      by_cases d1 : (t == [100, 101, 108, 105, 118, 101, 114]) = true
      · rw [if_pos d1, nF (fun n => (2, zWld, (4, n, zStep, ()), 0, 0, ())), hc]; exact got_none
      rw [if_neg d1]
      by_cases d2 : (t == [108, 111, 115, 101]) = true
      · rw [if_pos d2, nF (fun n => (2, zWld, (5, n, zStep, ()), 0, 0, ())), hc]; exact got_none
      rw [if_neg d2]
      by_cases d3 : (t == [113, 117, 105, 101, 116]) = true
      · rw [if_pos d3, nF (fun n => (3, zWld, (0, 0, zStep, ()), n, 0, ())), hc]; exact got_none
      rw [if_neg d3, if_neg c5, hask, hc]
      cases askK t <;> exact got_none
    | some n =>
      obtain ⟨b, rfl, hb⟩ := n_some hc
      rw [if_neg (show ¬ (!Option.isSome (some n)) = true from fun h => by cases h), if_pos (show (0 : Int) ≤ 0 ∧ (0 : Int) < (([b].map rwd).length : Int) by simp), show ([b].map rwd).getD 0 (false, [], ()) = rwd b from rfl, num_is (hr b (by simp)) hb, bind_eq]
      by_cases d1 : (t == [100, 101, 108, 105, 118, 101, 114]) = true
      · rw [if_pos d1, if_pos d1, nF (fun n => (2, zWld, (4, n, zStep, ()), 0, 0, ())), hc]; exact ⟨_, rfl, got_some⟩
      rw [if_neg d1, if_neg d1]
      by_cases d2 : (t == [108, 111, 115, 101]) = true
      · rw [if_pos d2, if_pos d2, nF (fun n => (2, zWld, (5, n, zStep, ()), 0, 0, ())), hc]; exact ⟨_, rfl, got_some⟩
      rw [if_neg d2, if_neg d2]
      by_cases d3 : (t == [113, 117, 105, 101, 116]) = true
      · rw [if_pos d3, if_pos d3, nF (fun n => (3, zWld, (0, 0, zStep, ()), n, 0, ())), hc]; exact ⟨_, rfl, got_some⟩
      rw [if_neg d3, if_neg d3, if_neg c5, hask, hc, askK_r t ht0, rasks_r, bind_eq]
      repeat' split
      all_goals first | exact ⟨_, rfl, got_some⟩ | exact ⟨_, rfl, got_none⟩ | skip
      all_goals simp_all
end Sx
namespace Sx
open Go Go.RowKit

/-! ### words that are read hold no quotation mark -/
def Took (ws r : List Wd) : Prop := ∃ p, ws = p ++ r ∧ ∀ w ∈ p, okW w
theorem Took.trans {a b c : List Wd} (h1 : Took a b) (h2 : Took b c) : Took a c := by
  obtain ⟨p, rfl, hp⟩ := h1
  obtain ⟨q, rfl, hq⟩ := h2
  exact ⟨p ++ q, by simp, fun w hw => (List.mem_append.1 hw).elim (hp w) (hq w)⟩
theorem Took.refl (a : List Wd) : Took a a := ⟨[], rfl, fun _ h => by cases h⟩
theorem took_one {w : Wd} {r : List Wd} (h : okW w) : Took (w :: r) r := ⟨[w], rfl, fun x hx => by rw [List.mem_singleton.1 hx]; exact h⟩
theorem took_next {ws : List Wd} {q : Bool} {t : List Int} {r : Rd} (h : nextS ws q = some (t, r)) (ho : q = true ∨ (34 : Int) ∉ t) : Took ws r.1 := by
  cases ws with
  | nil => cases h
  | cons w ws =>
    unfold nextS at h
    simp only at h
    split at h
    · rename_i e
      simp only [Option.some.injEq, Prod.mk.injEq] at h
      obtain ⟨rfl, rfl⟩ := h
      refine took_one fun h => ?_
      rcases ho with ho | ho
      · rw [e, ho] at h; cases h
      · exact ho
    · cases h
theorem took_num {ws : List Wd} {n : Int} {r : Rd} (h : numR ws = some (n, r)) : Took ws r.1 := by
  unfold numR at h
  obtain ⟨⟨t, r2⟩, h1, h2⟩ := Option.bind_eq_some_iff.1 h
  obtain ⟨m, h4, h3⟩ := Option.map_eq_some_iff.1 h2
  simp only [Prod.mk.injEq] at h3
  obtain ⟨rfl, rfl⟩ := h3
  refine took_next h1 (.inr fun hm => ?_)
  have := itoa_all m 34 (by rw [(numS_spec h4).2]; exact hm)
  omega
theorem hexL_34 : ∀ (n : Nat) (t h : List Int), t.length ≤ n → hexL t = some h → (34 : Int) ∉ t
  | _, [], _, _, _ => by simp
  | _, [_], _, _, e => by simp [hexL] at e
  | 0, _ :: _, _, hl, _ => by simp at hl
  | n + 1, a :: b :: r, h, hl, e => by
    unfold hexL at e
    split at e
    · cases e
    · rename_i hab
      obtain ⟨h', h1, rfl⟩ := Option.map_eq_some_iff.1 e
      have := hexL_34 n r h' (by simp at hl; omega) h1
      simp only [List.mem_cons, not_or]
      refine ⟨fun e => hab (.inl (by rw [← e]; decide)), fun e => hab (.inr (by rw [← e]; decide)), this⟩
theorem took_hash {ws : List Wd} {h : List Int} {r : Rd} (e : hashR ws = some (h, r)) : Took ws r.1 := by
  unfold hashR at e
  obtain ⟨⟨t, r2⟩, h1, h2⟩ := Option.bind_eq_some_iff.1 e
  obtain ⟨m, h4, h3⟩ := Option.map_eq_some_iff.1 h2
  simp only [Prod.mk.injEq] at h3
  obtain ⟨rfl, rfl⟩ := h3
  refine took_next h1 (.inr ?_)
  unfold hashS at h4
  split at h4
  · exact hexL_34 _ _ _ (Nat.le_refl _) h4
  · cases h4
theorem kindF_34 {t : List Int} {k : Int} (h : kindF t = some k) : (34 : Int) ∉ t := by
  have := kindF_some h
  unfold fkW at this
  split at this
  · cases this; decide
  split at this
  · cases this; decide
  split at this
  · cases this; decide
  · cases this
theorem took_fate {ws : List Wd} {f : Fate} {r : Rd} (h : fateR ws = some (f, r)) : Took ws r.1 := by
  unfold fateR at h
  obtain ⟨⟨t, r1⟩, h1, h⟩ := Option.bind_eq_some_iff.1 h
  obtain ⟨k, hk, h⟩ := Option.bind_eq_some_iff.1 h
  obtain ⟨⟨f1, r2⟩, h2, h⟩ := Option.bind_eq_some_iff.1 h
  obtain ⟨⟨s1, r3⟩, h3, h⟩ := Option.bind_eq_some_iff.1 h
  have a := ((took_next h1 (.inr (kindF_34 hk))).trans (took_next h2 (.inl rfl))).trans (took_num h3)
  simp only at h
  split at h
  · obtain ⟨⟨b, r5⟩, h4, h⟩ := Option.bind_eq_some_iff.1 h
    simp only [Option.some.injEq, Prod.mk.injEq] at h
    obtain ⟨_, rfl⟩ := h
    exact a.trans (took_next h4 (.inl rfl))
  · simp only [Option.some.injEq, Prod.mk.injEq] at h
    obtain ⟨_, rfl⟩ := h
    exact a
theorem took_fates : ∀ (m : Nat) (ws : List Wd) (l : List Fate), fatesF m ws = some l → Took ws []
  | 0, _, _, h => by cases h
  | m + 1, [], l, h => Took.refl _
  | m + 1, w :: ws, l, h => by
    have e : fatesF (m + 1) (w :: ws) = (fateR (w :: ws)).bind fun p => (fatesF m p.2.1).map fun l => p.1 :: l := rfl
    rw [e] at h
    obtain ⟨⟨f, r⟩, h1, h⟩ := Option.bind_eq_some_iff.1 h
    obtain ⟨l', h2, _⟩ := Option.map_eq_some_iff.1 h
    exact (took_fate h1).trans (took_fates m r.1 l' h2)
theorem bareK_34 {w : List Int} {k : Int} (h : bareK w = some k) : (34 : Int) ∉ w := by
  unfold bareK at h
  repeat' split at h
  all_goals first | (subst_vars; decide) | cases h
theorem askK_34 {w : List Int} {k : Int} (h : askK w = some k) : (34 : Int) ∉ w := by
  unfold askK at h
  repeat' split at h
  all_goals first | (subst_vars; decide) | cases h
theorem kw_34 {t x : List Int} (h : (t == x) = true) (hx : (34 : Int) ∉ x) : (34 : Int) ∉ t := by rw [beq_iff_eq.1 h]; exact hx
theorem took_step {ws : List Wd} {s : Step} {r : Rd} (h : stepR ws = some (s, r)) : Took ws r.1 := by
  unfold stepR at h
  obtain ⟨⟨t, r1⟩, h1, h⟩ := Option.bind_eq_some_iff.1 h
  simp only at h
  split at h
  · rename_i c
    obtain ⟨⟨n, r2⟩, h2, h⟩ := Option.bind_eq_some_iff.1 h
    obtain ⟨⟨x, r3⟩, h3, h⟩ := Option.bind_eq_some_iff.1 h
    simp only [Option.some.injEq, Prod.mk.injEq] at h
    obtain ⟨_, rfl⟩ := h
    exact ((took_next h1 (.inr (kw_34 c (by decide)))).trans (took_num h2)).trans (took_hash h3)
  split at h
  · rename_i c
    obtain ⟨⟨n, r2⟩, h2, h⟩ := Option.bind_eq_some_iff.1 h
    obtain ⟨⟨x, r3⟩, h3, h⟩ := Option.bind_eq_some_iff.1 h
    simp only [Option.some.injEq, Prod.mk.injEq] at h
    obtain ⟨_, rfl⟩ := h
    exact ((took_next h1 (.inr (kw_34 c (by decide)))).trans (took_num h2)).trans (took_hash h3)
  split at h
  · rename_i c
    obtain ⟨⟨n, r2⟩, h2, h⟩ := Option.bind_eq_some_iff.1 h
    obtain ⟨⟨x, r3⟩, h3, h⟩ := Option.bind_eq_some_iff.1 h
    simp only [Option.some.injEq, Prod.mk.injEq] at h
    obtain ⟨_, rfl⟩ := h
    exact ((took_next h1 (.inr (kw_34 c (by decide)))).trans (took_num h2)).trans (took_next h3 (.inl rfl))
  split at h
  · rename_i c
    obtain ⟨⟨x, r3⟩, h3, h⟩ := Option.bind_eq_some_iff.1 h
    simp only [Option.some.injEq, Prod.mk.injEq] at h
    obtain ⟨_, rfl⟩ := h
    exact (took_next h1 (.inr (kw_34 c (by decide)))).trans (took_next h3 (.inl rfl))
  split at h
  · rename_i c
    obtain ⟨⟨n, r2⟩, h2, h⟩ := Option.bind_eq_some_iff.1 h
    simp only [Option.some.injEq, Prod.mk.injEq] at h
    obtain ⟨_, rfl⟩ := h
    exact (took_next h1 (.inr (kw_34 c (by decide)))).trans (took_num h2)
  split at h
  · rename_i c
    obtain ⟨⟨n, r2⟩, h2, h⟩ := Option.bind_eq_some_iff.1 h
    simp only [Option.some.injEq, Prod.mk.injEq] at h
    obtain ⟨_, rfl⟩ := h
    exact (took_next h1 (.inr (kw_34 c (by decide)))).trans (took_num h2)
  split at h
  · rename_i c
    obtain ⟨⟨n, r2⟩, h2, h⟩ := Option.bind_eq_some_iff.1 h
    obtain ⟨⟨x, r3⟩, h3, h⟩ := Option.bind_eq_some_iff.1 h
    simp only [Option.some.injEq, Prod.mk.injEq] at h
    obtain ⟨_, rfl⟩ := h
    unfold fatesR at h3
    obtain ⟨l, h4, h5⟩ := Option.map_eq_some_iff.1 h3
    simp only [Prod.mk.injEq] at h5
    obtain ⟨_, rfl⟩ := h5
    exact ((took_next h1 (.inr (kw_34 c (by decide)))).trans (took_num h2)).trans (took_fates _ _ _ h4)
  · obtain ⟨k, h2, h⟩ := Option.bind_eq_some_iff.1 h
    simp only [Option.some.injEq, Prod.mk.injEq] at h
    obtain ⟨_, rfl⟩ := h
    exact took_next h1 (.inr (bareK_34 h2))
theorem took_cmd {ws : List Wd} {c : Cmd} {r : Rd} (h : cmdR ws = some (c, r)) : Took ws r.1 := by
  unfold cmdR at h
  obtain ⟨⟨t, r1⟩, h1, h⟩ := Option.bind_eq_some_iff.1 h
  simp only at h
  split at h
  · rename_i c
    obtain ⟨⟨n1, r2⟩, g1, h⟩ := Option.bind_eq_some_iff.1 h
    obtain ⟨⟨n2, r3⟩, g2, h⟩ := Option.bind_eq_some_iff.1 h
    obtain ⟨⟨n3, r4⟩, g3, h⟩ := Option.bind_eq_some_iff.1 h
    obtain ⟨⟨n4, r5⟩, g4, h⟩ := Option.bind_eq_some_iff.1 h
    obtain ⟨⟨x1, r6⟩, g5, h⟩ := Option.bind_eq_some_iff.1 h
    obtain ⟨⟨x2, r7⟩, g6, h⟩ := Option.bind_eq_some_iff.1 h
    obtain ⟨⟨x3, r8⟩, g7, h⟩ := Option.bind_eq_some_iff.1 h
    obtain ⟨⟨x4, r9⟩, g8, h⟩ := Option.bind_eq_some_iff.1 h
    simp only [Option.some.injEq, Prod.mk.injEq] at h
    obtain ⟨_, rfl⟩ := h
    exact ((((((((took_next h1 (.inr (kw_34 c (by decide)))).trans (took_num g1)).trans (took_num g2)).trans (took_num g3)).trans (took_num g4)).trans (took_hash g5)).trans (took_hash g6)).trans (took_hash g7)).trans (took_hash g8)
  split at h
  · rename_i c
    obtain ⟨⟨n, r2⟩, h2, h⟩ := Option.bind_eq_some_iff.1 h
    obtain ⟨⟨s, r3⟩, h3, h⟩ := Option.bind_eq_some_iff.1 h
    simp only [Option.some.injEq, Prod.mk.injEq] at h
    obtain ⟨_, rfl⟩ := h
    exact ((took_next h1 (.inr (kw_34 c (by decide)))).trans (took_num h2)).trans (took_step h3)
  split at h
  · rename_i c
    simp only [Option.some.injEq, Prod.mk.injEq] at h
    obtain ⟨_, rfl⟩ := h
    exact took_next h1 (.inr (kw_34 c (by decide)))
  split at h
  · rename_i c
    simp only [Option.some.injEq, Prod.mk.injEq] at h
    obtain ⟨_, rfl⟩ := h
    exact took_next h1 (.inr (kw_34 c (by decide)))
  split at h
  · rename_i c
    obtain ⟨⟨n, r2⟩, h2, h⟩ := Option.bind_eq_some_iff.1 h
    simp only [Option.some.injEq, Prod.mk.injEq] at h
    obtain ⟨_, rfl⟩ := h
    exact (took_next h1 (.inr (kw_34 c (by decide)))).trans (took_num h2)
  split at h
  · rename_i c
    obtain ⟨⟨n, r2⟩, h2, h⟩ := Option.bind_eq_some_iff.1 h
    simp only [Option.some.injEq, Prod.mk.injEq] at h
    obtain ⟨_, rfl⟩ := h
    exact (took_next h1 (.inr (kw_34 c (by decide)))).trans (took_num h2)
  split at h
  · rename_i c
    obtain ⟨⟨n, r2⟩, h2, h⟩ := Option.bind_eq_some_iff.1 h
    simp only [Option.some.injEq, Prod.mk.injEq] at h
    obtain ⟨_, rfl⟩ := h
    exact (took_next h1 (.inr (kw_34 c (by decide)))).trans (took_num h2)
  split at h
  · rename_i c
    simp only [Option.some.injEq, Prod.mk.injEq] at h
    obtain ⟨_, rfl⟩ := h
    exact took_next h1 (.inr (kw_34 c (by decide)))
  · obtain ⟨k, h2, h⟩ := Option.bind_eq_some_iff.1 h
    obtain ⟨⟨n, r2⟩, h3, h⟩ := Option.bind_eq_some_iff.1 h
    simp only [Option.some.injEq, Prod.mk.injEq] at h
    obtain ⟨_, rfl⟩ := h
    exact (took_next h1 (.inr (askK_34 h2))).trans (took_num h3)

/-! ### lines -/
theorem lineS_E (s : List Int) : lineS s = (wrds s).bind cmdE := rfl
theorem line_both (s : List Int) (hs : byteOk s) : (wrdsQ s).bind cmdE = lineS s := by
  rw [lineS_E]
  cases hq : wrdsQ s with
  | some ws => rw [cutQ_to _ s hs ws hq]
  | none =>
    cases hw : wrds s with
    | none => rfl
    | some ws =>
      cases hc : cmdE ws with
      | none => simp [hc]
      | some c =>
        exfalso
        unfold cmdE at hc
        obtain ⟨⟨c', r⟩, h1, h2⟩ := Option.bind_eq_some_iff.1 hc
        split at h2
        · rename_i hr
          obtain ⟨p, rfl, hp⟩ := took_cmd h1
          simp only at hr
          rw [hr, List.append_nil] at hw
          have := cutQ_of (s.length + 2) s hs (by omega) p hw hp
          unfold wrdsQ at hq
          rw [hq] at this; cases this
        · cases h2
theorem rline_r (s : List Int) (hs : byteOk s) (hl : s.length < 4294967000) : ∃ x, escrowref25_words s = some x ∧ x.2 = (wrdsQ s).isSome ∧ ∀ ws, wrdsQ s = some ws → x.1 = ws.map rwd := by
  refine ⟨_, rwords_r s hs hl, ?_⟩
  cases wrdsQ s with
  | none => exact ⟨rfl, fun _ h => by cases h⟩
  | some ws => exact ⟨rfl, fun _ h => by cases h; rfl⟩
theorem rparse_l0 (L : List (List Int)) (hL : L.length < 4294967296) (hb : ∀ s ∈ L, byteOk s ∧ s.length < 4294967000) : ∀ (m i : Nat) (acc : List Cmd), i + m = L.length → acc.length ≤ i →
    escrowref25_Parse_l0 L (fun o5 => some (o5, 0)) (m + 1) ((i : Int), acc) = some (match linesS (L.drop i) with | none => ([], 250) | some l => (acc ++ l, 0))
  | 0, i, acc, h, _ => by
    unfold escrowref25_Parse_l0
    rw [if_neg (by simp; omega), List.drop_eq_nil_of_le (by omega)]
    simp [linesS]
  | m + 1, i, acc, h, ha => by
    unfold escrowref25_Parse_l0
    have hi : i < L.length := by omega
    have g : (0 : Int) ≤ (i : Int) ∧ (i : Int) < (L.length : Int) := ⟨by omega, by omega⟩
    have w : IntKind.wrap .i64 ((i : Int) + 1) = ((i + 1 : Nat) : Int) := by rw [wrap_i64 (by omega) (by omega)]; omega
    have ih := fun acc h => rparse_l0 L hL hb m (i + 1) acc (by omega) h
    rw [if_pos (by simp; omega)]
    simp only [bnd_eq, if_pos g, Int.toNat_natCast, w, if_true]
    rw [drop_consD [] hi, linesS]
    obtain ⟨q1, q2⟩ := hb _ (getD_mem [] hi)
    by_cases h0 : L.getD i [] = []
    · have e : (L.getD i [] == []) = true := by rw [h0]; rfl
      rw [if_pos e, if_pos (show mute (L.getD i []) from .inl h0)]
      exact ih acc (by omega)
    · have e : ¬ (L.getD i [] == []) = true := fun h => h0 (beq_iff_eq.1 h)
      have hpos := List.length_pos_iff.2 h0
      rw [if_neg e, if_pos ⟨by decide, by omega⟩]
      have hh : (L.getD i []).getD 0 0 = (L.getD i []).headD 0 := by cases L.getD i [] <;> rfl
      by_cases h35 : (L.getD i []).headD 0 = 35
      · have e2 : ((L.getD i []).getD 0 0 == 35) = true := by rw [hh, h35]; rfl
        rw [if_pos e2, if_pos (show mute (L.getD i []) from .inr h35)]
        exact ih acc (by omega)
      · have e2 : ¬ ((L.getD i []).getD 0 0 == 35) = true := by rw [hh]; exact fun h => h35 (beq_iff_eq.1 h)
        rw [if_neg e2, if_neg (show ¬ mute (L.getD i []) from fun h => by unfold mute at h; exact h.elim h0 h35)]
        obtain ⟨x, e3, e4, e5⟩ := rline_r _ q1 q2
        rw [e3, bind_eq, e4, ← line_both _ q1]
        cases hq : wrdsQ (L.getD i []) with
        | none => rfl
        | some ws =>
          have hw := cutQ_to _ _ q1 ws hq
          have hok := wrds_WdOk q1 (by omega) hw
          have hne := (wrds_ok _ _ (Nat.le_refl _) q1 ws hw).1
          have hlen := (wrds_ok _ _ (Nat.le_refl _) q1 ws hw).2.1
          rw [e5 ws hq]
          cases ws with
          | nil => exact absurd rfl hne
          | cons w r =>
            obtain ⟨y, f1, f2, f3⟩ := rcmdE_r w r (fun x hx => ⟨(hok.2 x hx).1, (hok.2 x hx).2.1⟩) (by rw [List.length_cons] at hlen; omega) (fun x hx => (hok.2 x hx).2.2)
            simp only [Option.isSome_some, Bool.not_true, Bool.false_eq_true, if_false]
            rw [f1, bind_eq, f2, Option.bind_some]
            cases hc : cmdE (w :: r) with
            | none => rfl
            | some c =>
              rw [f3 c hc]
              simp only [Option.isSome_some, Bool.not_true, Bool.false_eq_true, if_false]
              rw [if_pos (by simp only [List.length_cons, List.length_nil]; omega), ih (acc ++ [c]) (by simp; omega), Option.bind_some]
              cases linesS (L.drop (i + 1)) with
              | none => rfl
              | some l => simp
theorem linesS_last : ∀ (L : List (List Int)), L ≠ [] → L.getLastD [] = [] → linesS L.dropLast = linesS L
  | [], h, _ => absurd rfl h
  | [a], _, h => by
    have : a = [] := h
    subst this
    rfl
  | a :: b :: L, _, h => by
    have ih := linesS_last (b :: L) (by simp) (by rwa [getLastD_cons a [] (by simp)] at h)
    rw [List.dropLast_cons_of_ne_nil (by simp), linesS, linesS, ih]
theorem rparse_eq {t : List Int} (ht : byteOk t) (hl : t.length < 4294967000) : escrowref25_Parse t = some (parseS t) := by
  unfold escrowref25_Parse parseS
  rw [rlong_r t (by omega), bind_eq]
  by_cases h : longS t = true
  · rw [if_pos h, if_pos h]
  · rw [if_neg h, if_neg h, rlines_r t (by omega), bind_eq, bnd_eq]
    have hll := lns_len t
    have hsub : ∀ s ∈ lnsE t, s ∈ lns t := by
      intro s hs
      unfold lnsE at hs
      split at hs
      · exact (List.dropLast_sublist _).subset hs
      · exact hs
    have hE : (lnsE t).length ≤ t.length + 1 := by
      unfold lnsE
      split
      · simp; omega
      · omega
    have e : Int.toNat (((lnsE t).length : Int) - 0) + 1 = (lnsE t).length + 1 := by omega
    have hp := rparse_l0 (lnsE t) (by omega) (fun s hs => ⟨lns_ok ht s (hsub s hs), by have := lns_parts s (hsub s hs); omega⟩) (lnsE t).length 0 [] (by omega) (by simp)
    rw [show ((0 : Nat) : Int) = 0 from rfl, List.drop_zero] at hp
    rw [e, hp]
    have : linesS (lnsE t) = linesS (lns t) := by
      unfold lnsE
      split
      · rename_i h; exact linesS_last _ (lns_ne t) h
      · rfl
    rw [this]
    cases linesS (lns t) <;> rfl
theorem bnd_all {α β : Type} {a : α} {f : α → β} {r : β} (p : α → Prop) (ha : p a) (hf : ∀ x, p x → f x = r) : bnd a f = r := hf a ha
theorem escrowlaw25_ScriptParses_true {B : TypeId → Nat} (a0 : List Int) (h0 : Small B .str a0) (hb : Bulks [.str] (a0, ()) ≤ 1048576) : escrowlaw25_ScriptParses a0 = some true := by
  have hl : a0.length ≤ 1048576 := by
    simp only [Bulks] at hb
    have : Bulk .str a0 = a0.length + 1 := rfl
    omega
  unfold escrowlaw25_ScriptParses
  rw [head_true, bind_eq, if_neg (by decide), parse_eq h0.1, bind_eq, rparse_eq h0.1 (by omega), bind_eq]
  have fl : (parseS a0).1.length ≤ 4294967296 ∧ ∀ c ∈ (parseS a0).1, c.2.2.1.2.2.1.2.2.2.2.2.2.2.1.length ≤ 4294967296 := by
    cases hpr : parseS a0 with
    | mk m ee =>
      rcases parse_canon h0.1 hpr with ⟨_, rfl⟩ | ⟨_, _, h4⟩
      · exact ⟨by simp, fun c hc => by cases hc⟩
      · exact fates_le (n := 4294967296) (show szL m ≤ 4294967296 by omega)
  refine bnd_all (· = true) (by simp) (fun b6 e => ?_); subst e
  refine bnd_all (fun k => k true = some true) rfl (fun k7 hk => ?_)
  rw [if_pos rfl, own_eq fl.1 fl.2, bind_eq, same_self fl.1 fl.2, bind_eq]
  exact hk
end Sx
