/-
  Own work, of several texts. What wraps and shifts of numbers come to.
  Texts cut into lines, words and digits: plain.
  A line's words: plain.
  A number's digits: plain.
  What a line's words say: plain.
  What a text says: plain.
  The examples that every statement asks first.
  Quoted texts: plain.
  What Print writes: plain.
  Print is what the definition says: plain.
  What is printed is read as the same: plain.
  What is read has nothing that its kinds do not name: plain.
  Lists of commands told anew, and compared: plain.
  ScriptBack: plain.
-/
import Derived.Test.YtfdhpfodjaaloaaDoorDefs
import Derived.Test.YtfdhpfodjaaloaaDoorLib2
import Derived.KernelRfl
namespace Sx
open Go

abbrev B32 := BitVec 32
def u (v : B32) : Int := (v.toNat : Int)
theorem wrap_i64 {n : Int} (h0 : -9223372036854775808 ≤ n) (h : n < 9223372036854775808) : IntKind.wrap .i64 n = n := by
  simp [IntKind.wrap, IntKind.bits, IntKind.signed]; omega
end Sx
namespace Sx
open Go Go.RowKit

/-! ### Go's library over texts -/
theorem prefix_eq (a p : List Int) : strings_HasPrefix a p = some (a.take p.length == p && decide (p.length ≤ a.length)) := by
  unfold strings_HasPrefix internal_stringslite_HasPrefix
  simp only [bnd_eq, Option.bind_eq_bind]
  by_cases h : p.length ≤ a.length
  · have h1 : decide ((List.length a : Int) ≥ (List.length p : Int)) = true := by simp; omega
    simp only [h1, if_true]
    rw [if_pos ⟨by omega, by omega, by omega⟩]
    simp [h, bind_eq]
  · have h1 : decide ((List.length a : Int) ≥ (List.length p : Int)) = false := by simp; omega
    simp [h1, h, bind_eq]
theorem trim_eq (a p : List Int) : strings_TrimPrefix a p = some (if a.take p.length == p && decide (p.length ≤ a.length) then a.drop p.length else a) := by
  have h0 : internal_stringslite_HasPrefix a p = some (a.take p.length == p && decide (p.length ≤ a.length)) := by
    have := prefix_eq a p
    unfold strings_HasPrefix at this
    cases h : internal_stringslite_HasPrefix a p with
    | none => rw [h] at this; cases this
    | some x => rw [h, bind_eq] at this; exact this
  unfold strings_TrimPrefix internal_stringslite_TrimPrefix
  rw [h0]
  simp only [bind_eq, bnd_eq]
  by_cases h : (a.take p.length == p && decide (p.length ≤ a.length)) = true
  · rw [if_pos h, if_pos h]
    have hl : p.length ≤ a.length := by simp at h; exact h.2
    rw [if_pos ⟨by omega, by omega, by omega⟩]
    simp [bind_eq]
  · rw [if_neg h, if_neg h]
    simp [bind_eq]

/-- a byte as the library has it -/
def b8 (c : Int) : UInt8 := UInt8.ofNat c.toNat
theorem b8_inj {a b : Int} (ha : 0 ≤ a ∧ a < 256) (hb : 0 ≤ b ∧ b < 256) : (b8 a == b8 b) = (a == b) := by
  rw [Bool.eq_iff_iff]; simp only [beq_iff_eq]
  exact ⟨byte_inj ha hb, fun h => h ▸ rfl⟩
theorem toB_cons (c : Int) (l : List Int) : toB (c :: l) = b8 c :: toB l := rfl
theorem toB_drop (l : List Int) (n : Nat) : (toB l).drop n = toB (l.drop n) := by simp [toB, List.map_drop]
theorem toB_take (l : List Int) (n : Nat) : (toB l).take n = toB (l.take n) := by simp [toB, List.map_take]
theorem byteOk_cons {c : Int} {l : List Int} (h : byteOk (c :: l)) : (0 ≤ c ∧ c < 256) ∧ byteOk l := ⟨h c (by simp), fun x hx => h x (by simp [hx])⟩
theorem byteOk_mk {c : Int} {l : List Int} (h : 0 ≤ c ∧ c < 256) (hl : byteOk l) : byteOk (c :: l) := fun x hx => by
  rcases List.mem_cons.1 hx with rfl | hx
  · exact h
  · exact hl x hx
theorem byteOk_append {a b : List Int} (ha : byteOk a) (hb : byteOk b) : byteOk (a ++ b) := fun x hx => (List.mem_append.1 hx).elim (ha x) (hb x)

/-- where a byte stands first -/
theorem index_one (c : Int) (hc : 0 ≤ c ∧ c < 256) : ∀ (l : List Int), byteOk l → Lib.index (toB l) [b8 c] = if c ∈ l then ((l.takeWhile (· != c)).length : Int) else -1
  | [], _ => by simp [toB, Lib.index]
  | b :: l, h => by
    obtain ⟨hb, hl⟩ := byteOk_cons h
    have ih := index_one c hc l hl
    rw [toB_cons, Lib.index]
    have h1 : List.isPrefixOf [b8 c] (b8 b :: toB l) = (c == b) := by
      simp only [List.isPrefixOf, Bool.and_true]
      exact b8_inj hc hb
    rw [h1, ih]
    by_cases hcb : c = b
    · subst hcb; simp
    · have hbc : ¬ b = c := fun h => hcb h.symm
      have h2 : (c == b) = false := by simpa using hcb
      have h3 : (b != c) = true := by simpa using hbc
      simp only [h2, Bool.false_eq_true, if_false, List.mem_cons, hcb, false_or, List.takeWhile_cons, h3, if_true, List.length_cons]
      by_cases hm : c ∈ l
      · simp only [hm, if_true]
        rw [if_neg (by simp <;> omega)]
        omega
      · simp [hm]

theorem takeWhile_self (c : Int) : ∀ (l : List Int), c ∉ l → l.takeWhile (· != c) = l
  | [], _ => rfl
  | b :: l, h => by
    simp only [List.mem_cons, not_or] at h
    rw [List.takeWhile_cons, if_pos (by simpa using fun e : b = c => h.1 e.symm), takeWhile_self c l h.2]
theorem take_takeWhile (p : Int → Bool) : ∀ (l : List Int), l.take (l.takeWhile p).length = l.takeWhile p
  | [] => rfl
  | b :: l => by
    rw [List.takeWhile_cons]
    split
    · simp [take_takeWhile p l]
    · rfl
theorem drop_takeWhile (p : Int → Bool) : ∀ (l : List Int), l.drop (l.takeWhile p).length = l.dropWhile p
  | [] => rfl
  | b :: l => by
    rw [List.takeWhile_cons, List.dropWhile_cons]
    split
    · simp [drop_takeWhile p l]
    · rfl

/-- strings.Cut at a blank: what stands ahead of it -/
theorem cut_eq (s : List Int) (h : byteOk s) (hl : s.length < 4294967281) : ∃ x, strings_Cut s [32] = some (s.takeWhile (· != 32), x) := by
  unfold strings_Cut
  rw [if_pos hl]
  have hi := index_one 32 ⟨by decide, by decide⟩ s h
  have h32 : toB [32] = [b8 32] := rfl
  rw [h32]
  unfold Lib.cut
  by_cases hm : (32 : Int) ∈ s
  · rw [if_pos hm] at hi
    rw [if_pos (by rw [hi]; omega)]
    have e : ofB ((toB s).take (Lib.index (toB s) [b8 32]).toNat) = s.takeWhile (· != 32) := by
      rw [hi]
      simp only [Int.toNat_natCast]
      rw [toB_take, take_takeWhile, ofB_toB (fun c hc => h c (List.takeWhile_sublist _ |>.subset hc))]
    rw [e]; exact ⟨_, rfl⟩
  · rw [if_neg hm] at hi
    rw [if_neg (by rw [hi]; decide)]
    have e : ofB (toB s) = s.takeWhile (· != 32) := by rw [ofB_toB h, takeWhile_self 32 s hm]
    simp only
    rw [e]; exact ⟨_, rfl⟩

/-! ### lines -/
def lns : List Int → List (List Int)
  | [] => [[]]
  | b :: l => if b = 10 then [] :: lns l else match lns l with
    | [] => [[b]]
    | x :: r => (b :: x) :: r
theorem lns_ne (l : List Int) : lns l ≠ [] := by
  cases l with
  | nil => simp [lns]
  | cons b l =>
    unfold lns
    split
    · simp
    · split <;> simp
theorem split_lns : ∀ (k : Nat) (l : List Int), byteOk l → (toB l).count 10 = k → Lib.splitK [10] 0 k (toB l) = (lns l).map toB := by
  intro k
  induction k with
  | zero =>
    intro l hl hc
    rw [Lib.splitK]
    have hn : ∀ l : List Int, byteOk l → (toB l).count 10 = 0 → lns l = [l] := by
      intro l
      induction l with
      | nil => intro _ _; rfl
      | cons b l ih =>
        intro h hc
        obtain ⟨hb, hl⟩ := byteOk_cons h
        rw [toB_cons, List.count_cons] at hc
        have h1 : (toB l).count 10 = 0 := by omega
        have h2 : ¬ b = 10 := by
          rintro rfl
          simp [b8] at hc
        rw [lns, if_neg h2, ih hl h1]
    rw [hn l hl hc]; rfl
  | succ k ih =>
    intro l
    induction l with
    | nil => intro _ hc; simp [toB] at hc
    | cons b l ihl =>
      intro h hc
      obtain ⟨hb, hl⟩ := byteOk_cons h
      have hi := index_one 10 ⟨by decide, by decide⟩ (b :: l) h
      have h10 : ([10] : List UInt8) = [b8 10] := rfl
      rw [toB_cons, List.count_cons] at hc
      by_cases hb10 : b = 10
      · subst hb10
        have h1 : (toB l).count 10 = k := by
          have : ((b8 10 : UInt8) == 10) = true := by decide
          simp only [this, if_true] at hc; omega
        have e : Lib.index (toB (10 :: l)) [10] = 0 := by rw [h10, hi]; simp
        rw [Lib.splitK, e]
        simp only [Int.toNat_zero, Nat.zero_add, List.length_cons, List.length_nil]
        rw [if_neg (by decide)]
        rw [toB_drop, show (10 :: l : List Int).drop 1 = l from rfl, ih l hl h1, lns, if_pos rfl]
        rfl
      · have hne : ((b8 b : UInt8) == 10) = false := by
          have : (b8 b == b8 10) = (b == 10) := b8_inj hb ⟨by decide, by decide⟩
          rw [show (10 : UInt8) = b8 10 from rfl, this]; simpa using hb10
        rw [hne] at hc
        simp only [Bool.false_eq_true, if_false, Nat.add_zero] at hc
        have ih2 := ihl hl hc
        have hm : (10 : Int) ∈ l := by
          have : 0 < (toB l).count 10 := by omega
          have := List.count_pos_iff.1 this
          obtain ⟨c, hcl, hce⟩ := List.mem_map.1 this
          have := byte_inj (hl c hcl) (b := 10) ⟨by decide, by decide⟩ hce
          exact this ▸ hcl
        have hil := index_one 10 ⟨by decide, by decide⟩ l hl
        rw [if_pos hm] at hil
        have hib : Lib.index (toB (b :: l)) [10] = Lib.index (toB l) [10] + 1 := by
          rw [h10, hi, hil, if_pos (by simp [hm])]
          rw [List.takeWhile_cons, if_pos (by simpa using hb10)]
          simp
        rw [Lib.splitK] at ih2 ⊢
        have n0 : ¬ (Lib.index (toB l) [10] == -1) = true := by rw [h10, hil]; simp <;> omega
        have n1 : ¬ (Lib.index (toB (b :: l)) [10] == -1) = true := by rw [hib, h10, hil]; simp; omega
        rw [if_neg n0] at ih2
        rw [if_neg n1, hib]
        have e1 : (Lib.index (toB l) [10] + 1).toNat = (Lib.index (toB l) [10]).toNat + 1 := by rw [h10, hil]; omega
        rw [e1, lns, if_neg hb10]
        cases hL : lns l with
        | nil => exact absurd hL (lns_ne l)
        | cons x r =>
          rw [hL] at ih2
          simp only [List.map_cons, List.cons.injEq] at ih2 ⊢
          obtain ⟨i1, i2⟩ := ih2
          refine ⟨?_, ?_⟩
          · rw [toB_cons b x, ← i1]; simp [toB_cons]
          · rw [← i2, toB_cons]
            congr 1
theorem lns_ok {l : List Int} (h : byteOk l) : ∀ x ∈ lns l, byteOk x := by
  induction l with
  | nil => intro x hx; simp [lns] at hx; subst hx; intro c hc; cases hc
  | cons b l ih =>
    obtain ⟨hb, hl⟩ := byteOk_cons h
    intro x hx
    unfold lns at hx
    split at hx
    · rcases List.mem_cons.1 hx with rfl | hx
      · intro c hc; cases hc
      · exact ih hl x hx
    · split at hx
      · simp at hx; subst hx; exact byteOk_mk hb (fun c hc => by cases hc)
      · rename_i y r hy
        rcases List.mem_cons.1 hx with rfl | hx
        · exact byteOk_mk hb (ih hl y (by rw [hy]; simp))
        · exact ih hl x (by rw [hy]; simp [hx])
theorem split_eq (s : List Int) (h : byteOk s) (hl : s.length < 4294967281) : strings_Split s [10] = some (lns s) := by
  unfold strings_Split
  rw [if_pos ⟨hl, by decide⟩]
  have e10 : toB [10] = [10] := rfl
  rw [e10]
  unfold Lib.split
  rw [Lib.count_one, split_lns _ s h rfl, List.map_map]
  congr 1
  conv => rhs; rw [← List.map_id (lns s)]
  exact List.map_congr_left fun x hx => ofB_toB (lns_ok h x hx)

/-! ### digits -/
/-- the value of a hexadecimal digit -/
def hexd (c : Int) : Int := if 48 ≤ c ∧ c ≤ 57 then c - 48 else if 97 ≤ c ∧ c ≤ 102 then c - 87 else -1
theorem indexByte_hex : ∀ c : Fin 256, Lib.indexByte (toB [48, 49, 50, 51, 52, 53, 54, 55, 56, 57, 97, 98, 99, 100, 101, 102]) (c.val : Int).toNat.toUInt8 = hexd (c.val : Int) := by decide +kernel
theorem hex_eq {c : Int} (h : 0 ≤ c ∧ c < 256) : strings_IndexByte [48, 49, 50, 51, 52, 53, 54, 55, 56, 57, 97, 98, 99, 100, 101, 102] c = some (hexd c) := by
  unfold strings_IndexByte
  have := indexByte_hex ⟨c.toNat, by omega⟩
  simp only at this
  have e : ((c.toNat : Nat) : Int) = c := by omega
  rw [e] at this
  rw [this]
theorem digit_eq (s : List Int) (i : Nat) (hs : byteOk s) : script_digit s i = some (match s[i]? with | some c => hexd c | none => -1) := by
  unfold script_digit
  by_cases h : i < s.length
  · rw [if_neg (by simp; omega), if_pos ⟨by omega, by omega⟩]
    have hc : s[i]? = some s[i] := by simp [h]
    simp only [Int.toNat_natCast, List.getD, hc, Option.getD_some]
    rw [hex_eq (hs _ (List.getElem_mem h)), bind_eq]
  · rw [if_pos (by simp; omega)]
    simp [List.getElem?_eq_none (Nat.le_of_not_lt h)]
end Sx
namespace Sx
open Go Go.RowKit

/-- what stands in quotes, and what is left behind the closing one -/
def unq : List Int → Option (List Int × List Int)
  | [] => none
  | c :: r =>
    if c = 34 then some ([], r)
    else if c < 32 ∨ c > 126 then none
    else if c ≠ 92 then (unq r).map fun p => (c :: p.1, p.2)
    else match r with
      | [] => none
      | d :: r' =>
        if d = 34 ∨ d = 92 then (unq r').map fun p => (d :: p.1, p.2)
        else match r' with
          | a :: b :: r'' => if d ≠ 120 ∨ hexd a < 0 ∨ hexd b < 0 then none else (unq r'').map fun p => ((16 * hexd a + hexd b) :: p.1, p.2)
          | _ => none

theorem hexd_lt (c : Int) : hexd c < 16 ∧ -1 ≤ hexd c := by unfold hexd; split <;> (try split) <;> omega
theorem wrap_u8b {n : Int} (h0 : 0 ≤ n) (h : n < 256) : IntKind.wrap .u8 n = n := by
  simp only [IntKind.wrap, IntKind.bits, IntKind.signed, Bool.false_and, Bool.false_eq_true, if_false]; omega
theorem hex_byte {a b : Int} (ha : 0 ≤ hexd a) (hb : 0 ≤ hexd b) : IntKind.wrap .u8 (IntKind.wrap .i64 (IntKind.wrap .i64 (16 * hexd a) + hexd b)) = 16 * hexd a + hexd b := by
  have h1 := hexd_lt a
  have h2 := hexd_lt b
  have e1 : IntKind.wrap .i64 (16 * hexd a) = 16 * hexd a := wrap_i64 (by omega) (by omega)
  rw [e1]
  have e2 : IntKind.wrap .i64 (16 * hexd a + hexd b) = 16 * hexd a + hexd b := wrap_i64 (by omega) (by omega)
  rw [e2, wrap_u8b (by omega) (by omega)]

theorem drop_cons {l : List Int} {i : Nat} (h : i < l.length) : l.drop i = l.getD i 0 :: l.drop (i + 1) := by
  rw [List.drop_eq_getElem_cons h]; simp [List.getD, h]
theorem getD_byte {l : List Int} (hl : byteOk l) (i : Nat) : 0 ≤ l.getD i 0 ∧ l.getD i 0 < 256 := by
  by_cases h : i < l.length
  · have : l.getD i 0 = l[i] := by simp [List.getD, h]
    rw [this]; exact hl _ (List.getElem_mem h)
  · simp [List.getD, List.getElem?_eq_none (Nat.le_of_not_lt h)]
theorem take2 {l : List Int} {i : Nat} (x y : Int) : ((l.drop i).take 2 == [x, y] && decide (2 ≤ (l.drop i).length)) = (decide (i + 1 < l.length) && (l.getD i 0 == x && l.getD (i + 1) 0 == y)) := by
  by_cases h : i + 1 < l.length
  · have h1 : decide (2 ≤ (l.drop i).length) = true := by simp; omega
    rw [h1, Bool.and_true, drop_cons (by omega), drop_cons h]
    have : (l.getD i 0 :: l.getD (i + 1) 0 :: l.drop (i + 1 + 1)).take 2 = [l.getD i 0, l.getD (i + 1) 0] := rfl
    rw [this]
    simp only [h, decide_true, Bool.true_and]
    show (_ && (_ && true)) = _
    rw [Bool.and_true]
  · have h1 : decide (2 ≤ (l.drop i).length) = false := by simp; omega
    rw [h1, Bool.and_false]
    simp [h]

theorem unq_l0 (a0 : List Int) (ha : byteOk a0) (hl : a0.length < 4294967296) (x : List Int) (y : Int) : ∀ (m i : Nat) (out : List Int), a0.length - i < m → out.length ≤ i → i ≤ a0.length →
    script_unquoted_l0 a0 (fun _ => some none) m (x, y, (i : Int), out) = some ((unq (a0.drop i)).map fun p => (out ++ p.1, ((a0.length - p.2.length : Nat) : Int)))
  | 0, _, _, h, _, _ => absurd h (Nat.not_lt_zero _)
  | m + 1, i, out, h, ho, hi => by
    unfold script_unquoted_l0
    simp only
    by_cases hlt : i < a0.length
    · rw [if_pos (by simpa using hlt), if_pos ⟨by omega, by omega⟩]
      simp only [bnd_eq, Int.toNat_natCast]
      have hc := getD_byte ha i
      rw [drop_cons hlt]
      generalize hcc : a0.getD i 0 = c at hc
      have w1 : IntKind.wrap .i64 ((i : Int) + 1) = ((i + 1 : Nat) : Int) := by rw [wrap_i64 (by omega) (by omega)]; omega
      have w2 : IntKind.wrap .i64 ((i : Int) + 2) = ((i + 2 : Nat) : Int) := by rw [wrap_i64 (by omega) (by omega)]; omega
      have w3 : IntKind.wrap .i64 ((i : Int) + 3) = ((i + 3 : Nat) : Int) := by rw [wrap_i64 (by omega) (by omega)]; omega
      have w4 : IntKind.wrap .i64 ((i : Int) + 4) = ((i + 4 : Nat) : Int) := by rw [wrap_i64 (by omega) (by omega)]; omega
      unfold unq
      by_cases h34 : c = 34
      · subst h34
        rw [if_pos (by decide), if_pos rfl, w1]
        simp only [Option.map_some, List.append_nil, List.length_drop]
        congr 4; omega
      rw [if_neg (by simpa using h34), if_neg h34]
      by_cases hr : c < 32 ∨ c > 126
      · rw [if_pos (by simpa using hr), if_pos hr]; rfl
      rw [if_neg (by simpa using hr), if_neg hr]
      by_cases h92 : c ≠ 92
      · rw [if_pos (by simpa using h92), if_pos h92, if_pos (by simp only [List.length_cons, List.length_nil]; omega), w1, unq_l0 a0 ha hl x y m (i + 1) _ (by omega) (by simp; omega) (by omega)]
        cases unq (a0.drop (i + 1)) with
        | none => rfl
        | some p => simp
      rw [if_neg (by simpa using h92), if_neg h92]
      have hg : ((0 : Int) ≤ (i : Int) ∧ (i : Int) ≤ (a0.length : Int) ∧ (a0.length : Int) ≤ (a0.length : Int)) := ⟨by omega, by omega, by omega⟩
      have hcc92 : a0.getD i 0 = 92 := by rw [hcc]; simpa using h92
      simp only [if_pos hg, Int.toNat_natCast, List.take_length, prefix_eq, bind_eq, List.length_cons, List.length_nil, Nat.zero_add, Nat.reduceAdd, take2, w1, w2, w3, w4, hcc92, beq_self_eq_true, Bool.true_and]
      by_cases h1 : i + 1 < a0.length
      · have hg2 : ((0 : Int) ≤ ((i + 1 : Nat) : Int) ∧ ((i + 1 : Nat) : Int) < (a0.length : Int)) := ⟨by omega, by omega⟩
        have hg3 : (out.length + 1) * 1 ≤ 140737488355328 := by omega
        simp only [h1, decide_true, Bool.true_and, if_pos hg2, if_pos hg3]
        rw [drop_cons h1]
        simp only
        generalize hd : a0.getD (i + 1) 0 = d
        by_cases hdd : d = 34 ∨ d = 92
        · have key : script_unquoted_l0 a0 (fun _ => some none) m (x, y, ((i + 2 : Nat) : Int), out ++ [d]) =
              some (((unq (a0.drop (i + 1 + 1))).map fun p => (d :: p.1, p.2)).map fun p => (out ++ p.1, ((a0.length - p.2.length : Nat) : Int))) := by
            rw [unq_l0 a0 ha hl x y m (i + 2) _ (by omega) (by simp; omega) (by omega)]
            cases unq (a0.drop (i + 2)) with
            | none => rfl
            | some p => simp
          rw [if_pos hdd]
          rcases hdd with rfl | rfl
          · exact key
          · exact key
        · have e1 : (d == 34) = false := by simp; exact fun h => hdd (.inl h)
          have e2 : (d == 92) = false := by simp; exact fun h => hdd (.inr h)
          simp only [e1, e2, Bool.false_eq_true, if_false]
          rw [if_neg hdd]
          rw [digit_eq a0 (i + 2) ha, digit_eq a0 (i + 3) ha]
          simp only [bind_eq]
          by_cases h2 : i + 3 < a0.length
          · have g2 : a0[i + 2]? = some (a0.getD (i + 2) 0) := by simp [List.getD, show i + 2 < a0.length by omega]
            have g3 : a0[i + 3]? = some (a0.getD (i + 3) 0) := by simp [List.getD, h2]
            rw [show i + 1 + 1 = i + 2 from rfl, drop_cons (show i + 2 < a0.length by omega), show i + 2 + 1 = i + 3 from rfl, drop_cons h2, g2, g3]
            simp only
            generalize a0.getD (i + 2) 0 = a
            generalize a0.getD (i + 3) 0 = b
            by_cases hbad : d ≠ 120 ∨ hexd a < 0 ∨ hexd b < 0
            · rw [if_pos hbad]
              have : ((!(d == 120)) || decide (hexd a < 0) || decide (hexd b < 0)) = true := by
                rcases hbad with h | h | h <;> simp [h]
              rw [if_pos this]; rfl
            · rw [if_neg hbad]
              simp only [not_or, Decidable.not_not] at hbad
              obtain ⟨b1, b2, b3⟩ := hbad
              have : ((!(d == 120)) || decide (hexd a < 0) || decide (hexd b < 0)) = false := by simp [b1, b2, b3] <;> omega
              rw [if_neg (by rw [this]; simp), hex_byte (by omega) (by omega), unq_l0 a0 ha hl x y m (i + 4) _ (by omega) (by simp; omega) (by omega)]
              rw [show i + 3 + 1 = i + 4 from rfl]
              cases unq (a0.drop (i + 4)) with
              | none => rfl
              | some p => simp
          · have g3 : a0[i + 3]? = none := List.getElem?_eq_none (by omega)
            rw [g3]
            simp only
            have e3 : ∀ q : Bool, (q || decide ((-1 : Int) < 0)) = true := fun q => by simp
            rw [if_pos (by rw [e3])]
            have : (match a0.drop (i + 1 + 1) with
                | a :: b :: r'' => if d ≠ 120 ∨ hexd a < 0 ∨ hexd b < 0 then none else (unq r'').map fun p => ((16 * hexd a + hexd b) :: p.1, p.2)
                | _ => none) = none := by
              have hlen : (a0.drop (i + 1 + 1)).length ≤ 1 := by simp; omega
              cases hx : a0.drop (i + 1 + 1) with
              | nil => rfl
              | cons p q => cases q with
                | nil => rfl
                | cons _ _ => rw [hx] at hlen; simp at hlen
            rw [this]; rfl
      · have hnil : a0.drop (i + 1) = [] := List.drop_eq_nil_of_le (by omega)
        have g2 : a0[i + 2]? = none := List.getElem?_eq_none (by omega)
        have g3 : a0[i + 3]? = none := List.getElem?_eq_none (by omega)
        simp only [h1, decide_false, Bool.false_and, Bool.false_eq_true, if_false]
        rw [digit_eq a0 (i + 2) ha, digit_eq a0 (i + 3) ha, g2, g3]
        simp only [bind_eq, hnil]
        rfl
    · rw [if_neg (by simpa using hlt)]
      have : a0.drop i = [] := List.drop_eq_nil_of_le (by omega)
      rw [this]; rfl
theorem unquoted_eq (s : List Int) (hs : byteOk s) (hl : s.length < 4294967296) (h1 : 1 ≤ s.length) : script_unquoted s = some ((unq (s.drop 1)).map fun p => (p.1, ((s.length - p.2.length : Nat) : Int))) := by
  unfold script_unquoted
  simp only [bnd_eq]
  have e : Int.toNat ((s.length : Int) - 1) + 1 = s.length := by omega
  rw [e]
  have := unq_l0 s hs hl [] 0 s.length 1 [] (by omega) (by simp) h1
  simpa using this

/-- what is read is a beginning of what stood there -/
theorem unq_rest : ∀ (n : Nat) (s t r : List Int), s.length ≤ n → byteOk s → unq s = some (t, r) → ∃ p, s = p ++ r ∧ t.length < p.length ∧ byteOk t ∧ byteOk r := by
  intro n
  induction n with
  | zero => intro s t r hl _ h; obtain rfl := List.length_eq_zero_iff.1 (Nat.le_zero.1 hl); simp [unq] at h
  | succ n ih =>
    intro s t r hl hs h
    cases s with
    | nil => simp [unq] at h
    | cons c s =>
      obtain ⟨hc, hs⟩ := byteOk_cons hs
      simp only [List.length_cons] at hl
      unfold unq at h
      split at h
      · simp only [Option.some.injEq, Prod.mk.injEq] at h
        obtain ⟨rfl, rfl⟩ := h
        exact ⟨[c], rfl, by simp, (fun c hc => by cases hc), hs⟩
      split at h
      · cases h
      split at h
      · obtain ⟨⟨t', r'⟩, h1, h2⟩ := Option.map_eq_some_iff.1 h
        simp only [Prod.mk.injEq] at h2
        obtain ⟨rfl, rfl⟩ := h2
        obtain ⟨p, rfl, q1, q2, q3⟩ := ih s t' r' (by omega) hs h1
        exact ⟨c :: p, rfl, by simpa using q1, byteOk_mk hc q2, q3⟩
      cases s with
      | nil => simp at h
      | cons d s =>
        obtain ⟨hd, hs⟩ := byteOk_cons hs
        simp only [List.length_cons] at hl
        simp only at h
        split at h
        · obtain ⟨⟨t', r'⟩, h1, h2⟩ := Option.map_eq_some_iff.1 h
          simp only [Prod.mk.injEq] at h2
          obtain ⟨rfl, rfl⟩ := h2
          obtain ⟨p, rfl, q1, q2, q3⟩ := ih s t' r' (by omega) hs h1
          exact ⟨c :: d :: p, rfl, by simp; omega, byteOk_mk hd q2, q3⟩
        · cases s with
          | nil => cases h
          | cons a s =>
          cases s with
          | nil => cases h
          | cons b s' =>
            obtain ⟨ha, hs⟩ := byteOk_cons hs
            obtain ⟨hb, hs⟩ := byteOk_cons hs
            simp only [List.length_cons] at hl
            by_cases hbad : d ≠ 120 ∨ hexd a < 0 ∨ hexd b < 0
            · simp only [if_pos hbad] at h; cases h
            · simp only [if_neg hbad] at h
              obtain ⟨⟨t', r'⟩, h1, h2⟩ := Option.map_eq_some_iff.1 h
              simp only [Prod.mk.injEq] at h2
              obtain ⟨rfl, rfl⟩ := h2
              obtain ⟨p, rfl, q1, q2, q3⟩ := ih s' t' r' (by omega) hs h1
              have := hexd_lt a
              have := hexd_lt b
              exact ⟨c :: d :: a :: b :: p, rfl, by simp; omega, byteOk_mk (by omega) q2, q3⟩

/-! ### words -/
abbrev Wd := List Int × Bool × Unit
def word1 (s : List Int) : Option (Wd × List Int) :=
  if s.headD 0 = 34 then (unq (s.drop 1)).map fun p => ((p.1, true, ()), p.2)
  else if s.takeWhile (· != 32) = [] then none else some ((s.takeWhile (· != 32), false, ()), s.dropWhile (· != 32))
def wrdsF : Nat → List Int → Option (List Wd)
  | 0, _ => none
  | m + 1, s => match word1 s with
    | none => none
    | some (w, []) => some [w]
    | some (w, c :: r) => if c = 32 then (wrdsF m r).map (w :: ·) else none
def wrds (s : List Int) : Option (List Wd) := wrdsF (s.length + 1) s

theorem word1_rest {s r : List Int} {w : Wd} (hs : byteOk s) (h : word1 s = some (w, r)) : ∃ p, s = p ++ r ∧ 0 < p.length ∧ byteOk r ∧ byteOk w.1 ∧ w.1.length ≤ p.length ∧ (w.2.1 = false → w.1 ≠ [] ∧ p = w.1) := by
  unfold word1 at h
  split at h
  · rename_i h34
    obtain ⟨⟨t, r'⟩, h1, h2⟩ := Option.map_eq_some_iff.1 h
    simp only [Prod.mk.injEq] at h2
    obtain ⟨rfl, rfl⟩ := h2
    cases s with
    | nil => simp at h34
    | cons c s =>
      obtain ⟨hc, hs⟩ := byteOk_cons hs
      obtain ⟨p, h2, q1, q2, q3⟩ := unq_rest _ s t r' (Nat.le_refl _) hs h1
      subst h2
      exact ⟨c :: p, rfl, by simp, q3, q2, by simp; omega, fun h => by cases h⟩
  · split at h
    · cases h
    · rename_i hne
      simp only [Option.some.injEq, Prod.mk.injEq] at h
      obtain ⟨rfl, rfl⟩ := h
      exact ⟨s.takeWhile (· != 32), (List.takeWhile_append_dropWhile).symm, List.length_pos_iff.2 hne, fun c hc => hs c ((List.dropWhile_sublist _).subset hc), fun c hc => hs c ((List.takeWhile_sublist _).subset hc), Nat.le_refl _, fun _ => ⟨hne, rfl⟩⟩

theorem wrdsF_more : ∀ (m : Nat) (s : List Int), byteOk s → s.length < m → wrdsF m s = wrds s := by
  intro m
  induction m using Nat.strongRecOn with
  | ind m ih =>
    intro s hs hm
    cases m with
    | zero => exact absurd hm (Nat.not_lt_zero _)
    | succ m =>
      unfold wrds
      unfold wrdsF
      cases hw : word1 s with
      | none => rfl
      | some x =>
        obtain ⟨w, r⟩ := x
        obtain ⟨p, rfl, hp, hr, _⟩ := word1_rest hs hw
        cases r with
        | nil => rfl
        | cons c r =>
          simp only [List.length_append, List.length_cons] at hm ⊢
          split
          · obtain ⟨_, hr⟩ := byteOk_cons hr
            rw [ih m (by omega) r hr (by omega)]
            rw [ih (p.length + (r.length + 1)) (by omega) r hr (by omega)]
          · rfl
/-- the words, one by one -/
theorem wrds_eq {s : List Int} (hs : byteOk s) : wrds s = match word1 s with
    | none => none
    | some (w, []) => some [w]
    | some (w, c :: r) => if c = 32 then (wrds r).map (w :: ·) else none := by
  conv => lhs; unfold wrds; unfold wrdsF
  cases hw : word1 s with
  | none => rfl
  | some x =>
    obtain ⟨w, r⟩ := x
    obtain ⟨p, rfl, hp, hr, _⟩ := word1_rest hs hw
    cases r with
    | nil => rfl
    | cons c r =>
      simp only
      split
      · obtain ⟨_, hr⟩ := byteOk_cons hr
        rw [wrdsF_more _ r hr (by simp; omega)]
      · rfl

theorem words_l0 : ∀ (m : Nat) (s : List Int) (acc : List Wd), byteOk s → s.length < 4294967281 → s.length < m → acc.length + s.length ≤ 4294967296 →
    script_words_l0 m (s, acc) = some ((wrdsF m s).map (acc ++ ·))
  | 0, _, _, _, _, h, _ => absurd h (Nat.not_lt_zero _)
  | m + 1, s, acc, hs, hl, hm, hacc => by
    have tail : ∀ (w : Wd) (r p : List Int), s = p ++ r → 0 < p.length → byteOk r →
        (if (acc.length + [w].length) * 24 ≤ 140737488355328 then (if (0 : Int) ≤ (p.length : Int) ∧ (p.length : Int) ≤ (s.length : Int) ∧ (s.length : Int) ≤ (s.length : Int) then
          (if (r == []) = true then (some (some (acc ++ [w])) : Option (Option (List Wd))) else
            (if (0 : Int) ≤ 0 ∧ 0 < (r.length : Int) then (if (r.getD 0 0 != 32) = true then some none else
              (if (0 : Int) ≤ 1 ∧ 1 ≤ (r.length : Int) ∧ (r.length : Int) ≤ (r.length : Int) then script_words_l0 m (r.drop 1, acc ++ [w]) else none)) else none)) else none) else none) =
        some ((match (some (w, r) : Option (Wd × List Int)) with
          | none => none
          | some (w, []) => some [w]
          | some (w, c :: r) => if c = 32 then (wrdsF m r).map (w :: ·) else none).map (acc ++ ·)) := by
      intro w r p hp h0 hr
      have hlen : s.length = p.length + r.length := by rw [hp]; simp
      rw [if_pos (by simp only [List.length_cons, List.length_nil]; omega), if_pos ⟨by omega, by omega, by omega⟩]
      cases r with
      | nil => rfl
      | cons c r =>
        have hr' := (byteOk_cons hr).2
        simp only [List.length_cons] at hlen
        rw [if_neg (by simp), if_pos ⟨by omega, by simp only [List.length_cons]; omega⟩]
        simp only [List.getD_cons_zero]
        by_cases h32 : c = 32
        · subst h32
          rw [if_neg (by decide), if_pos ⟨by decide, by simp only [List.length_cons]; omega, by omega⟩, if_pos rfl]
          rw [show (32 :: r).drop 1 = r from rfl, words_l0 m r (acc ++ [w]) hr' (by omega) (by omega) (by simp; omega)]
          cases wrdsF m r with
          | none => rfl
          | some l => simp
        · rw [if_pos (by simpa using h32), if_neg h32]; rfl
    unfold script_words_l0 wrdsF
    simp only [bnd_eq, prefix_eq, bind_eq]
    by_cases h34 : s.headD 0 = 34
    · cases s with
      | nil => simp at h34
      | cons c r =>
        simp only [List.headD_cons] at h34
        subst h34
        have hw : word1 (34 :: r) = (unq r).map fun p => ((p.1, true, ()), p.2) := by simp only [word1, List.headD_cons, if_true]; rfl
        rw [if_pos (by simp), unquoted_eq _ hs (by omega) (by simp), bind_eq, hw]
        rw [show (34 :: r).drop 1 = r from rfl]
        cases hu : unq r with
        | none => rfl
        | some x =>
          obtain ⟨t, r2⟩ := x
          obtain ⟨hc, hr⟩ := byteOk_cons hs
          obtain ⟨p, hp, q1, q2, q3⟩ := unq_rest _ r t r2 (Nat.le_refl _) hr hu
          have hs2 : 34 :: r = (34 :: p) ++ r2 := by rw [hp]; rfl
          have hn : ((34 :: r).length - r2.length : Nat) = (34 :: p).length := by rw [hs2]; simp; omega
          simp only [Option.map_some, pb]
          rw [hn, if_neg (by simp; omega)]
          have hd : List.drop (Int.toNat ((34 :: p).length : Int)) (List.take (Int.toNat ((34 :: r).length : Int)) (34 :: r)) = r2 := by
            rw [Int.toNat_natCast, Int.toNat_natCast, List.take_length, hs2, List.drop_left']
            rfl
          rw [hd]
          have := tail (t, true, ()) r2 (34 :: p) hs2 (by simp) q3
          simpa using this
    · have h34' : (s.take ([34] : List Int).length == [34] && decide (([34] : List Int).length ≤ s.length)) = false := by
        cases s with
        | nil => rfl
        | cons c r => simp at h34; simp [h34]
      rw [h34']
      simp only [Bool.false_eq_true, if_false]
      obtain ⟨x, hx⟩ := cut_eq s hs hl
      rw [hx, bind_eq]
      simp only
      unfold word1
      rw [if_neg h34]
      by_cases hn : s.takeWhile (· != 32) = []
      · rw [if_pos hn, hn]; rfl
      · rw [if_neg hn]
        have hpos := List.length_pos_iff.2 hn
        rw [if_neg (by simpa using hn)]
        have hs2 : s = s.takeWhile (· != 32) ++ s.dropWhile (· != 32) := List.takeWhile_append_dropWhile.symm
        have hd : List.drop (Int.toNat ((s.takeWhile (· != 32)).length : Int)) (List.take (Int.toNat (s.length : Int)) s) = s.dropWhile (· != 32) := by
          rw [Int.toNat_natCast, Int.toNat_natCast, List.take_length, drop_takeWhile]
        rw [hd]
        have := tail (s.takeWhile (· != 32), false, ()) (s.dropWhile (· != 32)) (s.takeWhile (· != 32)) hs2 hpos (fun c hc => hs c ((List.dropWhile_sublist _).subset hc))
        simpa using this
theorem words_eq {s : List Int} (hs : byteOk s) (hl : s.length < 4294967281) : script_words s = some (wrds s) := by
  unfold script_words
  rw [words_l0 _ s [] hs hl (by omega) (by simp; omega), wrdsF_more _ s hs (by omega)]
  cases wrds s with
  | none => rfl
  | some l => rfl
end Sx
namespace Sx
open Go Go.RowKit

/-! ### what strconv.FormatInt gives -/
def decI (n : Nat) : List Int := ofB (Lib.decDigits n)
theorem decI_eq (n : Nat) : decI n = if n < 10 then [48 + (n : Int)] else decI (n / 10) ++ [48 + ((n % 10 : Nat) : Int)] := by
  unfold decI
  rw [Lib.decDigits]
  split
  · rename_i h
    simp only [ofB, List.map_cons, List.map_nil, UInt8.toNat_ofNat']
    congr 1; omega
  · simp only [ofB, List.map_append, List.map_cons, List.map_nil, UInt8.toNat_ofNat']
    congr 2; omega
theorem itoaI_eq (n : Int) : itoaI n = if n < 0 then 45 :: decI n.natAbs else decI n.toNat := by
  unfold itoaI Lib.itoa decI
  split
  · rfl
  · rfl
def isDig (c : Int) : Prop := 48 ≤ c ∧ c ≤ 57
instance (c : Int) : Decidable (isDig c) := by unfold isDig; exact inferInstance
def valD (a : Int) (l : List Int) : Int := l.foldl (fun a c => 10 * a + (c - 48)) a
theorem valD_append (a : Int) (x y : List Int) : valD a (x ++ y) = valD (valD a x) y := by simp [valD]
theorem decI_all : ∀ (n : Nat), (∀ c ∈ decI n, isDig c) ∧ valD 0 (decI n) = n ∧ decI n ≠ [] := by
  intro n
  induction n using Nat.strongRecOn with
  | ind n ih =>
    rw [decI_eq]
    split
    · rename_i h
      refine ⟨fun c hc => ?_, ?_, by simp⟩
      · simp at hc; subst hc; unfold isDig; omega
      · simp [valD]; omega
    · rename_i h
      obtain ⟨h1, h2, h3⟩ := ih (n / 10) (by omega)
      refine ⟨fun c hc => ?_, ?_, by simp⟩
      · rcases List.mem_append.1 hc with hc | hc
        · exact h1 c hc
        · simp at hc; subst hc; unfold isDig; omega
      · rw [valD_append, h2]
        simp only [valD, List.foldl_cons, List.foldl_nil]
        omega
theorem decI_inj {a b : Nat} (h : decI a = decI b) : a = b := by
  have h1 := (decI_all a).2.1
  have h2 := (decI_all b).2.1
  rw [h, h2] at h1
  omega
theorem decI_nomin (n : Nat) : ∀ r, decI n ≠ 45 :: r := fun r h => by
  have := (decI_all n).1 45 (by rw [h]; simp)
  unfold isDig at this; omega
theorem itoaI_inj {a b : Int} (h : itoaI a = itoaI b) : a = b := by
  rw [itoaI_eq, itoaI_eq] at h
  split at h <;> split at h
  · simp only [List.cons.injEq, true_and] at h
    have := decI_inj h; omega
  · exact absurd h.symm (decI_nomin _ _)
  · exact absurd h (decI_nomin _ _)
  · have := decI_inj h; omega

/-! ### runes -/
theorem bs_get {l : List Int} (hl : byteOk l) {p : Nat} (h : p < l.length) (h' : p < (bs l).size) : (((bs l)[p]'h').toNat : Int) = l.getD p 0 := by
  have hb := hl _ (List.getElem_mem h)
  have e : l.getD p 0 = l[p] := by simp [List.getD, h]
  rw [e]
  show (((bs l).data[p]'h').toNat : Int) = _
  simp only [bs, List.getElem_toArray, List.getElem_map, UInt8.toNat_ofNat']
  omega
theorem rune_low {l : List Int} (hl : byteOk l) {p : Nat} (h : p < l.length) (h128 : l.getD p 0 < 128) : rune l p = l.getD p 0 ∧ past l p = p + 1 := by
  have h' : p < (bs l).size := by rw [bs_size]; exact h
  have hg := bs_get hl h h'
  have := decode_ascii (bs l) p h' (by omega)
  unfold rune past
  rw [this]
  exact ⟨hg, rfl⟩
theorem rune_high {l : List Int} (hl : byteOk l) {p : Nat} (h : p < l.length) (h128 : 128 ≤ l.getD p 0) : 128 ≤ rune l p := by
  have h' : p < (bs l).size := by rw [bs_size]; exact h
  have hg := bs_get hl h h'
  have e : (bs l).get! (p + 0) = (bs l)[p]'h' := by
    show (bs l).get! p = _
    simp [ByteArray.get!, getElem!_pos, h']
    rfl
  unfold rune Utf8.decode
  simp only [e]
  have hb : 128 ≤ ((bs l)[p]'h').toNat := by omega
  rw [if_neg (by omega)]
  split
  · split
    · rename_i hh; simp only [ge_iff_le] at hh ⊢; omega
    · simp only [Utf8.runeError]; omega
  · split
    · split
      · rename_i hh; simp only [ge_iff_le, Bool.and_eq_true, decide_eq_true_eq] at hh; omega
      · simp only [Utf8.runeError]; omega
    · split
      · split
        · rename_i hh; simp only [ge_iff_le, Bool.and_eq_true, decide_eq_true_eq] at hh; omega
        · simp only [Utf8.runeError]; omega
      · simp only [Utf8.runeError]; omega

/-! ### the loop over digits -/
abbrev NumK := Int → Option (Option (Int × (List Wd × Unit)))
def numL (k : NumK) : List Int → Int → Option (Option (Int × (List Wd × Unit)))
  | [], n => k n
  | c :: r, n => if isDig c ∧ -9223372036854775808 ≤ 10 * n - (c - 48) then numL k r (10 * n - (c - 48)) else some none
theorem tdiv10 {d n : Int} (h : 0 ≤ d ∧ d ≤ 9) : (n < IntKind.wrap .i64 (Int.tdiv (IntKind.wrap .i64 ((-9223372036854775808) + d)) 10)) ↔ 10 * n - d < -9223372036854775808 := by
  have : d = 0 ∨ d = 1 ∨ d = 2 ∨ d = 3 ∨ d = 4 ∨ d = 5 ∨ d = 6 ∨ d = 7 ∨ d = 8 ∨ d = 9 := by omega
  have w : IntKind.wrap .i64 ((-9223372036854775808) + d) = (-9223372036854775808) + d := wrap_i64 (by omega) (by omega)
  rw [w]
  rcases this with rfl | rfl | rfl | rfl | rfl | rfl | rfl | rfl | rfl | rfl
  · rw [show IntKind.wrap .i64 (Int.tdiv ((-9223372036854775808 : Int) + 0) 10) = -922337203685477580 from by decide]; omega
  · rw [show IntKind.wrap .i64 (Int.tdiv ((-9223372036854775808 : Int) + 1) 10) = -922337203685477580 from by decide]; omega
  · rw [show IntKind.wrap .i64 (Int.tdiv ((-9223372036854775808 : Int) + 2) 10) = -922337203685477580 from by decide]; omega
  · rw [show IntKind.wrap .i64 (Int.tdiv ((-9223372036854775808 : Int) + 3) 10) = -922337203685477580 from by decide]; omega
  · rw [show IntKind.wrap .i64 (Int.tdiv ((-9223372036854775808 : Int) + 4) 10) = -922337203685477580 from by decide]; omega
  · rw [show IntKind.wrap .i64 (Int.tdiv ((-9223372036854775808 : Int) + 5) 10) = -922337203685477580 from by decide]; omega
  · rw [show IntKind.wrap .i64 (Int.tdiv ((-9223372036854775808 : Int) + 6) 10) = -922337203685477580 from by decide]; omega
  · rw [show IntKind.wrap .i64 (Int.tdiv ((-9223372036854775808 : Int) + 7) 10) = -922337203685477580 from by decide]; omega
  · rw [show IntKind.wrap .i64 (Int.tdiv ((-9223372036854775808 : Int) + 8) 10) = -922337203685477580 from by decide]; omega
  · rw [show IntKind.wrap .i64 (Int.tdiv ((-9223372036854775808 : Int) + 9) 10) = -922337203685477579 from by decide]; omega
theorem num_l0 (k : NumK) (s : List Int) (hs : byteOk s) : ∀ (m p : Nat) (n : Int), s.length - p < m → p ≤ s.length → -9223372036854775808 ≤ n → n ≤ 0 → script_reader_number_l0 k s m (n, p) = numL k (s.drop p) n
  | 0, _, _, h, _, _, _ => absurd h (Nat.not_lt_zero _)
  | m + 1, p, n, h, hp, hn, hn0 => by
    unfold script_reader_number_l0
    simp only [bnd_eq]
    by_cases hlt : p < s.length
    · rw [if_pos hlt, drop_cons hlt, numL]
      have hc := getD_byte hs p
      by_cases hd : isDig (s.getD p 0)
      · have hd' := hd
        unfold isDig at hd'
        obtain ⟨r1, r2⟩ := rune_low hs hlt (by omega)
        rw [r1, r2]
        generalize hcc : s.getD p 0 = c at *
        have hb : (decide (c < 48) || decide (c > 57)) = false := by simp; omega
        have w32 : IntKind.wrap .i32 (c - 48) = c - 48 := by simp [IntKind.wrap, IntKind.bits, IntKind.signed]; omega
        have w64 : IntKind.wrap .i64 (c - 48) = c - 48 := wrap_i64 (by omega) (by omega)
        rw [hb, w32, w64]
        simp only [Bool.false_eq_true, if_false]
        by_cases ho : -9223372036854775808 ≤ 10 * n - (c - 48)
        · rw [if_neg (by rw [decide_eq_true_eq, tdiv10 ⟨by omega, by omega⟩]; omega), if_pos ⟨hd, ho⟩]
          have e1 : IntKind.wrap .i64 (10 * n) = 10 * n := wrap_i64 (by omega) (by omega)
          rw [e1]
          have e2 : IntKind.wrap .i64 (10 * n - (c - 48)) = 10 * n - (c - 48) := wrap_i64 (by omega) (by omega)
          rw [e2]
          exact num_l0 k s hs m (p + 1) _ (by omega) (by omega) ho (by omega)
        · rw [if_pos (by rw [decide_eq_true_eq, tdiv10 ⟨by omega, by omega⟩]; omega), if_neg (fun h => ho h.2)]
      · have hr : rune s p < 48 ∨ rune s p > 57 := by
          by_cases h128 : s.getD p 0 < 128
          · rw [(rune_low hs hlt h128).1]; unfold isDig at hd; omega
          · have := rune_high hs hlt (by omega); omega
        have hb : (decide (rune s p < 48) || decide (rune s p > 57)) = true := by simpa using hr
        rw [hb, if_neg (c := isDig _ ∧ _) (fun h => hd h.1)]; simp
    · rw [if_neg hlt]
      have : s.drop p = [] := List.drop_eq_nil_of_le (by omega)
      rw [this, numL]
def negv (n : Int) (s : List Int) : Int := s.foldl (fun n c => 10 * n - (c - 48)) n
theorem negv_val (n : Int) (s : List Int) : negv n s = -(valD (-n) s) := by
  induction s generalizing n with
  | nil => simp [negv, valD]
  | cons c r ih =>
    show negv (10 * n - (c - 48)) r = -(valD (10 * -n + (c - 48)) r)
    rw [ih]
    congr 2; omega
theorem negv_le : ∀ (s : List Int) (n : Int), n ≤ 0 → (∀ c ∈ s, isDig c) → negv n s ≤ n
  | [], _, _, _ => Int.le_refl _
  | c :: r, n, hn, h => by
    have hc : isDig c := h c (by simp)
    unfold isDig at hc
    have := negv_le r (10 * n - (c - 48)) (by omega) (fun x hx => h x (by simp [hx]))
    show negv (10 * n - (c - 48)) r ≤ n
    omega
theorem numL_or (k : NumK) : ∀ (s : List Int) (n : Int), -9223372036854775808 ≤ n → n ≤ 0 → numL k s n = some none ∨ (numL k s n = k (negv n s) ∧ (∀ c ∈ s, isDig c) ∧ -9223372036854775808 ≤ negv n s ∧ negv n s ≤ 0)
  | [], n, h1, h2 => .inr ⟨rfl, by simp, h1, h2⟩
  | c :: r, n, h1, h2 => by
    unfold numL
    by_cases h : isDig c ∧ -9223372036854775808 ≤ 10 * n - (c - 48)
    · rw [if_pos h]
      have hc := h.1
      unfold isDig at hc
      rcases numL_or k r (10 * n - (c - 48)) h.2 (by omega) with h3 | ⟨h3, h4, h5, h6⟩
      · exact .inl h3
      · refine .inr ⟨h3, fun x hx => ?_, h5, h6⟩
        rcases List.mem_cons.1 hx with rfl | hx
        · exact h.1
        · exact h4 x hx
    · rw [if_neg h]; exact .inl rfl
theorem numL_ok (k : NumK) : ∀ (s : List Int) (n : Int), n ≤ 0 → (∀ c ∈ s, isDig c) → -9223372036854775808 ≤ negv n s → numL k s n = k (negv n s)
  | [], _, _, _, _ => rfl
  | c :: r, n, hn, h, hm => by
    have hc : isDig c := h c (by simp)
    have hc' := hc
    unfold isDig at hc'
    have hr : ∀ x ∈ r, isDig x := fun x hx => h x (by simp [hx])
    have := negv_le r (10 * n - (c - 48)) (by omega) hr
    have hm' : -9223372036854775808 ≤ negv (10 * n - (c - 48)) r := hm
    unfold numL
    rw [if_pos ⟨hc, by omega⟩, numL_ok k r _ (by omega) hr hm']
    rfl

/-! ### a reader's words -/
open Classical in
/-- the number that a word says -/
noncomputable def numS (t : List Int) : Option Int := if h : ∃ n, rng .i64 n ∧ itoaI n = t then some h.choose else none
theorem numS_some {n : Int} (h : rng .i64 n) : numS (itoaI n) = some n := by
  unfold numS
  have hx : ∃ m, rng .i64 m ∧ itoaI m = itoaI n := ⟨n, h, rfl⟩
  rw [dif_pos hx]
  exact congrArg some (itoaI_inj hx.choose_spec.2)
theorem numS_spec {t : List Int} {n : Int} (h : numS t = some n) : rng .i64 n ∧ itoaI n = t := by
  unfold numS at h
  split at h
  · rename_i hx
    simp only [Option.some.injEq] at h
    subst h
    exact hx.choose_spec
  · cases h

def nextS (ws : List Wd) (q : Bool) : Option (List Int × (List Wd × Unit)) := match ws with
  | [] => none
  | w :: r => if w.2.1 = q then some (w.1, (r, ())) else none
theorem next_eq (ws : List Wd) (hl : ws.length < 4294967296) (q : Bool) : script_reader_next (ws, ()) q = some (nextS ws q) := by
  unfold script_reader_next nextS
  simp only [bnd_eq]
  cases ws with
  | nil => rfl
  | cons w r =>
    obtain ⟨t, b, u⟩ := w
    have h0 : ((((t, b, u) :: r : List Wd).length : Int) == 0) = false := by simp; omega
    rw [h0]
    simp only [Bool.false_eq_true, if_false, List.getD_cons_zero]
    rw [if_pos ⟨by decide, by simp only [List.length_cons]; omega⟩]
    by_cases hq : b = q
    · subst hq
      simp only [bne_self_eq_false, Bool.false_eq_true, if_false, if_true]
      rw [if_pos ⟨by decide, by simp only [List.length_cons]; omega⟩, if_pos ⟨by decide, by simp only [List.length_cons]; omega, by omega⟩]
      simp
    · rw [if_pos (by simpa using hq), if_neg hq]
theorem name_eq (ws : List Wd) (hl : ws.length < 4294967296) : script_reader_name (ws, ()) = some (nextS ws false) := by
  unfold script_reader_name
  rw [next_eq ws hl, bind_eq]
  cases nextS ws false <;> rfl
theorem quote_eq (ws : List Wd) (hl : ws.length < 4294967296) : script_reader_quote (ws, ()) = some (nextS ws true) := by
  unfold script_reader_quote
  rw [next_eq ws hl, bind_eq]
  cases nextS ws true <;> rfl

noncomputable def numR (ws : List Wd) : Option (Int × (List Wd × Unit)) := (nextS ws false).bind fun p => (numS p.1).map fun n => (n, p.2)

/-- what the words are known for -/
def WdOk (ws : List Wd) : Prop := ws.length < 4294967296 ∧ ∀ w ∈ ws, byteOk w.1 ∧ w.1.length < 4294967296 ∧ (w.2.1 = false → w.1 ≠ [])

theorem number_eq (ws : List Wd) (hw : WdOk ws) : script_reader_number (ws, ()) = some (numR ws) := by
  unfold script_reader_number numR
  rw [name_eq ws hw.1, bind_eq]
  cases ws with
  | nil => rfl
  | cons w r =>
    obtain ⟨t, b, u⟩ := w
    obtain ⟨hb, hl, hne⟩ : byteOk t ∧ t.length < 4294967296 ∧ (b = false → t ≠ []) := hw.2 (t, b, u) (by simp)
    unfold nextS
    cases b with
    | true => rfl
    | false =>
      simp only [if_true, pb, Option.bind_some, bnd_eq]
      have hne := hne rfl
      rw [trim_eq, bind_eq]
      simp only [List.length_cons, List.length_nil, Nat.zero_add]
      -- the digits
      have hgood : ∀ (n : Int), itoaI n = t → ((strconv_FormatInt n 10).bind fun r8 => if (r8 != t) = true then (some none : Option (Option (Int × (List Wd × Unit)))) else some (some (n, (r, ())))) = some (some (n, (r, ()))) := by
        intro n he
        unfold strconv_FormatInt
        rw [if_pos rfl, bind_eq, he, if_neg (by simp)]
      have hbad : ∀ (n : Int), itoaI n ≠ t → ((strconv_FormatInt n 10).bind fun r8 => if (r8 != t) = true then (some none : Option (Option (Int × (List Wd × Unit)))) else some (some (n, (r, ())))) = some none := by
        intro n he
        unfold strconv_FormatInt
        rw [if_pos rfl, bind_eq, if_pos (by simpa using he)]
      have hnone : ∀ n, rng .i64 n → numS t = none → itoaI n ≠ t := fun n hn h he => by rw [← he, numS_some hn] at h; cases h
      have hpos : (0 : Int) ≤ 0 ∧ (0 : Int) < (t.length : Int) := ⟨by decide, by have := List.length_pos_iff.2 hne; omega⟩
      simp only [if_pos hpos]
      by_cases h45 : t.getD 0 0 = 45
      · -- below nought
        obtain ⟨s', rfl⟩ : ∃ s', t = 45 :: s' := by
          cases t with
          | nil => exact absurd rfl hne
          | cons c s' => simp at h45; exact ⟨s', by rw [h45]⟩
        have hs' := (byteOk_cons hb).2
        have e1 : (if ((45 :: s').take 1 == [45] && decide (1 ≤ (45 :: s').length)) = true then (45 :: s').drop 1 else 45 :: s') = s' := by simp
        rw [e1, num_l0 _ s' hs' _ 0 0 (by omega) (by omega) (by decide) (by decide), List.drop_zero]
        cases hS : numS (45 :: s') with
        | some m =>
          obtain ⟨hm, hi⟩ := numS_spec hS
          have hi2 := hi
          rw [itoaI_eq] at hi2
          by_cases hneg : m < 0
          · rw [if_pos hneg] at hi2
            simp only [List.cons.injEq, true_and] at hi2
            obtain ⟨d1, d2, d3⟩ := decI_all m.natAbs
            rw [hi2] at d1 d2
            have hv : negv 0 s' = m := by rw [negv_val]; simp only [Int.neg_zero]; rw [d2]; omega
            simp only [rng, lo, Sx.hi] at hm
            rw [numL_ok _ s' 0 (by decide) d1 (by rw [hv]; omega), hv]
            simp only [List.getD_cons_zero, bne_self_eq_false, Bool.false_eq_true, if_false]
            exact hgood m hi
          · rw [if_neg hneg] at hi2
            exact absurd hi2 (decI_nomin _ _)
        | none =>
          rcases numL_or _ s' 0 (by decide) (by decide) with h | ⟨h, h1, h2, h3⟩
          · rw [h]; rfl
          · rw [h]
            simp only [List.getD_cons_zero, bne_self_eq_false, Bool.false_eq_true, if_false]
            exact hbad _ (hnone _ (by simp only [rng, lo, Sx.hi]; omega) hS)
      · have e1 : (if (t.take 1 == [45] && decide (1 ≤ t.length)) = true then t.drop 1 else t) = t := by
          rw [if_neg]
          cases t with
          | nil => exact absurd rfl hne
          | cons c s' => simp at h45; simp [h45]
        have h45' : (t.getD 0 0 != 45) = true := by simpa using h45
        rw [e1, num_l0 _ t hb _ 0 0 (by rw [Nat.sub_zero]; exact Nat.lt_succ_self _) (Nat.zero_le _) (by decide) (by decide), List.drop_zero]
        simp only [if_pos h45']
        cases hS : numS t with
        | some m =>
          obtain ⟨hm, hi⟩ := numS_spec hS
          have hi2 := hi
          rw [itoaI_eq] at hi2
          by_cases hneg : m < 0
          · rw [if_pos hneg] at hi2
            rw [← hi2] at h45
            exact absurd rfl h45
          · rw [if_neg hneg] at hi2
            obtain ⟨d1, d2, d3⟩ := decI_all m.toNat
            rw [hi2] at d1 d2
            have hv : negv 0 t = -m := by rw [negv_val]; simp only [Int.neg_zero]; rw [d2]; omega
            simp only [rng, lo, Sx.hi] at hm
            rw [numL_ok _ t 0 (by decide) d1 (by rw [hv]; omega), hv]
            have w : IntKind.wrap .i64 (0 - -m) = m := by rw [wrap_i64 (by omega) (by omega)]; omega
            rw [if_neg (by simp; omega), w]
            exact hgood m hi
        | none =>
          rcases numL_or _ t 0 (by decide) (by decide) with h | ⟨h, h1, h2, h3⟩
          · rw [h]; rfl
          · rw [h]
            generalize negv 0 t = v at *
            by_cases hv : v = -9223372036854775808
            · rw [if_pos (by simpa using hv)]; rfl
            · rw [if_neg (by simpa using hv)]
              have w : IntKind.wrap .i64 (0 - v) = -v := by rw [wrap_i64 (by omega) (by omega)]; omega
              rw [w]
              exact hbad _ (hnone _ (by simp only [rng, lo, Sx.hi]; omega) hS)
end Sx
namespace Sx
open Go Go.RowKit

abbrev Fate := List Int × Int × Int × List Int × Unit
abbrev Step := Int × Int × Int × Int × List Int × List Int × List Int × List Fate × Unit
abbrev Wld := Int × Int × List (List Int) × List (List Int) × Int × Int × Unit
abbrev Cmd := Int × Wld × (Int × Int × Step × Unit) × Int × Int × Unit
abbrev Rd := List Wd × Unit
abbrev z32 : List Int := List.replicate 32 (0 : Int)
abbrev z2 : List (List Int) := List.replicate 2 ((List.replicate 32 (0 : Int)) : List (Int))
abbrev zStep : Step := (0, 0, 0, 0, z32, [], [], [], ())
abbrev zWld : Wld := (0, 0, z2, z2, 0, 0, ())

theorem pb_some {α β : Type} {o : Option α} {k : α → Option (Option β)} {F : α → Option β} (h : ∀ r, o = some r → k r = some (F r)) : pb o k = some (o.bind F) := by
  cases o with
  | none => rfl
  | some r => exact h r rfl
theorem ite_some {α : Type} {c : Prop} [Decidable c] {X Y : Option α} {A B : α} (h1 : c → X = some A) (h2 : ¬ c → Y = some B) : (if c then X else Y) = some (if c then A else B) := by
  by_cases h : c
  · rw [if_pos h, if_pos h]; exact h1 h
  · rw [if_neg h, if_neg h]; exact h2 h

theorem WdOk.tail {w : Wd} {r : List Wd} (h : WdOk (w :: r)) : WdOk r := ⟨by have := h.1; simp only [List.length_cons] at this; omega, fun x hx => h.2 x (by simp [hx])⟩
theorem next_ok {ws : List Wd} {q : Bool} {t : List Int} {r : Rd} (h : nextS ws q = some (t, r)) (hw : WdOk ws) : WdOk r.1 ∧ byteOk t ∧ t.length < 4294967296 ∧ ∃ w, ws = w :: r.1 := by
  cases ws with
  | nil => cases h
  | cons w ws =>
    unfold nextS at h
    simp only at h
    split at h
    · simp only [Option.some.injEq, Prod.mk.injEq] at h
      obtain ⟨rfl, rfl⟩ := h
      exact ⟨hw.tail, (hw.2 w (by simp)).1, (hw.2 w (by simp)).2.1, w, rfl⟩
    · cases h
theorem name_r (rd : Rd) (hw : WdOk rd.1) : script_reader_name rd = some (nextS rd.1 false) := name_eq rd.1 hw.1
theorem quote_r (rd : Rd) (hw : WdOk rd.1) : script_reader_quote rd = some (nextS rd.1 true) := quote_eq rd.1 hw.1
theorem number_r (rd : Rd) (hw : WdOk rd.1) : script_reader_number rd = some (numR rd.1) := number_eq rd.1 hw
theorem num_ok {ws : List Wd} {n : Int} {r : Rd} (h : numR ws = some (n, r)) (hw : WdOk ws) : WdOk r.1 := by
  unfold numR at h
  obtain ⟨⟨t, r2⟩, h1, h2⟩ := Option.bind_eq_some_iff.1 h
  obtain ⟨m, _, h3⟩ := Option.map_eq_some_iff.1 h2
  simp only [Prod.mk.injEq] at h3
  obtain ⟨rfl, rfl⟩ := h3
  exact (next_ok h1 hw).1
theorem count_r (rd : Rd) (hw : WdOk rd.1) : script_reader_count rd = some (numR rd.1) := by
  unfold script_reader_count
  rw [number_r rd hw, bind_eq]
  cases numR rd.1 <;> rfl

/-! ### hashes -/
def hexL : List Int → Option (List Int)
  | [] => some []
  | [_] => none
  | a :: b :: r => if hexd a < 0 ∨ hexd b < 0 then none else (hexL r).map fun h => (16 * hexd a + hexd b) :: h
def hashS (t : List Int) : Option (List Int) := if t.length = 64 then hexL t else none
def hashR (ws : List Wd) : Option (List Int × Rd) := (nextS ws false).bind fun p => (hashS p.1).map fun h => (h, p.2)
theorem set_rep (pre : List Int) (j : Nat) (x : Int) : List.set (pre ++ List.replicate (j + 1) 0) pre.length x = (pre ++ [x]) ++ List.replicate j 0 := by
  rw [List.set_append]
  simp [List.replicate_succ]
theorem hash_l0 (t : List Int) (r : Rd) (hb : byteOk t) (ht : t.length = 64) (K : List Int → Option (Option (List Int × Rd))) : ∀ (j i : Nat) (pre : List Int), i + j = 32 → pre.length = i →
    script_reader_hash_l0 (t, r) K (j + 1) ((i : Int), pre ++ List.replicate j 0) = match hexL (t.drop (2 * i)) with | none => some none | some h => K (pre ++ h)
  | 0, i, pre, hi, hp => by
    obtain rfl : i = 32 := by omega
    unfold script_reader_hash_l0
    rw [if_neg (by simp), List.drop_eq_nil_of_le (by omega)]
    simp [hexL]
  | j + 1, i, pre, hi, hp => by
    unfold script_reader_hash_l0
    simp only [bnd_eq]
    rw [if_pos (by simp; omega)]
    have w1 : IntKind.wrap .i64 (2 * (i : Int)) = ((2 * i : Nat) : Int) := by rw [wrap_i64 (by omega) (by omega)]; omega
    have w2 : IntKind.wrap .i64 (((2 * i : Nat) : Int) + 1) = ((2 * i + 1 : Nat) : Int) := by rw [wrap_i64 (by omega) (by omega)]; omega
    have w3 : IntKind.wrap .i64 ((i : Int) + 1) = ((i + 1 : Nat) : Int) := by rw [wrap_i64 (by omega) (by omega)]; omega
    rw [w1, w2, digit_eq t _ hb, digit_eq t _ hb]
    have g1 : t[2 * i]? = some (t.getD (2 * i) 0) := by simp [List.getD, show 2 * i < t.length by omega]
    have g2 : t[2 * i + 1]? = some (t.getD (2 * i + 1) 0) := by simp [List.getD, show 2 * i + 1 < t.length by omega]
    rw [g1, g2, drop_cons (show 2 * i < t.length by omega), drop_cons (show 2 * i + 1 < t.length by omega)]
    simp only [bind_eq, hexL]
    generalize t.getD (2 * i) 0 = a
    generalize t.getD (2 * i + 1) 0 = b
    by_cases hbad : hexd a < 0 ∨ hexd b < 0
    · rw [if_pos (by simpa using hbad), if_pos hbad]
    · rw [if_neg (by simpa using hbad), if_neg hbad, if_pos ⟨by omega, by omega⟩, w3, hex_byte (by omega) (by omega), Int.toNat_natCast]
      have e : List.set (pre ++ List.replicate (j + 1) 0) i (16 * hexd a + hexd b) = (pre ++ [16 * hexd a + hexd b]) ++ List.replicate j 0 := by rw [← hp]; exact set_rep pre j _
      rw [e, hash_l0 t r hb ht K j (i + 1) _ (by omega) (by simp [hp])]
      rw [show 2 * (i + 1) = 2 * i + 1 + 1 by omega]
      cases hexL (t.drop (2 * i + 1 + 1)) with
      | none => rfl
      | some h => simp
theorem hash_r (rd : Rd) (hw : WdOk rd.1) : script_reader_hash rd = some (hashR rd.1) := by
  unfold script_reader_hash hashR
  rw [name_r rd hw, bind_eq]
  refine pb_some fun p hp => ?_
  obtain ⟨t, r⟩ := p
  obtain ⟨_, hb, hl, _⟩ := next_ok hp hw
  simp only [bnd_eq, hashS]
  by_cases h64 : t.length = 64
  · rw [if_neg (by simp; omega), if_pos h64]
    have := hash_l0 t r hb h64 (fun o7 => some (some (o7, r))) 32 0 [] (by omega) rfl
    simp only [List.nil_append, Nat.mul_zero, List.drop_zero] at this
    have this2 : script_reader_hash_l0 (t, r) (fun o7 => some (some (o7, r))) (Int.toNat (32 - 0) + 1) (0, List.replicate 32 0) = _ := this
    rw [this2]
    cases hexL t <;> rfl
  · rw [if_pos (by simp; omega), if_neg h64]; rfl
theorem hash_ok {ws : List Wd} {h : List Int} {r : Rd} (e : hashR ws = some (h, r)) (hw : WdOk ws) : WdOk r.1 := by
  unfold hashR at e
  obtain ⟨⟨t, r2⟩, h1, h2⟩ := Option.bind_eq_some_iff.1 e
  obtain ⟨m, _, h3⟩ := Option.map_eq_some_iff.1 h2
  simp only [Prod.mk.injEq] at h3
  obtain ⟨rfl, rfl⟩ := h3
  exact (next_ok h1 hw).1

/-! ### fates -/
def kindF (t : List Int) : Option Int := if (t == [108, 111, 115, 116]) = true then some 0 else if (t == [107, 101, 112, 116]) = true then some 1 else if (t == [114, 101, 112, 108, 97, 99, 101]) = true then some 2 else none
/-- one fate -/
noncomputable def fateR (ws : List Wd) : Option (Fate × Rd) := (nextS ws false).bind fun p => (kindF p.1).bind fun k => (nextS p.2.1 true).bind fun f => (numR f.2.1).bind fun s =>
  if k = 2 then (nextS s.2.1 true).bind fun b => some ((f.1, s.1, k, b.1, ()), b.2) else some ((f.1, s.1, k, [], ()), s.2)
noncomputable def fatesF : Nat → List Wd → Option (List Fate)
  | 0, _ => none
  | _ + 1, [] => some []
  | m + 1, ws => (fateR ws).bind fun p => (fatesF m p.2.1).map fun l => p.1 :: l
theorem fate_ok {ws : List Wd} {f : Fate} {r : Rd} (h : fateR ws = some (f, r)) (hw : WdOk ws) : WdOk r.1 ∧ r.1.length < ws.length := by
  unfold fateR at h
  obtain ⟨⟨t, r1⟩, h1, h⟩ := Option.bind_eq_some_iff.1 h
  obtain ⟨k, _, h⟩ := Option.bind_eq_some_iff.1 h
  obtain ⟨⟨f1, r2⟩, h2, h⟩ := Option.bind_eq_some_iff.1 h
  obtain ⟨⟨s1, r3⟩, h3, h⟩ := Option.bind_eq_some_iff.1 h
  obtain ⟨w1, _, _, x1, e1⟩ := next_ok h1 hw
  obtain ⟨w2, _, _, x2, e2⟩ := next_ok h2 w1
  have h3' := h3
  unfold numR at h3'
  obtain ⟨⟨t4, r4⟩, g1, g2⟩ := Option.bind_eq_some_iff.1 h3'
  obtain ⟨m, _, g3⟩ := Option.map_eq_some_iff.1 g2
  simp only [Prod.mk.injEq] at g3
  obtain ⟨rfl, rfl⟩ := g3
  obtain ⟨w3, _, _, x3, e3⟩ := next_ok g1 w2
  simp only at e1 e2 e3 h
  split at h
  · obtain ⟨⟨b, r5⟩, h4, h⟩ := Option.bind_eq_some_iff.1 h
    simp only [Option.some.injEq, Prod.mk.injEq] at h
    obtain ⟨_, rfl⟩ := h
    obtain ⟨w4, _, _, x4, e4⟩ := next_ok h4 w3
    refine ⟨w4, ?_⟩
    rw [e1, e2, e3, e4]; simp only [List.length_cons]; omega
  · simp only [Option.some.injEq, Prod.mk.injEq] at h
    obtain ⟨_, rfl⟩ := h
    refine ⟨w3, ?_⟩
    rw [e1, e2, e3]; simp only [List.length_cons]; omega
theorem fates_l0 : ∀ (m : Nat) (ws : List Wd) (acc : List Fate), ws.length < m → WdOk ws → acc.length + ws.length ≤ 4294967296 →
    script_reader_fates_l0 (fun o2 => some (some (o2.1, o2.2))) m ((ws, ()), acc) = some ((fatesF m ws).map fun l => (acc ++ l, ([], ())))
  | 0, _, _, h, _, _ => absurd h (Nat.not_lt_zero _)
  | m + 1, [], acc, _, _, _ => by
    unfold script_reader_fates_l0
    rw [if_neg (by simp)]
    simp [fatesF]
  | m + 1, w :: ws, acc, hm, hw, hacc => by
    have hz : (decide (((((w :: ws, ()), acc) : Rd × List Fate).1.1.length : Int) > 0)) = true := by simp <;> omega
    have last : ∀ (f : Fate) (r : Rd), fateR (w :: ws) = some (f, r) →
        (if (acc.length + [f].length) * 48 ≤ 140737488355328 then script_reader_fates_l0 (fun o2 => some (some (o2.1, o2.2))) m (r, acc ++ [f]) else none) = some ((fatesF m r.1).map fun l => (acc ++ f :: l, ([], ()))) := by
      intro f r hf
      obtain ⟨h1, h2⟩ := fate_ok hf hw
      simp only [List.length_cons] at hm hacc h2
      rw [if_pos (by simp only [List.length_cons, List.length_nil]; omega)]
      have := fates_l0 m r.1 (acc ++ [f]) (by omega) h1 (by simp; omega)
      rw [show ((r.1, ()) : Rd) = r from rfl] at this
      rw [this]
      simp
    have e : fatesF (m + 1) (w :: ws) = (fateR (w :: ws)).bind fun p => (fatesF m p.2.1).map fun l => p.1 :: l := rfl
    have e2 : ((fatesF (m + 1) (w :: ws)).map fun l => (acc ++ l, (([], ()) : Rd))) = (fateR (w :: ws)).bind fun p => (fatesF m p.2.1).map fun l => (acc ++ p.1 :: l, (([], ()) : Rd)) := by
      rw [e]; cases fateR (w :: ws) with
      | none => rfl
      | some p => simp [Option.map_map, Function.comp_def]
    rw [e2]
    unfold script_reader_fates_l0
    rw [if_pos hz]
    simp only [bnd_eq]
    generalize hF : fateR (w :: ws) = F at last ⊢
    unfold fateR at hF
    rw [name_r _ hw, bind_eq]
    simp only
    cases h1 : nextS (w :: ws) false with
    | none => rw [h1] at hF; subst hF; rfl
    | some p1 =>
      obtain ⟨w1, _⟩ := next_ok h1 hw
      rw [h1] at hF
      simp only [Option.bind_some] at hF
      simp only [pb]
      have body : ∀ k : Int, kindF p1.1 = some k → ((script_reader_quote p1.2).bind fun or13 => pb or13 fun r13 => (script_reader_count r13.2).bind fun or14 => pb or14 fun r14 =>
          if (k == 2) = true then (script_reader_quote r14.2).bind fun or19 => pb or19 fun r19 =>
            (if (acc.length + [((r13.1, r14.1, k, r19.1, ()) : Fate)].length) * 48 ≤ 140737488355328 then script_reader_fates_l0 (fun o2 => some (some (o2.1, o2.2))) m (r19.2, acc ++ [(r13.1, r14.1, k, r19.1, ())]) else none)
          else (if (acc.length + [((r13.1, r14.1, k, [], ()) : Fate)].length) * 48 ≤ 140737488355328 then script_reader_fates_l0 (fun o2 => some (some (o2.1, o2.2))) m (r14.2, acc ++ [(r13.1, r14.1, k, [], ())]) else none)) =
          some (F.bind fun p => (fatesF m p.2.1).map fun l => (acc ++ p.1 :: l, (([], ()) : Rd))) := by
        intro k hk
        rw [hk] at hF
        simp only [Option.bind_some] at hF
        rw [quote_r _ w1, bind_eq]
        cases h2 : nextS p1.2.1 true with
        | none => rw [h2] at hF; subst hF; rfl
        | some p2 =>
          obtain ⟨w2, _⟩ := next_ok h2 w1
          rw [h2] at hF
          simp only [Option.bind_some] at hF
          simp only [pb]
          rw [count_r _ w2, bind_eq]
          cases h3 : numR p2.2.1 with
          | none => rw [h3] at hF; subst hF; rfl
          | some p3 =>
            have w3 := num_ok h3 w2
            rw [h3] at hF
            simp only [Option.bind_some] at hF
            simp only [pb]
            by_cases hk2 : k = 2
            · subst hk2
              rw [if_pos rfl] at hF
              rw [if_pos (by decide)]
              rw [quote_r _ w3, bind_eq]
              cases h4 : nextS p3.2.1 true with
              | none => rw [h4] at hF; subst hF; rfl
              | some p4 =>
                rw [h4] at hF
                simp only [Option.bind_some] at hF
                subst hF
                simp only [pb, Option.bind_some]
                exact last _ _ rfl
            · rw [if_neg hk2] at hF
              rw [if_neg (by simpa using hk2)]
              subst hF
              exact last _ _ rfl
      unfold kindF at body hF
      by_cases c1 : (p1.1 == [108, 111, 115, 116]) = true
      · rw [if_pos c1]; exact body 0 (by rw [if_pos c1])
      · rw [if_neg c1]
        by_cases c2 : (p1.1 == [107, 101, 112, 116]) = true
        · rw [if_pos c2]; exact body 1 (by rw [if_neg c1, if_pos c2])
        · rw [if_neg c2]
          by_cases c3 : (p1.1 == [114, 101, 112, 108, 97, 99, 101]) = true
          · rw [if_pos c3]; exact body 2 (by rw [if_neg c1, if_neg c2, if_pos c3])
          · rw [if_neg c3]
            rw [if_neg c1, if_neg c2, if_neg c3] at hF
            subst hF; rfl
noncomputable def fatesR (ws : List Wd) : Option (List Fate × Rd) := (fatesF (ws.length + 1) ws).map fun l => (l, ([], ()))
theorem fates_r (rd : Rd) (hw : WdOk rd.1) : script_reader_fates rd = some (fatesR rd.1) := by
  unfold script_reader_fates fatesR
  simp only [bnd_eq]
  have := fates_l0 (rd.1.length + 1) rd.1 [] (by omega) hw (by have := hw.1; simp; omega)
  simpa using this
end Sx
namespace Sx
open Go Go.RowKit

/-! ### kinds by their word -/
def bareK (w : List Int) : Option Int := if w = [] then some 1 else if w = [115, 105, 103, 110] then some 4 else if w = [99, 108, 111, 115, 101] then some 5 else if w = [99, 111, 110, 110, 101, 99, 116] then some 6
  else if w = [100, 105, 115, 99, 111, 110, 110, 101, 99, 116] then some 7 else if w = [99, 104, 101, 99, 107, 112, 111, 105, 110, 116] then some 9 else if w = [111, 112, 101, 110] then some 13 else none
def askK (w : List Int) : Option Int := if w = [] then some 1 else if w = [115, 116, 97, 116, 101] then some 4 else if w = [108, 101, 100, 103, 101, 114] then some 5 else if w = [109, 97, 114, 107] then some 6 else if w = [112, 105, 112, 101] then some 7 else if w = [102, 105, 108, 101, 115] then some 8 else none
theorem eqc {x w : List Int} {α : Type} {A B : α} : (if (x == w) = true then A else B) = if w = x then A else B := by
  by_cases h : w = x
  · rw [if_pos h, if_pos (by simp [h])]
  · rw [if_neg h, if_neg (by simpa using fun e => h e.symm)]
theorem bare_eq (w : List Int) : script_kindOf_bare 13 w = some (bareK w) := by
  unfold script_kindOf_bare
  simp only [bnd_eq]
  have e : Int.toNat (13 + 1 - 1) + 1 = 14 := rfl
  rw [e]
  simp (decide := true) only [script_kindOf_bare_l0, script_bare, bnd_eq, bind_eq, if_true, if_false, eqc, IntKind.wrap, IntKind.bits, IntKind.signed]
  unfold bareK
  by_cases h : w = []
  · simp [h]
  · simp only [h, if_false]
    repeat' (first | (split <;> try rfl))
theorem ask_eq (w : List Int) : script_kindOf_question 8 w = some (askK w) := by
  unfold script_kindOf_question
  simp only [bnd_eq]
  have e : Int.toNat (8 + 1 - 1) + 1 = 9 := rfl
  rw [e]
  simp (decide := true) only [script_kindOf_question_l0, script_question, bnd_eq, bind_eq, if_true, if_false, eqc, IntKind.wrap, IntKind.bits, IntKind.signed]
  unfold askK
  by_cases h : w = []
  · simp [h]
  · simp only [h, if_false]
    repeat' (first | (split <;> try rfl))

/-! ### steps and commands -/
noncomputable def stepR (ws : List Wd) : Option (Step × Rd) := (nextS ws false).bind fun r2 => if (r2.1 == [111, 102, 102, 101, 114]) = true then ((numR r2.2.1).bind fun r3 => (hashR r3.2.1).bind fun r4 => some ((1, r3.1, 0, 0, r4.1, [], [], [], ()), r4.2)) else (if (r2.1 == [115, 101, 116, 116, 108, 101]) = true then ((numR r2.2.1).bind fun r5 => (hashR r5.2.1).bind fun r6 => some ((2, 0, r5.1, 0, r6.1, [], [], [], ()), r6.2)) else (if (r2.1 == [114, 101, 102, 117, 115, 101]) = true then ((numR r2.2.1).bind fun r7 => (nextS r7.2.1 true).bind fun r8 => some ((3, 0, r7.1, 0, z32, r8.1, [], [], ()), r8.2)) else (if (r2.1 == [116, 97, 107, 101]) = true then ((nextS r2.2.1 true).bind fun r9 => some ((8, 0, 0, 0, z32, [], r9.1, [], ()), r9.2)) else (if (r2.1 == [97, 114, 109]) = true then ((numR r2.2.1).bind fun r10 => some ((10, 0, 0, r10.1, z32, [], [], [], ()), r10.2)) else (if (r2.1 == [102, 97, 108, 108]) = true then ((numR r2.2.1).bind fun r11 => some ((11, 0, 0, r11.1, z32, [], [], [], ()), r11.2)) else (if (r2.1 == [99, 114, 97, 115, 104]) = true then ((numR r2.2.1).bind fun r12 => (fatesR r12.2.1).bind fun r13 => some ((12, 0, 0, r12.1, z32, [], [], r13.1, ()), r13.2)) else ((bareK r2.1).bind fun r15 => some ((r15, 0, 0, 0, z32, [], [], [], ()), r2.2))))))))
theorem step_r (rd : Rd) (hw : WdOk rd.1) : script_reader_step rd = some (stepR rd.1) := by
  unfold script_reader_step stepR
  rw [name_r rd hw, bind_eq]
  refine pb_some fun r2 h2 => ?_
  have w2 := (next_ok h2 hw).1
  refine ite_some (fun _ => ?_) (fun _ => ?_)
  · rw [number_r _ w2, bind_eq]; refine pb_some fun r3 h3 => ?_
    have w3 := num_ok h3 w2
    rw [hash_r _ w3, bind_eq]; exact pb_some fun r4 h4 => rfl
  refine ite_some (fun _ => ?_) (fun _ => ?_)
  · rw [number_r _ w2, bind_eq]; refine pb_some fun r3 h3 => ?_
    have w3 := num_ok h3 w2
    rw [hash_r _ w3, bind_eq]; exact pb_some fun r4 h4 => rfl
  refine ite_some (fun _ => ?_) (fun _ => ?_)
  · rw [number_r _ w2, bind_eq]; refine pb_some fun r3 h3 => ?_
    have w3 := num_ok h3 w2
    rw [quote_r _ w3, bind_eq]; exact pb_some fun r4 h4 => rfl
  refine ite_some (fun _ => ?_) (fun _ => ?_)
  · rw [quote_r _ w2, bind_eq]; exact pb_some fun r4 h4 => rfl
  refine ite_some (fun _ => ?_) (fun _ => ?_)
  · rw [number_r _ w2, bind_eq]; exact pb_some fun r4 h4 => rfl
  refine ite_some (fun _ => ?_) (fun _ => ?_)
  · rw [number_r _ w2, bind_eq]; exact pb_some fun r4 h4 => rfl
  refine ite_some (fun _ => ?_) (fun _ => ?_)
  · rw [number_r _ w2, bind_eq]; refine pb_some fun r3 h3 => ?_
    have w3 := num_ok h3 w2
    rw [fates_r _ w3, bind_eq]; exact pb_some fun r4 h4 => rfl
  · rw [bare_eq, bind_eq]; exact pb_some fun r4 h4 => rfl
noncomputable def cmdR (ws : List Wd) : Option (Cmd × Rd) := (nextS ws false).bind fun r2 => if (r2.1 == [119, 111, 114, 108, 100]) = true then ((numR r2.2.1).bind fun r4 => (numR r4.2.1).bind fun r5 => (numR r5.2.1).bind fun r6 => (numR r6.2.1).bind fun r7 => (hashR r7.2.1).bind fun r8 => (hashR r8.2.1).bind fun r9 => (hashR r9.2.1).bind fun r10 => (hashR r10.2.1).bind fun r11 => some ((1, (r4.1, r5.1, [r8.1, r9.1], [r10.1, r11.1], r6.1, r7.1, ()), (0, 0, zStep, ()), 0, 0, ()), r11.2)) else (if (r2.1 == [115, 116, 101, 112]) = true then ((numR r2.2.1).bind fun r12 => (stepR r12.2.1).bind fun r13 => some ((2, zWld, (1, r12.1, r13.1, ()), 0, 0, ()), r13.2)) else (if (r2.1 == [106, 111, 105, 110]) = true then (some ((2, zWld, (2, 0, zStep, ()), 0, 0, ()), r2.2)) else (if (r2.1 == [99, 117, 116]) = true then (some ((2, zWld, (3, 0, zStep, ()), 0, 0, ()), r2.2)) else (if (r2.1 == [100, 101, 108, 105, 118, 101, 114]) = true then ((numR r2.2.1).bind fun r14 => some ((2, zWld, (4, r14.1, zStep, ()), 0, 0, ()), r14.2)) else (if (r2.1 == [108, 111, 115, 101]) = true then ((numR r2.2.1).bind fun r15 => some ((2, zWld, (5, r15.1, zStep, ()), 0, 0, ()), r15.2)) else (if (r2.1 == [113, 117, 105, 101, 116]) = true then ((numR r2.2.1).bind fun r16 => some ((3, zWld, (0, 0, zStep, ()), r16.1, 0, ()), r16.2)) else (if (r2.1 == [106, 111, 105, 110, 101, 100]) = true then (some ((9, zWld, (0, 0, zStep, ()), 0, 0, ()), r2.2)) else ((askK r2.1).bind fun r17 => (numR r2.2.1).bind fun r18 => some ((r17, zWld, (0, 0, zStep, ()), 0, r18.1, ()), r18.2)))))))))
theorem cmd_r (rd : Rd) (hw : WdOk rd.1) : script_reader_command rd = some (cmdR rd.1) := by
  unfold script_reader_command cmdR
  rw [name_r rd hw, bind_eq]
  refine pb_some fun r2 h2 => ?_
  have w2 := (next_ok h2 hw).1
  refine ite_some (fun _ => ?_) (fun _ => ?_)
  · rw [number_r _ w2, bind_eq]; refine pb_some fun r4 h4 => ?_
    have w4 := num_ok h4 w2
    rw [number_r _ w4, bind_eq]; refine pb_some fun r5 h5 => ?_
    have w5 := num_ok h5 w4
    rw [count_r _ w5, bind_eq]; refine pb_some fun r6 h6 => ?_
    have w6 := num_ok h6 w5
    rw [count_r _ w6, bind_eq]; refine pb_some fun r7 h7 => ?_
    have w7 := num_ok h7 w6
    rw [hash_r _ w7, bind_eq]; refine pb_some fun r8 h8 => ?_
    have w8 := hash_ok h8 w7
    rw [hash_r _ w8, bind_eq]; refine pb_some fun r9 h9 => ?_
    have w9 := hash_ok h9 w8
    rw [if_pos ⟨by decide, by decide⟩, if_pos ⟨by decide, by decide⟩, hash_r _ w9, bind_eq]; refine pb_some fun r10 h10 => ?_
    have w10 := hash_ok h10 w9
    rw [hash_r _ w10, bind_eq]; refine pb_some fun r11 h11 => ?_
    rw [if_pos ⟨by decide, by decide⟩, if_pos ⟨by decide, by decide⟩]
    rfl
  refine ite_some (fun _ => ?_) (fun _ => ?_)
  · rw [count_r _ w2, bind_eq]; refine pb_some fun r3 h3 => ?_
    have w3 := num_ok h3 w2
    rw [step_r _ w3, bind_eq]; exact pb_some fun r4 h4 => rfl
  refine ite_some (fun _ => rfl) (fun _ => ?_)
  refine ite_some (fun _ => rfl) (fun _ => ?_)
  refine ite_some (fun _ => ?_) (fun _ => ?_)
  · rw [count_r _ w2, bind_eq]; exact pb_some fun r4 h4 => rfl
  refine ite_some (fun _ => ?_) (fun _ => ?_)
  · rw [count_r _ w2, bind_eq]; exact pb_some fun r4 h4 => rfl
  refine ite_some (fun _ => ?_) (fun _ => ?_)
  · rw [number_r _ w2, bind_eq]; exact pb_some fun r4 h4 => rfl
  refine ite_some (fun _ => rfl) (fun _ => ?_)
  rw [ask_eq, bind_eq]; refine pb_some fun r4 h4 => ?_
  rw [count_r _ w2, bind_eq]; exact pb_some fun r5 h5 => rfl

/-! ### the whole text -/
theorem wrds_ok : ∀ (n : Nat) (s : List Int), s.length ≤ n → byteOk s → ∀ ws, wrds s = some ws → ws ≠ [] ∧ ws.length ≤ s.length ∧ ∀ w ∈ ws, byteOk w.1 ∧ w.1.length ≤ s.length ∧ (w.2.1 = false → w.1 ≠ []) := by
  intro n
  induction n with
  | zero =>
    intro s hl hs ws h
    obtain rfl := List.length_eq_zero_iff.1 (Nat.le_zero.1 hl)
    rw [wrds_eq hs] at h
    simp [word1] at h
  | succ n ih =>
    intro s hl hs ws h
    rw [wrds_eq hs] at h
    cases hw : word1 s with
    | none => rw [hw] at h; cases h
    | some x =>
      obtain ⟨w, r⟩ := x
      rw [hw] at h
      obtain ⟨p, rfl, hp, hr, hb, hwl, hne⟩ := word1_rest hs hw
      have hw0 : byteOk w.1 ∧ w.1.length ≤ (p ++ r).length ∧ (w.2.1 = false → w.1 ≠ []) := ⟨hb, by simp; omega, fun e => (hne e).1⟩
      cases r with
      | nil =>
        simp only [Option.some.injEq] at h
        subst h
        refine ⟨by simp, by simp; omega, fun x hx => ?_⟩
        obtain rfl := List.mem_singleton.1 hx
        exact hw0
      | cons c r =>
        simp only at h
        split at h
        · obtain ⟨ws', h1, rfl⟩ := Option.map_eq_some_iff.1 h
          obtain ⟨_, hr⟩ := byteOk_cons hr
          simp only [List.length_append, List.length_cons] at hl
          obtain ⟨_, g1, g2⟩ := ih r (by omega) hr ws' h1
          refine ⟨by simp, by simp; omega, fun x hx => ?_⟩
          rcases List.mem_cons.1 hx with rfl | hx
          · exact hw0
          · obtain ⟨q1, q2, q3⟩ := g2 x hx
            exact ⟨q1, by simp; omega, q3⟩
        · cases h
theorem wrds_WdOk {s : List Int} (hs : byteOk s) (hl : s.length < 4294967281) {ws : List Wd} (h : wrds s = some ws) : WdOk ws := by
  obtain ⟨_, h1, h2⟩ := wrds_ok _ s (Nat.le_refl _) hs ws h
  exact ⟨by omega, fun w hw => by obtain ⟨a, b, c⟩ := h2 w hw; exact ⟨a, by omega, c⟩⟩

/-- what a line says -/
noncomputable def lineS (s : List Int) : Option Cmd := (wrds s).bind fun ws => (cmdR ws).bind fun p => if p.2.1 = [] then some p.1 else none
/-- a line that says nothing -/
def mute (s : List Int) : Prop := s = [] ∨ s.headD 0 = 35
instance (s : List Int) : Decidable (mute s) := by unfold mute; exact inferInstance
noncomputable def linesS : List (List Int) → Option (List Cmd)
  | [] => some []
  | s :: r => if mute s then linesS r else (lineS s).bind fun c => (linesS r).map fun l => c :: l
/-- the lines that count -/
def lnsE (t : List Int) : List (List Int) := if (lns t).getLastD [] = [] then (lns t).dropLast else lns t
def longS (t : List Int) : Bool := decide (65536 < t.length) || ((lnsE t).any fun x => decide (4096 < x.length)) || decide (1024 < (lnsE t).length)
noncomputable def parseS (t : List Int) : List Cmd × Int := if longS t then ([], 3) else match linesS (lns t) with | none => ([], 250) | some l => (l, 0)

theorem long_l0 (l : List (List Int)) (hl : l.length < 4294967296) (K : Unit → Option Bool) : ∀ (m i : Nat), i + m = l.length → script_long_l0 l K (m + 1) (i : Int) = if (l.drop i).any (fun x => decide (4096 < x.length)) then some true else K ()
  | 0, i, h => by
    unfold script_long_l0
    rw [if_neg (by simp; omega), List.drop_eq_nil_of_le (by omega)]; rfl
  | m + 1, i, h => by
    unfold script_long_l0
    rw [if_pos (by simp; omega), if_pos ⟨by omega, by omega⟩]
    simp only [bnd_eq, Int.toNat_natCast]
    have hi : i < l.length := by omega
    have e : l.drop i = l.getD i [] :: l.drop (i + 1) := by rw [List.drop_eq_getElem_cons hi]; simp [List.getD, hi]
    have w : IntKind.wrap .i64 ((i : Int) + 1) = ((i + 1 : Nat) : Int) := by rw [wrap_i64 (by omega) (by omega)]; omega
    rw [e, List.any_cons, w, long_l0 l hl K m (i + 1) (by omega)]
    generalize l.getD i [] = x
    by_cases h4 : 4096 < x.length
    · rw [if_pos (by simp; omega)]; simp [h4]
    · rw [if_neg (by simp; omega)]
      have : decide (4096 < x.length) = false := by simpa using h4
      rw [this, Bool.false_or]
theorem lns_len (t : List Int) : (lns t).length ≤ t.length + 1 := by
  induction t with
  | nil => simp [lns]
  | cons b l ih =>
    unfold lns
    split
    · simp; omega
    · split
      · simp
      · rename_i x r h
        rw [h] at ih
        simp only [List.length_cons] at ih ⊢; omega
theorem lns_parts {t : List Int} : ∀ x ∈ lns t, x.length ≤ t.length := by
  induction t with
  | nil => intro x hx; simp [lns] at hx; subst hx; simp
  | cons b l ih =>
    intro x hx
    unfold lns at hx
    split at hx
    · rcases List.mem_cons.1 hx with rfl | hx
      · simp
      · have := ih x hx; simp; omega
    · split at hx
      · simp at hx; subst hx; simp
      · rename_i y r hy
        rcases List.mem_cons.1 hx with rfl | hx
        · have := ih y (by rw [hy]; simp); simp; omega
        · have := ih x (by rw [hy]; simp [hx]); simp; omega
theorem long_eq {t : List Int} (ht : byteOk t) : script_long t = some (longS t) := by
  unfold script_long longS
  by_cases h : 65536 < t.length
  · rw [if_pos (by simp; omega)]; simp [h]
  · rw [if_neg (by simp; omega), split_eq t ht (by omega), bind_eq]
    simp only [bnd_eq]
    have hne := List.length_pos_iff.2 (lns_ne t)
    have hll := lns_len t
    have w : IntKind.wrap .i64 (((lns t).length : Int) - 1) = (((lns t).length - 1 : Nat) : Int) := by rw [wrap_i64 (by omega) (by omega)]; omega
    rw [w, if_pos ⟨by omega, by omega⟩, Int.toNat_natCast]
    have hd : decide (65536 < t.length) = false := by simpa using h
    rw [hd, Bool.false_or]
    have hlast : (lns t).getD ((lns t).length - 1) [] = (lns t).getLastD [] := by
      rw [List.getLastD_eq_getLast?, List.getLast?_eq_getElem?]; rfl
    rw [hlast]
    have fin : ∀ l : List (List Int), l.length ≤ t.length + 1 → script_long_l0 l (fun _ => some (decide ((l.length : Int) > 1024))) (Int.toNat ((l.length : Int) - 0) + 1) 0 = some ((l.any fun x => decide (4096 < x.length)) || decide (1024 < l.length)) := by
      intro l hl
      have := long_l0 l (by omega) (fun _ => some (decide ((l.length : Int) > 1024))) l.length 0 (by omega)
      have e : Int.toNat ((l.length : Int) - 0) + 1 = l.length + 1 := by omega
      rw [e, show (0 : Int) = ((0 : Nat) : Int) from rfl, this, List.drop_zero]
      by_cases ha : (l.any fun x => decide (4096 < x.length)) = true
      · rw [if_pos ha, ha]; rfl
      · rw [if_neg ha]
        have : (l.any fun x => decide (4096 < x.length)) = false := by simpa using ha
        rw [this, Bool.false_or]
        congr 1
        apply Bool.eq_iff_iff.2
        simp; omega
    unfold lnsE
    by_cases he : (lns t).getLastD [] = []
    · rw [if_pos (by simpa using he), if_pos he, if_pos ⟨by decide, by omega, by omega⟩]
      rw [List.drop_zero, ← List.dropLast_eq_take]
      exact fin _ (by simp; omega)
    · rw [if_neg (by simpa using he), if_neg he]
      exact fin _ hll

theorem parse_l0 (L : List (List Int)) (hL : L.length < 4294967296) (hb : ∀ s ∈ L, byteOk s ∧ s.length < 4294967281) : ∀ (m i : Nat) (acc : List Cmd), i + m = L.length → acc.length ≤ i →
    (script_Parse_in_l0 (fun o5 => some (some (o5, 0))) L (m + 1) ((i : Int), acc)).map (fun o => o.getD ([], 250)) = some (match linesS (L.drop i) with | none => ([], 250) | some l => (acc ++ l, 0))
  | 0, i, acc, h, ha => by
    unfold script_Parse_in_l0
    rw [if_neg (by simp; omega), List.drop_eq_nil_of_le (by omega)]
    simp [linesS]
  | m + 1, i, acc, h, ha => by
    unfold script_Parse_in_l0
    rw [if_pos (by simp; omega)]
    simp only [bnd_eq, Int.toNat_natCast]
    have hi : i < L.length := by omega
    rw [if_pos ⟨by omega, by omega⟩]
    have e : L.drop i = L.getD i [] :: L.drop (i + 1) := by rw [List.drop_eq_getElem_cons hi]; simp [List.getD, hi]
    have w : IntKind.wrap .i64 ((i : Int) + 1) = ((i + 1 : Nat) : Int) := by rw [wrap_i64 (by omega) (by omega)]; omega
    have hs := hb (L.getD i []) (by rw [show L.getD i [] = L[i] by simp [List.getD, hi]]; exact List.getElem_mem hi)
    rw [e, linesS, w]
    generalize L.getD i [] = s at hs
    have ih := fun acc h => parse_l0 L hL hb m (i + 1) acc (by omega) h
    by_cases hm : mute s
    · rw [if_pos hm]
      rcases hm with rfl | h35
      · simp only [beq_self_eq_true, if_true]
        exact ih acc (by omega)
      · cases s with
        | nil => simp at h35
        | cons c r =>
          simp only [List.headD_cons] at h35
          subst h35
          have e1 : ((35 :: r : List Int) == []) = false := rfl
          rw [e1]
          simp only [Bool.false_eq_true, if_false]
          rw [if_pos ⟨by decide, by simp only [List.length_cons]; omega⟩]
          simp only [List.getD_cons_zero, beq_self_eq_true, if_true]
          exact ih acc (by omega)
    · rw [if_neg hm]
      unfold mute at hm
      rw [not_or] at hm
      have e1 : (s == []) = false := by simpa using hm.1
      rw [e1]
      simp only [Bool.false_eq_true, if_false]
      have hpos := List.length_pos_iff.2 hm.1
      rw [if_pos ⟨by decide, by omega⟩]
      have e2 : (s.getD 0 0 == 35) = false := by
        cases s with
        | nil => simp at hpos
        | cons c r => simpa using hm.2
      rw [e2]
      simp only [Bool.false_eq_true, if_false]
      rw [words_eq hs.1 hs.2, bind_eq]
      unfold lineS
      cases hw : wrds s with
      | none => rfl
      | some ws =>
        have hok := wrds_WdOk hs.1 hs.2 hw
        simp only [pb, Option.bind_some]
        rw [cmd_r (ws, ()) hok, bind_eq]
        cases hc : cmdR ws with
        | none => rfl
        | some p =>
          obtain ⟨c, r⟩ := p
          simp only [pb, Option.bind_some]
          rw [if_pos (by simp only [List.length_cons, List.length_nil]; omega)]
          by_cases hr : r.1 = []
          · rw [if_neg (by rw [hr]; simp), if_pos hr]
            rw [ih (acc ++ [c]) (by simp; omega)]
            simp only [Option.bind_some]
            cases linesS (L.drop (i + 1)) with
            | none => rfl
            | some l => simp
          · have := List.length_pos_iff.2 hr
            rw [if_pos (by simp; omega), if_neg hr]; rfl
/-- Parse is what the definition says -/
theorem parse_eq {t : List Int} (ht : byteOk t) : script_Parse t = some (parseS t) := by
  unfold script_Parse script_Parse_in parseS
  rw [long_eq ht, bind_eq]
  by_cases h : longS t = true
  · rw [if_pos h, if_pos h]; rfl
  · rw [if_neg h, if_neg h]
    simp only [bnd_eq]
    have hlen : t.length ≤ 65536 := by
      unfold longS at h
      simp only [Bool.or_eq_true, not_or, decide_eq_true_eq] at h
      omega
    rw [split_eq t ht (by omega), bind_eq]
    have hll := lns_len t
    have := parse_l0 (lns t) (by omega) (fun s hs => ⟨lns_ok ht s hs, by have := lns_parts s hs; omega⟩) (lns t).length 0 [] (by omega) (by simp)
    have e : Int.toNat (((lns t).length : Int) - 0) + 1 = (lns t).length + 1 := by omega
    rw [e, show (0 : Int) = ((0 : Nat) : Int) from rfl] 
    rw [List.drop_zero] at this
    simp only [List.nil_append] at this
    exact this
end Sx
namespace Sx
open Go
example : itoaI 12 = [49, 50] := by decide +kernel
theorem head_true : escrowlaw25_head = some true := by kernel_rfl
end Sx
namespace Sx
open Go Go.RowKit

def HEX : List Int := [48, 49, 50, 51, 52, 53, 54, 55, 56, 57, 97, 98, 99, 100, 101, 102]
def hxc (n : Nat) : Int := HEX.getD n 0
theorem hxc_all : ∀ n : Fin 16, hexd (hxc n.val) = (n.val : Int) ∧ 48 ≤ hxc n.val ∧ hxc n.val ≤ 102 := by decide +kernel
def escx (c : Int) : List Int := [92, 120, hxc (c.toNat / 16), hxc (c.toNat % 16)]
def esc (c : Int) : List Int := if c = 34 ∨ c = 92 then [92, c] else if 32 ≤ c ∧ c ≤ 126 then [c] else escx c
theorem nib : ∀ c : Fin 256, ishr .u8 (c.val : Int) 4 = ((c.val / 16 : Nat) : Int) ∧ iand .u8 (c.val : Int) 15 = ((c.val % 16 : Nat) : Int) := by decide +kernel
theorem nib_eq {c : Int} (h : 0 ≤ c ∧ c < 256) : ishr .u8 c 4 = ((c.toNat / 16 : Nat) : Int) ∧ iand .u8 c 15 = ((c.toNat % 16 : Nat) : Int) := by
  have := nib ⟨c.toNat, by omega⟩
  simp only at this
  rwa [show ((c.toNat : Nat) : Int) = c by omega] at this

theorem quote_l0 (s : List Int) (hs : byteOk s) (hl : s.length < 4294967296) (K : List Int → Option (List Int)) : ∀ (m i : Nat) (acc : List Int), i + m = s.length → acc.length ≤ 4 * i + 1 → script_Quote_l0 s K (m + 1) ((i : Int), acc) = K (acc ++ (s.drop i).flatMap esc)
  | 0, i, acc, h, _ => by
    unfold script_Quote_l0
    rw [if_neg (by simp; omega), List.drop_eq_nil_of_le (by omega)]; simp
  | m + 1, i, acc, h, ha => by
    unfold script_Quote_l0
    have hi : i < s.length := by omega
    rw [if_pos (by simp; omega)]
    simp only [bnd_eq, Int.toNat_natCast]
    rw [if_pos ⟨by omega, by omega⟩, drop_cons hi]
    have hc := getD_byte hs i
    generalize s.getD i 0 = c at hc
    have w : IntKind.wrap .i64 ((i : Int) + 1) = ((i + 1 : Nat) : Int) := by rw [wrap_i64 (by omega) (by omega)]; omega
    have ih := fun acc h => quote_l0 s hs hl K m (i + 1) acc (by omega) h
    have hB : ∀ (a : List Int) (c : Int), a.length + 1 ≤ 140737488355328 → strings_Builder_WriteByte a c = some (.nilIface, a ++ [c]) := fun a c h => by unfold strings_Builder_WriteByte; rw [if_pos h]
    have hS : strings_Builder_WriteString acc [92, 120] = some (2, .nilIface, acc ++ [92, 120]) := by unfold strings_Builder_WriteString; rw [if_pos ⟨by simp, by simp; omega⟩]; rfl
    rw [w, List.flatMap_cons, ← List.append_assoc]
    by_cases h1 : c = 34 ∨ c = 92
    · have e : (c == 34 || c == 92) = true := by simpa using h1
      rw [if_pos e, hB _ _ (by omega), bind_eq, hB _ _ (by simp; omega), bind_eq, ih _ (by simp; omega)]
      unfold esc; rw [if_pos h1]; simp
    · have e : (c == 34 || c == 92) = false := by simpa using h1
      rw [e]
      simp only [Bool.false_eq_true, if_false]
      by_cases h2 : 32 ≤ c ∧ c ≤ 126
      · have e2 : (decide (c ≥ 32) && decide (c ≤ 126)) = true := by simpa using h2
        rw [if_pos e2, hB _ _ (by omega), bind_eq, ih _ (by simp; omega)]
        unfold esc; rw [if_neg h1, if_pos h2]
      · have e2 : (decide (c ≥ 32) && decide (c ≤ 126)) = false := by
          rw [← Bool.not_eq_true]; simpa using h2
        obtain ⟨n1, n2⟩ := nib_eq hc
        rw [e2]
        simp only [Bool.false_eq_true, if_false]
        rw [hS, bind_eq, n1, n2, if_pos ⟨by omega, by simp; omega⟩]
        simp only [Int.toNat_natCast]
        rw [hB _ _ (by simp; omega), bind_eq, if_pos ⟨by omega, by simp; omega⟩, hB _ _ (by simp; omega), bind_eq, ih _ (by simp; omega)]
        unfold esc; rw [if_neg h1, if_neg h2]
        unfold escx hxc HEX
        simp
def quoteS (s : List Int) : List Int := 34 :: (s.flatMap esc ++ [34])
theorem esc_len (c : Int) : (esc c).length ≤ 4 := by unfold esc; split <;> (try split) <;> simp [escx]
theorem fmap_len (f : Int → List Int) (hf : ∀ c, (f c).length ≤ 4) : ∀ s : List Int, (s.flatMap f).length ≤ 4 * s.length
  | [] => by simp
  | c :: s => by
    have := fmap_len f hf s
    have := hf c
    simp only [List.flatMap_cons, List.length_append, List.length_cons]; omega
theorem quote_text {s : List Int} (hs : byteOk s) (hl : s.length < 4294967296) : script_Quote s = some (quoteS s) := by
  unfold script_Quote
  have hB : ∀ (a : List Int) (c : Int), a.length + 1 ≤ 140737488355328 → strings_Builder_WriteByte a c = some (.nilIface, a ++ [c]) := fun a c h => by unfold strings_Builder_WriteByte; rw [if_pos h]
  rw [hB _ _ (by simp), bind_eq]
  simp only [bnd_eq]
  have e : Int.toNat ((s.length : Int) - 0) + 1 = s.length + 1 := by omega
  rw [e, show (0 : Int) = ((0 : Nat) : Int) from rfl, quote_l0 s hs hl _ s.length 0 _ (by omega) (by simp)]
  have := fmap_len esc esc_len s
  rw [List.drop_zero, hB _ _ (by simp only [List.length_append, List.length_cons, List.length_nil]; omega), bind_eq]
  simp [quoteS]

/-! ### reading it back -/
theorem unq_esc {c : Int} (hc : 0 ≤ c ∧ c < 256) (r : List Int) : unq (escx c ++ r) = (unq r).map fun p => (c :: p.1, p.2) := by
  unfold escx
  obtain ⟨a1, _, _⟩ := hxc_all ⟨c.toNat / 16, by omega⟩
  obtain ⟨b1, _, _⟩ := hxc_all ⟨c.toNat % 16, by omega⟩
  simp only at a1 b1
  simp only [List.cons_append, List.nil_append]
  conv => lhs; unfold unq
  simp only
  rw [if_neg (by decide), if_neg (by decide), if_neg (by decide), if_neg (by decide), a1, b1, if_neg (by omega)]
  congr 1
  funext p
  rw [show 16 * ((c.toNat / 16 : Nat) : Int) + ((c.toNat % 16 : Nat) : Int) = c by omega]
theorem unq_c {c : Int} (hc : 0 ≤ c ∧ c < 256) (r : List Int) : unq (esc c ++ r) = (unq r).map fun p => (c :: p.1, p.2) := by
  unfold esc
  by_cases h1 : c = 34 ∨ c = 92
  · rw [if_pos h1]
    simp only [List.cons_append, List.nil_append]
    conv => lhs; unfold unq
    simp only
    rw [if_neg (by decide), if_neg (by decide), if_neg (by decide), if_pos h1]
  · rw [if_neg h1]
    by_cases h2 : 32 ≤ c ∧ c ≤ 126
    · rw [if_pos h2]
      simp only [List.cons_append, List.nil_append]
      conv => lhs; unfold unq
      rw [if_neg (fun h => h1 (.inl h)), if_neg (by omega), if_pos (fun h => h1 (.inr h))]
    · rw [if_neg h2]; exact unq_esc hc r
theorem unq_flat (f : Int → List Int) (hf : ∀ c, 0 ≤ c ∧ c < 256 → ∀ r, unq (f c ++ r) = (unq r).map fun p => (c :: p.1, p.2)) : ∀ (s : List Int), byteOk s → ∀ r, unq (s.flatMap f ++ r) = (unq r).map fun p => (s ++ p.1, p.2)
  | [], _, r => by simp
  | c :: s, h, r => by
    obtain ⟨hc, hs⟩ := byteOk_cons h
    rw [List.flatMap_cons, List.append_assoc, hf c hc, unq_flat f hf s hs r]
    cases unq r <;> simp
theorem unq_end (r : List Int) : unq (34 :: r) = some ([], r) := by unfold unq; rw [if_pos rfl]

/-! ### lines of words -/
end Sx
namespace Sx
open Go Go.RowKit

/-! ### words as they are written -/
def wb (t : List Int) : Wd := (t, false, ())
def wq (t : List Int) : Wd := (t, true, ())
def wordT (w : Wd) : List Int := if w.2.1 = true then quoteS w.1 else w.1
def hexC (c : Int) : List Int := [hxc (c.toNat / 16), hxc (c.toNat % 16)]
def hexS (h : List Int) : List Int := h.flatMap hexC
def joinS : List (List Int) → List Int
  | [] => []
  | x :: r => x ++ r.flatMap fun y => 32 :: y
def fkW (k : Int) : Option (List Int) := if k = 0 then some [108, 111, 115, 116] else if k = 1 then some [107, 101, 112, 116] else if k = 2 then some [114, 101, 112, 108, 97, 99, 101] else none
def fateV (f : Fate) : Option (List Wd) := (fkW f.2.2.1).map fun w => wb w :: wq f.1 :: wb (itoaI f.2.1) :: (if f.2.2.1 = 2 then [wq f.2.2.2.1] else [])
def fatesV : List Fate → Option (List Wd)
  | [] => some []
  | f :: r => (fateV f).bind fun a => (fatesV r).map fun b => a ++ b
def bareW (k : Int) : List Int := if k = 4 then [115, 105, 103, 110] else if k = 5 then [99, 108, 111, 115, 101] else if k = 6 then [99, 111, 110, 110, 101, 99, 116] else if k = 7 then [100, 105, 115, 99, 111, 110, 110, 101, 99, 116] else if k = 9 then [99, 104, 101, 99, 107, 112, 111, 105, 110, 116] else if k = 13 then [111, 112, 101, 110] else []
def askW (k : Int) : List Int := if k = 4 then [115, 116, 97, 116, 101] else if k = 5 then [108, 101, 100, 103, 101, 114] else if k = 6 then [109, 97, 114, 107] else if k = 7 then [112, 105, 112, 101] else if k = 8 then [102, 105, 108, 101, 115] else []
def stepV (s : Step) : Option (List Wd) :=
  if s.1 = 1 then some [wb [111, 102, 102, 101, 114], wb (itoaI s.2.1), wb (hexS s.2.2.2.2.1)]
  else if s.1 = 2 then some [wb [115, 101, 116, 116, 108, 101], wb (itoaI s.2.2.1), wb (hexS s.2.2.2.2.1)]
  else if s.1 = 3 then some [wb [114, 101, 102, 117, 115, 101], wb (itoaI s.2.2.1), wq s.2.2.2.2.2.1]
  else if s.1 = 8 then some [wb [116, 97, 107, 101], wq s.2.2.2.2.2.2.1]
  else if s.1 = 10 then some [wb [97, 114, 109], wb (itoaI s.2.2.2.1)]
  else if s.1 = 11 then some [wb [102, 97, 108, 108], wb (itoaI s.2.2.2.1)]
  else if s.1 = 12 then (fatesV s.2.2.2.2.2.2.2.1).map fun l => wb [99, 114, 97, 115, 104] :: wb (itoaI s.2.2.2.1) :: l
  else if bareW s.1 = [] then none else some [wb (bareW s.1)]
abbrev Mov := Int × Int × Step × Unit
def moveV (m : Mov) : Option (List Wd) :=
  if m.1 = 1 then (stepV m.2.2.1).map fun l => wb [115, 116, 101, 112] :: wb (itoaI m.2.1) :: l
  else if m.1 = 2 then some [wb [106, 111, 105, 110]]
  else if m.1 = 3 then some [wb [99, 117, 116]]
  else if m.1 = 4 then some [wb [100, 101, 108, 105, 118, 101, 114], wb (itoaI m.2.1)]
  else if m.1 = 5 then some [wb [108, 111, 115, 101], wb (itoaI m.2.1)]
  else none
def cmdV (c : Cmd) : Option (List Wd) :=
  if c.1 = 1 then some (wb [119, 111, 114, 108, 100] :: wb (itoaI c.2.1.1) :: wb (itoaI c.2.1.2.1) :: wb (itoaI c.2.1.2.2.2.2.1) :: wb (itoaI c.2.1.2.2.2.2.2.1) :: (c.2.1.2.2.1 ++ c.2.1.2.2.2.1).map fun h => wb (hexS h))
  else if c.1 = 2 then moveV c.2.2.1
  else if c.1 = 3 then some [wb [113, 117, 105, 101, 116], wb (itoaI c.2.2.2.1)]
  else if c.1 = 9 then some [wb [106, 111, 105, 110, 101, 100]]
  else if askW c.1 = [] then none else some [wb (askW c.1), wb (itoaI c.2.2.2.2.1)]
def lineT (ws : List Wd) : List Int := joinS (ws.map wordT)
def textS : List Cmd → Option (List Int)
  | [] => some []
  | c :: r => (cmdV c).bind fun w => (textS r).map fun t => lineT w ++ 10 :: t
def printS (l : List Cmd) : List Int × Int := match textS l with
  | none => ([], 250)
  | some t => if longS t = true then ([], 3) else (t, 0)

/-! ### what commands are known for -/
def hOk (h : List Int) : Prop := h.length = 32 ∧ byteOk h
def fOk (f : Fate) : Prop := byteOk f.1 ∧ rng .i64 f.2.1 ∧ byteOk f.2.2.2.1
def sOk (s : Step) : Prop := rng .i64 s.2.1 ∧ rng .i64 s.2.2.1 ∧ rng .i64 s.2.2.2.1 ∧ hOk s.2.2.2.2.1 ∧ byteOk s.2.2.2.2.2.1 ∧ byteOk s.2.2.2.2.2.2.1 ∧ ∀ f ∈ s.2.2.2.2.2.2.2.1, fOk f
def wOk (w : Wld) : Prop := rng .i64 w.1 ∧ rng .i64 w.2.1 ∧ (w.2.2.1.length = 2 ∧ ∀ h ∈ w.2.2.1, hOk h) ∧ (w.2.2.2.1.length = 2 ∧ ∀ h ∈ w.2.2.2.1, hOk h) ∧ rng .i64 w.2.2.2.2.1 ∧ rng .i64 w.2.2.2.2.2.1
def cOk (c : Cmd) : Prop := wOk c.2.1 ∧ rng .i64 c.2.2.1.2.1 ∧ sOk c.2.2.1.2.2.1 ∧ rng .i64 c.2.2.2.1 ∧ rng .i64 c.2.2.2.2.1
def szF (f : Fate) : Nat := f.1.length + f.2.2.2.1.length + 1
def szS (s : Step) : Nat := s.2.2.2.2.2.1.length + s.2.2.2.2.2.2.1.length + (s.2.2.2.2.2.2.2.1.map szF).sum + 1
def szC (c : Cmd) : Nat := szS c.2.2.1.2.2.1
def szL (l : List Cmd) : Nat := (l.map szC).sum

/-! ### lengths -/
theorem decI_len : ∀ (k n : Nat), 1 ≤ k → n < 10 ^ k → (decI n).length ≤ k := by
  intro k
  induction k with
  | zero => intro n h; omega
  | succ k ih =>
    intro n _ hn
    rw [decI_eq]
    split
    · simp
    · rename_i h
      by_cases hk : k = 0
      · subst hk; simp at hn; omega
      · have := ih (n / 10) (by omega) (by rw [Nat.pow_succ] at hn; omega)
        simp; omega
theorem itoa20 {n : Int} (h : rng .i64 n) : (itoaI n).length ≤ 20 := by
  simp only [rng, lo, Sx.hi] at h
  rw [itoaI_eq]
  have h19 : (10 : Nat) ^ 19 = 10000000000000000000 := by decide
  split
  · have := decI_len 19 n.natAbs (by decide) (by rw [h19]; omega)
    simp; omega
  · have := decI_len 19 n.toNat (by decide) (by rw [h19]; omega)
    omega
theorem hex_len (h : List Int) : (hexS h).length = 2 * h.length := by
  induction h with
  | nil => rfl
  | cons c h ih => simp only [hexS, List.flatMap_cons, List.length_append, List.length_cons] at ih ⊢; rw [ih]; simp [hexC]; omega
theorem quote_len (s : List Int) : (quoteS s).length ≤ 4 * s.length + 2 := by
  have := fmap_len esc esc_len s
  unfold quoteS; simp only [List.length_cons, List.length_append, List.length_nil]; omega
/-- length of a line, and one more a word -/
def tl (ws : List Wd) : Nat := (ws.map fun w => (wordT w).length + 1).sum
theorem tl_append (a b : List Wd) : tl (a ++ b) = tl a + tl b := by simp [tl]
theorem tl_cons (w : Wd) (b : List Wd) : tl (w :: b) = (wordT w).length + 1 + tl b := by simp [tl]
theorem tl_nil : tl [] = 0 := rfl
theorem wb_len (t : List Int) : (wordT (wb t)).length = t.length := rfl
theorem wq_len (t : List Int) : (wordT (wq t)).length ≤ 4 * t.length + 2 := quote_len t
theorem tl_count (ws : List Wd) : ws.length ≤ tl ws := by
  induction ws with
  | nil => simp [tl]
  | cons w ws ih => rw [tl_cons, List.length_cons]; omega
theorem join_tl (ws : List Wd) : (lineT ws).length ≤ tl ws := by
  cases ws with
  | nil => simp [lineT, joinS, tl]
  | cons w r =>
    have : ∀ r : List Wd, ((r.map wordT).flatMap fun y => 32 :: y).length = tl r := by
      intro r
      induction r with
      | nil => rfl
      | cons w r ih => rw [List.map_cons, List.flatMap_cons, List.length_append, ih, tl_cons]; simp
    rw [lineT, List.map_cons, joinS, List.length_append, this, tl_cons]; omega
theorem fk_len {k : Int} {w : List Int} (h : fkW k = some w) : w.length ≤ 7 := by
  unfold fkW at h
  split at h
  · cases h; simp
  split at h
  · cases h; simp
  split at h
  · cases h; simp
  · cases h
theorem fate_tl {f : Fate} (hf : fOk f) {l : List Wd} (h : fateV f = some l) : tl l ≤ 40 * szF f ∧ l.length ≤ 4 := by
  obtain ⟨w, hw, rfl⟩ := Option.map_eq_some_iff.1 h
  have := fk_len hw
  have := itoa20 hf.2.1
  have := wq_len f.1
  have := wq_len f.2.2.2.1
  refine ⟨?_, ?_⟩
  · unfold szF
    split <;> simp only [tl_cons, tl_nil, wb_len] <;> omega
  · split <;> simp
theorem fates_tl : ∀ {l : List Fate}, (∀ f ∈ l, fOk f) → ∀ {r : List Wd}, fatesV l = some r → tl r ≤ 40 * (l.map szF).sum ∧ r.length ≤ 4 * l.length
  | [], _, r, h => by simp only [fatesV, Option.some.injEq] at h; subst h; simp [tl]
  | f :: l, hl, r, h => by
    rw [fatesV] at h
    obtain ⟨a, h1, h⟩ := Option.bind_eq_some_iff.1 h
    obtain ⟨b, h2, rfl⟩ := Option.map_eq_some_iff.1 h
    have ⟨q1, q2⟩ := fate_tl (hl f (by simp)) h1
    have ⟨q3, q4⟩ := fates_tl (fun x hx => hl x (by simp [hx])) h2
    rw [tl_append, List.map_cons, List.sum_cons, List.length_append, List.length_cons]
    omega
theorem bare_len (k : Int) : (bareW k).length ≤ 10 := by unfold bareW; repeat' split
                                                         all_goals simp
theorem ask_len (k : Int) : (askW k).length ≤ 6 := by unfold askW; repeat' split
                                                      all_goals simp
theorem step_tl {s : Step} (hs : sOk s) {l : List Wd} (h : stepV s = some l) : tl l ≤ 120 * szS s := by
  obtain ⟨h1, h2, h3, ⟨h4, _⟩, _, _, h7⟩ := hs
  have := itoa20 h1
  have := itoa20 h2
  have := itoa20 h3
  have := hex_len s.2.2.2.2.1
  have := wq_len s.2.2.2.2.2.1
  have := wq_len s.2.2.2.2.2.2.1
  have := bare_len s.1
  unfold szS
  unfold stepV at h
  split at h
  · cases h; simp only [tl_cons, tl_nil, wb_len, List.length_cons, List.length_nil]; omega
  split at h
  · cases h; simp only [tl_cons, tl_nil, wb_len, List.length_cons, List.length_nil]; omega
  split at h
  · cases h; simp only [tl_cons, tl_nil, wb_len, List.length_cons, List.length_nil]; omega
  split at h
  · cases h; simp only [tl_cons, tl_nil, wb_len, List.length_cons, List.length_nil]; omega
  split at h
  · cases h; simp only [tl_cons, tl_nil, wb_len, List.length_cons, List.length_nil]; omega
  split at h
  · cases h; simp only [tl_cons, tl_nil, wb_len, List.length_cons, List.length_nil]; omega
  split at h
  · obtain ⟨r, hr, rfl⟩ := Option.map_eq_some_iff.1 h
    have := (fates_tl h7 hr).1
    simp only [tl_cons, tl_nil, wb_len, List.length_cons, List.length_nil]; omega
  split at h
  · cases h
  · cases h; simp only [tl_cons, tl_nil, wb_len]; omega
theorem move_tl {m : Mov} (h0 : rng .i64 m.2.1) (hs : sOk m.2.2.1) {l : List Wd} (h : moveV m = some l) : tl l ≤ 150 * szS m.2.2.1 := by
  have := itoa20 h0
  have h1 : 1 ≤ szS m.2.2.1 := by unfold szS; omega
  unfold moveV at h
  split at h
  · obtain ⟨r, hr, rfl⟩ := Option.map_eq_some_iff.1 h
    have := step_tl hs hr
    simp only [tl_cons, tl_nil, wb_len, List.length_cons, List.length_nil]; omega
  split at h
  · cases h; simp only [tl_cons, tl_nil, wb_len, List.length_cons, List.length_nil]; omega
  split at h
  · cases h; simp only [tl_cons, tl_nil, wb_len, List.length_cons, List.length_nil]; omega
  split at h
  · cases h; simp only [tl_cons, tl_nil, wb_len, List.length_cons, List.length_nil]; omega
  split at h
  · cases h; simp only [tl_cons, tl_nil, wb_len, List.length_cons, List.length_nil]; omega
  · cases h
theorem two {α : Type} {l : List α} (h : l.length = 2) : ∃ a b, l = [a, b] := by
  cases l with
  | nil => cases h
  | cons a l => cases l with
    | nil => cases h
    | cons b l => cases l with
      | nil => exact ⟨a, b, rfl⟩
      | cons _ _ => simp at h
theorem cmd_tl {c : Cmd} (hc : cOk c) {l : List Wd} (h : cmdV c = some l) : tl l ≤ 400 * szC c := by
  obtain ⟨⟨w1, w2, ⟨w3, w4⟩, ⟨w5, w6⟩, w7, w8⟩, h0, hs, h1, h2⟩ := hc
  have hz : 1 ≤ szC c := by unfold szC szS; omega
  have := itoa20 w1
  have := itoa20 w2
  have := itoa20 w7
  have := itoa20 w8
  have := itoa20 h1
  have := itoa20 h2
  have := ask_len c.1
  unfold cmdV at h
  split at h
  · obtain ⟨a, b, e1⟩ := two w3
    obtain ⟨a', b', e2⟩ := two w5
    rw [e1] at w4
    rw [e2] at w6
    have l1 := (w4 a (by simp)).1
    have l2 := (w4 b (by simp)).1
    have l3 := (w6 a' (by simp)).1
    have l4 := (w6 b' (by simp)).1
    cases h
    rw [e1, e2]
    simp only [List.cons_append, List.nil_append, List.map_cons, List.map_nil, tl_cons, tl_nil, wb_len, List.length_cons, List.length_nil, hex_len]; omega
  split at h
  · have := move_tl h0 hs h
    unfold szC; omega
  split at h
  · cases h; simp only [tl_cons, tl_nil, wb_len, List.length_cons, List.length_nil]; omega
  split at h
  · cases h; simp only [tl_cons, tl_nil, wb_len, List.length_cons, List.length_nil]; omega
  split at h
  · cases h
  · cases h; simp only [tl_cons, tl_nil, wb_len]; omega
end Sx
namespace Sx
open Go Go.RowKit

abbrev Ln := List (List Int) × Unit
theorem word_r (a : Ln) (ws : List (List Int)) (h : a.1.length + ws.length ≤ 4398046511104) : script_line_word a ws = some (a.1 ++ ws, ()) := by
  unfold script_line_word; rw [if_pos (by omega)]
theorem num_r (a : Ln) (n : Int) (h : a.1.length ≤ 2000000000000) : script_line_number a n = some (a.1 ++ [itoaI n], ()) := by
  unfold script_line_number strconv_FormatInt
  rw [if_pos rfl, bind_eq, word_r a _ (by simp; omega), bind_eq]
theorem hex_l0 (h : List Int) (hh : h.length = 32) (hb : byteOk h) (K : List Int → Option (List Int)) : ∀ (m i : Nat) (acc : List Int), i + m = 32 → acc.length ≤ 2 * i → script_Hex_l0 h K (m + 1) ((i : Int), acc) = K (acc ++ (h.drop i).flatMap hexC)
  | 0, i, acc, hi, _ => by
    unfold script_Hex_l0
    rw [if_neg (by simp; omega), List.drop_eq_nil_of_le (by omega)]; simp
  | m + 1, i, acc, hi, ha => by
    unfold script_Hex_l0
    have hlt : i < h.length := by omega
    rw [if_pos (by simp; omega)]
    simp only [bnd_eq, Int.toNat_natCast]
    rw [if_pos ⟨by omega, by omega⟩, drop_cons hlt]
    have hc := getD_byte hb i
    generalize h.getD i 0 = c at hc
    obtain ⟨n1, n2⟩ := nib_eq hc
    have w : IntKind.wrap .i64 ((i : Int) + 1) = ((i + 1 : Nat) : Int) := by rw [wrap_i64 (by omega) (by omega)]; omega
    have hB : ∀ (a : List Int) (c : Int), a.length + 1 ≤ 140737488355328 → strings_Builder_WriteByte a c = some (.nilIface, a ++ [c]) := fun a c h => by unfold strings_Builder_WriteByte; rw [if_pos h]
    rw [n1, n2, w, if_pos ⟨by omega, by simp; omega⟩]
    simp only [Int.toNat_natCast]
    rw [hB _ _ (by omega), bind_eq, if_pos ⟨by omega, by simp; omega⟩, hB _ _ (by simp; omega), bind_eq, hex_l0 h hh hb K m (i + 1) _ (by omega) (by simp; omega), List.flatMap_cons]
    unfold hexC hxc HEX
    simp
theorem hexs_r {h : List Int} (hh : hOk h) : script_Hex h = some (hexS h) := by
  unfold script_Hex
  simp only [bnd_eq]
  have e : Int.toNat (32 - 0) + 1 = 32 + 1 := rfl
  rw [e, show (0 : Int) = ((0 : Nat) : Int) from rfl, hex_l0 h hh.1 hh.2 _ 32 0 [] (by omega) (by simp)]
  rfl

/-! ### fates -/
theorem fate_r (a : Ln) (ha : a.1.length ≤ 1000000000000) (f : Fate) (hf : fOk f) (hz : szF f ≤ 4294967295) : script_line_fate a f = some ((fateV f).map fun l => (a.1 ++ l.map wordT, ())) := by
  unfold script_line_fate
  simp only [bnd_eq]
  unfold szF at hz
  have body : ∀ w : List Int, fkW f.2.2.1 = some w → ((script_Quote f.1).bind fun (r6 : List Int) => (script_line_word (a.1 ++ [w], ()) [r6]).bind fun (r8 : Ln) => (script_line_number r8 f.2.1).bind fun (r9 : Ln) => if (f.2.2.1 == 2) = true then ((script_Quote f.2.2.2.1).bind fun (r10 : List Int) => (script_line_word r9 [r10]).bind fun (r12 : Ln) => some (some r12)) else (some (some r9))) = some ((fateV f).map fun l => (a.1 ++ l.map wordT, ())) := by
    intro w hw
    rw [quote_text hf.1 (by omega), bind_eq, word_r _ _ (by simp; omega), bind_eq, num_r _ _ (by simp; omega), bind_eq]
    unfold fateV
    rw [hw]
    by_cases h2 : f.2.2.1 = 2
    · rw [if_pos (by simpa using h2), quote_text hf.2.2 (by omega), bind_eq, word_r _ _ (by simp; omega), bind_eq]
      simp [h2, wordT, wb, wq]
    · rw [if_neg (by simpa using h2)]
      simp [h2, wordT, wb, wq]
  by_cases h0 : f.2.2.1 = 0
  · rw [if_pos (by simpa using h0), word_r _ _ (by simp; omega), bind_eq]
    exact body _ (by simp [fkW, h0])
  rw [if_neg (by simpa using h0)]
  by_cases h1 : f.2.2.1 = 1
  · rw [if_pos (by simpa using h1), word_r _ _ (by simp; omega), bind_eq]
    exact body _ (by simp [fkW, h1])
  rw [if_neg (by simpa using h1)]
  by_cases h2 : f.2.2.1 = 2
  · rw [if_pos (by simpa using h2), word_r _ _ (by simp; omega), bind_eq]
    exact body _ (by simp [fkW, h2])
  rw [if_neg (by simpa using h2)]
  have e : fateV f = none := by unfold fateV fkW; simp [h0, h1, h2]
  rw [e]; rfl
theorem sum_ge {α : Type} (f : α → Nat) {l : List α} {x : α} (h : x ∈ l) : f x ≤ (l.map f).sum := by
  induction l with
  | nil => cases h
  | cons y l ih =>
    rw [List.map_cons, List.sum_cons]
    rcases List.mem_cons.1 h with rfl | h
    · omega
    · have := ih h; omega
theorem getD_mem {α : Type} {l : List α} {i : Nat} (d : α) (h : i < l.length) : l.getD i d ∈ l := by
  rw [show l.getD i d = l[i] by simp [List.getD, h]]; exact List.getElem_mem h
theorem drop_consD {α : Type} {l : List α} {i : Nat} (d : α) (h : i < l.length) : l.drop i = l.getD i d :: l.drop (i + 1) := by
  rw [List.drop_eq_getElem_cons h]; simp [List.getD, h]
theorem steps_l0 (s : Step) (hl : s.2.2.2.2.2.2.2.1.length ≤ 4294967296) (hs : ∀ f ∈ s.2.2.2.2.2.2.2.1, fOk f ∧ szF f ≤ 4294967295) (K : Ln → Option (Option Ln)) : ∀ (m i : Nat) (a : Ln), i + m = s.2.2.2.2.2.2.2.1.length → a.1.length ≤ 10 + 4 * i →
    script_line_step_l0 s K (m + 1) ((i : Int), a) = match fatesV (s.2.2.2.2.2.2.2.1.drop i) with | none => some none | some l => K (a.1 ++ l.map wordT, ())
  | 0, i, a, h, _ => by
    unfold script_line_step_l0
    rw [if_neg (by simp; omega), List.drop_eq_nil_of_le (by omega)]
    simp [fatesV]
  | m + 1, i, a, h, ha => by
    unfold script_line_step_l0
    have hi : i < s.2.2.2.2.2.2.2.1.length := by omega
    rw [if_pos (by simp; omega), if_pos ⟨by omega, by omega⟩, Int.toNat_natCast, drop_consD ([], 0, 0, [], ()) hi]
    obtain ⟨q1, q2⟩ := hs _ (getD_mem ([], 0, 0, [], ()) hi)
    generalize s.2.2.2.2.2.2.2.1.getD i ([], 0, 0, [], ()) = f at q1 q2 ⊢
    have w : IntKind.wrap .i64 ((i : Int) + 1) = ((i + 1 : Nat) : Int) := by rw [wrap_i64 (by omega) (by omega)]; omega
    rw [fate_r a (by omega) f q1 q2, bind_eq, w, fatesV]
    cases hF : fateV f with
    | none => rfl
    | some l =>
      have := (fate_tl q1 hF).2
      simp only [Option.map_some, pb, Option.bind_some]
      rw [steps_l0 s hl hs K m (i + 1) _ (by omega) (by simp; omega)]
      cases fatesV (s.2.2.2.2.2.2.2.1.drop (i + 1)) with
      | none => rfl
      | some b => simp
theorem bare_r (k : Int) : script_bare k = some (bareW k) := by
  unfold script_bare bareW
  simp only [beq_iff_eq]
  repeat' (split <;> try rfl)
theorem ask_r (k : Int) : script_question k = some (askW k) := by
  unfold script_question askW
  simp only [beq_iff_eq]
  repeat' (split <;> try rfl)
theorem len_le_sum (l : List Fate) : l.length ≤ (l.map szF).sum := by
  induction l with
  | nil => simp
  | cons f l ih => rw [List.map_cons, List.sum_cons, List.length_cons]; unfold szF at ih ⊢; omega
theorem lstep_r (a : Ln) (ha : a.1.length ≤ 4) (s : Step) (hs : sOk s) (hz : szS s ≤ 4294967295) : script_line_step a s = some ((stepV s).map fun l => (a.1 ++ l.map wordT, ())) := by
  obtain ⟨h1, h2, h3, h4, h5, h6, h7⟩ := hs
  unfold szS at hz
  have hll := len_le_sum s.2.2.2.2.2.2.2.1
  unfold script_line_step stepV
  simp only [beq_iff_eq, bnd_eq]
  split
  · rw [word_r _ _ (by simp; omega), bind_eq, num_r _ _ (by simp; omega), bind_eq, hexs_r h4, bind_eq, word_r _ _ (by simp; omega), bind_eq]
    simp [wordT, wb]
  split
  · rw [word_r _ _ (by simp; omega), bind_eq, num_r _ _ (by simp; omega), bind_eq, hexs_r h4, bind_eq, word_r _ _ (by simp; omega), bind_eq]
    simp [wordT, wb]
  split
  · rw [word_r _ _ (by simp; omega), bind_eq, num_r _ _ (by simp; omega), bind_eq, quote_text h5 (by omega), bind_eq, word_r _ _ (by simp; omega), bind_eq]
    simp [wordT, wb, wq]
  split
  · rw [quote_text h6 (by omega), bind_eq, word_r _ _ (by simp; omega), bind_eq]
    simp [wordT, wb, wq]
  split
  · rw [word_r _ _ (by simp; omega), bind_eq, num_r _ _ (by simp; omega), bind_eq]
    simp [wordT, wb]
  split
  · rw [word_r _ _ (by simp; omega), bind_eq, num_r _ _ (by simp; omega), bind_eq]
    simp [wordT, wb]
  split
  · rw [word_r _ _ (by simp; omega), bind_eq, num_r _ _ (by simp; omega), bind_eq]
    have e : Int.toNat ((List.length s.2.2.2.2.2.2.2.1 : Int) - 0) + 1 = s.2.2.2.2.2.2.2.1.length + 1 := by omega
    rw [e, show (0 : Int) = ((0 : Nat) : Int) from rfl, steps_l0 s (by omega) (fun f hf => ⟨h7 f hf, by have := sum_ge szF hf; omega⟩) _ _ 0 _ (by omega) (by simp; omega), List.drop_zero]
    cases fatesV s.2.2.2.2.2.2.2.1 with
    | none => rfl
    | some l => simp [wordT, wb]
  · rw [bare_r, bind_eq]
    by_cases hb : bareW s.1 = []
    · rw [if_pos hb, if_pos hb]; rfl
    · rw [if_neg hb, if_neg hb, word_r _ _ (by simp; omega), bind_eq]
      simp [wordT, wb]
theorem lmove_r (m : Mov) (h0 : rng .i64 m.2.1) (hs : sOk m.2.2.1) (hz : szS m.2.2.1 ≤ 4294967295) : script_line_move ([], ()) m = some ((moveV m).map fun l => (l.map wordT, ())) := by
  unfold script_line_move moveV
  simp only [beq_iff_eq, bnd_eq]
  split
  · rename_i h1
    rw [word_r _ _ (by simp), bind_eq]
    simp only [if_true]
    rw [num_r _ _ (by simp), bind_eq, lstep_r _ (by simp) _ hs hz, bind_eq]
    cases stepV m.2.2.1 with
    | none => rfl
    | some l => simp [pb, wordT, wb]
  rename_i h1
  split
  · rw [word_r _ _ (by simp), bind_eq]
    simp only [Bool.false_eq_true, if_false]
    rfl
  split
  · rw [word_r _ _ (by simp), bind_eq]
    simp only [Bool.false_eq_true, if_false]
    rfl
  split
  · rw [word_r _ _ (by simp), bind_eq]
    simp only [if_true]
    rw [num_r _ _ (by simp), bind_eq]; rfl
  split
  · rw [word_r _ _ (by simp), bind_eq]
    simp only [if_true]
    rw [num_r _ _ (by simp), bind_eq]; rfl
  · rfl
theorem lcmd_r (c : Cmd) (hc : cOk c) (hz : szC c ≤ 4294967295) : script_line_command ([], ()) c = some ((cmdV c).map fun l => (l.map wordT, ())) := by
  obtain ⟨⟨w1, w2, ⟨w3, w4⟩, ⟨w5, w6⟩, w7, w8⟩, h0, hs, h1, h2⟩ := hc
  unfold script_line_command cmdV
  simp only [beq_iff_eq, bnd_eq]
  split
  · rw [word_r _ _ (by simp), bind_eq]
    obtain ⟨a, b, e1⟩ := two w3
    obtain ⟨a', b', e2⟩ := two w5
    rw [e1] at w4
    rw [e2] at w6
    have l1 := hexs_r (w4 a (by simp))
    have l2 := hexs_r (w4 b (by simp))
    have l3 := hexs_r (w6 a' (by simp))
    have l4 := hexs_r (w6 b' (by simp))
    have e4 : Int.toNat ((List.length [c.2.1.1, c.2.1.2.1, c.2.1.2.2.2.2.1, c.2.1.2.2.2.2.2.1] : Int) - 0) + 1 = 5 := rfl
    have e5 : Int.toNat ((List.length (c.2.1.2.2.1 ++ c.2.1.2.2.2.1) : Int) - 0) + 1 = 5 := by rw [e1, e2]; rfl
    rw [e4, e5]
    simp (decide := true) only [script_line_command_l1, bnd_eq, if_true, if_false, List.getD_cons_zero, List.getD_cons_succ, List.length_cons, List.length_nil, IntKind.wrap, IntKind.bits, IntKind.signed]
    rw [num_r _ _ (by simp), bind_eq, num_r _ _ (by simp), bind_eq, num_r _ _ (by simp), bind_eq, num_r _ _ (by simp), bind_eq]
    simp (decide := true) only [script_line_command_l0, e1, e2, List.cons_append, List.nil_append, if_true, if_false, List.getD_cons_zero, List.getD_cons_succ, List.length_cons, List.length_nil, IntKind.wrap, IntKind.bits, IntKind.signed]
    have i0 : Int.toNat 0 = 0 := rfl
    have i1 : ((0 + 1) % 2 ^ 64 : Int).toNat = 1 := by decide
    have i2 : (((0 + 1) % 2 ^ 64 + 1) % 2 ^ 64 : Int).toNat = 2 := by decide
    have i3 : ((((0 + 1) % 2 ^ 64 + 1) % 2 ^ 64 + 1) % 2 ^ 64 : Int).toNat = 3 := by decide
    simp only [i0, i1, i2, i3, List.getD_cons_zero, List.getD_cons_succ]
    rw [l1, bind_eq, word_r _ _ (by simp), bind_eq, l2, bind_eq, word_r _ _ (by simp), bind_eq, l3, bind_eq, word_r _ _ (by simp), bind_eq, l4, bind_eq, word_r _ _ (by simp), bind_eq]
    rfl
  split
  · rw [lmove_r _ h0 hs hz, bind_eq]
    cases moveV c.2.2.1 <;> rfl
  split
  · rw [word_r _ _ (by simp), bind_eq, num_r _ _ (by simp), bind_eq]; rfl
  split
  · rw [word_r _ _ (by simp), bind_eq]; rfl
  · rw [ask_r, bind_eq]
    by_cases hb : askW c.1 = []
    · rw [if_pos hb, if_pos hb]; rfl
    · rw [if_neg hb, if_neg hb, word_r _ _ (by simp), bind_eq, num_r _ _ (by simp), bind_eq]; rfl
theorem joinTail_map : ∀ r : List (List Int), Lib.joinTail (toB [32]) (r.map toB) = toB (r.flatMap fun y => 32 :: y)
  | [] => rfl
  | x :: r => by
    have := joinTail_map r
    unfold Lib.joinTail at this ⊢
    simp only [List.map_cons, List.flatten_cons, List.flatMap_cons] at this ⊢
    rw [this]
    simp [toB]
theorem join_map (xs : List (List Int)) : Lib.join (xs.map toB) (toB [32]) = toB (joinS xs) := by
  cases xs with
  | nil => rfl
  | cons x r =>
    rw [List.map_cons, Lib.join_cons, joinTail_map, joinS]
    simp [toB]
theorem toB_len (l : List Int) : (toB l).length = l.length := by simp [toB]
theorem esc_all {c : Int} (hc : 0 ≤ c ∧ c < 256) : ∀ x ∈ esc c, 32 ≤ x ∧ x ≤ 126 := by
  have hx : ∀ x ∈ escx c, 32 ≤ x ∧ x ≤ 126 := by
    obtain ⟨_, a1, a2⟩ := hxc_all ⟨c.toNat / 16, by omega⟩
    obtain ⟨_, b1, b2⟩ := hxc_all ⟨c.toNat % 16, by omega⟩
    simp only at a1 a2 b1 b2
    intro x hx
    unfold escx at hx
    simp only [List.mem_cons, List.not_mem_nil, or_false] at hx
    rcases hx with rfl | rfl | rfl | rfl <;> omega
  unfold esc
  by_cases h1 : c = 34 ∨ c = 92
  · rw [if_pos h1]; intro x hx
    simp only [List.mem_cons, List.not_mem_nil, or_false] at hx
    rcases hx with rfl | rfl <;> omega
  · rw [if_neg h1]
    by_cases h2 : 32 ≤ c ∧ c ≤ 126
    · rw [if_pos h2]; intro x hx
      simp only [List.mem_cons, List.not_mem_nil, or_false] at hx
      subst hx; exact h2
    · rw [if_neg h2]; exact hx
theorem quote_all {s : List Int} (hs : byteOk s) : ∀ x ∈ quoteS s, 32 ≤ x ∧ x ≤ 126 := by
  intro x hx
  unfold quoteS at hx
  rcases List.mem_cons.1 hx with rfl | hx
  · omega
  · rcases List.mem_append.1 hx with hx | hx
    · obtain ⟨c, hc, hx⟩ := List.mem_flatMap.1 hx
      exact esc_all (hs c hc) x hx
    · simp at hx; subst hx; omega
theorem hexS_all {h : List Int} (hh : byteOk h) : ∀ x ∈ hexS h, 48 ≤ x ∧ x ≤ 102 := by
  intro x hx
  obtain ⟨c, hc, hx⟩ := List.mem_flatMap.1 hx
  have hc := hh c hc
  obtain ⟨_, a1, a2⟩ := hxc_all ⟨c.toNat / 16, by omega⟩
  obtain ⟨_, b1, b2⟩ := hxc_all ⟨c.toNat % 16, by omega⟩
  simp only at a1 a2 b1 b2
  simp only [hexC, List.mem_cons, List.not_mem_nil, or_false] at hx
  rcases hx with rfl | rfl <;> omega
theorem decI_dig (n : Nat) : ∀ x ∈ decI n, 48 ≤ x ∧ x ≤ 57 := (decI_all n).1
theorem itoa_all (n : Int) : ∀ x ∈ itoaI n, 45 ≤ x ∧ x ≤ 57 := by
  intro x hx
  rw [itoaI_eq] at hx
  split at hx
  · rcases List.mem_cons.1 hx with rfl | hx
    · omega
    · have := decI_dig _ x hx; omega
  · have := decI_dig _ x hx; omega
theorem itoa_ne (n : Int) : itoaI n ≠ [] := by
  rw [itoaI_eq]
  split
  · simp
  · exact (decI_all _).2.2

/-- a word that a line may hold: its text is not nothing, holds no blank if it is bare, and bytes from 33 on -/
def goodW (w : Wd) : Prop := byteOk w.1 ∧ (w.2.1 = false → w.1 ≠ [] ∧ ∀ c ∈ w.1, 35 < c ∧ c ≤ 126)
theorem good_wb {t : List Int} (h : t ≠ []) (h2 : ∀ c ∈ t, 35 < c ∧ c ≤ 126) : goodW (wb t) := ⟨fun c hc => by have := h2 c hc; omega, fun _ => ⟨h, h2⟩⟩
theorem good_wq {t : List Int} (h : byteOk t) : goodW (wq t) := ⟨h, fun e => by cases e⟩
theorem good_num (n : Int) : goodW (wb (itoaI n)) := good_wb (itoa_ne n) fun c hc => by have := itoa_all n c hc; omega
theorem good_hash {h : List Int} (hh : hOk h) : goodW (wb (hexS h)) := good_wb (fun e => by have := hex_len h; rw [e, hh.1] at this; simp at this) fun c hc => by have := hexS_all hh.2 c hc; omega
def goodWs (l : List Wd) : Prop := ∀ w ∈ l, goodW w
theorem goodWs_cons {w : Wd} {l : List Wd} (h : goodW w) (hl : goodWs l) : goodWs (w :: l) := fun x hx => by
  rcases List.mem_cons.1 hx with rfl | hx
  · exact h
  · exact hl x hx
theorem goodWs_nil : goodWs [] := fun _ h => by cases h
theorem goodWs_append {a b : List Wd} (ha : goodWs a) (hb : goodWs b) : goodWs (a ++ b) := fun x hx => (List.mem_append.1 hx).elim (ha x) (hb x)
theorem fk_good {k : Int} {w : List Int} (h : fkW k = some w) : goodW (wb w) := by
  unfold fkW at h
  split at h
  · cases h; exact good_wb (by decide) (by decide)
  split at h
  · cases h; exact good_wb (by decide) (by decide)
  split at h
  · cases h; exact good_wb (by decide) (by decide)
  · cases h
theorem fate_good {f : Fate} (hf : fOk f) {l : List Wd} (h : fateV f = some l) : goodWs l := by
  obtain ⟨w, hw, rfl⟩ := Option.map_eq_some_iff.1 h
  refine goodWs_cons (fk_good hw) (goodWs_cons (good_wq hf.1) (goodWs_cons (good_num _) ?_))
  split
  · exact goodWs_cons (good_wq hf.2.2) goodWs_nil
  · exact goodWs_nil
theorem fates_good : ∀ {l : List Fate}, (∀ f ∈ l, fOk f) → ∀ {r : List Wd}, fatesV l = some r → goodWs r
  | [], _, r, h => by simp only [fatesV, Option.some.injEq] at h; subst h; exact goodWs_nil
  | f :: l, hl, r, h => by
    rw [fatesV] at h
    obtain ⟨a, h1, h⟩ := Option.bind_eq_some_iff.1 h
    obtain ⟨b, h2, rfl⟩ := Option.map_eq_some_iff.1 h
    exact goodWs_append (fate_good (hl f (by simp)) h1) (fates_good (fun x hx => hl x (by simp [hx])) h2)
theorem bare_good {k : Int} (h : bareW k ≠ []) : goodW (wb (bareW k)) := by
  unfold bareW at h ⊢
  repeat' split
  all_goals first | exact good_wb (by decide) (by decide) | skip
  simp_all
theorem ask_good {k : Int} (h : askW k ≠ []) : goodW (wb (askW k)) := by
  unfold askW at h ⊢
  repeat' split
  all_goals first | exact good_wb (by decide) (by decide) | skip
  simp_all
theorem step_good {s : Step} (hs : sOk s) {l : List Wd} (h : stepV s = some l) : goodWs l ∧ l ≠ [] := by
  obtain ⟨h1, h2, h3, h4, h5, h6, h7⟩ := hs
  unfold stepV at h
  split at h
  · cases h; exact ⟨goodWs_cons (good_wb (by decide) (by decide)) (goodWs_cons (good_num _) (goodWs_cons (good_hash h4) goodWs_nil)), by simp⟩
  split at h
  · cases h; exact ⟨goodWs_cons (good_wb (by decide) (by decide)) (goodWs_cons (good_num _) (goodWs_cons (good_hash h4) goodWs_nil)), by simp⟩
  split at h
  · cases h; exact ⟨goodWs_cons (good_wb (by decide) (by decide)) (goodWs_cons (good_num _) (goodWs_cons (good_wq h5) goodWs_nil)), by simp⟩
  split at h
  · cases h; exact ⟨goodWs_cons (good_wb (by decide) (by decide)) (goodWs_cons (good_wq h6) goodWs_nil), by simp⟩
  split at h
  · cases h; exact ⟨goodWs_cons (good_wb (by decide) (by decide)) (goodWs_cons (good_num _) goodWs_nil), by simp⟩
  split at h
  · cases h; exact ⟨goodWs_cons (good_wb (by decide) (by decide)) (goodWs_cons (good_num _) goodWs_nil), by simp⟩
  split at h
  · obtain ⟨r, hr, rfl⟩ := Option.map_eq_some_iff.1 h
    exact ⟨goodWs_cons (good_wb (by decide) (by decide)) (goodWs_cons (good_num _) (fates_good h7 hr)), by simp⟩
  split at h
  · cases h
  · rename_i hb
    cases h; exact ⟨goodWs_cons (bare_good hb) goodWs_nil, by simp⟩
theorem move_good {m : Mov} (hs : sOk m.2.2.1) {l : List Wd} (h : moveV m = some l) : goodWs l ∧ l ≠ [] := by
  unfold moveV at h
  split at h
  · obtain ⟨r, hr, rfl⟩ := Option.map_eq_some_iff.1 h
    exact ⟨goodWs_cons (good_wb (by decide) (by decide)) (goodWs_cons (good_num _) (step_good hs hr).1), by simp⟩
  split at h
  · cases h; exact ⟨goodWs_cons (good_wb (by decide) (by decide)) goodWs_nil, by simp⟩
  split at h
  · cases h; exact ⟨goodWs_cons (good_wb (by decide) (by decide)) goodWs_nil, by simp⟩
  split at h
  · cases h; exact ⟨goodWs_cons (good_wb (by decide) (by decide)) (goodWs_cons (good_num _) goodWs_nil), by simp⟩
  split at h
  · cases h; exact ⟨goodWs_cons (good_wb (by decide) (by decide)) (goodWs_cons (good_num _) goodWs_nil), by simp⟩
  · cases h
theorem cmd_good {c : Cmd} (hc : cOk c) {l : List Wd} (h : cmdV c = some l) : goodWs l ∧ l ≠ [] := by
  obtain ⟨⟨w1, w2, ⟨w3, w4⟩, ⟨w5, w6⟩, w7, w8⟩, h0, hs, h1, h2⟩ := hc
  unfold cmdV at h
  split at h
  · cases h
    refine ⟨goodWs_cons (good_wb (by decide) (by decide)) (goodWs_cons (good_num _) (goodWs_cons (good_num _) (goodWs_cons (good_num _) (goodWs_cons (good_num _) ?_)))), by simp⟩
    intro x hx
    obtain ⟨y, hy, rfl⟩ := List.mem_map.1 hx
    rcases List.mem_append.1 hy with hy | hy
    · exact good_hash (w4 y hy)
    · exact good_hash (w6 y hy)
  split at h
  · exact move_good hs h
  split at h
  · cases h; exact ⟨goodWs_cons (good_wb (by decide) (by decide)) (goodWs_cons (good_num _) goodWs_nil), by simp⟩
  split at h
  · cases h; exact ⟨goodWs_cons (good_wb (by decide) (by decide)) goodWs_nil, by simp⟩
  split at h
  · cases h
  · rename_i hb
    cases h; exact ⟨goodWs_cons (ask_good hb) (goodWs_cons (good_num _) goodWs_nil), by simp⟩
theorem wordT_all {w : Wd} (hw : goodW w) : wordT w ≠ [] ∧ ∀ c ∈ wordT w, 32 ≤ c ∧ c ≤ 126 := by
  unfold wordT
  split
  · exact ⟨by simp [quoteS], quote_all hw.1⟩
  · rename_i h
    obtain ⟨a, b⟩ := hw.2 (by simpa using h)
    exact ⟨a, fun c hc => by have := b c hc; omega⟩
theorem line_all {l : List Wd} (hl : goodWs l) (hn : l ≠ []) : lineT l ≠ [] ∧ ∀ c ∈ lineT l, 32 ≤ c ∧ c ≤ 126 := by
  cases l with
  | nil => exact absurd rfl hn
  | cons w r =>
    obtain ⟨a, b⟩ := wordT_all (hl w (by simp))
    unfold lineT
    rw [List.map_cons, joinS]
    refine ⟨fun e => a (List.append_eq_nil_iff.1 e).1, fun c hc => ?_⟩
    rcases List.mem_append.1 hc with hc | hc
    · exact b c hc
    · obtain ⟨y, hy, hc⟩ := List.mem_flatMap.1 hc
      obtain ⟨z, hz, rfl⟩ := List.mem_map.1 hy
      rcases List.mem_cons.1 hc with rfl | hc
      · omega
      · exact (wordT_all (hl z (by simp [hz]))).2 c hc
theorem print_l0 (l : List Cmd) (hl : ∀ c ∈ l, cOk c) (hz : szL l ≤ 4194304) (K : List Int → Option (Option (List Int × Int))) : ∀ (m i : Nat) (acc : List Int), i + m = l.length → acc.length + 401 * szL (l.drop i) ≤ 17179869184 →
    script_Print_in_l0 l K (m + 1) ((i : Int), acc) = match textS (l.drop i) with | none => some none | some t => K (acc ++ t)
  | 0, i, acc, h, _ => by
    unfold script_Print_in_l0
    rw [if_neg (by simp; omega), List.drop_eq_nil_of_le (by omega)]
    simp [textS]
  | m + 1, i, acc, h, ha => by
    unfold script_Print_in_l0
    have hi : i < l.length := by omega
    have hll : l.length ≤ szL l := by
      have : ∀ l : List Cmd, l.length ≤ szL l := by
        intro l
        induction l with
        | nil => simp
        | cons c l ih => unfold szL at ih ⊢; rw [List.map_cons, List.sum_cons, List.length_cons]; unfold szC szS at *; omega
      exact this l
    rw [if_pos (by simp; omega), if_pos ⟨by omega, by omega⟩, Int.toNat_natCast]
    have hd := drop_consD (0, (0, 0, (List.replicate 2 ((List.replicate 32 (0 : Int)) : List (Int))), (List.replicate 2 ((List.replicate 32 (0 : Int)) : List (Int))), 0, 0, ()), (0, 0, (0, 0, 0, 0, (List.replicate 32 (0 : Int)), [], [], [], ()), ()), 0, 0, ()) hi
    have q1 := hl _ (getD_mem (0, (0, 0, (List.replicate 2 ((List.replicate 32 (0 : Int)) : List (Int))), (List.replicate 2 ((List.replicate 32 (0 : Int)) : List (Int))), 0, 0, ()), (0, 0, (0, 0, 0, 0, (List.replicate 32 (0 : Int)), [], [], [], ()), ()), 0, 0, ()) hi)
    have q2 := sum_ge szC (getD_mem (0, (0, 0, (List.replicate 2 ((List.replicate 32 (0 : Int)) : List (Int))), (List.replicate 2 ((List.replicate 32 (0 : Int)) : List (Int))), 0, 0, ()), (0, 0, (0, 0, 0, 0, (List.replicate 32 (0 : Int)), [], [], [], ()), ()), 0, 0, ()) hi)
    rw [hd] at ha ⊢
    generalize l.getD i _ = c at q1 q2 ha ⊢
    have q3 : szC c ≤ 4294967295 := by unfold szL at hz; omega
    have w : IntKind.wrap .i64 ((i : Int) + 1) = ((i + 1 : Nat) : Int) := by rw [wrap_i64 (by omega) (by omega)]; omega
    rw [lcmd_r c q1 q3, bind_eq, w, textS]
    cases hC : cmdV c with
    | none => rfl
    | some ws =>
      have t1 := cmd_tl q1 hC
      have t2 := join_tl ws
      have t3 := tl_count ws
      obtain ⟨g1, g2⟩ := cmd_good q1 hC
      obtain ⟨g3, g4⟩ := line_all g1 g2
      simp only [szL, List.map_cons, List.sum_cons] at ha
      simp only [Option.map_some, pb, Option.bind_some]
      have hj : strings_Join (ws.map wordT) [32] = some (lineT ws) := by
        unfold strings_Join
        rw [join_map, toB_len]
        change (if (ws.map wordT).length ≤ 140737488355328 ∧ (lineT ws).length ≤ 140737488355328 then some (ofB (toB (lineT ws))) else none) = _
        rw [if_pos ⟨by simp; omega, by omega⟩, ofB_toB (fun c hc => by have := g4 c hc; omega)]
      have e1 : 1 ≤ szC c := by unfold szC szS; omega
      unfold script_line_text
      rw [hj, bind_eq, bind_eq]
      unfold strings_Builder_WriteString strings_Builder_WriteByte
      rw [if_pos ⟨g3, by omega⟩, bind_eq, if_pos (by simp; omega), bind_eq, print_l0 l hl hz K m (i + 1) _ (by omega) (by simp only [List.length_append, List.length_cons, List.length_nil, szL]; omega)]
      cases textS (l.drop (i + 1)) with
      | none => rfl
      | some t => simp
theorem text_ok : ∀ {l : List Cmd}, (∀ c ∈ l, cOk c) → ∀ {t : List Int}, textS l = some t → byteOk t
  | [], _, t, h => by simp only [textS, Option.some.injEq] at h; subst h; intro c hc; cases hc
  | c :: l, hl, t, h => by
    rw [textS] at h
    obtain ⟨w, h1, h⟩ := Option.bind_eq_some_iff.1 h
    obtain ⟨b, h2, rfl⟩ := Option.map_eq_some_iff.1 h
    obtain ⟨g1, g2⟩ := cmd_good (hl c (by simp)) h1
    exact byteOk_append (fun x hx => by have := (line_all g1 g2).2 x hx; omega) (byteOk_mk (by decide) (text_ok (fun x hx => hl x (by simp [hx])) h2))
/-- Print is what the definition says -/
theorem print_eq {l : List Cmd} (hl : ∀ c ∈ l, cOk c) (hz : szL l ≤ 4194304) : script_Print l = some (printS l) := by
  unfold script_Print script_Print_in printS
  simp only [bnd_eq]
  have e : Int.toNat ((l.length : Int) - 0) + 1 = l.length + 1 := by omega
  rw [e, show (0 : Int) = ((0 : Nat) : Int) from rfl, print_l0 l hl hz _ l.length 0 [] (by omega) (by simp; omega), List.drop_zero]
  cases hT : textS l with
  | none => rfl
  | some t =>
    simp only [List.nil_append]
    rw [long_eq (text_ok hl hT), bind_eq]
    split <;> rfl
end Sx
namespace Sx
open Go Go.RowKit

/-! ### what is not named is nought -/
def clearF (f : Fate) : Fate := (f.1, f.2.1, f.2.2.1, if f.2.2.1 = 2 then f.2.2.2.1 else [], ())
def clearS (s : Step) : Step :=
  if s.1 = 1 then (1, s.2.1, 0, 0, s.2.2.2.2.1, [], [], [], ())
  else if s.1 = 2 then (2, 0, s.2.2.1, 0, s.2.2.2.2.1, [], [], [], ())
  else if s.1 = 3 then (3, 0, s.2.2.1, 0, z32, s.2.2.2.2.2.1, [], [], ())
  else if s.1 = 8 then (8, 0, 0, 0, z32, [], s.2.2.2.2.2.2.1, [], ())
  else if s.1 = 10 then (10, 0, 0, s.2.2.2.1, z32, [], [], [], ())
  else if s.1 = 11 then (11, 0, 0, s.2.2.2.1, z32, [], [], [], ())
  else if s.1 = 12 then (12, 0, 0, s.2.2.2.1, z32, [], [], s.2.2.2.2.2.2.2.1.map clearF, ())
  else (s.1, 0, 0, 0, z32, [], [], [], ())
def clearM (m : Mov) : Mov :=
  if m.1 = 1 then (1, m.2.1, clearS m.2.2.1, ())
  else if m.1 = 4 ∨ m.1 = 5 then (m.1, m.2.1, zStep, ())
  else (m.1, 0, zStep, ())
def clearC (c : Cmd) : Cmd :=
  if c.1 = 1 then (1, c.2.1, (0, 0, zStep, ()), 0, 0, ())
  else if c.1 = 2 then (2, zWld, clearM c.2.2.1, 0, 0, ())
  else if c.1 = 3 then (3, zWld, (0, 0, zStep, ()), c.2.2.2.1, 0, ())
  else if c.1 = 9 then (9, zWld, (0, 0, zStep, ()), 0, 0, ())
  else (c.1, zWld, (0, 0, zStep, ()), 0, c.2.2.2.2.1, ())

/-! ### words are read -/
theorem name_back (t : List Int) (r : List Wd) : nextS (wb t :: r) false = some (t, (r, ())) := rfl
theorem quote_back (t : List Int) (r : List Wd) : nextS (wq t :: r) true = some (t, (r, ())) := rfl
theorem num_back {n : Int} (h : rng .i64 n) (r : List Wd) : numR (wb (itoaI n) :: r) = some (n, (r, ())) := by
  unfold numR
  rw [name_back, Option.bind_some, numS_some h]; rfl
theorem hexL_back : ∀ {h : List Int}, byteOk h → hexL (hexS h) = some h
  | [], _ => rfl
  | c :: h, hb => by
    obtain ⟨hc, hh⟩ := byteOk_cons hb
    obtain ⟨a1, _, _⟩ := hxc_all ⟨c.toNat / 16, by omega⟩
    obtain ⟨b1, _, _⟩ := hxc_all ⟨c.toNat % 16, by omega⟩
    simp only at a1 b1
    have ih := hexL_back hh
    unfold hexS at ih ⊢
    rw [List.flatMap_cons]
    unfold hexC
    simp only [List.cons_append, List.nil_append, hexL]
    rw [a1, b1, if_neg (by omega)]
    have ih : hexL (List.flatMap hexC h) = some h := ih
    unfold hexC at ih
    rw [ih, Option.map_some, show 16 * ((c.toNat / 16 : Nat) : Int) + ((c.toNat % 16 : Nat) : Int) = c by omega]
theorem hash_back {h : List Int} (hh : hOk h) (r : List Wd) : hashR (wb (hexS h) :: r) = some (h, (r, ())) := by
  unfold hashR
  rw [name_back, Option.bind_some]
  unfold hashS
  rw [if_pos (by rw [hex_len, hh.1]), hexL_back hh.2]; rfl
theorem bare_back {k : Int} (h : bareW k ≠ []) : bareK (bareW k) = some k := by
  unfold bareW at h ⊢
  repeat' split
  all_goals first | (subst_vars; decide) | skip
  simp_all
theorem ask_back {k : Int} (h : askW k ≠ []) : askK (askW k) = some k := by
  unfold askW at h ⊢
  repeat' split
  all_goals first | (subst_vars; decide) | skip
  simp_all
theorem kind_back {k : Int} {w : List Int} (h : fkW k = some w) : kindF w = some k := by
  unfold fkW at h
  split at h
  · cases h; subst_vars; decide
  split at h
  · cases h; subst_vars; decide
  split at h
  · cases h; subst_vars; decide
  · cases h
theorem fate_back {f : Fate} (hf : fOk f) {a : List Wd} (h : fateV f = some a) (r : List Wd) : fateR (a ++ r) = some (clearF f, (r, ())) := by
  obtain ⟨w, hw, rfl⟩ := Option.map_eq_some_iff.1 h
  unfold fateR clearF
  by_cases h2 : f.2.2.1 = 2
  · simp only [h2, if_true, List.cons_append, List.nil_append, name_back, quote_back, Option.bind_some, num_back hf.2.1]
    rw [kind_back hw, h2]
    simp
  · simp only [h2, if_false, List.cons_append, List.nil_append, name_back, quote_back, Option.bind_some, num_back hf.2.1]
    rw [kind_back hw]
    simp [h2]
theorem fates_back : ∀ {l : List Fate}, (∀ f ∈ l, fOk f) → ∀ {r : List Wd}, fatesV l = some r → ∀ m, r.length < m → fatesF m r = some (l.map clearF)
  | [], _, r, h, m, hm => by
    simp only [fatesV, Option.some.injEq] at h; subst h
    cases m with
    | zero => omega
    | succ m => rfl
  | f :: l, hl, r, h, m, hm => by
    rw [fatesV] at h
    obtain ⟨a, h1, h⟩ := Option.bind_eq_some_iff.1 h
    obtain ⟨b, h2, rfl⟩ := Option.map_eq_some_iff.1 h
    have hb := fate_back (hl f (by simp)) h1 b
    have ha : a ≠ [] := by obtain ⟨w, _, rfl⟩ := Option.map_eq_some_iff.1 h1; simp
    cases m with
    | zero => omega
    | succ m =>
      cases a with
      | nil => exact absurd rfl ha
      | cons w a =>
        rw [List.cons_append] at hb ⊢
        rw [fatesF, hb, Option.bind_some, fates_back (fun x hx => hl x (by simp [hx])) h2 m (by simp at hm; omega)]
        rfl
        simp
theorem step_back {s : Step} (hs : sOk s) {l : List Wd} (h : stepV s = some l) : stepR l = some (clearS s, ([], ())) := by
  obtain ⟨h1, h2, h3, h4, h5, h6, h7⟩ := hs
  unfold stepV at h
  unfold clearS
  split at h
  · rename_i e
    cases h; rw [if_pos e]; unfold stepR
    simp (decide := true) only [name_back, quote_back, Option.bind_some, if_true, if_false, num_back h1, hash_back h4]
  rename_i e1
  rw [if_neg e1]
  split at h
  · rename_i e
    cases h; rw [if_pos e]; unfold stepR
    simp (decide := true) only [name_back, quote_back, Option.bind_some, if_true, if_false, num_back h2, hash_back h4]
  rename_i e2
  rw [if_neg e2]
  split at h
  · rename_i e
    cases h; rw [if_pos e]; unfold stepR
    simp (decide := true) only [name_back, quote_back, Option.bind_some, if_true, if_false, num_back h2]
  rename_i e3
  rw [if_neg e3]
  split at h
  · rename_i e
    cases h; rw [if_pos e]; unfold stepR
    simp (decide := true) only [name_back, quote_back, Option.bind_some, if_true, if_false]
  rename_i e4
  rw [if_neg e4]
  split at h
  · rename_i e
    cases h; rw [if_pos e]; unfold stepR
    simp (decide := true) only [name_back, quote_back, Option.bind_some, if_true, if_false, num_back h3]
  rename_i e5
  rw [if_neg e5]
  split at h
  · rename_i e
    cases h; rw [if_pos e]; unfold stepR
    simp (decide := true) only [name_back, quote_back, Option.bind_some, if_true, if_false, num_back h3]
  rename_i e6
  rw [if_neg e6]
  split at h
  · rename_i e
    obtain ⟨r, hr, rfl⟩ := Option.map_eq_some_iff.1 h
    rw [if_pos e]; unfold stepR
    simp (decide := true) only [name_back, quote_back, Option.bind_some, if_true, if_false, num_back h3]
    unfold fatesR
    rw [fates_back h7 hr _ (Nat.lt_succ_self _)]; rfl
  rename_i e7
  rw [if_neg e7]
  split at h
  · cases h
  · rename_i hb
    cases h; unfold stepR
    have hne : ∀ t : List Int, t = [111, 102, 102, 101, 114] ∨ t = [115, 101, 116, 116, 108, 101] ∨ t = [114, 101, 102, 117, 115, 101] ∨ t = [116, 97, 107, 101] ∨ t = [97, 114, 109] ∨ t = [102, 97, 108, 108] ∨ t = [99, 114, 97, 115, 104] → ¬ (bareW s.1 == t) = true := by
      intro t ht
      unfold bareW at hb ⊢
      repeat' split
      all_goals first | (rcases ht with rfl | rfl | rfl | rfl | rfl | rfl | rfl <;> decide) | skip
    rw [name_back, Option.bind_some]
    simp only
    rw [if_neg (hne _ (by simp)), if_neg (hne _ (by simp)), if_neg (hne _ (by simp)), if_neg (hne _ (by simp)), if_neg (hne _ (by simp)), if_neg (hne _ (by simp)), if_neg (hne _ (by simp)), bare_back hb]; rfl
theorem cmd_back {c : Cmd} (hc : cOk c) {l : List Wd} (h : cmdV c = some l) : cmdR l = some (clearC c, ([], ())) := by
  obtain ⟨⟨w1, w2, ⟨w3, w4⟩, ⟨w5, w6⟩, w7, w8⟩, h0, hs, h1, h2⟩ := hc
  unfold cmdV at h
  unfold clearC
  split at h
  · rename_i e
    obtain ⟨a, b, e1⟩ := two w3
    obtain ⟨a', b', e2⟩ := two w5
    rw [e1] at w4
    rw [e2] at w6
    cases h; rw [if_pos e]; unfold cmdR
    rw [e1, e2]
    simp only [List.cons_append, List.nil_append, List.map_cons, List.map_nil]
    simp (decide := true) only [name_back, quote_back, Option.bind_some, if_true, if_false, num_back w1, num_back w2, num_back w7, num_back w8, hash_back (w4 a (by simp)), hash_back (w4 b (by simp)), hash_back (w6 a' (by simp)), hash_back (w6 b' (by simp))]
    rw [← e1, ← e2]
  rename_i e1
  rw [if_neg e1]
  split at h
  · rename_i e
    rw [if_pos e]
    unfold moveV at h
    unfold clearM
    split at h
    · rename_i e
      obtain ⟨r, hr, rfl⟩ := Option.map_eq_some_iff.1 h
      rw [if_pos e]; unfold cmdR
      simp (decide := true) only [name_back, quote_back, Option.bind_some, if_true, if_false, num_back h0, step_back hs hr]
    rename_i e1
    rw [if_neg e1]
    split at h
    · rename_i e
      cases h; rw [if_neg (by omega), e]; unfold cmdR
      simp (decide := true) only [name_back, quote_back, Option.bind_some, if_true, if_false]
    split at h
    · rename_i e
      cases h; rw [if_neg (by omega), e]; unfold cmdR
      simp (decide := true) only [name_back, quote_back, Option.bind_some, if_true, if_false]
    split at h
    · rename_i e
      cases h; rw [if_pos (by omega), e]; unfold cmdR
      simp (decide := true) only [name_back, quote_back, Option.bind_some, if_true, if_false, num_back h0]
    split at h
    · rename_i e
      cases h; rw [if_pos (by omega), e]; unfold cmdR
      simp (decide := true) only [name_back, quote_back, Option.bind_some, if_true, if_false, num_back h0]
    · cases h
  rename_i e2
  rw [if_neg e2]
  split at h
  · rename_i e
    cases h; rw [if_pos e]; unfold cmdR
    simp (decide := true) only [name_back, quote_back, Option.bind_some, if_true, if_false, num_back h1]
  rename_i e3
  rw [if_neg e3]
  split at h
  · rename_i e
    cases h; rw [if_pos e]; unfold cmdR
    simp (decide := true) only [name_back, quote_back, Option.bind_some, if_true, if_false]
  rename_i e4
  rw [if_neg e4]
  split at h
  · cases h
  · rename_i hb
    cases h; unfold cmdR
    have hne : ∀ t : List Int, t = [119, 111, 114, 108, 100] ∨ t = [115, 116, 101, 112] ∨ t = [106, 111, 105, 110] ∨ t = [99, 117, 116] ∨ t = [100, 101, 108, 105, 118, 101, 114] ∨ t = [108, 111, 115, 101] ∨ t = [113, 117, 105, 101, 116] ∨ t = [106, 111, 105, 110, 101, 100] → ¬ (askW c.1 == t) = true := by
      intro t ht
      unfold askW at hb ⊢
      repeat' split
      all_goals first | (rcases ht with rfl | rfl | rfl | rfl | rfl | rfl | rfl | rfl <;> decide) | skip
    rw [name_back, Option.bind_some]
    simp only
    rw [if_neg (hne _ (by simp)), if_neg (hne _ (by simp)), if_neg (hne _ (by simp)), if_neg (hne _ (by simp)), if_neg (hne _ (by simp)), if_neg (hne _ (by simp)), if_neg (hne _ (by simp)), if_neg (hne _ (by simp)), ask_back hb, Option.bind_some, num_back h2]; rfl

/-! ### lines are read -/
theorem unq_q {s : List Int} (hs : byteOk s) (r : List Int) : unq (s.flatMap esc ++ 34 :: r) = some (s, r) := by
  rw [unq_flat esc (fun c hc r => unq_c hc r) s hs, unq_end]; simp
theorem word1_back {w : Wd} (hw : goodW w) (r : List Int) (hr : r = [] ∨ ∃ q, r = 32 :: q) : word1 (wordT w ++ r) = some (w, r) := by
  obtain ⟨t, b, u⟩ := w
  cases u
  cases b with
  | true =>
    unfold word1 wordT quoteS
    simp only [if_true, List.cons_append, List.headD_cons, List.append_assoc, List.nil_append]
    rw [show (34 :: (t.flatMap esc ++ 34 :: r) : List Int).drop 1 = t.flatMap esc ++ 34 :: r from rfl, unq_q hw.1]; rfl
  | false =>
    obtain ⟨h1, h2⟩ := hw.2 rfl
    simp only at h1 h2
    have h34 : (t ++ r).headD 0 ≠ 34 := by
      cases t with
      | nil => exact absurd rfl h1
      | cons c t => have := h2 c (by simp); simp only [List.cons_append, List.headD_cons]; omega
    have hp : ∀ c ∈ t, (c != 32) = true := fun c hc => by have := h2 c hc; simp; omega
    have e1 : (t ++ r).takeWhile (· != 32) = t := by
      rw [List.takeWhile_append_of_pos hp]
      rcases hr with rfl | ⟨q, rfl⟩ <;> simp
    have e2 : (t ++ r).dropWhile (· != 32) = r := by
      rw [List.dropWhile_append_of_pos hp]
      rcases hr with rfl | ⟨q, rfl⟩ <;> simp
    unfold word1 wordT
    simp only [Bool.false_eq_true, if_false]
    rw [if_neg h34, e1, if_neg h1, e2]
theorem words_back : ∀ (l : List Wd), goodWs l → l ≠ [] → wrds (lineT l) = some l
  | [], _, h => absurd rfl h
  | [w], hg, _ => by
    have hw := hg w (by simp)
    obtain ⟨g3, g4⟩ := line_all hg (by simp)
    rw [wrds_eq (fun c hc => by have := g4 c hc; omega)]
    have := word1_back hw [] (.inl rfl)
    unfold lineT
    simp only [List.map_cons, List.map_nil, joinS, List.flatMap_nil]
    rw [this]
  | w :: w2 :: r, hg, _ => by
    have hw := hg w (by simp)
    have ih := words_back (w2 :: r) (fun x hx => hg x (by simp only [List.mem_cons] at hx ⊢; exact .inr hx)) (by simp)
    obtain ⟨g3, g4⟩ := line_all hg (by simp)
    rw [wrds_eq (fun c hc => by have := g4 c hc; omega)]
    have e : lineT (w :: w2 :: r) = wordT w ++ 32 :: lineT (w2 :: r) := by
      unfold lineT
      simp only [List.map_cons, joinS, List.flatMap_cons, List.cons_append]
    rw [e, word1_back hw _ (.inr ⟨_, rfl⟩)]
    simp only [if_true]
    rw [ih]; rfl
theorem line_nomute {l : List Wd} (hg : goodWs l) (hn : l ≠ []) : ¬ mute (lineT l) := by
  cases l with
  | nil => exact absurd rfl hn
  | cons w r =>
    have hw := hg w (by simp)
    obtain ⟨a, b⟩ := wordT_all hw
    have hh : (lineT (w :: r)).headD 0 ≠ 35 := by
      unfold lineT
      rw [List.map_cons, joinS]
      obtain ⟨t, q, u⟩ := w
      cases q with
      | true => unfold wordT quoteS; simp
      | false =>
        obtain ⟨h1, h2⟩ := hw.2 rfl
        simp only at h1 h2
        unfold wordT
        simp only [Bool.false_eq_true, if_false]
        cases t with
        | nil => exact absurd rfl h1
        | cons c t => have := h2 c (by simp); simp only [List.cons_append, List.headD_cons]; omega
    unfold mute
    rintro (h | h)
    · exact (line_all hg (by simp)).1 h
    · exact hh h
theorem line_back {c : Cmd} (hc : cOk c) {l : List Wd} (h : cmdV c = some l) : lineS (lineT l) = some (clearC c) := by
  obtain ⟨g1, g2⟩ := cmd_good hc h
  unfold lineS
  rw [words_back l g1 g2, Option.bind_some, cmd_back hc h]; rfl

/-! ### texts are read -/
theorem lns_front' {p : List Int} (hp : ∀ c ∈ p, c ≠ 10) (r : List Int) : lns (p ++ 10 :: r) = p :: lns r := by
  induction p with
  | nil => rfl
  | cons c p ih =>
    rw [List.cons_append, lns, if_neg (hp c (by simp)), ih (fun x hx => hp x (by simp [hx]))]
theorem text_back : ∀ {l : List Cmd}, (∀ c ∈ l, cOk c) → ∀ {t : List Int}, textS l = some t → linesS (lns t) = some (l.map clearC)
  | [], _, t, h => by
    simp only [textS, Option.some.injEq] at h; subst h
    simp [lns, linesS, mute]
  | c :: l, hl, t, h => by
    rw [textS] at h
    obtain ⟨w, h1, h⟩ := Option.bind_eq_some_iff.1 h
    obtain ⟨b, h2, rfl⟩ := Option.map_eq_some_iff.1 h
    have hc := hl c (by simp)
    obtain ⟨g1, g2⟩ := cmd_good hc h1
    obtain ⟨g3, g4⟩ := line_all g1 g2
    rw [lns_front' (fun x hx => by have := g4 x hx; omega), linesS, if_neg (line_nomute g1 g2), line_back hc h1, Option.bind_some, text_back (fun x hx => hl x (by simp [hx])) h2]
    rfl
theorem parse_back {l : List Cmd} (hl : ∀ c ∈ l, cOk c) {t : List Int} (h : textS l = some t) (hs : longS t = false) : parseS t = (l.map clearC, 0) := by
  unfold parseS
  rw [hs, text_back hl h]; rfl
end Sx
namespace Sx
open Go Go.RowKit

def wsz (ws : List Wd) : Nat := (ws.map fun w => w.1.length + 1).sum
theorem wsz_cons (w : Wd) (ws : List Wd) : wsz (w :: ws) = w.1.length + 1 + wsz ws := by simp [wsz]
theorem wrds_wsz : ∀ (n : Nat) (s : List Int), s.length ≤ n → byteOk s → ∀ ws, wrds s = some ws → wsz ws ≤ s.length + 1 := by
  intro n
  induction n with
  | zero =>
    intro s hl hs ws h
    obtain rfl := List.length_eq_zero_iff.1 (Nat.le_zero.1 hl)
    rw [wrds_eq hs] at h
    simp [word1] at h
  | succ n ih =>
    intro s hl hs ws h
    rw [wrds_eq hs] at h
    cases hw : word1 s with
    | none => rw [hw] at h; cases h
    | some x =>
      obtain ⟨w, r⟩ := x
      rw [hw] at h
      obtain ⟨p, rfl, hp, hr, hb, hwl, hne⟩ := word1_rest hs hw
      cases r with
      | nil =>
        simp only [Option.some.injEq] at h
        subst h
        rw [wsz_cons]; simp [wsz]; omega
      | cons c r =>
        simp only at h
        split at h
        · obtain ⟨ws', h1, rfl⟩ := Option.map_eq_some_iff.1 h
          obtain ⟨_, hr⟩ := byteOk_cons hr
          simp only [List.length_append, List.length_cons] at hl ⊢
          have := ih r (by omega) hr ws' h1
          rw [wsz_cons]; omega
        · cases h
theorem next_sz {ws : List Wd} {q : Bool} {t : List Int} {r : Rd} (h : nextS ws q = some (t, r)) : wsz ws = t.length + 1 + wsz r.1 := by
  cases ws with
  | nil => cases h
  | cons w ws =>
    unfold nextS at h
    simp only at h
    split at h
    · simp only [Option.some.injEq, Prod.mk.injEq] at h
      obtain ⟨rfl, rfl⟩ := h
      exact wsz_cons _ _
    · cases h
theorem num_sz {ws : List Wd} {n : Int} {r : Rd} (h : numR ws = some (n, r)) : rng .i64 n ∧ wsz r.1 ≤ wsz ws := by
  unfold numR at h
  obtain ⟨⟨t, r2⟩, h1, h2⟩ := Option.bind_eq_some_iff.1 h
  obtain ⟨m, h4, h3⟩ := Option.map_eq_some_iff.1 h2
  simp only [Prod.mk.injEq] at h3
  obtain ⟨rfl, rfl⟩ := h3
  have := next_sz h1
  exact ⟨(numS_spec h4).1, by have := next_sz h1; omega⟩
theorem hexL_ok : ∀ (n : Nat) (t h : List Int), t.length ≤ n → hexL t = some h → byteOk h ∧ 2 * h.length = t.length
  | _, [], h, _, e => by
    simp only [hexL, Option.some.injEq] at e; subst e
    exact ⟨fun c hc => (by cases hc), rfl⟩
  | _, [_], h, _, e => by simp [hexL] at e
  | 0, _ :: _, _, hl, _ => by simp at hl
  | n + 1, a :: b :: r, h, hl, e => by
    unfold hexL at e
    split at e
    · cases e
    · rename_i hab
      obtain ⟨h', h1, rfl⟩ := Option.map_eq_some_iff.1 e
      obtain ⟨q1, q2⟩ := hexL_ok n r h' (by simp at hl; omega) h1
      have l1 := hexd_lt a
      have l2 := hexd_lt b
      exact ⟨byteOk_mk (by omega) q1, by simp only [List.length_cons]; omega⟩
theorem hash_sz {ws : List Wd} {h : List Int} {r : Rd} (e : hashR ws = some (h, r)) : hOk h ∧ wsz r.1 ≤ wsz ws := by
  unfold hashR at e
  obtain ⟨⟨t, r2⟩, h1, h2⟩ := Option.bind_eq_some_iff.1 e
  obtain ⟨m, h4, h3⟩ := Option.map_eq_some_iff.1 h2
  simp only [Prod.mk.injEq] at h3
  obtain ⟨rfl, rfl⟩ := h3
  have := next_sz h1
  unfold hashS at h4
  split at h4
  · rename_i hl
    obtain ⟨q1, q2⟩ := hexL_ok _ _ _ (Nat.le_refl _) h4
    exact ⟨⟨by omega, q1⟩, by have := next_sz h1; omega⟩
  · cases h4
theorem kindF_some {t : List Int} {k : Int} (h : kindF t = some k) : fkW k = some t := by
  unfold kindF at h
  split at h
  · rename_i e; cases h; rw [beq_iff_eq] at e; subst e; rfl
  split at h
  · rename_i e; cases h; rw [beq_iff_eq] at e; subst e; rfl
  split at h
  · rename_i e; cases h; rw [beq_iff_eq] at e; subst e; rfl
  · cases h
theorem fate_canon {ws : List Wd} {f : Fate} {r : Rd} (h : fateR ws = some (f, r)) (hw : WdOk ws) : fOk f ∧ clearF f = f ∧ (fateV f).isSome = true ∧ szF f + wsz r.1 ≤ wsz ws := by
  unfold fateR at h
  obtain ⟨⟨t, r1⟩, h1, h⟩ := Option.bind_eq_some_iff.1 h
  obtain ⟨k, hk, h⟩ := Option.bind_eq_some_iff.1 h
  obtain ⟨⟨f1, r2⟩, h2, h⟩ := Option.bind_eq_some_iff.1 h
  obtain ⟨⟨s1, r3⟩, h3, h⟩ := Option.bind_eq_some_iff.1 h
  obtain ⟨w1, _, _, _⟩ := next_ok h1 hw
  obtain ⟨w2, b2, _, _⟩ := next_ok h2 w1
  have w3 := num_ok h3 w2
  have z1 := next_sz h1
  have z2 := next_sz h2
  have z3 := num_sz h3
  have hk2 := kindF_some hk
  simp only at h z1 z2 z3 w1 w2 w3
  split at h
  · rename_i e2
    obtain ⟨⟨b, r5⟩, h4, h⟩ := Option.bind_eq_some_iff.1 h
    simp only [Option.some.injEq, Prod.mk.injEq] at h
    obtain ⟨rfl, rfl⟩ := h
    obtain ⟨_, b4, _, _⟩ := next_ok h4 w3
    have z4 := next_sz h4
    refine ⟨⟨b2, z3.1, b4⟩, ?_, ?_, ?_⟩
    · unfold clearF; simp [e2]
    · unfold fateV; simp only; rw [hk2]; rfl
    · unfold szF; simp only; omega
  · rename_i e2
    simp only [Option.some.injEq, Prod.mk.injEq] at h
    obtain ⟨rfl, rfl⟩ := h
    refine ⟨⟨b2, z3.1, fun c hc => by cases hc⟩, ?_, ?_, ?_⟩
    · unfold clearF; simp [e2]
    · unfold fateV; simp only; rw [hk2]; rfl
    · unfold szF; simp only [List.length_nil]; omega
theorem fates_canon : ∀ (m : Nat) (ws : List Wd) (l : List Fate), fatesF m ws = some l → WdOk ws → (∀ f ∈ l, fOk f) ∧ l.map clearF = l ∧ (fatesV l).isSome = true ∧ (l.map szF).sum ≤ wsz ws
  | 0, _, _, h, _ => by cases h
  | m + 1, [], l, h, _ => by
    simp only [fatesF, Option.some.injEq] at h; subst h
    exact ⟨fun f hf => (by cases hf), rfl, rfl, by simp⟩
  | m + 1, w :: ws, l, h, hw => by
    rw [fatesF] at h
    · obtain ⟨⟨f, r⟩, h1, h⟩ := Option.bind_eq_some_iff.1 h
      obtain ⟨l', h2, rfl⟩ := Option.map_eq_some_iff.1 h
      obtain ⟨a1, a2, a3, a4⟩ := fate_canon h1 hw
      obtain ⟨b1, b2, b3, b4⟩ := fates_canon m r.1 l' h2 (fate_ok h1 hw).1
      refine ⟨fun x hx => ?_, by rw [List.map_cons, a2, b2], ?_, ?_⟩
      · rcases List.mem_cons.1 hx with rfl | hx
        · exact a1
        · exact b1 x hx
      · rw [fatesV]
        obtain ⟨x, hx⟩ := Option.isSome_iff_exists.1 a3
        obtain ⟨y, hy⟩ := Option.isSome_iff_exists.1 b3
        rw [hx, Option.bind_some, hy]; rfl
      · rw [List.map_cons, List.sum_cons]; simp only at a4 ⊢; omega
    · simp
theorem bareK_some {w : List Int} {k : Int} (h : bareK w = some k) (hw : w ≠ []) : (k = 4 ∨ k = 5 ∨ k = 6 ∨ k = 7 ∨ k = 9 ∨ k = 13) := by
  unfold bareK at h
  rw [if_neg hw] at h
  repeat' split at h
  all_goals first | cases h | skip
  all_goals decide
theorem askK_some {w : List Int} {k : Int} (h : askK w = some k) (hw : w ≠ []) : (k = 4 ∨ k = 5 ∨ k = 6 ∨ k = 7 ∨ k = 8) := by
  unfold askK at h
  rw [if_neg hw] at h
  repeat' split at h
  all_goals first | cases h | skip
  all_goals decide
theorem z0 : rng .i64 0 := by decide
theorem hOk_z : hOk z32 := ⟨rfl, by unfold byteOk; decide⟩
theorem nilOk : byteOk [] := fun c hc => by cases hc
theorem sOk_z : sOk zStep := ⟨z0, z0, z0, hOk_z, nilOk, nilOk, fun f hf => by cases hf⟩
theorem wOk_z : wOk zWld := by
  refine ⟨z0, z0, ⟨rfl, ?_⟩, ⟨rfl, ?_⟩, z0, z0⟩ <;> (intro h hm; rw [List.eq_of_mem_replicate hm]; exact hOk_z)
theorem next_ne {ws : List Wd} {t : List Int} {r : Rd} (h : nextS ws false = some (t, r)) (hw : WdOk ws) : t ≠ [] := by
  cases ws with
  | nil => cases h
  | cons w ws =>
    unfold nextS at h
    simp only at h
    split at h
    · rename_i e
      simp only [Option.some.injEq, Prod.mk.injEq] at h
      obtain ⟨rfl, rfl⟩ := h
      exact (hw.2 w (by simp)).2.2 e
    · cases h
def canS (s : Step) : Prop := sOk s ∧ clearS s = s ∧ (stepV s).isSome = true
theorem step_canon {ws : List Wd} {s : Step} {r : Rd} (h : stepR ws = some (s, r)) (hw : WdOk ws) : canS s ∧ szS s ≤ wsz ws + 1 := by
  unfold stepR at h
  obtain ⟨⟨t, r1⟩, h1, h⟩ := Option.bind_eq_some_iff.1 h
  obtain ⟨w1, _, _, _⟩ := next_ok h1 hw
  have y1 := next_sz h1
  have hne := next_ne h1 hw
  simp only at h y1 w1
  split at h
  · obtain ⟨⟨n, r2⟩, h2, h⟩ := Option.bind_eq_some_iff.1 h
    obtain ⟨⟨x, r3⟩, h3, h⟩ := Option.bind_eq_some_iff.1 h
    simp only [Option.some.injEq, Prod.mk.injEq] at h
    obtain ⟨rfl, rfl⟩ := h
    exact ⟨⟨⟨(num_sz h2).1, z0, z0, (hash_sz h3).1, nilOk, nilOk, fun f hf => by cases hf⟩, rfl, rfl⟩, by unfold szS; simp⟩
  split at h
  · obtain ⟨⟨n, r2⟩, h2, h⟩ := Option.bind_eq_some_iff.1 h
    obtain ⟨⟨x, r3⟩, h3, h⟩ := Option.bind_eq_some_iff.1 h
    simp only [Option.some.injEq, Prod.mk.injEq] at h
    obtain ⟨rfl, rfl⟩ := h
    exact ⟨⟨⟨z0, (num_sz h2).1, z0, (hash_sz h3).1, nilOk, nilOk, fun f hf => by cases hf⟩, rfl, rfl⟩, by unfold szS; simp⟩
  split at h
  · obtain ⟨⟨n, r2⟩, h2, h⟩ := Option.bind_eq_some_iff.1 h
    obtain ⟨⟨x, r3⟩, h3, h⟩ := Option.bind_eq_some_iff.1 h
    simp only [Option.some.injEq, Prod.mk.injEq] at h
    obtain ⟨rfl, rfl⟩ := h
    have w2 := num_ok h2 w1
    have y2 := (num_sz h2).2
    have y3 := next_sz h3
    simp only at y2 y3 w2 h3
    exact ⟨⟨⟨z0, (num_sz h2).1, z0, hOk_z, (next_ok h3 w2).2.1, nilOk, fun f hf => by cases hf⟩, rfl, rfl⟩, by unfold szS; simp; omega⟩
  split at h
  · obtain ⟨⟨x, r3⟩, h3, h⟩ := Option.bind_eq_some_iff.1 h
    simp only [Option.some.injEq, Prod.mk.injEq] at h
    obtain ⟨rfl, rfl⟩ := h
    have y3 := next_sz h3
    exact ⟨⟨⟨z0, z0, z0, hOk_z, nilOk, (next_ok h3 w1).2.1, fun f hf => by cases hf⟩, rfl, rfl⟩, by unfold szS; simp; omega⟩
  split at h
  · obtain ⟨⟨n, r2⟩, h2, h⟩ := Option.bind_eq_some_iff.1 h
    simp only [Option.some.injEq, Prod.mk.injEq] at h
    obtain ⟨rfl, rfl⟩ := h
    exact ⟨⟨⟨z0, z0, (num_sz h2).1, hOk_z, nilOk, nilOk, fun f hf => by cases hf⟩, rfl, rfl⟩, by unfold szS; simp⟩
  split at h
  · obtain ⟨⟨n, r2⟩, h2, h⟩ := Option.bind_eq_some_iff.1 h
    simp only [Option.some.injEq, Prod.mk.injEq] at h
    obtain ⟨rfl, rfl⟩ := h
    exact ⟨⟨⟨z0, z0, (num_sz h2).1, hOk_z, nilOk, nilOk, fun f hf => by cases hf⟩, rfl, rfl⟩, by unfold szS; simp⟩
  split at h
  · obtain ⟨⟨n, r2⟩, h2, h⟩ := Option.bind_eq_some_iff.1 h
    obtain ⟨⟨x, r3⟩, h3, h⟩ := Option.bind_eq_some_iff.1 h
    simp only [Option.some.injEq, Prod.mk.injEq] at h
    obtain ⟨rfl, rfl⟩ := h
    have w2 := num_ok h2 w1
    have y2 := (num_sz h2).2
    unfold fatesR at h3
    obtain ⟨l, h4, h5⟩ := Option.map_eq_some_iff.1 h3
    simp only [Prod.mk.injEq] at h5
    obtain ⟨rfl, _⟩ := h5
    obtain ⟨q1, q2, q3, q4⟩ := fates_canon _ _ _ h4 w2
    simp only at y2 q4
    refine ⟨⟨⟨z0, z0, (num_sz h2).1, hOk_z, nilOk, nilOk, q1⟩, ?_, ?_⟩, by unfold szS; simp; omega⟩
    · unfold clearS; simp [q2]
    · obtain ⟨y, hy⟩ := Option.isSome_iff_exists.1 q3
      unfold stepV; simp [hy]
  · obtain ⟨k, h2, h⟩ := Option.bind_eq_some_iff.1 h
    simp only [Option.some.injEq, Prod.mk.injEq] at h
    obtain ⟨rfl, rfl⟩ := h
    have hk := bareK_some h2 hne
    refine ⟨⟨⟨z0, z0, z0, hOk_z, nilOk, nilOk, fun f hf => by cases hf⟩, ?_, ?_⟩, by unfold szS; simp⟩
    · rcases hk with rfl | rfl | rfl | rfl | rfl | rfl <;> rfl
    · rcases hk with rfl | rfl | rfl | rfl | rfl | rfl <;> rfl
def canC (c : Cmd) : Prop := cOk c ∧ clearC c = c ∧ (cmdV c).isSome = true
theorem cmd_canon {ws : List Wd} {c : Cmd} {r : Rd} (h : cmdR ws = some (c, r)) (hw : WdOk ws) : canC c ∧ szC c ≤ wsz ws + 1 := by
  have hz1 : szS zStep = 1 := rfl
  unfold cmdR at h
  obtain ⟨⟨t, r1⟩, h1, h⟩ := Option.bind_eq_some_iff.1 h
  obtain ⟨w1, _, _, _⟩ := next_ok h1 hw
  have y1 := next_sz h1
  have hne := next_ne h1 hw
  simp only at h y1 w1
  split at h
  · obtain ⟨⟨n1, r2⟩, g1, h⟩ := Option.bind_eq_some_iff.1 h
    obtain ⟨⟨n2, r3⟩, g2, h⟩ := Option.bind_eq_some_iff.1 h
    obtain ⟨⟨n3, r4⟩, g3, h⟩ := Option.bind_eq_some_iff.1 h
    obtain ⟨⟨n4, r5⟩, g4, h⟩ := Option.bind_eq_some_iff.1 h
    obtain ⟨⟨x1, r6⟩, g5, h⟩ := Option.bind_eq_some_iff.1 h
    obtain ⟨⟨x2, r7⟩, g6, h⟩ := Option.bind_eq_some_iff.1 h
    obtain ⟨⟨x3, r8⟩, g7, h⟩ := Option.bind_eq_some_iff.1 h
    obtain ⟨⟨x4, r9⟩, g8, h⟩ := Option.bind_eq_some_iff.1 h
    simp only [Option.some.injEq, Prod.mk.injEq] at h
    obtain ⟨rfl, rfl⟩ := h
    refine ⟨⟨⟨⟨(num_sz g1).1, (num_sz g2).1, ⟨rfl, ?_⟩, ⟨rfl, ?_⟩, (num_sz g3).1, (num_sz g4).1⟩, z0, sOk_z, z0, z0⟩, rfl, rfl⟩, by unfold szC; simp only; omega⟩
    · intro y hy
      simp only [List.mem_cons, List.not_mem_nil, or_false] at hy
      rcases hy with rfl | rfl
      · exact (hash_sz g5).1
      · exact (hash_sz g6).1
    · intro y hy
      simp only [List.mem_cons, List.not_mem_nil, or_false] at hy
      rcases hy with rfl | rfl
      · exact (hash_sz g7).1
      · exact (hash_sz g8).1
  split at h
  · obtain ⟨⟨n, r2⟩, h2, h⟩ := Option.bind_eq_some_iff.1 h
    obtain ⟨⟨s, r3⟩, h3, h⟩ := Option.bind_eq_some_iff.1 h
    simp only [Option.some.injEq, Prod.mk.injEq] at h
    obtain ⟨rfl, rfl⟩ := h
    have w2 := num_ok h2 w1
    have y2 := (num_sz h2).2
    obtain ⟨⟨q1, q2, q3⟩, q4⟩ := step_canon h3 w2
    simp only at y2 q4
    refine ⟨⟨⟨wOk_z, (num_sz h2).1, q1, z0, z0⟩, ?_, ?_⟩, by unfold szC; simp only; omega⟩
    · unfold clearC clearM; simp [q2]
    · obtain ⟨y, hy⟩ := Option.isSome_iff_exists.1 q3
      unfold cmdV moveV; simp [hy]
  split at h
  · simp only [Option.some.injEq, Prod.mk.injEq] at h
    obtain ⟨rfl, rfl⟩ := h
    exact ⟨⟨⟨wOk_z, z0, sOk_z, z0, z0⟩, rfl, rfl⟩, by unfold szC; simp only; omega⟩
  split at h
  · simp only [Option.some.injEq, Prod.mk.injEq] at h
    obtain ⟨rfl, rfl⟩ := h
    exact ⟨⟨⟨wOk_z, z0, sOk_z, z0, z0⟩, rfl, rfl⟩, by unfold szC; simp only; omega⟩
  split at h
  · obtain ⟨⟨n, r2⟩, h2, h⟩ := Option.bind_eq_some_iff.1 h
    simp only [Option.some.injEq, Prod.mk.injEq] at h
    obtain ⟨rfl, rfl⟩ := h
    exact ⟨⟨⟨wOk_z, (num_sz h2).1, sOk_z, z0, z0⟩, rfl, rfl⟩, by unfold szC; simp only; omega⟩
  split at h
  · obtain ⟨⟨n, r2⟩, h2, h⟩ := Option.bind_eq_some_iff.1 h
    simp only [Option.some.injEq, Prod.mk.injEq] at h
    obtain ⟨rfl, rfl⟩ := h
    exact ⟨⟨⟨wOk_z, (num_sz h2).1, sOk_z, z0, z0⟩, rfl, rfl⟩, by unfold szC; simp only; omega⟩
  split at h
  · obtain ⟨⟨n, r2⟩, h2, h⟩ := Option.bind_eq_some_iff.1 h
    simp only [Option.some.injEq, Prod.mk.injEq] at h
    obtain ⟨rfl, rfl⟩ := h
    exact ⟨⟨⟨wOk_z, z0, sOk_z, (num_sz h2).1, z0⟩, rfl, rfl⟩, by unfold szC; simp only; omega⟩
  split at h
  · simp only [Option.some.injEq, Prod.mk.injEq] at h
    obtain ⟨rfl, rfl⟩ := h
    exact ⟨⟨⟨wOk_z, z0, sOk_z, z0, z0⟩, rfl, rfl⟩, by unfold szC; simp only; omega⟩
  · obtain ⟨k, h2, h⟩ := Option.bind_eq_some_iff.1 h
    obtain ⟨⟨n, r2⟩, h3, h⟩ := Option.bind_eq_some_iff.1 h
    simp only [Option.some.injEq, Prod.mk.injEq] at h
    obtain ⟨rfl, rfl⟩ := h
    have hk := askK_some h2 hne
    refine ⟨⟨⟨wOk_z, z0, sOk_z, z0, (num_sz h3).1⟩, ?_, ?_⟩, by unfold szC; simp only; omega⟩
    · rcases hk with rfl | rfl | rfl | rfl | rfl <;> rfl
    · rcases hk with rfl | rfl | rfl | rfl | rfl <;> rfl
theorem line_canon {s : List Int} (hs : byteOk s) (hl : s.length < 4294967281) {c : Cmd} (h : lineS s = some c) : canC c ∧ szC c ≤ s.length + 2 := by
  unfold lineS at h
  obtain ⟨ws, h1, h⟩ := Option.bind_eq_some_iff.1 h
  obtain ⟨⟨c', r⟩, h2, h⟩ := Option.bind_eq_some_iff.1 h
  split at h
  · cases h
    have w := wrds_WdOk hs hl h1
    have z := wrds_wsz _ s (Nat.le_refl _) hs ws h1
    obtain ⟨q1, q2⟩ := cmd_canon h2 w
    exact ⟨q1, by simp only; omega⟩
  · cases h
theorem lines_canon : ∀ (L : List (List Int)), (∀ s ∈ L, byteOk s ∧ s.length < 4294967281) → ∀ (m : List Cmd), linesS L = some m → (∀ c ∈ m, canC c) ∧ szL m ≤ (L.map fun s => s.length + 2).sum
  | [], _, m, h => by
    simp only [linesS, Option.some.injEq] at h; subst h
    exact ⟨fun c hc => (by cases hc), by simp [szL]⟩
  | s :: L, hL, m, h => by
    rw [linesS] at h
    have ih := lines_canon L (fun x hx => hL x (by simp [hx]))
    rw [List.map_cons, List.sum_cons]
    split at h
    · obtain ⟨q1, q2⟩ := ih m h
      exact ⟨q1, by omega⟩
    · obtain ⟨c, h1, h⟩ := Option.bind_eq_some_iff.1 h
      obtain ⟨m', h2, rfl⟩ := Option.map_eq_some_iff.1 h
      obtain ⟨q1, q2⟩ := ih m' h2
      obtain ⟨p1, p2⟩ := line_canon (hL s (by simp)).1 (hL s (by simp)).2 h1
      refine ⟨fun x hx => ?_, ?_⟩
      · rcases List.mem_cons.1 hx with rfl | hx
        · exact p1
        · exact q1 x hx
      · unfold szL at q2 ⊢
        rw [List.map_cons, List.sum_cons]; omega
theorem lns_sum : ∀ t : List Int, ((lns t).map fun s => s.length + 2).sum ≤ 2 * t.length + 2
  | [] => by simp [lns]
  | b :: l => by
    have ih := lns_sum l
    unfold lns
    split
    · rw [List.map_cons, List.sum_cons]; simp only [List.length_nil, List.length_cons]; omega
    · cases hL : lns l with
      | nil => simp; omega
      | cons x r =>
        rw [hL] at ih
        simp only [List.map_cons, List.sum_cons, List.length_cons] at ih ⊢; omega
/-- what is read of a text, and how much it is -/
theorem parse_canon {t : List Int} (ht : byteOk t) {m : List Cmd} {e : Int} (h : parseS t = (m, e)) : (e ≠ 0 ∧ m = []) ∨ (e = 0 ∧ (∀ c ∈ m, canC c) ∧ szL m ≤ 131074) := by
  unfold parseS at h
  split at h
  · cases h; exact .inl ⟨by decide, rfl⟩
  · rename_i hl
    cases hL : linesS (lns t) with
    | none => rw [hL] at h; cases h; exact .inl ⟨by decide, rfl⟩
    | some l =>
      rw [hL] at h
      cases h
      have hlen : t.length ≤ 65536 := by
        unfold longS at hl
        simp only [Bool.or_eq_true, not_or, decide_eq_true_eq] at hl
        omega
      have hs := lns_sum t
      obtain ⟨q1, q2⟩ := lines_canon (lns t) (fun s hs => ⟨lns_ok ht s hs, by have := lns_parts s hs; omega⟩) _ hL
      exact .inr ⟨rfl, q1, by omega⟩
theorem text_canon : ∀ {m : List Cmd}, (∀ c ∈ m, canC c) → (∃ t, textS m = some t) ∧ m.map clearC = m
  | [], _ => ⟨⟨[], rfl⟩, rfl⟩
  | c :: m, h => by
    obtain ⟨⟨t, h1⟩, h2⟩ := text_canon (m := m) fun x hx => h x (by simp [hx])
    obtain ⟨_, g1, g2⟩ := h c (by simp)
    obtain ⟨w, hw⟩ := Option.isSome_iff_exists.1 g2
    refine ⟨⟨lineT w ++ 10 :: t, ?_⟩, by rw [List.map_cons, g1, h2]⟩
    rw [textS, hw, Option.bind_some, h1]; rfl
end Sx
namespace Sx
open Go Go.RowKit

theorem cmds_len (l : List Cmd) : l.length ≤ szL l := by
  induction l with
  | nil => simp
  | cons c l ih => unfold szL at ih ⊢; rw [List.map_cons, List.sum_cons, List.length_cons]; unfold szC szS at *; omega
/-! ### lists of one's own, and the same -/
theorem own_l0 (l : List Cmd) (hl : l.length ≤ 4294967296) (hf : ∀ c ∈ l, c.2.2.1.2.2.1.2.2.2.2.2.2.2.1.length ≤ 4294967296) (K : List Cmd → Option (List Cmd)) : ∀ (m i : Nat) (acc : List Cmd), i + m = l.length → acc = l.take i → escrowlaw25_own_l0 l K (m + 1) ((i : Int), acc) = K l
  | 0, i, acc, h, ha => by
    unfold escrowlaw25_own_l0
    rw [if_neg (by simp; omega), ha, List.take_of_length_le (by omega)]
  | m + 1, i, acc, h, ha => by
    unfold escrowlaw25_own_l0
    have hi : i < l.length := by omega
    have w : IntKind.wrap .i64 ((i : Int) + 1) = ((i + 1 : Nat) : Int) := by rw [wrap_i64 (by omega) (by omega)]; omega
    rw [if_pos (by simp; omega), if_pos ⟨by omega, by omega⟩, Int.toNat_natCast, w]
    have q := hf _ (getD_mem (0, (0, 0, (List.replicate 2 ((List.replicate 32 (0 : Int)) : List (Int))), (List.replicate 2 ((List.replicate 32 (0 : Int)) : List (Int))), 0, 0, ()), (0, 0, (0, 0, 0, 0, (List.replicate 32 (0 : Int)), [], [], [], ()), ()), 0, 0, ()) hi)
    have e1 : l.take (i + 1) = l.take i ++ [l.getD i (0, (0, 0, (List.replicate 2 ((List.replicate 32 (0 : Int)) : List (Int))), (List.replicate 2 ((List.replicate 32 (0 : Int)) : List (Int))), 0, 0, ()), (0, 0, (0, 0, 0, 0, (List.replicate 32 (0 : Int)), [], [], [], ()), ()), 0, 0, ())] := by
      rw [List.take_add_one]; congr 1; simp [List.getD, hi]
    generalize l.getD i _ = c at q e1 ⊢
    have hF : escrowlaw25_fates c.2.2.1.2.2.1.2.2.2.2.2.2.2.1 = some c.2.2.1.2.2.1.2.2.2.2.2.2.2.1 := by
      unfold escrowlaw25_fates
      rw [if_pos (by simp only [List.length_nil]; omega), List.nil_append]
    have hal : acc.length ≤ l.length := by rw [ha, List.length_take]; omega
    rw [hF, bind_eq, if_pos (by simp only [List.length_cons, List.length_nil]; omega), bnd_eq]
    exact own_l0 l hl hf K m (i + 1) _ (by omega) (by rw [e1, ha])
theorem own_eq {l : List Cmd} (hl : l.length ≤ 4294967296) (hf : ∀ c ∈ l, c.2.2.1.2.2.1.2.2.2.2.2.2.2.1.length ≤ 4294967296) : escrowlaw25_own l = some l := by
  unfold escrowlaw25_own
  simp only [bnd_eq]
  have e : Int.toNat ((l.length : Int) - 0) + 1 = l.length + 1 := by omega
  rw [e, show (0 : Int) = ((0 : Nat) : Int) from rfl, own_l0 l hl hf _ l.length 0 [] (by omega) rfl]
theorem sameF_l0 (a : List Fate) (hl : a.length ≤ 4294967296) (K : Unit → Option Bool) : ∀ (m i : Nat), i + m = a.length → escrowref25_SameFates_l0 a a K (m + 1) (i : Int) = K ()
  | 0, i, h => by
    unfold escrowref25_SameFates_l0
    rw [if_neg (by simp; omega)]
  | m + 1, i, h => by
    unfold escrowref25_SameFates_l0
    have g : (0 : Int) ≤ (i : Int) ∧ (i : Int) < (a.length : Int) := ⟨by omega, by omega⟩
    have w : IntKind.wrap .i64 ((i : Int) + 1) = ((i + 1 : Nat) : Int) := by rw [wrap_i64 (by omega) (by omega)]; omega
    rw [if_pos (by simp; omega), if_pos g, if_pos g, w]
    generalize List.getD a _ _ = x
    have he : eqD (.pair .str (.pair (.int .i64) (.pair (.int .i64) (.pair .str .unit)))) x x = true := (eqD_iff (t := .pair .str (.pair (.int .i64) (.pair (.int .i64) (.pair .str .unit)))) rfl x x).2 rfl
    rw [he, if_neg (by decide), bnd_eq]
    exact sameF_l0 a hl K m (i + 1) (by omega)
theorem sameF_self {a : List Fate} (hl : a.length ≤ 4294967296) : escrowref25_SameFates a a = some true := by
  unfold escrowref25_SameFates
  rw [if_neg (by simp)]
  simp only [bnd_eq]
  have e : Int.toNat ((a.length : Int) - 0) + 1 = a.length + 1 := by omega
  rw [e, show (0 : Int) = ((0 : Nat) : Int) from rfl, sameF_l0 a hl _ a.length 0 (by omega)]
theorem same_l0 (a : List Cmd) (hl : a.length ≤ 4294967296) (hf : ∀ c ∈ a, c.2.2.1.2.2.1.2.2.2.2.2.2.2.1.length ≤ 4294967296) (K : Unit → Option Bool) : ∀ (m i : Nat), i + m = a.length → escrowlaw25_same_l0 a a K (m + 1) (i : Int) = K ()
  | 0, i, h => by
    unfold escrowlaw25_same_l0
    rw [if_neg (by simp; omega)]
  | m + 1, i, h => by
    unfold escrowlaw25_same_l0
    have hi : i < a.length := by omega
    have g : (0 : Int) ≤ (i : Int) ∧ (i : Int) < (a.length : Int) := ⟨by omega, by omega⟩
    have w : IntKind.wrap .i64 ((i : Int) + 1) = ((i + 1 : Nat) : Int) := by rw [wrap_i64 (by omega) (by omega)]; omega
    rw [if_pos (by simp; omega), if_pos g, if_pos g, w, Int.toNat_natCast]
    have q := hf _ (getD_mem (0, (0, 0, (List.replicate 2 ((List.replicate 32 (0 : Int)) : List (Int))), (List.replicate 2 ((List.replicate 32 (0 : Int)) : List (Int))), 0, 0, ()), (0, 0, (0, 0, 0, 0, (List.replicate 32 (0 : Int)), [], [], [], ()), ()), 0, 0, ()) hi)
    generalize List.getD a i _ = c at q ⊢
    have e1 : eqD (.pair (.int .i64) (.pair (.int .i64) (.pair (.arr 2 (.arr 32 (.int .u8))) (.pair (.arr 2 (.arr 32 (.int .u8))) (.pair (.int .i64) (.pair (.int .i64) .unit)))))) c.2.1 c.2.1 = true := (eqD_iff (t := .pair (.int .i64) (.pair (.int .i64) (.pair (.arr 2 (.arr 32 (.int .u8))) (.pair (.arr 2 (.arr 32 (.int .u8))) (.pair (.int .i64) (.pair (.int .i64) .unit)))))) rfl c.2.1 c.2.1).2 rfl
    have e2 : eqD (.arr 32 (.int .u8)) c.2.2.1.2.2.1.2.2.2.2.1 c.2.2.1.2.2.1.2.2.2.2.1 = true := (eqD_iff (t := .arr 32 (.int .u8)) rfl _ _).2 rfl
    have e3 := sameF_self q
    have ih := same_l0 a hl hf K m (i + 1) (by omega)
    simp only [bnd_eq, bne_self_eq_false, e1, e2, Bool.not_true, Bool.or_self, Bool.false_eq_true, if_false]
    rw [e3, bind_eq]
    simp only [Bool.not_true, Bool.false_eq_true, if_false]
    exact ih
theorem same_self {a : List Cmd} (hl : a.length ≤ 4294967296) (hf : ∀ c ∈ a, c.2.2.1.2.2.1.2.2.2.2.2.2.2.1.length ≤ 4294967296) : escrowlaw25_same a a = some true := by
  unfold escrowlaw25_same
  rw [if_neg (by simp)]
  simp only [bnd_eq]
  have e : Int.toNat ((a.length : Int) - 0) + 1 = a.length + 1 := by omega
  rw [e, show (0 : Int) = ((0 : Nat) : Int) from rfl, same_l0 a hl hf _ a.length 0 (by omega)]

/-! ### what the row says of the arguments -/
abbrev hashT : T := .arr 32 (.int .u8)
abbrev fateT : T := .pair .str (.pair (.int .i64) (.pair (.int .i64) (.pair .str .unit)))
abbrev stepT (e : Nat) : T := .pair (.int .i64) (.pair (.int .i64) (.pair (.int .i64) (.pair (.int .i64) (.pair hashT (.pair .str (.pair .str (.pair (.sl e fateT) .unit)))))))
abbrev worldT : T := .pair (.int .i64) (.pair (.int .i64) (.pair (.arr 2 hashT) (.pair (.arr 2 hashT) (.pair (.int .i64) (.pair (.int .i64) .unit)))))
abbrev cmdT (e : Nat) : T := .pair (.int .i64) (.pair worldT (.pair (.pair (.int .i64) (.pair (.int .i64) (.pair (stepT e) .unit))) (.pair (.int .i64) (.pair (.int .i64) .unit))))
theorem hOk_of {B : TypeId → Nat} {h : List Int} (g : Small B hashT h) : hOk h := ⟨g.1, fun c hc => by
  have := g.2 c hc
  simp only [Small, rng, lo, Sx.hi] at this; omega⟩
theorem fOk_of {B : TypeId → Nat} {f : Fate} (g : Small B fateT f) : fOk f := ⟨g.1.1, g.2.1, g.2.2.2.1.1⟩
theorem sOk_of {B : TypeId → Nat} {e : Nat} {s : Step} (g : Small B (stepT e) s) : sOk s := ⟨g.2.1, g.2.2.1, g.2.2.2.1, hOk_of g.2.2.2.2.1, g.2.2.2.2.2.1.1, g.2.2.2.2.2.2.1.1, fun f hf => fOk_of (g.2.2.2.2.2.2.2.1.2 f hf)⟩
theorem wOk_of {B : TypeId → Nat} {w : Wld} (g : Small B worldT w) : wOk w := ⟨g.1, g.2.1, ⟨g.2.2.1.1, fun h hh => hOk_of (g.2.2.1.2 h hh)⟩, ⟨g.2.2.2.1.1, fun h hh => hOk_of (g.2.2.2.1.2 h hh)⟩, g.2.2.2.2.1, g.2.2.2.2.2.1⟩
theorem cOk_of {B : TypeId → Nat} {e : Nat} {c : Cmd} (g : Small B (cmdT e) c) : cOk c := ⟨wOk_of g.2.1, g.2.2.1.2.1, sOk_of g.2.2.1.2.2.1, g.2.2.2.1, g.2.2.2.2.1⟩
theorem szF_bulk (f : Fate) : szF f ≤ Bulk fateT f := by
  unfold szF
  simp only [Bulk]; omega
theorem sum_le {α : Type} (f g : α → Nat) (h : ∀ x, f x ≤ g x) : ∀ l : List α, (l.map f).sum ≤ (l.map g).sum
  | [] => by simp
  | x :: l => by
    have := sum_le f g h l
    have := h x
    simp only [List.map_cons, List.sum_cons]; omega
theorem szC_bulk (e : Nat) (c : Cmd) : szC c ≤ Bulk (cmdT e) c := by
  unfold szC szS
  have := sum_le szF (Bulk fateT) szF_bulk c.2.2.1.2.2.1.2.2.2.2.2.2.2.1
  simp only [Bulk] at this ⊢; omega
theorem szL_bulk (e e2 : Nat) (l : List Cmd) : szL l ≤ Bulk (.sl e2 (cmdT e)) l := by
  have := sum_le szC (Bulk (cmdT e)) (szC_bulk e) l
  unfold szL
  simp only [Bulk] at this ⊢; omega
theorem fates_le {l : List Cmd} {n : Nat} (hz : szL l ≤ n) : l.length ≤ n ∧ ∀ c ∈ l, c.2.2.1.2.2.1.2.2.2.2.2.2.2.1.length ≤ n := by
  refine ⟨Nat.le_trans (cmds_len l) hz, fun c hc => ?_⟩
  have h1 := sum_ge szC hc
  have h2 := len_le_sum c.2.2.1.2.2.1.2.2.2.2.2.2.2.1
  unfold szL at hz
  unfold szC szS at *
  omega

end Sx
namespace Sx
open Go Go.RowKit

/-! ### cleared -/
theorem clearF_l0 (l : List Fate) (hl : l.length ≤ 4294967296) (K : List Fate → Option (List Fate × Bool)) : ∀ (m i : Nat) (acc : List Fate), i + m = l.length → acc.length = i →
    escrowlaw25_clearFates_l0 l K (m + 1) ((i : Int), acc) = match fatesV (l.drop i) with | none => some ([], false) | some _ => K (acc ++ (l.drop i).map clearF)
  | 0, i, acc, h, _ => by
    unfold escrowlaw25_clearFates_l0
    rw [if_neg (by simp; omega), List.drop_eq_nil_of_le (by omega)]
    simp [fatesV]
  | m + 1, i, acc, h, ha => by
    unfold escrowlaw25_clearFates_l0
    have hi : i < l.length := by omega
    have w : IntKind.wrap .i64 ((i : Int) + 1) = ((i + 1 : Nat) : Int) := by rw [wrap_i64 (by omega) (by omega)]; omega
    rw [if_pos (by simp; omega), if_pos ⟨by omega, by omega⟩, Int.toNat_natCast, drop_consD ([], 0, 0, [], ()) hi, fatesV, w]
    generalize l.getD i ([], 0, 0, [], ()) = f
    have hd : ∀ k, (fkW k = none ↔ (decide (k < 0) || decide (k > 2)) = true) := by
      intro k
      unfold fkW
      simp only [Bool.or_eq_true, decide_eq_true_eq]
      repeat' split
      all_goals simp <;> omega
    have ih := fun acc h => clearF_l0 l hl K m (i + 1) acc (by omega) h
    simp only [bnd_eq]
    by_cases hk : (decide (f.2.2.1 < 0) || decide (f.2.2.1 > 2)) = true
    · rw [if_pos hk]
      have : fateV f = none := by unfold fateV; rw [(hd _).2 hk]; rfl
      rw [this]; rfl
    · rw [if_neg hk]
      obtain ⟨x, hx⟩ := Option.isSome_iff_exists.1 (show (fkW f.2.2.1).isSome = true by
        cases h : fkW f.2.2.1 with
        | none => exact absurd ((hd _).1 h) hk
        | some _ => rfl)
      have hv : ∃ y, fateV f = some y := by unfold fateV; rw [hx]; exact ⟨_, rfl⟩
      obtain ⟨y, hy⟩ := hv
      rw [hy, Option.bind_some]
      have e1 : ∀ g : Fate, (if (acc.length + [g].length) * 48 ≤ 140737488355328 then escrowlaw25_clearFates_l0 l K (m + 1) (((i + 1 : Nat) : Int), acc ++ [g]) else none) = match fatesV (l.drop (i + 1)) with | none => some ([], false) | some _ => K (acc ++ g :: (l.drop (i + 1)).map clearF) := by
        intro g
        rw [if_pos (by simp only [List.length_cons, List.length_nil]; omega), ih (acc ++ [g]) (by simp; omega)]
        cases fatesV (l.drop (i + 1)) with
        | none => rfl
        | some z => simp
      rw [List.map_cons]
      by_cases h2 : f.2.2.1 = 2
      · rw [if_neg (by simp [h2]), e1 f]
        have : clearF f = f := by unfold clearF; rw [if_pos h2]
        rw [this]
        cases fatesV (l.drop (i + 1)) <;> rfl
      · rw [if_pos (by simpa using h2)]
        have : clearF f = (f.1, f.2.1, f.2.2.1, [], f.2.2.2.2) := by unfold clearF; rw [if_neg h2]
        rw [this, e1]
        cases fatesV (l.drop (i + 1)) <;> rfl
theorem clearF_r (l : List Fate) (hl : l.length ≤ 4294967296) : escrowlaw25_clearFates l = some (match fatesV l with | none => ([], false) | some _ => (l.map clearF, true)) := by
  unfold escrowlaw25_clearFates
  simp only [bnd_eq]
  have e : Int.toNat ((l.length : Int) - 0) + 1 = l.length + 1 := by omega
  rw [e, show (0 : Int) = ((0 : Nat) : Int) from rfl, clearF_l0 l hl _ l.length 0 [] (by omega) rfl, List.drop_zero]
  cases fatesV l <;> rfl
theorem bare_none {k : Int} (h : bareW k = []) (h1 : k ≠ 1) (h2 : k ≠ 2) (h3 : k ≠ 3) (h8 : k ≠ 8) (h10 : k ≠ 10) (h11 : k ≠ 11) (h12 : k ≠ 12) : ¬ (1 ≤ k ∧ k ≤ 13) := by
  unfold bareW at h
  split at h
  · cases h
  split at h
  · cases h
  split at h
  · cases h
  split at h
  · cases h
  split at h
  · cases h
  split at h
  · cases h
  omega
theorem bare_some {k : Int} (h : bareW k ≠ []) : 1 ≤ k ∧ k ≤ 13 := by
  unfold bareW at h
  repeat' split at h
  all_goals first | omega | (exact absurd rfl h)
theorem bnd_two {α : Type} {b c : Bool} {V : Bool → α} : bnd V (fun k => if b = true then k b else k c) = V (b || c) := by
  rw [bnd_eq]; cases b <;> rfl
theorem clearS_r (s : Step) (hl : s.2.2.2.2.2.2.2.1.length ≤ 4294967296) : ∃ x, escrowlaw25_clearStep s = some x ∧ x.2 = (stepV s).isSome ∧ ∀ l, stepV s = some l → x.1 = clearS s := by
  have b1 : ∀ k : Int, (s.1 == k) = true ↔ s.1 = k := fun k => beq_iff_eq
  have n1 : ∀ k : Int, s.1 ≠ k → ¬ (s.1 == k) = true := fun k h h2 => h ((b1 k).1 h2)
  have hok : ∀ k : Int, s.1 = k → 1 ≤ k → k ≤ 13 → (decide (s.1 ≥ 1) && decide (s.1 ≤ 13)) = true := fun k h h1 h2 => by simp; omega
  unfold escrowlaw25_clearStep stepV clearS
  rw [bnd_eq, bnd_eq, bnd_eq]
  by_cases e1 : s.1 = 1
  · rw [if_pos ((b1 1).2 e1), if_pos e1, if_pos e1, e1]; exact ⟨_, rfl, rfl, fun l _ => rfl⟩
  rw [if_neg (n1 1 e1), if_neg e1, if_neg e1]
  by_cases e2 : s.1 = 2
  · rw [if_pos ((b1 2).2 e2), if_pos e2, if_pos e2, e2]; exact ⟨_, rfl, rfl, fun l _ => rfl⟩
  rw [if_neg (n1 2 e2), if_neg e2, if_neg e2]
  by_cases e3 : s.1 = 3
  · rw [if_pos ((b1 3).2 e3), if_pos e3, if_pos e3, e3]; exact ⟨_, rfl, rfl, fun l _ => rfl⟩
  rw [if_neg (n1 3 e3), if_neg e3, if_neg e3]
  by_cases e4 : s.1 = 8
  · rw [if_pos ((b1 8).2 e4), if_pos e4, if_pos e4, e4]; exact ⟨_, rfl, rfl, fun l _ => rfl⟩
  rw [if_neg (n1 8 e4), if_neg e4, if_neg e4, bnd_two]
  by_cases h10 : s.1 = 10
  · have h : (s.1 == 10 || s.1 == 11) = true := by rw [(b1 10).2 h10]; rfl
    rw [if_pos h, if_pos h10, if_pos h10, h10]
    exact ⟨_, rfl, rfl, fun l _ => rfl⟩
  rw [if_neg h10, if_neg h10]
  by_cases h11 : s.1 = 11
  · have h : (s.1 == 10 || s.1 == 11) = true := by rw [(b1 11).2 h11, Bool.or_true]
    rw [if_pos h, if_pos h11, if_pos h11, h11]
    exact ⟨_, rfl, rfl, fun l _ => rfl⟩
  have h : ¬ (s.1 == 10 || s.1 == 11) = true := by simp [h10, h11]
  rw [if_neg h, if_neg h11, if_neg h11]
  by_cases h12 : s.1 = 12
  · rw [if_pos ((b1 12).2 h12), if_pos h12, if_pos h12, clearF_r _ hl, bind_eq]
    cases fatesV s.2.2.2.2.2.2.2.1 with
    | none => exact ⟨_, rfl, rfl, fun l h => by cases h⟩
    | some y => exact ⟨_, rfl, rfl, fun l _ => by rw [h12]⟩
  rw [if_neg (n1 12 h12), if_neg h12, if_neg h12]
  by_cases hb : bareW s.1 = []
  · rw [if_pos hb]
    have := bare_none hb e1 e2 e3 e4 h10 h11 h12
    exact ⟨_, rfl, by simp; omega, fun l h => by cases h⟩
  · rw [if_neg hb]
    have := bare_some hb
    exact ⟨_, rfl, by simp; omega, fun l _ => rfl⟩
theorem ask_none {k : Int} (h : askW k = []) : ¬ (4 ≤ k ∧ k ≤ 8) := by
  unfold askW at h
  repeat' split at h
  all_goals first | (exact absurd h (by decide)) | omega
theorem ask_some {k : Int} (h : askW k ≠ []) : 4 ≤ k ∧ k ≤ 8 := by
  unfold askW at h
  repeat' split at h
  all_goals first | omega | (exact absurd rfl h)
theorem cleared_l0 (l : List Cmd) (hl : l.length ≤ 4294967296) (hf : ∀ c ∈ l, c.2.2.1.2.2.1.2.2.2.2.2.2.2.1.length ≤ 4294967296) (K : List Cmd → Option (List Cmd × Bool)) : ∀ (m i : Nat) (acc : List Cmd), i + m = l.length → acc.length = i →
    escrowlaw25_cleared_l0 l K (m + 1) ((i : Int), acc) = match textS (l.drop i) with | none => some ([], false) | some _ => K (acc ++ (l.drop i).map clearC)
  | 0, i, acc, h, _ => by
    unfold escrowlaw25_cleared_l0
    rw [if_neg (by simp; omega), List.drop_eq_nil_of_le (by omega)]
    simp [textS]
  | m + 1, i, acc, h, ha => by
    unfold escrowlaw25_cleared_l0
    have hi : i < l.length := by omega
    have g : (0 : Int) ≤ (i : Int) ∧ (i : Int) < (l.length : Int) := ⟨by omega, by omega⟩
    have w : IntKind.wrap .i64 ((i : Int) + 1) = ((i + 1 : Nat) : Int) := by rw [wrap_i64 (by omega) (by omega)]; omega
    rw [if_pos (by simp; omega), if_pos g, Int.toNat_natCast, w]
    have hd := drop_consD (0, (0, 0, (List.replicate 2 ((List.replicate 32 (0 : Int)) : List (Int))), (List.replicate 2 ((List.replicate 32 (0 : Int)) : List (Int))), 0, 0, ()), (0, 0, (0, 0, 0, 0, (List.replicate 32 (0 : Int)), [], [], [], ()), ()), 0, 0, ()) hi
    have q := hf _ (getD_mem (0, (0, 0, (List.replicate 2 ((List.replicate 32 (0 : Int)) : List (Int))), (List.replicate 2 ((List.replicate 32 (0 : Int)) : List (Int))), 0, 0, ()), (0, 0, (0, 0, 0, 0, (List.replicate 32 (0 : Int)), [], [], [], ()), ()), 0, 0, ()) hi)
    rw [hd]
    generalize l.getD i _ = c at q ⊢
    have ih := fun acc h => cleared_l0 l hl hf K m (i + 1) acc (by omega) h
    rw [textS, List.map_cons]
    -- what goes on, and what ends
    have go : ∀ x : Cmd, (∃ y, cmdV c = some y) → x = clearC c → (if (acc.length + [x].length) * 320 ≤ 140737488355328 then bnd (((i + 1 : Nat) : Int)) fun i15 => escrowlaw25_cleared_l0 l K (m + 1) (i15, acc ++ [x]) else none) =
        match ((cmdV c).bind fun w => (textS (l.drop (i + 1))).map fun t => lineT w ++ 10 :: t) with | none => some ([], false) | some _ => K (acc ++ clearC c :: (l.drop (i + 1)).map clearC) := by
      rintro x ⟨y, hy⟩ rfl
      rw [if_pos (by simp only [List.length_cons, List.length_nil]; omega), bnd_eq, ih (acc ++ [clearC c]) (by simp; omega), hy, Option.bind_some]
      cases textS (l.drop (i + 1)) with
      | none => rfl
      | some z => simp
    have stop : cmdV c = none → (some ([], false) : Option (List Cmd × Bool)) = match ((cmdV c).bind fun w => (textS (l.drop (i + 1))).map fun t => lineT w ++ 10 :: t) with | none => some ([], false) | some _ => K (acc ++ clearC c :: (l.drop (i + 1)).map clearC) := by
      intro h; rw [h]; rfl
    refine (bnd_eq _ _).trans ?_
    simp only [-List.reduceReplicate, bnd_eq, beq_iff_eq, if_pos g]
    by_cases k1 : c.1 = 1
    · rw [if_pos k1]
      exact go _ ⟨_, by unfold cmdV; rw [if_pos k1]⟩ (by unfold clearC; rw [if_pos k1, k1])
    rw [if_neg k1]
    by_cases k2 : c.1 = 2
    · rw [if_pos k2]
      have hv : cmdV c = moveV c.2.2.1 := by unfold cmdV; rw [if_neg k1, if_pos k2]
      have hcl : clearC c = (2, zWld, clearM c.2.2.1, 0, 0, ()) := by unfold clearC; rw [if_neg k1, if_pos k2]
      by_cases m1 : c.2.2.1.1 = 1
      · rw [if_pos m1]
        obtain ⟨x, e1, e2, e3⟩ := clearS_r c.2.2.1.2.2.1 q
        rw [e1, bind_eq, e2]
        cases hS : stepV c.2.2.1.2.2.1 with
        | none =>
          simp only [Option.isSome_none, Bool.not_false, if_true]
          exact stop (by rw [hv]; unfold moveV; rw [if_pos m1, hS]; rfl)
        | some y =>
          simp only [Option.isSome_some, Bool.not_true, Bool.false_eq_true, if_false]
          refine go _ ⟨_, by rw [hv]; unfold moveV; rw [if_pos m1, hS]; rfl⟩ ?_
          rw [hcl, e3 y hS, k2, m1]; unfold clearM; rw [if_pos m1]
      rw [if_neg m1]
      by_cases m4 : c.2.2.1.1 = 4
      · rw [if_pos m4, if_pos (by simpa using m4)]
        refine go _ ⟨_, by rw [hv]; unfold moveV; simp [m4]; rfl⟩ ?_
        rw [hcl, k2]; unfold clearM; simp [-List.reduceReplicate, m4]
      rw [if_neg m4]
      by_cases m5 : c.2.2.1.1 = 5
      · rw [if_pos (by simpa using m5)]
        refine go _ ⟨_, by rw [hv]; unfold moveV; simp [m5]; rfl⟩ ?_
        rw [hcl, k2]; unfold clearM; simp [-List.reduceReplicate, m5]
      rw [if_neg (by simpa using m5)]
      by_cases m2 : c.2.2.1.1 = 2
      · rw [if_pos m2, if_pos (by simpa using m2)]
        refine go _ ⟨_, by rw [hv]; unfold moveV; simp [m2]; rfl⟩ ?_
        rw [hcl, k2]; unfold clearM; simp [-List.reduceReplicate, m2]
      rw [if_neg m2]
      by_cases m3 : c.2.2.1.1 = 3
      · rw [if_pos (by simpa using m3)]
        refine go _ ⟨_, by rw [hv]; unfold moveV; simp [m3]; rfl⟩ ?_
        rw [hcl, k2]; unfold clearM; simp [-List.reduceReplicate, m3]
      · rw [if_neg (by simpa using m3)]
        exact stop (by rw [hv]; unfold moveV; simp [m1, m2, m3, m4, m5])
    rw [if_neg k2]
    by_cases k3 : c.1 = 3
    · rw [if_pos k3]
      exact go _ ⟨_, by unfold cmdV; simp [k3]; rfl⟩ (by unfold clearC; simp [-List.reduceReplicate, k3])
    rw [if_neg k3]
    by_cases k9 : c.1 = 9
    · have d1 : decide (c.1 ≥ 4) = true := by simp; omega
      have d2 : decide (c.1 ≤ 8) = false := by simp; omega
      rw [if_pos d1, d2]
      simp only [Bool.false_eq_true, if_false]
      rw [if_neg (by simp [k9])]
      exact go _ ⟨_, by unfold cmdV; simp [k9]; rfl⟩ (by unfold clearC; simp [-List.reduceReplicate, k9])
    by_cases hb : askW c.1 = []
    · have hn := ask_none hb
      have hv : cmdV c = none := by unfold cmdV; rw [if_neg k1, if_neg k2, if_neg k3, if_neg k9, if_pos hb]
      by_cases k4 : 4 ≤ c.1
      · have d1 : decide (c.1 ≥ 4) = true := by simpa using k4
        have d2 : decide (c.1 ≤ 8) = false := by simp; omega
        rw [if_pos d1, d2]
        simp only [Bool.false_eq_true, if_false]
        rw [if_pos (by simpa using k9)]
        exact stop hv
      · have d1 : ¬ decide (c.1 ≥ 4) = true := by simpa using k4
        rw [if_neg d1]
        simp only [Bool.false_eq_true, if_false]
        rw [if_pos (by simpa using k9)]
        exact stop hv
    · have hs := ask_some hb
      have d1 : decide (c.1 ≥ 4) = true := by simp; omega
      have d2 : decide (c.1 ≤ 8) = true := by simp; omega
      rw [if_pos d1, if_pos d2]
      refine go _ ⟨_, by unfold cmdV; rw [if_neg k1, if_neg k2, if_neg k3, if_neg k9, if_neg hb]⟩ ?_
      unfold clearC; rw [if_neg k1, if_neg k2, if_neg k3, if_neg k9]
theorem cleared_r (l : List Cmd) (hl : l.length ≤ 4294967296) (hf : ∀ c ∈ l, c.2.2.1.2.2.1.2.2.2.2.2.2.2.1.length ≤ 4294967296) : escrowlaw25_cleared l = some (match textS l with | none => ([], false) | some _ => (l.map clearC, true)) := by
  unfold escrowlaw25_cleared
  simp only [bnd_eq]
  have e : Int.toNat ((l.length : Int) - 0) + 1 = l.length + 1 := by omega
  rw [e, show (0 : Int) = ((0 : Nat) : Int) from rfl, cleared_l0 l hl hf _ l.length 0 [] (by omega) rfl, List.drop_zero]
  cases textS l <;> rfl

/-! ### the law -/
theorem bnd_all {α β : Type} {a : α} {f : α → β} {r : β} (p : α → Prop) (ha : p a) (hf : ∀ x, p x → f x = r) : bnd a f = r := hf a ha
theorem clearC_fates (c : Cmd) : (clearC c).2.2.1.2.2.1.2.2.2.2.2.2.2.1.length ≤ c.2.2.1.2.2.1.2.2.2.2.2.2.2.1.length := by
  unfold clearC
  repeat' split
  all_goals try simp
  unfold clearM
  repeat' split
  all_goals try simp
  unfold clearS
  repeat' split
  all_goals simp
theorem escrowlaw25_ScriptBack_true {B : TypeId → Nat} {e e2 : Nat} (a0 : List Cmd) (a1 : List Int) (h0 : Small B (.sl e2 (cmdT e)) a0) (h1 : Small B .str a1) (hb : Bulks [.sl e2 (cmdT e), .str] (a0, a1, ()) ≤ 1048576) : escrowlaw25_ScriptBack a0 a1 = some true := by
  have hl : ∀ c ∈ a0, cOk c := fun c hc => cOk_of (h0.2 c hc)
  have hz := szL_bulk e e2 a0
  have hb0 : Bulk (.sl e2 (cmdT e)) a0 ≤ 1048576 := by
    simp only [Bulks] at hb
    omega
  have hzz : szL a0 ≤ 4194304 := by omega
  have fl := fates_le (n := 4294967296) (show szL a0 ≤ 4294967296 by omega)
  have hP := print_eq hl hzz
  unfold printS at hP
  -- the other way round
  have second : (script_Parse a1).bind (fun (r10 : List Cmd × Int) => if (r10.2 != 0) = true then (some ((List.length r10.1 : Int) == 0)) else ((script_Print r10.1).bind fun (r12 : List Int × Int) => if (r12.2 != 0) = true then (some (r12.2 == 3)) else ((script_Parse r12.1).bind fun (r13 : (List Cmd) × Int) => (script_Print r13.1).bind fun (r15 : List Int × Int) => bnd (r13.2 == 0) fun (b16 : Bool) => bnd (b16 && (r15.2 == 0)) fun (b17 : Bool) => bnd (fun (o19 : Bool) => some (o19 && (r15.1 == r12.1))) fun k18 => if b17 = true then ((escrowlaw25_same r10.1 r13.1).bind fun (r20 : Bool) => k18 r20) else (k18 false)))) = some true := by
    rw [parse_eq h1.1, bind_eq]
    cases hpr : parseS a1 with
    | mk m ee =>
      rcases parse_canon h1.1 hpr with ⟨h3, rfl⟩ | ⟨rfl, h3, h4⟩
      · rw [if_pos (by simpa using h3)]; rfl
      · rw [if_neg (by simp)]
        have hm : ∀ c ∈ m, cOk c := fun c hc => (h3 c hc).1
        obtain ⟨⟨t, ht⟩, hcl⟩ := text_canon h3
        have hPm := print_eq hm (by omega)
        unfold printS at hPm
        rw [ht] at hPm
        simp only at hPm
        rw [hPm, bind_eq]
        by_cases hlong : longS t = true
        · rw [if_pos hlong, if_pos (by decide)]; rfl
        · rw [if_neg hlong] at hPm ⊢
          rw [if_neg (by simp), parse_eq (text_ok hm ht), parse_back hm ht (by simpa using hlong), bind_eq, hcl, hPm, bind_eq]
          have flm := fates_le (n := 4294967296) (show szL m ≤ 4294967296 by omega)
          refine bnd_all (· = true) rfl (fun b16 e => ?_); subst e
          refine bnd_all (· = true) rfl (fun b17 e => ?_); subst e
          refine bnd_all (fun k => k true = some true) (by simp) (fun k18 hk => ?_)
          rw [if_pos rfl, same_self flm.1 flm.2, bind_eq]
          exact hk
  unfold escrowlaw25_ScriptBack
  rw [head_true, bind_eq, if_neg (by decide), own_eq fl.1 fl.2, bind_eq, cleared_r a0 fl.1 fl.2, bind_eq]
  cases hT : textS a0 with
  | none =>
    rw [hT] at hP
    rw [hP, bind_eq]
    simp only [Bool.not_false, if_true]
    exact bnd_all (· = true) rfl (fun b e => by subst e; rfl)
  | some t =>
    rw [hT] at hP
    simp only at hP
    by_cases hlong : longS t = true
    · rw [if_pos hlong] at hP
      rw [hP, bind_eq]
      simp only [Bool.not_true, Bool.false_eq_true, if_false]
      refine bnd_all (fun k => k () = some true) second (fun k8 hk => ?_)
      rw [if_neg (by decide)]
      refine bnd_all (· = false) rfl (fun b e => ?_); subst e
      rw [if_neg (by simp)]; exact hk
    · rw [if_neg hlong] at hP
      rw [hP, bind_eq]
      simp only [Bool.not_true, Bool.false_eq_true, if_false]
      refine bnd_all (fun k => k () = some true) second (fun k8 hk => ?_)
      rw [if_pos (by simp), parse_eq (text_ok hl hT), parse_back hl hT (by simpa using hlong), bind_eq]
      refine bnd_all (· = false) rfl (fun b e => ?_); subst e
      refine bnd_all (fun k => k false = some true) (by rw [if_neg (by decide)]; exact hk) (fun k25 hk25 => ?_)
      rw [if_neg (by decide), same_self (by rw [List.length_map]; exact fl.1) (fun c hc => by
        obtain ⟨x, hx, rfl⟩ := List.mem_map.1 hc
        exact Nat.le_trans (clearC_fates x) (fl.2 x hx)), bind_eq]
      exact hk25
end Sx
