/-
  Own work, of several texts. What wraps and shifts of numbers come to.
  Texts cut into lines, words and digits: plain.
  A line's words: plain.
  A number's digits: plain.
  What a line's words say: plain.
  What a text says: plain.
  The examples that every statement asks first.
  Quoted texts: plain.
  What Print writes: plain.
  Print is what the definition says: plain.
  What the document's Print answers, and lists told anew: plain.
  The document's lines: plain.
  Lists of commands told anew, and compared: plain.
  ScriptPrints: plain.
-/
import Derived.Test.YtfdhpfodjaaloaaDoorDefs
import Derived.Test.YtfdhpfodjaaloaaDoorLib2
import Derived.KernelRfl
namespace Sx
open Go

abbrev B32 := BitVec 32
def u (v : B32) : Int := (v.toNat : Int)
theorem wrap_i64 {n : Int} (h0 : -9223372036854775808 ≤ n) (h : n < 9223372036854775808) : IntKind.wrap .i64 n = n := by
  simp [IntKind.wrap, IntKind.bits, IntKind.signed]; omega
end Sx
namespace Sx
open Go Go.RowKit

/-! ### Go's library over texts -/
/-- a byte as the library has it -/
def b8 (c : Int) : UInt8 := UInt8.ofNat c.toNat
theorem b8_inj {a b : Int} (ha : 0 ≤ a ∧ a < 256) (hb : 0 ≤ b ∧ b < 256) : (b8 a == b8 b) = (a == b) := by
  rw [Bool.eq_iff_iff]; simp only [beq_iff_eq]
  exact ⟨byte_inj ha hb, fun h => h ▸ rfl⟩
theorem toB_cons (c : Int) (l : List Int) : toB (c :: l) = b8 c :: toB l := rfl
theorem toB_drop (l : List Int) (n : Nat) : (toB l).drop n = toB (l.drop n) := by simp [toB, List.map_drop]
theorem byteOk_cons {c : Int} {l : List Int} (h : byteOk (c :: l)) : (0 ≤ c ∧ c < 256) ∧ byteOk l := ⟨h c (by simp), fun x hx => h x (by simp [hx])⟩
theorem byteOk_mk {c : Int} {l : List Int} (h : 0 ≤ c ∧ c < 256) (hl : byteOk l) : byteOk (c :: l) := fun x hx => by
  rcases List.mem_cons.1 hx with rfl | hx
  · exact h
  · exact hl x hx
theorem byteOk_append {a b : List Int} (ha : byteOk a) (hb : byteOk b) : byteOk (a ++ b) := fun x hx => (List.mem_append.1 hx).elim (ha x) (hb x)

/-- where a byte stands first -/
theorem index_one (c : Int) (hc : 0 ≤ c ∧ c < 256) : ∀ (l : List Int), byteOk l → Lib.index (toB l) [b8 c] = if c ∈ l then ((l.takeWhile (· != c)).length : Int) else -1
  | [], _ => by simp [toB, Lib.index]
  | b :: l, h => by
    obtain ⟨hb, hl⟩ := byteOk_cons h
    have ih := index_one c hc l hl
    rw [toB_cons, Lib.index]
    have h1 : List.isPrefixOf [b8 c] (b8 b :: toB l) = (c == b) := by
      simp only [List.isPrefixOf, Bool.and_true]
      exact b8_inj hc hb
    rw [h1, ih]
    by_cases hcb : c = b
    · subst hcb; simp
    · have hbc : ¬ b = c := fun h => hcb h.symm
      have h2 : (c == b) = false := by simpa using hcb
      have h3 : (b != c) = true := by simpa using hbc
      simp only [h2, Bool.false_eq_true, if_false, List.mem_cons, hcb, false_or, List.takeWhile_cons, h3, if_true, List.length_cons]
      by_cases hm : c ∈ l
      · simp only [hm, if_true]
        rw [if_neg (by simp <;> omega)]
        omega
      · simp [hm]

/-! ### lines -/
def lns : List Int → List (List Int)
  | [] => [[]]
  | b :: l => if b = 10 then [] :: lns l else match lns l with
    | [] => [[b]]
    | x :: r => (b :: x) :: r
theorem lns_ne (l : List Int) : lns l ≠ [] := by
  cases l with
  | nil => simp [lns]
  | cons b l =>
    unfold lns
    split
    · simp
    · split <;> simp
theorem split_lns : ∀ (k : Nat) (l : List Int), byteOk l → (toB l).count 10 = k → Lib.splitK [10] 0 k (toB l) = (lns l).map toB := by
  intro k
  induction k with
  | zero =>
    intro l hl hc
    rw [Lib.splitK]
    have hn : ∀ l : List Int, byteOk l → (toB l).count 10 = 0 → lns l = [l] := by
      intro l
      induction l with
      | nil => intro _ _; rfl
      | cons b l ih =>
        intro h hc
        obtain ⟨hb, hl⟩ := byteOk_cons h
        rw [toB_cons, List.count_cons] at hc
        have h1 : (toB l).count 10 = 0 := by omega
        have h2 : ¬ b = 10 := by
          rintro rfl
          simp [b8] at hc
        rw [lns, if_neg h2, ih hl h1]
    rw [hn l hl hc]; rfl
  | succ k ih =>
    intro l
    induction l with
    | nil => intro _ hc; simp [toB] at hc
    | cons b l ihl =>
      intro h hc
      obtain ⟨hb, hl⟩ := byteOk_cons h
      have hi := index_one 10 ⟨by decide, by decide⟩ (b :: l) h
      have h10 : ([10] : List UInt8) = [b8 10] := rfl
      rw [toB_cons, List.count_cons] at hc
      by_cases hb10 : b = 10
      · subst hb10
        have h1 : (toB l).count 10 = k := by
          have : ((b8 10 : UInt8) == 10) = true := by decide
          simp only [this, if_true] at hc; omega
        have e : Lib.index (toB (10 :: l)) [10] = 0 := by rw [h10, hi]; simp
        rw [Lib.splitK, e]
        simp only [Int.toNat_zero, Nat.zero_add, List.length_cons, List.length_nil]
        rw [if_neg (by decide)]
        rw [toB_drop, show (10 :: l : List Int).drop 1 = l from rfl, ih l hl h1, lns, if_pos rfl]
        rfl
      · have hne : ((b8 b : UInt8) == 10) = false := by
          have : (b8 b == b8 10) = (b == 10) := b8_inj hb ⟨by decide, by decide⟩
          rw [show (10 : UInt8) = b8 10 from rfl, this]; simpa using hb10
        rw [hne] at hc
        simp only [Bool.false_eq_true, if_false, Nat.add_zero] at hc
        have ih2 := ihl hl hc
        have hm : (10 : Int) ∈ l := by
          have : 0 < (toB l).count 10 := by omega
          have := List.count_pos_iff.1 this
          obtain ⟨c, hcl, hce⟩ := List.mem_map.1 this
          have := byte_inj (hl c hcl) (b := 10) ⟨by decide, by decide⟩ hce
          exact this ▸ hcl
        have hil := index_one 10 ⟨by decide, by decide⟩ l hl
        rw [if_pos hm] at hil
        have hib : Lib.index (toB (b :: l)) [10] = Lib.index (toB l) [10] + 1 := by
          rw [h10, hi, hil, if_pos (by simp [hm])]
          rw [List.takeWhile_cons, if_pos (by simpa using hb10)]
          simp
        rw [Lib.splitK] at ih2 ⊢
        have n0 : ¬ (Lib.index (toB l) [10] == -1) = true := by rw [h10, hil]; simp <;> omega
        have n1 : ¬ (Lib.index (toB (b :: l)) [10] == -1) = true := by rw [hib, h10, hil]; simp; omega
        rw [if_neg n0] at ih2
        rw [if_neg n1, hib]
        have e1 : (Lib.index (toB l) [10] + 1).toNat = (Lib.index (toB l) [10]).toNat + 1 := by rw [h10, hil]; omega
        rw [e1, lns, if_neg hb10]
        cases hL : lns l with
        | nil => exact absurd hL (lns_ne l)
        | cons x r =>
          rw [hL] at ih2
          simp only [List.map_cons, List.cons.injEq] at ih2 ⊢
          obtain ⟨i1, i2⟩ := ih2
          refine ⟨?_, ?_⟩
          · rw [toB_cons b x, ← i1]; simp [toB_cons]
          · rw [← i2, toB_cons]
            congr 1
theorem lns_ok {l : List Int} (h : byteOk l) : ∀ x ∈ lns l, byteOk x := by
  induction l with
  | nil => intro x hx; simp [lns] at hx; subst hx; intro c hc; cases hc
  | cons b l ih =>
    obtain ⟨hb, hl⟩ := byteOk_cons h
    intro x hx
    unfold lns at hx
    split at hx
    · rcases List.mem_cons.1 hx with rfl | hx
      · intro c hc; cases hc
      · exact ih hl x hx
    · split at hx
      · simp at hx; subst hx; exact byteOk_mk hb (fun c hc => by cases hc)
      · rename_i y r hy
        rcases List.mem_cons.1 hx with rfl | hx
        · exact byteOk_mk hb (ih hl y (by rw [hy]; simp))
        · exact ih hl x (by rw [hy]; simp [hx])
theorem split_eq (s : List Int) (h : byteOk s) (hl : s.length < 4294967281) : strings_Split s [10] = some (lns s) := by
  unfold strings_Split
  rw [if_pos ⟨hl, by decide⟩]
  have e10 : toB [10] = [10] := rfl
  rw [e10]
  unfold Lib.split
  rw [Lib.count_one, split_lns _ s h rfl, List.map_map]
  congr 1
  conv => rhs; rw [← List.map_id (lns s)]
  exact List.map_congr_left fun x hx => ofB_toB (lns_ok h x hx)

/-! ### digits -/
/-- the value of a hexadecimal digit -/
def hexd (c : Int) : Int := if 48 ≤ c ∧ c ≤ 57 then c - 48 else if 97 ≤ c ∧ c ≤ 102 then c - 87 else -1
end Sx
namespace Sx
open Go Go.RowKit

theorem wrap_u8b {n : Int} (h0 : 0 ≤ n) (h : n < 256) : IntKind.wrap .u8 n = n := by
  simp only [IntKind.wrap, IntKind.bits, IntKind.signed, Bool.false_and, Bool.false_eq_true, if_false]; omega
theorem drop_cons {l : List Int} {i : Nat} (h : i < l.length) : l.drop i = l.getD i 0 :: l.drop (i + 1) := by
  rw [List.drop_eq_getElem_cons h]; simp [List.getD, h]
theorem getD_byte {l : List Int} (hl : byteOk l) (i : Nat) : 0 ≤ l.getD i 0 ∧ l.getD i 0 < 256 := by
  by_cases h : i < l.length
  · have : l.getD i 0 = l[i] := by simp [List.getD, h]
    rw [this]; exact hl _ (List.getElem_mem h)
  · simp [List.getD, List.getElem?_eq_none (Nat.le_of_not_lt h)]
/-! ### words -/
abbrev Wd := List Int × Bool × Unit
end Sx
namespace Sx
open Go Go.RowKit

/-! ### what strconv.FormatInt gives -/
def decI (n : Nat) : List Int := ofB (Lib.decDigits n)
theorem decI_eq (n : Nat) : decI n = if n < 10 then [48 + (n : Int)] else decI (n / 10) ++ [48 + ((n % 10 : Nat) : Int)] := by
  unfold decI
  rw [Lib.decDigits]
  split
  · rename_i h
    simp only [ofB, List.map_cons, List.map_nil, UInt8.toNat_ofNat']
    congr 1; omega
  · simp only [ofB, List.map_append, List.map_cons, List.map_nil, UInt8.toNat_ofNat']
    congr 2; omega
theorem itoaI_eq (n : Int) : itoaI n = if n < 0 then 45 :: decI n.natAbs else decI n.toNat := by
  unfold itoaI Lib.itoa decI
  split
  · rfl
  · rfl
def isDig (c : Int) : Prop := 48 ≤ c ∧ c ≤ 57
instance (c : Int) : Decidable (isDig c) := by unfold isDig; exact inferInstance
def valD (a : Int) (l : List Int) : Int := l.foldl (fun a c => 10 * a + (c - 48)) a
theorem valD_append (a : Int) (x y : List Int) : valD a (x ++ y) = valD (valD a x) y := by simp [valD]
theorem decI_all : ∀ (n : Nat), (∀ c ∈ decI n, isDig c) ∧ valD 0 (decI n) = n ∧ decI n ≠ [] := by
  intro n
  induction n using Nat.strongRecOn with
  | ind n ih =>
    rw [decI_eq]
    split
    · rename_i h
      refine ⟨fun c hc => ?_, ?_, by simp⟩
      · simp at hc; subst hc; unfold isDig; omega
      · simp [valD]; omega
    · rename_i h
      obtain ⟨h1, h2, h3⟩ := ih (n / 10) (by omega)
      refine ⟨fun c hc => ?_, ?_, by simp⟩
      · rcases List.mem_append.1 hc with hc | hc
        · exact h1 c hc
        · simp at hc; subst hc; unfold isDig; omega
      · rw [valD_append, h2]
        simp only [valD, List.foldl_cons, List.foldl_nil]
        omega
/-! ### runes -/
/-! ### the loop over digits -/
/-! ### a reader's words -/
/-- what the words are known for -/
def WdOk (ws : List Wd) : Prop := ws.length < 4294967296 ∧ ∀ w ∈ ws, byteOk w.1 ∧ w.1.length < 4294967296 ∧ (w.2.1 = false → w.1 ≠ [])

end Sx
namespace Sx
open Go Go.RowKit

abbrev Fate := List Int × Int × Int × List Int × Unit
abbrev Step := Int × Int × Int × Int × List Int × List Int × List Int × List Fate × Unit
abbrev Wld := Int × Int × List (List Int) × List (List Int) × Int × Int × Unit
abbrev Cmd := Int × Wld × (Int × Int × Step × Unit) × Int × Int × Unit
theorem WdOk.tail {w : Wd} {r : List Wd} (h : WdOk (w :: r)) : WdOk r := ⟨by have := h.1; simp only [List.length_cons] at this; omega, fun x hx => h.2 x (by simp [hx])⟩
/-! ### hashes -/
/-! ### fates -/
end Sx
namespace Sx
open Go Go.RowKit

/-! ### kinds by their word -/
/-! ### steps and commands -/
/-! ### the whole text -/
/-- a line that says nothing -/
def mute (s : List Int) : Prop := s = [] ∨ s.headD 0 = 35
instance (s : List Int) : Decidable (mute s) := by unfold mute; exact inferInstance
/-- the lines that count -/
def lnsE (t : List Int) : List (List Int) := if (lns t).getLastD [] = [] then (lns t).dropLast else lns t
def longS (t : List Int) : Bool := decide (65536 < t.length) || ((lnsE t).any fun x => decide (4096 < x.length)) || decide (1024 < (lnsE t).length)
theorem long_l0 (l : List (List Int)) (hl : l.length < 4294967296) (K : Unit → Option Bool) : ∀ (m i : Nat), i + m = l.length → script_long_l0 l K (m + 1) (i : Int) = if (l.drop i).any (fun x => decide (4096 < x.length)) then some true else K ()
  | 0, i, h => by
    unfold script_long_l0
    rw [if_neg (by simp; omega), List.drop_eq_nil_of_le (by omega)]; rfl
  | m + 1, i, h => by
    unfold script_long_l0
    rw [if_pos (by simp; omega), if_pos ⟨by omega, by omega⟩]
    simp only [bnd_eq, Int.toNat_natCast]
    have hi : i < l.length := by omega
    have e : l.drop i = l.getD i [] :: l.drop (i + 1) := by rw [List.drop_eq_getElem_cons hi]; simp [List.getD, hi]
    have w : IntKind.wrap .i64 ((i : Int) + 1) = ((i + 1 : Nat) : Int) := by rw [wrap_i64 (by omega) (by omega)]; omega
    rw [e, List.any_cons, w, long_l0 l hl K m (i + 1) (by omega)]
    generalize l.getD i [] = x
    by_cases h4 : 4096 < x.length
    · rw [if_pos (by simp; omega)]; simp [h4]
    · rw [if_neg (by simp; omega)]
      have : decide (4096 < x.length) = false := by simpa using h4
      rw [this, Bool.false_or]
theorem lns_len (t : List Int) : (lns t).length ≤ t.length + 1 := by
  induction t with
  | nil => simp [lns]
  | cons b l ih =>
    unfold lns
    split
    · simp; omega
    · split
      · simp
      · rename_i x r h
        rw [h] at ih
        simp only [List.length_cons] at ih ⊢; omega
theorem long_eq {t : List Int} (ht : byteOk t) : script_long t = some (longS t) := by
  unfold script_long longS
  by_cases h : 65536 < t.length
  · rw [if_pos (by simp; omega)]; simp [h]
  · rw [if_neg (by simp; omega), split_eq t ht (by omega), bind_eq]
    simp only [bnd_eq]
    have hne := List.length_pos_iff.2 (lns_ne t)
    have hll := lns_len t
    have w : IntKind.wrap .i64 (((lns t).length : Int) - 1) = (((lns t).length - 1 : Nat) : Int) := by rw [wrap_i64 (by omega) (by omega)]; omega
    rw [w, if_pos ⟨by omega, by omega⟩, Int.toNat_natCast]
    have hd : decide (65536 < t.length) = false := by simpa using h
    rw [hd, Bool.false_or]
    have hlast : (lns t).getD ((lns t).length - 1) [] = (lns t).getLastD [] := by
      rw [List.getLastD_eq_getLast?, List.getLast?_eq_getElem?]; rfl
    rw [hlast]
    have fin : ∀ l : List (List Int), l.length ≤ t.length + 1 → script_long_l0 l (fun _ => some (decide ((l.length : Int) > 1024))) (Int.toNat ((l.length : Int) - 0) + 1) 0 = some ((l.any fun x => decide (4096 < x.length)) || decide (1024 < l.length)) := by
      intro l hl
      have := long_l0 l (by omega) (fun _ => some (decide ((l.length : Int) > 1024))) l.length 0 (by omega)
      have e : Int.toNat ((l.length : Int) - 0) + 1 = l.length + 1 := by omega
      rw [e, show (0 : Int) = ((0 : Nat) : Int) from rfl, this, List.drop_zero]
      by_cases ha : (l.any fun x => decide (4096 < x.length)) = true
      · rw [if_pos ha, ha]; rfl
      · rw [if_neg ha]
        have : (l.any fun x => decide (4096 < x.length)) = false := by simpa using ha
        rw [this, Bool.false_or]
        congr 1
        apply Bool.eq_iff_iff.2
        simp; omega
    unfold lnsE
    by_cases he : (lns t).getLastD [] = []
    · rw [if_pos (by simpa using he), if_pos he, if_pos ⟨by decide, by omega, by omega⟩]
      rw [List.drop_zero, ← List.dropLast_eq_take]
      exact fin _ (by simp; omega)
    · rw [if_neg (by simpa using he), if_neg he]
      exact fin _ hll

end Sx
namespace Sx
open Go
example : itoaI 12 = [49, 50] := by decide +kernel
theorem head_true : escrowlaw25_head = some true := by kernel_rfl
end Sx
namespace Sx
open Go Go.RowKit

def HEX : List Int := [48, 49, 50, 51, 52, 53, 54, 55, 56, 57, 97, 98, 99, 100, 101, 102]
def hxc (n : Nat) : Int := HEX.getD n 0
theorem hxc_all : ∀ n : Fin 16, hexd (hxc n.val) = (n.val : Int) ∧ 48 ≤ hxc n.val ∧ hxc n.val ≤ 102 := by decide +kernel
def escx (c : Int) : List Int := [92, 120, hxc (c.toNat / 16), hxc (c.toNat % 16)]
def esc (c : Int) : List Int := if c = 34 ∨ c = 92 then [92, c] else if 32 ≤ c ∧ c ≤ 126 then [c] else escx c
theorem nib : ∀ c : Fin 256, ishr .u8 (c.val : Int) 4 = ((c.val / 16 : Nat) : Int) ∧ iand .u8 (c.val : Int) 15 = ((c.val % 16 : Nat) : Int) := by decide +kernel
theorem nib_eq {c : Int} (h : 0 ≤ c ∧ c < 256) : ishr .u8 c 4 = ((c.toNat / 16 : Nat) : Int) ∧ iand .u8 c 15 = ((c.toNat % 16 : Nat) : Int) := by
  have := nib ⟨c.toNat, by omega⟩
  simp only at this
  rwa [show ((c.toNat : Nat) : Int) = c by omega] at this

theorem quote_l0 (s : List Int) (hs : byteOk s) (hl : s.length < 4294967296) (K : List Int → Option (List Int)) : ∀ (m i : Nat) (acc : List Int), i + m = s.length → acc.length ≤ 4 * i + 1 → script_Quote_l0 s K (m + 1) ((i : Int), acc) = K (acc ++ (s.drop i).flatMap esc)
  | 0, i, acc, h, _ => by
    unfold script_Quote_l0
    rw [if_neg (by simp; omega), List.drop_eq_nil_of_le (by omega)]; simp
  | m + 1, i, acc, h, ha => by
    unfold script_Quote_l0
    have hi : i < s.length := by omega
    rw [if_pos (by simp; omega)]
    simp only [bnd_eq, Int.toNat_natCast]
    rw [if_pos ⟨by omega, by omega⟩, drop_cons hi]
    have hc := getD_byte hs i
    generalize s.getD i 0 = c at hc
    have w : IntKind.wrap .i64 ((i : Int) + 1) = ((i + 1 : Nat) : Int) := by rw [wrap_i64 (by omega) (by omega)]; omega
    have ih := fun acc h => quote_l0 s hs hl K m (i + 1) acc (by omega) h
    have hB : ∀ (a : List Int) (c : Int), a.length + 1 ≤ 140737488355328 → strings_Builder_WriteByte a c = some (.nilIface, a ++ [c]) := fun a c h => by unfold strings_Builder_WriteByte; rw [if_pos h]
    have hS : strings_Builder_WriteString acc [92, 120] = some (2, .nilIface, acc ++ [92, 120]) := by unfold strings_Builder_WriteString; rw [if_pos ⟨by simp, by simp; omega⟩]; rfl
    rw [w, List.flatMap_cons, ← List.append_assoc]
    by_cases h1 : c = 34 ∨ c = 92
    · have e : (c == 34 || c == 92) = true := by simpa using h1
      rw [if_pos e, hB _ _ (by omega), bind_eq, hB _ _ (by simp; omega), bind_eq, ih _ (by simp; omega)]
      unfold esc; rw [if_pos h1]; simp
    · have e : (c == 34 || c == 92) = false := by simpa using h1
      rw [e]
      simp only [Bool.false_eq_true, if_false]
      by_cases h2 : 32 ≤ c ∧ c ≤ 126
      · have e2 : (decide (c ≥ 32) && decide (c ≤ 126)) = true := by simpa using h2
        rw [if_pos e2, hB _ _ (by omega), bind_eq, ih _ (by simp; omega)]
        unfold esc; rw [if_neg h1, if_pos h2]
      · have e2 : (decide (c ≥ 32) && decide (c ≤ 126)) = false := by
          rw [← Bool.not_eq_true]; simpa using h2
        obtain ⟨n1, n2⟩ := nib_eq hc
        rw [e2]
        simp only [Bool.false_eq_true, if_false]
        rw [hS, bind_eq, n1, n2, if_pos ⟨by omega, by simp; omega⟩]
        simp only [Int.toNat_natCast]
        rw [hB _ _ (by simp; omega), bind_eq, if_pos ⟨by omega, by simp; omega⟩, hB _ _ (by simp; omega), bind_eq, ih _ (by simp; omega)]
        unfold esc; rw [if_neg h1, if_neg h2]
        unfold escx hxc HEX
        simp
def quoteS (s : List Int) : List Int := 34 :: (s.flatMap esc ++ [34])
theorem esc_len (c : Int) : (esc c).length ≤ 4 := by unfold esc; split <;> (try split) <;> simp [escx]
theorem fmap_len (f : Int → List Int) (hf : ∀ c, (f c).length ≤ 4) : ∀ s : List Int, (s.flatMap f).length ≤ 4 * s.length
  | [] => by simp
  | c :: s => by
    have := fmap_len f hf s
    have := hf c
    simp only [List.flatMap_cons, List.length_append, List.length_cons]; omega
theorem quote_text {s : List Int} (hs : byteOk s) (hl : s.length < 4294967296) : script_Quote s = some (quoteS s) := by
  unfold script_Quote
  have hB : ∀ (a : List Int) (c : Int), a.length + 1 ≤ 140737488355328 → strings_Builder_WriteByte a c = some (.nilIface, a ++ [c]) := fun a c h => by unfold strings_Builder_WriteByte; rw [if_pos h]
  rw [hB _ _ (by simp), bind_eq]
  simp only [bnd_eq]
  have e : Int.toNat ((s.length : Int) - 0) + 1 = s.length + 1 := by omega
  rw [e, show (0 : Int) = ((0 : Nat) : Int) from rfl, quote_l0 s hs hl _ s.length 0 _ (by omega) (by simp)]
  have := fmap_len esc esc_len s
  rw [List.drop_zero, hB _ _ (by simp only [List.length_append, List.length_cons, List.length_nil]; omega), bind_eq]
  simp [quoteS]

/-! ### reading it back -/
/-! ### lines of words -/
theorem lns_one : ∀ {t : List Int}, (∀ c ∈ t, c ≠ 10) → lns t = [t]
  | [], _ => rfl
  | c :: t, h => by
    rw [lns, if_neg (h c (by simp)), lns_one (fun x hx => h x (by simp [hx]))]
end Sx
namespace Sx
open Go Go.RowKit

/-! ### words as they are written -/
def wb (t : List Int) : Wd := (t, false, ())
def wq (t : List Int) : Wd := (t, true, ())
def wordT (w : Wd) : List Int := if w.2.1 = true then quoteS w.1 else w.1
def hexC (c : Int) : List Int := [hxc (c.toNat / 16), hxc (c.toNat % 16)]
def hexS (h : List Int) : List Int := h.flatMap hexC
def joinS : List (List Int) → List Int
  | [] => []
  | x :: r => x ++ r.flatMap fun y => 32 :: y
def fkW (k : Int) : Option (List Int) := if k = 0 then some [108, 111, 115, 116] else if k = 1 then some [107, 101, 112, 116] else if k = 2 then some [114, 101, 112, 108, 97, 99, 101] else none
def fateV (f : Fate) : Option (List Wd) := (fkW f.2.2.1).map fun w => wb w :: wq f.1 :: wb (itoaI f.2.1) :: (if f.2.2.1 = 2 then [wq f.2.2.2.1] else [])
def fatesV : List Fate → Option (List Wd)
  | [] => some []
  | f :: r => (fateV f).bind fun a => (fatesV r).map fun b => a ++ b
def bareW (k : Int) : List Int := if k = 4 then [115, 105, 103, 110] else if k = 5 then [99, 108, 111, 115, 101] else if k = 6 then [99, 111, 110, 110, 101, 99, 116] else if k = 7 then [100, 105, 115, 99, 111, 110, 110, 101, 99, 116] else if k = 9 then [99, 104, 101, 99, 107, 112, 111, 105, 110, 116] else if k = 13 then [111, 112, 101, 110] else []
def askW (k : Int) : List Int := if k = 4 then [115, 116, 97, 116, 101] else if k = 5 then [108, 101, 100, 103, 101, 114] else if k = 6 then [109, 97, 114, 107] else if k = 7 then [112, 105, 112, 101] else if k = 8 then [102, 105, 108, 101, 115] else []
def stepV (s : Step) : Option (List Wd) :=
  if s.1 = 1 then some [wb [111, 102, 102, 101, 114], wb (itoaI s.2.1), wb (hexS s.2.2.2.2.1)]
  else if s.1 = 2 then some [wb [115, 101, 116, 116, 108, 101], wb (itoaI s.2.2.1), wb (hexS s.2.2.2.2.1)]
  else if s.1 = 3 then some [wb [114, 101, 102, 117, 115, 101], wb (itoaI s.2.2.1), wq s.2.2.2.2.2.1]
  else if s.1 = 8 then some [wb [116, 97, 107, 101], wq s.2.2.2.2.2.2.1]
  else if s.1 = 10 then some [wb [97, 114, 109], wb (itoaI s.2.2.2.1)]
  else if s.1 = 11 then some [wb [102, 97, 108, 108], wb (itoaI s.2.2.2.1)]
  else if s.1 = 12 then (fatesV s.2.2.2.2.2.2.2.1).map fun l => wb [99, 114, 97, 115, 104] :: wb (itoaI s.2.2.2.1) :: l
  else if bareW s.1 = [] then none else some [wb (bareW s.1)]
abbrev Mov := Int × Int × Step × Unit
def moveV (m : Mov) : Option (List Wd) :=
  if m.1 = 1 then (stepV m.2.2.1).map fun l => wb [115, 116, 101, 112] :: wb (itoaI m.2.1) :: l
  else if m.1 = 2 then some [wb [106, 111, 105, 110]]
  else if m.1 = 3 then some [wb [99, 117, 116]]
  else if m.1 = 4 then some [wb [100, 101, 108, 105, 118, 101, 114], wb (itoaI m.2.1)]
  else if m.1 = 5 then some [wb [108, 111, 115, 101], wb (itoaI m.2.1)]
  else none
def cmdV (c : Cmd) : Option (List Wd) :=
  if c.1 = 1 then some (wb [119, 111, 114, 108, 100] :: wb (itoaI c.2.1.1) :: wb (itoaI c.2.1.2.1) :: wb (itoaI c.2.1.2.2.2.2.1) :: wb (itoaI c.2.1.2.2.2.2.2.1) :: (c.2.1.2.2.1 ++ c.2.1.2.2.2.1).map fun h => wb (hexS h))
  else if c.1 = 2 then moveV c.2.2.1
  else if c.1 = 3 then some [wb [113, 117, 105, 101, 116], wb (itoaI c.2.2.2.1)]
  else if c.1 = 9 then some [wb [106, 111, 105, 110, 101, 100]]
  else if askW c.1 = [] then none else some [wb (askW c.1), wb (itoaI c.2.2.2.2.1)]
def lineT (ws : List Wd) : List Int := joinS (ws.map wordT)
def textS : List Cmd → Option (List Int)
  | [] => some []
  | c :: r => (cmdV c).bind fun w => (textS r).map fun t => lineT w ++ 10 :: t
def printS (l : List Cmd) : List Int × Int := match textS l with
  | none => ([], 250)
  | some t => if longS t = true then ([], 3) else (t, 0)

/-! ### what commands are known for -/
def hOk (h : List Int) : Prop := h.length = 32 ∧ byteOk h
def fOk (f : Fate) : Prop := byteOk f.1 ∧ rng .i64 f.2.1 ∧ byteOk f.2.2.2.1
def sOk (s : Step) : Prop := rng .i64 s.2.1 ∧ rng .i64 s.2.2.1 ∧ rng .i64 s.2.2.2.1 ∧ hOk s.2.2.2.2.1 ∧ byteOk s.2.2.2.2.2.1 ∧ byteOk s.2.2.2.2.2.2.1 ∧ ∀ f ∈ s.2.2.2.2.2.2.2.1, fOk f
def wOk (w : Wld) : Prop := rng .i64 w.1 ∧ rng .i64 w.2.1 ∧ (w.2.2.1.length = 2 ∧ ∀ h ∈ w.2.2.1, hOk h) ∧ (w.2.2.2.1.length = 2 ∧ ∀ h ∈ w.2.2.2.1, hOk h) ∧ rng .i64 w.2.2.2.2.1 ∧ rng .i64 w.2.2.2.2.2.1
def cOk (c : Cmd) : Prop := wOk c.2.1 ∧ rng .i64 c.2.2.1.2.1 ∧ sOk c.2.2.1.2.2.1 ∧ rng .i64 c.2.2.2.1 ∧ rng .i64 c.2.2.2.2.1
def szF (f : Fate) : Nat := f.1.length + f.2.2.2.1.length + 1
def szS (s : Step) : Nat := s.2.2.2.2.2.1.length + s.2.2.2.2.2.2.1.length + (s.2.2.2.2.2.2.2.1.map szF).sum + 1
def szC (c : Cmd) : Nat := szS c.2.2.1.2.2.1
def szL (l : List Cmd) : Nat := (l.map szC).sum

/-! ### lengths -/
theorem decI_len : ∀ (k n : Nat), 1 ≤ k → n < 10 ^ k → (decI n).length ≤ k := by
  intro k
  induction k with
  | zero => intro n h; omega
  | succ k ih =>
    intro n _ hn
    rw [decI_eq]
    split
    · simp
    · rename_i h
      by_cases hk : k = 0
      · subst hk; simp at hn; omega
      · have := ih (n / 10) (by omega) (by rw [Nat.pow_succ] at hn; omega)
        simp; omega
theorem itoa20 {n : Int} (h : rng .i64 n) : (itoaI n).length ≤ 20 := by
  simp only [rng, lo, Sx.hi] at h
  rw [itoaI_eq]
  have h19 : (10 : Nat) ^ 19 = 10000000000000000000 := by decide
  split
  · have := decI_len 19 n.natAbs (by decide) (by rw [h19]; omega)
    simp; omega
  · have := decI_len 19 n.toNat (by decide) (by rw [h19]; omega)
    omega
theorem hex_len (h : List Int) : (hexS h).length = 2 * h.length := by
  induction h with
  | nil => rfl
  | cons c h ih => simp only [hexS, List.flatMap_cons, List.length_append, List.length_cons] at ih ⊢; rw [ih]; simp [hexC]; omega
theorem quote_len (s : List Int) : (quoteS s).length ≤ 4 * s.length + 2 := by
  have := fmap_len esc esc_len s
  unfold quoteS; simp only [List.length_cons, List.length_append, List.length_nil]; omega
/-- length of a line, and one more a word -/
def tl (ws : List Wd) : Nat := (ws.map fun w => (wordT w).length + 1).sum
theorem tl_append (a b : List Wd) : tl (a ++ b) = tl a + tl b := by simp [tl]
theorem tl_cons (w : Wd) (b : List Wd) : tl (w :: b) = (wordT w).length + 1 + tl b := by simp [tl]
theorem tl_nil : tl [] = 0 := rfl
theorem wb_len (t : List Int) : (wordT (wb t)).length = t.length := rfl
theorem wq_len (t : List Int) : (wordT (wq t)).length ≤ 4 * t.length + 2 := quote_len t
theorem tl_count (ws : List Wd) : ws.length ≤ tl ws := by
  induction ws with
  | nil => simp [tl]
  | cons w ws ih => rw [tl_cons, List.length_cons]; omega
theorem join_tl (ws : List Wd) : (lineT ws).length ≤ tl ws := by
  cases ws with
  | nil => simp [lineT, joinS, tl]
  | cons w r =>
    have : ∀ r : List Wd, ((r.map wordT).flatMap fun y => 32 :: y).length = tl r := by
      intro r
      induction r with
      | nil => rfl
      | cons w r ih => rw [List.map_cons, List.flatMap_cons, List.length_append, ih, tl_cons]; simp
    rw [lineT, List.map_cons, joinS, List.length_append, this, tl_cons]; omega
theorem fk_len {k : Int} {w : List Int} (h : fkW k = some w) : w.length ≤ 7 := by
  unfold fkW at h
  split at h
  · cases h; simp
  split at h
  · cases h; simp
  split at h
  · cases h; simp
  · cases h
theorem fate_tl {f : Fate} (hf : fOk f) {l : List Wd} (h : fateV f = some l) : tl l ≤ 40 * szF f ∧ l.length ≤ 4 := by
  obtain ⟨w, hw, rfl⟩ := Option.map_eq_some_iff.1 h
  have := fk_len hw
  have := itoa20 hf.2.1
  have := wq_len f.1
  have := wq_len f.2.2.2.1
  refine ⟨?_, ?_⟩
  · unfold szF
    split <;> simp only [tl_cons, tl_nil, wb_len] <;> omega
  · split <;> simp
theorem fates_tl : ∀ {l : List Fate}, (∀ f ∈ l, fOk f) → ∀ {r : List Wd}, fatesV l = some r → tl r ≤ 40 * (l.map szF).sum ∧ r.length ≤ 4 * l.length
  | [], _, r, h => by simp only [fatesV, Option.some.injEq] at h; subst h; simp [tl]
  | f :: l, hl, r, h => by
    rw [fatesV] at h
    obtain ⟨a, h1, h⟩ := Option.bind_eq_some_iff.1 h
    obtain ⟨b, h2, rfl⟩ := Option.map_eq_some_iff.1 h
    have ⟨q1, q2⟩ := fate_tl (hl f (by simp)) h1
    have ⟨q3, q4⟩ := fates_tl (fun x hx => hl x (by simp [hx])) h2
    rw [tl_append, List.map_cons, List.sum_cons, List.length_append, List.length_cons]
    omega
theorem bare_len (k : Int) : (bareW k).length ≤ 10 := by unfold bareW; repeat' split
                                                         all_goals simp
theorem ask_len (k : Int) : (askW k).length ≤ 6 := by unfold askW; repeat' split
                                                      all_goals simp
theorem step_tl {s : Step} (hs : sOk s) {l : List Wd} (h : stepV s = some l) : tl l ≤ 120 * szS s := by
  obtain ⟨h1, h2, h3, ⟨h4, _⟩, _, _, h7⟩ := hs
  have := itoa20 h1
  have := itoa20 h2
  have := itoa20 h3
  have := hex_len s.2.2.2.2.1
  have := wq_len s.2.2.2.2.2.1
  have := wq_len s.2.2.2.2.2.2.1
  have := bare_len s.1
  unfold szS
  unfold stepV at h
  split at h
  · cases h; simp only [tl_cons, tl_nil, wb_len, List.length_cons, List.length_nil]; omega
  split at h
  · cases h; simp only [tl_cons, tl_nil, wb_len, List.length_cons, List.length_nil]; omega
  split at h
  · cases h; simp only [tl_cons, tl_nil, wb_len, List.length_cons, List.length_nil]; omega
  split at h
  · cases h; simp only [tl_cons, tl_nil, wb_len, List.length_cons, List.length_nil]; omega
  split at h
  · cases h; simp only [tl_cons, tl_nil, wb_len, List.length_cons, List.length_nil]; omega
  split at h
  · cases h; simp only [tl_cons, tl_nil, wb_len, List.length_cons, List.length_nil]; omega
  split at h
  · obtain ⟨r, hr, rfl⟩ := Option.map_eq_some_iff.1 h
    have := (fates_tl h7 hr).1
    simp only [tl_cons, tl_nil, wb_len, List.length_cons, List.length_nil]; omega
  split at h
  · cases h
  · cases h; simp only [tl_cons, tl_nil, wb_len]; omega
theorem move_tl {m : Mov} (h0 : rng .i64 m.2.1) (hs : sOk m.2.2.1) {l : List Wd} (h : moveV m = some l) : tl l ≤ 150 * szS m.2.2.1 := by
  have := itoa20 h0
  have h1 : 1 ≤ szS m.2.2.1 := by unfold szS; omega
  unfold moveV at h
  split at h
  · obtain ⟨r, hr, rfl⟩ := Option.map_eq_some_iff.1 h
    have := step_tl hs hr
    simp only [tl_cons, tl_nil, wb_len, List.length_cons, List.length_nil]; omega
  split at h
  · cases h; simp only [tl_cons, tl_nil, wb_len, List.length_cons, List.length_nil]; omega
  split at h
  · cases h; simp only [tl_cons, tl_nil, wb_len, List.length_cons, List.length_nil]; omega
  split at h
  · cases h; simp only [tl_cons, tl_nil, wb_len, List.length_cons, List.length_nil]; omega
  split at h
  · cases h; simp only [tl_cons, tl_nil, wb_len, List.length_cons, List.length_nil]; omega
  · cases h
theorem two {α : Type} {l : List α} (h : l.length = 2) : ∃ a b, l = [a, b] := by
  cases l with
  | nil => cases h
  | cons a l => cases l with
    | nil => cases h
    | cons b l => cases l with
      | nil => exact ⟨a, b, rfl⟩
      | cons _ _ => simp at h
theorem cmd_tl {c : Cmd} (hc : cOk c) {l : List Wd} (h : cmdV c = some l) : tl l ≤ 400 * szC c := by
  obtain ⟨⟨w1, w2, ⟨w3, w4⟩, ⟨w5, w6⟩, w7, w8⟩, h0, hs, h1, h2⟩ := hc
  have hz : 1 ≤ szC c := by unfold szC szS; omega
  have := itoa20 w1
  have := itoa20 w2
  have := itoa20 w7
  have := itoa20 w8
  have := itoa20 h1
  have := itoa20 h2
  have := ask_len c.1
  unfold cmdV at h
  split at h
  · obtain ⟨a, b, e1⟩ := two w3
    obtain ⟨a', b', e2⟩ := two w5
    rw [e1] at w4
    rw [e2] at w6
    have l1 := (w4 a (by simp)).1
    have l2 := (w4 b (by simp)).1
    have l3 := (w6 a' (by simp)).1
    have l4 := (w6 b' (by simp)).1
    cases h
    rw [e1, e2]
    simp only [List.cons_append, List.nil_append, List.map_cons, List.map_nil, tl_cons, tl_nil, wb_len, List.length_cons, List.length_nil, hex_len]; omega
  split at h
  · have := move_tl h0 hs h
    unfold szC; omega
  split at h
  · cases h; simp only [tl_cons, tl_nil, wb_len, List.length_cons, List.length_nil]; omega
  split at h
  · cases h; simp only [tl_cons, tl_nil, wb_len, List.length_cons, List.length_nil]; omega
  split at h
  · cases h
  · cases h; simp only [tl_cons, tl_nil, wb_len]; omega
theorem text_len : ∀ {l : List Cmd}, (∀ c ∈ l, cOk c) → ∀ {t : List Int}, textS l = some t → t.length ≤ 401 * szL l
  | [], _, t, h => by simp only [textS, Option.some.injEq] at h; subst h; simp
  | c :: l, hl, t, h => by
    rw [textS] at h
    obtain ⟨w, h1, h⟩ := Option.bind_eq_some_iff.1 h
    obtain ⟨b, h2, rfl⟩ := Option.map_eq_some_iff.1 h
    have a := cmd_tl (hl c (by simp)) h1
    have b := text_len (fun x hx => hl x (by simp [hx])) h2
    have d := join_tl w
    have e : 1 ≤ szC c := by unfold szC szS; omega
    simp only [szL, List.map_cons, List.sum_cons, List.length_append, List.length_cons] at b ⊢
    omega
end Sx
namespace Sx
open Go Go.RowKit

abbrev Ln := List (List Int) × Unit
theorem word_r (a : Ln) (ws : List (List Int)) (h : a.1.length + ws.length ≤ 4398046511104) : script_line_word a ws = some (a.1 ++ ws, ()) := by
  unfold script_line_word; rw [if_pos (by omega)]
theorem num_r (a : Ln) (n : Int) (h : a.1.length ≤ 2000000000000) : script_line_number a n = some (a.1 ++ [itoaI n], ()) := by
  unfold script_line_number strconv_FormatInt
  rw [if_pos rfl, bind_eq, word_r a _ (by simp; omega), bind_eq]
theorem hex_l0 (h : List Int) (hh : h.length = 32) (hb : byteOk h) (K : List Int → Option (List Int)) : ∀ (m i : Nat) (acc : List Int), i + m = 32 → acc.length ≤ 2 * i → script_Hex_l0 h K (m + 1) ((i : Int), acc) = K (acc ++ (h.drop i).flatMap hexC)
  | 0, i, acc, hi, _ => by
    unfold script_Hex_l0
    rw [if_neg (by simp; omega), List.drop_eq_nil_of_le (by omega)]; simp
  | m + 1, i, acc, hi, ha => by
    unfold script_Hex_l0
    have hlt : i < h.length := by omega
    rw [if_pos (by simp; omega)]
    simp only [bnd_eq, Int.toNat_natCast]
    rw [if_pos ⟨by omega, by omega⟩, drop_cons hlt]
    have hc := getD_byte hb i
    generalize h.getD i 0 = c at hc
    obtain ⟨n1, n2⟩ := nib_eq hc
    have w : IntKind.wrap .i64 ((i : Int) + 1) = ((i + 1 : Nat) : Int) := by rw [wrap_i64 (by omega) (by omega)]; omega
    have hB : ∀ (a : List Int) (c : Int), a.length + 1 ≤ 140737488355328 → strings_Builder_WriteByte a c = some (.nilIface, a ++ [c]) := fun a c h => by unfold strings_Builder_WriteByte; rw [if_pos h]
    rw [n1, n2, w, if_pos ⟨by omega, by simp; omega⟩]
    simp only [Int.toNat_natCast]
    rw [hB _ _ (by omega), bind_eq, if_pos ⟨by omega, by simp; omega⟩, hB _ _ (by simp; omega), bind_eq, hex_l0 h hh hb K m (i + 1) _ (by omega) (by simp; omega), List.flatMap_cons]
    unfold hexC hxc HEX
    simp
theorem hexs_r {h : List Int} (hh : hOk h) : script_Hex h = some (hexS h) := by
  unfold script_Hex
  simp only [bnd_eq]
  have e : Int.toNat (32 - 0) + 1 = 32 + 1 := rfl
  rw [e, show (0 : Int) = ((0 : Nat) : Int) from rfl, hex_l0 h hh.1 hh.2 _ 32 0 [] (by omega) (by simp)]
  rfl

/-! ### fates -/
theorem fate_r (a : Ln) (ha : a.1.length ≤ 1000000000000) (f : Fate) (hf : fOk f) (hz : szF f ≤ 4294967295) : script_line_fate a f = some ((fateV f).map fun l => (a.1 ++ l.map wordT, ())) := by
  unfold script_line_fate
  simp only [bnd_eq]
  unfold szF at hz
  have body : ∀ w : List Int, fkW f.2.2.1 = some w → ((script_Quote f.1).bind fun (r6 : List Int) => (script_line_word (a.1 ++ [w], ()) [r6]).bind fun (r8 : Ln) => (script_line_number r8 f.2.1).bind fun (r9 : Ln) => if (f.2.2.1 == 2) = true then ((script_Quote f.2.2.2.1).bind fun (r10 : List Int) => (script_line_word r9 [r10]).bind fun (r12 : Ln) => some (some r12)) else (some (some r9))) = some ((fateV f).map fun l => (a.1 ++ l.map wordT, ())) := by
    intro w hw
    rw [quote_text hf.1 (by omega), bind_eq, word_r _ _ (by simp; omega), bind_eq, num_r _ _ (by simp; omega), bind_eq]
    unfold fateV
    rw [hw]
    by_cases h2 : f.2.2.1 = 2
    · rw [if_pos (by simpa using h2), quote_text hf.2.2 (by omega), bind_eq, word_r _ _ (by simp; omega), bind_eq]
      simp [h2, wordT, wb, wq]
    · rw [if_neg (by simpa using h2)]
      simp [h2, wordT, wb, wq]
  by_cases h0 : f.2.2.1 = 0
  · rw [if_pos (by simpa using h0), word_r _ _ (by simp; omega), bind_eq]
    exact body _ (by simp [fkW, h0])
  rw [if_neg (by simpa using h0)]
  by_cases h1 : f.2.2.1 = 1
  · rw [if_pos (by simpa using h1), word_r _ _ (by simp; omega), bind_eq]
    exact body _ (by simp [fkW, h1])
  rw [if_neg (by simpa using h1)]
  by_cases h2 : f.2.2.1 = 2
  · rw [if_pos (by simpa using h2), word_r _ _ (by simp; omega), bind_eq]
    exact body _ (by simp [fkW, h2])
  rw [if_neg (by simpa using h2)]
  have e : fateV f = none := by unfold fateV fkW; simp [h0, h1, h2]
  rw [e]; rfl
theorem sum_ge {α : Type} (f : α → Nat) {l : List α} {x : α} (h : x ∈ l) : f x ≤ (l.map f).sum := by
  induction l with
  | nil => cases h
  | cons y l ih =>
    rw [List.map_cons, List.sum_cons]
    rcases List.mem_cons.1 h with rfl | h
    · omega
    · have := ih h; omega
theorem getD_mem {α : Type} {l : List α} {i : Nat} (d : α) (h : i < l.length) : l.getD i d ∈ l := by
  rw [show l.getD i d = l[i] by simp [List.getD, h]]; exact List.getElem_mem h
theorem drop_consD {α : Type} {l : List α} {i : Nat} (d : α) (h : i < l.length) : l.drop i = l.getD i d :: l.drop (i + 1) := by
  rw [List.drop_eq_getElem_cons h]; simp [List.getD, h]
theorem steps_l0 (s : Step) (hl : s.2.2.2.2.2.2.2.1.length ≤ 4294967296) (hs : ∀ f ∈ s.2.2.2.2.2.2.2.1, fOk f ∧ szF f ≤ 4294967295) (K : Ln → Option (Option Ln)) : ∀ (m i : Nat) (a : Ln), i + m = s.2.2.2.2.2.2.2.1.length → a.1.length ≤ 10 + 4 * i →
    script_line_step_l0 s K (m + 1) ((i : Int), a) = match fatesV (s.2.2.2.2.2.2.2.1.drop i) with | none => some none | some l => K (a.1 ++ l.map wordT, ())
  | 0, i, a, h, _ => by
    unfold script_line_step_l0
    rw [if_neg (by simp; omega), List.drop_eq_nil_of_le (by omega)]
    simp [fatesV]
  | m + 1, i, a, h, ha => by
    unfold script_line_step_l0
    have hi : i < s.2.2.2.2.2.2.2.1.length := by omega
    rw [if_pos (by simp; omega), if_pos ⟨by omega, by omega⟩, Int.toNat_natCast, drop_consD ([], 0, 0, [], ()) hi]
    obtain ⟨q1, q2⟩ := hs _ (getD_mem ([], 0, 0, [], ()) hi)
    generalize s.2.2.2.2.2.2.2.1.getD i ([], 0, 0, [], ()) = f at q1 q2 ⊢
    have w : IntKind.wrap .i64 ((i : Int) + 1) = ((i + 1 : Nat) : Int) := by rw [wrap_i64 (by omega) (by omega)]; omega
    rw [fate_r a (by omega) f q1 q2, bind_eq, w, fatesV]
    cases hF : fateV f with
    | none => rfl
    | some l =>
      have := (fate_tl q1 hF).2
      simp only [Option.map_some, pb, Option.bind_some]
      rw [steps_l0 s hl hs K m (i + 1) _ (by omega) (by simp; omega)]
      cases fatesV (s.2.2.2.2.2.2.2.1.drop (i + 1)) with
      | none => rfl
      | some b => simp
theorem bare_r (k : Int) : script_bare k = some (bareW k) := by
  unfold script_bare bareW
  simp only [beq_iff_eq]
  repeat' (split <;> try rfl)
theorem ask_r (k : Int) : script_question k = some (askW k) := by
  unfold script_question askW
  simp only [beq_iff_eq]
  repeat' (split <;> try rfl)
theorem len_le_sum (l : List Fate) : l.length ≤ (l.map szF).sum := by
  induction l with
  | nil => simp
  | cons f l ih => rw [List.map_cons, List.sum_cons, List.length_cons]; unfold szF at ih ⊢; omega
theorem lstep_r (a : Ln) (ha : a.1.length ≤ 4) (s : Step) (hs : sOk s) (hz : szS s ≤ 4294967295) : script_line_step a s = some ((stepV s).map fun l => (a.1 ++ l.map wordT, ())) := by
  obtain ⟨h1, h2, h3, h4, h5, h6, h7⟩ := hs
  unfold szS at hz
  have hll := len_le_sum s.2.2.2.2.2.2.2.1
  unfold script_line_step stepV
  simp only [beq_iff_eq, bnd_eq]
  split
  · rw [word_r _ _ (by simp; omega), bind_eq, num_r _ _ (by simp; omega), bind_eq, hexs_r h4, bind_eq, word_r _ _ (by simp; omega), bind_eq]
    simp [wordT, wb]
  split
  · rw [word_r _ _ (by simp; omega), bind_eq, num_r _ _ (by simp; omega), bind_eq, hexs_r h4, bind_eq, word_r _ _ (by simp; omega), bind_eq]
    simp [wordT, wb]
  split
  · rw [word_r _ _ (by simp; omega), bind_eq, num_r _ _ (by simp; omega), bind_eq, quote_text h5 (by omega), bind_eq, word_r _ _ (by simp; omega), bind_eq]
    simp [wordT, wb, wq]
  split
  · rw [quote_text h6 (by omega), bind_eq, word_r _ _ (by simp; omega), bind_eq]
    simp [wordT, wb, wq]
  split
  · rw [word_r _ _ (by simp; omega), bind_eq, num_r _ _ (by simp; omega), bind_eq]
    simp [wordT, wb]
  split
  · rw [word_r _ _ (by simp; omega), bind_eq, num_r _ _ (by simp; omega), bind_eq]
    simp [wordT, wb]
  split
  · rw [word_r _ _ (by simp; omega), bind_eq, num_r _ _ (by simp; omega), bind_eq]
    have e : Int.toNat ((List.length s.2.2.2.2.2.2.2.1 : Int) - 0) + 1 = s.2.2.2.2.2.2.2.1.length + 1 := by omega
    rw [e, show (0 : Int) = ((0 : Nat) : Int) from rfl, steps_l0 s (by omega) (fun f hf => ⟨h7 f hf, by have := sum_ge szF hf; omega⟩) _ _ 0 _ (by omega) (by simp; omega), List.drop_zero]
    cases fatesV s.2.2.2.2.2.2.2.1 with
    | none => rfl
    | some l => simp [wordT, wb]
  · rw [bare_r, bind_eq]
    by_cases hb : bareW s.1 = []
    · rw [if_pos hb, if_pos hb]; rfl
    · rw [if_neg hb, if_neg hb, word_r _ _ (by simp; omega), bind_eq]
      simp [wordT, wb]
theorem lmove_r (m : Mov) (h0 : rng .i64 m.2.1) (hs : sOk m.2.2.1) (hz : szS m.2.2.1 ≤ 4294967295) : script_line_move ([], ()) m = some ((moveV m).map fun l => (l.map wordT, ())) := by
  unfold script_line_move moveV
  simp only [beq_iff_eq, bnd_eq]
  split
  · rename_i h1
    rw [word_r _ _ (by simp), bind_eq]
    simp only [if_true]
    rw [num_r _ _ (by simp), bind_eq, lstep_r _ (by simp) _ hs hz, bind_eq]
    cases stepV m.2.2.1 with
    | none => rfl
    | some l => simp [pb, wordT, wb]
  rename_i h1
  split
  · rw [word_r _ _ (by simp), bind_eq]
    simp only [Bool.false_eq_true, if_false]
    rfl
  split
  · rw [word_r _ _ (by simp), bind_eq]
    simp only [Bool.false_eq_true, if_false]
    rfl
  split
  · rw [word_r _ _ (by simp), bind_eq]
    simp only [if_true]
    rw [num_r _ _ (by simp), bind_eq]; rfl
  split
  · rw [word_r _ _ (by simp), bind_eq]
    simp only [if_true]
    rw [num_r _ _ (by simp), bind_eq]; rfl
  · rfl
theorem lcmd_r (c : Cmd) (hc : cOk c) (hz : szC c ≤ 4294967295) : script_line_command ([], ()) c = some ((cmdV c).map fun l => (l.map wordT, ())) := by
  obtain ⟨⟨w1, w2, ⟨w3, w4⟩, ⟨w5, w6⟩, w7, w8⟩, h0, hs, h1, h2⟩ := hc
  unfold script_line_command cmdV
  simp only [beq_iff_eq, bnd_eq]
  split
  · rw [word_r _ _ (by simp), bind_eq]
    obtain ⟨a, b, e1⟩ := two w3
    obtain ⟨a', b', e2⟩ := two w5
    rw [e1] at w4
    rw [e2] at w6
    have l1 := hexs_r (w4 a (by simp))
    have l2 := hexs_r (w4 b (by simp))
    have l3 := hexs_r (w6 a' (by simp))
    have l4 := hexs_r (w6 b' (by simp))
    have e4 : Int.toNat ((List.length [c.2.1.1, c.2.1.2.1, c.2.1.2.2.2.2.1, c.2.1.2.2.2.2.2.1] : Int) - 0) + 1 = 5 := rfl
    have e5 : Int.toNat ((List.length (c.2.1.2.2.1 ++ c.2.1.2.2.2.1) : Int) - 0) + 1 = 5 := by rw [e1, e2]; rfl
    rw [e4, e5]
    simp (decide := true) only [script_line_command_l1, bnd_eq, if_true, if_false, List.getD_cons_zero, List.getD_cons_succ, List.length_cons, List.length_nil, IntKind.wrap, IntKind.bits, IntKind.signed]
    rw [num_r _ _ (by simp), bind_eq, num_r _ _ (by simp), bind_eq, num_r _ _ (by simp), bind_eq, num_r _ _ (by simp), bind_eq]
    simp (decide := true) only [script_line_command_l0, e1, e2, List.cons_append, List.nil_append, if_true, if_false, List.getD_cons_zero, List.getD_cons_succ, List.length_cons, List.length_nil, IntKind.wrap, IntKind.bits, IntKind.signed]
    have i0 : Int.toNat 0 = 0 := rfl
    have i1 : ((0 + 1) % 2 ^ 64 : Int).toNat = 1 := by decide
    have i2 : (((0 + 1) % 2 ^ 64 + 1) % 2 ^ 64 : Int).toNat = 2 := by decide
    have i3 : ((((0 + 1) % 2 ^ 64 + 1) % 2 ^ 64 + 1) % 2 ^ 64 : Int).toNat = 3 := by decide
    simp only [i0, i1, i2, i3, List.getD_cons_zero, List.getD_cons_succ]
    rw [l1, bind_eq, word_r _ _ (by simp), bind_eq, l2, bind_eq, word_r _ _ (by simp), bind_eq, l3, bind_eq, word_r _ _ (by simp), bind_eq, l4, bind_eq, word_r _ _ (by simp), bind_eq]
    rfl
  split
  · rw [lmove_r _ h0 hs hz, bind_eq]
    cases moveV c.2.2.1 <;> rfl
  split
  · rw [word_r _ _ (by simp), bind_eq, num_r _ _ (by simp), bind_eq]; rfl
  split
  · rw [word_r _ _ (by simp), bind_eq]; rfl
  · rw [ask_r, bind_eq]
    by_cases hb : askW c.1 = []
    · rw [if_pos hb, if_pos hb]; rfl
    · rw [if_neg hb, if_neg hb, word_r _ _ (by simp), bind_eq, num_r _ _ (by simp), bind_eq]; rfl
theorem joinTail_map : ∀ r : List (List Int), Lib.joinTail (toB [32]) (r.map toB) = toB (r.flatMap fun y => 32 :: y)
  | [] => rfl
  | x :: r => by
    have := joinTail_map r
    unfold Lib.joinTail at this ⊢
    simp only [List.map_cons, List.flatten_cons, List.flatMap_cons] at this ⊢
    rw [this]
    simp [toB]
theorem join_map (xs : List (List Int)) : Lib.join (xs.map toB) (toB [32]) = toB (joinS xs) := by
  cases xs with
  | nil => rfl
  | cons x r =>
    rw [List.map_cons, Lib.join_cons, joinTail_map, joinS]
    simp [toB]
theorem toB_len (l : List Int) : (toB l).length = l.length := by simp [toB]
theorem esc_all {c : Int} (hc : 0 ≤ c ∧ c < 256) : ∀ x ∈ esc c, 32 ≤ x ∧ x ≤ 126 := by
  have hx : ∀ x ∈ escx c, 32 ≤ x ∧ x ≤ 126 := by
    obtain ⟨_, a1, a2⟩ := hxc_all ⟨c.toNat / 16, by omega⟩
    obtain ⟨_, b1, b2⟩ := hxc_all ⟨c.toNat % 16, by omega⟩
    simp only at a1 a2 b1 b2
    intro x hx
    unfold escx at hx
    simp only [List.mem_cons, List.not_mem_nil, or_false] at hx
    rcases hx with rfl | rfl | rfl | rfl <;> omega
  unfold esc
  by_cases h1 : c = 34 ∨ c = 92
  · rw [if_pos h1]; intro x hx
    simp only [List.mem_cons, List.not_mem_nil, or_false] at hx
    rcases hx with rfl | rfl <;> omega
  · rw [if_neg h1]
    by_cases h2 : 32 ≤ c ∧ c ≤ 126
    · rw [if_pos h2]; intro x hx
      simp only [List.mem_cons, List.not_mem_nil, or_false] at hx
      subst hx; exact h2
    · rw [if_neg h2]; exact hx
theorem quote_all {s : List Int} (hs : byteOk s) : ∀ x ∈ quoteS s, 32 ≤ x ∧ x ≤ 126 := by
  intro x hx
  unfold quoteS at hx
  rcases List.mem_cons.1 hx with rfl | hx
  · omega
  · rcases List.mem_append.1 hx with hx | hx
    · obtain ⟨c, hc, hx⟩ := List.mem_flatMap.1 hx
      exact esc_all (hs c hc) x hx
    · simp at hx; subst hx; omega
theorem hexS_all {h : List Int} (hh : byteOk h) : ∀ x ∈ hexS h, 48 ≤ x ∧ x ≤ 102 := by
  intro x hx
  obtain ⟨c, hc, hx⟩ := List.mem_flatMap.1 hx
  have hc := hh c hc
  obtain ⟨_, a1, a2⟩ := hxc_all ⟨c.toNat / 16, by omega⟩
  obtain ⟨_, b1, b2⟩ := hxc_all ⟨c.toNat % 16, by omega⟩
  simp only at a1 a2 b1 b2
  simp only [hexC, List.mem_cons, List.not_mem_nil, or_false] at hx
  rcases hx with rfl | rfl <;> omega
theorem decI_dig (n : Nat) : ∀ x ∈ decI n, 48 ≤ x ∧ x ≤ 57 := (decI_all n).1
theorem itoa_all (n : Int) : ∀ x ∈ itoaI n, 45 ≤ x ∧ x ≤ 57 := by
  intro x hx
  rw [itoaI_eq] at hx
  split at hx
  · rcases List.mem_cons.1 hx with rfl | hx
    · omega
    · have := decI_dig _ x hx; omega
  · have := decI_dig _ x hx; omega
theorem itoa_ne (n : Int) : itoaI n ≠ [] := by
  rw [itoaI_eq]
  split
  · simp
  · exact (decI_all _).2.2

/-- a word that a line may hold: its text is not nothing, holds no blank if it is bare, and bytes from 33 on -/
def goodW (w : Wd) : Prop := byteOk w.1 ∧ (w.2.1 = false → w.1 ≠ [] ∧ ∀ c ∈ w.1, 35 < c ∧ c ≤ 126)
theorem good_wb {t : List Int} (h : t ≠ []) (h2 : ∀ c ∈ t, 35 < c ∧ c ≤ 126) : goodW (wb t) := ⟨fun c hc => by have := h2 c hc; omega, fun _ => ⟨h, h2⟩⟩
theorem good_wq {t : List Int} (h : byteOk t) : goodW (wq t) := ⟨h, fun e => by cases e⟩
theorem good_num (n : Int) : goodW (wb (itoaI n)) := good_wb (itoa_ne n) fun c hc => by have := itoa_all n c hc; omega
theorem good_hash {h : List Int} (hh : hOk h) : goodW (wb (hexS h)) := good_wb (fun e => by have := hex_len h; rw [e, hh.1] at this; simp at this) fun c hc => by have := hexS_all hh.2 c hc; omega
def goodWs (l : List Wd) : Prop := ∀ w ∈ l, goodW w
theorem goodWs_cons {w : Wd} {l : List Wd} (h : goodW w) (hl : goodWs l) : goodWs (w :: l) := fun x hx => by
  rcases List.mem_cons.1 hx with rfl | hx
  · exact h
  · exact hl x hx
theorem goodWs_nil : goodWs [] := fun _ h => by cases h
theorem goodWs_append {a b : List Wd} (ha : goodWs a) (hb : goodWs b) : goodWs (a ++ b) := fun x hx => (List.mem_append.1 hx).elim (ha x) (hb x)
theorem fk_good {k : Int} {w : List Int} (h : fkW k = some w) : goodW (wb w) := by
  unfold fkW at h
  split at h
  · cases h; exact good_wb (by decide) (by decide)
  split at h
  · cases h; exact good_wb (by decide) (by decide)
  split at h
  · cases h; exact good_wb (by decide) (by decide)
  · cases h
theorem fate_good {f : Fate} (hf : fOk f) {l : List Wd} (h : fateV f = some l) : goodWs l := by
  obtain ⟨w, hw, rfl⟩ := Option.map_eq_some_iff.1 h
  refine goodWs_cons (fk_good hw) (goodWs_cons (good_wq hf.1) (goodWs_cons (good_num _) ?_))
  split
  · exact goodWs_cons (good_wq hf.2.2) goodWs_nil
  · exact goodWs_nil
theorem fates_good : ∀ {l : List Fate}, (∀ f ∈ l, fOk f) → ∀ {r : List Wd}, fatesV l = some r → goodWs r
  | [], _, r, h => by simp only [fatesV, Option.some.injEq] at h; subst h; exact goodWs_nil
  | f :: l, hl, r, h => by
    rw [fatesV] at h
    obtain ⟨a, h1, h⟩ := Option.bind_eq_some_iff.1 h
    obtain ⟨b, h2, rfl⟩ := Option.map_eq_some_iff.1 h
    exact goodWs_append (fate_good (hl f (by simp)) h1) (fates_good (fun x hx => hl x (by simp [hx])) h2)
theorem bare_good {k : Int} (h : bareW k ≠ []) : goodW (wb (bareW k)) := by
  unfold bareW at h ⊢
  repeat' split
  all_goals first | exact good_wb (by decide) (by decide) | skip
  simp_all
theorem ask_good {k : Int} (h : askW k ≠ []) : goodW (wb (askW k)) := by
  unfold askW at h ⊢
  repeat' split
  all_goals first | exact good_wb (by decide) (by decide) | skip
  simp_all
theorem step_good {s : Step} (hs : sOk s) {l : List Wd} (h : stepV s = some l) : goodWs l ∧ l ≠ [] := by
  obtain ⟨h1, h2, h3, h4, h5, h6, h7⟩ := hs
  unfold stepV at h
  split at h
  · cases h; exact ⟨goodWs_cons (good_wb (by decide) (by decide)) (goodWs_cons (good_num _) (goodWs_cons (good_hash h4) goodWs_nil)), by simp⟩
  split at h
  · cases h; exact ⟨goodWs_cons (good_wb (by decide) (by decide)) (goodWs_cons (good_num _) (goodWs_cons (good_hash h4) goodWs_nil)), by simp⟩
  split at h
  · cases h; exact ⟨goodWs_cons (good_wb (by decide) (by decide)) (goodWs_cons (good_num _) (goodWs_cons (good_wq h5) goodWs_nil)), by simp⟩
  split at h
  · cases h; exact ⟨goodWs_cons (good_wb (by decide) (by decide)) (goodWs_cons (good_wq h6) goodWs_nil), by simp⟩
  split at h
  · cases h; exact ⟨goodWs_cons (good_wb (by decide) (by decide)) (goodWs_cons (good_num _) goodWs_nil), by simp⟩
  split at h
  · cases h; exact ⟨goodWs_cons (good_wb (by decide) (by decide)) (goodWs_cons (good_num _) goodWs_nil), by simp⟩
  split at h
  · obtain ⟨r, hr, rfl⟩ := Option.map_eq_some_iff.1 h
    exact ⟨goodWs_cons (good_wb (by decide) (by decide)) (goodWs_cons (good_num _) (fates_good h7 hr)), by simp⟩
  split at h
  · cases h
  · rename_i hb
    cases h; exact ⟨goodWs_cons (bare_good hb) goodWs_nil, by simp⟩
theorem move_good {m : Mov} (hs : sOk m.2.2.1) {l : List Wd} (h : moveV m = some l) : goodWs l ∧ l ≠ [] := by
  unfold moveV at h
  split at h
  · obtain ⟨r, hr, rfl⟩ := Option.map_eq_some_iff.1 h
    exact ⟨goodWs_cons (good_wb (by decide) (by decide)) (goodWs_cons (good_num _) (step_good hs hr).1), by simp⟩
  split at h
  · cases h; exact ⟨goodWs_cons (good_wb (by decide) (by decide)) goodWs_nil, by simp⟩
  split at h
  · cases h; exact ⟨goodWs_cons (good_wb (by decide) (by decide)) goodWs_nil, by simp⟩
  split at h
  · cases h; exact ⟨goodWs_cons (good_wb (by decide) (by decide)) (goodWs_cons (good_num _) goodWs_nil), by simp⟩
  split at h
  · cases h; exact ⟨goodWs_cons (good_wb (by decide) (by decide)) (goodWs_cons (good_num _) goodWs_nil), by simp⟩
  · cases h
theorem cmd_good {c : Cmd} (hc : cOk c) {l : List Wd} (h : cmdV c = some l) : goodWs l ∧ l ≠ [] := by
  obtain ⟨⟨w1, w2, ⟨w3, w4⟩, ⟨w5, w6⟩, w7, w8⟩, h0, hs, h1, h2⟩ := hc
  unfold cmdV at h
  split at h
  · cases h
    refine ⟨goodWs_cons (good_wb (by decide) (by decide)) (goodWs_cons (good_num _) (goodWs_cons (good_num _) (goodWs_cons (good_num _) (goodWs_cons (good_num _) ?_)))), by simp⟩
    intro x hx
    obtain ⟨y, hy, rfl⟩ := List.mem_map.1 hx
    rcases List.mem_append.1 hy with hy | hy
    · exact good_hash (w4 y hy)
    · exact good_hash (w6 y hy)
  split at h
  · exact move_good hs h
  split at h
  · cases h; exact ⟨goodWs_cons (good_wb (by decide) (by decide)) (goodWs_cons (good_num _) goodWs_nil), by simp⟩
  split at h
  · cases h; exact ⟨goodWs_cons (good_wb (by decide) (by decide)) goodWs_nil, by simp⟩
  split at h
  · cases h
  · rename_i hb
    cases h; exact ⟨goodWs_cons (ask_good hb) (goodWs_cons (good_num _) goodWs_nil), by simp⟩
theorem wordT_all {w : Wd} (hw : goodW w) : wordT w ≠ [] ∧ ∀ c ∈ wordT w, 32 ≤ c ∧ c ≤ 126 := by
  unfold wordT
  split
  · exact ⟨by simp [quoteS], quote_all hw.1⟩
  · rename_i h
    obtain ⟨a, b⟩ := hw.2 (by simpa using h)
    exact ⟨a, fun c hc => by have := b c hc; omega⟩
theorem line_all {l : List Wd} (hl : goodWs l) (hn : l ≠ []) : lineT l ≠ [] ∧ ∀ c ∈ lineT l, 32 ≤ c ∧ c ≤ 126 := by
  cases l with
  | nil => exact absurd rfl hn
  | cons w r =>
    obtain ⟨a, b⟩ := wordT_all (hl w (by simp))
    unfold lineT
    rw [List.map_cons, joinS]
    refine ⟨fun e => a (List.append_eq_nil_iff.1 e).1, fun c hc => ?_⟩
    rcases List.mem_append.1 hc with hc | hc
    · exact b c hc
    · obtain ⟨y, hy, hc⟩ := List.mem_flatMap.1 hc
      obtain ⟨z, hz, rfl⟩ := List.mem_map.1 hy
      rcases List.mem_cons.1 hc with rfl | hc
      · omega
      · exact (wordT_all (hl z (by simp [hz]))).2 c hc
theorem print_l0 (l : List Cmd) (hl : ∀ c ∈ l, cOk c) (hz : szL l ≤ 4194304) (K : List Int → Option (Option (List Int × Int))) : ∀ (m i : Nat) (acc : List Int), i + m = l.length → acc.length + 401 * szL (l.drop i) ≤ 17179869184 →
    script_Print_in_l0 l K (m + 1) ((i : Int), acc) = match textS (l.drop i) with | none => some none | some t => K (acc ++ t)
  | 0, i, acc, h, _ => by
    unfold script_Print_in_l0
    rw [if_neg (by simp; omega), List.drop_eq_nil_of_le (by omega)]
    simp [textS]
  | m + 1, i, acc, h, ha => by
    unfold script_Print_in_l0
    have hi : i < l.length := by omega
    have hll : l.length ≤ szL l := by
      have : ∀ l : List Cmd, l.length ≤ szL l := by
        intro l
        induction l with
        | nil => simp
        | cons c l ih => unfold szL at ih ⊢; rw [List.map_cons, List.sum_cons, List.length_cons]; unfold szC szS at *; omega
      exact this l
    rw [if_pos (by simp; omega), if_pos ⟨by omega, by omega⟩, Int.toNat_natCast]
    have hd := drop_consD (0, (0, 0, (List.replicate 2 ((List.replicate 32 (0 : Int)) : List (Int))), (List.replicate 2 ((List.replicate 32 (0 : Int)) : List (Int))), 0, 0, ()), (0, 0, (0, 0, 0, 0, (List.replicate 32 (0 : Int)), [], [], [], ()), ()), 0, 0, ()) hi
    have q1 := hl _ (getD_mem (0, (0, 0, (List.replicate 2 ((List.replicate 32 (0 : Int)) : List (Int))), (List.replicate 2 ((List.replicate 32 (0 : Int)) : List (Int))), 0, 0, ()), (0, 0, (0, 0, 0, 0, (List.replicate 32 (0 : Int)), [], [], [], ()), ()), 0, 0, ()) hi)
    have q2 := sum_ge szC (getD_mem (0, (0, 0, (List.replicate 2 ((List.replicate 32 (0 : Int)) : List (Int))), (List.replicate 2 ((List.replicate 32 (0 : Int)) : List (Int))), 0, 0, ()), (0, 0, (0, 0, 0, 0, (List.replicate 32 (0 : Int)), [], [], [], ()), ()), 0, 0, ()) hi)
    rw [hd] at ha ⊢
    generalize l.getD i _ = c at q1 q2 ha ⊢
    have q3 : szC c ≤ 4294967295 := by unfold szL at hz; omega
    have w : IntKind.wrap .i64 ((i : Int) + 1) = ((i + 1 : Nat) : Int) := by rw [wrap_i64 (by omega) (by omega)]; omega
    rw [lcmd_r c q1 q3, bind_eq, w, textS]
    cases hC : cmdV c with
    | none => rfl
    | some ws =>
      have t1 := cmd_tl q1 hC
      have t2 := join_tl ws
      have t3 := tl_count ws
      obtain ⟨g1, g2⟩ := cmd_good q1 hC
      obtain ⟨g3, g4⟩ := line_all g1 g2
      simp only [szL, List.map_cons, List.sum_cons] at ha
      simp only [Option.map_some, pb, Option.bind_some]
      have hj : strings_Join (ws.map wordT) [32] = some (lineT ws) := by
        unfold strings_Join
        rw [join_map, toB_len]
        change (if (ws.map wordT).length ≤ 140737488355328 ∧ (lineT ws).length ≤ 140737488355328 then some (ofB (toB (lineT ws))) else none) = _
        rw [if_pos ⟨by simp; omega, by omega⟩, ofB_toB (fun c hc => by have := g4 c hc; omega)]
      have e1 : 1 ≤ szC c := by unfold szC szS; omega
      unfold script_line_text
      rw [hj, bind_eq, bind_eq]
      unfold strings_Builder_WriteString strings_Builder_WriteByte
      rw [if_pos ⟨g3, by omega⟩, bind_eq, if_pos (by simp; omega), bind_eq, print_l0 l hl hz K m (i + 1) _ (by omega) (by simp only [List.length_append, List.length_cons, List.length_nil, szL]; omega)]
      cases textS (l.drop (i + 1)) with
      | none => rfl
      | some t => simp
theorem text_ok : ∀ {l : List Cmd}, (∀ c ∈ l, cOk c) → ∀ {t : List Int}, textS l = some t → byteOk t
  | [], _, t, h => by simp only [textS, Option.some.injEq] at h; subst h; intro c hc; cases hc
  | c :: l, hl, t, h => by
    rw [textS] at h
    obtain ⟨w, h1, h⟩ := Option.bind_eq_some_iff.1 h
    obtain ⟨b, h2, rfl⟩ := Option.map_eq_some_iff.1 h
    obtain ⟨g1, g2⟩ := cmd_good (hl c (by simp)) h1
    exact byteOk_append (fun x hx => by have := (line_all g1 g2).2 x hx; omega) (byteOk_mk (by decide) (text_ok (fun x hx => hl x (by simp [hx])) h2))
/-- Print is what the definition says -/
theorem print_eq {l : List Cmd} (hl : ∀ c ∈ l, cOk c) (hz : szL l ≤ 4194304) : script_Print l = some (printS l) := by
  unfold script_Print script_Print_in printS
  simp only [bnd_eq]
  have e : Int.toNat ((l.length : Int) - 0) + 1 = l.length + 1 := by omega
  rw [e, show (0 : Int) = ((0 : Nat) : Int) from rfl, print_l0 l hl hz _ l.length 0 [] (by omega) (by simp; omega), List.drop_zero]
  cases hT : textS l with
  | none => rfl
  | some t =>
    simp only [List.nil_append]
    rw [long_eq (text_ok hl hT), bind_eq]
    split <;> rfl
end Sx
namespace Sx
open Go Go.RowKit

/-! ### numbers, hashes, quoted texts -/
theorem wrap_u64' {n : Int} (h0 : 0 ≤ n) (h : n < 18446744073709551616) : IntKind.wrap .u64 n = n := by
  simp only [IntKind.wrap, IntKind.bits, IntKind.signed, Bool.false_and, Bool.false_eq_true, if_false]; omega
theorem wrap_u64n {n : Int} (h0 : -18446744073709551616 ≤ n) (h : n < 0) : IntKind.wrap .u64 n = n + 18446744073709551616 := by
  simp only [IntKind.wrap, IntKind.bits, IntKind.signed, Bool.false_and, Bool.false_eq_true, if_false]; omega
theorem dec_l0 (K : List Int → Option (List Int)) : ∀ (m : Nat) (v : Nat) (s : List Int), v < 18446744073709551616 → v < 10 ^ m → 1 ≤ m → s.length ≤ 1000 - m → m ≤ 30 → escrowref25_Decimal_l0 K m ((v : Int), s) = K (decI v ++ s)
  | 0, _, _, _, _, h, _, _ => by omega
  | m + 1, v, s, hv, hm, _, hs, h30 => by
    unfold escrowref25_Decimal_l0
    simp only [bnd_eq]
    rw [if_pos (by simp only [most, List.length_cons, List.length_nil]; omega)]
    have e1 : Int.tmod (v : Int) 10 = ((v % 10 : Nat) : Int) := (Int.ofNat_tmod v 10).symm
    have e2 : Int.tdiv (v : Int) 10 = ((v / 10 : Nat) : Int) := (Int.ofNat_tdiv v 10).symm
    rw [e1, e2, wrap_u64' (by omega) (by omega), wrap_u64' (by omega) (by omega), wrap_u8b (by omega) (by omega)]
    rw [decI_eq]
    by_cases h10 : v < 10
    · rw [if_pos h10, if_pos (by simp; omega)]
      congr 2
      simp; omega
    · rw [if_neg h10, if_neg (by simp; omega)]
      have hm1 : 1 ≤ m := by
        rcases m with _ | m
        · simp at hm; omega
        · omega
      rw [dec_l0 K m (v / 10) _ (by omega) (by rw [Nat.pow_succ] at hm; omega) hm1 (by simp; omega) (by omega)]
      simp
theorem decimal_r {n : Int} (h : rng .i64 n) : escrowref25_Decimal n = some (itoaI n) := by
  simp only [rng, lo, Sx.hi] at h
  unfold escrowref25_Decimal
  simp only [bnd_eq]
  have h21 : (10 : Nat) ^ 21 = 1000000000000000000000 := by decide
  rw [itoaI_eq]
  by_cases hn : n < 0
  · have e : IntKind.wrap .u64 (0 - IntKind.wrap .u64 n) = ((n.natAbs : Nat) : Int) := by
      rw [wrap_u64n (by omega) hn, wrap_u64n (by omega) (by omega)]; omega
    rw [if_pos (by simpa using hn), e, dec_l0 _ 21 n.natAbs [] (by omega) (by omega) (by decide) (by simp) (by decide)]
    have := decI_len 21 n.natAbs (by decide) (by omega)
    rw [if_pos (by simpa using hn), if_pos (by simp only [most, List.length_append, List.length_cons, List.length_nil]; omega), if_pos hn]
    simp
  · have e : IntKind.wrap .u64 n = ((n.toNat : Nat) : Int) := by rw [wrap_u64' (by omega) (by omega)]; omega
    rw [if_neg (by simpa using hn), e, dec_l0 _ 21 n.toNat [] (by omega) (by omega) (by decide) (by simp) (by decide)]
    rw [if_neg (by simpa using hn), if_neg hn]
    simp
theorem tdiv16 : ∀ c : Fin 256, IntKind.wrap .u8 (Int.tdiv (c.val : Int) 16) = ((c.val / 16 : Nat) : Int) ∧ Int.tmod (c.val : Int) 16 = ((c.val % 16 : Nat) : Int) := by decide +kernel
theorem tdiv16_eq {c : Int} (h : 0 ≤ c ∧ c < 256) : IntKind.wrap .u8 (Int.tdiv c 16) = ((c.toNat / 16 : Nat) : Int) ∧ Int.tmod c 16 = ((c.toNat % 16 : Nat) : Int) := by
  have td := tdiv16 ⟨c.toNat, by omega⟩
  simp only at td
  rwa [show ((c.toNat : Nat) : Int) = c by omega] at td
theorem rhex_l0 (h : List Int) (hh : h.length = 32) (hb : byteOk h) (K : List Int → Option (List Int)) : ∀ (m i : Nat) (acc : List Int), i + m = 32 → acc.length ≤ 2 * i → escrowref25_Hex_l0 h K (m + 1) ((i : Int), acc) = K (acc ++ (h.drop i).flatMap hexC)
  | 0, i, acc, hi, _ => by
    unfold escrowref25_Hex_l0
    rw [if_neg (by simp; omega), List.drop_eq_nil_of_le (by omega)]; simp
  | m + 1, i, acc, hi, ha => by
    unfold escrowref25_Hex_l0
    have hlt : i < h.length := by omega
    have g : (0 : Int) ≤ (i : Int) ∧ (i : Int) < 32 := ⟨by omega, by omega⟩
    rw [if_pos (by simp; omega)]
    simp only [bnd_eq, Int.toNat_natCast]
    simp only [if_pos g]
    rw [drop_cons hlt]
    have hc := getD_byte hb i
    generalize h.getD i 0 = c at hc
    obtain ⟨n1, n2⟩ := tdiv16_eq hc
    have w : IntKind.wrap .i64 ((i : Int) + 1) = ((i + 1 : Nat) : Int) := by rw [wrap_i64 (by omega) (by omega)]; omega
    rw [n1, n2, w, if_pos ⟨by omega, by simp; omega⟩, if_pos ⟨by omega, by simp; omega⟩]
    simp only [Int.toNat_natCast]
    rw [if_pos (by simp only [List.length_cons, List.length_nil]; omega), rhex_l0 h hh hb K m (i + 1) _ (by omega) (by simp; omega), List.flatMap_cons]
    unfold hexC hxc HEX
    simp
theorem rhex_r {h : List Int} (hh : hOk h) : escrowref25_Hex h = some (hexS h) := by
  unfold escrowref25_Hex
  simp only [bnd_eq]
  have e : Int.toNat (32 - 0) + 1 = 32 + 1 := rfl
  rw [e, show (0 : Int) = ((0 : Nat) : Int) from rfl, rhex_l0 h hh.1 hh.2 _ 32 0 [] (by omega) (by simp)]
  rfl
theorem rquote_l0 (s : List Int) (hs : byteOk s) (hl : s.length < 4294967296) (K : List Int → Option (List Int)) : ∀ (m i : Nat) (acc : List Int), i + m = s.length → acc.length ≤ 4 * i + 1 → escrowref25_Quote_l0 s K (m + 1) ((i : Int), acc) = K (acc ++ (s.drop i).flatMap esc)
  | 0, i, acc, h, _ => by
    unfold escrowref25_Quote_l0
    rw [if_neg (by simp; omega), List.drop_eq_nil_of_le (by omega)]; simp
  | m + 1, i, acc, h, ha => by
    unfold escrowref25_Quote_l0
    have hi : i < s.length := by omega
    rw [if_pos (by simp; omega)]
    simp only [bnd_eq, Int.toNat_natCast]
    rw [if_pos ⟨by omega, by omega⟩, drop_cons hi]
    have hc := getD_byte hs i
    generalize s.getD i 0 = c at hc
    have w : IntKind.wrap .i64 ((i : Int) + 1) = ((i + 1 : Nat) : Int) := by rw [wrap_i64 (by omega) (by omega)]; omega
    have ih := fun acc h => rquote_l0 s hs hl K m (i + 1) acc (by omega) h
    rw [w, List.flatMap_cons, ← List.append_assoc]
    by_cases h1 : c = 34 ∨ c = 92
    · have e : (c == 34 || c == 92) = true := by simpa using h1
      rw [if_pos e, if_pos (by simp only [List.length_cons, List.length_nil]; omega), ih _ (by simp; omega)]
      unfold esc; rw [if_pos h1]
    · have e : (c == 34 || c == 92) = false := by simpa using h1
      rw [e]
      simp only [Bool.false_eq_true, if_false]
      by_cases h2 : 32 ≤ c ∧ c ≤ 126
      · have e2 : (decide (c < 32) || decide (c > 126)) = false := by simp; omega
        rw [e2]
        simp only [Bool.false_eq_true, if_false]
        rw [if_pos (by simp only [List.length_cons, List.length_nil]; omega), ih _ (by simp; omega)]
        unfold esc; rw [if_neg h1, if_pos h2]
      · have e2 : (decide (c < 32) || decide (c > 126)) = true := by simp; omega
        obtain ⟨n1, n2⟩ := tdiv16_eq hc
        rw [if_pos e2, n1, n2, if_pos ⟨by omega, by simp; omega⟩, if_pos ⟨by omega, by simp; omega⟩]
        simp only [Int.toNat_natCast]
        rw [if_pos (by simp only [List.length_cons, List.length_nil]; omega), ih _ (by simp; omega)]
        unfold esc; rw [if_neg h1, if_neg h2]
        unfold escx hxc HEX
        simp
theorem rquote_r {s : List Int} (hs : byteOk s) (hl : s.length < 4294967296) : escrowref25_Quote s = some (quoteS s) := by
  unfold escrowref25_Quote
  simp only [bnd_eq]
  have e : Int.toNat ((s.length : Int) - 0) + 1 = s.length + 1 := by omega
  rw [e, show (0 : Int) = ((0 : Nat) : Int) from rfl, rquote_l0 s hs hl _ s.length 0 _ (by omega) (by simp)]
  have := fmap_len esc esc_len s
  rw [List.drop_zero, if_pos (by simp only [List.length_append, List.length_cons, List.length_nil]; omega)]
  simp [quoteS]

/-! ### lines -/
def spW (l : List Wd) : List Int := l.flatMap fun w => 32 :: wordT w
theorem line_cons (w : Wd) (l : List Wd) : lineT (w :: l) = wordT w ++ spW l := by
  unfold lineT spW
  rw [List.map_cons, joinS, List.flatMap_map]
theorem sp_len (l : List Wd) : (spW l).length = tl l := by
  induction l with
  | nil => rfl
  | cons w l ih =>
    unfold spW at ih ⊢
    rw [List.flatMap_cons, List.length_append, ih, tl_cons]; simp
theorem sp_append (a b : List Wd) : spW (a ++ b) = spW a ++ spW b := by unfold spW; exact List.flatMap_append
theorem rfate_r (f : Fate) (hf : fOk f) (hz : szF f ≤ 4294967295) : escrowref25_fateText f = some (match fateV f with | some l => (spW l, true) | none => ([], false)) := by
  unfold szF at hz
  have h20 := itoa20 hf.2.1
  have hq := quote_len f.1
  have hq2 := quote_len f.2.2.2.1
  unfold escrowref25_fateText
  rw [rquote_r hf.1 (by omega), bind_eq, if_pos (by simp only [most, List.length_cons, List.length_nil]; omega), if_pos (by simp only [most, List.length_append, List.length_cons, List.length_nil]; omega), decimal_r hf.2.1, bind_eq, if_pos (by simp only [most, List.length_append, List.length_cons, List.length_nil]; omega)]
  simp only [bnd_eq, beq_iff_eq]
  unfold fateV fkW
  by_cases h0 : f.2.2.1 = 0
  · rw [if_pos h0, if_pos (by simp only [most, List.length_append, List.length_cons, List.length_nil]; omega)]
    simp [h0, spW, wordT, wb, wq]
  rw [if_neg h0]
  by_cases h1 : f.2.2.1 = 1
  · rw [if_pos h1, if_pos (by simp only [most, List.length_append, List.length_cons, List.length_nil]; omega)]
    simp [h1, spW, wordT, wb, wq]
  rw [if_neg h1]
  by_cases h2 : f.2.2.1 = 2
  · rw [if_pos h2, if_pos (by simp only [most, List.length_append, List.length_cons, List.length_nil]; omega), if_pos (by simp only [most, List.length_append, List.length_cons, List.length_nil]; omega), rquote_r hf.2.2 (by omega), bind_eq, if_pos (by simp only [most, List.length_append, List.length_cons, List.length_nil]; omega)]
    simp [h2, spW, wordT, wb, wq]
  · rw [if_neg h2]
    simp [h0, h1, h2]
theorem rsteps_l0 (s : Step) (hl : s.2.2.2.2.2.2.2.1.length ≤ 4294967296) (hs : ∀ f ∈ s.2.2.2.2.2.2.2.1, fOk f ∧ szF f ≤ 4294967295) (K : List Int → Option (List Int × Bool)) : ∀ (m i : Nat) (t : List Int), i + m = s.2.2.2.2.2.2.2.1.length → t.length + 40 * ((s.2.2.2.2.2.2.2.1.drop i).map szF).sum ≤ 1099511627776 →
    escrowref25_stepText_l0 s K (m + 1) (t, (i : Int)) = match fatesV (s.2.2.2.2.2.2.2.1.drop i) with | none => some ([], false) | some l => K (t ++ spW l)
  | 0, i, t, h, _ => by
    unfold escrowref25_stepText_l0
    rw [if_neg (by simp; omega), List.drop_eq_nil_of_le (by omega)]
    simp [fatesV, spW]
  | m + 1, i, t, h, ht => by
    unfold escrowref25_stepText_l0
    have hi : i < s.2.2.2.2.2.2.2.1.length := by omega
    rw [if_pos (by simp; omega), if_pos ⟨by omega, by omega⟩, Int.toNat_natCast]
    rw [drop_consD ([], 0, 0, [], ()) hi] at ht ⊢
    obtain ⟨q1, q2⟩ := hs _ (getD_mem ([], 0, 0, [], ()) hi)
    generalize s.2.2.2.2.2.2.2.1.getD i ([], 0, 0, [], ()) = f at q1 q2 ht ⊢
    have w : IntKind.wrap .i64 ((i : Int) + 1) = ((i + 1 : Nat) : Int) := by rw [wrap_i64 (by omega) (by omega)]; omega
    rw [rfate_r f q1 q2, bind_eq, w, fatesV]
    cases hF : fateV f with
    | none => rfl
    | some l =>
      have hb := (fate_tl q1 hF).1
      have hsl := sp_len l
      simp only [List.map_cons, List.sum_cons] at ht
      simp only [Bool.not_true, Bool.false_eq_true, if_false, bnd_eq, Option.bind_some]
      rw [if_pos (by simp only [most]; omega), rsteps_l0 s hl hs K m (i + 1) _ (by omega) (by simp only [List.length_append]; omega)]
      cases fatesV (s.2.2.2.2.2.2.2.1.drop (i + 1)) with
      | none => rfl
      | some b => simp [sp_append]
theorem rbare_r (k : Int) : escrowref25_bare k = some (bareW k) := by
  unfold escrowref25_bare bareW
  simp only [beq_iff_eq]
  repeat' (split <;> try rfl)
/-- a line's text and whether it is one -/
def Told (x : List Int × Bool) (o : Option (List Wd)) : Prop := x.2 = o.isSome ∧ ∀ l, o = some l → x.1 = lineT l
theorem told_some {t : List Int} {l : List Wd} (h : t = lineT l) : Told (t, true) (some l) := ⟨rfl, fun _ e => by cases e; exact h⟩
theorem told_none {t : List Int} : Told (t, false) none := ⟨rfl, fun _ e => by cases e⟩
theorem rstep_r (s : Step) (hs : sOk s) (hz : szS s ≤ 4294967295) : ∃ x, escrowref25_stepText s = some x ∧ Told x (stepV s) ∧ x.1.length ≤ 120 * szS s := by
  have hs0 := hs
  obtain ⟨h1, h2, h3, h4, h5, h6, h7⟩ := hs
  have a1 := itoa20 h1
  have a2 := itoa20 h2
  have a3 := itoa20 h3
  have a4 := hex_len s.2.2.2.2.1
  rw [h4.1] at a4
  have a5 := quote_len s.2.2.2.2.2.1
  have a6 := quote_len s.2.2.2.2.2.2.1
  have hll := len_le_sum s.2.2.2.2.2.2.2.1
  have key : ∃ x, escrowref25_stepText s = some x ∧ Told x (stepV s) ∧ (stepV s = none → x.1 = []) := by
    unfold szS at hz
    unfold escrowref25_stepText stepV
    simp only [beq_iff_eq, bnd_eq]
    split
    · rw [decimal_r h1, bind_eq, if_pos (by simp only [most, List.length_append, List.length_cons, List.length_nil]; omega), if_pos (by simp only [most, List.length_append, List.length_cons, List.length_nil]; omega), rhex_r h4, bind_eq, if_pos (by simp only [most, List.length_append, List.length_cons, List.length_nil]; omega)]
      exact ⟨_, rfl, told_some (by rw [line_cons]; simp [spW, wordT, wb]), fun h => by cases h⟩
    split
    · rw [decimal_r h2, bind_eq, if_pos (by simp only [most, List.length_append, List.length_cons, List.length_nil]; omega), if_pos (by simp only [most, List.length_append, List.length_cons, List.length_nil]; omega), rhex_r h4, bind_eq, if_pos (by simp only [most, List.length_append, List.length_cons, List.length_nil]; omega)]
      exact ⟨_, rfl, told_some (by rw [line_cons]; simp [spW, wordT, wb]), fun h => by cases h⟩
    split
    · rw [decimal_r h2, bind_eq, if_pos (by simp only [most, List.length_append, List.length_cons, List.length_nil]; omega), if_pos (by simp only [most, List.length_append, List.length_cons, List.length_nil]; omega), rquote_r h5 (by omega), bind_eq, if_pos (by simp only [most, List.length_append, List.length_cons, List.length_nil]; omega)]
      exact ⟨_, rfl, told_some (by rw [line_cons]; simp [spW, wordT, wb, wq]), fun h => by cases h⟩
    split
    · rw [rquote_r h6 (by omega), bind_eq, if_pos (by simp only [most, List.length_append, List.length_cons, List.length_nil]; omega)]
      exact ⟨_, rfl, told_some (by rw [line_cons]; simp [spW, wordT, wb, wq]), fun h => by cases h⟩
    split
    · rw [decimal_r h3, bind_eq, if_pos (by simp only [most, List.length_append, List.length_cons, List.length_nil]; omega)]
      exact ⟨_, rfl, told_some (by rw [line_cons]; simp [spW, wordT, wb]), fun h => by cases h⟩
    split
    · rw [decimal_r h3, bind_eq, if_pos (by simp only [most, List.length_append, List.length_cons, List.length_nil]; omega)]
      exact ⟨_, rfl, told_some (by rw [line_cons]; simp [spW, wordT, wb]), fun h => by cases h⟩
    split
    · rw [decimal_r h3, bind_eq, if_pos (by simp only [most, List.length_append, List.length_cons, List.length_nil]; omega)]
      rw [show (0 : Int) = ((0 : Nat) : Int) from rfl, rsteps_l0 s (by omega) (fun f hf => ⟨h7 f hf, by have := sum_ge szF hf; omega⟩) _ _ 0 _ (by omega) (by simp only [List.length_append, List.length_cons, List.length_nil, List.drop_zero]; omega), List.drop_zero]
      cases fatesV s.2.2.2.2.2.2.2.1 with
      | none => exact ⟨_, rfl, told_none, fun _ => rfl⟩
      | some l => exact ⟨_, rfl, told_some (by rw [line_cons]; simp [spW, wordT, wb]), fun h => by cases h⟩
    · rw [rbare_r, bind_eq, bind_eq]
      by_cases hb : bareW s.1 = []
      · rw [if_pos hb, hb]; exact ⟨_, rfl, told_none, fun _ => rfl⟩
      · rw [if_neg hb]
        have : (bareW s.1 != []) = true := by simpa using hb
        rw [this]
        exact ⟨_, rfl, told_some (by rw [line_cons]; simp [spW, wordT, wb]), fun h => by cases h⟩
  obtain ⟨x, e1, e2, e3⟩ := key
  refine ⟨x, e1, e2, ?_⟩
  cases hV : stepV s with
  | none => rw [e3 hV]; simp
  | some l =>
    rw [e2.2 l hV]
    exact Nat.le_trans (join_tl l) (step_tl hs0 hV)
theorem rmove_r (m : Mov) (h0 : rng .i64 m.2.1) (hs : sOk m.2.2.1) (hz : szS m.2.2.1 ≤ 4294967295) : ∃ x, escrowref25_moveText m = some x ∧ Told x (moveV m) := by
  have a1 := itoa20 h0
  unfold escrowref25_moveText moveV
  simp only [beq_iff_eq]
  split
  · obtain ⟨x, e1, e2, e3⟩ := rstep_r m.2.2.1 hs hz
    rw [e1, bind_eq, decimal_r h0, bind_eq, if_pos (by simp only [most, List.length_append, List.length_cons, List.length_nil]; omega), if_pos (by simp only [most, List.length_append, List.length_cons, List.length_nil]; omega), if_pos (by simp only [most, List.length_append, List.length_cons, List.length_nil]; omega)]
    refine ⟨_, rfl, ?_, ?_⟩
    · rw [e2.1]; cases stepV m.2.2.1 <;> rfl
    · intro l hl
      obtain ⟨r, hr, rfl⟩ := Option.map_eq_some_iff.1 hl
      rw [e2.2 r hr]
      have hn := (step_good hs hr).2
      cases r with
      | nil => exact absurd rfl hn
      | cons w r => rw [line_cons, line_cons]; simp [spW, wordT, wb]
  split
  · exact ⟨_, rfl, told_some rfl⟩
  split
  · exact ⟨_, rfl, told_some rfl⟩
  split
  · rw [decimal_r h0, bind_eq, if_pos (by simp only [most, List.length_append, List.length_cons, List.length_nil]; omega)]
    exact ⟨_, rfl, told_some (by rw [line_cons]; simp [spW, wordT, wb])⟩
  split
  · rw [decimal_r h0, bind_eq, if_pos (by simp only [most, List.length_append, List.length_cons, List.length_nil]; omega)]
    exact ⟨_, rfl, told_some (by rw [line_cons]; simp [spW, wordT, wb])⟩
  · exact ⟨_, rfl, told_none⟩
theorem rcmd_r (c : Cmd) (hc : cOk c) (hz : szC c ≤ 4294967295) : ∃ x, escrowref25_lineText c = some x ∧ Told x (cmdV c) := by
  obtain ⟨⟨w1, w2, ⟨w3, w4⟩, ⟨w5, w6⟩, w7, w8⟩, h0, hs, h1, h2⟩ := hc
  have a1 := itoa20 w1
  have a2 := itoa20 w2
  have a3 := itoa20 w7
  have a4 := itoa20 w8
  have a5 := itoa20 h1
  have a6 := itoa20 h2
  unfold escrowref25_lineText cmdV
  have b1 : ∀ k : Int, (c.1 == k) = true ↔ c.1 = k := fun k => beq_iff_eq
  by_cases n1 : c.1 = 1
  · rw [if_pos ((b1 1).2 n1), if_pos n1]
    obtain ⟨a, b, e1⟩ := two w3
    obtain ⟨a', b', e2⟩ := two w5
    rw [e1] at w4
    rw [e2] at w6
    have l1 := hex_len a
    have l2 := hex_len b
    have l3 := hex_len a'
    have l4 := hex_len b'
    rw [(w4 a (by simp)).1] at l1
    rw [(w4 b (by simp)).1] at l2
    rw [(w6 a' (by simp)).1] at l3
    rw [(w6 b' (by simp)).1] at l4
    have q1 : escrowref25_Hex (List.getD c.2.1.2.2.1 0 (List.replicate 32 (0 : Int))) = some (hexS a) := by rw [e1]; exact rhex_r (w4 a (by simp))
    have q2 : escrowref25_Hex (List.getD c.2.1.2.2.1 1 (List.replicate 32 (0 : Int))) = some (hexS b) := by rw [e1]; exact rhex_r (w4 b (by simp))
    have q3 : escrowref25_Hex (List.getD c.2.1.2.2.2.1 0 (List.replicate 32 (0 : Int))) = some (hexS a') := by rw [e2]; exact rhex_r (w6 a' (by simp))
    have q4 : escrowref25_Hex (List.getD c.2.1.2.2.2.1 1 (List.replicate 32 (0 : Int))) = some (hexS b') := by rw [e2]; exact rhex_r (w6 b' (by simp))
    have g0 : (0 : Int) ≤ 0 ∧ (0 : Int) < 2 := by decide
    have g1 : (0 : Int) ≤ 1 ∧ (1 : Int) < 2 := by decide
    rw [decimal_r w1, bind_eq, if_pos (by simp only [most, List.length_append, List.length_cons, List.length_nil]; omega), if_pos (by simp only [most, List.length_append, List.length_cons, List.length_nil]; omega), decimal_r w2, bind_eq, if_pos (by simp only [most, List.length_append, List.length_cons, List.length_nil]; omega), if_pos (by simp only [most, List.length_append, List.length_cons, List.length_nil]; omega), decimal_r w7, bind_eq, if_pos (by simp only [most, List.length_append, List.length_cons, List.length_nil]; omega), if_pos (by simp only [most, List.length_append, List.length_cons, List.length_nil]; omega), decimal_r w8, bind_eq, if_pos (by simp only [most, List.length_append, List.length_cons, List.length_nil]; omega), if_pos (by simp only [most, List.length_append, List.length_cons, List.length_nil]; omega), if_pos g0, q1, bind_eq, if_pos (by simp only [most, List.length_append, List.length_cons, List.length_nil]; omega), if_pos (by simp only [most, List.length_append, List.length_cons, List.length_nil]; omega), if_pos g1, q2, bind_eq, if_pos (by simp only [most, List.length_append, List.length_cons, List.length_nil]; omega), if_pos (by simp only [most, List.length_append, List.length_cons, List.length_nil]; omega), if_pos g0, q3, bind_eq, if_pos (by simp only [most, List.length_append, List.length_cons, List.length_nil]; omega), if_pos (by simp only [most, List.length_append, List.length_cons, List.length_nil]; omega), if_pos g1, q4, bind_eq, if_pos (by simp only [most, List.length_append, List.length_cons, List.length_nil]; omega), bnd_eq]
    exact ⟨_, rfl, told_some (by rw [e1, e2, line_cons]; simp [spW, wordT, wb])⟩
  rw [if_neg (fun h => n1 ((b1 1).1 h)), if_neg n1]
  by_cases n2 : c.1 = 2
  · rw [if_pos ((b1 2).2 n2), if_pos n2]
    obtain ⟨x, e1, e2⟩ := rmove_r c.2.2.1 h0 hs hz
    rw [e1, bind_eq]
    exact ⟨_, rfl, e2⟩
  rw [if_neg (fun h => n2 ((b1 2).1 h)), if_neg n2]
  by_cases n3 : c.1 = 3
  · rw [if_pos ((b1 3).2 n3), if_pos n3, decimal_r h1, bind_eq, if_pos (by simp only [most, List.length_append, List.length_cons, List.length_nil]; omega)]
    exact ⟨_, rfl, told_some (by rw [line_cons]; simp [spW, wordT, wb])⟩
  rw [if_neg (fun h => n3 ((b1 3).1 h)), if_neg n3, bnd_eq]
  by_cases hr : 4 ≤ c.1 ∧ c.1 ≤ 8
  · have e : (decide (c.1 ≥ 4) && decide (c.1 ≤ 8)) = true := by simp; omega
    have w : IntKind.wrap .i64 (c.1 - 4) = c.1 - 4 := wrap_i64 (by omega) (by omega)
    rw [if_pos e, w, if_pos ⟨by omega, by omega⟩, decimal_r h2, bind_eq, if_neg (show ¬ c.1 = 9 by omega)]
    have h5 : c.1 = 4 ∨ c.1 = 5 ∨ c.1 = 6 ∨ c.1 = 7 ∨ c.1 = 8 := by omega
    rcases h5 with h | h | h | h | h
    all_goals
      rw [h]
      have hp : ∀ (x : List Int), x.length ≤ 20 → x.length + (itoaI c.2.2.2.2.1).length ≤ most := fun x hx => by simp only [most]; omega
      rw [if_pos (hp _ (by decide)), bnd_eq]
      exact ⟨_, rfl, told_some (by rw [line_cons]; simp [spW, wordT, wb, askW])⟩
  · have e : (decide (c.1 ≥ 4) && decide (c.1 ≤ 8)) = false := by
      rw [← Bool.not_eq_true]; simp; omega
    rw [e]
    simp only [Bool.false_eq_true, if_false]
    by_cases n9 : c.1 = 9
    · rw [if_pos ((b1 9).2 n9), if_pos n9]
      exact ⟨_, rfl, told_some rfl⟩
    · have : askW c.1 = [] := by
        unfold askW
        rw [if_neg (by omega), if_neg (by omega), if_neg (by omega), if_neg (by omega), if_neg (by omega)]
      rw [if_neg (fun h => n9 ((b1 9).1 h)), if_neg n9, if_pos this]
      exact ⟨_, rfl, told_none⟩
end Sx
namespace Sx
open Go Go.RowKit

/-! ### lines of a text -/
theorem lns_front2 {p : List Int} (hp : ∀ c ∈ p, c ≠ 10) (r : List Int) : lns (p ++ 10 :: r) = p :: lns r := by
  induction p with
  | nil => rfl
  | cons c p ih =>
    rw [List.cons_append, lns, if_neg (hp c (by simp)), ih (fun x hx => hp x (by simp [hx]))]
theorem getLastD_cons {α : Type} (a d : α) {l : List α} (h : l ≠ []) : (a :: l).getLastD d = l.getLastD d := by
  cases l with
  | nil => exact absurd rfl h
  | cons b l => rfl
theorem rlines_l0 (t : List Int) (hl : t.length < 4294967296) (K : Int × List (List Int) → Option (List (List Int))) : ∀ (m i frm : Nat) (L : List (List Int)), i + m = t.length → frm ≤ i → (∀ c ∈ (t.take i).drop frm, c ≠ 10) → L.length ≤ i →
    ∃ f2 : Nat, f2 ≤ t.length ∧ t.drop f2 = (lns (t.drop frm)).getLastD [] ∧ escrowref25_Lines_l0 t K (m + 1) ((frm : Int), (i : Int), L) = K ((f2 : Int), L ++ (lns (t.drop frm)).dropLast)
  | 0, i, frm, L, h, hf, hn, _ => by
    unfold escrowref25_Lines_l0
    rw [if_neg (by simp; omega)]
    obtain rfl : i = t.length := by omega
    rw [List.take_length] at hn
    have e : lns (t.drop frm) = [t.drop frm] := lns_one hn
    exact ⟨frm, hf, by rw [e]; rfl, by rw [e]; simp⟩
  | m + 1, i, frm, L, h, hf, hn, hL => by
    unfold escrowref25_Lines_l0
    have hi : i < t.length := by omega
    have g : (0 : Int) ≤ (i : Int) ∧ (i : Int) < (t.length : Int) := ⟨by omega, by omega⟩
    have w : IntKind.wrap .i64 ((i : Int) + 1) = ((i + 1 : Nat) : Int) := by rw [wrap_i64 (by omega) (by omega)]; omega
    rw [if_pos (by simp; omega)]
    simp only [bnd_eq, Int.toNat_natCast, if_pos g, w]
    have e1 : t.take (i + 1) = t.take i ++ [t.getD i 0] := by
      rw [List.take_add_one]; congr 1; simp [List.getD, hi]
    by_cases h10 : t.getD i 0 = 10
    · rw [if_pos (by simpa using h10), if_pos ⟨by omega, by omega, by omega⟩, if_pos (by simp only [List.length_cons, List.length_nil]; omega)]
      have e2 : t.drop frm = (t.take i).drop frm ++ 10 :: t.drop (i + 1) := by
        conv => lhs; rw [← List.take_append_drop i t]
        rw [List.drop_append_of_le_length (by rw [List.length_take]; omega), drop_consD 0 hi, h10]
      obtain ⟨f2, a1, a2, a3⟩ := rlines_l0 t hl K m (i + 1) (i + 1) (L ++ [(t.take i).drop frm]) (by omega) (Nat.le_refl _) (by
        intro c hc
        rw [List.drop_eq_nil_of_le (by rw [List.length_take]; omega)] at hc; cases hc) (by simp; omega)
      have hne := lns_ne (t.drop (i + 1))
      rw [e2, lns_front2 hn, getLastD_cons _ _ hne, List.dropLast_cons_of_ne_nil hne]
      exact ⟨f2, a1, a2, by rw [a3]; simp⟩
    · rw [if_neg (by simpa using h10)]
      exact rlines_l0 t hl K m (i + 1) frm L (by omega) (by omega) (by
        intro c hc
        rw [e1, List.drop_append_of_le_length (by rw [List.length_take]; omega)] at hc
        rcases List.mem_append.1 hc with hc | hc
        · exact hn c hc
        · simp at hc; rw [hc]
          simpa [List.getD] using h10) (by omega)
theorem dropLast_getLastD {α : Type} (d : α) : ∀ {l : List α}, l ≠ [] → l.dropLast ++ [l.getLastD d] = l
  | [], h => absurd rfl h
  | [a], _ => rfl
  | a :: b :: l, _ => by
    have := dropLast_getLastD d (l := b :: l) (by simp)
    rw [List.dropLast_cons_of_ne_nil (by simp), getLastD_cons a d (by simp), List.cons_append, this]
theorem rlines_r (t : List Int) (hl : t.length < 4294967296) : escrowref25_Lines t = some (lnsE t) := by
  unfold escrowref25_Lines
  simp only [bnd_eq]
  have e : Int.toNat ((t.length : Int) - 0) + 1 = t.length + 1 := by omega
  obtain ⟨f2, a1, a2, a3⟩ := rlines_l0 t hl (fun o2 => if decide (o2.1 < (t.length : Int)) = true then if 0 ≤ o2.1 ∧ o2.1 ≤ (t.length : Int) ∧ (t.length : Int) ≤ (t.length : Int) then if (o2.2.length + List.length [(t.take (Int.toNat (t.length : Int))).drop (Int.toNat o2.1)]) * 16 ≤ 140737488355328 then some (o2.2 ++ [(t.take (Int.toNat (t.length : Int))).drop (Int.toNat o2.1)]) else none else none else some o2.2) t.length 0 0 [] (by omega) (Nat.le_refl _) (by intro c hc; simp at hc) (by simp)
  rw [List.drop_zero] at a2 a3
  rw [e]
  refine Eq.trans a3 ?_
  have hlen := lns_len t
  have hdl : (lns t).dropLast.length ≤ t.length := by simp; omega
  simp only [List.nil_append, Int.toNat_natCast, List.take_length]
  rw [a2]
  unfold lnsE
  by_cases hf : f2 < t.length
  · have hne : ¬ (lns t).getLastD [] = [] := by
      rw [← a2]; intro h
      have := congrArg List.length h
      rw [List.length_drop] at this
      simp at this; omega
    rw [if_pos (by simpa using hf), if_pos ⟨by omega, by omega, by omega⟩, if_pos (by simp only [List.length_cons, List.length_nil]; omega), if_neg hne, dropLast_getLastD [] (lns_ne t)]
  · have hne : (lns t).getLastD [] = [] := by rw [← a2]; exact List.drop_eq_nil_of_le (by omega)
    rw [if_neg (by simpa using hf), if_pos hne]
theorem rlong_l0 (l : List (List Int)) (hl : l.length < 4294967300) (K : Unit → Option Bool) : ∀ (m i : Nat), i + m = l.length → escrowref25_long_l0 l K (m + 1) (i : Int) = if (l.drop i).any (fun x => decide (4096 < x.length)) then some true else K ()
  | 0, i, h => by
    unfold escrowref25_long_l0
    rw [if_neg (by simp; omega), List.drop_eq_nil_of_le (by omega)]; rfl
  | m + 1, i, h => by
    unfold escrowref25_long_l0
    rw [if_pos (by simp; omega), if_pos ⟨by omega, by omega⟩]
    simp only [bnd_eq, Int.toNat_natCast]
    have hi : i < l.length := by omega
    have w : IntKind.wrap .i64 ((i : Int) + 1) = ((i + 1 : Nat) : Int) := by rw [wrap_i64 (by omega) (by omega)]; omega
    rw [drop_consD [] hi, List.any_cons, w, rlong_l0 l hl K m (i + 1) (by omega)]
    by_cases h4 : 4096 < (l.getD i []).length
    · have d : decide (4096 < (l.getD i []).length) = true := by simpa using h4
      have d2 : decide (((l.getD i []).length : Int) > 4096) = true := by rw [decide_eq_true_eq]; omega
      rw [if_pos d2, d, Bool.true_or, if_pos rfl]
    · have d : decide (4096 < (l.getD i []).length) = false := by simpa using h4
      have d2 : ¬ decide (((l.getD i []).length : Int) > 4096) = true := by rw [decide_eq_true_eq]; omega
      rw [if_neg d2, d, Bool.false_or]
theorem rlong_r (t : List Int) (hl : t.length < 4294967296) : escrowref25_long t = some (longS t) := by
  have hlen := lns_len t
  have hE : (lnsE t).length ≤ t.length + 1 := by
    unfold lnsE
    split
    · simp; omega
    · omega
  unfold escrowref25_long longS
  rw [rlines_r t hl, bind_eq]
  simp only [bnd_eq]
  have d1 : decide ((t.length : Int) > 65536) = decide (65536 < t.length) := by rw [Bool.eq_iff_iff]; simp; omega
  have d2 : decide (((lnsE t).length : Int) > 1024) = decide (1024 < (lnsE t).length) := by rw [Bool.eq_iff_iff]; simp; omega
  rw [d1, d2]
  have e : Int.toNat (((lnsE t).length : Int) - 0) + 1 = (lnsE t).length + 1 := by omega
  rw [e, show (0 : Int) = ((0 : Nat) : Int) from rfl, rlong_l0 (lnsE t) (by omega) _ (lnsE t).length 0 (by omega), List.drop_zero]
  generalize decide (65536 < t.length) = A
  generalize decide (1024 < (lnsE t).length) = B
  generalize ((lnsE t).any fun x => decide (4096 < x.length)) = C
  cases A <;> cases B <;> cases C <;> rfl

end Sx
namespace Sx
open Go Go.RowKit

theorem cmds_len (l : List Cmd) : l.length ≤ szL l := by
  induction l with
  | nil => simp
  | cons c l ih => unfold szL at ih ⊢; rw [List.map_cons, List.sum_cons, List.length_cons]; unfold szC szS at *; omega
/-! ### lists of one's own, and the same -/
theorem own_l0 (l : List Cmd) (hl : l.length ≤ 4294967296) (hf : ∀ c ∈ l, c.2.2.1.2.2.1.2.2.2.2.2.2.2.1.length ≤ 4294967296) (K : List Cmd → Option (List Cmd)) : ∀ (m i : Nat) (acc : List Cmd), i + m = l.length → acc = l.take i → escrowlaw25_own_l0 l K (m + 1) ((i : Int), acc) = K l
  | 0, i, acc, h, ha => by
    unfold escrowlaw25_own_l0
    rw [if_neg (by simp; omega), ha, List.take_of_length_le (by omega)]
  | m + 1, i, acc, h, ha => by
    unfold escrowlaw25_own_l0
    have hi : i < l.length := by omega
    have w : IntKind.wrap .i64 ((i : Int) + 1) = ((i + 1 : Nat) : Int) := by rw [wrap_i64 (by omega) (by omega)]; omega
    rw [if_pos (by simp; omega), if_pos ⟨by omega, by omega⟩, Int.toNat_natCast, w]
    have q := hf _ (getD_mem (0, (0, 0, (List.replicate 2 ((List.replicate 32 (0 : Int)) : List (Int))), (List.replicate 2 ((List.replicate 32 (0 : Int)) : List (Int))), 0, 0, ()), (0, 0, (0, 0, 0, 0, (List.replicate 32 (0 : Int)), [], [], [], ()), ()), 0, 0, ()) hi)
    have e1 : l.take (i + 1) = l.take i ++ [l.getD i (0, (0, 0, (List.replicate 2 ((List.replicate 32 (0 : Int)) : List (Int))), (List.replicate 2 ((List.replicate 32 (0 : Int)) : List (Int))), 0, 0, ()), (0, 0, (0, 0, 0, 0, (List.replicate 32 (0 : Int)), [], [], [], ()), ()), 0, 0, ())] := by
      rw [List.take_add_one]; congr 1; simp [List.getD, hi]
    generalize l.getD i _ = c at q e1 ⊢
    have hF : escrowlaw25_fates c.2.2.1.2.2.1.2.2.2.2.2.2.2.1 = some c.2.2.1.2.2.1.2.2.2.2.2.2.2.1 := by
      unfold escrowlaw25_fates
      rw [if_pos (by simp only [List.length_nil]; omega), List.nil_append]
    have hal : acc.length ≤ l.length := by rw [ha, List.length_take]; omega
    rw [hF, bind_eq, if_pos (by simp only [List.length_cons, List.length_nil]; omega), bnd_eq]
    exact own_l0 l hl hf K m (i + 1) _ (by omega) (by rw [e1, ha])
theorem own_eq {l : List Cmd} (hl : l.length ≤ 4294967296) (hf : ∀ c ∈ l, c.2.2.1.2.2.1.2.2.2.2.2.2.2.1.length ≤ 4294967296) : escrowlaw25_own l = some l := by
  unfold escrowlaw25_own
  simp only [bnd_eq]
  have e : Int.toNat ((l.length : Int) - 0) + 1 = l.length + 1 := by omega
  rw [e, show (0 : Int) = ((0 : Nat) : Int) from rfl, own_l0 l hl hf _ l.length 0 [] (by omega) rfl]
theorem sameF_l0 (a : List Fate) (hl : a.length ≤ 4294967296) (K : Unit → Option Bool) : ∀ (m i : Nat), i + m = a.length → escrowref25_SameFates_l0 a a K (m + 1) (i : Int) = K ()
  | 0, i, h => by
    unfold escrowref25_SameFates_l0
    rw [if_neg (by simp; omega)]
  | m + 1, i, h => by
    unfold escrowref25_SameFates_l0
    have g : (0 : Int) ≤ (i : Int) ∧ (i : Int) < (a.length : Int) := ⟨by omega, by omega⟩
    have w : IntKind.wrap .i64 ((i : Int) + 1) = ((i + 1 : Nat) : Int) := by rw [wrap_i64 (by omega) (by omega)]; omega
    rw [if_pos (by simp; omega), if_pos g, if_pos g, w]
    generalize List.getD a _ _ = x
    have he : eqD (.pair .str (.pair (.int .i64) (.pair (.int .i64) (.pair .str .unit)))) x x = true := (eqD_iff (t := .pair .str (.pair (.int .i64) (.pair (.int .i64) (.pair .str .unit)))) rfl x x).2 rfl
    rw [he, if_neg (by decide), bnd_eq]
    exact sameF_l0 a hl K m (i + 1) (by omega)
theorem sameF_self {a : List Fate} (hl : a.length ≤ 4294967296) : escrowref25_SameFates a a = some true := by
  unfold escrowref25_SameFates
  rw [if_neg (by simp)]
  simp only [bnd_eq]
  have e : Int.toNat ((a.length : Int) - 0) + 1 = a.length + 1 := by omega
  rw [e, show (0 : Int) = ((0 : Nat) : Int) from rfl, sameF_l0 a hl _ a.length 0 (by omega)]
theorem same_l0 (a : List Cmd) (hl : a.length ≤ 4294967296) (hf : ∀ c ∈ a, c.2.2.1.2.2.1.2.2.2.2.2.2.2.1.length ≤ 4294967296) (K : Unit → Option Bool) : ∀ (m i : Nat), i + m = a.length → escrowlaw25_same_l0 a a K (m + 1) (i : Int) = K ()
  | 0, i, h => by
    unfold escrowlaw25_same_l0
    rw [if_neg (by simp; omega)]
  | m + 1, i, h => by
    unfold escrowlaw25_same_l0
    have hi : i < a.length := by omega
    have g : (0 : Int) ≤ (i : Int) ∧ (i : Int) < (a.length : Int) := ⟨by omega, by omega⟩
    have w : IntKind.wrap .i64 ((i : Int) + 1) = ((i + 1 : Nat) : Int) := by rw [wrap_i64 (by omega) (by omega)]; omega
    rw [if_pos (by simp; omega), if_pos g, if_pos g, w, Int.toNat_natCast]
    have q := hf _ (getD_mem (0, (0, 0, (List.replicate 2 ((List.replicate 32 (0 : Int)) : List (Int))), (List.replicate 2 ((List.replicate 32 (0 : Int)) : List (Int))), 0, 0, ()), (0, 0, (0, 0, 0, 0, (List.replicate 32 (0 : Int)), [], [], [], ()), ()), 0, 0, ()) hi)
    generalize List.getD a i _ = c at q ⊢
    have e1 : eqD (.pair (.int .i64) (.pair (.int .i64) (.pair (.arr 2 (.arr 32 (.int .u8))) (.pair (.arr 2 (.arr 32 (.int .u8))) (.pair (.int .i64) (.pair (.int .i64) .unit)))))) c.2.1 c.2.1 = true := (eqD_iff (t := .pair (.int .i64) (.pair (.int .i64) (.pair (.arr 2 (.arr 32 (.int .u8))) (.pair (.arr 2 (.arr 32 (.int .u8))) (.pair (.int .i64) (.pair (.int .i64) .unit)))))) rfl c.2.1 c.2.1).2 rfl
    have e2 : eqD (.arr 32 (.int .u8)) c.2.2.1.2.2.1.2.2.2.2.1 c.2.2.1.2.2.1.2.2.2.2.1 = true := (eqD_iff (t := .arr 32 (.int .u8)) rfl _ _).2 rfl
    have e3 := sameF_self q
    have ih := same_l0 a hl hf K m (i + 1) (by omega)
    simp only [bnd_eq, bne_self_eq_false, e1, e2, Bool.not_true, Bool.or_self, Bool.false_eq_true, if_false]
    rw [e3, bind_eq]
    simp only [Bool.not_true, Bool.false_eq_true, if_false]
    exact ih
theorem same_self {a : List Cmd} (hl : a.length ≤ 4294967296) (hf : ∀ c ∈ a, c.2.2.1.2.2.1.2.2.2.2.2.2.2.1.length ≤ 4294967296) : escrowlaw25_same a a = some true := by
  unfold escrowlaw25_same
  rw [if_neg (by simp)]
  simp only [bnd_eq]
  have e : Int.toNat ((a.length : Int) - 0) + 1 = a.length + 1 := by omega
  rw [e, show (0 : Int) = ((0 : Nat) : Int) from rfl, same_l0 a hl hf _ a.length 0 (by omega)]

/-! ### what the row says of the arguments -/
abbrev hashT : T := .arr 32 (.int .u8)
abbrev fateT : T := .pair .str (.pair (.int .i64) (.pair (.int .i64) (.pair .str .unit)))
abbrev stepT (e : Nat) : T := .pair (.int .i64) (.pair (.int .i64) (.pair (.int .i64) (.pair (.int .i64) (.pair hashT (.pair .str (.pair .str (.pair (.sl e fateT) .unit)))))))
abbrev worldT : T := .pair (.int .i64) (.pair (.int .i64) (.pair (.arr 2 hashT) (.pair (.arr 2 hashT) (.pair (.int .i64) (.pair (.int .i64) .unit)))))
abbrev cmdT (e : Nat) : T := .pair (.int .i64) (.pair worldT (.pair (.pair (.int .i64) (.pair (.int .i64) (.pair (stepT e) .unit))) (.pair (.int .i64) (.pair (.int .i64) .unit))))
theorem hOk_of {B : TypeId → Nat} {h : List Int} (g : Small B hashT h) : hOk h := ⟨g.1, fun c hc => by
  have := g.2 c hc
  simp only [Small, rng, lo, Sx.hi] at this; omega⟩
theorem fOk_of {B : TypeId → Nat} {f : Fate} (g : Small B fateT f) : fOk f := ⟨g.1.1, g.2.1, g.2.2.2.1.1⟩
theorem sOk_of {B : TypeId → Nat} {e : Nat} {s : Step} (g : Small B (stepT e) s) : sOk s := ⟨g.2.1, g.2.2.1, g.2.2.2.1, hOk_of g.2.2.2.2.1, g.2.2.2.2.2.1.1, g.2.2.2.2.2.2.1.1, fun f hf => fOk_of (g.2.2.2.2.2.2.2.1.2 f hf)⟩
theorem wOk_of {B : TypeId → Nat} {w : Wld} (g : Small B worldT w) : wOk w := ⟨g.1, g.2.1, ⟨g.2.2.1.1, fun h hh => hOk_of (g.2.2.1.2 h hh)⟩, ⟨g.2.2.2.1.1, fun h hh => hOk_of (g.2.2.2.1.2 h hh)⟩, g.2.2.2.2.1, g.2.2.2.2.2.1⟩
theorem cOk_of {B : TypeId → Nat} {e : Nat} {c : Cmd} (g : Small B (cmdT e) c) : cOk c := ⟨wOk_of g.2.1, g.2.2.1.2.1, sOk_of g.2.2.1.2.2.1, g.2.2.2.1, g.2.2.2.2.1⟩
theorem szF_bulk (f : Fate) : szF f ≤ Bulk fateT f := by
  unfold szF
  simp only [Bulk]; omega
theorem sum_le {α : Type} (f g : α → Nat) (h : ∀ x, f x ≤ g x) : ∀ l : List α, (l.map f).sum ≤ (l.map g).sum
  | [] => by simp
  | x :: l => by
    have := sum_le f g h l
    have := h x
    simp only [List.map_cons, List.sum_cons]; omega
theorem szC_bulk (e : Nat) (c : Cmd) : szC c ≤ Bulk (cmdT e) c := by
  unfold szC szS
  have := sum_le szF (Bulk fateT) szF_bulk c.2.2.1.2.2.1.2.2.2.2.2.2.2.1
  simp only [Bulk] at this ⊢; omega
theorem szL_bulk (e e2 : Nat) (l : List Cmd) : szL l ≤ Bulk (.sl e2 (cmdT e)) l := by
  have := sum_le szC (Bulk (cmdT e)) (szC_bulk e) l
  unfold szL
  simp only [Bulk] at this ⊢; omega
theorem fates_le {l : List Cmd} {n : Nat} (hz : szL l ≤ n) : l.length ≤ n ∧ ∀ c ∈ l, c.2.2.1.2.2.1.2.2.2.2.2.2.2.1.length ≤ n := by
  refine ⟨Nat.le_trans (cmds_len l) hz, fun c hc => ?_⟩
  have h1 := sum_ge szC hc
  have h2 := len_le_sum c.2.2.1.2.2.1.2.2.2.2.2.2.2.1
  unfold szL at hz
  unfold szC szS at *
  omega

end Sx
namespace Sx
open Go Go.RowKit

/-! ### Print -/
theorem rprint_l0 (l : List Cmd) (hl : ∀ c ∈ l, cOk c) (hz : szL l ≤ 4194304) (K : List Int → Option (List Int × Int)) : ∀ (m i : Nat) (acc : List Int), i + m = l.length → acc.length + 401 * szL (l.drop i) ≤ 17179869184 →
    escrowref25_Print_l0 l K (m + 1) ((i : Int), acc) = match textS (l.drop i) with | none => some ([], 250) | some t => K (acc ++ t)
  | 0, i, acc, h, _ => by
    unfold escrowref25_Print_l0
    rw [if_neg (by simp; omega), List.drop_eq_nil_of_le (by omega)]
    simp [textS]
  | m + 1, i, acc, h, ha => by
    unfold escrowref25_Print_l0
    have hi : i < l.length := by omega
    have hll := cmds_len l
    rw [if_pos (by simp; omega), if_pos ⟨by omega, by omega⟩, Int.toNat_natCast]
    have hd := drop_consD (0, (0, 0, (List.replicate 2 ((List.replicate 32 (0 : Int)) : List (Int))), (List.replicate 2 ((List.replicate 32 (0 : Int)) : List (Int))), 0, 0, ()), (0, 0, (0, 0, 0, 0, (List.replicate 32 (0 : Int)), [], [], [], ()), ()), 0, 0, ()) hi
    have q1 := hl _ (getD_mem (0, (0, 0, (List.replicate 2 ((List.replicate 32 (0 : Int)) : List (Int))), (List.replicate 2 ((List.replicate 32 (0 : Int)) : List (Int))), 0, 0, ()), (0, 0, (0, 0, 0, 0, (List.replicate 32 (0 : Int)), [], [], [], ()), ()), 0, 0, ()) hi)
    have q2 := sum_ge szC (getD_mem (0, (0, 0, (List.replicate 2 ((List.replicate 32 (0 : Int)) : List (Int))), (List.replicate 2 ((List.replicate 32 (0 : Int)) : List (Int))), 0, 0, ()), (0, 0, (0, 0, 0, 0, (List.replicate 32 (0 : Int)), [], [], [], ()), ()), 0, 0, ()) hi)
    rw [hd] at ha ⊢
    generalize l.getD i _ = c at q1 q2 ha ⊢
    have q3 : szC c ≤ 4294967295 := by unfold szL at hz; omega
    have w : IntKind.wrap .i64 ((i : Int) + 1) = ((i + 1 : Nat) : Int) := by rw [wrap_i64 (by omega) (by omega)]; omega
    obtain ⟨x, e1, e2, e3⟩ := rcmd_r c q1 q3
    rw [e1, bind_eq, e2, w, textS]
    cases hC : cmdV c with
    | none => rfl
    | some ws =>
      have t1 := cmd_tl q1 hC
      have t2 := join_tl ws
      have e : 1 ≤ szC c := by unfold szC szS; omega
      simp only [szL, List.map_cons, List.sum_cons] at ha
      rw [e3 ws hC]
      simp only [Option.isSome_some, Bool.not_true, Bool.false_eq_true, if_false, bnd_eq, Option.bind_some]
      rw [if_pos (by omega), if_pos (by simp only [List.length_append, List.length_cons, List.length_nil]; omega), rprint_l0 l hl hz K m (i + 1) _ (by omega) (by simp only [List.length_append, List.length_cons, List.length_nil, szL]; omega)]
      cases textS (l.drop (i + 1)) with
      | none => rfl
      | some t => simp
theorem rprint_eq {l : List Cmd} (hl : ∀ c ∈ l, cOk c) (hz : szL l ≤ 4194304) : escrowref25_Print l = some (printS l) := by
  unfold escrowref25_Print printS
  simp only [bnd_eq]
  have e : Int.toNat ((l.length : Int) - 0) + 1 = l.length + 1 := by omega
  rw [e, show (0 : Int) = ((0 : Nat) : Int) from rfl, rprint_l0 l hl hz _ l.length 0 [] (by omega) (by simp; omega), List.drop_zero]
  cases hT : textS l with
  | none => rfl
  | some t =>
    have := text_len hl hT
    simp only [List.nil_append]
    rw [rlong_r t (by omega), bind_eq]
    split <;> rfl

theorem escrowlaw25_ScriptPrints_true {B : TypeId → Nat} {e e2 : Nat} (a0 : List Cmd) (a1 : List Int) (a2 : List Int) (h0 : Small B (.sl e2 (cmdT e)) a0) (h1 : Small B .str a1) (h2 : Small B hashT a2) (hb : Bulks [.sl e2 (cmdT e), .str, hashT] (a0, a1, a2, ()) ≤ 1048576) : escrowlaw25_ScriptPrints a0 a1 a2 = some true := by
  have hl : ∀ c ∈ a0, cOk c := fun c hc => cOk_of (h0.2 c hc)
  have hz := szL_bulk e e2 a0
  have hb0 : Bulk (.sl e2 (cmdT e)) a0 ≤ 1048576 ∧ a1.length ≤ 1048576 := by
    simp only [Bulks] at hb
    have : Bulk .str a1 = a1.length + 1 := rfl
    omega
  have hzz : szL a0 ≤ 4194304 := by omega
  have fl := fates_le (n := 4294967296) (show szL a0 ≤ 4294967296 by omega)
  unfold escrowlaw25_ScriptPrints
  rw [head_true, bind_eq, if_neg (by decide), rprint_eq hl hzz, bind_eq, own_eq fl.1 fl.2, bind_eq, print_eq hl hzz, bind_eq, if_pos (by simp), if_pos (by simp), bind_eq, same_self fl.1 fl.2, bind_eq, if_pos rfl, quote_text h1.1 (by omega), bind_eq, rquote_r h1.1 (by omega), bind_eq, if_pos (by simp), hexs_r (hOk_of h2), bind_eq, rhex_r (hOk_of h2), bind_eq]
  simp
end Sx
