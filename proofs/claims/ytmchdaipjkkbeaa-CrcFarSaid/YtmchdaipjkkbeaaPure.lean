/-
  Own work. CRC32C without a program in sight: a step, its powers, tables of what becomes of each bit, and what the printed functions answer.
-/
import Derived.Test.YtmchdaipjkkbeaaDefs
namespace Sx
open Go

abbrev B32 := BitVec 32
def u (v : B32) : Int := (v.toNat : Int)
theorem u_inj {a b : B32} (h : u a = u b) : a = b := BitVec.eq_of_toNat_eq (by unfold u at h; omega)
theorem u_beq (a b : B32) : (u a == u b) = (a == b) := by
  rw [Bool.eq_iff_iff]; simp only [beq_iff_eq]; exact ⟨u_inj, fun h => h ▸ rfl⟩
theorem u_lt (a : B32) : 0 ≤ u a ∧ u a < 4294967296 := by unfold u; have := a.isLt; omega
theorem ofInt_u (a : B32) : BitVec.ofInt 32 (u a) = a := by simp [u]
theorem wrap_u32 {n : Int} (h0 : 0 ≤ n) (h : n < 4294967296) : IntKind.wrap .u32 n = n := by
  simp only [IntKind.wrap, IntKind.bits, IntKind.signed, Bool.false_and, Bool.false_eq_true, if_false]; omega
theorem wrap_i64 {n : Int} (h0 : -9223372036854775808 ≤ n) (h : n < 9223372036854775808) : IntKind.wrap .i64 n = n := by
  simp [IntKind.wrap, IntKind.bits, IntKind.signed]; omega
theorem wrap_u (a : B32) : IntKind.wrap .u32 (u a) = u a := wrap_u32 (u_lt a).1 (u_lt a).2
theorem ixor_u (a b : B32) : ixor .u32 (u a) (u b) = u (a ^^^ b) := by
  unfold ixor; show IntKind.wrap .u32 (BitVec.ofInt 32 (u a) ^^^ BitVec.ofInt 32 (u b)).toNat = _
  rw [ofInt_u, ofInt_u]; exact wrap_u _
theorem iand_u (a b : B32) : iand .u32 (u a) (u b) = u (a &&& b) := by
  unfold iand; show IntKind.wrap .u32 (BitVec.ofInt 32 (u a) &&& BitVec.ofInt 32 (u b)).toNat = _
  rw [ofInt_u, ofInt_u]; exact wrap_u _
theorem ishr_u (a : B32) {n : Nat} (hn : n ≤ 32) : ishr .u32 (u a) n = u (a >>> n) := by
  unfold ishr
  have : min (Int.toNat (n : Int)) (IntKind.bits .u32) = n := by simp [IntKind.bits]; omega
  rw [this]
  simp only [u, BitVec.toNat_ushiftRight, Nat.shiftRight_eq_div_pow]
  rw [Int.fdiv_eq_ediv_of_nonneg _ (Int.le_of_lt (Int.pow_pos (by decide)))]
  simp
theorem ishl_u (a : B32) {n : Nat} (hn : n ≤ 32) : ishl .u32 (u a) n = u (a <<< n) := by
  unfold ishl
  have : min (Int.toNat (n : Int)) (IntKind.bits .u32) = n := by simp [IntKind.bits]; omega
  rw [this]
  simp only [u, IntKind.wrap, IntKind.bits, IntKind.signed, Bool.false_and, Bool.false_eq_true, if_false, BitVec.toNat_shiftLeft, Nat.shiftLeft_eq]
  simp
theorem inot_u (a : B32) : inot .u32 (u a) = u (~~~a) := by
  unfold inot
  show ixor .u32 (IntKind.max .u32) (u a) = _
  have : IntKind.max .u32 = u (BitVec.allOnes 32) := by decide
  rw [this, ixor_u]
  congr 1

/-! ### A step and its powers -/
def poly : B32 := 2197175160#32
def low (x : B32) : Bool := x.getLsbD 0
def step (x : B32) : B32 := (x >>> 1) ^^^ (if low x then poly else 0#32)
theorem low_xor (x y : B32) : low (x ^^^ y) = (low x ^^ low y) := BitVec.getLsbD_xor
theorem xor_mid (a b c : B32) : a ^^^ (b ^^^ c) = b ^^^ (a ^^^ c) := by rw [← BitVec.xor_assoc, ← BitVec.xor_assoc, BitVec.xor_comm a b]
def it : Nat → B32 → B32
  | 0, x => x
  | n + 1, x => it n (step x)
theorem step_xor (x y : B32) : step (x ^^^ y) = step x ^^^ step y := by
  simp only [step, BitVec.ushiftRight_xor_distrib, low_xor]
  cases low x <;> cases low y <;> simp [BitVec.xor_assoc, xor_mid poly] <;> exact BitVec.xor_comm _ _
theorem it_xor : ∀ (n : Nat) (x y : B32), it n (x ^^^ y) = it n x ^^^ it n y
  | 0, _, _ => rfl
  | n + 1, x, y => by simp only [it, step_xor, it_xor n]
theorem it_add : ∀ (m n : Nat) (x : B32), it (m + n) x = it n (it m x)
  | 0, n, x => by simp [it]
  | m + 1, n, x => by rw [Nat.succ_add]; exact it_add m n (step x)
theorem it_zero (n : Nat) : it n 0#32 = 0#32 := by
  have := it_xor n 0#32 0#32
  simp at this; exact this
theorem step_ne {x : B32} (h : step x = 0#32) : x = 0#32 := by
  have h31 : (step x).getLsbD 31 = false := by rw [h]; simp
  unfold step at h h31
  cases hb : low x with
  | true =>
    rw [hb] at h31
    simp at h31
    exact absurd h31 (by decide)
  | false =>
    rw [hb] at h
    simp only [Bool.false_eq_true, if_false, BitVec.xor_zero] at h
    apply BitVec.eq_of_getLsbD_eq
    intro i hi
    rw [BitVec.getLsbD_zero]
    cases i with
    | zero => exact hb
    | succ i =>
      have := congrArg (fun z => z.getLsbD i) h
      simp only [BitVec.getLsbD_ushiftRight, BitVec.getLsbD_zero] at this
      rw [Nat.add_comm]; exact this
theorem it_ne : ∀ (n : Nat) {x : B32}, it n x = 0#32 → x = 0#32
  | 0, _, h => h
  | n + 1, _, h => step_ne (it_ne n h)
theorem it_inj (n : Nat) {x y : B32} (h : it n x = it n y) : x = y := by
  have : it n (x ^^^ y) = 0#32 := by rw [it_xor, h]; simp
  have := it_ne n this
  exact BitVec.xor_eq_zero_iff.1 this
/-- low bits that are zero fall out -/
theorem it_low : ∀ (n : Nat) (x : B32), (∀ i, i < n → x.getLsbD i = false) → it n x = x >>> n
  | 0, x, _ => by simp [it]
  | n + 1, x, h => by
    have h0 : step x = x >>> 1 := by
      have h1 : low x = false := h 0 (by omega)
      simp [step, h1]
    simp only [it, h0]
    rw [it_low n (x >>> 1) (fun i hi => by rw [BitVec.getLsbD_ushiftRight]; exact h (1 + i) (by omega)), ← BitVec.shiftRight_add]
    congr 1; omega
theorem it_split (n : Nat) (x : B32) : it n x = (x >>> n) ^^^ it n (x &&& (BitVec.allOnes 32 >>> (32 - n))) := by
  have key : x = (x &&& ~~~(BitVec.allOnes 32 >>> (32 - n))) ^^^ (x &&& (BitVec.allOnes 32 >>> (32 - n))) := by
    apply BitVec.eq_of_getLsbD_eq; intro i hi
    simp only [BitVec.getLsbD_xor, BitVec.getLsbD_and, BitVec.getLsbD_not]
    cases x.getLsbD i <;> simp [hi]
  conv => lhs; rw [key]
  rw [it_xor]
  congr 1
  rw [it_low]
  · apply BitVec.eq_of_getLsbD_eq; intro i hi
    simp only [BitVec.getLsbD_ushiftRight, BitVec.getLsbD_and, BitVec.getLsbD_not, BitVec.getLsbD_allOnes]
    by_cases h : n + i < 32
    · have : ¬ (32 - n + (n + i) < 32) := by omega
      simp [h, this]
    · have := BitVec.getLsbD_of_ge x (n + i) (by omega)
      simp [this]
  · intro i hi
    simp only [BitVec.getLsbD_and, BitVec.getLsbD_not, BitVec.getLsbD_ushiftRight, BitVec.getLsbD_allOnes]
    by_cases h : i < 32
    · have : 32 - n + i < 32 := by omega
      simp [this]
    · simp [BitVec.getLsbD_of_ge x i (by omega)]

theorem low_test (x : B32) : (iand .u32 (u x) 1 == 1) = low x := by
  have e : (1 : Int) = u 1#32 := rfl
  rw [e, iand_u, u_beq, BitVec.and_one_eq_setWidth_ofBool_getLsbD]
  unfold low
  cases x.getLsbD 0 <;> decide
theorem bit_test (x : B32) {i : Nat} (hi : i < 32) : (iand .u32 (ishr .u32 (u x) i) 1 == 1) = x.getLsbD i := by
  rw [ishr_u x (by omega), low_test]; unfold low; simp

/-! ### The printed functions -/
theorem steps_l0_eq (n : Nat) (hn : n < 4611686018427387904) (k : Int → Option Int) : ∀ (j i : Nat) (x : B32), i + j = n → crc_steps_l0 n k (j + 1) (u x, (i : Int)) = k (u (it j x))
  | 0, i, x, h => by
    simp only [crc_steps_l0]
    rw [if_neg (by simp; omega)]; rfl
  | j + 1, i, x, h => by
    rw [crc_steps_l0]
    simp only [bnd_eq]
    rw [if_pos (by simp; omega), low_test, wrap_i64 (by omega) (by omega)]
    have h1 : ishr .u32 (u x) 1 = u (x >>> 1) := ishr_u x (n := 1) (by omega)
    have h2 : ixor .u32 (u (x >>> 1)) 2197175160 = u (x >>> 1 ^^^ poly) := ixor_u _ poly
    have ih := steps_l0_eq n hn k j (i + 1) (step x) (by omega)
    rw [h1]
    simp only [it]
    rw [show ((i : Int) + 1) = ((i + 1 : Nat) : Int) by omega, ← ih]
    cases hb : low x <;> simp [step, hb, h2]
theorem steps_eq (x : B32) (n : Nat) (hn : n < 4611686018427387904) : crc_steps (u x) n = some (u (it n x)) := by
  simp only [crc_steps, bnd_eq]
  have := steps_l0_eq n hn (fun o => some o) n 0 x (by omega)
  have e : Int.toNat ((n : Int) - 0) + 1 = n + 1 := by omega
  rw [e]; exact this

def halfTab : List Int := (List.range 16).map fun i => u (it 4 (BitVec.ofNat 32 i))
theorem halves_eq : crc_halves = some halfTab := by decide +kernel

theorem half_step (x : B32) : (if 0 ≤ iand .u32 (u x) 15 ∧ iand .u32 (u x) 15 < 16 then some (ixor .u32 (ishr .u32 (u x) 4) (List.getD halfTab (Int.toNat (iand .u32 (u x) 15)) 0)) else none) = some (u (it 4 x)) := by
  have e : iand .u32 (u x) 15 = u (x &&& 15#32) := iand_u x 15#32
  have hlt : (x &&& 15#32).toNat < 16 := by rw [BitVec.toNat_and]; exact Nat.lt_of_le_of_lt Nat.and_le_right (by decide)
  rw [e, if_pos (by unfold u; omega)]
  have e2 : Int.toNat (u (x &&& 15#32)) = (x &&& 15#32).toNat := by unfold u; omega
  have e3 : halfTab.getD (x &&& 15#32).toNat 0 = u (it 4 (x &&& 15#32)) := by
    simp only [halfTab, List.getD, List.getElem?_map, List.getElem?_range hlt, Option.map_some, Option.getD_some]
    simp
  have e4 : ishr .u32 (u x) 4 = u (x >>> 4) := ishr_u x (n := 4) (by omega)
  rw [e2, e3, e4, ixor_u, it_split 4 x]
  rfl

/-- bytes, one after the other -/
def run : B32 → List Int → B32
  | x, [] => x
  | x, c :: r => run (it 8 (x ^^^ BitVec.ofInt 32 c)) r

theorem byte_u {c : Int} (h : 0 ≤ c ∧ c < 256) : IntKind.wrap .u32 c = u (BitVec.ofInt 32 c) := by
  rw [wrap_u32 h.1 (by omega)]
  obtain ⟨n, rfl⟩ := Int.eq_ofNat_of_zero_le h.1
  simp [u]; omega

theorem On_l0_eq (b : List Int) (hb : byteOk b) (hl : b.length < 4611686018427387904) (k : Int → Option Int) : ∀ (j i : Nat) (x : B32), i + j = b.length → crc_On_l0 b halfTab k (j + 1) (u x, (i : Int)) = k (u (run x (b.drop i)))
  | 0, i, x, h => by
    simp only [crc_On_l0]
    rw [if_neg (by simp; omega), List.drop_of_length_le (by omega)]; rfl
  | j + 1, i, x, h => by
    rw [crc_On_l0]
    have hlt : i < b.length := by omega
    rw [if_pos (by simp; omega), if_pos (by constructor <;> omega)]
    have hg : List.getD b (Int.toNat (i : Int)) 0 = b[i] := by simp [List.getD, hlt]
    have hx : ixor .u32 (u x) (IntKind.wrap .u32 b[i]) = u (x ^^^ BitVec.ofInt 32 b[i]) := by
      rw [byte_u (hb _ (List.getElem_mem hlt)), ixor_u]
    have hd : b.drop i = b[i] :: b.drop (i + 1) := List.drop_eq_getElem_cons hlt
    simp only [bnd_eq, hg, hx]
    have s1 := half_step (x ^^^ BitVec.ofInt 32 b[i])
    have s2 := half_step (it 4 (x ^^^ BitVec.ofInt 32 b[i]))
    split at s1
    · rename_i c1
      rw [if_pos c1]
      simp only [Option.some.injEq] at s1
      rw [s1]
      split at s2
      · rename_i c2
        rw [if_pos c2]
        simp only [Option.some.injEq] at s2
        rw [s2, wrap_i64 (by omega) (by omega), show ((i : Int) + 1) = ((i + 1 : Nat) : Int) by omega, On_l0_eq b hb hl k j (i + 1) _ (by omega), hd]
        simp only [run]
        rw [← it_add 4 4]
      · cases s2
    · cases s1

def on (x : B32) (b : List Int) : B32 := ~~~ run (~~~x) b
theorem On_eq (x : B32) (b : List Int) (hb : byteOk b) (hl : b.length < 4611686018427387904) : crc_On (u x) b = some (u (on x b)) := by
  simp only [crc_On, halves_eq, bind_eq, bnd_eq]
  have e : Int.toNat ((b.length : Int) - 0) + 1 = b.length + 1 := by omega
  have := On_l0_eq b hb hl (fun o => some (inot .u32 o)) b.length 0 (~~~x) (by omega)
  rw [e, inot_u]
  simp only [inot_u, List.drop_zero] at this
  exact this
theorem Sum_eq (b : List Int) (hb : byteOk b) (hl : b.length < 4611686018427387904) : crc_Sum b = some (u (on 0#32 b)) := by
  have : crc_On 0 b = some (u (on 0#32 b)) := On_eq 0#32 b hb hl
  simp [crc_Sum, this]

/-! ### The document's -/
theorem Step_eq (x : B32) : escrowref01_Step (u x) = some (u (step x)) := by
  simp only [escrowref01_Step, low_test]
  have h1 : ishr .u32 (u x) 1 = u (x >>> 1) := ishr_u x (n := 1) (by omega)
  have h2 : ixor .u32 (u (x >>> 1)) 2197175160 = u (x >>> 1 ^^^ poly) := ixor_u _ poly
  rw [h1, h2]
  cases hb : low x <;> simp [step, hb]

theorem ref_l1_eq (k : Int → Option Int) : ∀ (j i : Nat) (x : B32), i + j = 8 → escrowref01_On_l1 k (j + 1) (u x, (i : Int)) = k (u (it j x))
  | 0, i, x, h => by
    simp only [escrowref01_On_l1]
    rw [if_neg (by simp; omega)]; rfl
  | j + 1, i, x, h => by
    rw [escrowref01_On_l1]
    rw [if_pos (by simp; omega), Step_eq]
    simp only [bind_eq, bnd_eq, it]
    rw [wrap_i64 (by omega) (by omega), show ((i : Int) + 1) = ((i + 1 : Nat) : Int) by omega, ref_l1_eq k j (i + 1) (step x) (by omega)]

theorem ref_l0_eq (b : List Int) (hb : byteOk b) (hl : b.length < 4611686018427387904) (k : Int → Option Int) : ∀ (j i : Nat) (x : B32), i + j = b.length → escrowref01_On_l0 b k (j + 1) (u x, (i : Int)) = k (u (run x (b.drop i)))
  | 0, i, x, h => by
    simp only [escrowref01_On_l0]
    rw [if_neg (by simp; omega), List.drop_of_length_le (by omega)]; rfl
  | j + 1, i, x, h => by
    rw [escrowref01_On_l0]
    have hlt : i < b.length := by omega
    rw [if_pos (by simp; omega), if_pos (by constructor <;> omega)]
    have hg : List.getD b (Int.toNat (i : Int)) 0 = b[i] := by simp [List.getD, hlt]
    have hx : ixor .u32 (u x) (IntKind.wrap .u32 b[i]) = u (x ^^^ BitVec.ofInt 32 b[i]) := by
      rw [byte_u (hb _ (List.getElem_mem hlt)), ixor_u]
    have hd : b.drop i = b[i] :: b.drop (i + 1) := List.drop_eq_getElem_cons hlt
    simp only [bnd_eq, hg, hx]
    have e : Int.toNat (8 - 0 : Int) + 1 = 8 + 1 := rfl
    have l1 := ref_l1_eq (fun o9 => escrowref01_On_l0 b k (j + 1) (o9, IntKind.wrap .i64 (↑i + 1))) 8 0 (x ^^^ BitVec.ofInt 32 b[i]) (by omega)
    rw [e]
    refine l1.trans ?_
    rw [wrap_i64 (by omega) (by omega), show ((i : Int) + 1) = ((i + 1 : Nat) : Int) by omega, ref_l0_eq b hb hl k j (i + 1) _ (by omega), hd]
    rfl
theorem refOn_eq (x : B32) (b : List Int) (hb : byteOk b) (hl : b.length < 4611686018427387904) : escrowref01_On (u x) b = some (u (on x b)) := by
  simp only [escrowref01_On, bnd_eq]
  have e : Int.toNat ((b.length : Int) - 0) + 1 = b.length + 1 := by omega
  have := ref_l0_eq b hb hl (fun o => some (inot .u32 o)) b.length 0 (~~~x) (by omega)
  rw [e, inot_u]
  simp only [inot_u, List.drop_zero] at this
  exact this
theorem refSum_eq (b : List Int) (hb : byteOk b) (hl : b.length < 4611686018427387904) : escrowref01_Sum b = some (u (on 0#32 b)) := by
  have : escrowref01_On 0 b = some (u (on 0#32 b)) := refOn_eq 0#32 b hb hl
  simp [escrowref01_Sum, this]

/-! ### Tables of what becomes of each bit -/
def tbl (n : Nat) : List Int := (List.range 32).map fun i => u (it n (1#32 <<< i))
theorem tbl_get (n : Nat) {i : Nat} (hi : i < 32) : List.getD (tbl n) i 0 = u (it n (1#32 <<< i)) := by
  simp [tbl, List.getD, List.getElem?_map, List.getElem?_range hi]
theorem top_split (x : B32) {i : Nat} (hi : i < 32) : (x >>> i) <<< i = (if x.getLsbD i then 1#32 <<< i else 0#32) ^^^ (x >>> (i + 1)) <<< (i + 1) := by
  apply BitVec.eq_of_getLsbD_eq; intro j hj
  simp only [BitVec.getLsbD_xor, BitVec.getLsbD_shiftLeft, BitVec.getLsbD_ushiftRight]
  rcases Nat.lt_trichotomy j i with h | h | h
  · have h1 : j < i + 1 := by omega
    cases x.getLsbD i <;> simp [h, h1]
  · subst h
    have h1 : j < j + 1 := by omega
    have e : j + (j - j) = j := by omega
    simp only [hj, e, Nat.lt_irrefl, h1, decide_true, decide_false, Bool.not_false, Bool.not_true, Bool.true_and, Bool.false_and, Bool.and_true, Bool.xor_false]
    cases x.getLsbD j <;> simp [hj]
  · have e1 : i + (j - i) = j := by omega
    have e2 : i + 1 + (j - (i + 1)) = j := by omega
    have h1 : ¬ j < i := by omega
    have h2 : ¬ j < i + 1 := by omega
    have h3 : j - i ≠ 0 := by omega
    cases x.getLsbD i <;> simp [hj, h1, h2, e1, e2, h3]

theorem of_l0_eq (n : Nat) (x : B32) (k : Int → Option Int) : ∀ (j i : Nat) (y : B32), i + j = 32 → crc_turn_of_l0 (tbl n) (u x) k (j + 1) (u y, (i : Int)) = k (u (y ^^^ it n ((x >>> i) <<< i)))
  | 0, i, y, h => by
    simp only [crc_turn_of_l0]
    obtain rfl : i = 32 := by omega
    rw [if_neg (by simp)]
    have : (x >>> 32) <<< 32 = 0#32 := by
      apply BitVec.eq_of_getLsbD_eq; intro j hj; simp [hj]
    rw [this, it_zero]; simp
  | j + 1, i, y, h => by
    have hi : i < 32 := by omega
    rw [crc_turn_of_l0]
    simp only [bnd_eq]
    rw [if_pos (by simp; omega), if_pos (by omega), bit_test x hi, if_pos (c := 0 ≤ (i : Int) ∧ (i : Int) < 32) (by omega)]
    have hg : List.getD (tbl n) (Int.toNat (i : Int)) 0 = u (it n (1#32 <<< i)) := by rw [Int.toNat_natCast]; exact tbl_get n hi
    rw [hg, ixor_u, wrap_i64 (by omega) (by omega), show ((i : Int) + 1) = ((i + 1 : Nat) : Int) by omega, of_l0_eq n x k j (i + 1) _ (by omega), of_l0_eq n x k j (i + 1) _ (by omega)]
    rw [top_split x hi]
    cases x.getLsbD i
    · simp
    · simp only [if_true, it_xor, BitVec.xor_assoc]
theorem of_eq (n : Nat) (x : B32) : crc_turn_of (tbl n) (u x) = some (u (it n x)) := by
  simp only [crc_turn_of, bnd_eq]
  have := of_l0_eq n x (fun o => some o) 32 0 0#32 (by omega)
  refine this.trans ?_
  simp

theorem set_map {m : Nat} (f g : Nat → Int) {i : Nat} (hi : i < m) : List.set ((List.range m).map fun k => if k < i then f k else g k) i (f i) = (List.range m).map fun k => if k < i + 1 then f k else g k := by
  apply List.ext_getElem?
  intro k
  rw [List.getElem?_set]
  simp only [List.length_map, List.length_range, List.getElem?_map]
  by_cases hk : i = k
  · subst hk
    simp [hi]
  · rw [if_neg hk]
    by_cases hkm : k < m
    · rw [List.getElem?_range hkm]
      simp only [Option.map_some, Option.some.injEq]
      by_cases h1 : k < i
      · rw [if_pos h1, if_pos (by omega)]
      · rw [if_neg h1, if_neg (by omega)]
    · rw [List.getElem?_eq_none (by simp; omega)]; rfl

def part (n i : Nat) : List Int := (List.range 32).map fun k => if k < i then u (it n (1#32 <<< k)) else 0
theorem part_zero (n : Nat) : List.replicate 32 (0 : Int) = part n 0 := by simp [part]; rfl
theorem part_all (n : Nat) : part n 32 = tbl n := by
  apply List.map_congr_left; intro k hk; rw [if_pos (by simpa using hk)]
theorem part_set (n : Nat) {i : Nat} (hi : i < 32) : List.set (part n i) (Int.toNat (i : Int)) (u (it n (1#32 <<< i))) = part n (i + 1) := by
  rw [Int.toNat_natCast]; exact set_map (fun k => u (it n (1#32 <<< k))) (fun _ => 0) hi

theorem twice_l0_eq (n : Nat) (k : List Int → Option (List Int)) : ∀ (j i : Nat), i + j = 32 → crc_turn_twice_l0 (tbl n) k (j + 1) ((i : Int), part (n + n) i) = k (tbl (n + n))
  | 0, i, h => by
    obtain rfl : i = 32 := by omega
    simp only [crc_turn_twice_l0]
    rw [if_neg (by simp), part_all]
  | j + 1, i, h => by
    have hi : i < 32 := by omega
    rw [crc_turn_twice_l0]
    rw [if_pos (by simp; omega), if_pos (by omega)]
    have hg : List.getD (tbl n) (Int.toNat (i : Int)) 0 = u (it n (1#32 <<< i)) := by rw [Int.toNat_natCast]; exact tbl_get n hi
    rw [hg, of_eq]
    simp only [bind_eq]
    rw [if_pos (by omega), ← it_add, part_set _ hi, wrap_i64 (by omega) (by omega), show ((i : Int) + 1) = ((i + 1 : Nat) : Int) by omega, twice_l0_eq n k j (i + 1) (by omega)]
theorem twice_eq (n : Nat) : crc_turn_twice (tbl n) = some (tbl (n + n)) := by
  simp only [crc_turn_twice, bnd_eq]
  rw [part_zero (n + n)]
  exact twice_l0_eq n (fun o => some o) 32 0 (by omega)

theorem Join_l1_eq (k : List Int → Option Int) : ∀ (j i : Nat), i + j = 32 → crc_Join_l1 k (j + 1) ((i : Int), part 8 i) = k (tbl 8)
  | 0, i, h => by
    obtain rfl : i = 32 := by omega
    simp only [crc_Join_l1]
    rw [if_neg (by simp), part_all]
  | j + 1, i, h => by
    have hi : i < 32 := by omega
    rw [crc_Join_l1]
    rw [if_pos (by simp; omega), if_pos (by omega)]
    have e : ishl .u32 1 (i : Int) = u (1#32 <<< i) := ishl_u 1#32 (by omega)
    have e8 := steps_eq (1#32 <<< i) 8 (by omega)
    rw [e]
    rw [show ((8 : Nat) : Int) = 8 from rfl] at e8
    rw [e8]
    simp only [bind_eq]
    rw [if_pos (by omega), part_set _ hi, wrap_i64 (by omega) (by omega), show ((i : Int) + 1) = ((i + 1 : Nat) : Int) by omega, Join_l1_eq k j (i + 1) (by omega)]

theorem shr_half (n : Nat) : ishr .i64 (n : Int) 1 = ((n / 2 : Nat) : Int) := by
  unfold ishr
  have : min (Int.toNat 1) (IntKind.bits .i64) = 1 := by decide
  rw [this, Int.fdiv_eq_ediv_of_nonneg _ (by decide)]
  simp
theorem odd_test (n : Nat) : (iand .i64 (n : Int) 1 == 1) = decide (n % 2 = 1) := by
  unfold iand
  show (IntKind.wrap .i64 ((BitVec.ofInt 64 (n : Int) &&& BitVec.ofInt 64 1).toNat : Int) == 1) = _
  have e : (BitVec.ofInt 64 (n : Int) &&& BitVec.ofInt 64 1).toNat = n % 2 := by
    rw [BitVec.toNat_and]
    simp
  rw [e, wrap_i64 (by omega) (by omega)]
  rw [Bool.eq_iff_iff]; simp; omega

/-- the long way: 'f' rounds are enough for n < 2 ^ f -/
theorem Join_l0_eq (k : Int × List Int → Option Int) (z : B32) (hk : ∀ a t, k (a, t) = some (ixor .u32 a (u z))) : ∀ (f n m : Nat) (a : B32), n < 2 ^ f → n < 9223372036854775808 → crc_Join_l0 k (f + 1) (u a, (n : Int), tbl m) = some (u (it (m * n) a ^^^ z))
  | 0, n, m, a, h, _ => by
    obtain rfl : n = 0 := by simpa using h
    simp only [crc_Join_l0]
    rw [if_neg (by simp), hk, ixor_u]; rfl
  | f + 1, n, m, a, h, hb => by
    rw [crc_Join_l0]
    by_cases h0 : n = 0
    · subst h0
      rw [if_neg (by simp), hk, ixor_u]; rfl
    · simp only [bnd_eq]
      rw [if_pos (by simp; omega), odd_test n, twice_eq]
      simp only [bind_eq]
      have e : ishr .i64 (n : Int) 1 = ((n / 2 : Nat) : Int) := shr_half n
      have hlt : n / 2 < 2 ^ f := by rw [Nat.pow_succ] at h; omega
      by_cases ho : n % 2 = 1
      · rw [if_pos (by simpa using ho), of_eq]
        simp only [bind_eq]
        rw [e, Join_l0_eq k z hk f (n / 2) (m + m) _ hlt (by omega), ← it_add]
        congr 4
        have : n = 2 * (n / 2) + 1 := by omega
        have e2 : m * n = m * (2 * (n / 2) + 1) := by rw [← this]
        rw [e2, Nat.mul_add, ← Nat.mul_assoc, Nat.mul_one, Nat.mul_two]; omega
      · rw [if_neg (by simpa using ho), e, Join_l0_eq k z hk f (n / 2) (m + m) _ hlt (by omega)]
        congr 4
        have : n = 2 * (n / 2) := by omega
        have e2 : m * n = m * (2 * (n / 2)) := by rw [← this]
        rw [e2, ← Nat.mul_assoc, Nat.mul_two]

/-! ### The document's joining -/
theorem rof_l0_eq (n : Nat) (x : B32) (k : Int → Option Int) : ∀ (j i : Nat) (y : B32), i + j = 32 → escrowref01_turned_l0 (tbl n) (u x) k (j + 1) (u y, (i : Int)) = k (u (y ^^^ it n ((x >>> i) <<< i)))
  | 0, i, y, h => by
    simp only [escrowref01_turned_l0]
    obtain rfl : i = 32 := by omega
    rw [if_neg (by simp)]
    have : (x >>> 32) <<< 32 = 0#32 := by
      apply BitVec.eq_of_getLsbD_eq; intro j hj; simp [hj]
    rw [this, it_zero]; simp
  | j + 1, i, y, h => by
    have hi : i < 32 := by omega
    rw [escrowref01_turned_l0]
    simp only [bnd_eq]
    rw [if_pos (by simp; omega), if_pos (by omega), bit_test x hi, if_pos (c := 0 ≤ (i : Int) ∧ (i : Int) < 32) (by omega)]
    have hg : List.getD (tbl n) (Int.toNat (i : Int)) 0 = u (it n (1#32 <<< i)) := by rw [Int.toNat_natCast]; exact tbl_get n hi
    rw [hg, ixor_u, wrap_i64 (by omega) (by omega), show ((i : Int) + 1) = ((i + 1 : Nat) : Int) by omega, rof_l0_eq n x k j (i + 1) _ (by omega), rof_l0_eq n x k j (i + 1) _ (by omega)]
    rw [top_split x hi]
    cases x.getLsbD i
    · simp
    · simp only [if_true, it_xor, BitVec.xor_assoc]
theorem rof_eq (n : Nat) (x : B32) : escrowref01_turned (tbl n) (u x) = some (u (it n x)) := by
  simp only [escrowref01_turned, bnd_eq]
  have := rof_l0_eq n x (fun o => some o) 32 0 0#32 (by omega)
  refine this.trans ?_
  simp

theorem rtwice_eq (n : Nat) (s : Int × Int × List Int) (hs : s.2.2 = tbl n) (k : List Int → Option Int) : ∀ (j i : Nat), i + j = 32 → escrowref01_Join_l1 s k (j + 1) ((i : Int), part (n + n) i) = k (tbl (n + n))
  | 0, i, h => by
    obtain rfl : i = 32 := by omega
    simp only [escrowref01_Join_l1]
    rw [if_neg (by simp), part_all]
  | j + 1, i, h => by
    have hi : i < 32 := by omega
    rw [escrowref01_Join_l1, hs]
    rw [if_pos (by simp; omega), if_pos (by omega)]
    have hg : List.getD (tbl n) (Int.toNat (i : Int)) 0 = u (it n (1#32 <<< i)) := by rw [Int.toNat_natCast]; exact tbl_get n hi
    rw [hg, rof_eq]
    simp only [bind_eq, bnd_eq]
    rw [if_pos (by omega), ← it_add, part_set _ hi, wrap_i64 (by omega) (by omega), show ((i : Int) + 1) = ((i + 1 : Nat) : Int) by omega, rtwice_eq n s hs k j (i + 1) (by omega)]

theorem rJoin_l3_eq (k : Int → Option Int) : ∀ (j i : Nat) (x : B32), i + j = 8 → escrowref01_Join_l3 k (j + 1) (u x, (i : Int)) = k (u (it j x))
  | 0, i, x, h => by
    simp only [escrowref01_Join_l3]
    rw [if_neg (by simp; omega)]; rfl
  | j + 1, i, x, h => by
    rw [escrowref01_Join_l3]
    rw [if_pos (by simp; omega), Step_eq]
    simp only [bind_eq, bnd_eq, it]
    rw [wrap_i64 (by omega) (by omega), show ((i : Int) + 1) = ((i + 1 : Nat) : Int) by omega, rJoin_l3_eq k j (i + 1) (step x) (by omega)]

theorem rJoin_l2_eq (k : List Int → Option Int) : ∀ (j i : Nat), i + j = 32 → escrowref01_Join_l2 k (j + 1) ((i : Int), part 8 i) = k (tbl 8)
  | 0, i, h => by
    obtain rfl : i = 32 := by omega
    simp only [escrowref01_Join_l2]
    rw [if_neg (by simp), part_all]
  | j + 1, i, h => by
    have hi : i < 32 := by omega
    rw [escrowref01_Join_l2]
    rw [if_pos (by simp; omega), if_pos (by omega)]
    have e : ishl .u32 1 (i : Int) = u (1#32 <<< i) := ishl_u 1#32 (by omega)
    simp only [bnd_eq]
    rw [e]
    refine (rJoin_l3_eq _ 8 0 _ (by omega)).trans ?_
    rw [if_pos (by omega), part_set _ hi, wrap_i64 (by omega) (by omega), show ((i : Int) + 1) = ((i + 1 : Nat) : Int) by omega, rJoin_l2_eq k j (i + 1) (by omega)]

/-- joining: so many bytes' steps, and the second number laid over -/
def join (a b : B32) (n : Int) : B32 := it (8 * n.toNat) a ^^^ b
theorem Join_pos (a b : B32) (k : Int × List Int → Option Int) (hk : ∀ a t, k (a, t) = some (ixor .u32 a (u b))) (m : Nat) (hm : m < 9223372036854775808) : crc_Join_l0 k 65 (u a, (m : Int), tbl 8) = some (u (join a b m)) := by
  have h := Join_l0_eq k b hk 64 m 8 a (Nat.lt_trans hm (by decide)) hm
  unfold join
  rw [Int.toNat_natCast]
  exact h
theorem Join_neg (a b : B32) (k : Int × List Int → Option Int) (hk : ∀ a t, k (a, t) = some (ixor .u32 a (u b))) (n : Int) (hn : n < 0) (f : Nat) (t : List Int) : crc_Join_l0 k (f + 1) (u a, n, t) = some (u (join a b n)) := by
  simp only [crc_Join_l0]
  rw [if_neg (by simp; omega), hk, ixor_u]
  have : n.toNat = 0 := by omega
  simp [join, this, it]
theorem Join_eq (a b : B32) (n : Int) (hn : rng .i64 n) : crc_Join (u a) (u b) n = some (u (join a b n)) := by
  simp only [crc_Join, bnd_eq]
  rw [part_zero 8]
  refine (Join_l1_eq _ 32 0 (by omega)).trans ?_
  simp only [rng, lo, hi] at hn
  by_cases h0 : 0 ≤ n
  · obtain ⟨m, rfl⟩ := Int.eq_ofNat_of_zero_le h0
    exact Join_pos a b _ (fun _ _ => rfl) m (by omega)
  · exact Join_neg a b _ (fun _ _ => rfl) n (by omega) 64 _

theorem rtw (m : Nat) (s : Int × Int × List Int) (hs : s.2.2 = tbl m) (k : List Int → Option Int) : escrowref01_Join_l1 s k (Int.toNat (32 - 0 : Int) + 1) (0, List.replicate 32 0) = k (tbl (m + m)) := by
  rw [part_zero (m + m)]
  exact rtwice_eq m s hs k 32 0 (by omega)
theorem half_div (n : Nat) (h : n < 9223372036854775808) : IntKind.wrap .i64 (Int.tdiv (n : Int) 2) = ((n / 2 : Nat) : Int) := by
  have : Int.tdiv (n : Int) 2 = ((n / 2 : Nat) : Int) := rfl
  rw [this, wrap_i64 (by omega) (by omega)]
theorem odd_rem (n : Nat) : (Int.tmod (n : Int) 2 == 1) = decide (n % 2 = 1) := by
  have htm : Int.tmod (n : Int) 2 = ((n % 2 : Nat) : Int) := rfl
  rw [htm, Bool.eq_iff_iff]; simp; omega
theorem rJoin_l0_eq (k : Int × List Int → Option Int) (z : B32) (hk : ∀ a t, k (a, t) = some (ixor .u32 a (u z))) (f : Nat) : ∀ (n m : Nat) (a : B32), n < 2 ^ f → n < 9223372036854775808 → escrowref01_Join_l0 k (f + 1) (u a, (n : Int), tbl m) = some (u (it (m * n) a ^^^ z)) := by
  induction f with
  | zero =>
    intro n m a h _
    obtain rfl : n = 0 := by simpa using h
    simp only [escrowref01_Join_l0]
    rw [if_neg (by simp), hk, ixor_u]; rfl
  | succ f ih =>
    intro n m a h hb
    rw [escrowref01_Join_l0]
    by_cases h0 : n = 0
    · subst h0
      rw [if_neg (by simp), hk, ixor_u]; rfl
    · simp only [bnd_eq]
      rw [if_pos (by simp; omega), odd_rem n, rtw m _ rfl, half_div n hb]
      have hlt : n / 2 < 2 ^ f := by rw [Nat.pow_succ] at h; omega
      by_cases ho : n % 2 = 1
      · rw [if_pos (by simpa using ho), rof_eq]
        simp only [bind_eq]
        rw [rtw m _ rfl, ih (n / 2) (m + m) _ hlt (by omega), ← it_add]
        congr 4
        have : n = 2 * (n / 2) + 1 := by omega
        have e2 : m * n = m * (2 * (n / 2) + 1) := by rw [← this]
        rw [e2, Nat.mul_add, ← Nat.mul_assoc, Nat.mul_one, Nat.mul_two]; omega
      · rw [if_neg (by simpa using ho), ih (n / 2) (m + m) _ hlt (by omega)]
        congr 4
        have : n = 2 * (n / 2) := by omega
        have e2 : m * n = m * (2 * (n / 2)) := by rw [← this]
        rw [e2, ← Nat.mul_assoc, Nat.mul_two]
theorem rJoin_pos (a b : B32) (k : Int × List Int → Option Int) (hk : ∀ a t, k (a, t) = some (ixor .u32 a (u b))) (m : Nat) (hm : m < 9223372036854775808) : escrowref01_Join_l0 k 65 (u a, (m : Int), tbl 8) = some (u (join a b m)) := by
  have h := rJoin_l0_eq k b hk 64 m 8 a (Nat.lt_trans hm (by decide)) hm
  unfold join
  rw [Int.toNat_natCast]
  exact h
theorem rJoin_neg (a b : B32) (k : Int × List Int → Option Int) (hk : ∀ a t, k (a, t) = some (ixor .u32 a (u b))) (n : Int) (hn : n < 0) (f : Nat) (t : List Int) : escrowref01_Join_l0 k (f + 1) (u a, n, t) = some (u (join a b n)) := by
  simp only [escrowref01_Join_l0]
  rw [if_neg (by simp; omega), hk, ixor_u]
  have : n.toNat = 0 := by omega
  simp [join, this, it]
theorem rJoin_eq (a b : B32) (n : Int) (hn : rng .i64 n) : escrowref01_Join (u a) (u b) n = some (u (join a b n)) := by
  simp only [escrowref01_Join, bnd_eq]
  rw [part_zero 8]
  refine (rJoin_l2_eq _ 32 0 (by omega)).trans ?_
  simp only [rng, lo, hi] at hn
  by_cases h0 : 0 ≤ n
  · obtain ⟨m, rfl⟩ := Int.eq_ofNat_of_zero_le h0
    exact rJoin_pos a b _ (fun _ _ => rfl) m (by omega)
  · exact rJoin_neg a b _ (fun _ _ => rfl) n (by omega) 64 _

/-! ### The laws -/
theorem first_eq : escrowlaw01_first = some true := by
  have hs : byteOk [49, 50, 51, 52, 53, 54, 55, 56, 57] := by unfold byteOk; decide
  have hb : byteOk [98, 99] := by unfold byteOk; decide
  have e1 := Sum_eq [49, 50, 51, 52, 53, 54, 55, 56, 57] hs (by decide)
  have e2 : crc_On 3251651376 [98, 99] = some (u (on 3251651376#32 [98, 99])) := On_eq 3251651376#32 [98, 99] hb (by decide)
  have e3 : crc_Join 1 0 1 = some (u (join 1#32 0#32 1)) := Join_eq 1#32 0#32 1 (by simp [rng, lo, hi])
  have f1 : (u (on 0#32 [49, 50, 51, 52, 53, 54, 55, 56, 57]) == 3808858755) = true := by decide +kernel
  have f2 : (u (on 3251651376#32 [98, 99]) == 910901175) = true := by decide +kernel
  have f3 : (u (join 1#32 0#32 1) == 4067132163) = true := by decide +kernel
  unfold escrowlaw01_first
  simp only [bnd_eq, e1, e2, e3, bind_eq, f1, f2, f3, if_true]

theorem of_u32 {x : Int} (h : rng .u32 x) : ∃ v : B32, x = u v := by
  simp only [rng, lo, hi] at h
  obtain ⟨n, rfl⟩ := Int.eq_ofNat_of_zero_le h.1
  exact ⟨BitVec.ofNat 32 n, by simp [u]; omega⟩

theorem escrowlaw01_CrcSums_true (a0 : Int) (a1 : List Int) (h0 : rng .u32 a0) (h1 : byteOk a1 ∧ List.length a1 ≤ 140737488351232) : escrowlaw01_CrcSums a0 a1 = some true := by
  obtain ⟨x, rfl⟩ := of_u32 h0
  have hl : a1.length < 4611686018427387904 := by have := h1.2; omega
  unfold escrowlaw01_CrcSums
  simp only [bnd_eq, Sum_eq a1 h1.1 hl, On_eq x a1 h1.1 hl, refSum_eq a1 h1.1 hl, refOn_eq x a1 h1.1 hl, first_eq, bind_eq, beq_self_eq_true, Bool.and_self, if_true]

theorem escrowlaw01_CrcJoins_true (a0 a1 a2 : Int) (h0 : rng .u32 a0) (h1 : rng .u32 a1) (h2 : rng .i64 a2) : escrowlaw01_CrcJoins a0 a1 a2 = some true := by
  obtain ⟨x, rfl⟩ := of_u32 h0
  obtain ⟨y, rfl⟩ := of_u32 h1
  unfold escrowlaw01_CrcJoins
  simp only [bnd_eq, Join_eq x y a2 h2, rJoin_eq x y a2 h2, first_eq, bind_eq, beq_self_eq_true, if_true]

theorem run_app : ∀ (a b : List Int) (x : B32), run x (a ++ b) = run (run x a) b
  | [], _, _ => rfl
  | c :: a, b, x => by simp only [List.cons_append, run]; exact run_app a b _
theorem run_xor : ∀ (b : List Int) (x y : B32), run (x ^^^ y) b = run x b ^^^ it (8 * b.length) y
  | [], x, y => rfl
  | c :: b, x, y => by
    simp only [run, List.length_cons]
    have e : x ^^^ y ^^^ BitVec.ofInt 32 c = (x ^^^ BitVec.ofInt 32 c) ^^^ y := by rw [BitVec.xor_assoc, BitVec.xor_comm y, ← BitVec.xor_assoc]
    rw [e, it_xor, run_xor b, Nat.mul_add, Nat.add_comm (8 * b.length), it_add]
theorem not_xor (x : B32) : ~~~x = x ^^^ BitVec.allOnes 32 := BitVec.xor_allOnes.symm
/-- a text behind another -/
theorem on_join (x : B32) (b : List Int) : on x b = join x (on 0#32 b) (b.length : Int) := by
  have : ~~~x = ~~~(0#32) ^^^ x := by rw [not_xor, not_xor, BitVec.zero_xor, BitVec.xor_comm]
  unfold on join
  rw [this, run_xor, Int.toNat_natCast, not_xor (_ ^^^ _), not_xor (run _ _), BitVec.xor_comm (run _ _), BitVec.xor_assoc]
theorem on_on (x : B32) (a b : List Int) : on (on x a) b = on x (a ++ b) := by
  unfold on; rw [run_app]; simp
theorem join_join (x y z : B32) (m n : Nat) : join (join x y m) z n = join x (join y z n) ((m + n : Nat) : Int) := by
  unfold join
  simp only [Int.toNat_natCast]
  rw [it_xor, ← it_add, Nat.mul_add, BitVec.xor_assoc]

theorem escrowlaw01_CrcParts_true (a b c : List Int) (h0 : byteOk a ∧ List.length a ≤ 140737488351232) (h1 : byteOk b ∧ List.length b ≤ 140737488351232) (h2 : byteOk c ∧ List.length c ≤ 140737488351232) : escrowlaw01_CrcParts a b c = some true := by
  obtain ⟨ha, la⟩ := h0
  obtain ⟨hb, lb⟩ := h1
  obtain ⟨hc, lc⟩ := h2
  have hbc : byteOk (b ++ c) := fun x hx => by rcases List.mem_append.1 hx with h | h; exact hb x h; exact hc x h
  have habc : byteOk (a ++ b ++ c) := fun x hx => by
    rcases List.mem_append.1 hx with h | h
    · rcases List.mem_append.1 h with h | h; exact ha x h; exact hb x h
    · exact hc x h
  have hw : IntKind.wrap .i64 ((b.length : Int) + (c.length : Int)) = ((b.length + c.length : Nat) : Int) := by rw [wrap_i64 (by omega) (by omega)]; omega
  have hn : ∀ n : Nat, n ≤ 281474976702464 → rng .i64 (n : Int) := fun n hn => by simp only [rng, lo, hi]; omega
  have e0 : (0 : Int) = u 0#32 := rfl
  have hnil : byteOk [] := by intro x hx; simp at hx
  have j0 : ∀ x : B32, crc_Join (u x) 0 0 = some (u (join x 0#32 0)) := fun x => Join_eq x 0#32 0 (by simp [rng, lo, hi])
  have k1 : ∀ x, on (on x b) c = on x (b ++ c) := fun x => on_on x b c
  have k2 : on (on 0#32 a) (b ++ c) = on 0#32 (a ++ b ++ c) := by rw [on_on, List.append_assoc]
  have k3 : join (join (on 0#32 a) (on 0#32 b) b.length) (on 0#32 c) c.length = on 0#32 (a ++ b ++ c) := by
    rw [← on_join, ← on_join, on_on, on_on, List.append_assoc]
  have k4 : join (on 0#32 a) (join (on 0#32 b) (on 0#32 c) c.length) ((b.length + c.length : Nat) : Int) = on 0#32 (a ++ b ++ c) := by
    rw [← join_join]; exact k3
  have k5 : ∀ x : B32, on x [] = x := fun x => by unfold on; simp [run]
  have k6 : ∀ x : B32, join x 0#32 0 = x := fun x => by unfold join; simp [it]
  unfold escrowlaw01_CrcParts
  simp only [bnd_eq, first_eq, bind_eq, Bool.not_true, Bool.false_eq_true, if_false]
  rw [if_pos (by simp only [most]; omega), if_pos (by simp only [most, List.length_append]; omega)]
  simp only [Sum_eq _ habc (by simp only [List.length_append]; omega), Sum_eq a ha (by omega), Sum_eq b hb (by omega), Sum_eq c hc (by omega), bind_eq, Join_eq _ _ _ (hn b.length (by omega)), Join_eq _ _ _ (hn c.length (by omega)), hw,
    Join_eq _ _ _ (hn (b.length + c.length) (by omega)), On_eq _ b hb (by omega), On_eq _ c hc (by omega), k1, k2, k3, k4, beq_self_eq_true, if_true]
  rw [if_pos (by simp only [most]; omega)]
  simp only [On_eq _ _ hbc (by simp only [List.length_append]; omega), bind_eq, k2, beq_self_eq_true, if_true, On_eq _ _ hnil (by decide), k5, j0, k6]
  rfl

theorem escrowlaw01_CrcFar_true (a0 a1 a2 : Int) (h0 : rng .u32 a0) (_h1 : rng .i64 a1) (_h2 : rng .i64 a2) : escrowlaw01_CrcFar a0 a1 a2 = some true := by
  obtain ⟨x, rfl⟩ := of_u32 h0
  have mask : ∀ n : Int, ∃ m : Nat, m < 4611686018427387904 ∧ iand .i64 n 4611686018427387903 = (m : Int) := by
    intro n
    have hlt : (BitVec.ofInt 64 n &&& BitVec.ofInt 64 4611686018427387903).toNat < 4611686018427387904 := by
      rw [BitVec.toNat_and]
      exact Nat.lt_of_le_of_lt Nat.and_le_right (by decide)
    refine ⟨_, hlt, ?_⟩
    unfold iand
    show IntKind.wrap .i64 ((BitVec.ofInt 64 n &&& BitVec.ofInt 64 4611686018427387903).toNat : Int) = _
    exact wrap_i64 (by omega) (by omega)
  obtain ⟨n, hn, en⟩ := mask a1
  obtain ⟨m, hm, em⟩ := mask a2
  have j : ∀ (z : B32) (k : Nat), k < 9223372036854775808 → crc_Join (u z) 0 k = some (u (it (8 * k) z)) := fun z k hk => by
    have : crc_Join (u z) 0 k = some (u (join z 0#32 k)) := Join_eq z 0#32 k (by simp only [rng, lo, hi]; omega)
    rw [this]; simp [join]
  unfold escrowlaw01_CrcFar
  simp only [bnd_eq, first_eq, bind_eq, Bool.not_true, Bool.false_eq_true, if_false, en, em]
  have hw : IntKind.wrap .i64 ((n : Int) + (m : Int)) = ((n + m : Nat) : Int) := by rw [wrap_i64 (by omega) (by omega)]; omega
  have c1 : it (8 * m) (it (8 * n) x) = it (8 * (n + m)) x := by rw [← it_add, Nat.mul_add]
  have c2 : it (8 * n) (it (8 * m) x) = it (8 * (n + m)) x := by rw [← it_add, Nat.mul_add, Nat.add_comm]
  simp only [j _ n (by omega), j _ m (by omega), bind_eq, hw, j _ (n + m) (by omega), c1, c2, beq_self_eq_true, Bool.and_self, Bool.true_and]
  have hz : ∀ z : B32, (u z == 0) = (z == 0#32) := fun z => u_beq z 0#32
  simp only [hz, Option.some.injEq, beq_iff_eq]
  rw [Bool.eq_iff_iff]; simp only [beq_iff_eq]
  exact ⟨fun h => it_ne _ h, fun h => by rw [h]; exact it_zero _⟩

/-! ### Texts laid over one another -/
theorem byte_bv (c : Int) (h : 0 ≤ c ∧ c < 256) : ∃ v : BitVec 8, c = (v.toNat : Int) ∧ BitVec.ofInt 32 c = v.setWidth 32 := by
  obtain ⟨n, rfl⟩ := Int.eq_ofNat_of_zero_le h.1
  refine ⟨BitVec.ofNat 8 n, by simp; omega, ?_⟩
  apply BitVec.eq_of_toNat_eq
  simp; omega
theorem ixor_byte {a b : Int} (ha : 0 ≤ a ∧ a < 256) (hb : 0 ≤ b ∧ b < 256) : 0 ≤ ixor .u8 a b ∧ ixor .u8 a b < 256 ∧ BitVec.ofInt 32 (ixor .u8 a b) = BitVec.ofInt 32 a ^^^ BitVec.ofInt 32 b := by
  obtain ⟨x, rfl, ex⟩ := byte_bv a ha
  obtain ⟨y, rfl, ey⟩ := byte_bv b hb
  have e : ixor .u8 (x.toNat : Int) (y.toNat : Int) = ((x ^^^ y).toNat : Int) := by
    unfold ixor
    show IntKind.wrap .u8 (BitVec.ofInt 8 x.toNat ^^^ BitVec.ofInt 8 y.toNat).toNat = _
    have e1 : ∀ z : BitVec 8, BitVec.ofInt 8 (z.toNat : Int) = z := fun z => by simp
    rw [e1, e1]
    have := (x ^^^ y).isLt
    simp only [IntKind.wrap, IntKind.bits, IntKind.signed, Bool.false_and, Bool.false_eq_true, if_false]; omega
  have hlt := (x ^^^ y).isLt
  refine ⟨by rw [e]; omega, by rw [e]; omega, ?_⟩
  rw [e, ex, ey]
  have : BitVec.ofInt 32 ((x ^^^ y).toNat : Int) = (x ^^^ y).setWidth 32 := by
    apply BitVec.eq_of_toNat_eq
    simp
  rw [this, BitVec.setWidth_xor]

theorem run_three : ∀ (a b c d : List Int) (x y z : B32), a.length = d.length → b.length = d.length → c.length = d.length →
    (∀ i, i < d.length → BitVec.ofInt 32 (d.getD i 0) = BitVec.ofInt 32 (a.getD i 0) ^^^ BitVec.ofInt 32 (b.getD i 0) ^^^ BitVec.ofInt 32 (c.getD i 0)) → run x a ^^^ run y b ^^^ run z c = run (x ^^^ y ^^^ z) d
  | [], [], [], [], _, _, _, _, _, _, _ => rfl
  | p :: a, q :: b, r :: c, s :: d, x, y, z, h1, h2, h3, h => by
    have h0 := h 0 (by simp)
    simp only [List.getD_cons_zero] at h0
    simp only [run]
    rw [run_three a b c d _ _ _ (by simpa using h1) (by simpa using h2) (by simpa using h3) (fun i hi => by simpa using h (i + 1) (by simpa using hi)), h0, ← it_xor, ← it_xor]
    congr 2
    ac_rfl
  | [], _, _, _ :: _, _, _, _, h, _, _, _ => by simp at h
  | _ :: _, _, _, [], _, _, _, h, _, _, _ => by simp at h
  | _, [], _, _ :: _, _, _, _, _, h, _, _ => by simp at h
  | _, _ :: _, _, [], _, _, _, _, h, _, _ => by simp at h
  | _, _, [], _ :: _, _, _, _, _, _, h, _ => by simp at h
  | _, _, _ :: _, [], _, _, _, _, _, h, _ => by simp at h

def lin (a b c : List Int) (n : Nat) : List Int := (List.range n).map fun i => ixor .u8 (ixor .u8 (a.getD i 0) (b.getD i 0)) (c.getD i 0)
theorem lin_l0 (a b c : List Int) (N : Nat) (ha : N ≤ a.length) (hb : N ≤ b.length) (hc : N ≤ c.length) (hN : N ≤ 140737488351232) (k : List Int → Option Bool) : ∀ (j i : Nat), i + j = N →
    escrowlaw01_CrcLinear_l0 a b c (N : Int) k (j + 1) ((i : Int), lin a b c i) = k (lin a b c N)
  | 0, i, h => by
    obtain rfl : i = N := by omega
    simp only [escrowlaw01_CrcLinear_l0]
    rw [if_neg (by simp)]
  | j + 1, i, h => by
    rw [escrowlaw01_CrcLinear_l0]
    have hl : (lin a b c i).length = i := by simp [lin]
    rw [if_pos (by simp; omega), if_pos (by omega), if_pos (by omega), if_pos (by omega), if_pos (by simp only [hl, List.length_singleton]; omega), Int.toNat_natCast, bnd_eq, wrap_i64 (by omega) (by omega), show ((i : Int) + 1) = ((i + 1 : Nat) : Int) by omega]
    have : lin a b c i ++ [ixor .u8 (ixor .u8 (a.getD i 0) (b.getD i 0)) (c.getD i 0)] = lin a b c (i + 1) := by
      simp [lin, List.range_succ]
    rw [this, lin_l0 a b c N ha hb hc hN k j (i + 1) (by omega)]
theorem getD_byte {a : List Int} (h : byteOk a) (i : Nat) : 0 ≤ a.getD i 0 ∧ a.getD i 0 < 256 := by
  rcases Nat.lt_or_ge i a.length with g | g
  · have : a.getD i 0 = a[i] := by simp [List.getD, g]
    rw [this]; exact h _ (List.getElem_mem g)
  · have : a.getD i 0 = 0 := by simp [List.getD, List.getElem?_eq_none g]
    rw [this]; omega
theorem lin_byte {a b c : List Int} (ha : byteOk a) (hb : byteOk b) (hc : byteOk c) (n : Nat) : byteOk (lin a b c n) := by
  intro x hx
  simp only [lin, List.mem_map] at hx
  obtain ⟨i, _, rfl⟩ := hx
  have h1 := ixor_byte (getD_byte ha i) (getD_byte hb i)
  have h2 := ixor_byte ⟨h1.1, h1.2.1⟩ (getD_byte hc i)
  exact ⟨h2.1, h2.2.1⟩
theorem byte_take {a : List Int} (ha : byteOk a) (n : Nat) : byteOk (a.take n) := fun x hx => ha x (List.mem_of_mem_take hx)
theorem lin_sum {a b c : List Int} (ha : byteOk a) (hb : byteOk b) (hc : byteOk c) (N : Nat) (la : N ≤ a.length) (lb : N ≤ b.length) (lc : N ≤ c.length) :
    on 0#32 (a.take N) ^^^ on 0#32 (b.take N) ^^^ on 0#32 (c.take N) = on 0#32 (lin a b c N) := by
  unfold on
  have hll : (lin a b c N).length = N := by simp [lin]
  have := run_three (a.take N) (b.take N) (c.take N) (lin a b c N) (~~~(0#32)) (~~~(0#32)) (~~~(0#32)) (by rw [hll]; simp; omega) (by rw [hll]; simp; omega) (by rw [hll]; simp; omega) (fun i hi => by
    rw [hll] at hi
    have e : ∀ l : List Int, N ≤ l.length → (l.take N).getD i 0 = l.getD i 0 := fun l hl => by simp [List.getD, hi]
    rw [e a la, e b lb, e c lc]
    have h1 := ixor_byte (getD_byte ha i) (getD_byte hb i)
    have h2 := ixor_byte ⟨h1.1, h1.2.1⟩ (getD_byte hc i)
    have : (lin a b c N).getD i 0 = ixor .u8 (ixor .u8 (a.getD i 0) (b.getD i 0)) (c.getD i 0) := by
      simp [lin, List.getD, List.getElem?_map, List.getElem?_range hi]
    rw [this, h2.2.2, h1.2.2])
  have e : ~~~(0#32) ^^^ ~~~(0#32) ^^^ ~~~(0#32) = ~~~(0#32) := by decide
  rw [e] at this
  rw [← this]
  generalize run (~~~(0#32)) (a.take N) = A
  generalize run (~~~(0#32)) (b.take N) = B
  generalize run (~~~(0#32)) (c.take N) = C
  rw [not_xor A, not_xor B, not_xor C, not_xor (A ^^^ B ^^^ C)]
  have e2 : BitVec.allOnes 32 ^^^ BitVec.allOnes 32 = 0#32 := by decide
  have : ∀ x y z o : B32, o ^^^ o = 0#32 → x ^^^ o ^^^ (y ^^^ o) ^^^ (z ^^^ o) = x ^^^ y ^^^ z ^^^ o := by
    intro x y z o ho
    have e : x ^^^ o ^^^ (y ^^^ o) ^^^ (z ^^^ o) = x ^^^ y ^^^ z ^^^ o ^^^ (o ^^^ o) := by ac_rfl
    rw [e, ho, BitVec.xor_zero]
  exact this _ _ _ _ e2

theorem escrowlaw01_CrcLinear_true (a b c : List Int) (h0 : byteOk a ∧ List.length a ≤ 140737488351232) (h1 : byteOk b ∧ List.length b ≤ 140737488351232) (h2 : byteOk c ∧ List.length c ≤ 140737488351232) : escrowlaw01_CrcLinear a b c = some true := by
  obtain ⟨ha, la⟩ := h0
  obtain ⟨hb, lb⟩ := h1
  obtain ⟨hc, lc⟩ := h2
  have fin : ∀ N : Nat, N ≤ a.length → N ≤ b.length → N ≤ c.length → escrowlaw01_CrcLinear_l0 a b c (N : Int) (fun o9 => if 0 ≤ (0 : Int) ∧ (0 : Int) ≤ (N : Int) ∧ (N : Int) ≤ (List.length a : Int) then ((crc_Sum (List.drop 0 (List.take (Int.toNat (N : Int)) a))).bind fun (r11 : Int) => if 0 ≤ (0 : Int) ∧ (0 : Int) ≤ (N : Int) ∧ (N : Int) ≤ (List.length b : Int) then ((crc_Sum (List.drop 0 (List.take (Int.toNat (N : Int)) b))).bind fun (r12 : Int) => if 0 ≤ (0 : Int) ∧ (0 : Int) ≤ (N : Int) ∧ (N : Int) ≤ (List.length c : Int) then ((crc_Sum (List.drop 0 (List.take (Int.toNat (N : Int)) c))).bind fun (r13 : Int) => (crc_Sum o9).bind fun (r14 : Int) => some ((ixor .u32 (ixor .u32 r11 r12) r13) == r14)) else none) else none) else none) (Int.toNat ((N : Int) - 0) + 1) (0, []) = some true := by
    intro N na nb nc
    have e : Int.toNat ((N : Int) - 0) + 1 = N + 1 := by omega
    have := lin_l0 a b c N na nb nc (by omega) (fun o9 => if 0 ≤ (0 : Int) ∧ (0 : Int) ≤ (N : Int) ∧ (N : Int) ≤ (List.length a : Int) then ((crc_Sum (List.drop 0 (List.take (Int.toNat (N : Int)) a))).bind fun (r11 : Int) => if 0 ≤ (0 : Int) ∧ (0 : Int) ≤ (N : Int) ∧ (N : Int) ≤ (List.length b : Int) then ((crc_Sum (List.drop 0 (List.take (Int.toNat (N : Int)) b))).bind fun (r12 : Int) => if 0 ≤ (0 : Int) ∧ (0 : Int) ≤ (N : Int) ∧ (N : Int) ≤ (List.length c : Int) then ((crc_Sum (List.drop 0 (List.take (Int.toNat (N : Int)) c))).bind fun (r13 : Int) => (crc_Sum o9).bind fun (r14 : Int) => some ((ixor .u32 (ixor .u32 r11 r12) r13) == r14)) else none) else none) else none) N 0 (by omega)
    rw [e]
    refine this.trans ?_
    simp only [List.drop_zero, Int.toNat_natCast]
    rw [if_pos (by omega), Sum_eq _ (byte_take ha N) (by simp; omega), bind_eq, if_pos (by omega), Sum_eq _ (byte_take hb N) (by simp; omega), bind_eq, if_pos (by omega), Sum_eq _ (byte_take hc N) (by simp; omega), bind_eq]
    simp only [Sum_eq _ (lin_byte ha hb hc N) (by simp [lin]; omega), bind_eq, ixor_u, lin_sum ha hb hc N na nb nc, beq_self_eq_true]
  unfold escrowlaw01_CrcLinear
  simp only [bnd_eq, first_eq, bind_eq, Bool.not_true, Bool.false_eq_true, if_false]
  by_cases c1 : (b.length : Int) < (a.length : Int)
  · rw [if_pos (by simpa using c1)]
    by_cases c2 : (c.length : Int) < (b.length : Int)
    · rw [if_pos (by simpa using c2)]; exact fin c.length (by omega) (by omega) (by omega)
    · rw [if_neg (by simpa using c2)]; exact fin b.length (by omega) (by omega) (by omega)
  · rw [if_neg (by simpa using c1)]
    by_cases c2 : (c.length : Int) < (a.length : Int)
    · rw [if_pos (by simpa using c2)]; exact fin c.length (by omega) (by omega) (by omega)
    · rw [if_neg (by simpa using c2)]; exact fin a.length (by omega) (by omega) (by omega)

/-! ### At most four bytes in a row -/
theorem run_two : ∀ (q xs : List Int) (s t : B32), q.length = xs.length → byteOk q → byteOk xs → run (s ^^^ t) (List.zipWith (ixor .u8) q xs) = run s q ^^^ run t xs
  | [], [], _, _, _, _, _ => rfl
  | q :: qs, x :: xs, s, t, h, hq, hx => by
    simp only [List.zipWith_cons_cons, run]
    have hb := ixor_byte (hq q (by simp)) (hx x (by simp))
    rw [hb.2.2, ← run_two qs xs _ _ (by simpa using h) (fun c hc => hq c (by simp [hc])) (fun c hc => hx c (by simp [hc])), ← it_xor]
    congr 2
    ac_rfl
  | [], _ :: _, _, _, h, _, _ => by simp at h
  | _ :: _, [], _, _, h, _, _ => by simp at h
def pack : List Int → B32
  | [] => 0#32
  | x :: r => BitVec.ofInt 32 x ^^^ (pack r <<< 8)
theorem byte_high {x : Int} (h : 0 ≤ x ∧ x < 256) {i : Nat} (hi : 8 ≤ i) : (BitVec.ofInt 32 x).getLsbD i = false := by
  obtain ⟨v, _, e⟩ := byte_bv x h
  rw [e]; simp [BitVec.getLsbD_of_ge v i hi]
theorem pack_high : ∀ (xs : List Int), byteOk xs → ∀ i, 8 * xs.length ≤ i → (pack xs).getLsbD i = false
  | [], _, i, _ => by simp [pack]
  | x :: r, h, i, hi => by
    simp only [List.length_cons] at hi
    simp only [pack, BitVec.getLsbD_xor, BitVec.getLsbD_shiftLeft]
    rw [byte_high (h x (by simp)) (by omega), pack_high r (fun c hc => h c (by simp [hc])) (i - 8) (by omega)]
    simp
theorem pack_up {xs : List Int} (h : byteOk xs) (hl : xs.length ≤ 3) : it 8 (pack xs <<< 8) = pack xs := by
  rw [it_low 8 _ (fun i hi => by simp [hi])]
  apply BitVec.eq_of_getLsbD_eq; intro i hi
  rw [BitVec.getLsbD_ushiftRight, BitVec.getLsbD_shiftLeft]
  by_cases c : 8 + i < 32
  · have : 8 + i - 8 = i := by omega
    have h2 : ¬ (8 + i < 8) := by omega
    simp [c, this, h2]
  · rw [pack_high xs h i (by omega)]; simp [c]
theorem run_pack : ∀ (xs : List Int) (y : B32), byteOk xs → xs.length ≤ 4 → run y xs = it (8 * xs.length) (y ^^^ pack xs)
  | [], y, _, _ => by simp [run, pack, it]
  | x :: r, y, h, hl => by
    simp only [List.length_cons] at hl
    have hr : byteOk r := fun c hc => h c (by simp [hc])
    simp only [run, pack, List.length_cons]
    rw [run_pack r _ hr (by omega)]
    conv => lhs; rw [← pack_up hr (by omega)]
    rw [← it_xor, Nat.mul_add, Nat.add_comm, it_add]
    congr 2
    ac_rfl
theorem pack_zero : ∀ (xs : List Int), byteOk xs → xs.length ≤ 4 → pack xs = 0#32 → ∀ x ∈ xs, x = 0
  | [], _, _, _, x, hx => by simp at hx
  | y :: r, h, hl, hp, x, hx => by
    simp only [List.length_cons] at hl
    have hr : byteOk r := fun c hc => h c (by simp [hc])
    simp only [pack] at hp
    have e := BitVec.xor_eq_zero_iff.1 hp
    obtain ⟨v, hv, ev⟩ := byte_bv y (h y (by simp))
    have hy : BitVec.ofInt 32 y = 0#32 := by
      apply BitVec.eq_of_getLsbD_eq; intro i hi
      rcases Nat.lt_or_ge i 8 with c | c
      · rw [e]; simp [c]
      · rw [byte_high (h y (by simp)) c]; simp
    have hy0 : y = 0 := by
      rw [ev] at hy
      have := congrArg BitVec.toNat hy
      simp at this
      have hlt := v.isLt
      omega
    rcases List.mem_cons.1 hx with rfl | hx
    · exact hy0
    · refine pack_zero r hr (by omega) ?_ x hx
      have : it 8 (pack r <<< 8) = 0#32 := by rw [← e, hy, it_zero]
      rwa [pack_up hr (by omega)] at this
/-- a stretch of at most four bytes, changed -/
theorem run_tells (s : B32) (p q r xs : List Int) (hl : q.length = xs.length) (h4 : xs.length ≤ 4) (hq : byteOk q) (hx : byteOk xs) :
    run s (p ++ List.zipWith (ixor .u8) q xs ++ r) = run s (p ++ q ++ r) ↔ ∀ x ∈ xs, x = 0 := by
  rw [run_app, run_app, run_app, run_app]
  have e := run_two q xs (run s p) 0#32 hl hq hx
  rw [BitVec.xor_zero] at e
  rw [e, run_xor]
  have e2 : run 0#32 xs = it (8 * xs.length) (pack xs) := by rw [run_pack xs _ hx h4]; simp
  rw [e2]
  constructor
  · intro h
    have h0 : it (8 * r.length) (it (8 * xs.length) (pack xs)) = 0#32 := by
      have := congrArg (fun z => run (run (run s p) q) r ^^^ z) h
      simp only [BitVec.xor_self] at this
      rw [← BitVec.xor_assoc, BitVec.xor_self, BitVec.zero_xor] at this
      exact this
    exact pack_zero xs hx h4 (it_ne _ (it_ne _ h0))
  · intro h
    have : pack xs = 0#32 := by
      clear e e2 hl
      induction xs with
      | nil => rfl
      | cons x r ih =>
        have h0 := h x (by simp)
        subst h0
        simp only [pack]
        rw [ih (by simp only [List.length_cons] at h4; omega) (fun c hc => hx c (by simp [hc])) (fun c hc => h c (by simp [hc]))]
        decide
    rw [this, it_zero, it_zero, BitVec.xor_zero]

def xb (v : B32) (t : Nat) : Int := IntKind.wrap .u8 (ishr .u32 (u v) ((8 * t : Nat) : Int))
theorem xb_byte (v : B32) (t : Nat) : 0 ≤ xb v t ∧ xb v t < 256 := by
  unfold xb
  simp only [IntKind.wrap, IntKind.bits, IntKind.signed, Bool.false_and, Bool.false_eq_true, if_false]; omega
/-- the text, changed at so many places from 'at0' on -/
def turned (b : List Int) (at0 : Nat) (v : B32) (k : Nat) : List Int := (List.range b.length).map fun i => if at0 ≤ i ∧ i < at0 + k then ixor .u8 (b.getD i 0) (xb v (i - at0)) else b.getD i 0
def told (v : B32) (k : Nat) : Bool := (List.range k).any fun t => xb v t != 0
theorem turned_zero (b : List Int) (at0 : Nat) (v : B32) : turned b at0 v 0 = b := by
  apply List.ext_getElem?
  intro i
  simp only [turned, List.getElem?_map]
  rcases Nat.lt_or_ge i b.length with h | h
  · rw [List.getElem?_range h]
    simp only [Option.map_some]
    rw [if_neg (by omega)]
    simp [List.getD, h]
  · rw [List.getElem?_eq_none (by simp; omega), List.getElem?_eq_none h]; rfl
theorem turned_len (b : List Int) (at0 : Nat) (v : B32) (k : Nat) : (turned b at0 v k).length = b.length := by simp [turned]
theorem turned_get (b : List Int) (at0 : Nat) (v : B32) (k : Nat) {i : Nat} (hi : i < b.length) (h : at0 + k ≤ i) : (turned b at0 v k).getD i 0 = b.getD i 0 := by
  simp only [turned, List.getD, List.getElem?_map, List.getElem?_range hi, Option.map_some, Option.getD_some]
  rw [if_neg (by omega)]
theorem turned_set (b : List Int) (at0 : Nat) (v : B32) (k : Nat) (hi : at0 + k < b.length) : List.set (turned b at0 v k) (at0 + k) (ixor .u8 ((turned b at0 v k).getD (at0 + k) 0) (xb v k)) = turned b at0 v (k + 1) := by
  rw [turned_get b at0 v k hi (Nat.le_refl _)]
  apply List.ext_getElem?
  intro i
  rw [List.getElem?_set, turned_len]
  by_cases h : at0 + k = i
  · subst h
    simp only [if_true, if_pos hi, turned, List.getElem?_map, List.getElem?_range hi, Option.map_some]
    rw [if_pos (by omega)]
    congr 3; omega
  · rw [if_neg h]
    simp only [turned, List.getElem?_map]
    rcases Nat.lt_or_ge i b.length with g | g
    · rw [List.getElem?_range g]
      simp only [Option.map_some, Option.some.injEq]
      by_cases c : at0 ≤ i ∧ i < at0 + k
      · rw [if_pos c, if_pos (by omega)]
      · rw [if_neg c, if_neg (by omega)]
    · rw [List.getElem?_eq_none (by simp; omega)]; rfl
theorem told_succ (v : B32) (k : Nat) : (told v k || (xb v k != 0)) = told v (k + 1) := by simp [told, List.range_succ]

theorem tells_l0 (b : List Int) (at0 : Nat) (v : B32) (hb : b.length ≤ 140737488351232) (ha : at0 < b.length) (K : Bool × List Int → Option Bool) : ∀ (j i : Nat), i + j = 4 → at0 + i ≤ b.length →
    ∃ m, m ≤ 4 ∧ at0 + m ≤ b.length ∧ escrowlaw01_CrcTells_l0 (u v) (at0 : Int) K (j + 1) (told v i, (i : Int), turned b at0 v i) = K (told v m, turned b at0 v m)
  | 0, i, h, hl => by
    obtain rfl : i = 4 := by omega
    refine ⟨4, Nat.le_refl _, hl, ?_⟩
    rw [escrowlaw01_CrcTells_l0, bnd_eq, if_neg (by simp)]
  | j + 1, i, h, hl => by
    by_cases c : at0 + i < b.length
    · obtain ⟨m, h1, h2, h3⟩ := tells_l0 b at0 v hb ha K j (i + 1) (by omega) (by omega)
      refine ⟨m, h1, h2, ?_⟩
      have e1 : IntKind.wrap .i64 ((at0 : Int) + (i : Int)) = ((at0 + i : Nat) : Int) := by rw [wrap_i64 (by omega) (by omega)]; omega
      have e2 : IntKind.wrap .i64 (8 * (i : Int)) = ((8 * i : Nat) : Int) := by rw [wrap_i64 (by omega) (by omega)]; omega
      have e3 : IntKind.wrap .i64 ((i : Int) + 1) = ((i + 1 : Nat) : Int) := by rw [wrap_i64 (by omega) (by omega)]; omega
      rw [escrowlaw01_CrcTells_l0, bnd_eq]
      simp only [e1, e2, e3, turned_len, Int.toNat_natCast]
      rw [if_pos (by simp; omega), if_pos (by omega), bnd_eq, if_pos (by omega), if_pos (by omega), bnd_eq, bnd_eq]
      show escrowlaw01_CrcTells_l0 (u v) (at0 : Int) K (j + 1) (told v i || (xb v i != 0), _, List.set (turned b at0 v i) (at0 + i) (ixor .u8 ((turned b at0 v i).getD (at0 + i) 0) (xb v i))) = _
      rw [turned_set b at0 v i c, told_succ]
      exact h3
    · refine ⟨i, by omega, hl, ?_⟩
      have e1 : IntKind.wrap .i64 ((at0 : Int) + (i : Int)) = ((at0 + i : Nat) : Int) := by rw [wrap_i64 (by omega) (by omega)]; omega
      rw [escrowlaw01_CrcTells_l0, bnd_eq]
      simp only [e1, turned_len]
      rw [if_neg (by simp; omega)]

theorem turned_parts (b : List Int) (at0 : Nat) (v : B32) (m : Nat) (h : at0 + m ≤ b.length) :
    turned b at0 v m = b.take at0 ++ List.zipWith (ixor .u8) ((b.drop at0).take m) ((List.range m).map (xb v)) ++ b.drop (at0 + m) := by
  apply List.ext_getElem?
  intro i
  simp only [turned, List.getElem?_map]
  have hz : (List.zipWith (ixor .u8) ((b.drop at0).take m) ((List.range m).map (xb v))).length = m := by simp; omega
  rcases Nat.lt_or_ge i b.length with g | g
  · rw [List.getElem?_range g]
    simp only [Option.map_some]
    by_cases c1 : i < at0
    · rw [if_neg (by omega), List.append_assoc, List.getElem?_append_left (by simp; omega)]
      simp [List.getD, g, c1]
    · by_cases c2 : i < at0 + m
      · rw [if_pos (by omega), List.getElem?_append_left (by simp only [List.length_append, hz, List.length_take]; omega), List.getElem?_append_right (by simp; omega)]
        have e : i - (b.take at0).length = i - at0 := by simp; omega
        rw [e, List.getElem?_zipWith]
        have e2 : at0 + (i - at0) = i := by omega
        have h3 : i - at0 < m := by omega
        simp [List.getD, g, h3, e2]
      · rw [if_neg (by omega), List.getElem?_append_right (by simp only [List.length_append, hz, List.length_take]; omega)]
        have e : i - (b.take at0 ++ List.zipWith (ixor .u8) ((b.drop at0).take m) ((List.range m).map (xb v))).length = i - (at0 + m) := by simp only [List.length_append, hz, List.length_take]; omega
        have e2 : at0 + m + (i - (at0 + m)) = i := by omega
        rw [e, List.getElem?_drop, e2]
        simp [List.getD, g]
  · rw [List.getElem?_eq_none (by simp; omega), List.getElem?_eq_none (by simp only [List.length_append, hz, List.length_take, List.length_drop]; omega)]; rfl

theorem turned_byte {b : List Int} (hb : byteOk b) (at0 : Nat) (v : B32) (m : Nat) : byteOk (turned b at0 v m) := by
  intro x hx
  simp only [turned, List.mem_map] at hx
  obtain ⟨i, _, rfl⟩ := hx
  split
  · have := ixor_byte (getD_byte hb i) (xb_byte v (i - at0)); exact ⟨this.1, this.2.1⟩
  · exact getD_byte hb i

theorem tells_end {b : List Int} (hb : byteOk b) (at0 : Nat) (v : B32) (m : Nat) (h : at0 + m ≤ b.length) (h4 : m ≤ 4) : ((u (on 0#32 (turned b at0 v m)) != u (on 0#32 b)) == told v m) = true := by
  have hx : byteOk ((List.range m).map (xb v)) := by
    intro x hx
    simp only [List.mem_map] at hx
    obtain ⟨t, _, rfl⟩ := hx
    exact xb_byte v t
  have hq : byteOk ((b.drop at0).take m) := fun x hx => hb x (List.mem_of_mem_drop (List.mem_of_mem_take hx))
  have key := run_tells (~~~(0#32)) (b.take at0) ((b.drop at0).take m) (b.drop (at0 + m)) ((List.range m).map (xb v)) (by simp; omega) (by simpa using h4) hq hx
  rw [← turned_parts b at0 v m h] at key
  have hbk : b.take at0 ++ (b.drop at0).take m ++ b.drop (at0 + m) = b := by
    rw [List.append_assoc, ← List.drop_drop, List.take_append_drop, List.take_append_drop]
  rw [hbk] at key
  have e1 : (u (on 0#32 (turned b at0 v m)) == u (on 0#32 b)) = (run (~~~(0#32)) (turned b at0 v m) == run (~~~(0#32)) b) := by
    rw [u_beq, Bool.eq_iff_iff]
    simp only [beq_iff_eq, on]
    exact ⟨fun h => by have := congrArg (fun z => ~~~z) h; simpa using this, fun h => by rw [h]⟩
  have e2 : told v m = !(run (~~~(0#32)) (turned b at0 v m) == run (~~~(0#32)) b) := by
    rw [Bool.eq_iff_iff]
    simp only [told, List.any_eq_true, List.mem_range, bne_iff_ne, ne_eq, Bool.not_eq_true', beq_eq_false_iff_ne]
    rw [key]
    simp only [List.mem_map, List.mem_range]
    constructor
    · rintro ⟨t, ht, hne⟩ hall
      exact hne (hall _ ⟨t, ht, rfl⟩)
    · intro hne
      apply Classical.byContradiction
      intro hno
      apply hne
      rintro x ⟨t, ht, rfl⟩
      apply Classical.byContradiction
      intro h0
      exact hno ⟨t, ht, h0⟩
  unfold bne
  rw [e1, e2]; simp

theorem escrowlaw01_CrcTells_true (b : List Int) (a1 a2 : Int) (h0 : byteOk b ∧ List.length b ≤ 140737488351232) (_h1 : rng .i64 a1) (h2 : rng .u32 a2) : escrowlaw01_CrcTells b a1 a2 = some true := by
  obtain ⟨hb, hl⟩ := h0
  obtain ⟨v, rfl⟩ := of_u32 h2
  unfold escrowlaw01_CrcTells
  simp only [bnd_eq, first_eq, bind_eq, Bool.not_true, Bool.false_eq_true, if_false]
  by_cases hn : b = []
  · rw [if_pos (by simpa using hn)]
  · rw [if_neg (by simpa using hn)]
    have hpos : 0 < b.length := List.length_pos_iff.2 hn
    have hw : ∀ n : Int, 0 ≤ IntKind.wrap .u64 n ∧ IntKind.wrap .u64 n < 18446744073709551616 := by
      intro n
      simp only [IntKind.wrap, IntKind.bits, IntKind.signed, Bool.false_and, Bool.false_eq_true, if_false]; omega
    have hwl : IntKind.wrap .u64 (b.length : Int) = (b.length : Int) := by
      simp only [IntKind.wrap, IntKind.bits, IntKind.signed, Bool.false_and, Bool.false_eq_true, if_false]; omega
    obtain ⟨at0, hat, eat⟩ : ∃ at0 : Nat, at0 < b.length ∧ IntKind.wrap .i64 (Int.tmod (IntKind.wrap .u64 a1) (b.length : Int)) = (at0 : Int) := by
      obtain ⟨w, ew⟩ := Int.eq_ofNat_of_zero_le (hw a1).1
      have hlt : w % b.length < b.length := Nat.mod_lt _ hpos
      refine ⟨w % b.length, hlt, ?_⟩
      rw [ew]
      have : Int.tmod (w : Int) (b.length : Int) = ((w % b.length : Nat) : Int) := rfl
      rw [this, wrap_i64 (by omega) (by omega)]
    rw [hwl, if_pos (by omega), if_pos (by simp; omega), eat, List.nil_append]
    obtain ⟨m, h4, hm, hrun⟩ := tells_l0 b at0 v hl hat (fun o6 => (crc_Sum o6.2).bind fun r8 => (crc_Sum b).bind fun r9 => some ((r8 != r9) == o6.1)) 4 0 (by omega) (by omega)
    rw [turned_zero] at hrun
    refine hrun.trans ?_
    simp only [Sum_eq _ (turned_byte hb at0 v m) (by rw [turned_len]; omega), Sum_eq b hb (by omega), bind_eq, tells_end hb at0 v m hm h4]
end Sx
