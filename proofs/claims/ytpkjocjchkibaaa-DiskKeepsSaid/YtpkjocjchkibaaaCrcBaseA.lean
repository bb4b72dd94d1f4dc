/-
  Own work. CRC32C without a program in sight: a step, its powers, tables of what becomes of each bit, and what the printed functions answer.
-/
import Derived.Test.YtpkjocjchkibaaaDefs
namespace Sx
open Go

abbrev B32 := BitVec 32
def u (v : B32) : Int := (v.toNat : Int)
theorem u_inj {a b : B32} (h : u a = u b) : a = b := BitVec.eq_of_toNat_eq (by unfold u at h; omega)
theorem u_beq (a b : B32) : (u a == u b) = (a == b) := by
  rw [Bool.eq_iff_iff]; simp only [beq_iff_eq]; exact ⟨u_inj, fun h => h ▸ rfl⟩
theorem u_lt (a : B32) : 0 ≤ u a ∧ u a < 4294967296 := by unfold u; have := a.isLt; omega
theorem ofInt_u (a : B32) : BitVec.ofInt 32 (u a) = a := by simp [u]
theorem wrap_u32 {n : Int} (h0 : 0 ≤ n) (h : n < 4294967296) : IntKind.wrap .u32 n = n := by
  simp only [IntKind.wrap, IntKind.bits, IntKind.signed, Bool.false_and, Bool.false_eq_true, if_false]; omega
theorem wrap_i64 {n : Int} (h0 : -9223372036854775808 ≤ n) (h : n < 9223372036854775808) : IntKind.wrap .i64 n = n := by
  simp [IntKind.wrap, IntKind.bits, IntKind.signed]; omega
theorem wrap_u (a : B32) : IntKind.wrap .u32 (u a) = u a := wrap_u32 (u_lt a).1 (u_lt a).2
theorem ixor_u (a b : B32) : ixor .u32 (u a) (u b) = u (a ^^^ b) := by
  unfold ixor; show IntKind.wrap .u32 (BitVec.ofInt 32 (u a) ^^^ BitVec.ofInt 32 (u b)).toNat = _
  rw [ofInt_u, ofInt_u]; exact wrap_u _
theorem iand_u (a b : B32) : iand .u32 (u a) (u b) = u (a &&& b) := by
  unfold iand; show IntKind.wrap .u32 (BitVec.ofInt 32 (u a) &&& BitVec.ofInt 32 (u b)).toNat = _
  rw [ofInt_u, ofInt_u]; exact wrap_u _
theorem ishr_u (a : B32) {n : Nat} (hn : n ≤ 32) : ishr .u32 (u a) n = u (a >>> n) := by
  unfold ishr
  have : min (Int.toNat (n : Int)) (IntKind.bits .u32) = n := by simp [IntKind.bits]; omega
  rw [this]
  simp only [u, BitVec.toNat_ushiftRight, Nat.shiftRight_eq_div_pow]
  rw [Int.fdiv_eq_ediv_of_nonneg _ (Int.le_of_lt (Int.pow_pos (by decide)))]
  simp
theorem ishl_u (a : B32) {n : Nat} (hn : n ≤ 32) : ishl .u32 (u a) n = u (a <<< n) := by
  unfold ishl
  have : min (Int.toNat (n : Int)) (IntKind.bits .u32) = n := by simp [IntKind.bits]; omega
  rw [this]
  simp only [u, IntKind.wrap, IntKind.bits, IntKind.signed, Bool.false_and, Bool.false_eq_true, if_false, BitVec.toNat_shiftLeft, Nat.shiftLeft_eq]
  simp
theorem inot_u (a : B32) : inot .u32 (u a) = u (~~~a) := by
  unfold inot
  show ixor .u32 (IntKind.max .u32) (u a) = _
  have : IntKind.max .u32 = u (BitVec.allOnes 32) := by decide
  rw [this, ixor_u]
  congr 1

/-! ### A step and its powers -/
def poly : B32 := 2197175160#32
def low (x : B32) : Bool := x.getLsbD 0
def step (x : B32) : B32 := (x >>> 1) ^^^ (if low x then poly else 0#32)
theorem low_xor (x y : B32) : low (x ^^^ y) = (low x ^^ low y) := BitVec.getLsbD_xor
theorem xor_mid (a b c : B32) : a ^^^ (b ^^^ c) = b ^^^ (a ^^^ c) := by rw [← BitVec.xor_assoc, ← BitVec.xor_assoc, BitVec.xor_comm a b]
def it : Nat → B32 → B32
  | 0, x => x
  | n + 1, x => it n (step x)
theorem step_xor (x y : B32) : step (x ^^^ y) = step x ^^^ step y := by
  simp only [step, BitVec.ushiftRight_xor_distrib, low_xor]
  cases low x <;> cases low y <;> simp [BitVec.xor_assoc, xor_mid poly] <;> exact BitVec.xor_comm _ _
theorem it_xor : ∀ (n : Nat) (x y : B32), it n (x ^^^ y) = it n x ^^^ it n y
  | 0, _, _ => rfl
  | n + 1, x, y => by simp only [it, step_xor, it_xor n]
theorem it_add : ∀ (m n : Nat) (x : B32), it (m + n) x = it n (it m x)
  | 0, n, x => by simp [it]
  | m + 1, n, x => by rw [Nat.succ_add]; exact it_add m n (step x)
theorem it_zero (n : Nat) : it n 0#32 = 0#32 := by
  have := it_xor n 0#32 0#32
  simp at this; exact this
theorem step_ne {x : B32} (h : step x = 0#32) : x = 0#32 := by
  have h31 : (step x).getLsbD 31 = false := by rw [h]; simp
  unfold step at h h31
  cases hb : low x with
  | true =>
    rw [hb] at h31
    simp at h31
    exact absurd h31 (by decide)
  | false =>
    rw [hb] at h
    simp only [Bool.false_eq_true, if_false, BitVec.xor_zero] at h
    apply BitVec.eq_of_getLsbD_eq
    intro i hi
    rw [BitVec.getLsbD_zero]
    cases i with
    | zero => exact hb
    | succ i =>
      have := congrArg (fun z => z.getLsbD i) h
      simp only [BitVec.getLsbD_ushiftRight, BitVec.getLsbD_zero] at this
      rw [Nat.add_comm]; exact this
theorem it_ne : ∀ (n : Nat) {x : B32}, it n x = 0#32 → x = 0#32
  | 0, _, h => h
  | n + 1, _, h => step_ne (it_ne n h)
theorem it_inj (n : Nat) {x y : B32} (h : it n x = it n y) : x = y := by
  have : it n (x ^^^ y) = 0#32 := by rw [it_xor, h]; simp
  have := it_ne n this
  exact BitVec.xor_eq_zero_iff.1 this
/-- low bits that are zero fall out -/
theorem it_low : ∀ (n : Nat) (x : B32), (∀ i, i < n → x.getLsbD i = false) → it n x = x >>> n
  | 0, x, _ => by simp [it]
  | n + 1, x, h => by
    have h0 : step x = x >>> 1 := by
      have h1 : low x = false := h 0 (by omega)
      simp [step, h1]
    simp only [it, h0]
    rw [it_low n (x >>> 1) (fun i hi => by rw [BitVec.getLsbD_ushiftRight]; exact h (1 + i) (by omega)), ← BitVec.shiftRight_add]
    congr 1; omega
theorem it_split (n : Nat) (x : B32) : it n x = (x >>> n) ^^^ it n (x &&& (BitVec.allOnes 32 >>> (32 - n))) := by
  have key : x = (x &&& ~~~(BitVec.allOnes 32 >>> (32 - n))) ^^^ (x &&& (BitVec.allOnes 32 >>> (32 - n))) := by
    apply BitVec.eq_of_getLsbD_eq; intro i hi
    simp only [BitVec.getLsbD_xor, BitVec.getLsbD_and, BitVec.getLsbD_not]
    cases x.getLsbD i <;> simp [hi]
  conv => lhs; rw [key]
  rw [it_xor]
  congr 1
  rw [it_low]
  · apply BitVec.eq_of_getLsbD_eq; intro i hi
    simp only [BitVec.getLsbD_ushiftRight, BitVec.getLsbD_and, BitVec.getLsbD_not, BitVec.getLsbD_allOnes]
    by_cases h : n + i < 32
    · have : ¬ (32 - n + (n + i) < 32) := by omega
      simp [h, this]
    · have := BitVec.getLsbD_of_ge x (n + i) (by omega)
      simp [this]
  · intro i hi
    simp only [BitVec.getLsbD_and, BitVec.getLsbD_not, BitVec.getLsbD_ushiftRight, BitVec.getLsbD_allOnes]
    by_cases h : i < 32
    · have : 32 - n + i < 32 := by omega
      simp [this]
    · simp [BitVec.getLsbD_of_ge x i (by omega)]

theorem low_test (x : B32) : (iand .u32 (u x) 1 == 1) = low x := by
  have e : (1 : Int) = u 1#32 := rfl
  rw [e, iand_u, u_beq, BitVec.and_one_eq_setWidth_ofBool_getLsbD]
  unfold low
  cases x.getLsbD 0 <;> decide
theorem bit_test (x : B32) {i : Nat} (hi : i < 32) : (iand .u32 (ishr .u32 (u x) i) 1 == 1) = x.getLsbD i := by
  rw [ishr_u x (by omega), low_test]; unfold low; simp

/-! ### The printed functions -/
theorem steps_l0_eq (n : Nat) (hn : n < 4611686018427387904) (k : Int → Option Int) : ∀ (j i : Nat) (x : B32), i + j = n → crc_steps_l0 n k (j + 1) (u x, (i : Int)) = k (u (it j x))
  | 0, i, x, h => by
    simp only [crc_steps_l0]
    rw [if_neg (by simp; omega)]; rfl
  | j + 1, i, x, h => by
    rw [crc_steps_l0]
    simp only [bnd_eq]
    rw [if_pos (by simp; omega), low_test, wrap_i64 (by omega) (by omega)]
    have h1 : ishr .u32 (u x) 1 = u (x >>> 1) := ishr_u x (n := 1) (by omega)
    have h2 : ixor .u32 (u (x >>> 1)) 2197175160 = u (x >>> 1 ^^^ poly) := ixor_u _ poly
    have ih := steps_l0_eq n hn k j (i + 1) (step x) (by omega)
    rw [h1]
    simp only [it]
    rw [show ((i : Int) + 1) = ((i + 1 : Nat) : Int) by omega, ← ih]
    cases hb : low x <;> simp [step, hb, h2]
theorem steps_eq (x : B32) (n : Nat) (hn : n < 4611686018427387904) : crc_steps (u x) n = some (u (it n x)) := by
  simp only [crc_steps, bnd_eq]
  have := steps_l0_eq n hn (fun o => some o) n 0 x (by omega)
  have e : Int.toNat ((n : Int) - 0) + 1 = n + 1 := by omega
  rw [e]; exact this

def halfTab : List Int := (List.range 16).map fun i => u (it 4 (BitVec.ofNat 32 i))
theorem halves_eq : crc_halves = some halfTab := by decide +kernel

theorem half_step (x : B32) : (if 0 ≤ iand .u32 (u x) 15 ∧ iand .u32 (u x) 15 < 16 then some (ixor .u32 (ishr .u32 (u x) 4) (List.getD halfTab (Int.toNat (iand .u32 (u x) 15)) 0)) else none) = some (u (it 4 x)) := by
  have e : iand .u32 (u x) 15 = u (x &&& 15#32) := iand_u x 15#32
  have hlt : (x &&& 15#32).toNat < 16 := by rw [BitVec.toNat_and]; exact Nat.lt_of_le_of_lt Nat.and_le_right (by decide)
  rw [e, if_pos (by unfold u; omega)]
  have e2 : Int.toNat (u (x &&& 15#32)) = (x &&& 15#32).toNat := by unfold u; omega
  have e3 : halfTab.getD (x &&& 15#32).toNat 0 = u (it 4 (x &&& 15#32)) := by
    simp only [halfTab, List.getD, List.getElem?_map, List.getElem?_range hlt, Option.map_some, Option.getD_some]
    simp
  have e4 : ishr .u32 (u x) 4 = u (x >>> 4) := ishr_u x (n := 4) (by omega)
  rw [e2, e3, e4, ixor_u, it_split 4 x]
  rfl

/-- bytes, one after the other -/
def run : B32 → List Int → B32
  | x, [] => x
  | x, c :: r => run (it 8 (x ^^^ BitVec.ofInt 32 c)) r

theorem byte_u {c : Int} (h : 0 ≤ c ∧ c < 256) : IntKind.wrap .u32 c = u (BitVec.ofInt 32 c) := by
  rw [wrap_u32 h.1 (by omega)]
  obtain ⟨n, rfl⟩ := Int.eq_ofNat_of_zero_le h.1
  simp [u]; omega

theorem On_l0_eq (b : List Int) (hb : byteOk b) (hl : b.length < 4611686018427387904) (k : Int → Option Int) : ∀ (j i : Nat) (x : B32), i + j = b.length → crc_On_l0 b halfTab k (j + 1) (u x, (i : Int)) = k (u (run x (b.drop i)))
  | 0, i, x, h => by
    simp only [crc_On_l0]
    rw [if_neg (by simp; omega), List.drop_of_length_le (by omega)]; rfl
  | j + 1, i, x, h => by
    rw [crc_On_l0]
    have hlt : i < b.length := by omega
    rw [if_pos (by simp; omega), if_pos (by constructor <;> omega)]
    have hg : List.getD b (Int.toNat (i : Int)) 0 = b[i] := by simp [List.getD, hlt]
    have hx : ixor .u32 (u x) (IntKind.wrap .u32 b[i]) = u (x ^^^ BitVec.ofInt 32 b[i]) := by
      rw [byte_u (hb _ (List.getElem_mem hlt)), ixor_u]
    have hd : b.drop i = b[i] :: b.drop (i + 1) := List.drop_eq_getElem_cons hlt
    simp only [bnd_eq, hg, hx]
    have s1 := half_step (x ^^^ BitVec.ofInt 32 b[i])
    have s2 := half_step (it 4 (x ^^^ BitVec.ofInt 32 b[i]))
    split at s1
    · rename_i c1
      rw [if_pos c1]
      simp only [Option.some.injEq] at s1
      rw [s1]
      split at s2
      · rename_i c2
        rw [if_pos c2]
        simp only [Option.some.injEq] at s2
        rw [s2, wrap_i64 (by omega) (by omega), show ((i : Int) + 1) = ((i + 1 : Nat) : Int) by omega, On_l0_eq b hb hl k j (i + 1) _ (by omega), hd]
        simp only [run]
        rw [← it_add 4 4]
      · cases s2
    · cases s1

def on (x : B32) (b : List Int) : B32 := ~~~ run (~~~x) b
theorem On_eq (x : B32) (b : List Int) (hb : byteOk b) (hl : b.length < 4611686018427387904) : crc_On (u x) b = some (u (on x b)) := by
  simp only [crc_On, halves_eq, bind_eq, bnd_eq]
  have e : Int.toNat ((b.length : Int) - 0) + 1 = b.length + 1 := by omega
  have := On_l0_eq b hb hl (fun o => some (inot .u32 o)) b.length 0 (~~~x) (by omega)
  rw [e, inot_u]
  simp only [inot_u, List.drop_zero] at this
  exact this
theorem Sum_eq (b : List Int) (hb : byteOk b) (hl : b.length < 4611686018427387904) : crc_Sum b = some (u (on 0#32 b)) := by
  have : crc_On 0 b = some (u (on 0#32 b)) := On_eq 0#32 b hb hl
  simp [crc_Sum, this]

end Sx
