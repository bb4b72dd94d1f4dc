/-
  Own work, of several texts. What wraps and shifts of numbers come to.
  CRC32C without a program in sight: a step, its powers, tables of what becomes of each bit, and what the printed functions answer.
  Bytes of numbers, without a program in sight.
  The disk's plain functions: what they answer.
  The disk's plain functions, further.
  The disk's plain functions: Write.
  What a disk tells: names, sizes, lists, bytes.
  The bytes that a disk's files have.
  Slots, and what a mark's functions answer, without a program in sight.
  What a mark's functions answer, in the disk's own.
  A mark on a disk that refuses nothing.
  Chapter 19: slots that are spoilt, files of another length, spares.
-/
import Derived.Test.YtammhjkpdepohaaGreatDefs
import Derived.Test.YtammhjkpdepohaaGreatComm
namespace Sx
open Go

abbrev B32 := BitVec 32
def u (v : B32) : Int := (v.toNat : Int)
theorem u_inj {a b : B32} (h : u a = u b) : a = b := BitVec.eq_of_toNat_eq (by unfold u at h; omega)
theorem u_beq (a b : B32) : (u a == u b) = (a == b) := by
  rw [Bool.eq_iff_iff]; simp only [beq_iff_eq]; exact ⟨u_inj, fun h => h ▸ rfl⟩
theorem u_lt (a : B32) : 0 ≤ u a ∧ u a < 4294967296 := by unfold u; have := a.isLt; omega
theorem ofInt_u (a : B32) : BitVec.ofInt 32 (u a) = a := by simp [u]
theorem wrap_u32 {n : Int} (h0 : 0 ≤ n) (h : n < 4294967296) : IntKind.wrap .u32 n = n := by
  simp only [IntKind.wrap, IntKind.bits, IntKind.signed, Bool.false_and, Bool.false_eq_true, if_false]; omega
theorem wrap_i64 {n : Int} (h0 : -9223372036854775808 ≤ n) (h : n < 9223372036854775808) : IntKind.wrap .i64 n = n := by
  simp [IntKind.wrap, IntKind.bits, IntKind.signed]; omega
theorem wrap_u (a : B32) : IntKind.wrap .u32 (u a) = u a := wrap_u32 (u_lt a).1 (u_lt a).2
theorem ixor_u (a b : B32) : ixor .u32 (u a) (u b) = u (a ^^^ b) := by
  unfold ixor; show IntKind.wrap .u32 (BitVec.ofInt 32 (u a) ^^^ BitVec.ofInt 32 (u b)).toNat = _
  rw [ofInt_u, ofInt_u]; exact wrap_u _
theorem iand_u (a b : B32) : iand .u32 (u a) (u b) = u (a &&& b) := by
  unfold iand; show IntKind.wrap .u32 (BitVec.ofInt 32 (u a) &&& BitVec.ofInt 32 (u b)).toNat = _
  rw [ofInt_u, ofInt_u]; exact wrap_u _
theorem ishr_u (a : B32) {n : Nat} (hn : n ≤ 32) : ishr .u32 (u a) n = u (a >>> n) := by
  unfold ishr
  have : min (Int.toNat (n : Int)) (IntKind.bits .u32) = n := by simp [IntKind.bits]; omega
  rw [this]
  simp only [u, BitVec.toNat_ushiftRight, Nat.shiftRight_eq_div_pow]
  rw [Int.fdiv_eq_ediv_of_nonneg _ (Int.le_of_lt (Int.pow_pos (by decide)))]
  simp
theorem ishl_u (a : B32) {n : Nat} (hn : n ≤ 32) : ishl .u32 (u a) n = u (a <<< n) := by
  unfold ishl
  have : min (Int.toNat (n : Int)) (IntKind.bits .u32) = n := by simp [IntKind.bits]; omega
  rw [this]
  simp only [u, IntKind.wrap, IntKind.bits, IntKind.signed, Bool.false_and, Bool.false_eq_true, if_false, BitVec.toNat_shiftLeft, Nat.shiftLeft_eq]
  simp
theorem inot_u (a : B32) : inot .u32 (u a) = u (~~~a) := by
  unfold inot
  show ixor .u32 (IntKind.max .u32) (u a) = _
  have : IntKind.max .u32 = u (BitVec.allOnes 32) := by decide
  rw [this, ixor_u]
  congr 1

end Sx
namespace Sx
open Go

/-! ### A step and its powers -/
def poly : B32 := 2197175160#32
def low (x : B32) : Bool := x.getLsbD 0
def step (x : B32) : B32 := (x >>> 1) ^^^ (if low x then poly else 0#32)
theorem low_xor (x y : B32) : low (x ^^^ y) = (low x ^^ low y) := BitVec.getLsbD_xor
theorem xor_mid (a b c : B32) : a ^^^ (b ^^^ c) = b ^^^ (a ^^^ c) := by rw [← BitVec.xor_assoc, ← BitVec.xor_assoc, BitVec.xor_comm a b]
def it : Nat → B32 → B32
  | 0, x => x
  | n + 1, x => it n (step x)
theorem step_xor (x y : B32) : step (x ^^^ y) = step x ^^^ step y := by
  simp only [step, BitVec.ushiftRight_xor_distrib, low_xor]
  cases low x <;> cases low y <;> simp [BitVec.xor_assoc, xor_mid poly] <;> exact BitVec.xor_comm _ _
theorem it_xor : ∀ (n : Nat) (x y : B32), it n (x ^^^ y) = it n x ^^^ it n y
  | 0, _, _ => rfl
  | n + 1, x, y => by simp only [it, step_xor, it_xor n]
theorem it_add : ∀ (m n : Nat) (x : B32), it (m + n) x = it n (it m x)
  | 0, n, x => by simp [it]
  | m + 1, n, x => by rw [Nat.succ_add]; exact it_add m n (step x)
theorem it_zero (n : Nat) : it n 0#32 = 0#32 := by
  have := it_xor n 0#32 0#32
  simp at this; exact this
theorem step_ne {x : B32} (h : step x = 0#32) : x = 0#32 := by
  have h31 : (step x).getLsbD 31 = false := by rw [h]; simp
  unfold step at h h31
  cases hb : low x with
  | true =>
    rw [hb] at h31
    simp at h31
    exact absurd h31 (by decide)
  | false =>
    rw [hb] at h
    simp only [Bool.false_eq_true, if_false, BitVec.xor_zero] at h
    apply BitVec.eq_of_getLsbD_eq
    intro i hi
    rw [BitVec.getLsbD_zero]
    cases i with
    | zero => exact hb
    | succ i =>
      have := congrArg (fun z => z.getLsbD i) h
      simp only [BitVec.getLsbD_ushiftRight, BitVec.getLsbD_zero] at this
      rw [Nat.add_comm]; exact this
theorem it_ne : ∀ (n : Nat) {x : B32}, it n x = 0#32 → x = 0#32
  | 0, _, h => h
  | n + 1, _, h => step_ne (it_ne n h)
theorem it_inj (n : Nat) {x y : B32} (h : it n x = it n y) : x = y := by
  have : it n (x ^^^ y) = 0#32 := by rw [it_xor, h]; simp
  have := it_ne n this
  exact BitVec.xor_eq_zero_iff.1 this
/-- low bits that are zero fall out -/
theorem it_low : ∀ (n : Nat) (x : B32), (∀ i, i < n → x.getLsbD i = false) → it n x = x >>> n
  | 0, x, _ => by simp [it]
  | n + 1, x, h => by
    have h0 : step x = x >>> 1 := by
      have h1 : low x = false := h 0 (by omega)
      simp [step, h1]
    simp only [it, h0]
    rw [it_low n (x >>> 1) (fun i hi => by rw [BitVec.getLsbD_ushiftRight]; exact h (1 + i) (by omega)), ← BitVec.shiftRight_add]
    congr 1; omega
theorem it_split (n : Nat) (x : B32) : it n x = (x >>> n) ^^^ it n (x &&& (BitVec.allOnes 32 >>> (32 - n))) := by
  have key : x = (x &&& ~~~(BitVec.allOnes 32 >>> (32 - n))) ^^^ (x &&& (BitVec.allOnes 32 >>> (32 - n))) := by
    apply BitVec.eq_of_getLsbD_eq; intro i hi
    simp only [BitVec.getLsbD_xor, BitVec.getLsbD_and, BitVec.getLsbD_not]
    cases x.getLsbD i <;> simp [hi]
  conv => lhs; rw [key]
  rw [it_xor]
  congr 1
  rw [it_low]
  · apply BitVec.eq_of_getLsbD_eq; intro i hi
    simp only [BitVec.getLsbD_ushiftRight, BitVec.getLsbD_and, BitVec.getLsbD_not, BitVec.getLsbD_allOnes]
    by_cases h : n + i < 32
    · have : ¬ (32 - n + (n + i) < 32) := by omega
      simp [h, this]
    · have := BitVec.getLsbD_of_ge x (n + i) (by omega)
      simp [this]
  · intro i hi
    simp only [BitVec.getLsbD_and, BitVec.getLsbD_not, BitVec.getLsbD_ushiftRight, BitVec.getLsbD_allOnes]
    by_cases h : i < 32
    · have : 32 - n + i < 32 := by omega
      simp [this]
    · simp [BitVec.getLsbD_of_ge x i (by omega)]

theorem low_test (x : B32) : (iand .u32 (u x) 1 == 1) = low x := by
  have e : (1 : Int) = u 1#32 := rfl
  rw [e, iand_u, u_beq, BitVec.and_one_eq_setWidth_ofBool_getLsbD]
  unfold low
  cases x.getLsbD 0 <;> decide
theorem bit_test (x : B32) {i : Nat} (hi : i < 32) : (iand .u32 (ishr .u32 (u x) i) 1 == 1) = x.getLsbD i := by
  rw [ishr_u x (by omega), low_test]; unfold low; simp

/-! ### The printed functions -/
theorem steps_l0_eq (n : Nat) (hn : n < 4611686018427387904) (k : Int → Option Int) : ∀ (j i : Nat) (x : B32), i + j = n → crc_steps_l0 n k (j + 1) (u x, (i : Int)) = k (u (it j x))
  | 0, i, x, h => by
    simp only [crc_steps_l0]
    rw [if_neg (by simp; omega)]; rfl
  | j + 1, i, x, h => by
    rw [crc_steps_l0]
    simp only [bnd_eq]
    rw [if_pos (by simp; omega), low_test, wrap_i64 (by omega) (by omega)]
    have h1 : ishr .u32 (u x) 1 = u (x >>> 1) := ishr_u x (n := 1) (by omega)
    have h2 : ixor .u32 (u (x >>> 1)) 2197175160 = u (x >>> 1 ^^^ poly) := ixor_u _ poly
    have ih := steps_l0_eq n hn k j (i + 1) (step x) (by omega)
    rw [h1]
    simp only [it]
    rw [show ((i : Int) + 1) = ((i + 1 : Nat) : Int) by omega, ← ih]
    cases hb : low x <;> simp [step, hb, h2]
theorem steps_eq (x : B32) (n : Nat) (hn : n < 4611686018427387904) : crc_steps (u x) n = some (u (it n x)) := by
  simp only [crc_steps, bnd_eq]
  have := steps_l0_eq n hn (fun o => some o) n 0 x (by omega)
  have e : Int.toNat ((n : Int) - 0) + 1 = n + 1 := by omega
  rw [e]; exact this

def halfTab : List Int := (List.range 16).map fun i => u (it 4 (BitVec.ofNat 32 i))
theorem halves_eq : crc_halves = some halfTab := by decide +kernel

theorem half_step (x : B32) : (if 0 ≤ iand .u32 (u x) 15 ∧ iand .u32 (u x) 15 < 16 then some (ixor .u32 (ishr .u32 (u x) 4) (List.getD halfTab (Int.toNat (iand .u32 (u x) 15)) 0)) else none) = some (u (it 4 x)) := by
  have e : iand .u32 (u x) 15 = u (x &&& 15#32) := iand_u x 15#32
  have hlt : (x &&& 15#32).toNat < 16 := by rw [BitVec.toNat_and]; exact Nat.lt_of_le_of_lt Nat.and_le_right (by decide)
  rw [e, if_pos (by unfold u; omega)]
  have e2 : Int.toNat (u (x &&& 15#32)) = (x &&& 15#32).toNat := by unfold u; omega
  have e3 : halfTab.getD (x &&& 15#32).toNat 0 = u (it 4 (x &&& 15#32)) := by
    simp only [halfTab, List.getD, List.getElem?_map, List.getElem?_range hlt, Option.map_some, Option.getD_some]
    simp
  have e4 : ishr .u32 (u x) 4 = u (x >>> 4) := ishr_u x (n := 4) (by omega)
  rw [e2, e3, e4, ixor_u, it_split 4 x]
  rfl

/-- bytes, one after the other -/
def run : B32 → List Int → B32
  | x, [] => x
  | x, c :: r => run (it 8 (x ^^^ BitVec.ofInt 32 c)) r

theorem byte_u {c : Int} (h : 0 ≤ c ∧ c < 256) : IntKind.wrap .u32 c = u (BitVec.ofInt 32 c) := by
  rw [wrap_u32 h.1 (by omega)]
  obtain ⟨n, rfl⟩ := Int.eq_ofNat_of_zero_le h.1
  simp [u]; omega

theorem On_l0_eq (b : List Int) (hb : byteOk b) (hl : b.length < 4611686018427387904) (k : Int → Option Int) : ∀ (j i : Nat) (x : B32), i + j = b.length → crc_On_l0 b halfTab k (j + 1) (u x, (i : Int)) = k (u (run x (b.drop i)))
  | 0, i, x, h => by
    simp only [crc_On_l0]
    rw [if_neg (by simp; omega), List.drop_of_length_le (by omega)]; rfl
  | j + 1, i, x, h => by
    rw [crc_On_l0]
    have hlt : i < b.length := by omega
    rw [if_pos (by simp; omega), if_pos (by constructor <;> omega)]
    have hg : List.getD b (Int.toNat (i : Int)) 0 = b[i] := by simp [List.getD, hlt]
    have hx : ixor .u32 (u x) (IntKind.wrap .u32 b[i]) = u (x ^^^ BitVec.ofInt 32 b[i]) := by
      rw [byte_u (hb _ (List.getElem_mem hlt)), ixor_u]
    have hd : b.drop i = b[i] :: b.drop (i + 1) := List.drop_eq_getElem_cons hlt
    simp only [bnd_eq, hg, hx]
    have s1 := half_step (x ^^^ BitVec.ofInt 32 b[i])
    have s2 := half_step (it 4 (x ^^^ BitVec.ofInt 32 b[i]))
    split at s1
    · rename_i c1
      rw [if_pos c1]
      simp only [Option.some.injEq] at s1
      rw [s1]
      split at s2
      · rename_i c2
        rw [if_pos c2]
        simp only [Option.some.injEq] at s2
        rw [s2, wrap_i64 (by omega) (by omega), show ((i : Int) + 1) = ((i + 1 : Nat) : Int) by omega, On_l0_eq b hb hl k j (i + 1) _ (by omega), hd]
        simp only [run]
        rw [← it_add 4 4]
      · cases s2
    · cases s1

def on (x : B32) (b : List Int) : B32 := ~~~ run (~~~x) b
theorem On_eq (x : B32) (b : List Int) (hb : byteOk b) (hl : b.length < 4611686018427387904) : crc_On (u x) b = some (u (on x b)) := by
  simp only [crc_On, halves_eq, bind_eq, bnd_eq]
  have e : Int.toNat ((b.length : Int) - 0) + 1 = b.length + 1 := by omega
  have := On_l0_eq b hb hl (fun o => some (inot .u32 o)) b.length 0 (~~~x) (by omega)
  rw [e, inot_u]
  simp only [inot_u, List.drop_zero] at this
  exact this
theorem Sum_eq (b : List Int) (hb : byteOk b) (hl : b.length < 4611686018427387904) : crc_Sum b = some (u (on 0#32 b)) := by
  have : crc_On 0 b = some (u (on 0#32 b)) := On_eq 0#32 b hb hl
  simp [crc_Sum, this]

end Sx
namespace Sx
open Go

theorem wrap_u64 {n : Int} (h0 : 0 ≤ n) (h : n < 18446744073709551616) : IntKind.wrap .u64 n = n := by
  simp only [IntKind.wrap, IntKind.bits, IntKind.signed, Bool.false_and, Bool.false_eq_true, if_false]; omega
theorem wrap_u64m (n : Int) : IntKind.wrap .u64 n = n % 18446744073709551616 := by
  simp only [IntKind.wrap, IntKind.bits, IntKind.signed, Bool.false_and, Bool.false_eq_true, if_false]; rfl
theorem cast_mod (x : Nat) : (x : Int) % 256 = ((x % 256 : Nat) : Int) := by omega
theorem wrap_u8 (n : Int) : IntKind.wrap .u8 n = n % 256 := by
  simp only [IntKind.wrap, IntKind.bits, IntKind.signed, Bool.false_and, Bool.false_eq_true, if_false]; rfl

/-- a number's bytes, the greatest first -/
def be (v n : Nat) : List Int := (List.range n).map fun i => ((v / 2 ^ (8 * (n - 1 - i)) % 256 : Nat) : Int)
theorem be_len (v n : Nat) : (be v n).length = n := by simp [be]
theorem be_byte (v n : Nat) : byteOk (be v n) := by
  intro c hc
  simp only [be, List.mem_map] at hc
  obtain ⟨i, _, rfl⟩ := hc
  omega
theorem be_succ (v m : Nat) : be v (m + 1) = ((v / 2 ^ (8 * m) % 256 : Nat) : Int) :: be v m := by
  simp only [be, List.range_succ_eq_map, List.map_cons, List.map_map]
  congr 1
  apply List.map_congr_left
  intro k hk
  simp only [Function.comp]
  congr 4
  simp at hk
  omega
theorem shr_u64 (V m : Nat) (hm : m ≤ 64) : ishr .u64 (V : Int) (m : Int) = ((V / 2 ^ m : Nat) : Int) := by
  unfold ishr
  have : min (Int.toNat (m : Int)) (IntKind.bits .u64) = m := by simp [IntKind.bits]; omega
  rw [this, Int.fdiv_eq_ediv_of_nonneg _ (Int.le_of_lt (Int.pow_pos (by decide)))]
  simp
theorem shr_u32 (V m : Nat) (hm : m ≤ 32) : ishr .u32 (V : Int) (m : Int) = ((V / 2 ^ m : Nat) : Int) := by
  unfold ishr
  have : min (Int.toNat (m : Int)) (IntKind.bits .u32) = m := by simp [IntKind.bits]; omega
  rw [this, Int.fdiv_eq_ediv_of_nonneg _ (Int.le_of_lt (Int.pow_pos (by decide)))]
  simp
theorem shr_i64s (v : Int) (m : Nat) (hm : m ≤ 64) : ishr .i64 v (m : Int) = v / 2 ^ m := by
  unfold ishr
  have : min (Int.toNat (m : Int)) (IntKind.bits .i64) = m := by simp [IntKind.bits]; omega
  rw [this, Int.fdiv_eq_ediv_of_nonneg _ (Int.le_of_lt (Int.pow_pos (by decide)))]

/-- a number of eight bytes, as it lies -/
def un (v : Int) : Nat := (IntKind.wrap .u64 v).toNat
theorem un_eq (v : Int) : IntKind.wrap .u64 v = (un v : Int) := by
  unfold un; rw [wrap_u64m]; omega
theorem un_lt (v : Int) : un v < 18446744073709551616 := by
  unfold un; rw [wrap_u64m]; omega
theorem un_back {v : Int} (h : -9223372036854775808 ≤ v ∧ v ≤ 9223372036854775807) : IntKind.wrap .i64 (un v : Int) = v := by
  unfold un
  have h0 : ((IntKind.wrap .u64 v).toNat : Int) = v % 18446744073709551616 := by rw [wrap_u64m]; exact Int.toNat_of_nonneg (by omega)
  rw [h0]
  by_cases hn : 0 ≤ v
  · have : v % 18446744073709551616 = v := by omega
    rw [this, wrap_i64 (by omega) (by omega)]
  · have : v % 18446744073709551616 = v + 18446744073709551616 := by omega
    rw [this]
    have e : IntKind.wrap .i64 (v + 18446744073709551616) = IntKind.wrap .i64 v := by
      have : (v + 18446744073709551616) % 2 ^ IntKind.bits .i64 = v % 2 ^ IntKind.bits .i64 := Int.add_emod_right v 18446744073709551616
      unfold IntKind.wrap
      simp only [this]
    rw [e, wrap_i64 (by omega) (by omega)]
/-- a byte of a number that may be below 0 -/
theorem un_byte (v : Int) (m : Nat) (hm : m < 8) : (v / 2 ^ (8 * m)) % 256 = ((un v / 2 ^ (8 * m) % 256 : Nat) : Int) := by
  have h0 : (un v : Int) = v % 18446744073709551616 := by rw [← un_eq, wrap_u64m]
  have : m = 0 ∨ m = 1 ∨ m = 2 ∨ m = 3 ∨ m = 4 ∨ m = 5 ∨ m = 6 ∨ m = 7 := by omega
  rcases this with rfl | rfl | rfl | rfl | rfl | rfl | rfl | rfl <;> simp only [Nat.mul_zero, Nat.reduceMul, Int.reducePow, Nat.reducePow, Nat.pow_zero, Int.pow_zero] <;> omega
theorem ior_byte64 (x c : Nat) (hx : x < 72057594037927936) (hc : c < 256) : ior .u64 (ishl .u64 (x : Int) 8) (c : Int) = ((x * 256 + c : Nat) : Int) := by
  have e1 : ishl .u64 (x : Int) 8 = ((x * 256 : Nat) : Int) := by
    unfold ishl
    have : min (Int.toNat 8) (IntKind.bits .u64) = 8 := by decide
    rw [this, wrap_u64 (by omega) (by omega)]; omega
  rw [e1]
  unfold ior
  show IntKind.wrap .u64 ((BitVec.ofInt 64 ((x * 256 : Nat) : Int) ||| BitVec.ofInt 64 (c : Int)).toNat : Int) = _
  have e2 : (BitVec.ofInt 64 ((x * 256 : Nat) : Int) ||| BitVec.ofInt 64 (c : Int)).toNat = x * 256 + c := by
    rw [BitVec.toNat_or]
    have a1 : (BitVec.ofInt 64 ((x * 256 : Nat) : Int)).toNat = 2 ^ 8 * x := by simp; omega
    have a2 : (BitVec.ofInt 64 (c : Int)).toNat = c := by simp; omega
    rw [a1, a2, ← Nat.two_pow_add_eq_or_of_lt (by omega : c < 2 ^ 8)]; omega
  rw [e2, wrap_u64 (by omega) (by omega)]
/-- the number that the first bytes tell -/
def pre (b : List Int) : Nat → Int
  | 0 => 0
  | i + 1 => pre b i * 256 + b.getD i 0
theorem fgetD_byte {a : List Int} (h : byteOk a) (i : Nat) : 0 ≤ a.getD i 0 ∧ a.getD i 0 < 256 := by
  rcases Nat.lt_or_ge i a.length with g | g
  · have : a.getD i 0 = a[i] := by simp [List.getD, g]
    rw [this]; exact h _ (List.getElem_mem g)
  · have : a.getD i 0 = 0 := by simp [List.getD, List.getElem?_eq_none g]
    rw [this]; omega
theorem pre_bound {b : List Int} (h : byteOk b) : ∀ i, 0 ≤ pre b i ∧ pre b i < 256 ^ i
  | 0 => by simp [pre]
  | i + 1 => by
    have h1 := pre_bound h i
    have h2 := fgetD_byte h i
    simp only [pre]
    rw [Int.pow_succ]
    omega
theorem pre_be (U : Nat) (hU : U < 18446744073709551616) (r : List Int) : pre (be U 8 ++ r) 8 = U := by
  have e : be U 8 = [((U / 72057594037927936 % 256 : Nat) : Int), ((U / 281474976710656 % 256 : Nat) : Int), ((U / 1099511627776 % 256 : Nat) : Int), ((U / 4294967296 % 256 : Nat) : Int), ((U / 16777216 % 256 : Nat) : Int), ((U / 65536 % 256 : Nat) : Int), ((U / 256 % 256 : Nat) : Int), ((U / 1 % 256 : Nat) : Int)] := rfl
  rw [e]
  simp only [pre, List.cons_append, List.nil_append, List.getD_cons_zero, List.getD_cons_succ]
  omega
theorem pre_take {b : List Int} : ∀ {i n : Nat}, i ≤ n → pre (b.take n) i = pre b i
  | 0, _, _ => rfl
  | i + 1, n, h => by
    simp only [pre]
    rw [pre_take (by omega)]
    congr 1
    rw [List.getD_eq_getElem?_getD, List.getD_eq_getElem?_getD, List.getElem?_take_of_lt (by omega)]
end Sx
namespace Sx
open Go

/-! ### lists of names and files -/
section
variable {V : Type}
theorem keq_str (a b : List Int) : keq .str a b = (a == b) := rfl
theorem get_nil (k : List Int) : pget .str k ([] : List (List Int × V)) = none := rfl
theorem get_cons (k : List Int) (p : List Int × V) (l : List (List Int × V)) : pget .str k (p :: l) = if p.1 = k then some p.2 else pget .str k l := by
  unfold pget
  rw [List.find?_cons]
  by_cases h : p.1 = k
  · simp [keq_str, h]
  · have : keq .str p.1 k = false := by simp [keq_str, h]
    simp [this, h]
theorem get_mem {k : List Int} {v : V} : ∀ {l : List (List Int × V)}, pget .str k l = some v → (k, v) ∈ l
  | [], h => by cases h
  | p :: l, h => by
    rw [get_cons] at h
    split at h
    · rename_i hp
      simp only [Option.some.injEq] at h
      subst h; subst hp
      exact List.mem_cons_self ..
    · exact List.mem_cons_of_mem _ (get_mem h)
theorem get_none {k : List Int} : ∀ {l : List (List Int × V)}, pget .str k l = none ↔ k ∉ l.map (·.1)
  | [] => by simp [get_nil]
  | p :: l => by
    rw [get_cons]
    split
    · rename_i hp; simp [hp]
    · rename_i hp
      rw [get_none]
      simp only [List.map_cons, List.mem_cons, not_or]
      exact ⟨fun h => ⟨fun e => hp e.symm, h⟩, fun h => h.2⟩
theorem pset_cons (k : List Int) (v : V) (p : List Int × V) (l : List (List Int × V)) : pset .str k v (p :: l) = (if p.1 = k then (p.1, v) else p) :: pset .str k v l := by
  unfold pset
  rw [List.map_cons]
  by_cases h : p.1 = k
  · simp [keq_str, h]
  · simp [keq_str, h]
theorem get_pset {k : List Int} {v y : V} : ∀ {l : List (List Int × V)}, pget .str k l = some y → pget .str k (pset .str k v l) = some v
  | [], h => by cases h
  | p :: l, h => by
    rw [get_cons] at h
    rw [pset_cons, get_cons]
    by_cases hp : p.1 = k
    · simp [hp]
    · rw [if_neg hp] at h
      rw [if_neg hp, if_neg hp]
      exact get_pset h
theorem pset_keys (k : List Int) (v : V) : ∀ (l : List (List Int × V)), (pset .str k v l).map (·.1) = l.map (·.1)
  | [] => rfl
  | p :: l => by
    rw [pset_cons, List.map_cons, List.map_cons, pset_keys k v l]
    split <;> simp_all
theorem pset_mem {k : List Int} {v : V} {q : List Int × V} : ∀ {l : List (List Int × V)}, q ∈ pset .str k v l → q = (k, v) ∨ q ∈ l
  | [], h => by cases h
  | p :: l, h => by
    rw [pset_cons] at h
    rcases List.mem_cons.1 h with h | h
    · by_cases hp : p.1 = k
      · rw [if_pos hp] at h; left; rw [h, hp]
      · rw [if_neg hp] at h; right; simp [h]
    · rcases pset_mem h with h | h
      · exact .inl h
      · exact .inr (by simp [h])
theorem pdel_eq (k : List Int) (l : List (List Int × V)) : pdel .str k l = l.filter fun p => !(p.1 == k) := rfl
theorem get_pdel_ne {a b : List Int} (h : a ≠ b) : ∀ (l : List (List Int × V)), pget .str b (pdel .str a l) = pget .str b l
  | [] => rfl
  | p :: l => by
    rw [pdel_eq, List.filter_cons]
    by_cases hp : p.1 = a
    · have : (!(p.1 == a)) = false := by simp [hp]
      rw [if_neg (by simp [this]), get_cons, if_neg (by rw [hp]; exact h)]
      exact get_pdel_ne h l
    · rw [if_pos (by simp [hp]), get_cons, get_cons]
      rw [← pdel_eq, get_pdel_ne h l]
theorem pdel_mem {k : List Int} {q : List Int × V} {l : List (List Int × V)} (h : q ∈ pdel .str k l) : q ∈ l := (List.mem_filter.1 h).1
theorem pins_mem {k : List Int} {v : V} {q : List Int × V} : ∀ {l : List (List Int × V)}, q ∈ pins .str k v l ↔ q = (k, v) ∨ q ∈ l
  | [] => by simp [pins]
  | p :: l => by
    simp only [pins]
    split
    · simp
    · simp only [List.mem_cons, pins_mem (l := l)]
      constructor
      · rintro (h | h | h)
        · exact .inr (.inl h)
        · exact .inl h
        · exact .inr (.inr h)
      · rintro (h | h | h)
        · exact .inr (.inl h)
        · exact .inl h
        · exact .inr (.inr h)
theorem spins_length {k : List Int} {v : V} : ∀ (l : List (List Int × V)), (pins .str k v l).length = l.length + 1
  | [] => rfl
  | p :: l => by
    simp only [pins]
    split
    · rfl
    · simp [spins_length l]
theorem get_pins_ne {a b : List Int} (h : a ≠ b) (v : V) : ∀ (l : List (List Int × V)), pget .str b (pins .str a v l) = pget .str b l
  | [] => by rw [show pins .str a v ([] : List (List Int × V)) = [(a, v)] from rfl, get_cons, if_neg h]
  | p :: l => by
    simp only [pins]
    split
    · rw [get_cons, if_neg h]
    · rw [get_cons, get_cons, get_pins_ne h v l]
theorem get_pins_self {a : List Int} (v : V) : ∀ (l : List (List Int × V)), pget .str a l = none → pget .str a (pins .str a v l) = some v
  | [], _ => by rw [show pins .str a v ([] : List (List Int × V)) = [(a, v)] from rfl, get_cons, if_pos rfl]
  | p :: l, h => by
    rw [get_cons] at h
    have hp : p.1 ≠ a := fun e => by rw [if_pos e] at h; cases h
    rw [if_neg hp] at h
    simp only [pins]
    split
    · rw [get_cons, if_pos rfl]
    · rw [get_cons, if_neg hp, get_pins_self v l h]
theorem get_pput_self (a : List Int) (v : V) (l : List (List Int × V)) : pget .str a (pput .str a v l) = some v := get_pins_self v _ (pget_del_self (kt := .str) l)
theorem get_pput_ne {a b : List Int} (h : a ≠ b) (v : V) (l : List (List Int × V)) : pget .str b (pput .str a v l) = pget .str b l := by
  unfold pput
  rw [get_pins_ne h, get_pdel_ne h]
theorem pins_keys_perm {a : List Int} (v : V) : ∀ (l : List (List Int × V)), ((pins .str a v l).map (·.1)).Perm (a :: l.map (·.1))
  | [] => .refl _
  | p :: l => by
    simp only [pins]
    split
    · exact .refl _
    · simp only [List.map_cons]
      exact ((pins_keys_perm v l).cons _).trans (.swap _ _ _)
theorem pdel_length (k : List Int) (l : List (List Int × V)) : (pdel .str k l).length ≤ l.length := List.length_filter_le _ _
theorem pdel_length_lt {k : List Int} {v : V} : ∀ {l : List (List Int × V)}, pget .str k l = some v → (pdel .str k l).length < l.length
  | [], h => by cases h
  | p :: l, h => by
    rw [get_cons] at h
    rw [pdel_eq, List.filter_cons]
    by_cases hp : p.1 = k
    · rw [if_neg (by simp [hp])]
      have := pdel_length k l
      rw [pdel_eq] at this
      simp only [List.length_cons]; omega
    · rw [if_neg hp] at h
      rw [if_pos (by simp [hp])]
      have := pdel_length_lt h
      rw [pdel_eq] at this
      simp only [List.length_cons]; omega
theorem pdel_nodup {k : List Int} {l : List (List Int × V)} (h : (l.map (·.1)).Nodup) : ((pdel .str k l).map (·.1)).Nodup := h.sublist (List.Sublist.map _ List.filter_sublist)
end

/-! ### what is known of a disk's files -/
def FOk (f : FileS) : Prop := byteOk f.1 ∧ byteOk f.2.1 ∧ f.1.length ≤ 1048576 ∧ f.2.1.length ≤ f.1.length ∧ f.2.2.Nodup ∧ ∀ s ∈ f.2.2, 0 ≤ s ∧ s < 16384
def FsOk (fs : List (List Int × FileS)) : Prop := (∀ p ∈ fs, FOk p.2) ∧ (fs.map (·.1)).Nodup ∧ fs.length ≤ 16
theorem FsOk.get {fs : List (List Int × FileS)} (h : FsOk fs) {k : List Int} {f : FileS} (hf : pget .str k fs = some f) : FOk f := h.1 _ (get_mem hf)
theorem FsOk.set {fs : List (List Int × FileS)} (h : FsOk fs) {k : List Int} {f : FileS} (hf : FOk f) : FsOk (pset .str k f fs) :=
  ⟨fun p hp => by rcases pset_mem hp with rfl | hp; exact hf; exact h.1 p hp, by rw [pset_keys]; exact h.2.1, by have := congrArg List.length (pset_keys k f fs); simp only [List.length_map] at this; rw [this]; exact h.2.2⟩
theorem FsOk.del {fs : List (List Int × FileS)} (h : FsOk fs) (k : List Int) : FsOk (pdel .str k fs) := ⟨fun p hp => h.1 p (pdel_mem hp), pdel_nodup h.2.1, Nat.le_trans (pdel_length _ _) h.2.2⟩
theorem FsOk.put {fs : List (List Int × FileS)} (h : FsOk fs) {k : List Int} {f : FileS} (hf : FOk f) (hl : pget .str k fs = none → fs.length < 16) : FsOk (pput .str k f fs) := by
  refine ⟨fun p hp => ?_, ?_, ?_⟩
  · rcases pins_mem.1 hp with rfl | hp
    · exact hf
    · exact h.1 p (pdel_mem hp)
  · refine (List.Perm.nodup_iff (pins_keys_perm (a := k) f (pdel .str k fs))).2 ?_
    exact List.nodup_cons.2 ⟨get_none.1 (pget_del_self (kt := .str) fs), pdel_nodup h.2.1⟩
  · unfold pput
    rw [spins_length]
    cases hg : pget .str k fs with
    | none => have := hl hg; have := pdel_length k fs; omega
    | some y => have := pdel_length_lt hg; have := h.2.2; omega

/-! ### Used, counted, names -/
theorem used_fold (D : DiskS) : ∀ (ks : List (List Int)) (s : Int), (∀ k ∈ ks, ∃ f, pget .str k D.2.1 = some f ∧ f.1.length ≤ 1048576) → 0 ≤ s → s + ks.length * 1048576 < 4611686018427387904 →
    ∃ s', foldK (disk_Disk_Used_l0 D) ks s = some s' ∧ 0 ≤ s' ∧ s' ≤ s + ks.length * 1048576
  | [], s, _, h0, _ => ⟨s, rfl, h0, by simp⟩
  | k :: ks, s, hk, h0, hb => by
    obtain ⟨f, hf, hl⟩ := hk k (by simp)
    simp only [List.length_cons, Int.natCast_add, Int.cast_ofNat_Int] at hb ⊢
    have e : disk_Disk_Used_l0 D k s = some (s + f.1.length) := by
      unfold disk_Disk_Used_l0
      simp only [hf, Option.bind_some, bnd_eq]
      rw [wrap_i64 (by omega) (by omega)]
    obtain ⟨s', h1, h2, h3⟩ := used_fold D ks (s + f.1.length) (fun k' hk' => hk k' (by simp [hk'])) (by omega) (by omega)
    refine ⟨s', ?_, h2, by omega⟩
    show (disk_Disk_Used_l0 D k s).bind _ = _
    rw [e]; exact h1
theorem Used_eq {D : DiskS} (h : FsOk D.2.1) : ∃ u, disk_Disk_Used D = some u ∧ 0 ≤ u ∧ u ≤ D.2.1.length * 1048576 := by
  obtain ⟨s', h1, h2, h3⟩ := used_fold D (D.2.1.map (·.1)) 0 (fun k hk => by
    cases hg : pget .str k D.2.1 with
    | none => exact absurd hk (get_none.1 hg)
    | some f => exact ⟨f, rfl, (h.get hg).2.2.1⟩) (by omega) (by simp only [List.length_map]; have := h.2.2; omega)
  refine ⟨s', ?_, h2, ?_⟩
  · unfold disk_Disk_Used
    simp only [bnd_eq, h1, Option.bind_some]
  · simp only [List.length_map] at h3; omega
end Sx
namespace Sx
open Go

theorem counted_eq (D : DiskS) (w : Int) : ∃ e a f o p, disk_Disk_counted D w = some (e, (D.1, D.2.1, a, D.2.2.2.1, f, o, p)) ∧ ((e = 9 ∧ o = true ∧ p = true) ∨ ((e = 0 ∨ e = 40) ∧ o = D.2.2.2.2.2.1 ∧ p = D.2.2.2.2.2.2)) := by
  unfold disk_Disk_counted
  simp only [bnd_eq]
  split
  · split
    · exact ⟨9, _, _, _, _, rfl, .inl ⟨rfl, rfl, rfl⟩⟩
    · split
      · split
        · split
          · exact ⟨40, _, _, _, _, rfl, .inr ⟨.inr rfl, rfl, rfl⟩⟩
          · exact ⟨0, _, _, _, _, rfl, .inr ⟨.inl rfl, rfl, rfl⟩⟩
        · exact ⟨0, _, _, _, _, rfl, .inr ⟨.inl rfl, rfl, rfl⟩⟩
      · rw [if_neg (by decide)]
        exact ⟨0, _, _, _, _, rfl, .inr ⟨.inl rfl, rfl, rfl⟩⟩
  · split
    · split
      · split
        · exact ⟨40, _, _, _, _, rfl, .inr ⟨.inr rfl, rfl, rfl⟩⟩
        · exact ⟨0, _, _, _, _, rfl, .inr ⟨.inl rfl, rfl, rfl⟩⟩
      · exact ⟨0, _, _, _, _, rfl, .inr ⟨.inl rfl, rfl, rfl⟩⟩
    · rw [if_neg (by decide)]
      exact ⟨0, _, _, _, _, rfl, .inr ⟨.inl rfl, rfl, rfl⟩⟩
theorem counted_calm {D : DiskS} (w : Int) (ha : D.2.2.1 = 0) (hf : D.2.2.2.2.1 = 0) : disk_Disk_counted D w = some (0, D) := by
  unfold disk_Disk_counted
  simp only [bnd_eq]
  rw [if_neg (by rw [hf]; decide), if_neg (by rw [ha]; decide), if_neg (by decide)]

theorem found_eq {D : DiskS} (name : List Int) (ho : D.2.2.2.2.2.1 = false) : disk_Disk_found D name = some (if (pget .str name D.2.1).isSome then 0 else 5) := by
  unfold disk_Disk_found
  rw [if_neg (by simp [ho])]
  simp only [bnd_eq]
  cases pget .str name D.2.1 <;> rfl
theorem clone_eq {l : List Int} (h : l.length ≤ 1048576) : slices_Clone__byte_byte l = some l := by
  unfold slices_Clone__byte_byte
  rw [if_pos (by simp only [List.length_nil]; omega)]
  rfl
theorem Sync_eq {D : DiskS} {name : List Int} {f : FileS} (hok : FsOk D.2.1) (ho : D.2.2.2.2.2.1 = false) (hf : pget .str name D.2.1 = some f) : ∃ e a fl o p, disk_Disk_counted D 2 = some (e, (D.1, D.2.1, a, D.2.2.2.1, fl, o, p)) ∧
    disk_Disk_Sync D name = some (if e = 0 then (0, (D.1, pset .str name (f.1, f.1, []) D.2.1, a, D.2.2.2.1, fl, o, p)) else (e, (D.1, D.2.1, a, D.2.2.2.1, fl, o, p))) := by
  obtain ⟨e, a, fl, o, p, hc, _⟩ := counted_eq D 2
  refine ⟨e, a, fl, o, p, hc, ?_⟩
  unfold disk_Disk_Sync
  rw [found_eq name ho, hf]
  simp only [Option.isSome_some, if_true, Option.bind_some, hc]
  rw [if_neg (by decide)]
  by_cases he : e = 0
  · subst he
    rw [if_neg (by decide)]
    simp only [hf, Option.bind_some, clone_eq (hok.get hf).2.2.1, if_true]
  · rw [if_pos (by simpa using he), if_neg he]
theorem Rename_eq {D : DiskS} {a b : List Int} {f : FileS} (hok : FsOk D.2.1) (ho : D.2.2.2.2.2.1 = false) (hf : pget .str a D.2.1 = some f) (hn : disk_isName b = some true) :
    disk_Disk_Rename D a b = some (0, (D.1, pput .str b f (pdel .str a D.2.1), D.2.2.1, D.2.2.2.1, D.2.2.2.2.1, D.2.2.2.2.2.1, D.2.2.2.2.2.2)) := by
  unfold disk_Disk_Rename
  rw [found_eq a ho, hf]
  simp only [Option.isSome_some, if_true, Option.bind_some, hn]
  rw [if_neg (by decide), if_neg (by decide)]
  rw [if_pos (by have := pdel_length a D.2.1; have := hok.2.2; omega)]
theorem Remove_eq {D : DiskS} {a : List Int} (ho : D.2.2.2.2.2.1 = false) : disk_Disk_Remove D a = some (if (pget .str a D.2.1).isSome then (0, (D.1, pdel .str a D.2.1, D.2.2.1, D.2.2.2.1, D.2.2.2.2.1, D.2.2.2.2.2.1, D.2.2.2.2.2.2)) else (5, D)) := by
  unfold disk_Disk_Remove
  rw [found_eq a ho]
  cases h : pget .str a D.2.1 <;> simp
theorem Read_all {D : DiskS} {name : List Int} (hok : FsOk D.2.1) (ho : D.2.2.2.2.2.1 = false) : disk_Disk_Read D name 0 1048576 = some (match pget .str name D.2.1 with | none => ([], 5) | some f => (f.1, 0)) := by
  unfold disk_Disk_Read
  rw [found_eq name ho]
  cases h : pget .str name D.2.1 with
  | none => simp
  | some f =>
    have hl := (hok.get h).2.2.1
    simp only [Option.isSome_some, if_true, Option.bind_some, bnd_eq]
    rw [if_neg (by decide), if_neg (by decide)]
    by_cases h0 : f.1.length = 0
    · rw [if_pos (by simp [h0])]
      have : f.1 = [] := List.eq_nil_of_length_eq_zero h0
      rw [this]
    · rw [if_neg (by simp only [decide_eq_true_eq]; omega), if_pos (by omega)]
      have e : List.drop (Int.toNat 0) (List.take (Int.toNat (f.1.length : Int)) f.1) = f.1 := by simp
      rw [e]
      have e2 : min (1048576 : Int) (f.1.length : Int) = f.1.length := by omega
      rw [e2, if_pos (by omega)]
      simp

/-! ### writing -/
theorem kput_mem {k q : Int} {ks : List Int} : q ∈ kput k ks ↔ q = k ∨ q ∈ ks := by
  unfold kput pput
  have : ∀ l : List (Int × Unit), q ∈ (pins (.int .i64) k () l).map (·.1) ↔ q = k ∨ q ∈ l.map (·.1) := by
    intro l
    induction l with
    | nil => simp [pins]
    | cons p l ih =>
      simp only [pins]
      split
      · simp
      · simp only [List.map_cons, List.mem_cons, ih]
        constructor
        · rintro (h | h | h)
          · exact .inr (.inl h)
          · exact .inl h
          · exact .inr (.inr h)
        · rintro (h | h | h)
          · exact .inr (.inl h)
          · exact .inl h
          · exact .inr (.inr h)
  rw [this]
  constructor
  · rintro (h | h)
    · exact .inl h
    · obtain ⟨p, hp, e⟩ := List.mem_map.1 h
      have hp := (List.mem_filter.1 hp).1
      obtain ⟨x, hx, e2⟩ := List.mem_map.1 hp
      subst e2; subst e
      exact .inr hx
  · rintro (h | h)
    · exact .inl h
    · by_cases hq : q = k
      · exact .inl hq
      · exact .inr (List.mem_map.2 ⟨(q, ()), List.mem_filter.2 ⟨List.mem_map.2 ⟨q, h, rfl⟩, by simp [keq, hq]⟩, rfl⟩)
theorem kput_nodup {k : Int} {ks : List Int} (h : ks.Nodup) : (kput k ks).Nodup := by
  unfold kput pput
  have key : ∀ l : List (Int × Unit), ((pins (.int .i64) k () l).map (·.1)).Perm (k :: l.map (·.1)) := by
    intro l
    induction l with
    | nil => exact .refl _
    | cons p l ih =>
      simp only [pins]
      split
      · exact .refl _
      · simp only [List.map_cons]
        exact (ih.cons _).trans (.swap _ _ _)
  refine (List.Perm.nodup_iff (key _)).2 (List.nodup_cons.2 ⟨fun hk => ?_, ?_⟩)
  · obtain ⟨p, hp, e⟩ := List.mem_map.1 hk
    have := (List.mem_filter.1 hp).2
    subst e
    simp [keq] at this
  · refine List.Nodup.sublist (List.Sublist.map _ List.filter_sublist) ?_
    have e : (ks.map fun x => (x, ())).map (·.1) = ks := by rw [List.map_map]; exact List.map_id _
    rw [e]; exact h
theorem nodup_len {l : List Int} (hn : l.Nodup) (hb : ∀ s ∈ l, 0 ≤ s ∧ s < 16384) : l.length ≤ 16384 := by
  have : (l.map Int.toNat).Nodup := by
    refine List.Pairwise.map _ (fun a b h => h) ?_
    refine List.Pairwise.imp_of_mem ?_ hn
    intro a b ha hb' h e
    have := hb a ha; have := hb b hb'
    exact h (by omega)
  have h2 : (l.map Int.toNat) ⊆ List.range 16384 := fun x hx => by
    obtain ⟨s, hs, rfl⟩ := List.mem_map.1 hx
    have := hb s hs
    exact List.mem_range.2 (by omega)
  have := List.Nodup.length_le_of_subset this h2
  simpa using this
theorem write_l0 (at0 : Int) (text : List Int) (k : List Int → Option (Int × DiskS)) (h0 : 0 ≤ at0) (hb : at0 + text.length ≤ 1048576) : ∀ (fuel : Nat) (s : Int) (ds : List Int), 0 ≤ s → at0 + text.length ≤ (s + fuel - 1) * 64 → 1 ≤ fuel → s ≤ 16384 → ds.Nodup → (∀ x ∈ ds, 0 ≤ x ∧ x < 16384) →
    ∃ ds', disk_Disk_Write_l0 at0 text k fuel (s, ds) = k ds' ∧ ds'.Nodup ∧ (∀ x ∈ ds', 0 ≤ x ∧ x < 16384) ∧ ∀ x, x ∈ ds' ↔ x ∈ ds ∨ (text ≠ [] ∧ s ≤ x ∧ x * 64 < at0 + text.length)
  | 0, s, ds, _, _, h1, _, _, _ => absurd h1 (by omega)
  | fuel + 1, s, ds, hs, hf, _, hs2, hn, hd => by
    simp only [disk_Disk_Write_l0, bnd_eq]
    rw [wrap_i64 (n := s * 64) (by omega) (by omega), wrap_i64 (n := at0 + text.length) (by omega) (by omega)]
    by_cases hc : (decide (s * 64 < at0 + (text.length : Int)) && (text != [])) = true
    · rw [if_pos hc]
      have hlt : s * 64 < at0 + (text.length : Int) := by simp only [Bool.and_eq_true, decide_eq_true_eq] at hc; exact hc.1
      rw [if_pos (by have := nodup_len hn hd; omega), wrap_i64 (n := s + 1) (by omega) (by omega)]
      have hfu : 1 ≤ fuel := by
        rcases Nat.eq_zero_or_pos fuel with h | h
        · subst h; simp at hf; omega
        · exact h
      have htx : text ≠ [] := by simp only [Bool.and_eq_true, bne_iff_ne] at hc; exact hc.2
      obtain ⟨ds', e1, e2, e3, e4⟩ := write_l0 at0 text k h0 hb fuel (s + 1) (kput s ds) (by omega) (by simp only [Int.natCast_add, Int.cast_ofNat_Int] at hf; omega) hfu (by omega) (kput_nodup hn) (fun x hx => by
        rcases kput_mem.1 hx with rfl | hx
        · omega
        · exact hd x hx)
      refine ⟨ds', e1, e2, e3, fun x => (e4 x).trans ?_⟩
      rw [kput_mem]
      constructor
      · rintro ((rfl | h) | ⟨h1, h2, h3⟩)
        · exact .inr ⟨htx, by omega, by omega⟩
        · exact .inl h
        · exact .inr ⟨h1, by omega, h3⟩
      · rintro (h | ⟨h1, h2, h3⟩)
        · exact .inl (.inr h)
        · rcases Int.lt_or_eq_of_le h2 with h | h
          · exact .inr ⟨h1, by omega, h3⟩
          · exact .inl (.inl h.symm)
    · rw [if_neg hc]
      refine ⟨ds, rfl, hn, hd, fun x => ⟨.inl, fun h => h.elim id fun ⟨h1, h2, h3⟩ => absurd ?_ hc⟩⟩
      simp only [Bool.and_eq_true, decide_eq_true_eq, bne_iff_ne]
      exact ⟨by omega, h1⟩
end Sx
namespace Sx
open Go

/-- a text laid into another one, which it may make longer -/
def over (seen : List Int) (i : Nat) (text : List Int) : List Int := seen.take i ++ text ++ seen.drop (i + text.length)
theorem over_length {seen text : List Int} {i : Nat} (h : i ≤ seen.length) : (over seen i text).length = max seen.length (i + text.length) := by
  unfold over
  simp only [List.length_append, List.length_take, List.length_drop]
  omega
theorem laid_over {xs ys : List Int} {i : Nat} (h : i + ys.length ≤ xs.length) : laidOver xs i ys = over xs i ys := by
  unfold laidOver over
  rw [List.take_of_length_le (l := ys) (by omega)]
theorem over_zeros {seen text : List Int} {i : Nat} (h : i ≤ seen.length) (h2 : seen.length < i + text.length) (m : Nat) (hm : m = i + text.length - seen.length) : over (seen ++ List.replicate m 0) i text = over seen i text := by
  unfold over
  rw [List.take_append_of_le_length h, List.drop_of_length_le (by simp; omega), List.drop_of_length_le (by omega)]
theorem byteOk_app2 {a b : List Int} (ha : byteOk a) (hb : byteOk b) : byteOk (a ++ b) := fun x hx => (List.mem_append.1 hx).elim (ha x) (hb x)
theorem byteOk_of_subset {a b : List Int} (hs : a ⊆ b) (hb : byteOk b) : byteOk a := fun x hx => hb x (hs hx)
theorem over_bytes {seen text : List Int} {i : Nat} (hs : byteOk seen) (ht : byteOk text) : byteOk (over seen i text) :=
  byteOk_app2 (byteOk_app2 (byteOk_of_subset (List.take_subset _ _) hs) ht) (byteOk_of_subset (List.drop_subset _ _) hs)

def seenOf (fs : List (List Int × FileS)) (name : List Int) : List Int := ((pget .str name fs).map (·.1)).getD []
def safeOf (fs : List (List Int × FileS)) (name : List Int) : List Int := ((pget .str name fs).map (·.2.1)).getD []

def dirtyOf (fs : List (List Int × FileS)) (name : List Int) : List Int := match pget .str name fs with | none => [] | some f => f.2.2
theorem Write_core2 {D : DiskS} {name text : List Int} {at0 : Int} (hok : FsOk D.2.1) (ho : D.2.2.2.2.2.1 = false) (hn : disk_isName name = some true) (ht : byteOk text) (h0 : 0 ≤ at0) (h1 : at0 ≤ (seenOf D.2.1 name).length) (hb : at0 + text.length ≤ 1048576)
    (hroom : pget .str name D.2.1 = none → D.2.1.length < 16) (hcap : ∀ u, disk_Disk_Used D = some u → u + max 0 (at0 + text.length - (seenOf D.2.1 name).length) ≤ D.1) :
    ∃ e a fl o p fs', disk_Disk_counted D 1 = some (e, (D.1, D.2.1, a, D.2.2.2.1, fl, o, p)) ∧ disk_Disk_Write D name at0 text = some (if e = 0 then (0, (D.1, fs', a, D.2.2.2.1, fl, o, p)) else (e, (D.1, D.2.1, a, D.2.2.2.1, fl, o, p))) ∧
      FsOk fs' ∧ (∃ ds, pget .str name fs' = some (over (seenOf D.2.1 name) at0.toNat text, safeOf D.2.1 name, ds) ∧ ∀ x, x ∈ ds ↔ x ∈ dirtyOf D.2.1 name ∨ (text ≠ [] ∧ at0 / 64 ≤ x ∧ x * 64 < at0 + text.length)) ∧ (∀ b, name ≠ b → pget .str b fs' = pget .str b D.2.1) ∧ fs'.map (·.1) = (if (pget .str name D.2.1).isSome then D.2.1 else pput .str name ([], [], []) D.2.1).map (·.1) := by
  obtain ⟨e, a, fl, o, p, hc, _⟩ := counted_eq D 1
  obtain ⟨u, hu, hu0, hu1⟩ := Used_eq hok
  have hlen := hok.2.2
  replace hcap := hcap u hu
  -- the file as it is ahead of the writing
  have hbase : ∃ fs1 f1, fs1 = (if (pget .str name D.2.1).isSome then D.2.1 else pput .str name ([], [], []) D.2.1) ∧ pget .str name fs1 = some f1 ∧ f1.1 = seenOf D.2.1 name ∧ f1.2.1 = safeOf D.2.1 name ∧ f1.2.2 = dirtyOf D.2.1 name ∧ FsOk fs1 ∧ FOk f1 ∧ ∀ b, name ≠ b → pget .str b fs1 = pget .str b D.2.1 := by
    cases hg : pget .str name D.2.1 with
    | some f => exact ⟨_, f, by simp, hg, by simp [seenOf, hg], by simp [safeOf, hg], by simp [dirtyOf, hg], hok, hok.get hg, fun _ _ => rfl⟩
    | none =>
      have hf0 : FOk ([], [], []) := ⟨(fun x hx => by cases hx), (fun x hx => by cases hx), by simp, by simp, by simp, (fun x hx => by cases hx)⟩
      exact ⟨_, ([], [], []), by simp, get_pput_self _ _ _, by simp [seenOf, hg], by simp [safeOf, hg], by simp [dirtyOf, hg], hok.put hf0 hroom, hf0, fun b hb => get_pput_ne hb _ _⟩
  obtain ⟨fs1, f1, hfs1, hg1, hs1, hsf, hdf, hok1, hfo, hne1⟩ := hbase
  have hsl : f1.1.length ≤ 1048576 := hfo.2.2.1
  rw [← hs1] at h1 hcap
  -- .. made longer
  have hlong : ∃ fs2 z, (fs2 = if at0 + (text.length : Int) > f1.1.length then pset .str name (f1.1 ++ List.replicate z 0, f1.2.1, f1.2.2) fs1 else fs1) ∧ z = Int.toNat (at0 + text.length - f1.1.length) := ⟨_, _, rfl, rfl⟩
  obtain ⟨fs2, z, hfs2, hz⟩ := hlong
  let f2s : List Int := if at0 + (text.length : Int) > f1.1.length then f1.1 ++ List.replicate z 0 else f1.1
  have hg2 : pget .str name fs2 = some (f2s, f1.2.1, f1.2.2) := by
    rw [hfs2]
    show _ = some ((if _ then _ else _), _, _)
    split
    · exact get_pset hg1
    · exact hg1
  have hne2 : ∀ b, name ≠ b → pget .str b fs2 = pget .str b D.2.1 := fun b hb => by
    rw [hfs2]
    split
    · rw [pget_pset_ne hb, hne1 b hb]
    · exact hne1 b hb
  have hk2 : fs2.map (·.1) = fs1.map (·.1) := by
    rw [hfs2]
    split
    · rw [pset_keys]
    · rfl
  have hf2l : (f2s.length : Int) = max (f1.1.length : Int) (at0 + text.length) := by
    show ((if _ then _ else _ : List Int).length : Int) = _
    split
    · rename_i hgt
      simp only [List.length_append, List.length_replicate, hz]; omega
    · omega
  have hf2b : byteOk f2s := by
    show byteOk (if _ then _ else _)
    split
    · exact byteOk_app2 hfo.1 (fun x hx => by rw [(List.mem_replicate.1 hx).2]; decide)
    · exact hfo.1
  have hov : laidOver f2s (Int.toNat at0) text = over f1.1 (Int.toNat at0) text := by
    rw [laid_over (by omega)]
    show over (if _ then _ else _) _ _ = _
    split
    · rename_i hgt
      exact over_zeros (by omega) (by omega) z (by rw [hz]; omega)
    · rfl
  have hok2 : FsOk fs2 := by
    rw [hfs2]
    split
    · rename_i hgt
      refine hok1.set ⟨byteOk_app2 hfo.1 (fun x hx => by rw [(List.mem_replicate.1 hx).2]; decide), hfo.2.1, ?_, ?_, hfo.2.2.2.2⟩
      · simp only [List.length_append, List.length_replicate, hz]; omega
      · have := hfo.2.2.2.1
        simp only [List.length_append, List.length_replicate]; omega
    · exact hok1
  -- the dirty sectors
  obtain ⟨ds, hds, hdn, hdb, hdm⟩ := write_l0 at0 text (fun o30 => some ((0 : Int), (D.1, pset .str name (laidOver f2s (Int.toNat at0) text, f1.2.1, o30) fs2, a, D.2.2.2.1, fl, o, p))) h0 hb (text.length + 2) (at0 / 64) f1.2.2 (by omega) (by omega) (by omega) (by omega) hfo.2.2.2.2.1 hfo.2.2.2.2.2
  refine ⟨e, a, fl, o, p, pset .str name (laidOver f2s (Int.toNat at0) text, f1.2.1, ds) fs2, hc, ?_, ?_, ⟨ds, ?_⟩, fun b hb => by rw [pget_pset_ne hb, hne2 b hb], by rw [pset_keys, hk2, hfs1]⟩
  · have hsz : (0 : Int) ≤ (f1.1.length : Int) := by omega
    have hw1 : IntKind.wrap .i64 (at0 + (text.length : Int)) = at0 + text.length := wrap_i64 (by omega) (by omega)
    have hw2 : IntKind.wrap .i64 (at0 + (text.length : Int) - f1.1.length) = at0 + text.length - f1.1.length := wrap_i64 (by omega) (by omega)
    have hw3 : IntKind.wrap .i64 (u + max 0 (at0 + (text.length : Int) - f1.1.length)) = u + max 0 (at0 + (text.length : Int) - f1.1.length) := wrap_i64 (by omega) (by omega)
    have htd : IntKind.wrap .i64 (Int.tdiv at0 64) = at0 / 64 := by rw [Int.tdiv_eq_ediv_of_nonneg h0]; exact wrap_i64 (by omega) (by omega)
    -- what follows the checks
    have tail : ∀ (n0 : Int), n0 = f1.1.length → ∀ k16fs : List (List Int × FileS), k16fs = fs1 → (fun (o17 : List (List Int × FileS)) => if (decide (at0 + (text.length : Int) > n0)) = true then ((pget .str name o17).bind fun (f41 : FileS) => if 0 ≤ at0 + (text.length : Int) - n0 ∧ (List.length f41.1 + Int.toNat (at0 + (text.length : Int) - n0)) * 1 ≤ 140737488355328 then
        ((pget .str name (pset .str name ((f41.1 ++ List.replicate (Int.toNat (at0 + (text.length : Int) - n0)) 0), f41.2.1, f41.2.2) o17)).bind fun (f22 : FileS) => if (0 : Int) ≤ at0 ∧ at0 ≤ (List.length f22.1 : Int) ∧ (List.length f22.1 : Int) ≤ (List.length f22.1 : Int) then disk_Disk_Write_l0 at0 text (fun o30 => some ((0 : Int), (D.1, (pset .str name ((laidOver f22.1 (Int.toNat at0) text), f22.2.1, o30) (pset .str name ((f41.1 ++ List.replicate (Int.toNat (at0 + (text.length : Int) - n0)) 0), f41.2.1, f41.2.2) o17)), a, D.2.2.2.1, fl, o, p))) (text.length + 2) (at0 / 64, f22.2.2) else none) else none) else
        ((pget .str name o17).bind fun (f22 : FileS) => if (0 : Int) ≤ at0 ∧ at0 ≤ (List.length f22.1 : Int) ∧ (List.length f22.1 : Int) ≤ (List.length f22.1 : Int) then disk_Disk_Write_l0 at0 text (fun o30 => some ((0 : Int), (D.1, (pset .str name ((laidOver f22.1 (Int.toNat at0) text), f22.2.1, o30) o17), a, D.2.2.2.1, fl, o, p))) (text.length + 2) (at0 / 64, f22.2.2) else none)) k16fs = some (0, (D.1, pset .str name (laidOver f2s (Int.toNat at0) text, f1.2.1, ds) fs2, a, D.2.2.2.1, fl, o, p)) := by
      rintro n0 hn0 k16fs rfl
      subst hn0
      rw [← hds]
      show (if _ then _ else _) = _
      by_cases hgt : at0 + (text.length : Int) > f1.1.length
      · have e1 : f2s = f1.1 ++ List.replicate z 0 := if_pos hgt
        have e2 : fs2 = pset .str name (f1.1 ++ List.replicate z 0, f1.2.1, f1.2.2) k16fs := by rw [hfs2, if_pos hgt]
        rw [if_pos (by simpa using hgt), hg1]
        simp only [Option.bind_some]
        rw [if_pos (by omega), ← hz, ← e2, hg2]
        simp only [Option.bind_some]
        rw [if_pos (by omega)]
      · have e1 : f2s = f1.1 := if_neg hgt
        have e2 : fs2 = k16fs := by rw [hfs2, if_neg hgt]
        rw [if_neg (by simpa using hgt)]
        rw [e2] at hg2
        rw [hg2]
        simp only [Option.bind_some]
        rw [if_pos (by omega), e2]
    unfold disk_Disk_Write
    rw [if_neg (by simp [ho])]
    simp only [bnd_eq, hn, hu, hc, Option.bind_some]
    have hne : ∀ n0 : Int, n0 = f1.1.length → (if (decide (at0 < 0) || decide (at0 > n0)) = true then some (1, D)
    else
      if decide (IntKind.i64.wrap (at0 + ↑text.length) > 1048576) = true then some (3, D)
      else
        if decide (IntKind.i64.wrap (u + max 0 (IntKind.i64.wrap (IntKind.i64.wrap (at0 + ↑text.length) - n0))) > D.fst) = true then some (41, D)
        else if (e != 0) = true then some (e, D.fst, D.snd.fst, a, D.snd.snd.snd.fst, fl, o, p) else some (0, (D.1, pset .str name (laidOver f2s (Int.toNat at0) text, f1.2.1, ds) fs2, a, D.2.2.2.1, fl, o, p))) = some (if e = 0 then (0, (D.1, pset .str name (laidOver f2s (Int.toNat at0) text, f1.2.1, ds) fs2, a, D.2.2.2.1, fl, o, p)) else (e, (D.1, D.2.1, a, D.2.2.2.1, fl, o, p))) := by
      rintro n0 rfl
      rw [hw1, hw2, hw3, if_neg (by simp only [Bool.or_eq_true, decide_eq_true_eq]; omega), if_neg (by simp only [decide_eq_true_eq]; omega), if_neg (by simp only [decide_eq_true_eq]; omega)]
      by_cases he : e = 0
      · rw [if_neg (by simp [he]), if_pos he]
      · rw [if_pos (by simpa using he), if_neg he]
    cases hg : pget .str name D.2.1 with
    | none =>
      rw [hg] at hfs1
      simp only [Option.isSome_none, Bool.false_eq_true, if_false] at hfs1
      have hfe : f1 = ([], [], []) := by rw [hfs1, get_pput_self] at hg1; exact (Option.some.inj hg1).symm
      have hl0 : (0 : Int) = (f1.1.length : Int) := by rw [hfe]; rfl
      have hr := hroom hg
      rw [← hne 0 hl0, ← tail 0 hl0 _ hfs1.symm]
      simp only [Option.isSome_none, Bool.false_eq_true, if_false, Bool.not_true, Bool.false_or, Bool.not_false, if_true]
      have hm : D.2.1.length ≤ most := by simp only [most]; omega
      have h16 : ¬ decide ((D.2.1.length : Int) ≥ 16) = true := by simp only [decide_eq_true_eq]; omega
      have h62 : D.2.1.length < 4611686018427387904 := by omega
      simp only [if_pos hm, if_neg h16, if_pos h62, htd, hw1]
      have hw2' : IntKind.wrap .i64 (at0 + (text.length : Int) - 0) = at0 + text.length - 0 := wrap_i64 (by omega) (by omega)
      simp only [hw2']
    | some f =>
      rw [hg] at hfs1
      simp only [Option.isSome_some, if_true] at hfs1
      have hff : f1 = f := by rw [hfs1, hg] at hg1; exact (Option.some.inj hg1).symm
      have hl0 : (f.1.length : Int) = (f1.1.length : Int) := by rw [hff]
      rw [← hne _ hl0, ← tail _ hl0 _ hfs1.symm]
      simp only [Option.isSome_some, if_true, Option.bind_some, Bool.not_true, Bool.false_or, Bool.false_eq_true, if_false]
      have hw2' : IntKind.wrap .i64 (at0 + (text.length : Int) - f.1.length) = at0 + text.length - f.1.length := by rw [hl0]; exact hw2
      simp only [htd, hw1, hw2', hg, Option.bind_some]
  · refine hok2.set ⟨?_, hfo.2.1, ?_, ?_, hdn, hdb⟩
    · show byteOk (laidOver _ _ _)
      rw [hov]; exact over_bytes hfo.1 ht
    · show (laidOver _ _ _).length ≤ _
      rw [hov, over_length (by omega)]; omega
    · show f1.2.1.length ≤ (laidOver _ _ _).length
      have := hfo.2.2.2.1
      rw [hov, over_length (by omega)]; omega
  · refine ⟨by rw [get_pset hg2, hov, hs1, hsf], fun x => ?_⟩
    rw [← hdf]; exact hdm x
theorem Write_core {D : DiskS} {name text : List Int} {at0 : Int} (hok : FsOk D.2.1) (ho : D.2.2.2.2.2.1 = false) (hn : disk_isName name = some true) (ht : byteOk text) (h0 : 0 ≤ at0) (h1 : at0 ≤ (seenOf D.2.1 name).length) (hb : at0 + text.length ≤ 1048576)
    (hroom : pget .str name D.2.1 = none → D.2.1.length < 16) (hcap : ∀ u, disk_Disk_Used D = some u → u + max 0 (at0 + text.length - (seenOf D.2.1 name).length) ≤ D.1) :
    ∃ e a fl o p fs', disk_Disk_counted D 1 = some (e, (D.1, D.2.1, a, D.2.2.2.1, fl, o, p)) ∧ disk_Disk_Write D name at0 text = some (if e = 0 then (0, (D.1, fs', a, D.2.2.2.1, fl, o, p)) else (e, (D.1, D.2.1, a, D.2.2.2.1, fl, o, p))) ∧
      FsOk fs' ∧ (∃ ds, pget .str name fs' = some (over (seenOf D.2.1 name) at0.toNat text, safeOf D.2.1 name, ds)) ∧ (∀ b, name ≠ b → pget .str b fs' = pget .str b D.2.1) ∧ fs'.map (·.1) = (if (pget .str name D.2.1).isSome then D.2.1 else pput .str name ([], [], []) D.2.1).map (·.1) := by
  obtain ⟨e, a, fl, o, p, fs', g1, g2, g3, ⟨ds, g4, _⟩, g5, g6⟩ := Write_core2 hok ho hn ht h0 h1 hb hroom hcap
  exact ⟨e, a, fl, o, p, fs', g1, g2, g3, ⟨ds, g4⟩, g5, g6⟩
theorem Write_eq {D : DiskS} {name text : List Int} {at0 : Int} (hok : FsOk D.2.1) (ho : D.2.2.2.2.2.1 = false) (hn : disk_isName name = some true) (ht : byteOk text) (h0 : 0 ≤ at0) (h1 : at0 ≤ (seenOf D.2.1 name).length) (hb : at0 + text.length ≤ 1048576)
    (hroom : pget .str name D.2.1 = none → D.2.1.length < 16) (hcap : (D.2.1.length + 1 : Int) * 1048576 ≤ D.1) :
    ∃ e a fl o p fs', disk_Disk_counted D 1 = some (e, (D.1, D.2.1, a, D.2.2.2.1, fl, o, p)) ∧ disk_Disk_Write D name at0 text = some (if e = 0 then (0, (D.1, fs', a, D.2.2.2.1, fl, o, p)) else (e, (D.1, D.2.1, a, D.2.2.2.1, fl, o, p))) ∧
      FsOk fs' ∧ (∃ ds, pget .str name fs' = some (over (seenOf D.2.1 name) at0.toNat text, safeOf D.2.1 name, ds)) ∧ (∀ b, name ≠ b → pget .str b fs' = pget .str b D.2.1) ∧ fs'.map (·.1) = (if (pget .str name D.2.1).isSome then D.2.1 else pput .str name ([], [], []) D.2.1).map (·.1) :=
  Write_core hok ho hn ht h0 h1 hb hroom fun u hu => by
    obtain ⟨u', hu', hu0, hu1⟩ := Used_eq hok
    rw [hu] at hu'
    cases hu'
    omega
end Sx
namespace Sx
open Go

theorem dname_l0 (a : List Int) (hl : a.length < 4611686018427387904) (k : Unit → Option Bool) (hk : ∃ b, k () = some b) : ∀ (j i : Nat), i + j = a.length → ∃ b, disk_isName_l0 a k (j + 1) (i : Int) = some b
  | 0, i, h => by
    unfold disk_isName_l0
    rw [if_neg (by simp only [decide_eq_true_eq]; omega)]
    exact hk
  | j + 1, i, h => by
    unfold disk_isName_l0
    rw [if_pos (by simp only [decide_eq_true_eq]; omega)]
    have hin : (0 : Int) ≤ (i : Int) ∧ (i : Int) < (a.length : Int) := by omega
    have ew : IntKind.wrap .i64 ((i : Int) + 1) = ((i + 1 : Nat) : Int) := wrap_i64 (by omega) (by omega)
    obtain ⟨b, hb⟩ := dname_l0 a hl k hk j (i + 1) (by omega)
    simp only [bnd_eq, ew, hb, if_pos hin]
    by_cases h1 : decide (List.getD a (Int.toNat (i : Int)) 0 < 33) = true
    · rw [if_pos h1]; exact ⟨_, rfl⟩
    · rw [if_neg h1]
      by_cases h2 : decide (List.getD a (Int.toNat (i : Int)) 0 > 126) = true
      · rw [if_pos h2]; exact ⟨_, rfl⟩
      · rw [if_neg h2]; exact ⟨_, rfl⟩
theorem isName_any (a : List Int) (hl : a.length < 4611686018427387904) : ∃ b, disk_isName a = some b := by
  unfold disk_isName
  simp only [bnd_eq]
  have ef : Int.toNat ((a.length : Int) - 0) + 1 = a.length + 1 := by omega
  rw [ef]
  exact dname_l0 a hl _ ⟨_, rfl⟩ a.length 0 (by omega)

theorem found_off {D : DiskS} (name : List Int) (ho : D.2.2.2.2.2.1 = true) : disk_Disk_found D name = some 9 := by
  unfold disk_Disk_found
  rw [if_pos ho]

theorem Size_eq {D : DiskS} {name : List Int} (ho : D.2.2.2.2.2.1 = false) : disk_Disk_Size D name = some (match pget .str name D.2.1 with | none => (0, 5) | some f => ((f.1.length : Int), 0)) := by
  unfold disk_Disk_Size
  rw [found_eq name ho]
  cases h : pget .str name D.2.1 with
  | none => rfl
  | some f => rfl
theorem List_eq {D : DiskS} (hok : FsOk D.2.1) (ho : D.2.2.2.2.2.1 = false) : disk_Disk_List D = some (D.2.1.map (·.1)) := by
  unfold disk_Disk_List
  have := hok.2.2
  rw [if_neg (by simp [ho]), if_pos (by omega)]
theorem Dirty_eq {D : DiskS} {name : List Int} (hok : FsOk D.2.1) (ho : D.2.2.2.2.2.1 = false) : disk_Disk_Dirty D name = some (match pget .str name D.2.1 with | none => [] | some f => f.2.2) := by
  unfold disk_Disk_Dirty
  rw [found_eq name ho]
  cases h : pget .str name D.2.1 with
  | none => rfl
  | some f =>
    have hf := hok.get h
    have := nodup_len hf.2.2.2.2.1 hf.2.2.2.2.2
    simp only [Option.isSome_some, if_true, Option.bind_some]
    rw [if_neg (by decide), if_pos (by omega)]

/-- some of the bytes -/
theorem Read_at {D : DiskS} {name : List Int} {at0 n : Int} {f : FileS} (hok : FsOk D.2.1) (ho : D.2.2.2.2.2.1 = false) (hg : pget .str name D.2.1 = some f) (h0 : 0 ≤ at0) (h1 : at0 ≤ f.1.length) (hn : 0 ≤ n) : disk_Disk_Read D name at0 n = some ((f.1.drop at0.toNat).take n.toNat, 0) := by
  have hl := (hok.get hg).2.2.1
  unfold disk_Disk_Read
  rw [found_eq name ho, hg]
  simp only [Option.isSome_some, if_true, Option.bind_some, bnd_eq]
  rw [if_neg (by decide), if_neg (by simp only [Bool.or_eq_true, decide_eq_true_eq]; omega)]
  by_cases he : at0 ≥ (f.1.length : Int)
  · rw [if_pos (by simpa using he)]
    have : List.drop at0.toNat f.1 = [] := List.drop_eq_nil_of_le (by omega)
    rw [this, List.take_nil]
  · rw [if_neg (by simpa using he), if_pos (by omega), Int.toNat_natCast, List.take_length]
    rw [if_pos (by refine ⟨by omega, ?_, ?_⟩ <;> omega)]
    rcases Int.le_total n ((List.drop at0.toNat f.1).length : Int) with h | h
    · rw [Int.min_eq_left h]
    · rw [Int.min_eq_right h, Int.toNat_natCast, List.take_length, List.take_of_length_le (by omega)]
/-- a Read never does anything -/
theorem Read_any {D : DiskS} {name : List Int} {at0 n : Int} (hok : FsOk D.2.1) : ∃ r, disk_Disk_Read D name at0 n = some r := by
  rcases Bool.eq_false_or_eq_true D.2.2.2.2.2.1 with ho | ho
  · exact ⟨_, by unfold disk_Disk_Read; rw [found_off name ho]; rfl⟩
  ·
    cases hg : pget .str name D.2.1 with
    | none => exact ⟨_, by unfold disk_Disk_Read; rw [found_eq name ho, hg]; rfl⟩
    | some f =>
      by_cases h : 0 ≤ at0 ∧ at0 ≤ f.1.length ∧ 0 ≤ n
      · exact ⟨_, Read_at hok ho hg h.1 h.2.1 h.2.2⟩
      · unfold disk_Disk_Read
        rw [found_eq name ho, hg]
        simp only [Option.isSome_some, if_true, Option.bind_some, bnd_eq]
        rw [if_neg (by decide)]
        split
        · exact ⟨_, rfl⟩
        · rename_i hc
          simp only [Bool.or_eq_true, decide_eq_true_eq] at hc
          rw [if_pos (by simp only [decide_eq_true_eq]; omega)]
          exact ⟨_, rfl⟩
end Sx
namespace Sx
open Go

/-! ### the bytes used -/
def tot (fs : List (List Int × FileS)) : Nat := ((fs.map (·.1)).map fun k => (seenOf fs k).length).sum
theorem used_sum (D : DiskS) : ∀ (ks : List (List Int)) (s : Int), (∀ k ∈ ks, ∃ f, pget .str k D.2.1 = some f ∧ f.1.length ≤ 1048576) → 0 ≤ s → s + ks.length * 1048576 < 4611686018427387904 →
    foldK (disk_Disk_Used_l0 D) ks s = some (s + ((ks.map fun k => (seenOf D.2.1 k).length).sum : Nat))
  | [], s, _, _, _ => by show some s = _; simp
  | k :: ks, s, hk, h0, hb => by
    obtain ⟨f, hf, hl⟩ := hk k (by simp)
    simp only [List.length_cons, Int.natCast_add, Int.cast_ofNat_Int] at hb
    have e : disk_Disk_Used_l0 D k s = some (s + f.1.length) := by
      unfold disk_Disk_Used_l0
      simp only [hf, Option.bind_some, bnd_eq]
      rw [wrap_i64 (by omega) (by omega)]
    have ih := used_sum D ks (s + f.1.length) (fun k' hk' => hk k' (by simp [hk'])) (by omega) (by omega)
    have hs : (seenOf D.2.1 k).length = f.1.length := by simp [seenOf, hf]
    show (disk_Disk_Used_l0 D k s).bind _ = _
    rw [e]
    refine ih.trans ?_
    simp only [List.map_cons, List.sum_cons, hs]
    congr 1
    omega
theorem Used_tot {D : DiskS} (h : FsOk D.2.1) : disk_Disk_Used D = some (tot D.2.1 : Int) := by
  have h1 := used_sum D (D.2.1.map (·.1)) 0 (fun k hk => by
    cases hg : pget .str k D.2.1 with
    | none => exact absurd hk (get_none.1 hg)
    | some f => exact ⟨f, rfl, (h.get hg).2.2.1⟩) (by omega) (by simp only [List.length_map]; have := h.2.2; omega)
  unfold disk_Disk_Used
  simp only [bnd_eq, h1, Option.bind_some, tot]
  congr 1
  omega
theorem sum_up {f g : List Int → Nat} {a : List Int} : ∀ {ks : List (List Int)} {m : Nat}, ks.Nodup → (∀ k ∈ ks, k ≠ a → f k ≤ g k) → (a ∈ ks → f a ≤ g a + m) → (ks.map f).sum ≤ (ks.map g).sum + m
  | [], _, _, _, _ => by simp
  | k :: ks, m, hn, h1, h2 => by
    simp only [List.map_cons, List.sum_cons]
    have hn' := List.nodup_cons.1 hn
    by_cases hk : k = a
    · subst hk
      have := sum_up (f := f) (g := g) (a := k) (m := 0) hn'.2 (fun q hq => h1 q (List.mem_cons_of_mem _ hq)) (fun h => absurd h hn'.1)
      have := h2 List.mem_cons_self
      omega
    · have := sum_up (f := f) (g := g) (a := a) (m := m) hn'.2 (fun q hq => h1 q (List.mem_cons_of_mem _ hq)) (fun h => h2 (List.mem_cons_of_mem _ h))
      have := h1 k List.mem_cons_self hk
      omega
theorem sum_less {f g : List Int → Nat} {a : List Int} : ∀ {ks : List (List Int)} {m : Nat}, a ∈ ks → (∀ k ∈ ks, f k ≤ g k) → f a + m ≤ g a → (ks.map f).sum + m ≤ (ks.map g).sum
  | [], _, h, _, _ => by cases h
  | k :: ks, m, h, h1, h2 => by
    simp only [List.map_cons, List.sum_cons]
    by_cases hk : a ∈ ks
    · have := sum_less (f := f) (g := g) (a := a) (m := m) hk (fun q hq => h1 q (List.mem_cons_of_mem _ hq)) h2
      have := h1 k List.mem_cons_self
      omega
    · have hka : a = k := by rcases List.mem_cons.1 h with h | h; exact h; exact absurd h hk
      subst hka
      have hle : (ks.map f).sum ≤ (ks.map g).sum := by
        have : ∀ (l : List (List Int)), (∀ k ∈ l, f k ≤ g k) → (l.map f).sum ≤ (l.map g).sum := fun l => by
          induction l with
          | nil => intro _; simp
          | cons x l ih => intro h; simp only [List.map_cons, List.sum_cons]; have := ih (fun q hq => h q (List.mem_cons_of_mem _ hq)); have := h x List.mem_cons_self; omega
        exact this ks fun q hq => h1 q (List.mem_cons_of_mem _ hq)
      omega
theorem tot_same {fs fs' : List (List Int × FileS)} (hk : fs'.map (·.1) = fs.map (·.1)) (h : ∀ k ∈ fs.map (·.1), (seenOf fs' k).length = (seenOf fs k).length) : tot fs' = tot fs := by
  unfold tot
  rw [hk, List.map_congr_left (f := fun k => (seenOf fs' k).length) (g := fun k => (seenOf fs k).length) h]
theorem tot_write {fs fs' : List (List Int × FileS)} {name : List Int} (hok : FsOk fs) (hne : ∀ b, name ≠ b → pget .str b fs' = pget .str b fs) (hk : fs'.map (·.1) = (if (pget .str name fs).isSome then fs else pput .str name ([], [], []) fs).map (·.1)) :
    tot fs' ≤ tot fs + ((seenOf fs' name).length - (seenOf fs name).length) := by
  have hs : ∀ b, name ≠ b → seenOf fs' b = seenOf fs b := fun b hb => by unfold seenOf; rw [hne b hb]
  unfold tot
  cases hg : pget .str name fs with
  | some f =>
    rw [hg] at hk
    rw [hk]
    exact sum_up (a := name) hok.2.1 (fun k _ hk => by rw [hs k fun h => hk h.symm]; exact Nat.le_refl _) (fun _ => by omega)
  | none =>
    rw [hg] at hk
    have hz : seenOf fs name = [] := by simp [seenOf, hg]
    have hp : (fs'.map (·.1)).Perm (name :: fs.map (·.1)) := by
      rw [hk]
      refine (pins_keys_perm _ _).trans ?_
      have hd : pdel .str name fs = fs := by
        rw [pdel_eq]
        refine List.filter_eq_self.2 fun p hp => ?_
        have hn := get_none.1 hg
        have : p.1 ≠ name := fun h => hn (h ▸ List.mem_map.2 ⟨p, hp, rfl⟩)
        simpa using this
      rw [hd]
    rw [(hp.map _).sum_nat, hz]
    simp only [List.map_cons, List.sum_cons, List.length_nil, Nat.sub_zero]
    have := sum_up (f := fun k => (seenOf fs' k).length) (g := fun k => (seenOf fs k).length) (a := name) (m := 0) hok.2.1 (fun k _ hk => by rw [hs k fun h => hk h.symm]; exact Nat.le_refl _) (fun h => absurd h (get_none.1 hg))
    omega

end Sx
namespace Sx
open Go

/-! ### a slot -/
theorem lay64_l0 (v : Nat) (K : List Int → Option (List Int × Int × Unit)) : ∀ (m : Nat) (b : List Int), m ≤ 8 → b.length + m ≤ 1000 → cursor_lay_uint64_l0 (v : Int) K (m + 1) ((m : Int) - 1, b) = K (b ++ be v m)
  | 0, b, _, _ => by
    simp only [cursor_lay_uint64_l0]
    rw [if_neg (by simp)]
    simp [be]
  | m + 1, b, hm, hb => by
    rw [cursor_lay_uint64_l0]
    have e0 : (((m + 1 : Nat) : Int) - 1) = (m : Int) := by omega
    have e3 : IntKind.wrap .i64 (8 * (m : Int)) = ((8 * m : Nat) : Int) := by rw [wrap_i64 (by omega) (by omega)]; omega
    simp only [e0, e3]
    rw [if_pos (by simp), if_pos (by omega), if_pos (by simp only [List.length_singleton]; omega), bnd_eq, shr_u64 v _ (by omega), wrap_u8, wrap_i64 (by omega) (by omega)]
    rw [be_succ, cast_mod, lay64_l0 v K m _ (by omega) (by simp; omega), List.append_assoc]
    rfl
theorem lay64 (v : Nat) (b : List Int) (hb : b.length ≤ 900) : cursor_lay_uint64 (b, 0, ()) (v : Int) 8 = some (b ++ be v 8, 0, ()) := by
  unfold cursor_lay_uint64
  rw [if_neg (by simp)]
  simp only [bnd_eq]
  have e1 : IntKind.wrap .i64 ((8 : Int) - 1) = ((8 : Nat) : Int) - 1 := by decide
  rw [e1]
  exact lay64_l0 v _ 8 b (by omega) (by omega)
theorem lay32_l0 (v : Nat) (hv : v < 4294967296) (K : List Int → Option (List Int × Int × Unit)) : ∀ (m : Nat) (b : List Int), m ≤ 8 → b.length + m ≤ 1000 → cursor_lay_uint32_l0 (v : Int) K (m + 1) ((m : Int) - 1, b) = K (b ++ be v m)
  | 0, b, _, _ => by
    simp only [cursor_lay_uint32_l0]
    rw [if_neg (by simp)]
    simp [be]
  | m + 1, b, hm, hb => by
    rw [cursor_lay_uint32_l0]
    have e0 : (((m + 1 : Nat) : Int) - 1) = (m : Int) := by omega
    have e3 : IntKind.wrap .i64 (8 * (m : Int)) = ((8 * m : Nat) : Int) := by rw [wrap_i64 (by omega) (by omega)]; omega
    simp only [e0, e3, wrap_u64 (n := (v : Int)) (by omega) (by omega)]
    rw [if_pos (by simp), if_pos (by omega), if_pos (by simp only [List.length_singleton]; omega), bnd_eq, shr_u64 v _ (by omega), wrap_u8, wrap_i64 (by omega) (by omega)]
    rw [be_succ, cast_mod, lay32_l0 v hv K m _ (by omega) (by simp; omega), List.append_assoc]
    rfl
theorem lay32 (v : Nat) (hv : v < 4294967296) (b : List Int) (hb : b.length ≤ 900) : cursor_lay_uint32 (b, 0, ()) (v : Int) 4 = some (b ++ be v 4, 0, ()) := by
  unfold cursor_lay_uint32
  rw [if_neg (by simp)]
  simp only [bnd_eq]
  have e1 : IntKind.wrap .i64 ((4 : Int) - 1) = ((4 : Nat) : Int) - 1 := by decide
  rw [e1]
  exact lay32_l0 v hv _ 4 b (by omega) (by omega)

/-- the sum of a number's bytes -/
def csum (v : Int) : Nat := (on 0#32 (be (un v) 8)).toNat
/-- a number's slot -/
def slotB (v : Int) : List Int := be (un v) 8 ++ be (csum v) 4 ++ List.replicate 52 0
theorem slotB_len (v : Int) : (slotB v).length = 64 := by simp [slotB, be_len]
theorem slotB_byte (v : Int) : byteOk (slotB v) := byteOk_app2 (byteOk_app2 (be_byte _ _) (be_byte _ _)) fun x hx => by rw [List.eq_of_mem_replicate hx]; omega
theorem csum_eq (v : Int) : crc_Sum (be (un v) 8) = some (csum v : Int) := Sum_eq _ (be_byte _ _) (by simp [be_len])
theorem csum_lt (v : Int) : csum v < 4294967296 := (on 0#32 (be (un v) 8)).isLt
theorem rep52 : strings_Repeat [0] 52 = some (List.replicate 52 0) := by decide +kernel
theorem mark_slot_eq (v : Int) : mark_slot v = some (slotB v) := by
  have h1 : cursor_Writer_I64 ([], 0, ()) v = some (be (un v) 8, 0, ()) := by
    unfold cursor_Writer_I64
    rw [un_eq, lay64 (un v) [] (by simp)]; rfl
  have h2 : cursor_Writer_Out (be (un v) 8, 0, ()) = some (be (un v) 8, 0) := rfl
  have h3 : cursor_Writer_U32 (be (un v) 8, 0, ()) (csum v : Int) = some (be (un v) 8 ++ be (csum v) 4, 0, ()) := by
    unfold cursor_Writer_U32
    rw [lay32 _ (csum_lt v) _ (by simp [be_len])]; rfl
  have h4 : cursor_Writer_Out (be (un v) 8 ++ be (csum v) 4, 0, ()) = some (be (un v) 8 ++ be (csum v) 4, 0) := rfl
  unfold mark_slot
  have h0 : cursor_New = some ([], 0, ()) := rfl
  simp only [h0, Option.bind_some, h1, h2, csum_eq, h3, h4, rep52]
  rw [if_pos (by simp [be_len, most])]
  rfl

/-! ### the law's slot -/
theorem eslot_l1 (v : Int) (K : List Int → Option (List Int)) : ∀ (m : Nat) (b : List Int), m ≤ 8 → b.length + m ≤ 1000 → escrowlaw19_slot_l1 v K (m + 1) ((m : Int) - 1, b) = K (b ++ be (un v) m)
  | 0, b, _, _ => by
    simp only [escrowlaw19_slot_l1]
    rw [if_neg (by simp)]
    simp [be]
  | m + 1, b, hm, hb => by
    rw [escrowlaw19_slot_l1]
    have e0 : (((m + 1 : Nat) : Int) - 1) = (m : Int) := by omega
    have e2 : IntKind.wrap .u64 (m : Int) = (m : Int) := wrap_u64 (by omega) (by omega)
    have e3 : IntKind.wrap .u64 (8 * (m : Int)) = ((8 * m : Nat) : Int) := by rw [wrap_u64 (by omega) (by omega)]; omega
    simp only [e0, e2, e3]
    rw [if_pos (by simp), if_pos (by simp only [List.length_singleton]; omega), bnd_eq, shr_i64s v _ (by omega), wrap_u8, wrap_i64 (by omega) (by omega), un_byte v m (by omega)]
    rw [be_succ, eslot_l1 v K m _ (by omega) (by simp; omega), List.append_assoc]
    rfl
theorem eslot_l0 (K : List Int → Option (List Int)) : ∀ (j : Nat) (b : List Int), b.length + j = 64 → escrowlaw19_slot_l0 K (j + 1) b = K (b ++ List.replicate j 0)
  | 0, b, h => by
    rw [escrowlaw19_slot_l0, if_neg (by simp only [decide_eq_true_eq]; omega)]
    simp
  | j + 1, b, h => by
    rw [escrowlaw19_slot_l0, if_pos (by simp only [decide_eq_true_eq]; omega), if_pos (by simp only [List.length_singleton]; omega), eslot_l0 K j _ (by simp; omega), List.append_assoc]
    rfl
theorem eslot_eq (v : Int) : escrowlaw19_slot v = some (slotB v) := by
  have hl := csum_lt v
  have e4 : [IntKind.wrap .u8 (ishr .u32 (csum v : Int) 24), IntKind.wrap .u8 (ishr .u32 (csum v : Int) 16), IntKind.wrap .u8 (ishr .u32 (csum v : Int) 8), IntKind.wrap .u8 (csum v : Int)] = be (csum v) 4 := by
    have h1 := shr_u32 (csum v) 24 (by omega)
    have h2 := shr_u32 (csum v) 16 (by omega)
    have h3 := shr_u32 (csum v) 8 (by omega)
    simp only [Int.cast_ofNat_Int] at h1 h2 h3
    rw [h1, h2, h3, wrap_u8, wrap_u8, wrap_u8, wrap_u8]
    have : be (csum v) 4 = [((csum v / 2 ^ 24 % 256 : Nat) : Int), ((csum v / 2 ^ 16 % 256 : Nat) : Int), ((csum v / 2 ^ 8 % 256 : Nat) : Int), ((csum v / 1 % 256 : Nat) : Int)] := rfl
    rw [this]
    simp only [Nat.div_one, cast_mod]
  unfold escrowlaw19_slot
  simp only [bnd_eq]
  have e8 := eslot_l1 v (fun o2 => (crc_Sum o2).bind fun (r4 : Int) => if (List.length o2 + List.length [(IntKind.wrap .u8 (ishr .u32 r4 24)), (IntKind.wrap .u8 (ishr .u32 r4 16)), (IntKind.wrap .u8 (ishr .u32 r4 8)), (IntKind.wrap .u8 r4)]) * 1 ≤ 140737488355328 then escrowlaw19_slot_l0 (fun o8 => some o8) (Int.toNat (64 - (List.length (o2 ++ [(IntKind.wrap .u8 (ishr .u32 r4 24)), (IntKind.wrap .u8 (ishr .u32 r4 16)), (IntKind.wrap .u8 (ishr .u32 r4 8)), (IntKind.wrap .u8 r4)]) : Int)) + 1) (o2 ++ [(IntKind.wrap .u8 (ishr .u32 r4 24)), (IntKind.wrap .u8 (ishr .u32 r4 16)), (IntKind.wrap .u8 (ishr .u32 r4 8)), (IntKind.wrap .u8 r4)]) else none) 8 [] (by omega) (by simp)
  refine e8.trans ?_
  simp only [List.nil_append, csum_eq, Option.bind_some, e4]
  rw [if_pos (by simp [be_len])]
  have ef : Int.toNat (64 - ((be (un v) 8 ++ be (csum v) 4).length : Int)) + 1 = 52 + 1 := by simp [be_len]
  rw [ef, eslot_l0 _ 52 _ (by simp [be_len])]
  rfl

/-! ### reading a slot -/
theorem value_l0 {b : List Int} (h : byteOk b) (hl : b.length = 8) (K : Int → Option Int) : ∀ (j i : Nat), i + j = 8 → cursor_value_uint64_l0 b K (j + 1) (pre b i, (i : Int)) = K (pre b 8)
  | 0, i, e => by
    obtain rfl : i = 8 := by omega
    simp only [cursor_value_uint64_l0]
    rw [if_neg (by simp only [decide_eq_true_eq]; omega)]
  | j + 1, i, e => by
    have h1 := pre_bound h i
    have h2 := fgetD_byte h i
    have hb : (256 : Int) ^ i ≤ 72057594037927936 := by
      have : i ≤ 7 := by omega
      rcases i with _ | _ | _ | _ | _ | _ | _ | _ | i <;> first | decide | omega
    obtain ⟨x, hx⟩ := Int.eq_ofNat_of_zero_le h1.1
    obtain ⟨c, hc⟩ := Int.eq_ofNat_of_zero_le h2.1
    rw [cursor_value_uint64_l0, if_pos (by simp only [decide_eq_true_eq]; omega), if_pos (by omega), Int.toNat_natCast, hc, wrap_u64 (by omega) (by omega), hx, ior_byte64 x c (by omega) (by omega), bnd_eq, wrap_i64 (by omega) (by omega), show ((i : Int) + 1) = ((i + 1 : Nat) : Int) by omega]
    have : ((x * 256 + c : Nat) : Int) = pre b (i + 1) := by simp only [pre, hx, hc]; omega
    rw [this]
    exact value_l0 h hl K j (i + 1) (by omega)
theorem value_eq {b : List Int} (h : byteOk b) (hl : b.length = 8) : cursor_value_uint64 b = some (pre b 8) := by
  unfold cursor_value_uint64
  simp only [bnd_eq]
  have ef : Int.toNat ((b.length : Int) - 0) + 1 = 8 + 1 := by omega
  rw [ef]
  exact value_l0 h hl _ 8 0 (by omega)
/-- the number that stands in a slot, and whether it is whole -/
def rdV (s : List Int) : Int := IntKind.wrap .i64 (pre s 8)
def isR (v : Int) : Bool := decide (v ≥ -1) && decide (v ≤ 281474976710655)
def rdW (s : List Int) : Bool := isR (rdV s) && ((slotB (rdV s)).take 12 == s.take 12)
theorem right_eq (v : Int) : mark_right v = some (isR v) := by
  unfold mark_right
  rw [bnd_eq]; rfl
theorem take_slot (v : Int) : (slotB v).take 12 = be (un v) 8 ++ be (csum v) 4 := by
  unfold slotB
  rw [List.take_append_of_le_length (by simp [be_len]), List.take_of_length_le (by simp [be_len])]
theorem I64_eq {s : List Int} (hs : byteOk s) (hl : s.length = 12) : cursor_Reader_I64 (s, 0, ()) = some (rdV s, s.drop 8, 0, ()) := by
  have h1 : cursor_Reader_take (s, 0, ()) 8 = some (s.take 8, s.drop 8, 0, ()) := by
    unfold cursor_Reader_take
    rw [if_neg (by simp), if_neg (by simp only [decide_eq_true_eq]; omega), if_pos (by simp only; omega), bnd_eq, if_pos (by simp only; omega)]
    simp only [List.drop_zero, Int.toNat_natCast]
    rw [List.take_of_length_le (l := s) (i := s.length) (Nat.le_refl _)]
    rfl
  unfold cursor_Reader_I64
  rw [h1]
  simp only [Option.bind_some]
  rw [value_eq (fun x hx => hs x (List.mem_of_mem_take hx)) (by rw [List.length_take]; omega), pre_take (by omega)]
  rfl
theorem read_eq {b : List Int} {k : Nat} (hb : byteOk b) (hk : k < 2) (hl : b.length = 128) : mark_read b (k : Int) = some (rdV (b.drop (64 * k)), rdW (b.drop (64 * k)), ()) := by
  have e1 : IntKind.wrap .i64 (64 * (k : Int)) = ((64 * k : Nat) : Int) := by rw [wrap_i64 (by omega) (by omega)]; omega
  have e2 : List.take b.length b = b := List.take_length
  have hd : (b.drop (64 * k)).length = 128 - 64 * k := by rw [List.length_drop, hl]
  have hs : byteOk ((b.drop (64 * k)).take 12) := fun x hx => hb x (List.mem_of_mem_drop (List.mem_of_mem_take hx))
  have hsl : ((b.drop (64 * k)).take 12).length = 12 := by rw [List.length_take]; omega
  have hrv : rdV ((b.drop (64 * k)).take 12) = rdV (b.drop (64 * k)) := by unfold rdV; rw [pre_take (by omega)]
  unfold mark_read
  simp only [e1, Int.toNat_natCast, e2]
  rw [if_pos (by omega), if_pos (by omega)]
  simp only [bnd_eq, List.drop_zero, cursor_Open, Option.bind_some, I64_eq hs hsl, hrv, right_eq, mark_slot_eq]
  unfold rdW
  cases h : isR (rdV (b.drop (64 * k))) with
  | true =>
    rw [if_pos rfl, if_pos (by rw [slotB_len]; omega)]
    rfl
  | false => rw [if_neg (by decide)]; rfl
/-- a slot is whole, and tells its number -/
theorem rd_slot {v : Int} (hv : -9223372036854775808 ≤ v ∧ v ≤ 9223372036854775807) (r : List Int) : rdV (slotB v ++ r) = v := by
  unfold rdV slotB
  rw [List.append_assoc, List.append_assoc, pre_be _ (un_lt v), un_back hv]
theorem rw_slot {v : Int} (hv : isR v = true) (r : List Int) : rdV (slotB v ++ r) = v ∧ rdW (slotB v ++ r) = true := by
  have hr : -1 ≤ v ∧ v ≤ 281474976710655 := by unfold isR at hv; simp only [Bool.and_eq_true, decide_eq_true_eq] at hv; omega
  have e := rd_slot (v := v) (by omega) r
  refine ⟨e, ?_⟩
  unfold rdW
  rw [e, hv, List.take_append_of_le_length (by rw [slotB_len]; omega)]
  simp
end Sx
namespace Sx
open Go

abbrev MarkS := Unit × List Int × Int × Int × Unit
def mark0 : MarkS := ((), [], 0, 0, ())
def tmpOf (name : List Int) : List Int := name ++ [46, 116, 109, 112]
theorem Raise_eq (m : MarkS) (n : Int) (D : DiskS) (hm : m.2.2.2.1 = 0 ∨ m.2.2.2.1 = 1) : mark_Mark_Raise m n D = if isR n = false then some (1, m, D) else if n ≤ m.2.2.1 then some (0, m, D) else
    (disk_Disk_Write D m.2.1 (64 * m.2.2.2.1) (slotB n)).bind fun r => if r.1 ≠ 0 then some (r.1, m, r.2) else (disk_Disk_Sync r.2 m.2.1).bind fun q => if q.1 ≠ 0 then some (q.1, m, q.2) else some (0, ((), m.2.1, n, 1 - m.2.2.2.1, ()), q.2) := by
  have e1 : IntKind.wrap .i64 (64 * m.2.2.2.1) = 64 * m.2.2.2.1 := wrap_i64 (by omega) (by omega)
  have e2 : IntKind.wrap .i64 (1 - m.2.2.2.1) = 1 - m.2.2.2.1 := wrap_i64 (by omega) (by omega)
  unfold mark_Mark_Raise
  simp only [right_eq, Option.bind_some, mark_slot_eq, e1, e2]
  cases h : isR n with
  | false => rw [if_pos (by decide), if_pos rfl]
  | true =>
    rw [if_neg (show ¬ (!true) = true by decide), if_neg (show ¬ true = false by decide)]
    by_cases h1 : n ≤ m.2.2.1
    · rw [if_pos (by simpa using h1), if_pos h1]
    · rw [if_neg (by simpa using h1), if_neg h1]
      simp only [bne_iff_ne]
theorem rep2 (l : List Int) (hl : l.length = 64) : strings_Repeat l 2 = some (l ++ l) := by
  unfold strings_Repeat
  rw [if_pos (by rw [hl]; decide)]
  have : Int.toNat 2 = 2 := rfl
  rw [this]
  simp [List.replicate]
theorem laid_eq (D : DiskS) (name : List Int) (hn : name.length ≤ 1000) : mark_laid D name = (disk_Disk_Remove D (tmpOf name)).bind fun r1 => if r1.1 ≠ 0 ∧ r1.1 ≠ 5 then some ((1, mark0), r1.1, r1.2) else
    (disk_Disk_Write r1.2 (tmpOf name) 0 (slotB (-1) ++ slotB (-1))).bind fun r5 => if r5.1 ≠ 0 then some ((1, mark0), r5.1, r5.2) else
    (disk_Disk_Sync r5.2 (tmpOf name)).bind fun r6 => if r6.1 ≠ 0 then some ((1, mark0), r6.1, r6.2) else
    (disk_Disk_Rename r6.2 (tmpOf name) name).bind fun r7 => if r7.1 ≠ 0 then some ((1, mark0), r7.1, r7.2) else some ((0, ((), name, -1, 1, ())), 0, r7.2) := by
  have hc : List.length name + List.length ([46, 116, 109, 112] : List Nat) ≤ most := by simp [most]; omega
  unfold mark_laid
  simp only [mark_slot_eq, Option.bind_some, rep2 _ (slotB_len _), bnd_eq, hc, if_true, bne_iff_ne, Bool.and_eq_true]
  rfl
/-- what is found in both slots: nothing, or a number and the slot that is written next -/
def pick (b : List Int) : Option (Int × Int) :=
  if rdW b = false ∧ rdW (b.drop 64) = false then none
  else if rdW (b.drop 64) = true ∧ (rdW b = false ∨ rdV b < rdV (b.drop 64)) then some (rdV (b.drop 64), 0) else some (rdV b, 1)
theorem Open_there {D : DiskS} {name : List Int} {f : FileS} (hok : FsOk D.2.1) (ho : D.2.2.2.2.2.1 = false) (hf : pget .str name D.2.1 = some f) (hl : f.1.length = 128) : mark_Open D name = match pick f.1 with
    | none => some ((1, mark0), 190, D)
    | some p => (disk_Disk_Sync D name).bind fun r => if r.1 ≠ 0 then some ((1, mark0), r.1, r.2) else some ((0, ((), name, p.1, p.2, ())), 0, r.2) := by
  have hb := (hok.get hf).1
  have hrd := Read_at (n := 128) hok ho hf (by omega : (0 : Int) ≤ 0) (by omega) (by omega)
  have e0 : List.take (Int.toNat 128) (List.drop (Int.toNat 0) f.1) = f.1 := by
    show List.take 128 (List.drop 0 f.1) = f.1
    rw [List.drop_zero, List.take_of_length_le (by omega)]
  rw [e0] at hrd
  have r0 := read_eq (k := 0) hb (by omega) hl
  have r1 := read_eq (k := 1) hb (by omega) hl
  simp only [Int.natCast_zero, Nat.mul_zero, List.drop_zero, Nat.mul_one] at r0 r1
  have r1' : mark_read f.1 1 = some (rdV (f.1.drop 64), rdW (f.1.drop 64), ()) := r1
  have w0 : IntKind.wrap .i64 ((0 : Int) + 1) = 1 := by decide
  have w1 : IntKind.wrap .i64 ((1 : Int) + 1) = 2 := by decide
  have hlp : ∀ K : List (Int × Bool × Unit) → Option ((Int × MarkS) × Int × DiskS), mark_Open_l0 (f.1, 0) K (Int.toNat (2 - 0) + 1) (0, List.replicate 2 ((0, false, ()) : Int × Bool × Unit)) = K [(rdV f.1, rdW f.1, ()), (rdV (f.1.drop 64), rdW (f.1.drop 64), ())] := fun K => by
    show mark_Open_l0 (f.1, 0) K 3 (0, _) = _
    rw [mark_Open_l0, if_pos (by simp), r0, Option.bind_some, if_pos (by simp), w0, mark_Open_l0, if_pos (by simp), r1', Option.bind_some, if_pos (by simp), w1, mark_Open_l0, if_neg (by simp)]
    rfl
  unfold mark_Open
  rw [Size_eq ho, hf]
  simp only [Option.bind_some]
  rw [if_neg (by decide), if_neg (by decide), if_neg (by simp only [bne_iff_ne, ne_eq, Decidable.not_not]; omega), hrd, Option.bind_some, if_neg (by simp), bnd_eq]
  refine (hlp _).trans ?_
  simp only [bnd_eq, List.getD_cons_zero, List.getD_cons_succ]
  unfold pick
  cases h0 : rdW f.1 with
  | false =>
    cases h1 : rdW (f.1.drop 64) with
    | false => simp [mark0]
    | true => simp [mark0]
  | true =>
    cases h1 : rdW (f.1.drop 64) with
    | false => simp [mark0]
    | true =>
      by_cases hv : rdV f.1 < rdV (f.1.drop 64)
      · simp [mark0, hv]
      · simp [mark0, hv]
theorem Open_none {D : DiskS} {name : List Int} (ho : D.2.2.2.2.2.1 = false) (hf : pget .str name D.2.1 = none) : mark_Open D name = mark_laid D name := by
  unfold mark_Open
  rw [Size_eq ho, hf]
  simp only [Option.bind_some]
  rw [if_pos (by decide)]
  cases mark_laid D name <;> rfl
theorem Open_other {D : DiskS} {name : List Int} {f : FileS} (ho : D.2.2.2.2.2.1 = false) (hf : pget .str name D.2.1 = some f) (hl : f.1.length ≠ 128) : mark_Open D name = some ((1, mark0), 190, D) := by
  unfold mark_Open
  rw [Size_eq ho, hf]
  simp only [Option.bind_some]
  rw [if_neg (by decide), if_neg (by decide), if_pos (by simp only [bne_iff_ne]; omega)]
  rfl
theorem Open_off {D : DiskS} {name : List Int} (ho : D.2.2.2.2.2.1 = true) : mark_Open D name = some ((1, mark0), 9, D) := by
  unfold mark_Open
  have hs : disk_Disk_Size D name = some (0, 9) := by unfold disk_Disk_Size; rw [found_off _ ho]; rfl
  rw [hs]
  simp only [Option.bind_some]
  rw [if_neg (by decide), if_pos (by decide)]
  rfl
end Sx
namespace Sx
open Go

/-- a disk with one file, all of it safe -/
def oneD (cap w : Int) (name : List Int) (f : FileS) : DiskS := (cap, [(name, f)], 0, w, 0, false, false)
theorem one_of {name : List Int} {f : FileS} {fs : List (List Int × FileS)} (hk : fs.map (·.1) = [name]) (hg : pget .str name fs = some f) : fs = [(name, f)] := by
  match fs, hk with
  | [(k, v)], hk =>
    simp only [List.map_cons, List.map_nil, List.cons.injEq, and_true] at hk
    subst hk
    rw [get_cons, if_pos rfl] at hg
    have : v = f := Option.some.inj hg
    rw [this]
theorem one_ok1 {name : List Int} {f : FileS} (hf : FOk f) : FsOk [(name, f)] := ⟨fun p hp => by rw [List.mem_singleton.1 hp]; exact hf, by simp, by simp⟩
theorem one_get (name : List Int) (f : FileS) : pget .str name [(name, f)] = some f := by rw [get_cons, if_pos rfl]
theorem fok_clean {x : List Int} (hx : byteOk x) (hl : x.length ≤ 1048576) : FOk (x, x, []) := ⟨hx, hx, hl, Nat.le_refl _, List.nodup_nil, fun s hs => by cases hs⟩
theorem one_write {cap w : Int} {name x y text : List Int} {ds : List Int} {at0 : Nat} (hf : FOk (x, y, ds)) (hn : disk_isName name = some true) (ht : byteOk text) (h1 : at0 ≤ x.length) (hb : at0 + text.length ≤ 1048576) (hc : (max x.length (at0 + text.length) : Int) ≤ cap) :
    ∃ ds', disk_Disk_Write (oneD cap w name (x, y, ds)) name (at0 : Int) text = some (0, oneD cap w name (over x at0 text, y, ds')) ∧ FOk (over x at0 text, y, ds') := by
  have hok : FsOk (oneD cap w name (x, y, ds)).2.1 := one_ok1 hf
  have hs : seenOf [(name, (x, y, ds))] name = x := by unfold seenOf; rw [one_get]; rfl
  have hsf : safeOf [(name, (x, y, ds))] name = y := by unfold safeOf; rw [one_get]; rfl
  obtain ⟨e, a, fl, o, p, fs', g1, g2, g3, ⟨ds', g4, _⟩, _, g6⟩ := Write_core2 (D := oneD cap w name (x, y, ds)) (name := name) (text := text) (at0 := (at0 : Int)) hok rfl hn ht (by omega) (by show (at0 : Int) ≤ (seenOf [(name, (x, y, ds))] name).length; rw [hs]; omega) (by omega) (fun h => by rw [show pget .str name (oneD cap w name (x, y, ds)).2.1 = _ from one_get _ _] at h; cases h) (fun u hu => by
    rw [Used_tot hok] at hu
    cases hu
    have e1 : tot (oneD cap w name (x, y, ds)).2.1 = x.length := by
      show tot [(name, (x, y, ds))] = _
      simp [tot, hs]
    rw [e1]
    show (x.length : Int) + max 0 ((at0 : Int) + text.length - (seenOf [(name, (x, y, ds))] name).length) ≤ cap
    rw [hs]
    omega)
  rw [counted_calm 1 rfl rfl] at g1
  simp only [Option.some.injEq] at g1
  obtain ⟨c0, c1⟩ := Prod.mk.inj g1
  have e1 : (0 : Int) = a := congrArg (fun x : DiskS => x.2.2.1) c1
  have e2 : (0 : Int) = fl := congrArg (fun x : DiskS => x.2.2.2.2.1) c1
  have e3 : false = o := congrArg (fun x : DiskS => x.2.2.2.2.2.1) c1
  have e4 : false = p := congrArg (fun x : DiskS => x.2.2.2.2.2.2) c1
  subst e1 e2 e3 e4
  rw [if_pos c0.symm] at g2
  have hk : fs'.map (·.1) = [name] := by rw [g6, show pget .str name (oneD cap w name (x, y, ds)).2.1 = _ from one_get _ _]; rfl
  have g4' : pget .str name fs' = some (over x at0 text, y, ds') := by
    rw [g4]
    show some (over (seenOf [(name, (x, y, ds))] name) (Int.toNat (at0 : Int)) text, safeOf [(name, (x, y, ds))] name, ds') = _
    rw [hs, hsf, Int.toNat_natCast]
  exact ⟨ds', by rw [g2, one_of hk g4']; rfl, g3.get g4'⟩
theorem one_sync {cap w : Int} {name : List Int} {f : FileS} (hf : FOk f) : disk_Disk_Sync (oneD cap w name f) name = some (0, oneD cap w name (f.1, f.1, [])) := by
  obtain ⟨e, a, fl, o, p, g1, g2⟩ := Sync_eq (D := oneD cap w name f) (name := name) (one_ok1 hf) rfl (one_get _ _)
  rw [counted_calm 2 rfl rfl] at g1
  simp only [Option.some.injEq] at g1
  obtain ⟨c0, c1⟩ := Prod.mk.inj g1
  have e1 : (0 : Int) = a := congrArg (fun x : DiskS => x.2.2.1) c1
  have e2 : (0 : Int) = fl := congrArg (fun x : DiskS => x.2.2.2.2.1) c1
  have e3 : false = o := congrArg (fun x : DiskS => x.2.2.2.2.2.1) c1
  have e4 : false = p := congrArg (fun x : DiskS => x.2.2.2.2.2.2) c1
  subst e1 e2 e3 e4
  rw [g2, if_pos c0.symm]
  have : pset .str name (f.1, f.1, []) [(name, f)] = [(name, (f.1, f.1, []))] := by rw [pset_cons, if_pos rfl]; rfl
  show some ((0 : Int), ((cap, pset .str name (f.1, f.1, []) [(name, f)], 0, w, 0, false, false) : DiskS)) = _
  rw [this]; rfl
theorem S2_len : (slotB (-1) ++ slotB (-1)).length = 128 := by simp [slotB_len]
theorem S2_byte : byteOk (slotB (-1) ++ slotB (-1)) := byteOk_app2 (slotB_byte _) (slotB_byte _)
/-- a mark is laid where there is no file, or only a spare -/
theorem laid_calm {cap w : Int} {name : List Int} {fs : List (List Int × FileS)} (hfs : fs = [] ∨ ∃ f, fs = [(tmpOf name, f)]) (hn : disk_isName name = some true) (ht : disk_isName (tmpOf name) = some true) (hl : name.length ≤ 1000) (hc : 128 ≤ cap) :
    mark_laid (cap, fs, 0, w, 0, false, false) name = some ((0, ((), name, -1, 1, ())), 0, oneD cap w name (slotB (-1) ++ slotB (-1), slotB (-1) ++ slotB (-1), [])) := by
  have hS := S2_len
  have hSb := S2_byte
  generalize hSS : slotB (-1) ++ slotB (-1) = S at hS hSb
  have hrm : ∃ e, (e = 0 ∨ e = 5) ∧ disk_Disk_Remove (cap, fs, 0, w, 0, false, false) (tmpOf name) = some (e, (cap, [], 0, w, 0, false, false)) := by
    rw [Remove_eq (D := (cap, fs, 0, w, 0, false, false)) rfl]
    rcases hfs with rfl | ⟨f, rfl⟩
    · exact ⟨5, .inr rfl, rfl⟩
    · refine ⟨0, .inl rfl, ?_⟩
      have h1 : (pget .str (tmpOf name) [(tmpOf name, f)]).isSome = true := by rw [one_get]; rfl
      have h2 : pdel .str (tmpOf name) [(tmpOf name, f)] = [] := by rw [pdel_eq]; simp
      show some (if (pget .str (tmpOf name) [(tmpOf name, f)]).isSome = true then ((0 : Int), ((cap, pdel .str (tmpOf name) [(tmpOf name, f)], 0, w, 0, false, false) : DiskS)) else (5, (cap, [(tmpOf name, f)], 0, w, 0, false, false))) = _
      rw [if_pos h1, h2]
  obtain ⟨e, he, hrm⟩ := hrm
  have h0ok : FsOk ([] : List (List Int × FileS)) := ⟨(fun p hp => by cases hp), List.nodup_nil, by simp⟩
  obtain ⟨e', a, fl, o, p, fs', g1, g2, g3, ⟨ds', g4, _⟩, _, g6⟩ := Write_core2 (D := (cap, [], 0, w, 0, false, false)) (name := tmpOf name) (text := S) (at0 := 0) h0ok rfl ht hSb (by omega) (by omega) (by omega) (fun _ => by simp) (fun u hu => by
    rw [Used_tot (D := (cap, [], 0, w, 0, false, false)) h0ok] at hu
    cases hu
    show ((tot ([] : List (List Int × FileS)) : Nat) : Int) + max 0 (0 + (S.length : Int) - (seenOf ([] : List (List Int × FileS)) (tmpOf name)).length) ≤ cap
    have e1 : seenOf ([] : List (List Int × FileS)) (tmpOf name) = [] := rfl
    have e2 : tot ([] : List (List Int × FileS)) = 0 := rfl
    rw [e1, e2, hS]; simp only [List.length_nil]; omega)
  rw [counted_calm 1 rfl rfl] at g1
  simp only [Option.some.injEq] at g1
  obtain ⟨c0, c1⟩ := Prod.mk.inj g1
  have e1 : (0 : Int) = a := congrArg (fun x : DiskS => x.2.2.1) c1
  have e2 : (0 : Int) = fl := congrArg (fun x : DiskS => x.2.2.2.2.1) c1
  have e3 : false = o := congrArg (fun x : DiskS => x.2.2.2.2.2.1) c1
  have e4 : false = p := congrArg (fun x : DiskS => x.2.2.2.2.2.2) c1
  subst e1 e2 e3 e4
  rw [if_pos c0.symm] at g2
  have hk : fs'.map (·.1) = [tmpOf name] := by rw [g6]; rfl
  have g4' : pget .str (tmpOf name) fs' = some (S, [], ds') := by
    rw [g4]
    show some (over [] 0 S, ([] : List Int), ds') = _
    have : over [] 0 S = S := by simp [over]
    rw [this]
  have hfs' := one_of hk g4'
  have hsy := one_sync (cap := cap) (w := w) (name := tmpOf name) (g3.get g4')
  have hrn := Rename_eq (D := oneD cap w (tmpOf name) (S, S, [])) (a := tmpOf name) (b := name) (one_ok1 (fok_clean hSb (by omega))) rfl (one_get _ _) hn
  have hd : pdel .str (tmpOf name) [(tmpOf name, ((S, S, []) : FileS))] = [] := by rw [pdel_eq]; simp
  rw [laid_eq _ _ hl, hSS, hrm]
  simp only [Option.bind_some]
  rw [if_neg (by rcases he with rfl | rfl <;> simp), g2, hfs']
  simp only [Option.bind_some]
  rw [if_neg (by simp)]
  have hsy' : disk_Disk_Sync (cap, [(tmpOf name, S, [], ds')], 0, w, 0, false, false) (tmpOf name) = some (0, oneD cap w (tmpOf name) (S, S, [])) := hsy
  rw [hsy']
  simp only [Option.bind_some]
  rw [if_neg (by simp), hrn]
  simp only [Option.bind_some]
  rw [if_neg (by simp)]
  show some ((0, ((), name, (-1 : Int), (1 : Int), ())), (0 : Int), ((cap, pput .str name (S, S, []) (pdel .str (tmpOf name) [(tmpOf name, ((S, S, []) : FileS))]), 0, w, 0, false, false) : DiskS)) = _
  rw [hd]
  rfl
end Sx
namespace Sx
open Go

theorem thead_eq : escrowlaw19_head = some true := by decide +kernel
theorem tname : disk_isName [109] = some true ∧ disk_isName (tmpOf [109]) = some true := by decide +kernel

/-! ### the law's reading of a slot -/
theorem ior_byteS (x c : Nat) (hx : x < 72057594037927936) (hc : c < 256) : ior .i64 (ishl .i64 (x : Int) 8) (c : Int) = IntKind.wrap .i64 ((x * 256 + c : Nat) : Int) := by
  have e0 : min (Int.toNat 8) (IntKind.bits .i64) = 8 := by decide
  have e2 : (BitVec.ofInt 64 (ishl .i64 (x : Int) 8) ||| BitVec.ofInt 64 (c : Int)).toNat = x * 256 + c := by
    rw [BitVec.toNat_or]
    have a1 : (BitVec.ofInt 64 (ishl .i64 (x : Int) 8)).toNat = 2 ^ 8 * x := by
      have : BitVec.ofInt 64 (ishl .i64 (x : Int) 8) = BitVec.ofInt 64 ((x : Int) * 256) := by
        unfold ishl
        rw [e0]
        apply BitVec.eq_of_toInt_eq
        rw [BitVec.toInt_ofInt, BitVec.toInt_ofInt]
        have hw : ∀ n : Int, Int.bmod (IntKind.wrap .i64 n) (2 ^ 64) = Int.bmod n (2 ^ 64) := fun n => by
          simp only [IntKind.wrap, IntKind.bits, IntKind.signed, Bool.true_and, decide_eq_true_eq]
          split
          · show Int.bmod (n % 18446744073709551616 - 18446744073709551616) 18446744073709551616 = Int.bmod n 18446744073709551616
            simp only [Int.bmod]
            split <;> split <;> omega
          · show Int.bmod (n % 18446744073709551616) 18446744073709551616 = Int.bmod n 18446744073709551616
            simp only [Int.bmod]
            split <;> split <;> omega
        exact hw _
      rw [this]
      simp
      omega
    have a2 : (BitVec.ofInt 64 (c : Int)).toNat = c := by simp; omega
    rw [a1, a2, ← Nat.two_pow_add_eq_or_of_lt (by omega : c < 2 ^ 8)]; omega
  unfold ior
  show IntKind.wrap .i64 ((BitVec.ofInt 64 (ishl .i64 (x : Int) 8) ||| BitVec.ofInt 64 (c : Int)).toNat : Int) = _
  rw [e2]
theorem whole_l0 {b : List Int} (h : byteOk b) (hl : b.length = 12) (K : Int → Option (Int × Bool)) : escrowlaw19_whole_l0 b K 9 (0, 0) = K (IntKind.wrap .i64 (pre b 8)) := by
  have step : ∀ (i : Nat) (m : Nat), i < 8 → escrowlaw19_whole_l0 b K (m + 1) (pre b i, (i : Int)) = escrowlaw19_whole_l0 b K m (IntKind.wrap .i64 (pre b (i + 1)), ((i + 1 : Nat) : Int)) := fun i m hi => by
    have h1 := pre_bound h i
    have h2 := fgetD_byte h i
    have hb : (256 : Int) ^ i ≤ 72057594037927936 := by
      have : i ≤ 7 := by omega
      rcases i with _ | _ | _ | _ | _ | _ | _ | _ | i <;> first | decide | omega
    obtain ⟨x, hx⟩ := Int.eq_ofNat_of_zero_le h1.1
    obtain ⟨c, hc⟩ := Int.eq_ofNat_of_zero_le h2.1
    rw [escrowlaw19_whole_l0, if_pos (by simp only [decide_eq_true_eq]; omega), if_pos (by omega), Int.toNat_natCast, hc, wrap_i64 (n := (c : Int)) (by omega) (by omega), hx, ior_byteS x c (by omega) (by omega), bnd_eq, bnd_eq, wrap_i64 (n := (i : Int) + 1) (by omega) (by omega), show ((i : Int) + 1) = ((i + 1 : Nat) : Int) by omega]
    have : ((x * 256 + c : Nat) : Int) = pre b (i + 1) := by simp only [pre, hx, hc]; omega
    rw [this]
  have small : ∀ i : Nat, i ≤ 7 → IntKind.wrap .i64 (pre b i) = pre b i := fun i hi => by
    have h1 := pre_bound h i
    have hb : (256 : Int) ^ i ≤ 72057594037927936 := by
      rcases i with _ | _ | _ | _ | _ | _ | _ | _ | i <;> first | decide | omega
    exact wrap_i64 (by omega) (by omega)
  have s0 := step 0 8 (by omega)
  have s1 := step 1 7 (by omega)
  have s2 := step 2 6 (by omega)
  have s3 := step 3 5 (by omega)
  have s4 := step 4 4 (by omega)
  have s5 := step 5 3 (by omega)
  have s6 := step 6 2 (by omega)
  have s7 := step 7 1 (by omega)
  rw [small 1 (by omega)] at s0
  rw [small 2 (by omega)] at s1
  rw [small 3 (by omega)] at s2
  rw [small 4 (by omega)] at s3
  rw [small 5 (by omega)] at s4
  rw [small 6 (by omega)] at s5
  rw [small 7 (by omega)] at s6
  have e8 : escrowlaw19_whole_l0 b K 1 (IntKind.wrap .i64 (pre b 8), ((8 : Nat) : Int)) = K (IntKind.wrap .i64 (pre b 8)) := by
    rw [escrowlaw19_whole_l0, if_neg (by simp)]
  exact s0.trans (s1.trans (s2.trans (s3.trans (s4.trans (s5.trans (s6.trans (s7.trans e8)))))))
theorem whole_eq {b : List Int} {k : Nat} (hb : byteOk b) (hk : k < 2) (hl : b.length = 128) : escrowlaw19_whole b (k : Int) = some (rdV (b.drop (64 * k)), rdW (b.drop (64 * k))) := by
  have e1 : IntKind.wrap .i64 (64 * (k : Int)) = ((64 * k : Nat) : Int) := by rw [wrap_i64 (by omega) (by omega)]; omega
  have e2 : IntKind.wrap .i64 (((64 * k : Nat) : Int) + 12) = ((64 * k + 12 : Nat) : Int) := by rw [wrap_i64 (by omega) (by omega)]; omega
  have es : List.drop (64 * k) (List.take (64 * k + 12) b) = (b.drop (64 * k)).take 12 := by rw [List.drop_take]; congr 1; omega
  have hs : byteOk ((b.drop (64 * k)).take 12) := fun x hx => hb x (List.mem_of_mem_drop (List.mem_of_mem_take hx))
  have hsl : ((b.drop (64 * k)).take 12).length = 12 := by rw [List.length_take, List.length_drop]; omega
  have hrv : IntKind.wrap .i64 (pre ((b.drop (64 * k)).take 12) 8) = rdV (b.drop (64 * k)) := by unfold rdV; rw [pre_take (by omega)]
  unfold escrowlaw19_whole
  simp only [e1, e2, Int.toNat_natCast, bnd_eq, es]
  rw [if_neg (by simp only [decide_eq_true_eq]; omega), if_pos (by omega)]
  refine (whole_l0 hs hsl _).trans ?_
  simp only [hrv, eslot_eq, Option.bind_some]
  unfold rdW
  have hR : (decide (rdV (b.drop (64 * k)) ≥ -1) && decide (rdV (b.drop (64 * k)) < 281474976710656)) = isR (rdV (b.drop (64 * k))) := by
    unfold isR
    congr 1
    rw [decide_eq_decide]
    omega
  rw [hR]
  cases isR (rdV (b.drop (64 * k))) with
  | true => rw [if_pos rfl, if_pos (by rw [slotB_len]; omega)]; rfl
  | false => rw [if_neg (by decide)]; rfl

/-! ### disks with one file -/
theorem new_write {cap w : Int} {name text : List Int} (hn : disk_isName name = some true) (ht : byteOk text) (hl : text.length ≤ 1048576) (hc : (text.length : Int) ≤ cap) : ∃ ds, disk_Disk_Write (cap, [], 0, w, 0, false, false) name 0 text = some (0, oneD cap w name (text, [], ds)) ∧ FOk (text, [], ds) := by
  have h0ok : FsOk ([] : List (List Int × FileS)) := ⟨(fun p hp => by cases hp), List.nodup_nil, by simp⟩
  obtain ⟨e', a, fl, o, p, fs', g1, g2, g3, ⟨ds', g4, _⟩, _, g6⟩ := Write_core2 (D := (cap, [], 0, w, 0, false, false)) (name := name) (text := text) (at0 := 0) h0ok rfl hn ht (by omega) (by omega) (by omega) (fun _ => by simp) (fun u hu => by
    rw [Used_tot (D := (cap, [], 0, w, 0, false, false)) h0ok] at hu
    cases hu
    show ((tot ([] : List (List Int × FileS)) : Nat) : Int) + max 0 (0 + (text.length : Int) - (seenOf ([] : List (List Int × FileS)) name).length) ≤ cap
    have e1 : seenOf ([] : List (List Int × FileS)) name = [] := rfl
    have e2 : tot ([] : List (List Int × FileS)) = 0 := rfl
    rw [e1, e2]; simp only [List.length_nil]; omega)
  rw [counted_calm 1 rfl rfl] at g1
  simp only [Option.some.injEq] at g1
  obtain ⟨c0, c1⟩ := Prod.mk.inj g1
  have e1 : (0 : Int) = a := congrArg (fun x : DiskS => x.2.2.1) c1
  have e2 : (0 : Int) = fl := congrArg (fun x : DiskS => x.2.2.2.2.1) c1
  have e3 : false = o := congrArg (fun x : DiskS => x.2.2.2.2.2.1) c1
  have e4 : false = p := congrArg (fun x : DiskS => x.2.2.2.2.2.2) c1
  subst e1 e2 e3 e4
  rw [if_pos c0.symm] at g2
  have hk : fs'.map (·.1) = [name] := by rw [g6]; rfl
  have g4' : pget .str name fs' = some (text, [], ds') := by
    rw [g4]
    show some (over [] 0 text, ([] : List Int), ds') = _
    have : over [] 0 text = text := by simp [over]
    rw [this]
  exact ⟨ds', by rw [g2, one_of hk g4']; rfl, g3.get g4'⟩
theorem one_open {cap w : Int} {name x y ds : List Int} {p : Int × Int} (hf : FOk (x, y, ds)) (hl : x.length = 128) (hp : pick x = some p) : mark_Open (oneD cap w name (x, y, ds)) name = some ((0, ((), name, p.1, p.2, ())), 0, oneD cap w name (x, x, [])) := by
  have ho := Open_there (D := oneD cap w name (x, y, ds)) (name := name) (one_ok1 hf) rfl (one_get _ _) hl
  simp only [hp, one_sync hf, Option.bind_some] at ho
  rw [if_neg (by simp)] at ho
  exact ho
theorem one_read {cap w : Int} {name : List Int} {f : FileS} {at0 n : Nat} (hf : FOk f) (h : at0 ≤ f.1.length) : disk_Disk_Read (oneD cap w name f) name (at0 : Int) (n : Int) = some ((f.1.drop at0).take n, 0) := by
  have := Read_at (D := oneD cap w name f) (name := name) (at0 := (at0 : Int)) (n := (n : Int)) (one_ok1 hf) rfl (one_get _ _) (by omega) (by omega) (by omega)
  rw [Int.toNat_natCast, Int.toNat_natCast] at this
  exact this
theorem one_raise {cap w : Int} {name x : List Int} {v n : Int} {nx : Nat} (hx : byteOk x) (hl : x.length = 128) (hn : disk_isName name = some true) (hnx : nx < 2) (hr : isR n = true) (hv : v < n) (hc : 128 ≤ cap) :
    mark_Mark_Raise ((), name, v, (nx : Int), ()) n (oneD cap w name (x, x, [])) = some (0, ((), name, n, 1 - (nx : Int), ()), oneD cap w name (over x (64 * nx) (slotB n), over x (64 * nx) (slotB n), [])) := by
  obtain ⟨ds', g1, g2⟩ := one_write (cap := cap) (w := w) (name := name) (text := slotB n) (at0 := 64 * nx) (fok_clean hx (by omega)) hn (slotB_byte n) (by omega) (by rw [slotB_len]; omega) (by rw [slotB_len]; omega)
  rw [Raise_eq _ _ _ (by simp only; omega), hr, if_neg (by decide), if_neg (by simp only; omega)]
  have e : (64 * (nx : Int)) = ((64 * nx : Nat) : Int) := by omega
  simp only [e, g1, Option.bind_some]
  rw [if_neg (by simp), one_sync g2]
  simp only [Option.bind_some]
  rw [if_neg (by simp)]

/-! ### the law -/
theorem least_eq {a m : Int} (hm : 0 < m) (hm2 : m < 1000) : ∃ k : Nat, escrowlaw19_least a m = some (k : Int) ∧ (k : Int) < m := by
  unfold escrowlaw19_least
  rw [if_pos (by omega)]
  simp only [bnd_eq]
  have h1 : -m < Int.tmod a m ∧ Int.tmod a m < m := by
    have h2 := Int.tmod_lt_of_pos a hm
    have h3 : -m < Int.tmod a m := by
      have := Int.lt_tmod_of_pos a hm
      omega
    exact ⟨h3, h2⟩
  by_cases hc : Int.tmod a m < 0
  · rw [if_pos (by simpa using hc), wrap_i64 (by omega) (by omega)]
    exact ⟨(Int.tmod a m + m).toNat, by rw [Int.toNat_of_nonneg (by omega)], by omega⟩
  · rw [if_neg (by simpa using hc)]
    exact ⟨(Int.tmod a m).toNat, by rw [Int.toNat_of_nonneg (by omega)], by omega⟩
theorem tset_byte {l : List Int} {i : Nat} {c : Int} (h : byteOk l) (hc : 0 ≤ c ∧ c < 256) : byteOk (l.set i c) := fun x hx => by
  rcases List.mem_or_eq_of_mem_set hx with h' | rfl
  · exact h x h'
  · exact hc
theorem xor_byte (x y : Int) : 0 ≤ ixor .u8 x y ∧ ixor .u8 x y < 256 := by
  have h := wrap_rng .u8 ((BitVec.ofInt (IntKind.bits .u8) x ^^^ BitVec.ofInt (IntKind.bits .u8) y).toNat : Int)
  unfold ixor
  simp only [rng, lo, Sx.hi] at h
  omega
theorem anew_eq {f : List Int} (hf : byteOk f) (hl : f.length = 128) (hp : pick f = none) (n : Int) : escrowlaw19_anew f n = some true := by
  obtain ⟨k, hk, hk2⟩ := least_eq (a := n) (m := 140) (by omega) (by omega)
  have hlong : (f ++ f).length = 256 := by rw [List.length_append, hl]
  have hlb : byteOk (f ++ f) := byteOk_app2 hf hf
  have hnew : disk_New 400 = some (0, (400, [], 0, 0, 0, false, false)) := rfl
  have htk : List.drop 0 (List.take (Int.toNat (k : Int)) (f ++ f)) = (f ++ f).take k := by rw [List.drop_zero, Int.toNat_natCast]
  have htb : byteOk ((f ++ f).take k) := fun x hx => hlb x (List.mem_of_mem_take hx)
  have htl : ((f ++ f).take k).length = k := by rw [List.length_take]; omega
  obtain ⟨d1, w1, o1⟩ := new_write (cap := 400) (w := 0) (name := [109]) tname.1 htb (by omega) (by omega)
  obtain ⟨d2, w2, o2⟩ := new_write (cap := 400) (w := 0) (name := tmpOf [109]) tname.2 htb (by omega) (by omega)
  have w2' : disk_Disk_Write (400, [], 0, 0, 0, false, false) [109, 46, 116, 109, 112] 0 ((f ++ f).take k) = _ := w2
  -- the file
  have hop1 : mark_Open (oneD 400 0 [109] ((f ++ f).take k, [], d1)) [109] = some ((1, mark0), 190, oneD 400 0 [109] ((f ++ f).take k, [], d1)) := by
    by_cases h128 : k = 128
    · have e : (f ++ f).take k = f := by rw [h128, List.take_append_of_le_length (by omega), List.take_of_length_le (by omega)]
      rw [e] at o1 ⊢
      have ho := Open_there (D := oneD 400 0 [109] (f, [], d1)) (name := [109]) (one_ok1 o1) rfl (one_get _ _) hl
      rw [hp] at ho
      exact ho
    · exact Open_other (D := oneD 400 0 [109] ((f ++ f).take k, [], d1)) rfl (one_get _ _) (by simp only; omega)
  -- the spare
  have hnone : pget .str [109] (oneD 400 0 (tmpOf [109]) ((f ++ f).take k, [], d2)).2.1 = none := by
    show pget .str [109] [(tmpOf [109], ((f ++ f).take k, [], d2))] = none
    rw [get_cons, if_neg (by simp [tmpOf])]; rfl
  have hop2 := (Open_none (D := oneD 400 0 (tmpOf [109]) ((f ++ f).take k, [], d2)) (name := [109]) rfl hnone).trans (laid_calm (cap := 400) (w := 0) (name := [109]) (fs := [(tmpOf [109], ((f ++ f).take k, [], d2))]) (.inr ⟨_, rfl⟩) tname.1 tname.2 (by decide) (by decide))
  have hfo : FOk (slotB (-1) ++ slotB (-1), slotB (-1) ++ slotB (-1), []) := fok_clean S2_byte (by rw [S2_len]; omega)
  have hrd := one_read (cap := 400) (w := 0) (name := [109]) (at0 := 0) (n := 200) hfo (by simp)
  have hrd' : disk_Disk_Read (oneD 400 0 [109] (slotB (-1) ++ slotB (-1), slotB (-1) ++ slotB (-1), [])) [109] 0 200 = some (slotB (-1) ++ slotB (-1), 0) := by
    refine hrd.trans ?_
    rw [List.drop_zero, List.take_of_length_le (by rw [S2_len]; omega)]
  have hdi : disk_Disk_Dirty (oneD 400 0 [109] (slotB (-1) ++ slotB (-1), slotB (-1) ++ slotB (-1), [])) [109] = some [] := by
    rw [Dirty_eq (D := oneD 400 0 [109] (slotB (-1) ++ slotB (-1), slotB (-1) ++ slotB (-1), [])) (one_ok1 hfo) rfl, show pget .str [109] (oneD 400 0 [109] (slotB (-1) ++ slotB (-1), slotB (-1) ++ slotB (-1), [])).2.1 = _ from one_get _ _]
  have hli := List_eq (D := oneD 400 0 [109] (slotB (-1) ++ slotB (-1), slotB (-1) ++ slotB (-1), [])) (one_ok1 hfo) rfl
  unfold escrowlaw19_anew
  rw [hk, Option.bind_some, if_pos (by simp only [most]; omega)]
  simp only [bnd_eq, hnew, Option.bind_some, htk, hlong, w1, w2']
  rw [if_neg (by decide), if_pos (by omega), if_pos trivial, if_neg (by decide), if_pos (by omega), if_pos trivial, if_neg (by decide), if_pos trivial]
  simp only [hop1, Option.bind_some, hop2, hrd', hdi, hli, eslot_eq]
  rw [if_pos trivial]
  have hv : mark_Mark_Value ((), [109], -1, 1, ()) (oneD 400 0 [109] (slotB (-1) ++ slotB (-1), slotB (-1) ++ slotB (-1), [])) = some (-1) := rfl
  have hm : List.length (slotB (-1)) + List.length (slotB (-1)) ≤ most := by rw [slotB_len]; decide
  simp only [hv, Option.bind_some, hm, if_true]
  by_cases h128 : k = 128
  · subst h128
    simp [oneD]
  · have : ((k : Int) != 128) = true := by simp only [bne_iff_ne]; omega
    rw [this]
    simp [oneD]

theorem drop_slot (x y : List Int) (hx : x.length = 64) : (x ++ y).drop 64 = y := by rw [List.drop_append_of_le_length (by omega), List.drop_eq_nil_of_le (by omega), List.nil_append]
theorem take_slot1 (x y : List Int) (hx : x.length = 64) : (x ++ y).take 64 = x := by rw [List.take_append_of_le_length (by omega), List.take_of_length_le (by omega)]
theorem one_dirty {cap w : Int} {name x : List Int} (hf : FOk (x, x, [])) : disk_Disk_Dirty (oneD cap w name (x, x, [])) name = some [] := by
  rw [Dirty_eq (D := oneD cap w name (x, x, [])) (one_ok1 hf) rfl, show pget .str name (oneD cap w name (x, x, [])).2.1 = _ from one_get _ _]
theorem over0 (x y z : List Int) (hx : x.length = 64) (hz : z.length = 64) : over (x ++ y) 0 z = z ++ y := by
  unfold over
  rw [List.take_zero, List.nil_append, Nat.zero_add, hz, drop_slot x y hx]
theorem over1 (x y z : List Int) (hx : x.length = 64) (hy : y.length = 64) (hz : z.length = 64) : over (x ++ y) 64 z = x ++ z := by
  unfold over
  rw [take_slot1 x y hx, List.drop_eq_nil_of_le (by rw [List.length_append]; omega), List.append_nil]
theorem pick0 {x : List Int} {b : Int} (hb : isR b = true) (hx : x.length = 64) (h : rdW (x ++ slotB b) = false) : pick (x ++ slotB b) = some (b, 0) := by
  obtain ⟨b1, b2⟩ := rw_slot hb []
  rw [List.append_nil] at b1 b2
  unfold pick
  rw [drop_slot x _ hx, h, b1, b2, if_neg (by simp), if_pos ⟨rfl, .inl rfl⟩]
theorem pick1 {y : List Int} {a : Int} (ha : isR a = true) (h : rdW y = false) : pick (slotB a ++ y) = some (a, 1) := by
  obtain ⟨b1, b2⟩ := rw_slot ha y
  unfold pick
  rw [drop_slot _ y (slotB_len a), h, b1, b2, if_neg (by simp), if_neg (by simp)]
/-- what is laid, opened, raised: the first slot is spoilt -/
theorem spoilt0 {x : List Int} {b : Int} (hb : isR b = true) (hxb : byteOk x) (hx : x.length = 64) (h : rdW (x ++ slotB b) = false) : ∃ D1 D2, disk_Disk_Write (200, [], 0, 0, 0, false, false) [109] 0 (x ++ slotB b) = some (0, D1) ∧ mark_Open D1 [109] = some ((0, ((), [109], b, 0, ())), 0, D2) ∧
    disk_Disk_Dirty D2 [109] = some [] ∧ disk_Disk_Read D2 [109] 64 64 = some (slotB b, 0) ∧ (b < 281474976710655 → ∃ m D3, mark_Mark_Raise ((), [109], b, 0, ()) (b + 1) D2 = some (0, m, D3) ∧ disk_Disk_Read D3 [109] 0 64 = some (slotB (b + 1), 0) ∧ disk_Disk_Read D3 [109] 64 64 = some (slotB b, 0)) := by
  have hl : (x ++ slotB b).length = 128 := by rw [List.length_append, slotB_len]; omega
  have hbb : byteOk (x ++ slotB b) := byteOk_app2 hxb (slotB_byte b)
  have hr : -1 ≤ b := by unfold isR at hb; simp only [Bool.and_eq_true, decide_eq_true_eq] at hb; omega
  obtain ⟨d, w1, o1⟩ := new_write (cap := 200) (w := 0) (name := [109]) tname.1 hbb (by omega) (by omega)
  have hfo := fok_clean hbb (by omega)
  refine ⟨_, _, w1, one_open o1 hl (pick0 hb hx h), one_dirty hfo, ?_, fun hlt => ?_⟩
  · refine (one_read (at0 := 64) (n := 64) hfo (by simp only; omega)).trans ?_
    rw [drop_slot x _ hx, List.take_of_length_le (by rw [slotB_len]; omega)]
  · have hR : isR (b + 1) = true := by unfold isR; simp only [Bool.and_eq_true, decide_eq_true_eq]; omega
    have hra := one_raise (cap := 200) (w := 0) (name := [109]) (v := b) (n := b + 1) (nx := 0) hbb hl tname.1 (by omega) hR (by omega) (by omega)
    have e0 : over (x ++ slotB b) (64 * 0) (slotB (b + 1)) = slotB (b + 1) ++ slotB b := over0 _ _ _ hx (slotB_len _)
    rw [e0] at hra
    have hfo2 : FOk (slotB (b + 1) ++ slotB b, slotB (b + 1) ++ slotB b, []) := fok_clean (byteOk_app2 (slotB_byte _) (slotB_byte _)) (by simp [slotB_len])
    refine ⟨_, _, hra, ?_, ?_⟩
    · refine (one_read (at0 := 0) (n := 64) hfo2 (by simp)).trans ?_
      rw [List.drop_zero, take_slot1 _ _ (slotB_len _)]
    · refine (one_read (at0 := 64) (n := 64) hfo2 (by simp [slotB_len])).trans ?_
      rw [drop_slot _ _ (slotB_len _), List.take_of_length_le (by rw [slotB_len]; omega)]
/-- the second one -/
theorem spoilt1 {y : List Int} {a : Int} (ha : isR a = true) (hyb : byteOk y) (hy : y.length = 64) (h : rdW y = false) : ∃ D1 D2, disk_Disk_Write (200, [], 0, 0, 0, false, false) [109] 0 (slotB a ++ y) = some (0, D1) ∧ mark_Open D1 [109] = some ((0, ((), [109], a, 1, ())), 0, D2) ∧
    disk_Disk_Dirty D2 [109] = some [] ∧ disk_Disk_Read D2 [109] 0 64 = some (slotB a, 0) ∧ (a < 281474976710655 → ∃ m D3, mark_Mark_Raise ((), [109], a, 1, ()) (a + 1) D2 = some (0, m, D3) ∧ disk_Disk_Read D3 [109] 64 64 = some (slotB (a + 1), 0) ∧ disk_Disk_Read D3 [109] 0 64 = some (slotB a, 0)) := by
  have hl : (slotB a ++ y).length = 128 := by rw [List.length_append, slotB_len]; omega
  have hbb : byteOk (slotB a ++ y) := byteOk_app2 (slotB_byte a) hyb
  have hr : -1 ≤ a := by unfold isR at ha; simp only [Bool.and_eq_true, decide_eq_true_eq] at ha; omega
  obtain ⟨d, w1, o1⟩ := new_write (cap := 200) (w := 0) (name := [109]) tname.1 hbb (by omega) (by omega)
  have hfo := fok_clean hbb (by omega)
  refine ⟨_, _, w1, one_open o1 hl (pick1 ha h), one_dirty hfo, ?_, fun hlt => ?_⟩
  · refine (one_read (at0 := 0) (n := 64) hfo (by simp)).trans ?_
    rw [List.drop_zero, take_slot1 _ _ (slotB_len _)]
  · have hR : isR (a + 1) = true := by unfold isR; simp only [Bool.and_eq_true, decide_eq_true_eq]; omega
    have hra := one_raise (cap := 200) (w := 0) (name := [109]) (v := a) (n := a + 1) (nx := 1) hbb hl tname.1 (by omega) hR (by omega) (by omega)
    have e0 : over (slotB a ++ y) (64 * 1) (slotB (a + 1)) = slotB a ++ slotB (a + 1) := over1 _ _ _ (slotB_len _) hy (slotB_len _)
    rw [e0] at hra
    have hfo2 : FOk (slotB a ++ slotB (a + 1), slotB a ++ slotB (a + 1), []) := fok_clean (byteOk_app2 (slotB_byte _) (slotB_byte _)) (by simp [slotB_len])
    refine ⟨_, _, hra, ?_, ?_⟩
    · refine (one_read (at0 := 64) (n := 64) hfo2 (by simp [slotB_len])).trans ?_
      rw [drop_slot _ _ (slotB_len _), List.take_of_length_le (by rw [slotB_len]; omega)]
    · refine (one_read (at0 := 0) (n := 64) hfo2 (by simp)).trans ?_
      rw [List.drop_zero, take_slot1 _ _ (slotB_len _)]

theorem torn_s0 {a3 a4 r4 a b : Int} {r5 r7 x y : List Int} (hX : List.set r5 (Int.toNat r4) (ixor .u8 (List.getD r5 (Int.toNat r4) 0) (ior .u8 a3 1)) = x) (hY : List.set r7 (Int.toNat r4) (ixor .u8 (List.getD r7 (Int.toNat r4) 0) (ior .u8 a3 1)) = y)   (hxb : byteOk x) (hx : x.length = 64) (hyb : byteOk y) (hy : y.length = 64) (ha : isR a = true) (hb : isR b = true) (K : Unit → Option Bool) (m : Nat) : escrowlaw19_MarkTorn_l0 a3 a4 a b r4 r5 r7 (slotB b) (slotB a) K (m + 1) 0 = some true ∨ escrowlaw19_MarkTorn_l0 a3 a4 a b r4 r5 r7 (slotB b) (slotB a) K (m + 1) 0 = escrowlaw19_MarkTorn_l0 a3 a4 a b r4 r5 r7 (slotB b) (slotB a) K m 1 := by
  have hl : (x ++ slotB b).length = 128 := by rw [List.length_append, slotB_len]; omega
  have hbb : byteOk (x ++ slotB b) := byteOk_app2 hxb (slotB_byte b)
  have hw : escrowlaw19_whole (x ++ slotB b) 0 = some (rdV (x ++ slotB b), rdW (x ++ slotB b)) := whole_eq (k := 0) hbb (by omega) hl
  have hnew : disk_New 200 = some (0, (200, [], 0, 0, 0, false, false)) := rfl
  have t0 : Int.tmod (0 : Int) 2 = 0 := rfl
  have n0 : Int.toNat (0 : Int) = 0 := rfl
  have w1 : IntKind.wrap .i64 (64 * IntKind.wrap .i64 ((1 : Int) - 0)) = 64 := by decide
  have w2 : IntKind.wrap .i64 ((64 : Int) * 0) = 0 := by decide
  have w3 : IntKind.wrap .i64 ((0 : Int) + 1) = 1 := by decide
  have hr : -1 ≤ b ∧ b ≤ 281474976710655 := by unfold isR at hb; simp only [Bool.and_eq_true, decide_eq_true_eq] at hb; omega
  have w4 : IntKind.wrap .i64 (b + 1) = b + 1 := wrap_i64 (by omega) (by omega)
  rw [escrowlaw19_MarkTorn_l0, if_pos (by decide), bnd_eq, if_pos (by decide)]
  simp only [hX, hY, n0, t0, List.getD_cons_zero, hw, Option.bind_some, bnd_eq]
  cases hW : rdW (x ++ slotB b) with
  | true => rw [if_pos rfl]; exact .inl (if_pos trivial)
  | false =>
    right
    obtain ⟨D1, D2, f1, f2, f3, f4, f5⟩ := spoilt0 hb hxb hx hW
    have hval : mark_Mark_Value ((), [109], b, 0, ()) D2 = some b := rfl
    rw [if_neg (by decide), if_neg (by decide), if_neg (by decide)]
    simp only [hnew, Option.bind_some, f1]
    rw [if_neg (by decide), if_pos (by decide), if_pos trivial, if_neg (by decide), if_pos trivial]
    simp only [f2, Option.bind_some, w1, w2, w3, w4, hval, f3, f4]
    rw [if_neg (by decide), if_pos (by decide), if_neg (by decide), if_pos trivial, if_neg (by simp), if_neg (by decide)]
    by_cases hlt : b < 281474976710655
    · obtain ⟨m', D3, g1, g2, g3⟩ := f5 hlt
      rw [if_pos (by simpa using hlt), if_pos trivial, g1]
      simp only [Option.bind_some, g2, g3, eslot_eq]
      rw [if_neg (by decide), if_neg (by decide), if_neg (by simp)]
    · rw [if_neg (by simpa using hlt)]
theorem torn_s1 {a3 a4 r4 a b : Int} {r5 r7 x y : List Int} (hX : List.set r5 (Int.toNat r4) (ixor .u8 (List.getD r5 (Int.toNat r4) 0) (ior .u8 a3 1)) = x) (hY : List.set r7 (Int.toNat r4) (ixor .u8 (List.getD r7 (Int.toNat r4) 0) (ior .u8 a3 1)) = y)   (hxb : byteOk x) (hx : x.length = 64) (hyb : byteOk y) (hy : y.length = 64) (ha : isR a = true) (hb : isR b = true) (K : Unit → Option Bool) (m : Nat) : escrowlaw19_MarkTorn_l0 a3 a4 a b r4 r5 r7 (slotB b) (slotB a) K (m + 1) 1 = some true ∨ escrowlaw19_MarkTorn_l0 a3 a4 a b r4 r5 r7 (slotB b) (slotB a) K (m + 1) 1 = escrowlaw19_MarkTorn_l0 a3 a4 a b r4 r5 r7 (slotB b) (slotB a) K m 2 := by
  have hl : (slotB a ++ y).length = 128 := by rw [List.length_append, slotB_len]; omega
  have hbb : byteOk (slotB a ++ y) := byteOk_app2 (slotB_byte a) hyb
  have hw : escrowlaw19_whole (slotB a ++ y) 1 = some (rdV y, rdW y) := by
    have := whole_eq (b := slotB a ++ y) (k := 1) hbb (by omega) hl
    rw [Nat.mul_one, drop_slot _ _ (slotB_len a)] at this
    exact this
  have hnew : disk_New 200 = some (0, (200, [], 0, 0, 0, false, false)) := rfl
  have t0 : Int.tmod (1 : Int) 2 = 1 := rfl
  have n0 : Int.toNat (1 : Int) = 1 := rfl
  have w1 : IntKind.wrap .i64 (64 * IntKind.wrap .i64 ((1 : Int) - 1)) = 0 := by decide
  have w2 : IntKind.wrap .i64 ((64 : Int) * 1) = 64 := by decide
  have w3 : IntKind.wrap .i64 ((1 : Int) + 1) = 2 := by decide
  have hr : -1 ≤ a ∧ a ≤ 281474976710655 := by unfold isR at ha; simp only [Bool.and_eq_true, decide_eq_true_eq] at ha; omega
  have w4 : IntKind.wrap .i64 (a + 1) = a + 1 := wrap_i64 (by omega) (by omega)
  rw [escrowlaw19_MarkTorn_l0, if_pos (by decide), bnd_eq, if_pos (by decide)]
  simp only [hX, hY, n0, t0, List.getD_cons_succ, List.getD_cons_zero, hw, Option.bind_some, bnd_eq]
  cases hW : rdW y with
  | true => rw [if_pos rfl]; exact .inl (if_pos trivial)
  | false =>
    right
    obtain ⟨D1, D2, f1, f2, f3, f4, f5⟩ := spoilt1 ha hyb hy hW
    have hval : mark_Mark_Value ((), [109], a, 1, ()) D2 = some a := rfl
    rw [if_neg (by decide), if_neg (by decide), if_neg (by decide)]
    simp only [hnew, Option.bind_some, f1]
    rw [if_neg (by decide), if_pos (by decide), if_pos trivial, if_neg (by decide), if_pos trivial]
    simp only [f2, Option.bind_some, w1, w2, w3, w4, hval, f3, f4]
    rw [if_neg (by decide), if_pos (by decide), if_neg (by decide), if_pos trivial, if_neg (by simp), if_neg (by decide)]
    by_cases hlt : a < 281474976710655
    · obtain ⟨m', D3, g1, g2, g3⟩ := f5 hlt
      rw [if_pos (by simpa using hlt), if_pos trivial, g1]
      simp only [Option.bind_some, g2, g3, eslot_eq]
      rw [if_neg (by decide), if_neg (by decide), if_neg (by simp)]
    · rw [if_neg (by simpa using hlt)]
theorem torn_s2 {a3 a4 r4 a b : Int} {r5 r7 x y : List Int} (hX : List.set r5 (Int.toNat r4) (ixor .u8 (List.getD r5 (Int.toNat r4) 0) (ior .u8 a3 1)) = x) (hY : List.set r7 (Int.toNat r4) (ixor .u8 (List.getD r7 (Int.toNat r4) 0) (ior .u8 a3 1)) = y)   (hxb : byteOk x) (hx : x.length = 64) (hyb : byteOk y) (hy : y.length = 64) (ha : isR a = true) (hb : isR b = true) (K : Unit → Option Bool) (m : Nat) : escrowlaw19_MarkTorn_l0 a3 a4 a b r4 r5 r7 (slotB b) (slotB a) K (m + 1) 2 = some true := by
  have hl : (x ++ y).length = 128 := by rw [List.length_append]; omega
  have hbb : byteOk (x ++ y) := byteOk_app2 hxb hyb
  have hw : escrowlaw19_whole (x ++ y) 0 = some (rdV (x ++ y), rdW (x ++ y)) := whole_eq (k := 0) hbb (by omega) hl
  have hw1 : escrowlaw19_whole (x ++ y) 1 = some (rdV y, rdW y) := by
    have := whole_eq (b := x ++ y) (k := 1) hbb (by omega) hl
    rw [Nat.mul_one, drop_slot _ _ hx] at this
    exact this
  have hto : escrowlaw19_torn (x ++ y) = some (rdW (x ++ y) || rdW y) := by
    unfold escrowlaw19_torn
    rw [hw, Option.bind_some, hw1]; rfl
  have hnew : disk_New 200 = some (0, (200, [], 0, 0, 0, false, false)) := rfl
  have t0 : Int.tmod (2 : Int) 2 = 0 := rfl
  have n0 : Int.toNat (2 : Int) = 2 := rfl
  rw [escrowlaw19_MarkTorn_l0, if_pos (by decide), bnd_eq, if_pos (by decide)]
  simp only [hX, hY, n0, t0, List.getD_cons_succ, List.getD_cons_zero, hw, Option.bind_some, bnd_eq]
  cases hW : rdW (x ++ y) with
  | true => rw [if_pos rfl]; exact if_pos trivial
  | false =>
    rw [if_neg (by decide), if_pos (by decide), if_pos (by decide), hto, hW]
    simp only [Option.bind_some, Bool.false_or]
    cases hV : rdW y with
    | true => rw [if_pos rfl]
    | false =>
      have hpk : pick (x ++ y) = none := by unfold pick; rw [drop_slot _ _ hx, hW, hV, if_pos ⟨rfl, rfl⟩]
      obtain ⟨d, w1, o1⟩ := new_write (cap := 200) (w := 0) (name := [109]) tname.1 hbb (by omega) (by omega)
      have hop : mark_Open (oneD 200 0 [109] (x ++ y, [], d)) [109] = some ((1, mark0), 190, oneD 200 0 [109] (x ++ y, [], d)) := by
        have ho := Open_there (D := oneD 200 0 [109] (x ++ y, [], d)) (name := [109]) (one_ok1 o1) rfl (one_get _ _) hl
        rw [hpk] at ho
        exact ho
      have hrd : disk_Disk_Read (oneD 200 0 [109] (x ++ y, [], d)) [109] 0 200 = some (x ++ y, 0) := by
        refine (one_read (at0 := 0) (n := 200) o1 (by simp)).trans ?_
        rw [List.drop_zero, List.take_of_length_le (by simp only; omega)]
      rw [if_neg (by decide)]
      simp only [hnew, Option.bind_some, w1]
      rw [if_neg (by decide), if_pos (by decide), if_pos trivial, if_neg (by decide), if_pos trivial]
      simp only [hop, Option.bind_some, hrd, anew_eq hbb hl hpk]
      rw [if_pos (by decide), if_pos (by decide), if_pos (by decide), if_pos (by simp), if_pos (by decide)]
theorem escrowlaw19_MarkTorn_true (a0 a1 a2 a3 a4 : Int) {p0 p1 p2 p3 p4 : Prop} (_ : p0) (_ : p1) (_ : p2) (_ : p3) (_ : p4) : escrowlaw19_MarkTorn a0 a1 a2 a3 a4 = some true := by
  have hmask : ∀ n : Int, isR (iand .i64 n 281474976710655) = true := fun n => by
    have h : (BitVec.ofInt 64 n &&& BitVec.ofInt 64 281474976710655).toNat ≤ 281474976710655 := by
      rw [BitVec.toNat_and]
      exact Nat.and_le_right
    have e : iand .i64 n 281474976710655 = ((BitVec.ofInt 64 n &&& BitVec.ofInt 64 281474976710655).toNat : Int) := by
      unfold iand
      show IntKind.wrap .i64 ((BitVec.ofInt 64 n &&& BitVec.ofInt 64 281474976710655).toNat : Int) = _
      exact wrap_i64 (by omega) (by omega)
    unfold isR
    rw [e]
    simp only [Bool.and_eq_true, decide_eq_true_eq]
    omega
  obtain ⟨k, hk, hk2⟩ := least_eq (a := a2) (m := 12) (by omega) (by omega)
  have ha := hmask a0
  have hb := hmask a1
  have hxb : ∀ v : Int, byteOk (List.set (slotB v) (Int.toNat (k : Int)) (ixor .u8 (List.getD (slotB v) (Int.toNat (k : Int)) 0) (ior .u8 a3 1))) ∧ (List.set (slotB v) (Int.toNat (k : Int)) (ixor .u8 (List.getD (slotB v) (Int.toNat (k : Int)) 0) (ior .u8 a3 1))).length = 64 := fun v => ⟨tset_byte (slotB_byte v) (xor_byte _ _), by rw [List.length_set, slotB_len]⟩
  unfold escrowlaw19_MarkTorn
  rw [thead_eq, Option.bind_some, if_neg (by decide), bnd_eq, bnd_eq]
  generalize iand .i64 a0 281474976710655 = a at ha ⊢
  generalize iand .i64 a1 281474976710655 = b at hb ⊢
  rw [hk, Option.bind_some, eslot_eq, Option.bind_some, eslot_eq, Option.bind_some]
  rw [if_pos (by rw [slotB_len]; omega), if_pos (by rw [slotB_len]; omega), if_pos (by rw [slotB_len]; omega), if_pos (by rw [slotB_len]; omega), Option.bind_some, if_pos (by rw [(hxb a).2, slotB_len]; decide), Option.bind_some, if_pos (by rw [(hxb b).2, slotB_len]; decide), if_pos (by rw [(hxb a).2, (hxb b).2]; decide), bnd_eq]
  show escrowlaw19_MarkTorn_l0 a3 a4 a b (k : Int) (slotB a) (slotB b) (slotB b) (slotB a) _ 4 0 = some true
  rcases torn_s0 (a3 := a3) (a4 := a4) (r4 := (k : Int)) rfl rfl (hxb a).1 (hxb a).2 (hxb b).1 (hxb b).2 ha hb (fun _ => some true) 3 with h | h
  · exact h
  rw [h]
  rcases torn_s1 (a3 := a3) (a4 := a4) (r4 := (k : Int)) rfl rfl (hxb a).1 (hxb a).2 (hxb b).1 (hxb b).2 ha hb (fun _ => some true) 2 with h | h
  · exact h
  rw [h]
  exact torn_s2 (a3 := a3) (a4 := a4) (r4 := (k : Int)) rfl rfl (hxb a).1 (hxb a).2 (hxb b).1 (hxb b).2 ha hb (fun _ => some true) 1
end Sx
