/-
  Own work, printed by a program of the same hand. What each function of the code reckons, in plain Lean.
-/
import Derived.Test.YtmchdaipjkkbeaaSxJoin
namespace Sx
open Go

def crc_steps_l0 (a1 : Int) (k1 : Int → Option (Int)) : Nat → (Int × Int) → Option (Int)
  | 0, _ => none
  | m5 + 1, s4 => if (decide (s4.2 < a1)) = true then (bnd (fun (o7 : Int) => crc_steps_l0 a1 k1 m5 (o7, (IntKind.wrap .i64 (s4.2 + 1)))) fun k6 => bnd ((iand .u32 s4.1 1)) fun (low8 : Int) => bnd ((ishr .u32 s4.1 1)) fun (x9 : Int) => if (low8 == 1) = true then (bnd ((ixor .u32 x9 2197175160)) fun (x10 : Int) => k6 x10) else (k6 x9)) else (k1 s4.1)

def crc_steps (a0 : Int) (a1 : Int) : Option (Int) := bnd (fun (o2 : Int) => some o2) fun k1 => crc_steps_l0 a1 k1 (Int.toNat (a1 - 0) + 1) (a0, 0)

def crc_halves_l0 (k5 : List (Int) → Option (List (Int))) : Nat → (Int × List (Int)) → Option (List (Int))
  | 0, _ => none
  | m10 + 1, s9 => if (decide (s9.1 < 16)) = true then ((crc_steps (IntKind.wrap .u32 s9.1) 4).bind fun (r11 : Int) => if 0 ≤ s9.1 ∧ s9.1 < 16 then (crc_halves_l0 k5 m10 ((IntKind.wrap .i64 (s9.1 + 1)), (List.set s9.2 (Int.toNat s9.1) r11))) else none) else (k5 s9.2)

def crc_halves  : Option (List (Int)) := bnd (fun (o6 : List (Int)) => some o6) fun k5 => crc_halves_l0 k5 (Int.toNat (16 - 0) + 1) (0, (List.replicate 16 0))

def crc_On_l0 (a1 : List Int) (r1 : List (Int)) (k5 : Int → Option (Int)) : Nat → (Int × Int) → Option (Int)
  | 0, _ => none
  | m9 + 1, s8 => if (decide (s8.2 < (List.length a1 : Int))) = true then (if 0 ≤ s8.2 ∧ s8.2 < (List.length a1 : Int) then (bnd ((ixor .u32 s8.1 (IntKind.wrap .u32 (List.getD a1 (Int.toNat s8.2) 0)))) fun (x10 : Int) => if 0 ≤ (iand .u32 x10 15) ∧ (iand .u32 x10 15) < 16 then (bnd ((ixor .u32 (ishr .u32 x10 4) (List.getD r1 (Int.toNat (iand .u32 x10 15)) 0))) fun (x11 : Int) => if 0 ≤ (iand .u32 x11 15) ∧ (iand .u32 x11 15) < 16 then (bnd ((ixor .u32 (ishr .u32 x11 4) (List.getD r1 (Int.toNat (iand .u32 x11 15)) 0))) fun (x12 : Int) => crc_On_l0 a1 r1 k5 m9 (x12, (IntKind.wrap .i64 (s8.2 + 1)))) else none) else none) else none) else (k5 s8.1)

def crc_On (a0 : Int) (a1 : List Int) : Option (Int) := (crc_halves).bind fun (r1 : List (Int)) => bnd ((inot .u32 a0)) fun (x4 : Int) => bnd (fun (o6 : Int) => some (inot .u32 o6)) fun k5 => crc_On_l0 a1 r1 k5 (Int.toNat ((List.length a1 : Int) - 0) + 1) (x4, 0)

def crc_Sum (a0 : List Int) : Option (Int) := (crc_On 0 a0).bind fun (r1 : Int) => some r1

def escrowref01_Step (a0 : Int) : Option (Int) := if ((iand .u32 a0 1) == 1) = true then (some (ixor .u32 (ishr .u32 a0 1) 2197175160)) else (some (ishr .u32 a0 1))

def escrowref01_On_l1 (k8 : Int → Option (Int)) : Nat → (Int × Int) → Option (Int)
  | 0, _ => none
  | m13 + 1, s12 => if (decide (s12.2 < 8)) = true then ((escrowref01_Step s12.1).bind fun (r14 : Int) => bnd ((IntKind.wrap .i64 (s12.2 + 1))) fun (k15 : Int) => escrowref01_On_l1 k8 m13 (r14, k15)) else (k8 s12.1)

def escrowref01_On_l0 (a1 : List Int) (k2 : Int → Option (Int)) : Nat → (Int × Int) → Option (Int)
  | 0, _ => none
  | m6 + 1, s5 => if (decide (s5.2 < (List.length a1 : Int))) = true then (if 0 ≤ s5.2 ∧ s5.2 < (List.length a1 : Int) then (bnd ((ixor .u32 s5.1 (IntKind.wrap .u32 (List.getD a1 (Int.toNat s5.2) 0)))) fun (x7 : Int) => bnd (fun (o9 : Int) => bnd ((IntKind.wrap .i64 (s5.2 + 1))) fun (i10 : Int) => escrowref01_On_l0 a1 k2 m6 (o9, i10)) fun k8 => escrowref01_On_l1 k8 (Int.toNat (8 - 0) + 1) (x7, 0)) else none) else (k2 s5.1)

def escrowref01_On (a0 : Int) (a1 : List Int) : Option (Int) := bnd ((inot .u32 a0)) fun (x1 : Int) => bnd (fun (o3 : Int) => some (inot .u32 o3)) fun k2 => escrowref01_On_l0 a1 k2 (Int.toNat ((List.length a1 : Int) - 0) + 1) (x1, 0)

def escrowref01_Sum (a0 : List Int) : Option (Int) := (escrowref01_On 0 a0).bind fun (r1 : Int) => some r1

def crc_turn_of_l0 (a0 : List (Int)) (a1 : Int) (k3 : Int → Option (Int)) : Nat → (Int × Int) → Option (Int)
  | 0, _ => none
  | m7 + 1, s6 => if (decide (s6.2 < 32)) = true then (bnd (fun (o9 : Int) => crc_turn_of_l0 a0 a1 k3 m7 (o9, (IntKind.wrap .i64 (s6.2 + 1)))) fun k8 => if 0 ≤ s6.2 then (if ((iand .u32 (ishr .u32 a1 s6.2) 1) == 1) = true then (if 0 ≤ s6.2 ∧ s6.2 < 32 then (bnd ((ixor .u32 s6.1 (List.getD a0 (Int.toNat s6.2) 0))) fun (y10 : Int) => k8 y10) else none) else (k8 s6.1)) else none) else (k3 s6.1)

def crc_turn_of (a0 : List (Int)) (a1 : Int) : Option (Int) := bnd (fun (o4 : Int) => some o4) fun k3 => crc_turn_of_l0 a0 a1 k3 (Int.toNat (32 - 0) + 1) (0, 0)

def crc_turn_twice_l0 (a0 : List (Int)) (k7 : List (Int) → Option (List (Int))) : Nat → (Int × List (Int)) → Option (List (Int))
  | 0, _ => none
  | m12 + 1, s11 => if (decide (s11.1 < 32)) = true then (if 0 ≤ s11.1 ∧ s11.1 < 32 then ((crc_turn_of a0 (List.getD a0 (Int.toNat s11.1) 0)).bind fun (r13 : Int) => if 0 ≤ s11.1 ∧ s11.1 < 32 then (crc_turn_twice_l0 a0 k7 m12 ((IntKind.wrap .i64 (s11.1 + 1)), (List.set s11.2 (Int.toNat s11.1) r13))) else none) else none) else (k7 s11.2)

def crc_turn_twice (a0 : List (Int)) : Option (List (Int)) := bnd (fun (o8 : List (Int)) => some o8) fun k7 => crc_turn_twice_l0 a0 k7 (Int.toNat (32 - 0) + 1) (0, (List.replicate 32 0))

def crc_Join_l0 (k5 : (Int × List (Int)) → Option (Int)) : Nat → (Int × Int × List (Int)) → Option (Int)
  | 0, _ => none
  | m10 + 1, s9 => if (decide (s9.2.1 > 0)) = true then (bnd (fun (o12 : Int) => (crc_turn_twice s9.2.2).bind fun (r13 : List (Int)) => bnd ((ishr .i64 s9.2.1 1)) fun (n14 : Int) => crc_Join_l0 k5 m10 (o12, n14, r13)) fun k11 => if ((iand .i64 s9.2.1 1) == 1) = true then ((crc_turn_of s9.2.2 s9.1).bind fun (r15 : Int) => k11 r15) else (k11 s9.1)) else (k5 (s9.1, s9.2.2))

def crc_Join_l1 (k3 : List (Int) → Option (Int)) : Nat → (Int × List (Int)) → Option (Int)
  | 0, _ => none
  | m19 + 1, s18 => if (decide (s18.1 < 32)) = true then (if 0 ≤ s18.1 then ((crc_steps (ishl .u32 1 s18.1) 8).bind fun (r20 : Int) => if 0 ≤ s18.1 ∧ s18.1 < 32 then (crc_Join_l1 k3 m19 ((IntKind.wrap .i64 (s18.1 + 1)), (List.set s18.2 (Int.toNat s18.1) r20))) else none) else none) else (k3 s18.2)

def crc_Join (a0 : Int) (a1 : Int) (a2 : Int) : Option (Int) := bnd (fun (o4 : List (Int)) => bnd (fun (o6 : Int × List (Int)) => some (ixor .u32 o6.1 a1)) fun k5 => crc_Join_l0 k5 (65) (a0, a2, o4)) fun k3 => crc_Join_l1 k3 (Int.toNat (32 - 0) + 1) (0, (List.replicate 32 0))

def escrowlaw01_first  : Option (Bool) := (crc_Sum [49, 50, 51, 52, 53, 54, 55, 56, 57]).bind fun (r1 : Int) => bnd (r1 == 3808858755) fun (b2 : Bool) => bnd (fun (o4 : Bool) => bnd (fun (o8 : Bool) => some o8) fun k7 => if o4 = true then ((crc_Join 1 0 1).bind fun (r9 : Int) => k7 (r9 == 4067132163)) else (k7 false)) fun k3 => if b2 = true then ((crc_On 3251651376 [98, 99]).bind fun (r5 : Int) => k3 (r5 == 910901175)) else (k3 false)

def escrowlaw01_CrcSums (a0 : Int) (a1 : List Int) : Option (Bool) := (crc_Sum a1).bind fun (r1 : Int) => (crc_On a0 a1).bind fun (r2 : Int) => (crc_Sum a1).bind fun (r3 : Int) => (escrowref01_Sum a1).bind fun (r4 : Int) => (escrowlaw01_first).bind fun (r5 : Bool) => bnd (r5 && (r1 == r4)) fun (b7 : Bool) => bnd (b7 && (r3 == r4)) fun (b8 : Bool) => bnd (fun (o10 : Bool) => some o10) fun k9 => if b8 = true then ((escrowref01_On a0 a1).bind fun (r11 : Int) => k9 (r2 == r11)) else (k9 false)

def escrowref01_turned_l0 (a0 : List (Int)) (a1 : Int) (k3 : Int → Option (Int)) : Nat → (Int × Int) → Option (Int)
  | 0, _ => none
  | m7 + 1, s6 => if (decide (s6.2 < 32)) = true then (bnd (fun (o9 : Int) => bnd ((IntKind.wrap .i64 (s6.2 + 1))) fun (i10 : Int) => escrowref01_turned_l0 a0 a1 k3 m7 (o9, i10)) fun k8 => if 0 ≤ s6.2 then (if ((iand .u32 (ishr .u32 a1 s6.2) 1) == 1) = true then (if 0 ≤ s6.2 ∧ s6.2 < 32 then (bnd ((ixor .u32 s6.1 (List.getD a0 (Int.toNat s6.2) 0))) fun (y11 : Int) => k8 y11) else none) else (k8 s6.1)) else none) else (k3 s6.1)

def escrowref01_turned (a0 : List (Int)) (a1 : Int) : Option (Int) := bnd (fun (o4 : Int) => some o4) fun k3 => escrowref01_turned_l0 a0 a1 k3 (Int.toNat (32 - 0) + 1) (0, 0)

def escrowref01_Join_l1 (s9 : Int × Int × List (Int)) (k15 : List (Int) → Option (Int)) : Nat → (Int × List (Int)) → Option (Int)
  | 0, _ => none
  | m21 + 1, s20 => if (decide (s20.1 < 32)) = true then (if 0 ≤ s20.1 ∧ s20.1 < 32 then ((escrowref01_turned s9.2.2 (List.getD s9.2.2 (Int.toNat s20.1) 0)).bind fun (r22 : Int) => if 0 ≤ s20.1 ∧ s20.1 < 32 then (bnd ((IntKind.wrap .i64 (s20.1 + 1))) fun (i23 : Int) => escrowref01_Join_l1 s9 k15 m21 (i23, (List.set s20.2 (Int.toNat s20.1) r22))) else none) else none) else (k15 s20.2)

def escrowref01_Join_l0 (k5 : (Int × List (Int)) → Option (Int)) : Nat → (Int × Int × List (Int)) → Option (Int)
  | 0, _ => none
  | m10 + 1, s9 => if (decide (s9.2.1 > 0)) = true then (bnd (fun (o12 : Int) => bnd (fun (o16 : List (Int)) => bnd ((IntKind.wrap .i64 (Int.tdiv s9.2.1 2))) fun (n17 : Int) => escrowref01_Join_l0 k5 m10 (o12, n17, o16)) fun k15 => escrowref01_Join_l1 s9 k15 (Int.toNat (32 - 0) + 1) (0, (List.replicate 32 0))) fun k11 => if ((Int.tmod s9.2.1 2) == 1) = true then ((escrowref01_turned s9.2.2 s9.1).bind fun (r24 : Int) => k11 r24) else (k11 s9.1)) else (k5 (s9.1, s9.2.2))

def escrowref01_Join_l3 (k30 : Int → Option (Int)) : Nat → (Int × Int) → Option (Int)
  | 0, _ => none
  | m35 + 1, s34 => if (decide (s34.2 < 8)) = true then ((escrowref01_Step s34.1).bind fun (r36 : Int) => bnd ((IntKind.wrap .i64 (s34.2 + 1))) fun (k37 : Int) => escrowref01_Join_l3 k30 m35 (r36, k37)) else (k30 s34.1)

def escrowref01_Join_l2 (k3 : List (Int) → Option (Int)) : Nat → (Int × List (Int)) → Option (Int)
  | 0, _ => none
  | m28 + 1, s27 => if (decide (s27.1 < 32)) = true then (if 0 ≤ s27.1 then (bnd ((ishl .u32 1 s27.1)) fun (x29 : Int) => bnd (fun (o31 : Int) => if 0 ≤ s27.1 ∧ s27.1 < 32 then (bnd ((IntKind.wrap .i64 (s27.1 + 1))) fun (i32 : Int) => escrowref01_Join_l2 k3 m28 (i32, (List.set s27.2 (Int.toNat s27.1) o31))) else none) fun k30 => escrowref01_Join_l3 k30 (Int.toNat (8 - 0) + 1) (x29, 0)) else none) else (k3 s27.2)

def escrowref01_Join (a0 : Int) (a1 : Int) (a2 : Int) : Option (Int) := bnd (fun (o4 : List (Int)) => bnd (fun (o6 : Int × List (Int)) => some (ixor .u32 o6.1 a1)) fun k5 => escrowref01_Join_l0 k5 (65) (a0, a2, o4)) fun k3 => escrowref01_Join_l2 k3 (Int.toNat (32 - 0) + 1) (0, (List.replicate 32 0))

def escrowlaw01_CrcJoins (a0 : Int) (a1 : Int) (a2 : Int) : Option (Bool) := (crc_Join a0 a1 a2).bind fun (r1 : Int) => (escrowlaw01_first).bind fun (r2 : Bool) => bnd (fun (o5 : Bool) => some o5) fun k4 => if r2 = true then ((escrowref01_Join a0 a1 a2).bind fun (r6 : Int) => k4 (r1 == r6)) else (k4 false)

def escrowlaw01_CrcParts (a0 : List Int) (a1 : List Int) (a2 : List Int) : Option (Bool) := (escrowlaw01_first).bind fun (r1 : Bool) => if (!r1) = true then (some false) else (if List.length a0 + List.length a1 ≤ most then (if List.length (a0 ++ a1) + List.length a2 ≤ most then ((crc_Sum ((a0 ++ a1) ++ a2)).bind fun (r2 : Int) => (crc_Sum a0).bind fun (r3 : Int) => (crc_Sum a1).bind fun (r4 : Int) => (crc_Sum a2).bind fun (r5 : Int) => (crc_Join r3 r4 (List.length a1 : Int)).bind fun (r6 : Int) => (crc_Join r6 r5 (List.length a2 : Int)).bind fun (r7 : Int) => (crc_Join r4 r5 (List.length a2 : Int)).bind fun (r8 : Int) => (crc_Join r3 r8 (IntKind.wrap .i64 ((List.length a1 : Int) + (List.length a2 : Int)))).bind fun (r9 : Int) => (crc_On r3 a1).bind fun (r10 : Int) => (crc_On r10 a2).bind fun (r11 : Int) => bnd (r11 == r2) fun (b12 : Bool) => bnd (fun (o14 : Bool) => bnd (o14 && (r7 == r2)) fun (b17 : Bool) => bnd (b17 && (r9 == r2)) fun (b18 : Bool) => bnd (fun (o20 : Bool) => bnd (fun (o24 : Bool) => some o24) fun k23 => if o20 = true then ((crc_Join r3 0 0).bind fun (r25 : Int) => k23 (r25 == r3)) else (k23 false)) fun k19 => if b18 = true then ((crc_On r3 []).bind fun (r21 : Int) => k19 (r21 == r3)) else (k19 false)) fun k13 => if b12 = true then (if List.length a1 + List.length a2 ≤ most then ((crc_On r3 (a1 ++ a2)).bind fun (r15 : Int) => k13 (r15 == r2)) else none) else (k13 false)) else none) else none)

def escrowlaw01_CrcTells_l0 (a2 : Int) (t2 : Int) (k5 : (Bool × List (Int)) → Option (Bool)) : Nat → (Bool × Int × List (Int)) → Option (Bool)
  | 0, _ => none
  | m15 + 1, s13 => bnd (decide (s13.2.1 < 4)) fun (b16 : Bool) => if (b16 && (decide ((IntKind.wrap .i64 (t2 + s13.2.1)) < (List.length s13.2.2 : Int)))) = true then (if 0 ≤ (IntKind.wrap .i64 (8 * s13.2.1)) then (bnd ((IntKind.wrap .u8 (ishr .u32 a2 (IntKind.wrap .i64 (8 * s13.2.1))))) fun (x17 : Int) => if 0 ≤ (IntKind.wrap .i64 (t2 + s13.2.1)) ∧ (IntKind.wrap .i64 (t2 + s13.2.1)) < (List.length s13.2.2 : Int) then (if 0 ≤ (IntKind.wrap .i64 (t2 + s13.2.1)) ∧ (IntKind.wrap .i64 (t2 + s13.2.1)) < (List.length s13.2.2 : Int) then (bnd ((s13.1 || (x17 != 0))) fun (changed23 : Bool) => bnd ((IntKind.wrap .i64 (s13.2.1 + 1))) fun (k24 : Int) => escrowlaw01_CrcTells_l0 a2 t2 k5 m15 (changed23, k24, (List.set s13.2.2 (Int.toNat (IntKind.wrap .i64 (t2 + s13.2.1))) (ixor .u8 (List.getD s13.2.2 (Int.toNat (IntKind.wrap .i64 (t2 + s13.2.1))) 0) x17)))) else none) else none) else none) else (k5 (s13.1, s13.2.2))

def escrowlaw01_CrcTells (a0 : List Int) (a1 : Int) (a2 : Int) : Option (Bool) := (escrowlaw01_first).bind fun (r1 : Bool) => if (!r1) = true then (some false) else (if (a0 == []) = true then (some true) else (if (IntKind.wrap .u64 (List.length a0 : Int)) ≠ 0 then (bnd ((IntKind.wrap .i64 (Int.tmod (IntKind.wrap .u64 a1) (IntKind.wrap .u64 (List.length a0 : Int))))) fun (t2 : Int) => if (List.length ([] : List (Int)) + List.length a0) * 1 ≤ 140737488355328 then (bnd (fun (o6 : Bool × List (Int)) => (crc_Sum o6.2).bind fun (r8 : Int) => (crc_Sum a0).bind fun (r9 : Int) => some ((r8 != r9) == o6.1)) fun k5 => escrowlaw01_CrcTells_l0 a2 t2 k5 (5) (false, 0, ([] ++ a0))) else none) else none))

def escrowlaw01_CrcLinear_l0 (a0 : List Int) (a1 : List Int) (a2 : List Int) (o6 : Int) (k8 : List (Int) → Option (Bool)) : Nat → (Int × List (Int)) → Option (Bool)
  | 0, _ => none
  | m20 + 1, s18 => if (decide (s18.1 < o6)) = true then (if 0 ≤ s18.1 ∧ s18.1 < (List.length a0 : Int) then (if 0 ≤ s18.1 ∧ s18.1 < (List.length a1 : Int) then (if 0 ≤ s18.1 ∧ s18.1 < (List.length a2 : Int) then (if (List.length s18.2 + List.length [(ixor .u8 (ixor .u8 (List.getD a0 (Int.toNat s18.1) 0) (List.getD a1 (Int.toNat s18.1) 0)) (List.getD a2 (Int.toNat s18.1) 0))]) * 1 ≤ 140737488355328 then (bnd ((IntKind.wrap .i64 (s18.1 + 1))) fun (i24 : Int) => escrowlaw01_CrcLinear_l0 a0 a1 a2 o6 k8 m20 (i24, (s18.2 ++ [(ixor .u8 (ixor .u8 (List.getD a0 (Int.toNat s18.1) 0) (List.getD a1 (Int.toNat s18.1) 0)) (List.getD a2 (Int.toNat s18.1) 0))]))) else none) else none) else none) else none) else (k8 s18.2)

def escrowlaw01_CrcLinear (a0 : List Int) (a1 : List Int) (a2 : List Int) : Option (Bool) := (escrowlaw01_first).bind fun (r1 : Bool) => if (!r1) = true then (some false) else (bnd ((List.length a0 : Int)) fun (n2 : Int) => bnd (fun (o4 : Int) => bnd (fun (o6 : Int) => bnd (fun (o9 : List (Int)) => if 0 ≤ (0 : Int) ∧ (0 : Int) ≤ o6 ∧ o6 ≤ (List.length a0 : Int) then ((crc_Sum (List.drop 0 (List.take (Int.toNat o6) a0))).bind fun (r11 : Int) => if 0 ≤ (0 : Int) ∧ (0 : Int) ≤ o6 ∧ o6 ≤ (List.length a1 : Int) then ((crc_Sum (List.drop 0 (List.take (Int.toNat o6) a1))).bind fun (r12 : Int) => if 0 ≤ (0 : Int) ∧ (0 : Int) ≤ o6 ∧ o6 ≤ (List.length a2 : Int) then ((crc_Sum (List.drop 0 (List.take (Int.toNat o6) a2))).bind fun (r13 : Int) => (crc_Sum o9).bind fun (r14 : Int) => some ((ixor .u32 (ixor .u32 r11 r12) r13) == r14)) else none) else none) else none) fun k8 => escrowlaw01_CrcLinear_l0 a0 a1 a2 o6 k8 (Int.toNat (o6 - 0) + 1) (0, [])) fun k5 => if (decide ((List.length a2 : Int) < o4)) = true then (bnd ((List.length a2 : Int)) fun (n25 : Int) => k5 n25) else (k5 o4)) fun k3 => if (decide ((List.length a1 : Int) < n2)) = true then (bnd ((List.length a1 : Int)) fun (n26 : Int) => k3 n26) else (k3 n2))

def escrowlaw01_CrcFar (a0 : Int) (a1 : Int) (a2 : Int) : Option (Bool) := (escrowlaw01_first).bind fun (r1 : Bool) => if (!r1) = true then (some false) else (bnd ((iand .i64 a1 4611686018427387903)) fun (n2 : Int) => bnd ((iand .i64 a2 4611686018427387903)) fun (m3 : Int) => (crc_Join a0 0 n2).bind fun (r4 : Int) => (crc_Join r4 0 m3).bind fun (r5 : Int) => (crc_Join a0 0 m3).bind fun (r6 : Int) => (crc_Join r6 0 n2).bind fun (r7 : Int) => (crc_Join a0 0 (IntKind.wrap .i64 (n2 + m3))).bind fun (r8 : Int) => bnd (r5 == r8) fun (b9 : Bool) => bnd (b9 && (r5 == r7)) fun (b10 : Bool) => some (b10 && ((r5 == 0) == (a0 == 0))))
end Sx
