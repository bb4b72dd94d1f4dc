/-
  Own work, printed by a program of the same hand. What each function of the code reckons, in plain Lean.
-/
import Derived.Test.YtfpabpjldjkebaaSxLend
namespace Sx
open Go

def frame_laid_l0 (a0 : Int) (a1 : Int) (k3 : List (Int) → Option (List Int)) : Nat → (Int × List (Int)) → Option (List Int)
  | 0, _ => none
  | m11 + 1, s9 => if (decide (s9.1 < (List.length (List.replicate (Int.toNat a1) (0 : Int)) : Int))) = true then (if 0 ≤ (IntKind.wrap .i64 (8 * (IntKind.wrap .i64 ((IntKind.wrap .i64 (a1 - 1)) - s9.1)))) then (bnd ((IntKind.wrap .u8 (ishr .u64 a0 (IntKind.wrap .i64 (8 * (IntKind.wrap .i64 ((IntKind.wrap .i64 (a1 - 1)) - s9.1))))))) fun (t12 : Int) => if (0 : Int) ≤ s9.1 ∧ s9.1 < (List.length s9.2 : Int) then (frame_laid_l0 a0 a1 k3 m11 ((IntKind.wrap .i64 (s9.1 + 1)), (List.set s9.2 (Int.toNat s9.1) t12))) else none) else none) else (k3 s9.2)

def frame_laid (a0 : Int) (a1 : Int) : Option (List Int) := if (0 : Int) ≤ a1 ∧ (a1 : Int) * 1 ≤ 140737488355328 then (bnd (fun (o4 : List (Int)) => some o4) fun k3 => frame_laid_l0 a0 a1 k3 (Int.toNat ((List.length (List.replicate (Int.toNat a1) (0 : Int)) : Int) - 0) + 1) (0, (List.replicate (Int.toNat a1) (0 : Int)))) else none

def crc_steps_l0 (a1 : Int) (k1 : Int → Option (Int)) : Nat → (Int × Int) → Option (Int)
  | 0, _ => none
  | m5 + 1, s4 => if (decide (s4.2 < a1)) = true then (bnd (fun (o7 : Int) => crc_steps_l0 a1 k1 m5 (o7, (IntKind.wrap .i64 (s4.2 + 1)))) fun k6 => bnd ((iand .u32 s4.1 1)) fun (low8 : Int) => bnd ((ishr .u32 s4.1 1)) fun (x9 : Int) => if (low8 == 1) = true then (bnd ((ixor .u32 x9 2197175160)) fun (x10 : Int) => k6 x10) else (k6 x9)) else (k1 s4.1)

def crc_steps (a0 : Int) (a1 : Int) : Option (Int) := bnd (fun (o2 : Int) => some o2) fun k1 => crc_steps_l0 a1 k1 (Int.toNat (a1 - 0) + 1) (a0, 0)

def crc_halves_l0 (k5 : List (Int) → Option (List (Int))) : Nat → (Int × List (Int)) → Option (List (Int))
  | 0, _ => none
  | m10 + 1, s9 => if (decide (s9.1 < 16)) = true then ((crc_steps (IntKind.wrap .u32 s9.1) 4).bind fun (r11 : Int) => if (0 : Int) ≤ s9.1 ∧ s9.1 < 16 then (crc_halves_l0 k5 m10 ((IntKind.wrap .i64 (s9.1 + 1)), (List.set s9.2 (Int.toNat s9.1) r11))) else none) else (k5 s9.2)

def crc_halves  : Option (List (Int)) := bnd (fun (o6 : List (Int)) => some o6) fun k5 => crc_halves_l0 k5 (Int.toNat (16 - 0) + 1) (0, (List.replicate 16 (0 : Int)))

def crc_On_l0 (a1 : List Int) (r1 : List (Int)) (k5 : Int → Option (Int)) : Nat → (Int × Int) → Option (Int)
  | 0, _ => none
  | m9 + 1, s8 => if (decide (s8.2 < (List.length a1 : Int))) = true then (if (0 : Int) ≤ s8.2 ∧ s8.2 < (List.length a1 : Int) then (bnd ((ixor .u32 s8.1 (IntKind.wrap .u32 (List.getD a1 (Int.toNat s8.2) 0)))) fun (x10 : Int) => if (0 : Int) ≤ (iand .u32 x10 15) ∧ (iand .u32 x10 15) < 16 then (bnd ((ixor .u32 (ishr .u32 x10 4) (List.getD r1 (Int.toNat (iand .u32 x10 15)) 0))) fun (x11 : Int) => if (0 : Int) ≤ (iand .u32 x11 15) ∧ (iand .u32 x11 15) < 16 then (bnd ((ixor .u32 (ishr .u32 x11 4) (List.getD r1 (Int.toNat (iand .u32 x11 15)) 0))) fun (x12 : Int) => crc_On_l0 a1 r1 k5 m9 (x12, (IntKind.wrap .i64 (s8.2 + 1)))) else none) else none) else none) else (k5 s8.1)

def crc_On (a0 : Int) (a1 : List Int) : Option (Int) := (crc_halves).bind fun (r1 : List (Int)) => bnd ((inot .u32 a0)) fun (x4 : Int) => bnd (fun (o6 : Int) => some (inot .u32 o6)) fun k5 => crc_On_l0 a1 r1 k5 (Int.toNat ((List.length a1 : Int) - 0) + 1) (x4, 0)

def crc_Sum (a0 : List Int) : Option (Int) := (crc_On 0 a0).bind fun (r1 : Int) => some r1

def frame_Frame (a0 : Int) (a1 : List Int) : Option (List Int × Int) := if (decide (a0 < 0)) = true then (some ([], 1)) else (if (decide ((List.length a1 : Int) > 65536)) = true then (some ([], 3)) else ((frame_laid (IntKind.wrap .u64 (List.length a1 : Int)) 4).bind fun (r1 : List Int) => (frame_laid (IntKind.wrap .u64 a0) 8).bind fun (r2 : List Int) => if List.length r1 + List.length r2 ≤ most then (bnd ((r1 ++ r2)) fun (head3 : List Int) => (crc_Sum head3).bind fun (r4 : Int) => (crc_On r4 a1).bind fun (r5 : Int) => (frame_laid (IntKind.wrap .u64 r5) 4).bind fun (r6 : List Int) => if List.length head3 + List.length r6 ≤ most then (if List.length (head3 ++ r6) + List.length a1 ≤ most then (bnd (((head3 ++ r6) ++ a1)) fun (f7 : List Int) => (strings_Repeat [0] (iand .i64 (IntKind.wrap .i64 (0 - (List.length f7 : Int))) 63)).bind fun (r8 : List Int) => if List.length f7 + List.length r8 ≤ most then (some ((f7 ++ r8), 0)) else none) else none) else none) else none))

def internal_stringslite_HasPrefix (a0 : List Int) (a1 : List Int) : Option (Bool) := bnd (decide ((List.length a0 : Int) ≥ (List.length a1 : Int))) fun (b1 : Bool) => bnd (fun (o3 : Bool) => some o3) fun k2 => if b1 = true then (if (0 : Int) ≤ (0 : Int) ∧ (0 : Int) ≤ (List.length a1 : Int) ∧ (List.length a1 : Int) ≤ (List.length a0 : Int) then (k2 ((List.drop 0 (List.take (Int.toNat (List.length a1 : Int)) a0)) == a1)) else none) else (k2 false)

def strings_HasPrefix (a0 : List Int) (a1 : List Int) : Option (Bool) := (internal_stringslite_HasPrefix a0 a1).bind fun (r1 : Bool) => some r1

def frame_Next_l0 (b3 : List Int) (k4 : Int → Option (List Int × Int × Int)) : Nat → (Int × Int) → Option (List Int × Int × Int)
  | 0, _ => none
  | m15 + 1, s14 => if (decide (s14.2 < 4)) = true then (if (0 : Int) ≤ s14.2 ∧ s14.2 < (List.length b3 : Int) then (bnd ((ior .i64 (ishl .i64 s14.1 8) (IntKind.wrap .i64 (List.getD b3 (Int.toNat s14.2) 0)))) fun (length16 : Int) => frame_Next_l0 b3 k4 m15 (length16, (IntKind.wrap .i64 (s14.2 + 1)))) else none) else (k4 s14.1)

def frame_Next (a0 : List Int) (a1 : Int) (a2 : Int) : Option (List Int × Int × Int) := if (a1 == (List.length a0 : Int)) = true then (some ([], 0, 0)) else (bnd (decide (a1 < 0)) fun (b1 : Bool) => bnd (b1 || (decide (a1 > (List.length a0 : Int)))) fun (b2 : Bool) => if (b2 || (decide ((IntKind.wrap .i64 ((List.length a0 : Int) - a1)) < 16))) = true then (some ([], 0, 2)) else (if (0 : Int) ≤ a1 ∧ a1 ≤ (List.length a0 : Int) ∧ (List.length a0 : Int) ≤ (List.length a0 : Int) then (bnd ((List.drop (Int.toNat a1) (List.take (Int.toNat (List.length a0 : Int)) a0))) fun (b3 : List Int) => bnd (fun (o5 : Int) => bnd (decide (o5 > 65536)) fun (b6 : Bool) => if (b6 || (decide ((IntKind.wrap .i64 ((List.length b3 : Int) - 16)) < o5))) = true then (some ([], 0, 2)) else (if (0 : Int) ≤ 16 ∧ 16 ≤ (IntKind.wrap .i64 (16 + o5)) ∧ (IntKind.wrap .i64 (16 + o5)) ≤ (List.length b3 : Int) then (bnd ((List.drop 16 (List.take (Int.toNat (IntKind.wrap .i64 (16 + o5))) b3))) fun (payload7 : List Int) => (frame_Frame a2 payload7).bind fun (r8 : List Int × Int) => bnd (r8.2 != 0) fun (b9 : Bool) => bnd (fun (o11 : Bool) => if o11 = true then (some ([], 0, 2)) else (some (payload7, (List.length r8.1 : Int), 1))) fun k10 => if b9 = true then (k10 true) else ((strings_HasPrefix b3 r8.1).bind fun (r12 : Bool) => k10 (!r12))) else none)) fun k4 => frame_Next_l0 b3 k4 (Int.toNat (4 - 0) + 1) (0, 0)) else none))

def escrowref05_Room (a0 : Int) : Option (Int) := bnd ((IntKind.wrap .i64 (Int.tdiv (IntKind.wrap .i64 ((IntKind.wrap .i64 ((IntKind.wrap .i64 (16 + a0)) + 64)) - 1)) 64))) fun (t1 : Int) => some (IntKind.wrap .i64 (t1 * 64))

def escrowref05_put_l0 (a1 : Int) (k1 : List (Int) → Option (List (Int))) : Nat → (Int × List (Int)) → Option (List (Int))
  | 0, _ => none
  | m10 + 1, s8 => if (decide (s8.1 ≥ 0)) = true then (if 0 ≤ (IntKind.wrap .i64 (8 * s8.1)) then (if (List.length s8.2 + List.length [(IntKind.wrap .u8 (ishr .i64 a1 (IntKind.wrap .i64 (8 * s8.1))))]) * 1 ≤ 140737488355328 then (bnd ((IntKind.wrap .i64 (s8.1 - 1))) fun (k14 : Int) => escrowref05_put_l0 a1 k1 m10 (k14, (s8.2 ++ [(IntKind.wrap .u8 (ishr .i64 a1 (IntKind.wrap .i64 (8 * s8.1))))]))) else none) else none) else (k1 s8.2)

def escrowref05_put (a0 : List (Int)) (a1 : Int) (a2 : Int) : Option (List (Int)) := bnd (fun (o2 : List (Int)) => some o2) fun k1 => bnd ((IntKind.wrap .i64 (a2 - 1))) fun (k4 : Int) => escrowref05_put_l0 a1 k1 (Int.toNat (k4 - 0) + 2) (k4, a0)

def escrowref01_Step (a0 : Int) : Option (Int) := if ((iand .u32 a0 1) == 1) = true then (some (ixor .u32 (ishr .u32 a0 1) 2197175160)) else (some (ishr .u32 a0 1))

def escrowref01_On_l1 (k8 : Int → Option (Int)) : Nat → (Int × Int) → Option (Int)
  | 0, _ => none
  | m13 + 1, s12 => if (decide (s12.2 < 8)) = true then ((escrowref01_Step s12.1).bind fun (r14 : Int) => bnd ((IntKind.wrap .i64 (s12.2 + 1))) fun (k15 : Int) => escrowref01_On_l1 k8 m13 (r14, k15)) else (k8 s12.1)

def escrowref01_On_l0 (a1 : List Int) (k2 : Int → Option (Int)) : Nat → (Int × Int) → Option (Int)
  | 0, _ => none
  | m6 + 1, s5 => if (decide (s5.2 < (List.length a1 : Int))) = true then (if (0 : Int) ≤ s5.2 ∧ s5.2 < (List.length a1 : Int) then (bnd ((ixor .u32 s5.1 (IntKind.wrap .u32 (List.getD a1 (Int.toNat s5.2) 0)))) fun (x7 : Int) => bnd (fun (o9 : Int) => bnd ((IntKind.wrap .i64 (s5.2 + 1))) fun (i10 : Int) => escrowref01_On_l0 a1 k2 m6 (o9, i10)) fun k8 => escrowref01_On_l1 k8 (Int.toNat (8 - 0) + 1) (x7, 0)) else none) else (k2 s5.1)

def escrowref01_On (a0 : Int) (a1 : List Int) : Option (Int) := bnd ((inot .u32 a0)) fun (x1 : Int) => bnd (fun (o3 : Int) => some (inot .u32 o3)) fun k2 => escrowref01_On_l0 a1 k2 (Int.toNat ((List.length a1 : Int) - 0) + 1) (x1, 0)

def escrowref01_Sum (a0 : List Int) : Option (Int) := (escrowref01_On 0 a0).bind fun (r1 : Int) => some r1

def escrowref05_Frame_l0 (a1 : List Int) (k14 : List (Int) → Option (List Int × Int)) : Nat → List (Int) → Option (List Int × Int)
  | 0, _ => none
  | m22 + 1, s20 => (escrowref05_Room (List.length a1 : Int)).bind fun (r23 : Int) => if (decide ((List.length s20 : Int) < r23)) = true then (if (List.length s20 + List.length [0]) * 1 ≤ 140737488355328 then (escrowref05_Frame_l0 a1 k14 m22 (s20 ++ [0])) else none) else (k14 s20)

def escrowref05_Frame (a0 : Int) (a1 : List Int) : Option (List Int × Int) := if (decide (a0 < 0)) = true then (some ([], 1)) else (if (decide ((List.length a1 : Int) > 65536)) = true then (some ([], 3)) else ((escrowref05_put [] (List.length a1 : Int) 4).bind fun (r2 : List (Int)) => (escrowref05_put r2 a0 8).bind fun (r5 : List (Int)) => (escrowref01_Sum r5).bind fun (r8 : Int) => (escrowref01_On r8 a1).bind fun (r9 : Int) => (escrowref05_put r5 (IntKind.wrap .i64 r9) 4).bind fun (r10 : List (Int)) => if (List.length r10 + List.length a1) * 1 ≤ 140737488355328 then (bnd (fun (o15 : List (Int)) => some (o15, 0)) fun k14 => escrowref05_Frame_l0 a1 k14 (65) (r10 ++ a1)) else none))

def escrowref05_Next_l0 (a0 : List Int) (a1 : Int) (k4 : Int → Option (List Int × Int × Int)) : Nat → (Int × Int) → Option (List Int × Int × Int)
  | 0, _ => none
  | m17 + 1, s16 => if (decide (s16.2 < 4)) = true then (if (0 : Int) ≤ (IntKind.wrap .i64 (a1 + s16.2)) ∧ (IntKind.wrap .i64 (a1 + s16.2)) < (List.length a0 : Int) then (bnd ((IntKind.wrap .i64 ((IntKind.wrap .i64 (256 * s16.1)) + (IntKind.wrap .i64 (List.getD a0 (Int.toNat (IntKind.wrap .i64 (a1 + s16.2))) 0))))) fun (t18 : Int) => bnd ((IntKind.wrap .i64 (s16.2 + 1))) fun (i19 : Int) => escrowref05_Next_l0 a0 a1 k4 m17 (t18, i19)) else none) else (k4 s16.1)

def escrowref05_Next (a0 : List Int) (a1 : Int) (a2 : Int) : Option (List Int × Int × Int) := if (a1 == (List.length a0 : Int)) = true then (some ([], 0, 0)) else (bnd (decide (a1 < 0)) fun (b1 : Bool) => bnd (b1 || (decide (a1 > (List.length a0 : Int)))) fun (b2 : Bool) => bnd (b2 || (decide (a2 < 0))) fun (b3 : Bool) => if (b3 || (decide ((IntKind.wrap .i64 ((List.length a0 : Int) - a1)) < 16))) = true then (some ([], 0, 2)) else (bnd (fun (o5 : Int) => bnd (decide (o5 > 65536)) fun (b6 : Bool) => bnd (fun (o8 : Bool) => if o8 = true then (some ([], 0, 2)) else (if (0 : Int) ≤ (IntKind.wrap .i64 (a1 + 16)) ∧ (IntKind.wrap .i64 (a1 + 16)) ≤ (IntKind.wrap .i64 ((IntKind.wrap .i64 (a1 + 16)) + o5)) ∧ (IntKind.wrap .i64 ((IntKind.wrap .i64 (a1 + 16)) + o5)) ≤ (List.length a0 : Int) then (bnd ((List.drop (Int.toNat (IntKind.wrap .i64 (a1 + 16))) (List.take (Int.toNat (IntKind.wrap .i64 ((IntKind.wrap .i64 (a1 + 16)) + o5))) a0))) fun (payload10 : List Int) => (escrowref05_Frame a2 payload10).bind fun (r11 : List Int × Int) => (escrowref05_Room o5).bind fun (r12 : Int) => if (0 : Int) ≤ a1 ∧ a1 ≤ (IntKind.wrap .i64 (a1 + r12)) ∧ (IntKind.wrap .i64 (a1 + r12)) ≤ (List.length a0 : Int) then (bnd ((r11.1 != (List.drop (Int.toNat a1) (List.take (Int.toNat (IntKind.wrap .i64 (a1 + r12))) a0)))) fun (t13 : Bool) => if t13 = true then (some ([], 0, 2)) else ((escrowref05_Room o5).bind fun (r14 : Int) => some (payload10, r14, 1))) else none) else none)) fun k7 => if b6 = true then (k7 true) else ((escrowref05_Room o5).bind fun (r9 : Int) => k7 (decide (r9 > (IntKind.wrap .i64 ((List.length a0 : Int) - a1)))))) fun k4 => escrowref05_Next_l0 a0 a1 k4 (Int.toNat (4 - 0) + 1) (0, 0)))

def frame_Scan_l0 (a0 : List Int) (k2 : (Int × Bool × List (List Int)) → Option (List (List Int) × Int × Bool)) : Nat → (Int × Int × List (List Int)) → Option (List (List Int) × Int × Bool)
  | 0, _ => none
  | m10 + 1, s8 => (frame_Next a0 s8.2.1 s8.1).bind fun (r11 : List Int × Int × Int) => if (r11.2.2 != 1) = true then (bnd ((r11.2.2 == 2)) fun (torn12 : Bool) => k2 (s8.2.1, torn12, s8.2.2)) else (if (s8.1 == 9223372036854775807) = true then (if (List.length s8.2.2 + List.length [r11.1]) * 16 ≤ 140737488355328 then (bnd ((IntKind.wrap .i64 (s8.2.1 + r11.2.1))) fun (at16 : Int) => bnd ((decide (at16 < (List.length a0 : Int)))) fun (torn17 : Bool) => k2 (at16, torn17, (s8.2.2 ++ [r11.1]))) else none) else (if (List.length s8.2.2 + List.length [r11.1]) * 16 ≤ 140737488355328 then (bnd ((IntKind.wrap .i64 (s8.2.1 + r11.2.1))) fun (at21 : Int) => bnd ((IntKind.wrap .i64 (s8.1 + 1))) fun (n22 : Int) => frame_Scan_l0 a0 k2 m10 (n22, at21, (s8.2.2 ++ [r11.1]))) else none))

def frame_Scan (a0 : List Int) (a1 : Int) : Option (List (List Int) × Int × Bool) := bnd (fun (o3 : Int × Bool × List (List Int)) => some (o3.2.2, o3.1, o3.2.1)) fun k2 => frame_Scan_l0 a0 k2 (List.length a0 + 2) (a1, 0, [])

def escrowlaw05_first  : Option (Bool) := (frame_Frame 7 [97, 98]).bind fun (r1 : List Int × Int) => (frame_Frame (-1) []).bind fun (r2 : List Int × Int) => (frame_Next r1.1 0 7).bind fun (r3 : List Int × Int × Int) => (frame_Next r1.1 0 8).bind fun (r4 : List Int × Int × Int) => if List.length r1.1 + List.length [120] ≤ most then ((frame_Scan (r1.1 ++ [120]) 7).bind fun (r5 : List (List Int) × Int × Bool) => bnd (r1.2 != 0) fun (b8 : Bool) => bnd (b8 || (r2.2 != 1)) fun (b9 : Bool) => bnd (b9 || ((List.length r1.1 : Int) != 64)) fun (b10 : Bool) => bnd (b10 || (r3.1 != [97, 98])) fun (b11 : Bool) => bnd (b11 || (r3.2.1 != 64)) fun (b12 : Bool) => bnd (b12 || (r3.2.2 != 1)) fun (b13 : Bool) => if (b13 || (r4.2.2 != 2)) = true then (some false) else (bnd ((List.length r5.1 : Int) == 1) fun (b14 : Bool) => bnd (fun (o16 : Bool) => bnd (o16 && (r5.2.1 == 64)) fun (b20 : Bool) => some (b20 && r5.2.2)) fun k15 => if b14 = true then (if (0 : Int) ≤ 0 ∧ 0 < (List.length r5.1 : Int) then (k15 ((List.getD r5.1 0 []) == [97, 98])) else none) else (k15 false))) else none

def escrowlaw05_FrameReads (a0 : List Int) (a1 : Int) (a2 : Int) : Option (Bool) := (frame_Next a0 a1 a2).bind fun (r1 : List Int × Int × Int) => (escrowref05_Next a0 a1 a2).bind fun (r2 : List Int × Int × Int) => (escrowlaw05_first).bind fun (r3 : Bool) => bnd (r3 && (r1.1 == r2.1)) fun (b5 : Bool) => bnd (b5 && (r1.2.1 == r2.2.1)) fun (b6 : Bool) => some (b6 && (r1.2.2 == r2.2.2))

def escrowref05_Scan_l0 (a0 : List Int) : Nat → (Int × Int × List (List Int)) → Option (List (List Int) × Int × Bool)
  | 0, _ => none
  | m7 + 1, s5 => (escrowref05_Next a0 s5.2.1 s5.1).bind fun (r8 : List Int × Int × Int) => if (r8.2.2 != 1) = true then (some (s5.2.2, s5.2.1, (decide (s5.2.1 < (List.length a0 : Int))))) else (if (List.length s5.2.2 + List.length [r8.1]) * 16 ≤ 140737488355328 then (bnd ((IntKind.wrap .i64 (s5.2.1 + r8.2.1))) fun (at12 : Int) => if (s5.1 == 9223372036854775807) = true then (some ((s5.2.2 ++ [r8.1]), at12, (decide (at12 < (List.length a0 : Int))))) else (bnd ((IntKind.wrap .i64 (s5.1 + 1))) fun (n13 : Int) => escrowref05_Scan_l0 a0 m7 (n13, at12, (s5.2.2 ++ [r8.1])))) else none)

def escrowref05_Scan (a0 : List Int) (a1 : Int) : Option (List (List Int) × Int × Bool) := escrowref05_Scan_l0 a0 (List.length a0 + 2) (a1, 0, [])

def escrowlaw05_same_l0 (a0 : List (List Int)) (a1 : List (List Int)) (k1 : Unit → Option (Bool)) : Nat → Int → Option (Bool)
  | 0, _ => none
  | m5 + 1, s4 => if (decide (s4 < (List.length a0 : Int))) = true then (if (0 : Int) ≤ s4 ∧ s4 < (List.length a0 : Int) then (if (0 : Int) ≤ s4 ∧ s4 < (List.length a1 : Int) then (if ((List.getD a0 (Int.toNat s4) []) != (List.getD a1 (Int.toNat s4) [])) = true then (some false) else (bnd ((IntKind.wrap .i64 (s4 + 1))) fun (i6 : Int) => escrowlaw05_same_l0 a0 a1 k1 m5 i6)) else none) else none) else (k1 ())

def escrowlaw05_same (a0 : List (List Int)) (a1 : List (List Int)) : Option (Bool) := if ((List.length a0 : Int) != (List.length a1 : Int)) = true then (some false) else (bnd (fun (o2 : Unit) => some true) fun k1 => escrowlaw05_same_l0 a0 a1 k1 (Int.toNat ((List.length a0 : Int) - 0) + 1) 0)

def escrowlaw05_FrameScans_l0 (k20 : List (List Int) → Option (Bool)) : Nat → (Int × List (List Int)) → Option (Bool)
  | 0, _ => none
  | m43 + 1, s41 => if (decide (s41.1 < (List.length s41.2 : Int))) = true then (if (0 : Int) ≤ s41.1 ∧ s41.1 < (List.length s41.2 : Int) then (bnd ((IntKind.wrap .i64 (s41.1 + 1))) fun (i46 : Int) => escrowlaw05_FrameScans_l0 k20 m43 (i46, (List.set s41.2 (Int.toNat s41.1) [119, 114, 105, 116, 116, 101, 110]))) else none) else (k20 s41.2)

def escrowlaw05_FrameScans (a0 : List Int) (a1 : Int) : Option (Bool) := (escrowlaw05_first).bind fun (r1 : Bool) => if (!r1) = true then (some false) else ((frame_Scan a0 a1).bind fun (r2 : List (List Int) × Int × Bool) => (frame_Scan a0 a1).bind fun (r5 : List (List Int) × Int × Bool) => (escrowref05_Scan a0 a1).bind fun (r8 : List (List Int) × Int × Bool) => (escrowlaw05_same r2.1 r8.1).bind fun (r11 : Bool) => bnd (!r11) fun (b12 : Bool) => bnd (fun (o14 : Bool) => bnd (o14 || (r2.2.1 != r8.2.1)) fun (b17 : Bool) => bnd (b17 || (r5.2.1 != r8.2.1)) fun (b18 : Bool) => bnd (b18 || (r2.2.2 != r8.2.2)) fun (b19 : Bool) => if (b19 || (r5.2.2 != r8.2.2)) = true then (some false) else (bnd (fun (o21 : List (List Int)) => if (List.length o21 + List.length ([[109, 111, 114, 101]])) * 16 ≤ 140737488355328 then ((frame_Scan a0 a1).bind fun (r26 : List (List Int) × Int × Bool) => bnd (((List.length (o21 ++ ([[109, 111, 114, 101]])) : Int) == (IntKind.wrap .i64 ((List.length r8.1 : Int) + 1)))) fun (t29 : Bool) => bnd (fun (o32 : Bool) => bnd (fun (o36 : Bool) => some o36) fun k35 => if o32 = true then ((escrowlaw05_same r26.1 r8.1).bind fun (r37 : Bool) => k35 r37) else (k35 false)) fun k31 => if t29 = true then ((escrowlaw05_same r5.1 r8.1).bind fun (r33 : Bool) => k31 r33) else (k31 false)) else none) fun k20 => escrowlaw05_FrameScans_l0 k20 (Int.toNat ((List.length r2.1 : Int) - 0) + 1) (0, r2.1))) fun k13 => if b12 = true then (k13 true) else ((escrowlaw05_same r5.1 r8.1).bind fun (r15 : Bool) => k13 (!r15)))

def escrowlaw05_FrameOne (a0 : List Int) (a1 : Int) (a2 : Int) : Option (Bool) := (escrowlaw05_first).bind fun (r1 : Bool) => if (!r1) = true then (some false) else ((frame_Next a0 a1 a2).bind fun (r2 : List Int × Int × Int) => if (r2.2.2 != 1) = true then (bnd ((r2.2.2 == 0) == (a1 == (List.length a0 : Int))) fun (b3 : Bool) => bnd (fun (o5 : Bool) => bnd (o5 && (r2.1 == [])) fun (b8 : Bool) => some (b8 && (r2.2.1 == 0))) fun k4 => if b3 = true then (bnd (r2.2.2 == 0) fun (b6 : Bool) => k4 (b6 || (r2.2.2 == 2))) else (k4 false)) else ((frame_Frame a2 r2.1).bind fun (r9 : List Int × Int) => bnd (r9.2 == 0) fun (b10 : Bool) => bnd (b10 && (decide (a2 ≥ 0))) fun (b11 : Bool) => bnd (b11 && (decide (a1 ≥ 0))) fun (b12 : Bool) => bnd (b12 && (decide ((IntKind.wrap .i64 (a1 + r2.2.1)) ≤ (List.length a0 : Int)))) fun (b13 : Bool) => bnd (fun (o15 : Bool) => some (o15 && (decide ((List.length r2.1 : Int) ≤ 65536)))) fun k14 => if b13 = true then (if (0 : Int) ≤ a1 ∧ a1 ≤ (IntKind.wrap .i64 (a1 + r2.2.1)) ∧ (IntKind.wrap .i64 (a1 + r2.2.1)) ≤ (List.length a0 : Int) then (bnd ((r9.1 == (List.drop (Int.toNat a1) (List.take (Int.toNat (IntKind.wrap .i64 (a1 + r2.2.1))) a0)))) fun (t16 : Bool) => k14 t16) else none) else (k14 false)))
end Sx
