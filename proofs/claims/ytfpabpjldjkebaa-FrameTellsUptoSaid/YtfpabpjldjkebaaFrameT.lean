import Derived.Test.YtfpabpjldjkebaaFramePure
namespace Sx
open Go
/-- the number that the first bytes tell -/
def pre (b : List Int) : Nat → Int
  | 0 => 0
  | i + 1 => pre b i * 256 + b.getD i 0
theorem fgetD_byte {a : List Int} (h : byteOk a) (i : Nat) : 0 ≤ a.getD i 0 ∧ a.getD i 0 < 256 := by
  rcases Nat.lt_or_ge i a.length with g | g
  · have : a.getD i 0 = a[i] := by simp [List.getD, g]
    rw [this]; exact h _ (List.getElem_mem g)
  · have : a.getD i 0 = 0 := by simp [List.getD, List.getElem?_eq_none g]
    rw [this]; omega
theorem pre_bound {b : List Int} (h : byteOk b) : ∀ i, 0 ≤ pre b i ∧ pre b i < 256 ^ i
  | 0 => by simp [pre]
  | i + 1 => by
    have h1 := pre_bound h i
    have h2 := fgetD_byte h i
    simp only [pre]
    rw [Int.pow_succ]
    omega
theorem ior_byte (x c : Nat) (hx : x < 16777216) (hc : c < 256) : ior .i64 (ishl .i64 (x : Int) 8) (c : Int) = ((x * 256 + c : Nat) : Int) := by
  have e1 : ishl .i64 (x : Int) 8 = ((x * 256 : Nat) : Int) := by
    unfold ishl
    have : min (Int.toNat 8) (IntKind.bits .i64) = 8 := by decide
    rw [this, wrap_i64 (by omega) (by omega)]; omega
  rw [e1]
  unfold ior
  show IntKind.wrap .i64 ((BitVec.ofInt 64 ((x * 256 : Nat) : Int) ||| BitVec.ofInt 64 (c : Int)).toNat : Int) = _
  have e2 : (BitVec.ofInt 64 ((x * 256 : Nat) : Int) ||| BitVec.ofInt 64 (c : Int)).toNat = x * 256 + c := by
    rw [BitVec.toNat_or]
    have a1 : (BitVec.ofInt 64 ((x * 256 : Nat) : Int)).toNat = 2 ^ 8 * x := by simp; omega
    have a2 : (BitVec.ofInt 64 (c : Int)).toNat = c := by simp; omega
    rw [a1, a2, ← Nat.two_pow_add_eq_or_of_lt (by omega : c < 2 ^ 8)]; omega
  rw [e2, wrap_i64 (by omega) (by omega)]

theorem Next_l0_eq {b : List Int} (h : byteOk b) (hl : 4 ≤ b.length) (K : Int → Option (List Int × Int × Int)) : ∀ (j i : Nat), i + j = 4 → frame_Next_l0 b K (j + 1) (pre b i, (i : Int)) = K (pre b 4)
  | 0, i, e => by
    obtain rfl : i = 4 := by omega
    simp only [frame_Next_l0]
    rw [if_neg (by simp)]
  | j + 1, i, e => by
    have h1 := pre_bound h i
    have h2 := fgetD_byte h i
    have hb : (256 : Int) ^ i ≤ 16777216 := by
      have : i ≤ 3 := by omega
      rcases i with _ | _ | _ | _ | i <;> first | decide | omega
    obtain ⟨x, hx⟩ := Int.eq_ofNat_of_zero_le h1.1
    obtain ⟨c, hc⟩ := Int.eq_ofNat_of_zero_le h2.1
    rw [frame_Next_l0, if_pos (by simp; omega), if_pos (by omega), Int.toNat_natCast, hc, wrap_i64 (by omega) (by omega), hx, ior_byte x c (by omega) (by omega), bnd_eq, wrap_i64 (by omega) (by omega), show ((i : Int) + 1) = ((i + 1 : Nat) : Int) by omega]
    have : ((x * 256 + c : Nat) : Int) = pre b (i + 1) := by simp only [pre, hx, hc]; omega
    rw [this]
    exact Next_l0_eq h hl K j (i + 1) (by omega)

theorem rNext_l0_eq {a : List Int} (at0 : Nat) (h : byteOk (a.drop at0)) (ha : at0 + 4 ≤ a.length) (hl : a.length ≤ 140737488351232) (K : Int → Option (List Int × Int × Int)) : ∀ (j i : Nat), i + j = 4 →
    escrowref05_Next_l0 a (at0 : Int) K (j + 1) (pre (a.drop at0) i, (i : Int)) = K (pre (a.drop at0) 4)
  | 0, i, e => by
    obtain rfl : i = 4 := by omega
    simp only [escrowref05_Next_l0]
    rw [if_neg (by simp)]
  | j + 1, i, e => by
    have h1 := pre_bound h i
    have h2 := fgetD_byte h i
    have hb : (256 : Int) ^ i ≤ 16777216 := by
      have : i ≤ 3 := by omega
      rcases i with _ | _ | _ | _ | i <;> first | decide | omega
    have e1 : IntKind.wrap .i64 ((at0 : Int) + (i : Int)) = ((at0 + i : Nat) : Int) := by rw [wrap_i64 (by omega) (by omega)]; omega
    have hg : a.getD (at0 + i) 0 = (a.drop at0).getD i 0 := by simp [List.getD]
    rw [escrowref05_Next_l0]
    simp only [e1, Int.toNat_natCast, hg]
    rw [if_pos (by simp; omega), if_pos (by omega), bnd_eq, bnd_eq]
    have e2 : IntKind.wrap .i64 (256 * pre (a.drop at0) i) = 256 * pre (a.drop at0) i := wrap_i64 (by omega) (by omega)
    have e3 : IntKind.wrap .i64 ((a.drop at0).getD i 0) = (a.drop at0).getD i 0 := wrap_i64 (by omega) (by omega)
    have e4 : IntKind.wrap .i64 (256 * pre (a.drop at0) i + (a.drop at0).getD i 0) = pre (a.drop at0) (i + 1) := by
      rw [wrap_i64 (by omega) (by omega)]; simp only [pre]; omega
    rw [e2, e3, e4, wrap_i64 (by omega) (by omega), show ((i : Int) + 1) = ((i + 1 : Nat) : Int) by omega]
    exact rNext_l0_eq at0 h ha hl K j (i + 1) (by omega)

/-- what stands at a place -/
def nextAns (b : List Int) (at0 n : Int) : List Int × Int × Int :=
  if at0 = (b.length : Int) then ([], 0, 0) else if at0 < 0 ∨ at0 > (b.length : Int) ∨ (b.length : Int) - at0 < 16 then ([], 0, 2) else
  if n < 0 ∨ pre (b.drop at0.toNat) 4 > 65536 ∨ room (pre (b.drop at0.toNat) 4).toNat > (b.drop at0.toNat).length then ([], 0, 2)
  else if frameOf n.toNat (((b.drop at0.toNat).drop 16).take (pre (b.drop at0.toNat) 4).toNat) = (b.drop at0.toNat).take (room (pre (b.drop at0.toNat) 4).toNat) then
    (((b.drop at0.toNat).drop 16).take (pre (b.drop at0.toNat) 4).toNat, (room (pre (b.drop at0.toNat) 4).toNat : Int), 1) else ([], 0, 2)
end Sx
