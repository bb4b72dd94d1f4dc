/-
  Own work. Frames without a program in sight.
-/
import Derived.Test.YtfpabpjldjkebaaCrcBase
namespace Sx
open Go

theorem wrap_u64 {n : Int} (h0 : 0 ≤ n) (h : n < 18446744073709551616) : IntKind.wrap .u64 n = n := by
  simp only [IntKind.wrap, IntKind.bits, IntKind.signed, Bool.false_and, Bool.false_eq_true, if_false]; omega
theorem cast_mod (x : Nat) : (x : Int) % 256 = ((x % 256 : Nat) : Int) := by omega
theorem wrap_u8 (n : Int) : IntKind.wrap .u8 n = n % 256 := by
  simp only [IntKind.wrap, IntKind.bits, IntKind.signed, Bool.false_and, Bool.false_eq_true, if_false]; rfl

/-- a number's bytes, the greatest first -/
def be (v n : Nat) : List Int := (List.range n).map fun i => ((v / 2 ^ (8 * (n - 1 - i)) % 256 : Nat) : Int)
theorem be_len (v n : Nat) : (be v n).length = n := by simp [be]
theorem be_byte (v n : Nat) : byteOk (be v n) := by
  intro c hc
  simp only [be, List.mem_map] at hc
  obtain ⟨i, _, rfl⟩ := hc
  omega

theorem fset_map {m : Nat} (f g : Nat → Int) {i : Nat} (hi : i < m) : List.set ((List.range m).map fun k => if k < i then f k else g k) i (f i) = (List.range m).map fun k => if k < i + 1 then f k else g k := by
  apply List.ext_getElem?
  intro k
  rw [List.getElem?_set]
  simp only [List.length_map, List.length_range, List.getElem?_map]
  by_cases hk : i = k
  · subst hk
    simp [hi]
  · rw [if_neg hk]
    by_cases hkm : k < m
    · rw [List.getElem?_range hkm]
      simp only [Option.map_some, Option.some.injEq]
      by_cases h1 : k < i
      · rw [if_pos h1, if_pos (by omega)]
      · rw [if_neg h1, if_neg (by omega)]
    · rw [List.getElem?_eq_none (by simp; omega)]; rfl

theorem shr_u64 (V m : Nat) (hm : m ≤ 64) : ishr .u64 (V : Int) (m : Int) = ((V / 2 ^ m : Nat) : Int) := by
  unfold ishr
  have : min (Int.toNat (m : Int)) (IntKind.bits .u64) = m := by simp [IntKind.bits]; omega
  rw [this, Int.fdiv_eq_ediv_of_nonneg _ (Int.le_of_lt (Int.pow_pos (by decide)))]
  simp
theorem shr_i64 (V m : Nat) (hm : m ≤ 64) : ishr .i64 (V : Int) (m : Int) = ((V / 2 ^ m : Nat) : Int) := by
  unfold ishr
  have : min (Int.toNat (m : Int)) (IntKind.bits .i64) = m := by simp [IntKind.bits]; omega
  rw [this, Int.fdiv_eq_ediv_of_nonneg _ (Int.le_of_lt (Int.pow_pos (by decide)))]
  simp

def bePart (v n i : Nat) : List Int := (List.range n).map fun k => if k < i then ((v / 2 ^ (8 * (n - 1 - k)) % 256 : Nat) : Int) else 0
theorem laid_l0_eq (v n : Nat) (hn : n ≤ 8) (K : List Int → Option (List Int)) : ∀ (j i : Nat), i + j = n → frame_laid_l0 (v : Int) (n : Int) K (j + 1) ((i : Int), bePart v n i) = K (be v n)
  | 0, i, h => by
    obtain rfl : i = n := by omega
    simp only [frame_laid_l0]
    rw [if_neg (by simp)]
    congr 1
    apply List.map_congr_left; intro k hk; rw [if_pos (by simpa using hk)]
  | j + 1, i, h => by
    rw [frame_laid_l0]
    have e1 : IntKind.wrap .i64 ((n : Int) - 1) = ((n - 1 : Nat) : Int) := by rw [wrap_i64 (by omega) (by omega)]; omega
    have e2 : IntKind.wrap .i64 (((n - 1 : Nat) : Int) - (i : Int)) = ((n - 1 - i : Nat) : Int) := by rw [wrap_i64 (by omega) (by omega)]; omega
    have e3 : IntKind.wrap .i64 (8 * ((n - 1 - i : Nat) : Int)) = ((8 * (n - 1 - i) : Nat) : Int) := by rw [wrap_i64 (by omega) (by omega)]; omega
    have hl : (bePart v n i).length = n := by simp [bePart]
    simp only [e1, e2, e3, hl, List.length_replicate, Int.toNat_natCast]
    rw [if_pos (by simp; omega), if_pos (by omega), bnd_eq, if_pos (by omega), shr_u64 v _ (by omega), wrap_u8, wrap_i64 (by omega) (by omega), show ((i : Int) + 1) = ((i + 1 : Nat) : Int) by omega]
    have : List.set (bePart v n i) i (((v / 2 ^ (8 * (n - 1 - i)) : Nat) : Int) % 256) = bePart v n (i + 1) := by
      rw [cast_mod]
      exact fset_map (m := n) (fun k => ((v / 2 ^ (8 * (n - 1 - k)) % 256 : Nat) : Int)) (fun _ => 0) (i := i) (by omega)
    rw [this]
    exact laid_l0_eq v n hn K j (i + 1) (by omega)
theorem laid_eq (v n : Nat) (hn : n ≤ 8) : frame_laid (v : Int) (n : Int) = some (be v n) := by
  unfold frame_laid
  rw [if_pos (by omega)]
  simp only [bnd_eq, List.length_replicate, Int.toNat_natCast]
  have e : Int.toNat ((n : Int) - 0) + 1 = n + 1 := by omega
  have e2 : List.replicate n (0 : Int) = bePart v n 0 := by
    simp only [bePart, Nat.not_lt_zero, if_false]
    rw [List.map_const', List.length_range]
  rw [e, e2]
  exact laid_l0_eq v n hn (fun o => some o) n 0 (by omega)

theorem put_l0_eq (v : Nat) (hv : v < 9223372036854775808) (K : List Int → Option (List Int)) : ∀ (m : Nat) (b : List Int), m ≤ 8 → b.length + m ≤ 1000 →
    escrowref05_put_l0 (v : Int) K (m + 1) ((m : Int) - 1, b) = K (b ++ be v m)
  | 0, b, _, _ => by
    simp only [escrowref05_put_l0]
    rw [if_neg (by simp)]
    simp [be]
  | m + 1, b, hm, hb => by
    rw [escrowref05_put_l0]
    have e0 : (((m + 1 : Nat) : Int) - 1) = (m : Int) := by omega
    have e3 : IntKind.wrap .i64 (8 * (m : Int)) = ((8 * m : Nat) : Int) := by rw [wrap_i64 (by omega) (by omega)]; omega
    simp only [e0, e3]
    rw [if_pos (by simp), if_pos (by omega), if_pos (by simp only [List.length_singleton]; omega), bnd_eq, shr_i64 v _ (by omega), wrap_u8, wrap_i64 (by omega) (by omega)]
    have : be v (m + 1) = ((v / 2 ^ (8 * m) % 256 : Nat) : Int) :: be v m := by
      simp only [be, List.range_succ_eq_map, List.map_cons, List.map_map]
      congr 1
      apply List.map_congr_left
      intro k hk
      simp only [Function.comp]
      congr 4
      simp at hk
      omega
    rw [this, cast_mod, put_l0_eq v hv K m _ (by omega) (by simp; omega), List.append_assoc]
    rfl
theorem put_eq (v : Nat) (hv : v < 9223372036854775808) (n : Nat) (hn : 1 ≤ n) (hn8 : n ≤ 8) (b : List Int) (hb : b.length + n ≤ 1000) : escrowref05_put b (v : Int) (n : Int) = some (b ++ be v n) := by
  unfold escrowref05_put
  simp only [bnd_eq]
  have e1 : IntKind.wrap .i64 ((n : Int) - 1) = (n : Int) - 1 := wrap_i64 (by omega) (by omega)
  have e2 : Int.toNat ((n : Int) - 1 - 0) + 2 = n + 1 := by omega
  rw [e1, e2]
  exact put_l0_eq v hv (fun o => some o) n b hn8 hb

/-- the room of a frame with so long a payload -/
def room (n : Nat) : Nat := (16 + n + 63) / 64 * 64
theorem Room_eq (n : Nat) (hn : n ≤ 1000000) : escrowref05_Room (n : Int) = some (room n : Int) := by
  unfold escrowref05_Room
  have e1 : IntKind.wrap .i64 (16 + (n : Int)) = ((16 + n : Nat) : Int) := by rw [wrap_i64 (by omega) (by omega)]; omega
  have e2 : IntKind.wrap .i64 (((16 + n : Nat) : Int) + 64) = ((16 + n + 64 : Nat) : Int) := by rw [wrap_i64 (by omega) (by omega)]; omega
  have e3 : IntKind.wrap .i64 (((16 + n + 64 : Nat) : Int) - 1) = ((16 + n + 63 : Nat) : Int) := by rw [wrap_i64 (by omega) (by omega)]; omega
  have e4 : Int.tdiv ((16 + n + 63 : Nat) : Int) 64 = (((16 + n + 63) / 64 : Nat) : Int) := rfl
  have e5 : IntKind.wrap .i64 (((16 + n + 63) / 64 : Nat) : Int) = (((16 + n + 63) / 64 : Nat) : Int) := wrap_i64 (by omega) (by omega)
  have e6 : IntKind.wrap .i64 ((((16 + n + 63) / 64 : Nat) : Int) * 64) = ((room n : Nat) : Int) := by
    rw [wrap_i64 (by omega) (by omega)]; simp only [room]; omega
  simp only [e1, e2, e3, e4, e5, bnd_eq, e6]

/-- a frame's bytes -/
def sumOf (n : Nat) (p : List Int) : B32 := on 0#32 (be p.length 4 ++ be n 8 ++ p)
def bare (n : Nat) (p : List Int) : List Int := be p.length 4 ++ be n 8 ++ be (sumOf n p).toNat 4 ++ p
def frameOf (n : Nat) (p : List Int) : List Int := bare n p ++ List.replicate (room p.length - (16 + p.length)) 0
theorem bare_len (n : Nat) (p : List Int) : (bare n p).length = 16 + p.length := by simp [bare, be_len]; omega
theorem frameOf_len (n : Nat) (p : List Int) : (frameOf n p).length = room p.length := by
  simp only [frameOf, List.length_append, bare_len, List.length_replicate, room]; omega

theorem pad_eq (L : Nat) (hL : L ≤ 1000000) : iand .i64 (IntKind.wrap .i64 (0 - (L : Int))) 63 = (((64 - L % 64) % 64 : Nat) : Int) := by
  rw [wrap_i64 (by omega) (by omega)]
  unfold iand
  show IntKind.wrap .i64 ((BitVec.ofInt 64 (0 - (L : Int)) &&& BitVec.ofInt 64 63).toNat : Int) = _
  have e : (BitVec.ofInt 64 (0 - (L : Int)) &&& BitVec.ofInt 64 63).toNat = (64 - L % 64) % 64 := by
    rw [BitVec.toNat_and]
    have h63 : (BitVec.ofInt 64 63).toNat = 2 ^ 6 - 1 := by decide
    rw [h63, Nat.and_two_pow_sub_one_eq_mod, BitVec.toNat_ofInt]
    omega
  rw [e, wrap_i64 (by omega) (by omega)]
theorem room_pad (n : Nat) : room n - (16 + n) = (64 - (16 + n) % 64) % 64 := by simp only [room]; omega

def frameAns (n : Int) (p : List Int) : List Int × Int := if n < 0 then ([], 1) else if p.length > 65536 then ([], 3) else (frameOf n.toNat p, 0)

theorem head_byte (n : Nat) (p : List Int) : byteOk (be p.length 4 ++ be n 8) := fun c hc => by
  rcases List.mem_append.1 hc with h | h
  · exact be_byte _ _ c h
  · exact be_byte _ _ c h
theorem Frame_eq (n : Int) (p : List Int) (hn : rng .i64 n) (hp : byteOk p) (hl : p.length ≤ 140737488351232) : frame_Frame n p = some (frameAns n p) := by
  simp only [rng, lo, hi] at hn
  unfold frame_Frame frameAns
  by_cases h0 : n < 0
  · rw [if_pos (by simpa using h0), if_pos h0]
  · rw [if_neg (by simpa using h0), if_neg h0]
    by_cases h1 : p.length > 65536
    · rw [if_pos (by simp; omega), if_pos h1]
    · rw [if_neg (by simp; omega), if_neg h1]
      obtain ⟨m, rfl⟩ := Int.eq_ofNat_of_zero_le (Int.not_lt.1 h0)
      have e1 : IntKind.wrap .u64 (p.length : Int) = (p.length : Int) := wrap_u64 (by omega) (by omega)
      have e2 : IntKind.wrap .u64 (m : Int) = (m : Int) := wrap_u64 (by omega) (by omega)
      have l4 : ∀ v : Nat, frame_laid (v : Int) 4 = some (be v 4) := fun v => laid_eq v 4 (by omega)
      have l8 : ∀ v : Nat, frame_laid (v : Int) 8 = some (be v 8) := fun v => laid_eq v 8 (by omega)
      have hsum : crc_Sum (be p.length 4 ++ be m 8) = some (u (on 0#32 (be p.length 4 ++ be m 8))) := Sum_eq _ (head_byte m p) (by simp [be_len])
      have hon : crc_On (u (on 0#32 (be p.length 4 ++ be m 8))) p = some (u (sumOf m p)) := by
        rw [On_eq _ p hp (by omega), on_on]; rfl
      have e3 : IntKind.wrap .u64 (u (sumOf m p)) = (((sumOf m p).toNat : Nat) : Int) := by
        have := u_lt (sumOf m p)
        rw [wrap_u64 this.1 (by omega)]; rfl
      simp only [e1, e2, l4, l8, bind_eq, bnd_eq]
      rw [if_pos (by simp [be_len, most]), hsum]
      simp only [bind_eq, hon, e3, l4]
      have hb : be p.length 4 ++ be m 8 ++ be (sumOf m p).toNat 4 ++ p = bare m p := rfl
      rw [if_pos (by simp [be_len, most]), if_pos (by simp [be_len, most]; omega), hb, bare_len, pad_eq _ (by omega), ← room_pad]
      have hr : strings_Repeat [0] ((room p.length - (16 + p.length) : Nat) : Int) = some (List.replicate (room p.length - (16 + p.length)) 0) := by
        unfold strings_Repeat
        rw [if_pos ⟨by omega, by simp only [List.length_singleton, Int.toNat_natCast, room]; omega, by simp only [room]; omega⟩, Int.toNat_natCast]
        congr 1
        induction (room p.length - (16 + p.length)) with
        | zero => rfl
        | succ k ih => rw [List.replicate_succ, List.flatten_cons, ih, List.replicate_succ]; rfl
      rw [hr, bind_eq, if_pos (by simp only [List.length_replicate, room, most]; omega)]
      rfl

theorem rFrame_l0_eq (p : List Int) (hp : p.length ≤ 65536) (K : List Int → Option (List Int × Int)) : ∀ (j : Nat) (b : List Int), b.length + j = room p.length → ∀ f, j < f → escrowref05_Frame_l0 p K f b = K (b ++ List.replicate j 0)
  | 0, b, h, f, hf => by
    cases f with
    | zero => omega
    | succ f =>
      rw [escrowref05_Frame_l0, Room_eq _ (by omega), bind_eq, if_neg (by simp; omega)]
      simp
  | j + 1, b, h, f, hf => by
    cases f with
    | zero => omega
    | succ f =>
      have hroom : room p.length ≤ 70000 := by simp only [room]; omega
      rw [escrowref05_Frame_l0, Room_eq _ (by omega), bind_eq, if_pos (by simp; omega), if_pos (by simp only [List.length_singleton]; omega), rFrame_l0_eq p hp K j (b ++ [0]) (by simp; omega) f (by omega), List.append_assoc]
      rfl
theorem rFrame_eq (n : Int) (p : List Int) (hn : rng .i64 n) (hp : byteOk p) (hl : p.length ≤ 140737488351232) : escrowref05_Frame n p = some (frameAns n p) := by
  simp only [rng, lo, hi] at hn
  unfold escrowref05_Frame frameAns
  by_cases h0 : n < 0
  · rw [if_pos (by simpa using h0), if_pos h0]
  · rw [if_neg (by simpa using h0), if_neg h0]
    by_cases h1 : p.length > 65536
    · rw [if_pos (by simp; omega), if_pos h1]
    · rw [if_neg (by simp; omega), if_neg h1]
      obtain ⟨m, rfl⟩ := Int.eq_ofNat_of_zero_le (Int.not_lt.1 h0)
      have p1 : escrowref05_put [] (p.length : Int) 4 = some ([] ++ be p.length 4) := put_eq _ (by omega) 4 (by omega) (by omega) [] (by simp)
      have p2 : escrowref05_put (be p.length 4) (m : Int) 8 = some (be p.length 4 ++ be m 8) := put_eq _ (by omega) 8 (by omega) (by omega) _ (by simp [be_len])
      have hsum : escrowref01_Sum (be p.length 4 ++ be m 8) = some (u (on 0#32 (be p.length 4 ++ be m 8))) := refSum_eq _ (head_byte m p) (by simp [be_len])
      have hon : escrowref01_On (u (on 0#32 (be p.length 4 ++ be m 8))) p = some (u (sumOf m p)) := by
        rw [refOn_eq _ p hp (by omega), on_on]; rfl
      have e3 : IntKind.wrap .i64 (u (sumOf m p)) = (((sumOf m p).toNat : Nat) : Int) := by
        have := u_lt (sumOf m p)
        rw [wrap_i64 (by omega) (by omega)]; rfl
      have p3 : escrowref05_put (be p.length 4 ++ be m 8) (((sumOf m p).toNat : Nat) : Int) 4 = some (be p.length 4 ++ be m 8 ++ be (sumOf m p).toNat 4) := put_eq _ (by have := (sumOf m p).isLt; omega) 4 (by omega) (by omega) _ (by simp [be_len])
      rw [p1, List.nil_append]
      simp only [bind_eq]
      rw [p2]
      simp only [bind_eq, hsum, hon, e3, p3]
      rw [if_pos (by simp [be_len]; omega)]
      simp only [bnd_eq]
      have hb : be p.length 4 ++ be m 8 ++ be (sumOf m p).toNat 4 ++ p = bare m p := rfl
      rw [hb, rFrame_l0_eq p (by omega) _ (room p.length - (16 + p.length)) (bare m p) (by rw [bare_len]; simp only [room]; omega) 65 (by simp only [room]; omega)]
      rfl
end Sx
