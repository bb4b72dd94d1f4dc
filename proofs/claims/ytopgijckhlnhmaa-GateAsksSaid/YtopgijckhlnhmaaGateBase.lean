/-
  Own work. The gate without a program in sight.
-/
import Derived.Test.YtopgijckhlnhmaaDefs
namespace Sx
open Go

theorem bnd_join {α β : Type} {A : α → Option β} {c : Bool} {x y : α} : (bnd A fun k => if c = true then k x else k y) = A (if c = true then x else y) := by
  unfold bnd; cases c <;> rfl
theorem bnd_bool {β : Type} {b : Bool} {f : Bool → β} : bnd b f = f b := id rfl
theorem bnd_int {β : Type} {b : Int} {f : Int → β} : bnd b f = f b := id rfl
theorem ite_dec {P : Prop} [Decidable P] {α : Type} {a b : α} : (if decide P = true then a else b) = if P then a else b := by
  by_cases h : P <;> simp [h]

abbrev GT := Int × Int × Int × Int × Int × (Int × Int × Unit) × Int × Int × Int × Unit
abbrev CT := Int × Int × Unit
def Still (g : GT) : Prop := g.2.2.2.2.2.2.2.1 = 0 ∧ g.2.2.2.2.2.2.2.2.1 = -1
def Broad (g : GT) (a : Int) : Prop := a = g.2.1 ∧ a ≥ 0 ∧ a > g.1 ∧ g.2.2.2.2.2.2.2.1 ≠ 180 ∧ (g.2.2.2.2.2.2.2.2.1 = -1 ∨ g.2.2.2.2.2.2.2.2.1 = a)
def Send (g : GT) (a : Int) : Prop := Still g ∧ a ≥ 0 ∧ a ≤ g.1 ∧ a < g.2.1
def Same2 (n m : CT) : Prop := n.1 = m.1 ∧ n.2.1 = m.2.1
def Sign (g : GT) (i : Int) (n : CT) : Prop := Still g ∧ 1 ≤ i ∧ ((i = g.2.2.1 ∧ Same2 n g.2.2.2.2.2.1) ∨ (g.2.2.1 = g.2.2.2.1 ∧ i - 1 = g.2.2.1 ∧ n.1 ≥ g.2.2.2.2.2.1.1 ∧ n.1 ≤ g.2.2.2.2.2.2.1 ∧ n.2.1 = g.2.2.2.2.1 ∧ ¬ Same2 n g.2.2.2.2.2.1))
instance (g : GT) : Decidable (Still g) := by unfold Still; infer_instance
instance (g : GT) (a : Int) : Decidable (Broad g a) := by unfold Broad; infer_instance
instance (g : GT) (a : Int) : Decidable (Send g a) := by unfold Send; infer_instance
instance (n m : CT) : Decidable (Same2 n m) := by unfold Same2; infer_instance
instance (g : GT) (i : Int) (n : CT) : Decidable (Sign g i n) := by unfold Sign; infer_instance

theorem eqC (n m : CT) : eqD (.pair (.int .i64) (.pair (.int .i64) .unit)) n m = decide (Same2 n m) := by
  rw [Bool.eq_iff_iff, decide_eq_true_iff]; simp [eqD, Same2]

theorem Still_eq (g : GT) : gate_Gate_still g = some (decide (Still g)) := by
  simp only [gate_Gate_still, bnd_bool, Option.some.injEq]
  rw [Bool.eq_iff_iff, decide_eq_true_iff]; simp [Still]
theorem Broad_eq (g : GT) (a : Int) : gate_Gate_MayBroadcast g a = some (decide (Broad g a)) := by
  simp only [gate_Gate_MayBroadcast, bnd_bool, bnd_join, Option.some.injEq]
  rw [Bool.eq_iff_iff, decide_eq_true_iff]
  unfold Broad
  split
  · rename_i h; simp at *; omega
  · rename_i h; simp at *; omega
theorem Send_eq (g : GT) (a : Int) : gate_Gate_MaySend g a = some (decide (Send g a)) := by
  simp only [gate_Gate_MaySend, Still_eq, bind_eq, bnd_bool, Option.some.injEq]
  rw [Bool.eq_iff_iff, decide_eq_true_iff]
  simp only [Send, Bool.and_eq_true, decide_eq_true_eq]
  exact ⟨fun ⟨⟨⟨a, b⟩, c⟩, d⟩ => ⟨a, b, c, d⟩, fun ⟨a, b, c, d⟩ => ⟨⟨⟨a, b⟩, c⟩, d⟩⟩
theorem Sign_eq (g : GT) (i : Int) (n : CT) (hi : rng .i64 i) : gate_Gate_MaySign g i n = some (decide (Sign g i n)) := by
  simp only [gate_Gate_MaySign, Still_eq, bind_eq, bnd_bool, eqC]
  simp only [rng, lo, Sx.hi] at hi
  by_cases h1 : Still g
  · by_cases h2 : i < 1
    · rw [if_pos (by simp [h2])]
      rw [Option.some.injEq]
      symm
      rw [decide_eq_false_iff_not]
      unfold Sign; omega
    · have hw : IntKind.wrap .i64 (i - 1) = i - 1 := by simp [IntKind.wrap, IntKind.bits, IntKind.signed]; omega
      rw [hw, if_neg (by simp [h1]; omega)]
      by_cases h3 : i = g.2.2.1 ∧ Same2 n g.2.2.2.2.2.1
      · rw [if_pos (by rw [Bool.and_eq_true, beq_iff_eq, decide_eq_true_iff]; exact h3), Option.some.injEq]
        symm
        rw [decide_eq_true_iff]
        exact ⟨h1, by omega, .inl h3⟩
      · rw [if_neg (by rw [Bool.and_eq_true, beq_iff_eq, decide_eq_true_iff]; exact h3), Option.some.injEq]
        rw [Bool.eq_iff_iff, decide_eq_true_iff]
        simp only [Bool.and_eq_true, beq_iff_eq, decide_eq_true_eq, Bool.not_eq_true', decide_eq_false_iff_not]
        constructor
        · rintro ⟨⟨⟨⟨⟨a, b⟩, c⟩, d⟩, e⟩, f⟩; exact ⟨h1, by omega, .inr ⟨a, b, c, d, e, f⟩⟩
        · rintro ⟨_, _, h | ⟨a, b, c, d, e, f⟩⟩
          · exact absurd h h3
          · exact ⟨⟨⟨⟨⟨a, b⟩, c⟩, d⟩, e⟩, f⟩
  · rw [if_pos (by simp [h1]), Option.some.injEq]
    symm
    rw [decide_eq_false_iff_not]
    exact fun h => h1 h.1

theorem gfirst_eq : escrowlaw20_first = some true := by decide +kernel

abbrev ST := Int × Int × Int × Int × (List (Int × Int × Int × List (Int) × List Int × Unit)) × (List (Int × Int × Int × List (Int) × List Int × Unit)) × Int × Int × Int × (Int × Int × Unit) × (Int × Int × Unit) × (Int × Int × Unit) × Bool × List (List (Int)) × List (Int) × (List (Int × List (Int) × Bool × Unit)) × Int × Int × Unit
def gof (mark : Int) (s : ST) : GT := (mark, s.2.2.2.2.2.2.1, s.2.2.2.2.2.2.2.1, s.2.2.2.2.2.2.2.2.1, s.2.2.2.2.2.2.2.2.2.1.2.1, s.2.2.2.2.2.2.2.2.2.2.1, (List.length s.2.2.2.2.1 : Int), s.2.2.2.2.2.2.2.2.2.2.2.2.2.2.2.2.1, s.2.2.2.2.2.2.2.2.2.2.2.2.2.2.2.2.2.1, ())
theorem gof_eq (mark : Int) (s : ST) : gate_Of mark s = some (gof mark s) := rfl

end Sx
