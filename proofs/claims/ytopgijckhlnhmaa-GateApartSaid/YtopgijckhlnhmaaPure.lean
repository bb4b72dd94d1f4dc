/-
  Own work. The gate without a program in sight.
-/
import Derived.Test.YtopgijckhlnhmaaDefs
namespace Sx
open Go

theorem bnd_join {α β : Type} {A : α → Option β} {c : Bool} {x y : α} : (bnd A fun k => if c = true then k x else k y) = A (if c = true then x else y) := by
  unfold bnd; cases c <;> rfl
theorem bnd_bool {β : Type} {b : Bool} {f : Bool → β} : bnd b f = f b := id rfl
theorem bnd_int {β : Type} {b : Int} {f : Int → β} : bnd b f = f b := id rfl
theorem ite_dec {P : Prop} [Decidable P] {α : Type} {a b : α} : (if decide P = true then a else b) = if P then a else b := by
  by_cases h : P <;> simp [h]

abbrev GT := Int × Int × Int × Int × Int × (Int × Int × Unit) × Int × Int × Int × Unit
abbrev CT := Int × Int × Unit
def Still (g : GT) : Prop := g.2.2.2.2.2.2.2.1 = 0 ∧ g.2.2.2.2.2.2.2.2.1 = -1
def Broad (g : GT) (a : Int) : Prop := a = g.2.1 ∧ a ≥ 0 ∧ a > g.1 ∧ g.2.2.2.2.2.2.2.1 ≠ 180 ∧ (g.2.2.2.2.2.2.2.2.1 = -1 ∨ g.2.2.2.2.2.2.2.2.1 = a)
def Send (g : GT) (a : Int) : Prop := Still g ∧ a ≥ 0 ∧ a ≤ g.1 ∧ a < g.2.1
def Same2 (n m : CT) : Prop := n.1 = m.1 ∧ n.2.1 = m.2.1
def Sign (g : GT) (i : Int) (n : CT) : Prop := Still g ∧ 1 ≤ i ∧ ((i = g.2.2.1 ∧ Same2 n g.2.2.2.2.2.1) ∨ (g.2.2.1 = g.2.2.2.1 ∧ i - 1 = g.2.2.1 ∧ n.1 ≥ g.2.2.2.2.2.1.1 ∧ n.1 ≤ g.2.2.2.2.2.2.1 ∧ n.2.1 = g.2.2.2.2.1 ∧ ¬ Same2 n g.2.2.2.2.2.1))
instance (g : GT) : Decidable (Still g) := by unfold Still; infer_instance
instance (g : GT) (a : Int) : Decidable (Broad g a) := by unfold Broad; infer_instance
instance (g : GT) (a : Int) : Decidable (Send g a) := by unfold Send; infer_instance
instance (n m : CT) : Decidable (Same2 n m) := by unfold Same2; infer_instance
instance (g : GT) (i : Int) (n : CT) : Decidable (Sign g i n) := by unfold Sign; infer_instance

theorem eqC (n m : CT) : eqD (.pair (.int .i64) (.pair (.int .i64) .unit)) n m = decide (Same2 n m) := by
  rw [Bool.eq_iff_iff, decide_eq_true_iff]; simp [eqD, Same2]

theorem Still_eq (g : GT) : gate_Gate_still g = some (decide (Still g)) := by
  simp only [gate_Gate_still, bnd_bool, Option.some.injEq]
  rw [Bool.eq_iff_iff, decide_eq_true_iff]; simp [Still]
theorem Broad_eq (g : GT) (a : Int) : gate_Gate_MayBroadcast g a = some (decide (Broad g a)) := by
  simp only [gate_Gate_MayBroadcast, bnd_bool, bnd_join, Option.some.injEq]
  rw [Bool.eq_iff_iff, decide_eq_true_iff]
  unfold Broad
  split
  · rename_i h; simp at *; omega
  · rename_i h; simp at *; omega
theorem Send_eq (g : GT) (a : Int) : gate_Gate_MaySend g a = some (decide (Send g a)) := by
  simp only [gate_Gate_MaySend, Still_eq, bind_eq, bnd_bool, Option.some.injEq]
  rw [Bool.eq_iff_iff, decide_eq_true_iff]
  simp only [Send, Bool.and_eq_true, decide_eq_true_eq]
  exact ⟨fun ⟨⟨⟨a, b⟩, c⟩, d⟩ => ⟨a, b, c, d⟩, fun ⟨a, b, c, d⟩ => ⟨⟨⟨a, b⟩, c⟩, d⟩⟩
theorem Sign_eq (g : GT) (i : Int) (n : CT) (hi : rng .i64 i) : gate_Gate_MaySign g i n = some (decide (Sign g i n)) := by
  simp only [gate_Gate_MaySign, Still_eq, bind_eq, bnd_bool, eqC]
  simp only [rng, lo, Sx.hi] at hi
  by_cases h1 : Still g
  · by_cases h2 : i < 1
    · rw [if_pos (by simp [h2])]
      rw [Option.some.injEq]
      symm
      rw [decide_eq_false_iff_not]
      unfold Sign; omega
    · have hw : IntKind.wrap .i64 (i - 1) = i - 1 := by simp [IntKind.wrap, IntKind.bits, IntKind.signed]; omega
      rw [hw, if_neg (by simp [h1]; omega)]
      by_cases h3 : i = g.2.2.1 ∧ Same2 n g.2.2.2.2.2.1
      · rw [if_pos (by rw [Bool.and_eq_true, beq_iff_eq, decide_eq_true_iff]; exact h3), Option.some.injEq]
        symm
        rw [decide_eq_true_iff]
        exact ⟨h1, by omega, .inl h3⟩
      · rw [if_neg (by rw [Bool.and_eq_true, beq_iff_eq, decide_eq_true_iff]; exact h3), Option.some.injEq]
        rw [Bool.eq_iff_iff, decide_eq_true_iff]
        simp only [Bool.and_eq_true, beq_iff_eq, decide_eq_true_eq, Bool.not_eq_true', decide_eq_false_iff_not]
        constructor
        · rintro ⟨⟨⟨⟨⟨a, b⟩, c⟩, d⟩, e⟩, f⟩; exact ⟨h1, by omega, .inr ⟨a, b, c, d, e, f⟩⟩
        · rintro ⟨_, _, h | ⟨a, b, c, d, e, f⟩⟩
          · exact absurd h h3
          · exact ⟨⟨⟨⟨⟨a, b⟩, c⟩, d⟩, e⟩, f⟩
  · rw [if_pos (by simp [h1]), Option.some.injEq]
    symm
    rw [decide_eq_false_iff_not]
    exact fun h => h1 h.1

theorem gfirst_eq : escrowlaw20_first = some true := by decide +kernel

abbrev ST := Int × Int × Int × Int × (List (Int × Int × Int × List (Int) × List Int × Unit)) × (List (Int × Int × Int × List (Int) × List Int × Unit)) × Int × Int × Int × (Int × Int × Unit) × (Int × Int × Unit) × (Int × Int × Unit) × Bool × List (List (Int)) × List (Int) × (List (Int × List (Int) × Bool × Unit)) × Int × Int × Unit
def gof (mark : Int) (s : ST) : GT := (mark, s.2.2.2.2.2.2.1, s.2.2.2.2.2.2.2.1, s.2.2.2.2.2.2.2.2.1, s.2.2.2.2.2.2.2.2.2.1.2.1, s.2.2.2.2.2.2.2.2.2.2.1, (List.length s.2.2.2.2.1 : Int), s.2.2.2.2.2.2.2.2.2.2.2.2.2.2.2.2.1, s.2.2.2.2.2.2.2.2.2.2.2.2.2.2.2.2.2.1, ())
theorem gof_eq (mark : Int) (s : ST) : gate_Of mark s = some (gof mark s) := rfl

theorem escrowlaw20_GateApart_true (a0 a1 : Int) (a2 : ST) (a3 a4 : Int) {p0 p1 p2 : Prop} (_ : p0) (_ : p1) (_ : p2) (h3 : rng .i64 a3) (h4 : rng .i64 a4) : escrowlaw20_GateApart a0 a1 a2 a3 a4 = some true := by
  unfold escrowlaw20_GateApart
  simp only [gof_eq, bind_eq, gfirst_eq, bnd_bool, Broad_eq, Send_eq, Sign_eq _ _ _ h3, Sign_eq _ _ _ h4, bnd_join]
  have f1 : Broad (gof a0 a2) a3 → a3 = a2.2.2.2.2.2.2.1 := fun h => h.1
  have f2 : Broad (gof a0 a2) a3 → ¬ Send (gof a0 a2) a3 := fun h g => by have := h.2.2.1; have := g.2.2.1; omega
  have f3 : Broad (gof a0 a2) a3 → Send (gof a0 a2) a4 → ¬ a3 ≤ a4 := fun h g => by have := h.2.2.1; have := g.2.2.1; omega
  have f4 : Broad (gof (max a0 a1) a2) a3 → Broad (gof a0 a2) a3 := fun h => ⟨h.1, h.2.1, by have := h.2.2.1; simp only [gof] at *; omega, h.2.2.2.1, h.2.2.2.2⟩
  have f5 : Send (gof a0 a2) a4 → Send (gof (max a0 a1) a2) a4 := fun h => ⟨h.1, h.2.1, by have := h.2.2.1; simp only [gof] at *; omega, h.2.2.2⟩
  generalize hlost : (a2.1, a2.2.1, a2.2.2.1, a2.2.2.2.1, a2.2.2.2.2.1, a2.2.2.2.2.2.1, a2.2.2.2.2.2.2.1, a2.2.2.2.2.2.2.2.1, a2.2.2.2.2.2.2.2.2.1, a2.2.2.2.2.2.2.2.2.2.1, a2.2.2.2.2.2.2.2.2.2.2.1, a2.2.2.2.2.2.2.2.2.2.2.2.1, a2.2.2.2.2.2.2.2.2.2.2.2.2.1, a2.2.2.2.2.2.2.2.2.2.2.2.2.2.1, a2.2.2.2.2.2.2.2.2.2.2.2.2.2.2.1, a2.2.2.2.2.2.2.2.2.2.2.2.2.2.2.2.1, (180 : Int), a2.2.2.2.2.2.2.2.2.2.2.2.2.2.2.2.2.2) = sl
  have l0 : (gof a0 sl).2.2.2.2.2.2.2.1 = 180 := by rw [← hlost]; rfl
  generalize gof a0 sl = gl at *
  generalize hclosed : (a2.1, a2.2.1, a2.2.2.1, a2.2.2.2.1, a2.2.2.2.2.1, a2.2.2.2.2.2.1, a2.2.2.2.2.2.2.1, a2.2.2.2.2.2.2.2.1, a2.2.2.2.2.2.2.2.2.1, a2.2.2.2.2.2.2.2.2.2.1, a2.2.2.2.2.2.2.2.2.2.2.1, a2.2.2.2.2.2.2.2.2.2.2.2.1, a2.2.2.2.2.2.2.2.2.2.2.2.2.1, a2.2.2.2.2.2.2.2.2.2.2.2.2.2.1, a2.2.2.2.2.2.2.2.2.2.2.2.2.2.2.1, a2.2.2.2.2.2.2.2.2.2.2.2.2.2.2.2.1, a2.2.2.2.2.2.2.2.2.2.2.2.2.2.2.2.2.1, a3, a2.2.2.2.2.2.2.2.2.2.2.2.2.2.2.2.2.2.2) = sc
  have c0 : (gof a0 sc).2.2.2.2.2.2.2.2.1 = a3 := by rw [← hclosed]; rfl
  generalize gof a0 sc = gc at *
  have l1 : ∀ a, ¬ Broad gl a := fun a h => h.2.2.2.1 l0
  have l2 : ∀ a, ¬ Send gl a := fun a h => by have := h.1.1; omega
  have l3 : ∀ a n, ¬ Sign gl a n := fun a n h => by have := h.1.1; omega
  have c1 : a3 ≠ -1 → ¬ Send gc a4 := fun h g => by have := g.1.2; omega
  have c2 : ∀ n, a3 ≠ -1 → ¬ Sign gc a4 n := fun n h g => by have := g.1.2; omega
  have c3 : a3 ≠ -1 → Broad gc a4 → a3 = a4 := fun h g => by have := g.2.2.2.2; omega
  have e1 : (if (if (!true) = true then true else if decide (Broad (gof a0 a2) a3) = true then if (a3 != a2.2.2.2.2.2.2.1) = true then true else decide (Send (gof a0 a2) a3) else false) = true then true else
            (if decide (Broad (gof a0 a2) a3) = true then decide (Send (gof a0 a2) a4) else false) && decide (a3 ≤ a4)) = false := by
    by_cases p : Broad (gof a0 a2) a3
    · have q := f1 p
      by_cases r : Send (gof a0 a2) a4
      · simp [p, f2 p, r, f3 p r]; exact q
      · simp [p, f2 p, r]; exact q
    · simp [p]
  have e2 : (if (if decide (Broad (gof (max a0 a1) a2) a3) = true then !decide (Broad (gof a0 a2) a3) else false) = true then true else if decide (Send (gof a0 a2) a4) = true then !decide (Send (gof (max a0 a1) a2) a4) else false) = false := by
    by_cases p : Broad (gof (max a0 a1) a2) a3 <;> by_cases r : Send (gof a0 a2) a4 <;> simp [p, r, f4, f5]
  rw [e1, e2]
  simp only [l1, l2, l3, decide_false, Bool.false_eq_true, if_false, Option.some.injEq]
  by_cases h : a3 = -1
  · simp [h]
  · have := c3 h
    by_cases p : Broad gc a4 <;> simp [h, c1 h, c2 _ h, p]
    exact this p


theorem escrowlaw20_GateOne_true (a0 : Int) (a1 : ST) (a2 : Int) (a3 a4 : CT) (a5 : Int) {p0 p1 p3 p4 : Prop} (_ : p0) (_ : p1) (h2 : rng .i64 a2) (_ : p3) (_ : p4) (h5 : rng .i64 a5) : escrowlaw20_GateOne a0 a1 a2 a3 a4 a5 = some true := by
  unfold escrowlaw20_GateOne
  simp only [gof_eq, bind_eq, gfirst_eq, bnd_bool, Sign_eq _ _ _ h2, Sign_eq _ _ _ h5, bnd_join, eqC]
  generalize ht : (a1.1, a1.2.1, a1.2.2.1, a1.2.2.2.1, a1.2.2.2.2.1, a1.2.2.2.2.2.1, a1.2.2.2.2.2.2.1, a2, a1.2.2.2.2.2.2.2.2.1, a1.2.2.2.2.2.2.2.2.2.1, a3, a1.2.2.2.2.2.2.2.2.2.2.2) = t
  have t0 : Still (gof a0 t) ↔ Still (gof a0 a1) := by rw [← ht]; exact Iff.rfl
  have t1 : (gof a0 t).2.2.1 = a2 := by rw [← ht]; rfl
  have t2 : (gof a0 t).2.2.2.1 = a1.2.2.2.2.2.2.2.2.1 := by rw [← ht]; rfl
  have t3 : (gof a0 t).2.2.2.2.2.1 = a3 := by rw [← ht]; rfl
  generalize gof a0 t = g at *
  rw [if_neg (by decide)]
  by_cases hs : Sign (gof a0 a1) a2 a3
  · rw [if_neg (by simp [hs])]
    obtain ⟨s1, s2, s3⟩ := hs
    simp only [gof] at s3
    have hw : IntKind.wrap .i64 (a2 - 1) = a2 - 1 := by simp only [rng, lo, Sx.hi] at h2; simp [IntKind.wrap, IntKind.bits, IntKind.signed]; omega
    rw [hw]
    have k1 : ¬ a2 < 1 := by omega
    have rr : Same2 a3 a3 := ⟨rfl, rfl⟩
    have g1 : Sign g a2 a3 := ⟨t0.2 s1, s2, .inl ⟨t1.symm, by rw [t3]; exact rr⟩⟩
    have g2 : ¬ Same2 a4 a3 → ¬ Sign g a2 a4 := fun h ⟨_, _, w⟩ => by
      rcases w with ⟨_, w⟩ | ⟨w1, w2, _⟩
      · rw [t3] at w; exact h w
      · omega
    have g3 : a5 < a2 → ¬ Sign g a5 a4 := fun h ⟨_, _, w⟩ => by
      rcases w with ⟨w, _⟩ | ⟨w1, w2, _⟩ <;> omega
    have g4 : ¬ (a2 = a1.2.2.2.2.2.2.2.2.1 ∨ a5 ≤ a2) → ¬ Sign g a5 a4 := fun h ⟨_, _, w⟩ => by
      rcases w with ⟨w, _⟩ | ⟨w1, w2, _⟩
      · omega
      · exact h (.inl (by omega))
    have e3 : (if (if (if (!decide (Sign g a2 a3)) = true then true else if (!decide (Same2 a4 a3)) = true then decide (Sign g a2 a4) else false) = true then true else if decide (a5 < a2) = true then decide (Sign g a5 a4) else false) = true then some false else some (if (a2 == a1.2.2.2.2.2.2.2.2.1 || decide (a5 ≤ a2)) = true then true else !decide (Sign g a5 a4))) = some true := by
      have q1 : (if (if (!decide (Sign g a2 a3)) = true then true else if (!decide (Same2 a4 a3)) = true then decide (Sign g a2 a4) else false) = true then true else if decide (a5 < a2) = true then decide (Sign g a5 a4) else false) = false := by
        by_cases p : Same2 a4 a3 <;> by_cases r : a5 < a2 <;> simp [g1, p, r, g2, g3]
      rw [q1]
      simp only [Bool.false_eq_true, if_false, Option.some.injEq]
      by_cases p : a2 = a1.2.2.2.2.2.2.2.2.1 ∨ a5 ≤ a2
      · rw [if_pos (by simpa using p)]
      · rw [if_neg (by simpa using p)]; simp [g4 p]
    rcases s3 with ⟨m1, m2⟩ | ⟨m1, m2, m3, m4, m5, m6⟩
    · have k2 : (a2 != a1.2.2.2.2.2.2.2.1) = false := by simp [m1]
      have k3 : decide (Same2 a3 a1.2.2.2.2.2.2.2.2.2.2.1) = true := by simp [m2]
      simp only [k1, k2, k3, decide_false, Bool.false_and, Bool.not_true, Bool.and_false, Bool.false_eq_true, if_false]
      exact e3
    · have k2 : (a2 != a1.2.2.2.2.2.2.2.1) = true := by simp; omega
      have k4 : (a2 == a1.2.2.2.2.2.2.2.1) = false := by simp; omega
      have k5 : (a2 - 1 != a1.2.2.2.2.2.2.2.1) = false := by simp [m2]
      have k6 : (a1.2.2.2.2.2.2.2.1 != a1.2.2.2.2.2.2.2.2.1) = false := by simp [m1]
      have k7 : decide (a3.1 > (a1.2.2.2.2.1.length : Int)) = false := by simp; omega
      have k8 : (a2 == a1.2.2.2.2.2.2.2.2.1) = false := by simp; omega
      simp only [k1, k2, k4, k5, k6, k7, k8, m6, decide_false, Bool.false_and, Bool.and_false, Bool.or_false, Bool.false_eq_true, if_false, if_true]
      rw [k8] at e3
      exact e3
  · rw [if_pos (by simp [hs])]
end Sx
