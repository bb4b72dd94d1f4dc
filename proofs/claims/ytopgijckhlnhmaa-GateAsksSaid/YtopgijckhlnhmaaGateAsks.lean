import Derived.Test.YtopgijckhlnhmaaGateBase
namespace Sx
open Go

abbrev RT := Int × ST × Int × Unit
def rof (mark : Int) (s : ST) : RT := (mark, s, (List.length s.2.2.2.2.1 : Int), ())
theorem rof_eq (mark : Int) (s : ST) : escrowref20_Of mark s = some (rof mark s) := rfl

structure Agree (r : RT) (g : GT) : Prop where
  m : r.1 = g.1
  loc : r.2.1.2.2.2.2.2.2.1 = g.2.1
  rem : r.2.1.2.2.2.2.2.2.2.1 = g.2.2.1
  ack : r.2.1.2.2.2.2.2.2.2.2.1 = g.2.2.2.1
  peers : r.2.1.2.2.2.2.2.2.2.2.2.1.2.1 = g.2.2.2.2.1
  sig : r.2.1.2.2.2.2.2.2.2.2.2.2.1 = g.2.2.2.2.2.1
  ours : r.2.2.1 = g.2.2.2.2.2.2.1
  failed : r.2.1.2.2.2.2.2.2.2.2.2.2.2.2.2.2.2.2.1 = g.2.2.2.2.2.2.2.1
  closed : r.2.1.2.2.2.2.2.2.2.2.2.2.2.2.2.2.2.2.2.1 = g.2.2.2.2.2.2.2.2.1
theorem rof_agree (mark : Int) (s : ST) : Agree (rof mark s) (gof mark s) := ⟨rfl, rfl, rfl, rfl, rfl, rfl, rfl, rfl, rfl⟩

theorem rStill_eq {r : RT} {g : GT} (A : Agree r g) : escrowref20_Gate_still r = some (decide (Still g)) := by
  simp only [escrowref20_Gate_still, bnd_bool, Option.some.injEq, A.failed, A.closed]
  rw [Bool.eq_iff_iff, decide_eq_true_iff]; simp [Still]
theorem rSend_eq {r : RT} {g : GT} (A : Agree r g) (a : Int) : escrowref20_Gate_MaySend r a = some (decide (Send g a)) := by
  simp only [escrowref20_Gate_MaySend, rStill_eq A, bind_eq, bnd_bool, Option.some.injEq, A.m, A.loc]
  rw [Bool.eq_iff_iff, decide_eq_true_iff]
  simp only [Send, Bool.and_eq_true, decide_eq_true_eq]
  exact ⟨fun ⟨⟨⟨a, b⟩, c⟩, d⟩ => ⟨a, b, c, d⟩, fun ⟨a, b, c, d⟩ => ⟨⟨⟨a, b⟩, c⟩, d⟩⟩
theorem rBroad_eq {r : RT} {g : GT} (A : Agree r g) (a : Int) : escrowref20_Gate_MayBroadcast r a = some (decide (Broad g a)) := by
  simp only [escrowref20_Gate_MayBroadcast, bnd_bool, bnd_join, A.m, A.loc, A.failed, A.closed]
  by_cases h : a = g.2.1 ∧ a ≥ 0 ∧ a > g.1 ∧ g.2.2.2.2.2.2.2.1 ≠ 180
  · rw [if_neg (by simp; omega)]
    simp only [Option.some.injEq]
    rw [Bool.eq_iff_iff, decide_eq_true_iff]
    unfold Broad
    simp
    omega
  · rw [if_pos (by simp; omega), Option.some.injEq]
    symm
    rw [decide_eq_false_iff_not]
    unfold Broad
    omega
theorem rSign_eq {r : RT} {g : GT} (A : Agree r g) (i : Int) (n : CT) (hi : rng .i64 i) : escrowref20_Gate_MaySign r i n = some (decide (Sign g i n)) := by
  simp only [escrowref20_Gate_MaySign, rStill_eq A, bind_eq, bnd_bool, eqC, A.rem, A.ack, A.sig, A.ours, A.peers]
  simp only [rng, lo, Sx.hi] at hi
  by_cases h1 : Still g
  · by_cases h2 : i < 1
    · rw [if_pos (by simp [h2]), Option.some.injEq]
      symm
      rw [decide_eq_false_iff_not]
      unfold Sign; omega
    · have hw : IntKind.wrap .i64 (i - 1) = i - 1 := by simp [IntKind.wrap, IntKind.bits, IntKind.signed]; omega
      rw [hw, if_neg (by simp [h1]; omega)]
      by_cases h3 : i = g.2.2.1 ∧ Same2 n g.2.2.2.2.2.1
      · rw [if_pos (by rw [Bool.and_eq_true, beq_iff_eq, decide_eq_true_iff]; exact h3), Option.some.injEq]
        symm
        rw [decide_eq_true_iff]
        exact ⟨h1, by omega, .inl h3⟩
      · rw [if_neg (by rw [Bool.and_eq_true, beq_iff_eq, decide_eq_true_iff]; exact h3)]
        by_cases h4 : g.2.2.1 = g.2.2.2.1 ∧ i - 1 = g.2.2.1
        · rw [if_neg (by simp; omega), Option.some.injEq]
          rw [Bool.eq_iff_iff, decide_eq_true_iff]
          simp only [Bool.and_eq_true, decide_eq_true_eq, Bool.not_eq_true', decide_eq_false_iff_not, beq_iff_eq]
          constructor
          · rintro ⟨⟨⟨a, b⟩, c⟩, d⟩; exact ⟨h1, by omega, .inr ⟨h4.1, h4.2, a, b, c, d⟩⟩
          · rintro ⟨_, _, h | ⟨_, _, a, b, c, d⟩⟩
            · exact absurd h h3
            · exact ⟨⟨⟨a, b⟩, c⟩, d⟩
        · rw [if_pos (by simp; omega), Option.some.injEq]
          symm
          rw [decide_eq_false_iff_not]
          rintro ⟨_, _, h | ⟨a, b, _⟩⟩
          · exact h3 h
          · exact h4 ⟨a, b⟩
  · rw [if_pos (by simp [h1]), Option.some.injEq]
    symm
    rw [decide_eq_false_iff_not]
    unfold Sign
    exact fun h => h1 h.1

theorem asks_l2 {K : List (Int × Int × Int × List Int × List Int × Unit) → Option Bool} {R : Option Bool} (hK : ∀ l, K l = R) : ∀ (j i : Nat) (l : List (Int × Int × Int × List Int × List Int × Unit)), i + j = l.length → l.length < 4611686018427387904 →
    escrowlaw20_GateAsks_l2 K (j + 1) ((i : Int), l) = R
  | 0, i, l, h, hl => by rw [escrowlaw20_GateAsks_l2, if_neg (by simp; omega)]; exact hK _
  | j + 1, i, l, h, hl => by
    rw [escrowlaw20_GateAsks_l2, if_pos (by simp; omega), if_pos (by simp; omega), bnd_eq]
    simp only
    rw [show IntKind.wrap .i64 ((i : Int) + 1) = ((i + 1 : Nat) : Int) by simp [IntKind.wrap, IntKind.bits, IntKind.signed]; omega]
    exact asks_l2 hK j (i + 1) _ (by simp; omega) (by simpa using hl)

theorem asks_l1 (s : ST) (mark : Int) (n : CT) (q : Int) (hq : rng .i64 q) (K : Unit → Option Bool) : ∀ (j i : Nat), i + j = 5 →
    escrowlaw20_GateAsks_l1 s n (gof mark s) (rof mark s) q K (j + 1) (i : Int) = K ()
  | 0, i, h => by
    rw [escrowlaw20_GateAsks_l1, bnd_eq, if_neg (by simp; omega)]
  | j + 1, i, h => by
    have hw : IntKind.wrap .i64 ((i : Int) + 1) = ((i + 1 : Nat) : Int) := by simp [IntKind.wrap, IntKind.bits, IntKind.signed]; omega
    rw [escrowlaw20_GateAsks_l1, bnd_eq, if_pos (by simp; omega), if_pos (by simp; omega), Sign_eq _ _ _ hq, bind_eq, rSign_eq (rof_agree _ _) _ _ hq, bind_eq, if_neg (by simp), hw]
    exact asks_l1 s mark n q hq K j (i + 1) (by omega)

theorem asks_l0 (s : ST) (mark index : Int) (n : CT) (K : List Int → Option Bool) (X : List Int) (hX : X = [index, s.2.2.2.2.2.2.1, (IntKind.wrap .i64 (s.2.2.2.2.2.2.1 - 1)), s.2.2.2.2.2.2.2.1, (IntKind.wrap .i64 (s.2.2.2.2.2.2.2.1 + 1)), s.2.2.2.2.2.2.2.2.1, mark, (IntKind.wrap .i64 (mark + 1)), s.2.2.2.2.2.2.2.2.2.2.2.2.2.2.2.2.2.1, 0, 1, (-1)])
    (hr : ∀ x ∈ X, rng .i64 x) : ∀ (j i : Nat), i + j = 12 → escrowlaw20_GateAsks_l0 mark s index n (gof mark s) (rof mark s) K (j + 1) (i : Int) = K X
  | 0, i, h => by
    rw [escrowlaw20_GateAsks_l0, bnd_eq, if_neg (by simp; omega), hX]
  | j + 1, i, h => by
    have hw : IntKind.wrap .i64 ((i : Int) + 1) = ((i + 1 : Nat) : Int) := by simp [IntKind.wrap, IntKind.bits, IntKind.signed]; omega
    have hlen : X.length = 12 := by rw [hX]; rfl
    have hlt : i < X.length := by omega
    have hq : rng .i64 (X.getD i 0) := by
      have : X.getD i 0 = X[i] := by simp [List.getD, hlt]
      rw [this]; exact hr _ (List.getElem_mem hlt)
    rw [escrowlaw20_GateAsks_l0]
    simp only [← hX]
    rw [bnd_eq, if_pos (by simp; omega), if_pos (by omega), bnd_eq, Int.toNat_natCast]
    generalize X.getD i 0 = q at hq
    rw [Send_eq, bind_eq, rSend_eq (rof_agree _ _), bind_eq, bnd_eq, bnd_eq, Broad_eq, bind_eq, rBroad_eq (rof_agree _ _), bind_eq, if_neg (by simp)]
    simp only [bne_self_eq_false, Bool.false_eq_true, if_false]
    rw [bnd_eq]
    have e : Int.toNat (([n, s.2.2.2.2.2.2.2.2.2.2.1, ((List.length s.2.2.2.2.1 : Int), s.2.2.2.2.2.2.2.2.2.1.2.1, ()), (s.2.2.2.2.2.2.2.2.2.2.1.1, s.2.2.2.2.2.2.2.2.2.1.2.1, ()), s.2.2.2.2.2.2.2.2.2.2.2.1].length : Int) - 0) + 1 = 5 + 1 := rfl
    rw [e]
    refine (asks_l1 s mark n q hq _ 5 0 (by omega)).trans ?_
    rw [hw]
    exact asks_l0 s mark index n K X hX hr j (i + 1) (by omega)

theorem escrowlaw20_GateAsks_true (a0 : Int) (a1 : ST) (a2 : Int) (a3 : CT) {q0 q1 q2 q3 p4 p5 p9 p10 p11 p12 p13 p14 p15 p16 p18 h3 : Prop} (h0 : rng .i64 a0)
    (h1 : q0 ∧ q1 ∧ q2 ∧ q3 ∧ (List.length a1.2.2.2.2.1 * 72 ≤ 140737488351232 ∧ p4) ∧ p5 ∧ rng .i64 a1.2.2.2.2.2.2.1 ∧ rng .i64 a1.2.2.2.2.2.2.2.1 ∧ rng .i64 a1.2.2.2.2.2.2.2.2.1 ∧ p9 ∧ p10 ∧ p11 ∧ p12 ∧ p13 ∧ p14 ∧ p15 ∧ p16 ∧ rng .i64 a1.2.2.2.2.2.2.2.2.2.2.2.2.2.2.2.2.2.1 ∧ p18) (h2 : rng .i64 a2) (_ : h3) : escrowlaw20_GateAsks a0 a1 a2 a3 = some true := by
  obtain ⟨_, _, _, _, ⟨hl, _⟩, _, hloc, hrem, hack, _, _, _, _, _, _, _, _, hcl, _⟩ := h1
  unfold escrowlaw20_GateAsks
  rw [if_pos (by simp only [List.length_nil]; omega)]
  have hg : gate_Of a0 ((a1).1, (a1).2.1, (a1).2.2.1, (a1).2.2.2.1, ([] ++ a1.2.2.2.2.1), (a1).2.2.2.2.2) = some (gof a0 a1) := rfl
  rw [hg, bind_eq, bnd_eq]
  refine asks_l2 (fun l => ?_) a1.2.2.2.2.1.length 0 ([] ++ a1.2.2.2.2.1) (by simp) (by simp; omega)
  rw [rof_eq, bind_eq, bnd_eq, gfirst_eq]
  refine (asks_l0 a1 a0 a2 a3 _ _ rfl ?_ 12 0 (by omega)).trans ?_
  · intro x hx
    simp only [List.mem_cons, List.mem_nil_iff, or_false] at hx
    rcases hx with rfl | rfl | rfl | rfl | rfl | rfl | rfl | rfl | rfl | rfl | rfl | rfl
    · exact h2
    · exact hloc
    · exact wrap_rng _ _
    · exact hrem
    · exact wrap_rng _ _
    · exact hack
    · exact h0
    · exact wrap_rng _ _
    · exact hcl
    · exact ⟨by decide, by decide⟩
    · exact ⟨by decide, by decide⟩
    · exact ⟨by decide, by decide⟩
  · rfl
end Sx
