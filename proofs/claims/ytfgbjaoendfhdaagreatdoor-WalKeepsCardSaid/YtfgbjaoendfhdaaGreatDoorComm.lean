import Derived.Test.YtfgbjaoendfhdaaGreatDoorDefs
namespace Sx
open Go
theorem uk1 (a b : Int) : IntKind.wrap .i64 (IntKind.wrap .i64 a + b) = IntKind.wrap .i64 (a + b) := by
  simp only [IntKind.wrap, IntKind.signed, IntKind.bits, Bool.true_and, decide_eq_true_eq, ge_iff_le]
  split <;> split <;> split <;> omega
theorem ufZ (a0 : DiskS) : CommG (ubA a0) (fun _ _ => True) := ukj fun a b _ s => by
  unfold ubA
  simp only [ual]
  cases pget .str a a0.2.1 with
  | none => cases pget .str b a0.2.1 <;> rfl
  | some f =>
    cases pget .str b a0.2.1 with
    | none => rfl
    | some g =>
      simp only [Option.bind_some, Option.some.injEq]
      rw [uk1, uk1]
      congr 1; omega
theorem ubU {V : Type} {a b : List Int} (h : a ≠ b) (v : V) (l : List (List Int × V)) : pget .str b (pset .str a v l) = pget .str b l := by
  induction l with
  | nil => rfl
  | cons p l ih =>
    have ih' : Option.map (·.2) (List.find? (fun q : List Int × V => keq .str q.1 b) (l.map fun p => if keq .str p.1 a = true then (p.1, v) else p)) = Option.map (·.2) (List.find? (fun q : List Int × V => keq .str q.1 b) l) := ih
    show Option.map (·.2) (List.find? _ ((if keq .str p.1 a = true then (p.1, v) else p) :: l.map _)) = Option.map (·.2) (List.find? _ (p :: l))
    by_cases hp : keq .str p.1 a = true
    · rw [if_pos hp]
      have hpa : p.1 = a := by simpa [keq] using hp
      have hb : keq .str p.1 b = false := by rw [hpa]; simp [keq, h]
      rw [List.find?_cons, List.find?_cons]
      simp only [hb]
      exact ih'
    · rw [if_neg hp]
      rw [List.find?_cons, List.find?_cons]
      split
      · rfl
      · exact ih'
theorem unN {V : Type} {a b : List Int} (h : a ≠ b) (v w : V) (l : List (List Int × V)) : pset .str a v (pset .str b w l) = pset .str b w (pset .str a v l) := by
  simp only [pset, List.map_map]
  refine List.map_congr_left fun p _ => ?_
  simp only [Function.comp]
  by_cases ha : keq .str p.1 a = true <;> by_cases hb : keq .str p.1 b = true <;> simp [ha, hb]
  exfalso
  have : p.1 = a := by simpa [keq] using ha
  have : p.1 = b := by simpa [keq] using hb
  simp_all
theorem ufK (a1 : List (List Int × Int × Int × List Int × Unit)) : CommG (uaX a1) (fun _ _ => True) := ukj fun a b hab s => by
  unfold uaX
  cases ha : pget .str a s with
  | none =>
    cases hb : pget .str b s with
    | none => rfl
    | some g =>
      simp only [Option.bind_none, Option.bind_some]
      cases ubm g b a1 with
      | none => rfl
      | some g' => simp only [Option.bind_some]; rw [ubU (Ne.symm hab), ha]; rfl
  | some f =>
    simp only [Option.bind_some]
    cases hf : ubm f a a1 with
    | none =>
      cases hb : pget .str b s with
      | none => rfl
      | some g =>
        simp only [Option.bind_none, Option.bind_some]
        cases ubm g b a1 with
        | none => rfl
        | some g' => simp only [Option.bind_some]; rw [ubU (Ne.symm hab), ha]; simp only [Option.bind_some, hf, Option.bind_none]
    | some f' =>
      simp only [Option.bind_some]
      rw [ubU hab]
      cases hb : pget .str b s with
      | none => rfl
      | some g =>
        simp only [Option.bind_some]
        cases hg : ubm g b a1 with
        | none => rfl
        | some g' =>
          simp only [Option.bind_some]
          rw [ubU (Ne.symm hab), ha]
          simp only [Option.bind_some, hf]
          rw [unN (Ne.symm hab)]
theorem ujJ {V : Type} {a b : Int} (h : a ≠ b) (v w : V) : ∀ l : List (Int × V), pins (.int .i64) a v (pins (.int .i64) b w l) = pins (.int .i64) b w (pins (.int .i64) a v l)
  | [] => by
    simp only [pins, klt]
    by_cases h1 : a < b
    · have : ¬ b < a := by omega
      simp [h1, this]
    · have : b < a := by omega
      simp [h1, this]
  | p :: l => by
    simp only [pins, klt]
    by_cases ha : a < p.1 <;> by_cases hb : b < p.1 <;> by_cases h1 : a < b <;> simp [pins, klt, ha, hb, h1] <;> first
      | omega
      | exact ujJ h v w l
      | (have : b < a := by omega
         simp [this])
      | (have : ¬ b < a := by omega
         simp [this, pins, klt, ha, hb])
      | skip
theorem ueO {V : Type} {a b : Int} (h : a ≠ b) (v : V) : ∀ l : List (Int × V), pget (.int .i64) b (pins (.int .i64) a v l) = pget (.int .i64) b l
  | [] => by simp [pins, pget, keq, h]
  | p :: l => by
    have ih := ueO h v l
    simp only [pget] at ih
    simp only [pins]
    split
    · simp [pget, List.find?_cons, keq, h]
    · simp only [pget, List.find?_cons]
      split
      · rfl
      · exact ih
theorem uf0 {V : Type} {a : Int} (v : V) : ∀ l : List (Int × V), (pins (.int .i64) a v l).length = l.length + 1
  | [] => rfl
  | p :: l => by
    simp only [pins]
    split
    · rfl
    · simp [uf0 v l]
theorem uh9 {V : Type} {a : Int} {v : V} {l : List (Int × V)} (h : pget (.int .i64) a l = none) : pput (.int .i64) a v l = pins (.int .i64) a v l := by unfold pput; rw [ugP h]
theorem uf1 (a0 : FileS) (a1 : List Int) (a2 : List (List Int × Int × Int × List Int × Unit)) : CommG (uaO a0 a1 a2) (fun s l => l.Nodup ∧ ∀ k ∈ l, pget (.int .i64) k s.2 = none) := by
  have hstep : ∀ a (s : Int × List (Int × (List Int × Int × Int × List Int × Unit))), uaO a0 a1 a2 a s = (ubg a2 a1 a).bind fun r => if s.2.length < 4611686018427387904 then some (if (r.2.2.1 == 1 || r.2.2.1 == 2) = true then max s.1 (min (IntKind.wrap .i64 (IntKind.wrap .i64 (a + 1) * 64)) (a0.1.length : Int)) else s.1, pput (.int .i64) a r s.2) else none := fun a s => by
    unfold uaO
    simp only [ual]
    congr 1; funext r
    split
    · split <;> rfl
    · rfl
  refine ⟨fun s a l s' ⟨hn, hg⟩ hs => ⟨(List.nodup_cons.1 hn).2, fun k hk => ?_⟩, fun s l l' p ⟨hn, hg⟩ => ⟨p.nodup_iff.1 hn, fun k hk => hg k (p.mem_iff.2 hk)⟩, fun s a b l hab ⟨hn, hg⟩ => ?_⟩
  · rw [hstep] at hs
    have hak : a ≠ k := fun e => (List.nodup_cons.1 hn).1 (e ▸ hk)
    cases hr : ubg a2 a1 a with
    | none => rw [hr] at hs; cases hs
    | some r =>
      rw [hr] at hs
      simp only [Option.bind_some] at hs
      split at hs
      · simp only [Option.some.injEq] at hs
        subst hs
        show pget (.int .i64) k (pput (.int .i64) a r s.2) = none
        rw [uh9 (hg a (by simp)), ueO hak]
        exact hg k (by simp [hk])
      · cases hs
  · have ha := hg a (by simp)
    have hb := hg b (by simp)
    have key : ∀ (a b : Int), a ≠ b → pget (.int .i64) a s.2 = none → pget (.int .i64) b s.2 = none → (uaO a0 a1 a2 a s).bind (uaO a0 a1 a2 b) = (ubg a2 a1 a).bind fun r => (ubg a2 a1 b).bind fun q => if s.2.length + 1 < 4611686018427387904 then
        some (if (q.2.2.1 == 1 || q.2.2.1 == 2) = true then max (if (r.2.2.1 == 1 || r.2.2.1 == 2) = true then max s.1 (min (IntKind.wrap .i64 (IntKind.wrap .i64 (a + 1) * 64)) (a0.1.length : Int)) else s.1) (min (IntKind.wrap .i64 (IntKind.wrap .i64 (b + 1) * 64)) (a0.1.length : Int)) else (if (r.2.2.1 == 1 || r.2.2.1 == 2) = true then max s.1 (min (IntKind.wrap .i64 (IntKind.wrap .i64 (a + 1) * 64)) (a0.1.length : Int)) else s.1), pins (.int .i64) b q (pins (.int .i64) a r s.2)) else none := fun a b hab ha hb => by
      rw [hstep]
      cases ubg a2 a1 a with
      | none => rfl
      | some r =>
        simp only [Option.bind_some]
        by_cases h1 : s.2.length < 4611686018427387904
        · rw [if_pos h1]
          simp only [Option.bind_some]
          rw [hstep]
          cases ubg a2 a1 b with
          | none => rfl
          | some q =>
            simp only [Option.bind_some]
            rw [uh9 ha, uf0, uh9 (by rw [ueO hab]; exact hb)]
        · rw [if_neg h1]
          cases ubg a2 a1 b with
          | none => rfl
          | some q =>
            simp only [Option.bind_some, Option.bind_none]
            rw [if_neg (by omega)]
    rw [key a b hab ha hb, key b a (Ne.symm hab) hb ha]
    cases ubg a2 a1 a with
    | none => cases ubg a2 a1 b <;> rfl
    | some r =>
      cases ubg a2 a1 b with
      | none => rfl
      | some q =>
        simp only [Option.bind_some]
        rw [ujJ (Ne.symm hab)]
        have hmax : (if (q.2.2.1 == 1 || q.2.2.1 == 2) = true then max (if (r.2.2.1 == 1 || r.2.2.1 == 2) = true then max s.1 (min (IntKind.wrap .i64 (IntKind.wrap .i64 (a + 1) * 64)) (a0.1.length : Int)) else s.1) (min (IntKind.wrap .i64 (IntKind.wrap .i64 (b + 1) * 64)) (a0.1.length : Int)) else (if (r.2.2.1 == 1 || r.2.2.1 == 2) = true then max s.1 (min (IntKind.wrap .i64 (IntKind.wrap .i64 (a + 1) * 64)) (a0.1.length : Int)) else s.1)) = (if (r.2.2.1 == 1 || r.2.2.1 == 2) = true then max (if (q.2.2.1 == 1 || q.2.2.1 == 2) = true then max s.1 (min (IntKind.wrap .i64 (IntKind.wrap .i64 (b + 1) * 64)) (a0.1.length : Int)) else s.1) (min (IntKind.wrap .i64 (IntKind.wrap .i64 (a + 1) * 64)) (a0.1.length : Int)) else (if (q.2.2.1 == 1 || q.2.2.1 == 2) = true then max s.1 (min (IntKind.wrap .i64 (IntKind.wrap .i64 (b + 1) * 64)) (a0.1.length : Int)) else s.1)) := by
          by_cases hr : (r.2.2.1 == 1 || r.2.2.1 == 2) = true <;> by_cases hq : (q.2.2.1 == 1 || q.2.2.1 == 2) = true <;> simp only [hr, hq, if_true] <;> first
            | rfl
            | omega
            | skip
        rw [hmax]
end Sx
