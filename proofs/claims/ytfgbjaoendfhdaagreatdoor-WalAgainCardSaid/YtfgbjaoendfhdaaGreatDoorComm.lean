import Derived.Test.YtfgbjaoendfhdaaGreatDoorDefs
namespace Sx
open Go
theorem wrap_add (a b : Int) : IntKind.wrap .i64 (IntKind.wrap .i64 a + b) = IntKind.wrap .i64 (a + b) := by
  simp only [IntKind.wrap, IntKind.signed, IntKind.bits, Bool.true_and, decide_eq_true_eq, ge_iff_le]
  split <;> split <;> split <;> omega
theorem comm_disk_Disk_Used_l0 (a0 : DiskS) : CommG (disk_Disk_Used_l0 a0) (fun _ _ => True) := commG_of fun a b _ s => by
  unfold disk_Disk_Used_l0
  simp only [bnd_eq]
  cases pget .str a a0.2.1 with
  | none => cases pget .str b a0.2.1 <;> rfl
  | some f =>
    cases pget .str b a0.2.1 with
    | none => rfl
    | some g =>
      simp only [Option.bind_some, Option.some.injEq]
      rw [wrap_add, wrap_add]
      congr 1; omega
theorem pget_pset_ne {V : Type} {a b : List Int} (h : a ≠ b) (v : V) (l : List (List Int × V)) : pget .str b (pset .str a v l) = pget .str b l := by
  induction l with
  | nil => rfl
  | cons p l ih =>
    have ih' : Option.map (·.2) (List.find? (fun q : List Int × V => keq .str q.1 b) (l.map fun p => if keq .str p.1 a = true then (p.1, v) else p)) = Option.map (·.2) (List.find? (fun q : List Int × V => keq .str q.1 b) l) := ih
    show Option.map (·.2) (List.find? _ ((if keq .str p.1 a = true then (p.1, v) else p) :: l.map _)) = Option.map (·.2) (List.find? _ (p :: l))
    by_cases hp : keq .str p.1 a = true
    · rw [if_pos hp]
      have hpa : p.1 = a := by simpa [keq] using hp
      have hb : keq .str p.1 b = false := by rw [hpa]; simp [keq, h]
      rw [List.find?_cons, List.find?_cons]
      simp only [hb]
      exact ih'
    · rw [if_neg hp]
      rw [List.find?_cons, List.find?_cons]
      split
      · rfl
      · exact ih'
theorem pset_comm {V : Type} {a b : List Int} (h : a ≠ b) (v w : V) (l : List (List Int × V)) : pset .str a v (pset .str b w l) = pset .str b w (pset .str a v l) := by
  simp only [pset, List.map_map]
  refine List.map_congr_left fun p _ => ?_
  simp only [Function.comp]
  by_cases ha : keq .str p.1 a = true <;> by_cases hb : keq .str p.1 b = true <;> simp [ha, hb]
  exfalso
  have : p.1 = a := by simpa [keq] using ha
  have : p.1 = b := by simpa [keq] using hb
  simp_all
theorem comm_disk_Disk_Crash_l0 (a1 : List (List Int × Int × Int × List Int × Unit)) : CommG (disk_Disk_Crash_l0 a1) (fun _ _ => True) := commG_of fun a b hab s => by
  unfold disk_Disk_Crash_l0
  cases ha : pget .str a s with
  | none =>
    cases hb : pget .str b s with
    | none => rfl
    | some g =>
      simp only [Option.bind_none, Option.bind_some]
      cases disk_file_fall g b a1 with
      | none => rfl
      | some g' => simp only [Option.bind_some]; rw [pget_pset_ne (Ne.symm hab), ha]; rfl
  | some f =>
    simp only [Option.bind_some]
    cases hf : disk_file_fall f a a1 with
    | none =>
      cases hb : pget .str b s with
      | none => rfl
      | some g =>
        simp only [Option.bind_none, Option.bind_some]
        cases disk_file_fall g b a1 with
        | none => rfl
        | some g' => simp only [Option.bind_some]; rw [pget_pset_ne (Ne.symm hab), ha]; simp only [Option.bind_some, hf, Option.bind_none]
    | some f' =>
      simp only [Option.bind_some]
      rw [pget_pset_ne hab]
      cases hb : pget .str b s with
      | none => rfl
      | some g =>
        simp only [Option.bind_some]
        cases hg : disk_file_fall g b a1 with
        | none => rfl
        | some g' =>
          simp only [Option.bind_some]
          rw [pget_pset_ne (Ne.symm hab), ha]
          simp only [Option.bind_some, hf]
          rw [pset_comm (Ne.symm hab)]
theorem pins_comm {V : Type} {a b : Int} (h : a ≠ b) (v w : V) : ∀ l : List (Int × V), pins (.int .i64) a v (pins (.int .i64) b w l) = pins (.int .i64) b w (pins (.int .i64) a v l)
  | [] => by
    simp only [pins, klt]
    by_cases h1 : a < b
    · have : ¬ b < a := by omega
      simp [h1, this]
    · have : b < a := by omega
      simp [h1, this]
  | p :: l => by
    simp only [pins, klt]
    by_cases ha : a < p.1 <;> by_cases hb : b < p.1 <;> by_cases h1 : a < b <;> simp [pins, klt, ha, hb, h1] <;> first
      | omega
      | exact pins_comm h v w l
      | (have : b < a := by omega
         simp [this])
      | (have : ¬ b < a := by omega
         simp [this, pins, klt, ha, hb])
      | skip
theorem pget_pins_ne {V : Type} {a b : Int} (h : a ≠ b) (v : V) : ∀ l : List (Int × V), pget (.int .i64) b (pins (.int .i64) a v l) = pget (.int .i64) b l
  | [] => by simp [pins, pget, keq, h]
  | p :: l => by
    have ih := pget_pins_ne h v l
    simp only [pget] at ih
    simp only [pins]
    split
    · simp [pget, List.find?_cons, keq, h]
    · simp only [pget, List.find?_cons]
      split
      · rfl
      · exact ih
theorem pins_length {V : Type} {a : Int} (v : V) : ∀ l : List (Int × V), (pins (.int .i64) a v l).length = l.length + 1
  | [] => rfl
  | p :: l => by
    simp only [pins]
    split
    · rfl
    · simp [pins_length v l]
theorem pput_new {V : Type} {a : Int} {v : V} {l : List (Int × V)} (h : pget (.int .i64) a l = none) : pput (.int .i64) a v l = pins (.int .i64) a v l := by unfold pput; rw [pdel_none h]
theorem comm_disk_file_fall_l1 (a0 : FileS) (a1 : List Int) (a2 : List (List Int × Int × Int × List Int × Unit)) : CommG (disk_file_fall_l1 a0 a1 a2) (fun s l => l.Nodup ∧ ∀ k ∈ l, pget (.int .i64) k s.2 = none) := by
  have hstep : ∀ a (s : Int × List (Int × (List Int × Int × Int × List Int × Unit))), disk_file_fall_l1 a0 a1 a2 a s = (disk_fateOf a2 a1 a).bind fun r => if s.2.length < 4611686018427387904 then some (if (r.2.2.1 == 1 || r.2.2.1 == 2) = true then max s.1 (min (IntKind.wrap .i64 (IntKind.wrap .i64 (a + 1) * 64)) (a0.1.length : Int)) else s.1, pput (.int .i64) a r s.2) else none := fun a s => by
    unfold disk_file_fall_l1
    simp only [bnd_eq]
    congr 1; funext r
    split
    · split <;> rfl
    · rfl
  refine ⟨fun s a l s' ⟨hn, hg⟩ hs => ⟨(List.nodup_cons.1 hn).2, fun k hk => ?_⟩, fun s l l' p ⟨hn, hg⟩ => ⟨p.nodup_iff.1 hn, fun k hk => hg k (p.mem_iff.2 hk)⟩, fun s a b l hab ⟨hn, hg⟩ => ?_⟩
  · rw [hstep] at hs
    have hak : a ≠ k := fun e => (List.nodup_cons.1 hn).1 (e ▸ hk)
    cases hr : disk_fateOf a2 a1 a with
    | none => rw [hr] at hs; cases hs
    | some r =>
      rw [hr] at hs
      simp only [Option.bind_some] at hs
      split at hs
      · simp only [Option.some.injEq] at hs
        subst hs
        show pget (.int .i64) k (pput (.int .i64) a r s.2) = none
        rw [pput_new (hg a (by simp)), pget_pins_ne hak]
        exact hg k (by simp [hk])
      · cases hs
  · have ha := hg a (by simp)
    have hb := hg b (by simp)
    have key : ∀ (a b : Int), a ≠ b → pget (.int .i64) a s.2 = none → pget (.int .i64) b s.2 = none → (disk_file_fall_l1 a0 a1 a2 a s).bind (disk_file_fall_l1 a0 a1 a2 b) = (disk_fateOf a2 a1 a).bind fun r => (disk_fateOf a2 a1 b).bind fun q => if s.2.length + 1 < 4611686018427387904 then
        some (if (q.2.2.1 == 1 || q.2.2.1 == 2) = true then max (if (r.2.2.1 == 1 || r.2.2.1 == 2) = true then max s.1 (min (IntKind.wrap .i64 (IntKind.wrap .i64 (a + 1) * 64)) (a0.1.length : Int)) else s.1) (min (IntKind.wrap .i64 (IntKind.wrap .i64 (b + 1) * 64)) (a0.1.length : Int)) else (if (r.2.2.1 == 1 || r.2.2.1 == 2) = true then max s.1 (min (IntKind.wrap .i64 (IntKind.wrap .i64 (a + 1) * 64)) (a0.1.length : Int)) else s.1), pins (.int .i64) b q (pins (.int .i64) a r s.2)) else none := fun a b hab ha hb => by
      rw [hstep]
      cases disk_fateOf a2 a1 a with
      | none => rfl
      | some r =>
        simp only [Option.bind_some]
        by_cases h1 : s.2.length < 4611686018427387904
        · rw [if_pos h1]
          simp only [Option.bind_some]
          rw [hstep]
          cases disk_fateOf a2 a1 b with
          | none => rfl
          | some q =>
            simp only [Option.bind_some]
            rw [pput_new ha, pins_length, pput_new (by rw [pget_pins_ne hab]; exact hb)]
        · rw [if_neg h1]
          cases disk_fateOf a2 a1 b with
          | none => rfl
          | some q =>
            simp only [Option.bind_some, Option.bind_none]
            rw [if_neg (by omega)]
    rw [key a b hab ha hb, key b a (Ne.symm hab) hb ha]
    cases disk_fateOf a2 a1 a with
    | none => cases disk_fateOf a2 a1 b <;> rfl
    | some r =>
      cases disk_fateOf a2 a1 b with
      | none => rfl
      | some q =>
        simp only [Option.bind_some]
        rw [pins_comm (Ne.symm hab)]
        have hmax : (if (q.2.2.1 == 1 || q.2.2.1 == 2) = true then max (if (r.2.2.1 == 1 || r.2.2.1 == 2) = true then max s.1 (min (IntKind.wrap .i64 (IntKind.wrap .i64 (a + 1) * 64)) (a0.1.length : Int)) else s.1) (min (IntKind.wrap .i64 (IntKind.wrap .i64 (b + 1) * 64)) (a0.1.length : Int)) else (if (r.2.2.1 == 1 || r.2.2.1 == 2) = true then max s.1 (min (IntKind.wrap .i64 (IntKind.wrap .i64 (a + 1) * 64)) (a0.1.length : Int)) else s.1)) = (if (r.2.2.1 == 1 || r.2.2.1 == 2) = true then max (if (q.2.2.1 == 1 || q.2.2.1 == 2) = true then max s.1 (min (IntKind.wrap .i64 (IntKind.wrap .i64 (b + 1) * 64)) (a0.1.length : Int)) else s.1) (min (IntKind.wrap .i64 (IntKind.wrap .i64 (a + 1) * 64)) (a0.1.length : Int)) else (if (q.2.2.1 == 1 || q.2.2.1 == 2) = true then max s.1 (min (IntKind.wrap .i64 (IntKind.wrap .i64 (b + 1) * 64)) (a0.1.length : Int)) else s.1)) := by
          by_cases hr : (r.2.2.1 == 1 || r.2.2.1 == 2) = true <;> by_cases hq : (q.2.2.1 == 1 || q.2.2.1 == 2) = true <;> simp only [hr, hq, if_true] <;> first
            | rfl
            | omega
            | skip
        rw [hmax]
end Sx
