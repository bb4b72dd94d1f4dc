import Derived.Test.YtammhjkpdepohaaGreatDefs
namespace Sx
open Go

theorem wrap_add (a b : Int) : IntKind.wrap .i64 (IntKind.wrap .i64 a + b) = IntKind.wrap .i64 (a + b) := by
  simp only [IntKind.wrap, IntKind.signed, IntKind.bits, Bool.true_and, decide_eq_true_eq, ge_iff_le]
  split <;> split <;> split <;> omega
theorem comm_disk_Disk_Used_l0 (a0 : DiskS) : CommG (disk_Disk_Used_l0 a0) (fun _ _ => True) := commG_of fun a b _ s => by
  unfold disk_Disk_Used_l0
  simp only [bnd_eq]
  cases pget .str a a0.2.1 with
  | none => cases pget .str b a0.2.1 <;> rfl
  | some f =>
    cases pget .str b a0.2.1 with
    | none => rfl
    | some g =>
      simp only [Option.bind_some, Option.some.injEq]
      rw [wrap_add, wrap_add]
      congr 1; omega

theorem pget_pset_ne {V : Type} {a b : List Int} (h : a ≠ b) (v : V) (l : List (List Int × V)) : pget .str b (pset .str a v l) = pget .str b l := by
  induction l with
  | nil => rfl
  | cons p l ih =>
    have ih' : Option.map (·.2) (List.find? (fun q : List Int × V => keq .str q.1 b) (l.map fun p => if keq .str p.1 a = true then (p.1, v) else p)) = Option.map (·.2) (List.find? (fun q : List Int × V => keq .str q.1 b) l) := ih
    show Option.map (·.2) (List.find? _ ((if keq .str p.1 a = true then (p.1, v) else p) :: l.map _)) = Option.map (·.2) (List.find? _ (p :: l))
    by_cases hp : keq .str p.1 a = true
    · rw [if_pos hp]
      have hpa : p.1 = a := by simpa [keq] using hp
      have hb : keq .str p.1 b = false := by rw [hpa]; simp [keq, h]
      rw [List.find?_cons, List.find?_cons]
      simp only [hb]
      exact ih'
    · rw [if_neg hp]
      rw [List.find?_cons, List.find?_cons]
      split
      · rfl
      · exact ih'
theorem pset_comm {V : Type} {a b : List Int} (h : a ≠ b) (v w : V) (l : List (List Int × V)) : pset .str a v (pset .str b w l) = pset .str b w (pset .str a v l) := by
  simp only [pset, List.map_map]
  refine List.map_congr_left fun p _ => ?_
  simp only [Function.comp]
  by_cases ha : keq .str p.1 a = true <;> by_cases hb : keq .str p.1 b = true <;> simp [ha, hb]
  exfalso
  have : p.1 = a := by simpa [keq] using ha
  have : p.1 = b := by simpa [keq] using hb
  simp_all
theorem pins_comm {V : Type} {a b : Int} (h : a ≠ b) (v w : V) : ∀ l : List (Int × V), pins (.int .i64) a v (pins (.int .i64) b w l) = pins (.int .i64) b w (pins (.int .i64) a v l)
  | [] => by
    simp only [pins, klt]
    by_cases h1 : a < b
    · have : ¬ b < a := by omega
      simp [h1, this]
    · have : b < a := by omega
      simp [h1, this]
  | p :: l => by
    simp only [pins, klt]
    by_cases ha : a < p.1 <;> by_cases hb : b < p.1 <;> by_cases h1 : a < b <;> simp [pins, klt, ha, hb, h1] <;> first
      | omega
      | exact pins_comm h v w l
      | (have : b < a := by omega
         simp [this])
      | (have : ¬ b < a := by omega
         simp [this, pins, klt, ha, hb])
      | skip
theorem pget_pins_ne {V : Type} {a b : Int} (h : a ≠ b) (v : V) : ∀ l : List (Int × V), pget (.int .i64) b (pins (.int .i64) a v l) = pget (.int .i64) b l
  | [] => by simp [pins, pget, keq, h]
  | p :: l => by
    have ih := pget_pins_ne h v l
    simp only [pget] at ih
    simp only [pins]
    split
    · simp [pget, List.find?_cons, keq, h]
    · simp only [pget, List.find?_cons]
      split
      · rfl
      · exact ih
theorem pins_length {V : Type} {a : Int} (v : V) : ∀ l : List (Int × V), (pins (.int .i64) a v l).length = l.length + 1
  | [] => rfl
  | p :: l => by
    simp only [pins]
    split
    · rfl
    · simp [pins_length v l]
theorem pput_new {V : Type} {a : Int} {v : V} {l : List (Int × V)} (h : pget (.int .i64) a l = none) : pput (.int .i64) a v l = pins (.int .i64) a v l := by unfold pput; rw [pdel_none h]
end Sx
