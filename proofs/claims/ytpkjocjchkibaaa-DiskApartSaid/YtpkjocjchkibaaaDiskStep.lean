/-
  Own work. Chapter 04: a step of a script, and a whole one.
-/
import Derived.Test.YtpkjocjchkibaaaDiskAny
import Derived.Test.YtpkjocjchkibaaaDiskArm
namespace Sx
open Go

abbrev OpS := Int × Bool × List Int × List Int × Int × Int × List Int × (List (List Int × Int × Int × List Int × Unit)) × Unit
def op0 : OpS := (0, false, [], [], 0, 0, [], [], ())
def OpOk (o : OpS) : Prop := o.2.2.1.length < 4611686018427387904 ∧ o.2.2.2.1.length < 4611686018427387904 ∧ rng .i64 o.2.2.2.2.1 ∧ byteOk o.2.2.2.2.2.2.1 ∧ o.2.2.2.2.2.2.1.length ≤ 140737488355328 ∧ FatesOk o.2.2.2.2.2.2.2.1
def OpsOk (l : List OpS) : Prop := l.length < 4611686018427387904 ∧ ∀ i, i < l.length → OpOk (List.getD l i op0)

def OpSmall {q0 q1 q5 q8 : OpS → Prop} {r0 r1 r2 r4 : FateS → Prop} (y : OpS) : Prop := q0 y ∧ q1 y ∧ (byteOk y.2.2.1 ∧ List.length y.2.2.1 ≤ 140737488351232) ∧ (byteOk y.2.2.2.1 ∧ List.length y.2.2.2.1 ≤ 140737488351232) ∧ rng .i64 y.2.2.2.2.1 ∧ q5 y ∧ (byteOk y.2.2.2.2.2.2.1 ∧ List.length y.2.2.2.2.2.2.1 ≤ 140737488351232) ∧ (List.length y.2.2.2.2.2.2.2.1 * 48 ≤ 140737488351232 ∧ ∀ z ∈ y.2.2.2.2.2.2.2.1, r0 z ∧ r1 z ∧ r2 z ∧ (byteOk z.2.2.2.1 ∧ List.length z.2.2.2.1 ≤ 140737488351232) ∧ r4 z) ∧ q8 y
theorem opsOk_of {a0 : List OpS} {q0 q1 q5 q8 : OpS → Prop} {r0 r1 r2 r4 : FateS → Prop} (h : List.length a0 * 104 ≤ 140737488351232 ∧ ∀ y ∈ a0, @OpSmall q0 q1 q5 q8 r0 r1 r2 r4 y) : OpsOk a0 := by
  refine ⟨by omega, fun i hi => ?_⟩
  have hmem : List.getD a0 i op0 ∈ a0 := by
    rw [List.getD_eq_getElem?_getD, List.getElem?_eq_getElem hi, Option.getD_some]
    exact List.getElem_mem hi
  obtain ⟨_, _, g1, g2, g3, _, g4, ⟨g5, g6⟩, _⟩ := h.2 _ hmem
  exact ⟨by omega, by omega, g3, g4.1, by omega, by omega, fun x hx => ⟨(g6 x hx).2.2.2.1.1, by have := (g6 x hx).2.2.2.1.2; omega⟩⟩

theorem step_any {D : DiskS} {o : OpS} (hok : FsOk D.2.1) (ho : OpOk o) : ∃ e D', escrowlaw04_step D o = some (e, D') ∧ Kept o.2.2.1 o.2.2.2.1 D D' := by
  obtain ⟨h1, h2, h3, h4, h5, h6⟩ := ho
  unfold escrowlaw04_step
  simp only [bnd_eq]
  by_cases c1 : (o.1 == 1) = true
  · obtain ⟨e, D', hw, hk⟩ := Write_kept hok h3 h4 h5 h1 o.2.2.2.1
    rw [if_pos c1, hw]; exact ⟨e, D', rfl, hk⟩
  rw [if_neg c1]
  by_cases c2 : (o.1 == 2) = true
  · obtain ⟨e, D', hw, hk⟩ := Sync_kept (name := o.2.2.1) hok o.2.2.2.1
    rw [if_pos c2, hw]; exact ⟨e, D', rfl, hk⟩
  rw [if_neg c2]
  by_cases c3 : (o.1 == 3) = true
  · obtain ⟨e, D', hw, hk⟩ := Truncate_kept (name := o.2.2.1) (n := o.2.2.2.2.2.1) hok o.2.2.2.1
    rw [if_pos c3, hw]; exact ⟨e, D', rfl, hk⟩
  rw [if_neg c3]
  by_cases c4 : (o.1 == 4) = true
  · obtain ⟨e, D', hw, hk⟩ := Rename_kept (a := o.2.2.1) hok h2
    rw [if_pos c4, hw]; exact ⟨e, D', rfl, hk⟩
  rw [if_neg c4]
  by_cases c5 : (o.1 == 5) = true
  · obtain ⟨e, D', hw, hk⟩ := Remove_kept (a := o.2.2.1) hok o.2.2.2.1
    rw [if_pos c5, hw]; exact ⟨e, D', rfl, hk⟩
  rw [if_neg c5]
  by_cases c7 : (o.1 == 7) = true
  · rw [if_pos c7, Arm_eq]; exact ⟨0, _, rfl, Kept.same hok rfl⟩
  rw [if_neg c7]
  by_cases c11 : (o.1 == 11) = true
  · rw [if_pos c11, Fall_eq]; exact ⟨0, _, rfl, Kept.same hok rfl⟩
  rw [if_neg c11]
  by_cases c8 : (o.1 == 8) = true
  · obtain ⟨D', hw, hk, _⟩ := Crash_kept h6 hok
    rw [if_pos c8, hw]; exact ⟨0, D', rfl, hk.kept _ _⟩
  rw [if_neg c8]
  by_cases c9 : (o.1 == 9) = true
  · obtain ⟨D', hw, hk, _⟩ := On_kept hok
    rw [if_pos c9, hw]; exact ⟨0, D', rfl, hk.kept _ _⟩
  rw [if_neg c9]
  exact ⟨0, D, rfl, Kept.same hok rfl⟩

theorem made_l0 {a0 : List OpS} (ha : OpsOk a0) (k : DiskS → Option (Int × DiskS)) : ∀ (j i : Nat) (D : DiskS), i + j = a0.length → FsOk D.2.1 → ∃ D', FsOk D'.2.1 ∧ escrowlaw04_made_l0 a0 k (j + 1) ((i : Int), D) = k D'
  | 0, i, D, h, hok => by
    refine ⟨D, hok, ?_⟩
    unfold escrowlaw04_made_l0
    rw [if_neg (by simp only [decide_eq_true_eq]; omega)]
  | j + 1, i, D, h, hok => by
    have hl := ha.1
    obtain ⟨e, D1, h1, h2⟩ := step_any hok (ha.2 i (by omega))
    obtain ⟨D', h3, h4⟩ := made_l0 ha k j (i + 1) D1 (by omega) h2.ok
    refine ⟨D', h3, ?_⟩
    have ew : IntKind.wrap .i64 ((i : Int) + 1) = ((i + 1 : Nat) : Int) := wrap_i64 (by omega) (by omega)
    unfold op0 at h1
    unfold escrowlaw04_made_l0
    simp only [bnd_eq, Int.toNat_natCast, h1, Option.bind_some, ew]
    rw [if_pos (by simp only [decide_eq_true_eq]; omega), if_pos (by omega), h4]
/-- a script that is played gives a disk that is on, and calm -/
theorem made_eq {a0 : List OpS} (ha : OpsOk a0) : ∃ D, escrowlaw04_made a0 = some (0, D) ∧ FsOk D.2.1 ∧ D.2.2.2.2.2.1 = false ∧ D.2.2.2.2.2.2 = false ∧ D.2.2.1 = 0 ∧ D.2.2.2.2.1 = 0 := by
  have hnew : disk_New 100000 = some (0, (100000, [], 0, 0, 0, false, false)) := by
    unfold disk_New
    simp only [bnd_eq]
    rw [if_neg (by decide)]
  have hok0 : FsOk ([] : List (List Int × FileS)) := ⟨(fun p hp => by cases hp), by simp, by simp⟩
  unfold escrowlaw04_made
  simp only [hnew, Option.bind_some, bnd_eq]
  rw [if_neg (by decide), if_pos trivial]
  have ef : Int.toNat ((a0.length : Int) - 0) + 1 = a0.length + 1 := by omega
  rw [ef]
  obtain ⟨D1, h1, h2⟩ := made_l0 ha (fun (o5 : DiskS) => (disk_Disk_On o5).bind fun (r6 : DiskS) => (disk_Disk_Arm r6 0 0).bind fun (r7 : DiskS) => (disk_Disk_Fall r7 0).bind fun (r8 : DiskS) => some (0, r8)) a0.length 0 (100000, [], 0, 0, 0, false, false) (by omega) hok0
  obtain ⟨D2, h3, h4, _, h6, h7⟩ := On_kept h1
  refine ⟨(D2.1, D2.2.1, 0, 0, 0, D2.2.2.2.2.2.1, D2.2.2.2.2.2.2), ?_, h4.ok, h6, h7, rfl, rfl⟩
  refine Eq.trans h2 ?_
  rw [h3]
  simp only [Option.bind_some, Arm_eq, Fall_eq]
  rfl

theorem dfirst_eq : escrowlaw04_first = some true := by decide +kernel

/-! ### Lists that are the same -/
theorem sameTexts_l0 (l : List (List Int)) (hl : l.length < 4611686018427387904) (k : Unit → Option Bool) : ∀ (j i : Nat), i + j = l.length → escrowlaw04_sameTexts_l0 l l k (j + 1) (i : Int) = k ()
  | 0, i, h => by
    unfold escrowlaw04_sameTexts_l0
    rw [if_neg (by simp only [decide_eq_true_eq]; omega)]
  | j + 1, i, h => by
    have ew : IntKind.wrap .i64 ((i : Int) + 1) = ((i + 1 : Nat) : Int) := wrap_i64 (by omega) (by omega)
    unfold escrowlaw04_sameTexts_l0
    simp only [bnd_eq, ew]
    rw [if_pos (by simp only [decide_eq_true_eq]; omega), if_pos (by omega), if_pos (by omega), if_neg (by simp)]
    exact sameTexts_l0 l hl k j (i + 1) (by omega)
theorem sameTexts_eq {l : List (List Int)} (hl : l.length < 4611686018427387904) : escrowlaw04_sameTexts l l = some true := by
  unfold escrowlaw04_sameTexts
  simp only [bnd_eq]
  have ef : Int.toNat ((l.length : Int) - 0) + 1 = l.length + 1 := by omega
  rw [if_neg (by simp), ef]
  exact sameTexts_l0 l hl _ l.length 0 (by omega)
end Sx
