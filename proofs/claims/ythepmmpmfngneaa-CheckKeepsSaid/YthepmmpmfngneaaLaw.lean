/-
  Proved here: for every input that the given rows let in, each of the laws CheckKeeps of this program returns true and leaves its arguments as they were. No further condition beyond the row's own.
-/
import Derived.Test.YthepmmpmfngneaaRows
import Derived.Test.YthepmmpmfngneaaWalk
import Derived.Test.YthepmmpmfngneaaCheckKeeps
import Derived.Test.YthepmmpmfngneaaSxRow
namespace Go.Proofs.Ythepmmpmfngneaa
open Go Sx

namespace checkkeeps
theorem own : ownKnob Try.prog.godebug = none := by kernel_rfl
set_option maxRecDepth 100000 in
theorem law (xs : Vals [(.sl 31 Y31), .str]) (h : Smalls Try.prog.bytesOf [(.sl 31 Y31), .str] xs) : Pure Try.prog 3 (tvs [(.sl 31 Y31), .str] xs) (.one .bool true) :=
  escrowlaw07_CheckKeeps_ok xs.1 xs.2.1 _ (escrowlaw07_CheckKeeps_true xs.1 xs.2.1 h.1 h.2.1)
set_option maxRecDepth 100000 in
theorem lifted (os : Os) (started : os.Started) (H : Type) (enc : TypeId × Value → H) : ReturnsInHanded {} Try.checked os 3 .any (Rows.checkKeepsSpec.pre6 enc Try.prog Try.f3 Rows.checkKeepsRow.domain false) (Rows.checkKeepsSpec.post enc Try.prog Try.f3 false true false false) :=
  law_lifted (C := Try.checked) [(.sl 31 Y31), .str] (tids := [22, 9]) (bt := 4) own started (by kernel_rfl) Try.func3
    (ChangeSpec.witness6 (enc := enc) (C := Try.checked) false ⟨#[], #[.slice none 0 0, .string ByteArray.empty], []⟩ 8 (by kernel_rfl) (by kernel_rfl) (by kernel_rfl) (by kernel_rfl))
    Try.params3 rfl Try.underlying4 rfl (by kernel_rfl) (by kernel_rfl)
    (fun ds h => match ds, h with | [d0, d1], _ => rfl) (fun xs h => law xs h)
theorem over : Rows.checkKeepsRow.holds Try.pinned (OpenSpec.ofChange Rows.checkKeepsSpec) :=
  OpenClaim.holds_of_wide 3 Try.f3 rfl rfl rfl rfl rfl rfl rfl ⟨rfl, rfl, rfl, rfl, rfl⟩ rfl rfl rfl rfl rfl (by kernel_rfl) Try.func3 (by kernel_rfl)
    (of_decide_eq_true (by kernel_rfl)) (by unfold Func.isWrapper; first | (rw [if_pos (by decide +kernel)]; kernel_rfl) | (rw [if_neg (by decide +kernel)]; exact ⟨rfl, rfl⟩))
    (fun os started H enc _ => lifted os started H enc)
theorem proved : Rows.CheckKeepsSaid := over
end checkkeeps
end Go.Proofs.Ythepmmpmfngneaa
