/-
  Proved here: for every input that the given rows let in, each of the laws MarkSafe of this program returns true and leaves its arguments as they were. No further condition beyond the row's own.
-/
import Derived.Test.YtammhjkpdepohaaRows
import Derived.Test.YtammhjkpdepohaaWalk
import Derived.Test.YtammhjkpdepohaaPlain1
import Derived.Test.YtammhjkpdepohaaLib2
namespace Go.Proofs.Ytammhjkpdepohaa
open Go Sx

namespace marksafe
theorem own : ownKnob Try.prog.godebug = none := by kernel_rfl
set_option maxRecDepth 100000 in
theorem law (xs : Vals [(.sl 49 Y49)]) (h : Smalls Try.prog.bytesOf [(.sl 49 Y49)] xs) : Pure Try.prog 4 (tvs [(.sl 49 Y49)] xs) (.one .bool true) :=
  escrowlaw19_MarkSafe_ok xs.1 _ (escrowlaw19_MarkSafe_true xs.1 h.1)
set_option maxRecDepth 100000 in
theorem lifted (os : Os) (started : os.Started) (H : Type) (enc : TypeId × Value → H) : ReturnsInHanded {} Try.checked os 4 .any (Rows.markSafeSpec.pre6 enc Try.prog Try.f4 Rows.markSafeRow.domain false) (Rows.markSafeSpec.post enc Try.prog Try.f4 false true false false) :=
  law_lifted (C := Try.checked) [(.sl 49 Y49)] (tids := [41]) (bt := 4) own started (by kernel_rfl) Try.func4
    (ChangeSpec.witness6 (enc := enc) (C := Try.checked) false ⟨#[], #[.slice none 0 0], []⟩ 8 (by kernel_rfl) (by kernel_rfl) (by kernel_rfl) (by kernel_rfl))
    Try.params4 rfl Try.underlying4 rfl (by kernel_rfl) (by kernel_rfl)
    (fun ds h => match ds, h with | [d0], _ => rfl) (fun xs h => law xs h)
theorem over : Rows.markSafeRow.holds Try.pinned (OpenSpec.ofChange Rows.markSafeSpec) :=
  OpenClaim.holds_of_wide 4 Try.f4 rfl rfl rfl rfl rfl rfl rfl ⟨rfl, rfl, rfl, rfl, rfl⟩ rfl rfl rfl rfl rfl (by kernel_rfl) Try.func4 (by kernel_rfl)
    (of_decide_eq_true (by kernel_rfl)) (by unfold Func.isWrapper; first | (rw [if_pos (by decide +kernel)]; kernel_rfl) | (rw [if_neg (by decide +kernel)]; exact ⟨rfl, rfl⟩))
    (fun os started H enc _ => lifted os started H enc)
theorem proved : Rows.MarkSafeSaid := over
end marksafe
end Go.Proofs.Ytammhjkpdepohaa
