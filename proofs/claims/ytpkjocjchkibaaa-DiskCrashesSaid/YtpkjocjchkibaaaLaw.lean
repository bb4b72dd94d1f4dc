/-
  Proved here: for every input that the given rows let in, each of the laws DiskCrashes of this program returns true and leaves its arguments as they were. No further condition beyond the row's own.
-/
import Derived.Test.YtpkjocjchkibaaaRows
import Derived.Test.YtpkjocjchkibaaaWalk
import Derived.Test.YtpkjocjchkibaaaPlain1
import Derived.Test.YtpkjocjchkibaaaLib2
namespace Go.Proofs.Ytpkjocjchkibaaa
open Go Sx

namespace diskcrashes
theorem own : ownKnob Try.prog.godebug = none := by kernel_rfl
set_option maxRecDepth 100000 in
theorem law (xs : Vals [(.sl 41 Y41), (.sl 67 Y67)]) (h : Smalls Try.prog.bytesOf [(.sl 41 Y41), (.sl 67 Y67)] xs) : Pure Try.prog 5 (tvs [(.sl 41 Y41), (.sl 67 Y67)] xs) (.one .bool true) :=
  escrowlaw04_DiskCrashes_ok xs.1 xs.2.1 _ (escrowlaw04_DiskCrashes_true xs.1 xs.2.1 h.1 h.2.1)
set_option maxRecDepth 100000 in
theorem lifted (os : Os) (started : os.Started) (H : Type) (enc : TypeId × Value → H) : ReturnsInHanded {} Try.checked os 5 .any (Rows.diskCrashesSpec.pre6 enc Try.prog Try.f5 Rows.diskCrashesRow.domain false) (Rows.diskCrashesSpec.post enc Try.prog Try.f5 false true false false) :=
  law_lifted (C := Try.checked) [(.sl 41 Y41), (.sl 67 Y67)] (tids := [22, 23]) (bt := 4) own started (by kernel_rfl) Try.func5
    (ChangeSpec.witness6 (enc := enc) (C := Try.checked) false ⟨#[], #[.slice none 0 0, .slice none 0 0], []⟩ 8 (by kernel_rfl) (by kernel_rfl) (by kernel_rfl) (by kernel_rfl))
    Try.params5 rfl Try.underlying4 rfl (by kernel_rfl) (by kernel_rfl)
    (fun ds h => match ds, h with | [d0, d1], _ => rfl) (fun xs h => law xs h)
theorem over : Rows.diskCrashesRow.holds Try.pinned (OpenSpec.ofChange Rows.diskCrashesSpec) :=
  OpenClaim.holds_of_wide 5 Try.f5 rfl rfl rfl rfl rfl rfl rfl ⟨rfl, rfl, rfl, rfl, rfl⟩ rfl rfl rfl rfl rfl (by kernel_rfl) Try.func5 (by kernel_rfl)
    (of_decide_eq_true (by kernel_rfl)) (by unfold Func.isWrapper; first | (rw [if_pos (by decide +kernel)]; kernel_rfl) | (rw [if_neg (by decide +kernel)]; exact ⟨rfl, rfl⟩))
    (fun os started H enc _ => lifted os started H enc)
theorem proved : Rows.DiskCrashesSaid := over
end diskcrashes
end Go.Proofs.Ytpkjocjchkibaaa
