/-
  Proved here: for every input that the given rows let in, each of the laws DiskRefused of this program returns true and leaves its arguments as they were. No further condition beyond the row's own.
-/
import Derived.Test.YtpkjocjchkibaaaRows
import Derived.Test.YtpkjocjchkibaaaWalk
import Derived.Test.YtpkjocjchkibaaaPlain1
import Derived.Test.YtpkjocjchkibaaaLib2
namespace Go.Proofs.Ytpkjocjchkibaaa
open Go Sx

namespace diskrefused
theorem own : ownKnob Try.prog.godebug = none := by kernel_rfl
set_option maxRecDepth 100000 in
theorem law (xs : Vals [(.sl 41 Y41), Y41, (.int .i64)]) (h : Smalls Try.prog.bytesOf [(.sl 41 Y41), Y41, (.int .i64)] xs) : Pure Try.prog 6 (tvs [(.sl 41 Y41), Y41, (.int .i64)] xs) (.one .bool true) :=
  escrowlaw04_DiskRefused_ok xs.1 xs.2.1 xs.2.2.1 _ (escrowlaw04_DiskRefused_true xs.1 xs.2.1 xs.2.2.1 h.1 h.2.1 h.2.2.1)
set_option maxRecDepth 100000 in
theorem lifted (os : Os) (started : os.Started) (H : Type) (enc : TypeId × Value → H) : ReturnsInHanded {} Try.checked os 6 .any (Rows.diskRefusedSpec.pre6 enc Try.prog Try.f6 Rows.diskRefusedRow.domain false) (Rows.diskRefusedSpec.post enc Try.prog Try.f6 false true false false) :=
  law_lifted (C := Try.checked) [(.sl 41 Y41), Y41, (.int .i64)] (tids := [22, 41, 3]) (bt := 4) own started (by kernel_rfl) Try.func6
    (ChangeSpec.witness6 (enc := enc) (C := Try.checked) false ⟨#[], #[.slice none 0 0, .agg #[.int .i64 0, .bool false, .string ByteArray.empty, .string ByteArray.empty, .int .i64 0, .int .i64 0, .string ByteArray.empty, .slice none 0 0], .int .i64 0], []⟩ 8 (by kernel_rfl) (by kernel_rfl) (by kernel_rfl) (by kernel_rfl))
    Try.params6 rfl Try.underlying4 rfl (by kernel_rfl) (by kernel_rfl)
    (fun ds h => match ds, h with | [d0, d1, d2], _ => rfl) (fun xs h => law xs h)
theorem over : Rows.diskRefusedRow.holds Try.pinned (OpenSpec.ofChange Rows.diskRefusedSpec) :=
  OpenClaim.holds_of_wide 6 Try.f6 rfl rfl rfl rfl rfl rfl rfl ⟨rfl, rfl, rfl, rfl, rfl⟩ rfl rfl rfl rfl rfl (by kernel_rfl) Try.func6 (by kernel_rfl)
    (of_decide_eq_true (by kernel_rfl)) (by unfold Func.isWrapper; first | (rw [if_pos (by decide +kernel)]; kernel_rfl) | (rw [if_neg (by decide +kernel)]; exact ⟨rfl, rfl⟩))
    (fun os started H enc _ => lifted os started H enc)
theorem proved : Rows.DiskRefusedSaid := over
end diskrefused
end Go.Proofs.Ytpkjocjchkibaaa
