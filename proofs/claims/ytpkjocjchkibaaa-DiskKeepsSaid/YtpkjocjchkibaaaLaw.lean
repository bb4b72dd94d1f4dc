/-
  Proved here: for every input that the given rows let in, each of the laws DiskKeeps of this program returns true and leaves its arguments as they were. No further condition beyond the row's own.
-/
import Derived.Test.YtpkjocjchkibaaaRows
import Derived.Test.YtpkjocjchkibaaaWalk
import Derived.Test.YtpkjocjchkibaaaDiskKeeps
import Derived.Test.YtpkjocjchkibaaaSxRow
namespace Go.Proofs.Ytpkjocjchkibaaa
open Go Sx

namespace diskkeeps
theorem own : ownKnob Try.prog.godebug = none := by kernel_rfl
set_option maxRecDepth 100000 in
theorem law (xs : Vals [(.sl 41 Y41), .str, .str, (.sl 41 Y41), (.sl 67 Y67), (.int .i64)]) (h : Smalls Try.prog.bytesOf [(.sl 41 Y41), .str, .str, (.sl 41 Y41), (.sl 67 Y67), (.int .i64)] xs) : Pure Try.prog 3 (tvs [(.sl 41 Y41), .str, .str, (.sl 41 Y41), (.sl 67 Y67), (.int .i64)] xs) (.one .bool true) :=
  escrowlaw04_DiskKeeps_ok xs.1 xs.2.1 xs.2.2.1 xs.2.2.2.1 xs.2.2.2.2.1 xs.2.2.2.2.2.1 _ (escrowlaw04_DiskKeeps_true xs.1 xs.2.1 xs.2.2.1 xs.2.2.2.1 xs.2.2.2.2.1 xs.2.2.2.2.2.1 h.1 h.2.1 h.2.2.1 h.2.2.2.1 h.2.2.2.2.1 h.2.2.2.2.2.1)
set_option maxRecDepth 100000 in
theorem lifted (os : Os) (started : os.Started) (H : Type) (enc : TypeId × Value → H) : ReturnsInHanded {} Try.checked os 3 .any (Rows.diskKeepsSpec.pre6 enc Try.prog Try.f3 Rows.diskKeepsRow.domain false) (Rows.diskKeepsSpec.post enc Try.prog Try.f3 false true false false) :=
  law_lifted (C := Try.checked) [(.sl 41 Y41), .str, .str, (.sl 41 Y41), (.sl 67 Y67), (.int .i64)] (tids := [22, 9, 9, 22, 23, 3]) (bt := 4) own started (by kernel_rfl) Try.func3
    (ChangeSpec.witness6 (enc := enc) (C := Try.checked) false ⟨#[], #[.slice none 0 0, .string ByteArray.empty, .string ByteArray.empty, .slice none 0 0, .slice none 0 0, .int .i64 0], []⟩ 8 (by kernel_rfl) (by kernel_rfl) (by kernel_rfl) (by kernel_rfl))
    Try.params3 rfl Try.underlying4 rfl (by kernel_rfl) (by kernel_rfl)
    (fun ds h => match ds, h with | [d0, d1, d2, d3, d4, d5], _ => rfl) (fun xs h => law xs h)
theorem over : Rows.diskKeepsRow.holds Try.pinned (OpenSpec.ofChange Rows.diskKeepsSpec) :=
  OpenClaim.holds_of_wide 3 Try.f3 rfl rfl rfl rfl rfl rfl rfl ⟨rfl, rfl, rfl, rfl, rfl⟩ rfl rfl rfl rfl rfl (by kernel_rfl) Try.func3 (by kernel_rfl)
    (of_decide_eq_true (by kernel_rfl)) (by unfold Func.isWrapper; first | (rw [if_pos (by decide +kernel)]; kernel_rfl) | (rw [if_neg (by decide +kernel)]; exact ⟨rfl, rfl⟩))
    (fun os started H enc _ => lifted os started H enc)
theorem proved : Rows.DiskKeepsSaid := over
end diskkeeps
end Go.Proofs.Ytpkjocjchkibaaa
