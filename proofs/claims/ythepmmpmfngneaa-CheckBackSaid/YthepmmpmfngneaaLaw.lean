/-
  Proved here: for every input that the given rows let in, each of the laws CheckBack of this program returns true and leaves its arguments as they were. No further condition beyond the row's own.
-/
import Derived.Test.YthepmmpmfngneaaRows
import Derived.Test.YthepmmpmfngneaaWalk
import Derived.Test.YthepmmpmfngneaaCheckBack
import Derived.Test.YthepmmpmfngneaaSxRow
namespace Go.Proofs.Ythepmmpmfngneaa
open Go Sx

namespace checkback
theorem own : ownKnob Try.prog.godebug = none := by kernel_rfl
set_option maxRecDepth 100000 in
theorem law (xs : Vals [.str, (.int .i64), .str]) (h : Smalls Try.prog.bytesOf [.str, (.int .i64), .str] xs) : Pure Try.prog 4 (tvs [.str, (.int .i64), .str] xs) (.one .bool true) :=
  escrowlaw07_CheckBack_ok xs.1 xs.2.1 xs.2.2.1 _ (escrowlaw07_CheckBack_true xs.1 xs.2.1 xs.2.2.1 h.1 h.2.1 h.2.2.1)
set_option maxRecDepth 100000 in
theorem lifted (os : Os) (started : os.Started) (H : Type) (enc : TypeId × Value → H) : ReturnsInHanded {} Try.checked os 4 .any (Rows.checkBackSpec.pre6 enc Try.prog Try.f4 Rows.checkBackRow.domain false) (Rows.checkBackSpec.post enc Try.prog Try.f4 false true false false) :=
  law_lifted (C := Try.checked) [.str, (.int .i64), .str] (tids := [9, 3, 9]) (bt := 4) own started (by kernel_rfl) Try.func4
    (ChangeSpec.witness6 (enc := enc) (C := Try.checked) false ⟨#[], #[.string ByteArray.empty, .int .i64 0, .string ByteArray.empty], []⟩ 8 (by kernel_rfl) (by kernel_rfl) (by kernel_rfl) (by kernel_rfl))
    Try.params4 rfl Try.underlying4 rfl (by kernel_rfl) (by kernel_rfl)
    (fun ds h => match ds, h with | [d0, d1, d2], _ => rfl) (fun xs h => law xs h)
theorem over : Rows.checkBackRow.holds Try.pinned (OpenSpec.ofChange Rows.checkBackSpec) :=
  OpenClaim.holds_of_wide 4 Try.f4 rfl rfl rfl rfl rfl rfl rfl ⟨rfl, rfl, rfl, rfl, rfl⟩ rfl rfl rfl rfl rfl (by kernel_rfl) Try.func4 (by kernel_rfl)
    (of_decide_eq_true (by kernel_rfl)) (by unfold Func.isWrapper; first | (rw [if_pos (by decide +kernel)]; kernel_rfl) | (rw [if_neg (by decide +kernel)]; exact ⟨rfl, rfl⟩))
    (fun os started H enc _ => lifted os started H enc)
theorem proved : Rows.CheckBackSaid := over
end checkback
end Go.Proofs.Ythepmmpmfngneaa
