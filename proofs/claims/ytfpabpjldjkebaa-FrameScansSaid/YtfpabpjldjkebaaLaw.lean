/-
  Proved here: for every input that the given rows let in, each of the laws FrameReads, FrameScans, FrameOne of this program returns true and leaves its arguments as they were. No further condition.
-/
import Derived.Test.YtfpabpjldjkebaaRows
import Derived.Test.YtfpabpjldjkebaaWalk
import Derived.Test.YtfpabpjldjkebaaFrameW
import Derived.Test.YtfpabpjldjkebaaSxRow
namespace Go.Proofs.Ytfpabpjldjkebaa
open Go Sx

namespace framereads
theorem own : ownKnob Try.prog.godebug = none := by kernel_rfl
theorem law (xs : Vals [.str, (.int .i64), (.int .i64)]) (h : Smalls Try.prog.bytesOf [.str, (.int .i64), (.int .i64)] xs) : Pure Try.prog 4 (tvs [.str, (.int .i64), (.int .i64)] xs) (.one .bool true) :=
  escrowlaw05_FrameReads_ok xs.1 xs.2.1 xs.2.2.1 _ (escrowlaw05_FrameReads_true xs.1 xs.2.1 xs.2.2.1 h.1 h.2.1 h.2.2.1)
set_option maxRecDepth 100000 in
theorem lifted (os : Os) (started : os.Started) (H : Type) (enc : TypeId × Value → H) : ReturnsInHanded {} Try.checked os 4 .any (Rows.frameReadsSpec.pre6 enc Try.prog Try.f4 Rows.frameReadsRow.domain false) (Rows.frameReadsSpec.post enc Try.prog Try.f4 false true false false) :=
  law_lifted (C := Try.checked) [.str, (.int .i64), (.int .i64)] (tids := [9, 3, 2]) (bt := 4) own started (by kernel_rfl) Try.func4
    (ChangeSpec.witness6 (enc := enc) (C := Try.checked) false ⟨#[], #[.string ByteArray.empty, .int .i64 0, .int .i64 0], []⟩ 8 (by kernel_rfl) (by kernel_rfl) (by kernel_rfl) (by kernel_rfl))
    Try.params4 rfl Try.underlying4 rfl (by kernel_rfl) (by kernel_rfl)
    (fun ds h => match ds, h with | [d0, d1, d2], _ => rfl) (fun xs h => law xs h)
theorem over : Rows.frameReadsRow.holds Try.pinned (OpenSpec.ofChange Rows.frameReadsSpec) :=
  OpenClaim.holds_of_wide 4 Try.f4 rfl rfl rfl rfl rfl rfl rfl ⟨rfl, rfl, rfl, rfl, rfl⟩ rfl rfl rfl rfl rfl (by kernel_rfl) Try.func4 (by kernel_rfl)
    (of_decide_eq_true (by kernel_rfl)) (by unfold Func.isWrapper; first | (rw [if_pos (by decide +kernel)]; kernel_rfl) | (rw [if_neg (by decide +kernel)]; exact ⟨rfl, rfl⟩))
    (fun os started H enc _ => lifted os started H enc)
theorem proved : Rows.FrameReadsSaid := over
end framereads

namespace framescans
theorem own : ownKnob Try.prog.godebug = none := by kernel_rfl
theorem law (xs : Vals [.str, (.int .i64)]) (h : Smalls Try.prog.bytesOf [.str, (.int .i64)] xs) : Pure Try.prog 5 (tvs [.str, (.int .i64)] xs) (.one .bool true) :=
  escrowlaw05_FrameScans_ok xs.1 xs.2.1 _ (escrowlaw05_FrameScans_true xs.1 xs.2.1 h.1 h.2.1)
set_option maxRecDepth 100000 in
theorem lifted (os : Os) (started : os.Started) (H : Type) (enc : TypeId × Value → H) : ReturnsInHanded {} Try.checked os 5 .any (Rows.frameScansSpec.pre6 enc Try.prog Try.f5 Rows.frameScansRow.domain false) (Rows.frameScansSpec.post enc Try.prog Try.f5 false true false false) :=
  law_lifted (C := Try.checked) [.str, (.int .i64)] (tids := [9, 2]) (bt := 4) own started (by kernel_rfl) Try.func5
    (ChangeSpec.witness6 (enc := enc) (C := Try.checked) false ⟨#[], #[.string ByteArray.empty, .int .i64 0], []⟩ 8 (by kernel_rfl) (by kernel_rfl) (by kernel_rfl) (by kernel_rfl))
    Try.params5 rfl Try.underlying4 rfl (by kernel_rfl) (by kernel_rfl)
    (fun ds h => match ds, h with | [d0, d1], _ => rfl) (fun xs h => law xs h)
theorem over : Rows.frameScansRow.holds Try.pinned (OpenSpec.ofChange Rows.frameScansSpec) :=
  OpenClaim.holds_of_wide 5 Try.f5 rfl rfl rfl rfl rfl rfl rfl ⟨rfl, rfl, rfl, rfl, rfl⟩ rfl rfl rfl rfl rfl (by kernel_rfl) Try.func5 (by kernel_rfl)
    (of_decide_eq_true (by kernel_rfl)) (by unfold Func.isWrapper; first | (rw [if_pos (by decide +kernel)]; kernel_rfl) | (rw [if_neg (by decide +kernel)]; exact ⟨rfl, rfl⟩))
    (fun os started H enc _ => lifted os started H enc)
theorem proved : Rows.FrameScansSaid := over
end framescans

namespace frameone
theorem own : ownKnob Try.prog.godebug = none := by kernel_rfl
theorem law (xs : Vals [.str, (.int .i64), (.int .i64)]) (h : Smalls Try.prog.bytesOf [.str, (.int .i64), (.int .i64)] xs) : Pure Try.prog 8 (tvs [.str, (.int .i64), (.int .i64)] xs) (.one .bool true) :=
  escrowlaw05_FrameOne_ok xs.1 xs.2.1 xs.2.2.1 _ (escrowlaw05_FrameOne_true xs.1 xs.2.1 xs.2.2.1 h.1 h.2.1 h.2.2.1)
set_option maxRecDepth 100000 in
theorem lifted (os : Os) (started : os.Started) (H : Type) (enc : TypeId × Value → H) : ReturnsInHanded {} Try.checked os 8 .any (Rows.frameOneSpec.pre6 enc Try.prog Try.f8 Rows.frameOneRow.domain false) (Rows.frameOneSpec.post enc Try.prog Try.f8 false true false false) :=
  law_lifted (C := Try.checked) [.str, (.int .i64), (.int .i64)] (tids := [9, 3, 2]) (bt := 4) own started (by kernel_rfl) Try.func8
    (ChangeSpec.witness6 (enc := enc) (C := Try.checked) false ⟨#[], #[.string ByteArray.empty, .int .i64 0, .int .i64 0], []⟩ 8 (by kernel_rfl) (by kernel_rfl) (by kernel_rfl) (by kernel_rfl))
    Try.params8 rfl Try.underlying4 rfl (by kernel_rfl) (by kernel_rfl)
    (fun ds h => match ds, h with | [d0, d1, d2], _ => rfl) (fun xs h => law xs h)
theorem over : Rows.frameOneRow.holds Try.pinned (OpenSpec.ofChange Rows.frameOneSpec) :=
  OpenClaim.holds_of_wide 8 Try.f8 rfl rfl rfl rfl rfl rfl rfl ⟨rfl, rfl, rfl, rfl, rfl⟩ rfl rfl rfl rfl rfl (by kernel_rfl) Try.func8 (by kernel_rfl)
    (of_decide_eq_true (by kernel_rfl)) (by unfold Func.isWrapper; first | (rw [if_pos (by decide +kernel)]; kernel_rfl) | (rw [if_neg (by decide +kernel)]; exact ⟨rfl, rfl⟩))
    (fun os started H enc _ => lifted os started H enc)
theorem proved : Rows.FrameOneSaid := over
end frameone
end Go.Proofs.Ytfpabpjldjkebaa
