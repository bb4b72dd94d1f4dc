/-
  Proved here: for every input that the given rows let in, each of the laws CrcSums, CrcJoins, CrcParts, CrcTells, CrcLinear, CrcFar of this program returns true and leaves its arguments as they were. No further condition.
-/
import Derived.Test.YtmchdaipjkkbeaaRows
import Derived.Test.YtmchdaipjkkbeaaWalk
import Derived.Test.YtmchdaipjkkbeaaPure
import Derived.Test.YtmchdaipjkkbeaaSxRow
namespace Go.Proofs.Ytmchdaipjkkbeaa
open Go Sx

namespace crcsums
theorem own : ownKnob Try.prog.godebug = none := by kernel_rfl
theorem law (xs : Vals [(.int .u32), .str]) (h : Smalls Try.prog.bytesOf [(.int .u32), .str] xs) : Pure Try.prog 3 (tvs [(.int .u32), .str] xs) (.one .bool true) :=
  escrowlaw01_CrcSums_ok xs.1 xs.2.1 _ (escrowlaw01_CrcSums_true xs.1 xs.2.1 h.1 h.2.1)
set_option maxRecDepth 100000 in
theorem lifted (os : Os) (started : os.Started) (H : Type) (enc : TypeId × Value → H) : ReturnsInHanded {} Try.checked os 3 .any (Rows.crcSumsSpec.pre6 enc Try.prog Try.f3 Rows.crcSumsRow.domain false) (Rows.crcSumsSpec.post enc Try.prog Try.f3 false true false false) :=
  law_lifted (C := Try.checked) [(.int .u32), .str] (tids := [22, 9]) (bt := 4) own started (by kernel_rfl) Try.func3
    (ChangeSpec.witness6 (enc := enc) (C := Try.checked) false ⟨#[], #[.int .u32 0, .string ByteArray.empty], []⟩ 8 (by kernel_rfl) (by kernel_rfl) (by kernel_rfl) (by kernel_rfl))
    Try.params3 rfl Try.underlying4 rfl (by kernel_rfl) (by kernel_rfl)
    (fun ds h => match ds, h with | [d0, d1], _ => rfl) (fun xs h => law xs h)
theorem over : Rows.crcSumsRow.holds Try.pinned (OpenSpec.ofChange Rows.crcSumsSpec) :=
  OpenClaim.holds_of_wide 3 Try.f3 rfl rfl rfl rfl rfl rfl rfl ⟨rfl, rfl, rfl, rfl, rfl⟩ rfl rfl rfl rfl rfl (by kernel_rfl) Try.func3 (by kernel_rfl)
    (of_decide_eq_true (by kernel_rfl)) (by unfold Func.isWrapper; first | (rw [if_pos (by decide +kernel)]; kernel_rfl) | (rw [if_neg (by decide +kernel)]; exact ⟨rfl, rfl⟩))
    (fun os started H enc _ => lifted os started H enc)
theorem proved : Rows.CrcSumsSaid := over
end crcsums

namespace crcjoins
theorem own : ownKnob Try.prog.godebug = none := by kernel_rfl
theorem law (xs : Vals [(.int .u32), (.int .u32), (.int .i64)]) (h : Smalls Try.prog.bytesOf [(.int .u32), (.int .u32), (.int .i64)] xs) : Pure Try.prog 4 (tvs [(.int .u32), (.int .u32), (.int .i64)] xs) (.one .bool true) :=
  escrowlaw01_CrcJoins_ok xs.1 xs.2.1 xs.2.2.1 _ (escrowlaw01_CrcJoins_true xs.1 xs.2.1 xs.2.2.1 h.1 h.2.1 h.2.2.1)
set_option maxRecDepth 100000 in
theorem lifted (os : Os) (started : os.Started) (H : Type) (enc : TypeId × Value → H) : ReturnsInHanded {} Try.checked os 4 .any (Rows.crcJoinsSpec.pre6 enc Try.prog Try.f4 Rows.crcJoinsRow.domain false) (Rows.crcJoinsSpec.post enc Try.prog Try.f4 false true false false) :=
  law_lifted (C := Try.checked) [(.int .u32), (.int .u32), (.int .i64)] (tids := [22, 22, 3]) (bt := 4) own started (by kernel_rfl) Try.func4
    (ChangeSpec.witness6 (enc := enc) (C := Try.checked) false ⟨#[], #[.int .u32 0, .int .u32 0, .int .i64 0], []⟩ 8 (by kernel_rfl) (by kernel_rfl) (by kernel_rfl) (by kernel_rfl))
    Try.params4 rfl Try.underlying4 rfl (by kernel_rfl) (by kernel_rfl)
    (fun ds h => match ds, h with | [d0, d1, d2], _ => rfl) (fun xs h => law xs h)
theorem over : Rows.crcJoinsRow.holds Try.pinned (OpenSpec.ofChange Rows.crcJoinsSpec) :=
  OpenClaim.holds_of_wide 4 Try.f4 rfl rfl rfl rfl rfl rfl rfl ⟨rfl, rfl, rfl, rfl, rfl⟩ rfl rfl rfl rfl rfl (by kernel_rfl) Try.func4 (by kernel_rfl)
    (of_decide_eq_true (by kernel_rfl)) (by unfold Func.isWrapper; first | (rw [if_pos (by decide +kernel)]; kernel_rfl) | (rw [if_neg (by decide +kernel)]; exact ⟨rfl, rfl⟩))
    (fun os started H enc _ => lifted os started H enc)
theorem proved : Rows.CrcJoinsSaid := over
end crcjoins

namespace crcparts
theorem own : ownKnob Try.prog.godebug = none := by kernel_rfl
theorem law (xs : Vals [.str, .str, .str]) (h : Smalls Try.prog.bytesOf [.str, .str, .str] xs) : Pure Try.prog 5 (tvs [.str, .str, .str] xs) (.one .bool true) :=
  escrowlaw01_CrcParts_ok xs.1 xs.2.1 xs.2.2.1 _ (escrowlaw01_CrcParts_true xs.1 xs.2.1 xs.2.2.1 h.1 h.2.1 h.2.2.1)
set_option maxRecDepth 100000 in
theorem lifted (os : Os) (started : os.Started) (H : Type) (enc : TypeId × Value → H) : ReturnsInHanded {} Try.checked os 5 .any (Rows.crcPartsSpec.pre6 enc Try.prog Try.f5 Rows.crcPartsRow.domain false) (Rows.crcPartsSpec.post enc Try.prog Try.f5 false true false false) :=
  law_lifted (C := Try.checked) [.str, .str, .str] (tids := [9, 9, 9]) (bt := 4) own started (by kernel_rfl) Try.func5
    (ChangeSpec.witness6 (enc := enc) (C := Try.checked) false ⟨#[], #[.string ByteArray.empty, .string ByteArray.empty, .string ByteArray.empty], []⟩ 8 (by kernel_rfl) (by kernel_rfl) (by kernel_rfl) (by kernel_rfl))
    Try.params5 rfl Try.underlying4 rfl (by kernel_rfl) (by kernel_rfl)
    (fun ds h => match ds, h with | [d0, d1, d2], _ => rfl) (fun xs h => law xs h)
theorem over : Rows.crcPartsRow.holds Try.pinned (OpenSpec.ofChange Rows.crcPartsSpec) :=
  OpenClaim.holds_of_wide 5 Try.f5 rfl rfl rfl rfl rfl rfl rfl ⟨rfl, rfl, rfl, rfl, rfl⟩ rfl rfl rfl rfl rfl (by kernel_rfl) Try.func5 (by kernel_rfl)
    (of_decide_eq_true (by kernel_rfl)) (by unfold Func.isWrapper; first | (rw [if_pos (by decide +kernel)]; kernel_rfl) | (rw [if_neg (by decide +kernel)]; exact ⟨rfl, rfl⟩))
    (fun os started H enc _ => lifted os started H enc)
theorem proved : Rows.CrcPartsSaid := over
end crcparts

namespace crctells
theorem own : ownKnob Try.prog.godebug = none := by kernel_rfl
theorem law (xs : Vals [.str, (.int .i64), (.int .u32)]) (h : Smalls Try.prog.bytesOf [.str, (.int .i64), (.int .u32)] xs) : Pure Try.prog 6 (tvs [.str, (.int .i64), (.int .u32)] xs) (.one .bool true) :=
  escrowlaw01_CrcTells_ok xs.1 xs.2.1 xs.2.2.1 _ (escrowlaw01_CrcTells_true xs.1 xs.2.1 xs.2.2.1 h.1 h.2.1 h.2.2.1)
set_option maxRecDepth 100000 in
theorem lifted (os : Os) (started : os.Started) (H : Type) (enc : TypeId × Value → H) : ReturnsInHanded {} Try.checked os 6 .any (Rows.crcTellsSpec.pre6 enc Try.prog Try.f6 Rows.crcTellsRow.domain false) (Rows.crcTellsSpec.post enc Try.prog Try.f6 false true false false) :=
  law_lifted (C := Try.checked) [.str, (.int .i64), (.int .u32)] (tids := [9, 3, 22]) (bt := 4) own started (by kernel_rfl) Try.func6
    (ChangeSpec.witness6 (enc := enc) (C := Try.checked) false ⟨#[], #[.string ByteArray.empty, .int .i64 0, .int .u32 0], []⟩ 8 (by kernel_rfl) (by kernel_rfl) (by kernel_rfl) (by kernel_rfl))
    Try.params6 rfl Try.underlying4 rfl (by kernel_rfl) (by kernel_rfl)
    (fun ds h => match ds, h with | [d0, d1, d2], _ => rfl) (fun xs h => law xs h)
theorem over : Rows.crcTellsRow.holds Try.pinned (OpenSpec.ofChange Rows.crcTellsSpec) :=
  OpenClaim.holds_of_wide 6 Try.f6 rfl rfl rfl rfl rfl rfl rfl ⟨rfl, rfl, rfl, rfl, rfl⟩ rfl rfl rfl rfl rfl (by kernel_rfl) Try.func6 (by kernel_rfl)
    (of_decide_eq_true (by kernel_rfl)) (by unfold Func.isWrapper; first | (rw [if_pos (by decide +kernel)]; kernel_rfl) | (rw [if_neg (by decide +kernel)]; exact ⟨rfl, rfl⟩))
    (fun os started H enc _ => lifted os started H enc)
theorem proved : Rows.CrcTellsSaid := over
end crctells

namespace crclinear
theorem own : ownKnob Try.prog.godebug = none := by kernel_rfl
theorem law (xs : Vals [.str, .str, .str]) (h : Smalls Try.prog.bytesOf [.str, .str, .str] xs) : Pure Try.prog 7 (tvs [.str, .str, .str] xs) (.one .bool true) :=
  escrowlaw01_CrcLinear_ok xs.1 xs.2.1 xs.2.2.1 _ (escrowlaw01_CrcLinear_true xs.1 xs.2.1 xs.2.2.1 h.1 h.2.1 h.2.2.1)
set_option maxRecDepth 100000 in
theorem lifted (os : Os) (started : os.Started) (H : Type) (enc : TypeId × Value → H) : ReturnsInHanded {} Try.checked os 7 .any (Rows.crcLinearSpec.pre6 enc Try.prog Try.f7 Rows.crcLinearRow.domain false) (Rows.crcLinearSpec.post enc Try.prog Try.f7 false true false false) :=
  law_lifted (C := Try.checked) [.str, .str, .str] (tids := [9, 9, 9]) (bt := 4) own started (by kernel_rfl) Try.func7
    (ChangeSpec.witness6 (enc := enc) (C := Try.checked) false ⟨#[], #[.string ByteArray.empty, .string ByteArray.empty, .string ByteArray.empty], []⟩ 8 (by kernel_rfl) (by kernel_rfl) (by kernel_rfl) (by kernel_rfl))
    Try.params7 rfl Try.underlying4 rfl (by kernel_rfl) (by kernel_rfl)
    (fun ds h => match ds, h with | [d0, d1, d2], _ => rfl) (fun xs h => law xs h)
theorem over : Rows.crcLinearRow.holds Try.pinned (OpenSpec.ofChange Rows.crcLinearSpec) :=
  OpenClaim.holds_of_wide 7 Try.f7 rfl rfl rfl rfl rfl rfl rfl ⟨rfl, rfl, rfl, rfl, rfl⟩ rfl rfl rfl rfl rfl (by kernel_rfl) Try.func7 (by kernel_rfl)
    (of_decide_eq_true (by kernel_rfl)) (by unfold Func.isWrapper; first | (rw [if_pos (by decide +kernel)]; kernel_rfl) | (rw [if_neg (by decide +kernel)]; exact ⟨rfl, rfl⟩))
    (fun os started H enc _ => lifted os started H enc)
theorem proved : Rows.CrcLinearSaid := over
end crclinear

namespace crcfar
theorem own : ownKnob Try.prog.godebug = none := by kernel_rfl
theorem law (xs : Vals [(.int .u32), (.int .i64), (.int .i64)]) (h : Smalls Try.prog.bytesOf [(.int .u32), (.int .i64), (.int .i64)] xs) : Pure Try.prog 8 (tvs [(.int .u32), (.int .i64), (.int .i64)] xs) (.one .bool true) :=
  escrowlaw01_CrcFar_ok xs.1 xs.2.1 xs.2.2.1 _ (escrowlaw01_CrcFar_true xs.1 xs.2.1 xs.2.2.1 h.1 h.2.1 h.2.2.1)
set_option maxRecDepth 100000 in
theorem lifted (os : Os) (started : os.Started) (H : Type) (enc : TypeId × Value → H) : ReturnsInHanded {} Try.checked os 8 .any (Rows.crcFarSpec.pre6 enc Try.prog Try.f8 Rows.crcFarRow.domain false) (Rows.crcFarSpec.post enc Try.prog Try.f8 false true false false) :=
  law_lifted (C := Try.checked) [(.int .u32), (.int .i64), (.int .i64)] (tids := [22, 3, 3]) (bt := 4) own started (by kernel_rfl) Try.func8
    (ChangeSpec.witness6 (enc := enc) (C := Try.checked) false ⟨#[], #[.int .u32 0, .int .i64 0, .int .i64 0], []⟩ 8 (by kernel_rfl) (by kernel_rfl) (by kernel_rfl) (by kernel_rfl))
    Try.params8 rfl Try.underlying4 rfl (by kernel_rfl) (by kernel_rfl)
    (fun ds h => match ds, h with | [d0, d1, d2], _ => rfl) (fun xs h => law xs h)
theorem over : Rows.crcFarRow.holds Try.pinned (OpenSpec.ofChange Rows.crcFarSpec) :=
  OpenClaim.holds_of_wide 8 Try.f8 rfl rfl rfl rfl rfl rfl rfl ⟨rfl, rfl, rfl, rfl, rfl⟩ rfl rfl rfl rfl rfl (by kernel_rfl) Try.func8 (by kernel_rfl)
    (of_decide_eq_true (by kernel_rfl)) (by unfold Func.isWrapper; first | (rw [if_pos (by decide +kernel)]; kernel_rfl) | (rw [if_neg (by decide +kernel)]; exact ⟨rfl, rfl⟩))
    (fun os started H enc _ => lifted os started H enc)
theorem proved : Rows.CrcFarSaid := over
end crcfar
end Go.Proofs.Ytmchdaipjkkbeaa
