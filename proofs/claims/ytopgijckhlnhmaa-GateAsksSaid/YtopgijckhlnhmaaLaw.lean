/-
  Proved here: for every input that the given rows let in, each of the laws GateAsks of this program returns true and leaves its arguments as they were. No further condition beyond the row's own.
-/
import Derived.Test.YtopgijckhlnhmaaRows
import Derived.Test.YtopgijckhlnhmaaWalk
import Derived.Test.YtopgijckhlnhmaaGateAsks
import Derived.Test.YtopgijckhlnhmaaSxRow
namespace Go.Proofs.Ytopgijckhlnhmaa
open Go Sx

namespace gateasks
theorem own : ownKnob Try.prog.godebug = none := by kernel_rfl
theorem law (xs : Vals [(.int .i64), Y30, (.int .i64), Y24]) (h : Smalls Try.prog.bytesOf [(.int .i64), Y30, (.int .i64), Y24] xs) : Pure Try.prog 3 (tvs [(.int .i64), Y30, (.int .i64), Y24] xs) (.one .bool true) :=
  escrowlaw20_GateAsks_ok xs.1 xs.2.1 xs.2.2.1 xs.2.2.2.1 _ (escrowlaw20_GateAsks_true xs.1 xs.2.1 xs.2.2.1 xs.2.2.2.1 h.1 h.2.1 h.2.2.1 h.2.2.2.1)
set_option maxRecDepth 100000 in
theorem lifted (os : Os) (started : os.Started) (H : Type) (enc : TypeId × Value → H) : ReturnsInHanded {} Try.checked os 3 .any (Rows.gateAsksSpec.pre6 enc Try.prog Try.f3 Rows.gateAsksRow.domain false) (Rows.gateAsksSpec.post enc Try.prog Try.f3 false true false false) :=
  law_lifted (C := Try.checked) [(.int .i64), Y30, (.int .i64), Y24] (tids := [2, 30, 2, 24]) (bt := 4) own started (by kernel_rfl) Try.func3
    (ChangeSpec.witness6 (enc := enc) (C := Try.checked) false ⟨#[], #[.int .i64 0, .agg #[.int .i64 0, .int .i64 0, .int .i64 0, .int .i64 0, .slice none 0 0, .slice none 0 0, .int .i64 0, .int .i64 0, .int .i64 0, .int .i64 0, .int .i64 0, .int .i64 0, .int .i64 0, .int .i64 0, .int .i64 0, .bool false, .int .u8 0, .int .u8 0, .int .u8 0, .int .u8 0, .int .u8 0, .int .u8 0, .int .u8 0, .int .u8 0, .int .u8 0, .int .u8 0, .int .u8 0, .int .u8 0, .int .u8 0, .int .u8 0, .int .u8 0, .int .u8 0, .int .u8 0, .int .u8 0, .int .u8 0, .int .u8 0, .int .u8 0, .int .u8 0, .int .u8 0, .int .u8 0, .int .u8 0, .int .u8 0, .int .u8 0, .int .u8 0, .int .u8 0, .int .u8 0, .int .u8 0, .int .u8 0, .int .u8 0, .int .u8 0, .int .u8 0, .int .u8 0, .int .u8 0, .int .u8 0, .int .u8 0, .int .u8 0, .int .u8 0, .int .u8 0, .int .u8 0, .int .u8 0, .int .u8 0, .int .u8 0, .int .u8 0, .int .u8 0, .int .u8 0, .int .u8 0, .int .u8 0, .int .u8 0, .int .u8 0, .int .u8 0, .int .u8 0, .int .u8 0, .int .u8 0, .int .u8 0, .int .u8 0, .int .u8 0, .int .u8 0, .int .u8 0, .int .u8 0, .int .u8 0, .int .u8 0, .int .u8 0, .int .u8 0, .int .u8 0, .int .u8 0, .int .u8 0, .int .u8 0, .int .u8 0, .int .u8 0, .int .u8 0, .int .u8 0, .int .u8 0, .int .u8 0, .int .u8 0, .int .u8 0, .int .u8 0, .int .u8 0, .int .u8 0, .int .u8 0, .int .u8 0, .int .u8 0, .int .u8 0, .int .u8 0, .int .u8 0, .int .u8 0, .int .u8 0, .int .u8 0, .int .u8 0, .int .u8 0, .int .u8 0, .int .u8 0, .int .u8 0, .slice none 0 0, .int .i64 0, .int .i64 0], .int .i64 0, .agg #[.int .i64 0, .int .i64 0]], []⟩ 8 (by kernel_rfl) (by kernel_rfl) (by kernel_rfl) (by kernel_rfl))
    Try.params3 rfl Try.underlying4 rfl (by kernel_rfl) (by kernel_rfl)
    (fun ds h => match ds, h with | [d0, d1, d2, d3], _ => rfl) (fun xs h => law xs h)
theorem over : Rows.gateAsksRow.holds Try.pinned (OpenSpec.ofChange Rows.gateAsksSpec) :=
  OpenClaim.holds_of_wide 3 Try.f3 rfl rfl rfl rfl rfl rfl rfl ⟨rfl, rfl, rfl, rfl, rfl⟩ rfl rfl rfl rfl rfl (by kernel_rfl) Try.func3 (by kernel_rfl)
    (of_decide_eq_true (by kernel_rfl)) (by unfold Func.isWrapper; first | (rw [if_pos (by decide +kernel)]; kernel_rfl) | (rw [if_neg (by decide +kernel)]; exact ⟨rfl, rfl⟩))
    (fun os started H enc _ => lifted os started H enc)
theorem proved : Rows.GateAsksSaid := over
end gateasks
end Go.Proofs.Ytopgijckhlnhmaa
