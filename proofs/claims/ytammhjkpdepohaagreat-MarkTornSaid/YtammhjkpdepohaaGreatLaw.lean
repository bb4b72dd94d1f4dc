/-
  Proved here: for every input that the given rows let in, each of the laws MarkTorn of this program returns true and leaves its arguments as they were. No further condition beyond the row's own.
-/
import Derived.Test.YtammhjkpdepohaaGreatRows
import Derived.Test.YtammhjkpdepohaaGreatWalk
import Derived.Test.YtammhjkpdepohaaGreatPlain1
import Derived.Test.YtammhjkpdepohaaGreatLib2
namespace Go.Proofs.YtammhjkpdepohaaGreat
open Go Sx

namespace marktorn
theorem own : ownKnob Tryz.prog.godebug = none := by kernel_rfl
set_option maxRecDepth 100000 in
theorem law (xs : Vals [(.int .i64), (.int .i64), (.int .i64), (.int .u8), (.int .i64)]) (h : Smalls Tryz.prog.bytesOf [(.int .i64), (.int .i64), (.int .i64), (.int .u8), (.int .i64)] xs) : Pure Tryz.prog 3 (tvs [(.int .i64), (.int .i64), (.int .i64), (.int .u8), (.int .i64)] xs) (.one .bool true) :=
  escrowlaw19_MarkTorn_ok xs.1 xs.2.1 xs.2.2.1 xs.2.2.2.1 xs.2.2.2.2.1 _ (escrowlaw19_MarkTorn_true xs.1 xs.2.1 xs.2.2.1 xs.2.2.2.1 xs.2.2.2.2.1 h.1 h.2.1 h.2.2.1 h.2.2.2.1 h.2.2.2.2.1)
set_option maxRecDepth 100000 in
theorem lifted (os : Os) (started : os.Started) (H : Type) (enc : TypeId × Value → H) : ReturnsInHanded {} Tryz.checked os 3 .any (Rows.markTornSpec.pre6 enc Tryz.prog Tryz.f3 Rows.markTornRow.domain false) (Rows.markTornSpec.post enc Tryz.prog Tryz.f3 false true false false) :=
  law_lifted (C := Tryz.checked) [(.int .i64), (.int .i64), (.int .i64), (.int .u8), (.int .i64)] (tids := [2, 2, 3, 5, 3]) (bt := 4) own started (by kernel_rfl) Tryz.func3
    (ChangeSpec.witness6 (enc := enc) (C := Tryz.checked) false ⟨#[], #[.int .i64 0, .int .i64 0, .int .i64 0, .int .u8 0, .int .i64 0], []⟩ 8 (by kernel_rfl) (by kernel_rfl) (by kernel_rfl) (by kernel_rfl))
    Tryz.params3 rfl Tryz.underlying4 rfl (by kernel_rfl) (by kernel_rfl)
    (fun ds h => match ds, h with | [d0, d1, d2, d3, d4], _ => rfl) (fun xs h => law xs h)
theorem over : Rows.markTornRow.holds Tryz.pinned (OpenSpec.ofChange Rows.markTornSpec) :=
  OpenClaim.holds_of_wide 3 Tryz.f3 rfl rfl rfl rfl rfl rfl rfl ⟨rfl, rfl, rfl, rfl, rfl⟩ rfl rfl rfl rfl rfl (by kernel_rfl) Tryz.func3 (by kernel_rfl)
    (of_decide_eq_true (by kernel_rfl)) (by unfold Func.isWrapper; first | (rw [if_pos (by decide +kernel)]; kernel_rfl) | (rw [if_neg (by decide +kernel)]; exact ⟨rfl, rfl⟩))
    (fun os started H enc _ => lifted os started H enc)
theorem proved : Rows.MarkTornSaid := over
end marktorn
end Go.Proofs.YtammhjkpdepohaaGreat
