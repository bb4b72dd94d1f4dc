/-
  Proved here: for every input that the given rows let in, each of the laws MarkTurns of this program returns true and leaves its arguments as they were. No further condition beyond the row's own.
-/
import Derived.Test.YtammhjkpdepohaaRows
import Derived.Test.YtammhjkpdepohaaWalk
import Derived.Test.YtammhjkpdepohaaPlain1
import Derived.Test.YtammhjkpdepohaaLib3
namespace Go.Proofs.Ytammhjkpdepohaa
open Go Sx

theorem one_le {H : Type} (d : DataW H) : 1 ≤ Rows.uptoBulk d := by
  cases d with
  | lit l => cases l <;> simp [Rows.uptoBulk]
  | nil => simp [Rows.uptoBulk]
  | ptr d => simp [Rows.uptoBulk]
  | slice elems spare => simp [Rows.uptoBulk]
  | agg parts => simp [Rows.uptoBulk]
  | iface t d => simp [Rows.uptoBulk]
  | map entries => simp [Rows.uptoBulk]
  | held h => simp [Rows.uptoBulk]
theorem bulkFn (H : Type) : BulkFn (H := H) Rows.uptoBulk Rows.uptoBulkAll :=
  ⟨one_le, fun l => by simp [Rows.uptoBulk], fun e s => by simp only [Rows.uptoBulk]; omega, fun p => by simp only [Rows.uptoBulk]; omega, by simp [Rows.uptoBulkAll], fun d l => by simp only [Rows.uptoBulkAll]⟩
namespace markturns
theorem own : ownKnob Try.prog.godebug = none := by kernel_rfl
set_option maxRecDepth 100000 in
theorem law (xs : Vals [(.sl 33 (.int .u16)), (.int .i64)]) (h : Smalls Try.prog.bytesOf [(.sl 33 (.int .u16)), (.int .i64)] xs) (hb : Bulks [(.sl 33 (.int .u16)), (.int .i64)] xs ≤ 1048576) : Pure Try.prog 3 (tvs [(.sl 33 (.int .u16)), (.int .i64)] xs) (.one .bool true) :=
  escrowlaw19_MarkTurns_ok xs.1 xs.2.1 _ (escrowlaw19_MarkTurns_true xs.1 xs.2.1 h.1 h.2.1 hb)
set_option maxRecDepth 100000 in
theorem lifted (os : Os) (started : os.Started) (H : Type) (enc : TypeId × Value → H) (F : Stop.Interp) :
    ReturnsInHanded {} Try.checked os 3 .any ((Rows.OpenSpec.upto Rows.markTurnsSpec).pre6 enc Try.prog Try.f3 Rows.markTurnsUptoRow.domain false) (((Rows.OpenSpec.upto Rows.markTurnsSpec).at F).post enc Try.prog Try.f3 false true false false) :=
  law_upto (C := Try.checked) (s := Rows.markTurnsSpec) (kk := Rows.uptoSmall) (most := 1048576) (bk := fun _ => Rows.uptoBulk) (bka := fun _ => Rows.uptoBulkAll) [(.sl 33 (.int .u16)), (.int .i64)] (tids := [22, 2]) (bt := 4) rfl (fun _ _ => rfl) (bulkFn H) own started (by kernel_rfl) Try.func3
    (OpenSpec.witness (enc := enc) (C := Try.checked) (s := Rows.OpenSpec.upto Rows.markTurnsSpec) (k := Rows.uptoSmall) rfl false ⟨#[], #[.slice none 0 0, .int .i64 0], []⟩ 8 (by kernel_rfl) (by kernel_rfl) (by kernel_rfl)
      (x := ([.nil, .lit (.int .i64 0)], [], [])) (by kernel_rfl) rfl (by kernel_rfl))
    Try.params3 rfl Try.underlying4 rfl (by kernel_rfl) (by kernel_rfl)
    (fun ds h => match ds, h with | [d0, d1], _ => rfl) (fun xs h hb => law xs h hb)
theorem proved : Rows.MarkTurnsUptoSaid :=
  OpenClaim.holds_of_cond 3 Try.f3 rfl rfl rfl rfl rfl rfl rfl ⟨rfl, rfl, rfl, rfl, rfl⟩ rfl rfl rfl rfl rfl (by kernel_rfl) Try.func3 (by kernel_rfl)
    (of_decide_eq_true (by kernel_rfl)) (by unfold Func.isWrapper; first | (rw [if_pos (by decide +kernel)]; kernel_rfl) | (rw [if_neg (by decide +kernel)]; exact ⟨rfl, rfl⟩))
    (fun os started H enc _ F => lifted os started H enc F)
end markturns
end Go.Proofs.Ytammhjkpdepohaa
