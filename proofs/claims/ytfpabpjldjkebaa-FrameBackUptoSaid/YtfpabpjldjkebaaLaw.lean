/-
  Proved here: for every input that the given rows let in, each of the laws FrameBack, FrameBehind, FrameTells of this program returns true and leaves its arguments as they were. No further condition beyond the row's own.
-/
import Derived.Test.YtfpabpjldjkebaaRows
import Derived.Test.YtfpabpjldjkebaaWalk
import Derived.Test.YtfpabpjldjkebaaFrameY
import Derived.Test.YtfpabpjldjkebaaSxUpto
namespace Go.Proofs.Ytfpabpjldjkebaa
open Go Sx

theorem one_le {H : Type} (d : DataW H) : 1 ≤ Rows.uptoBulk d := by
  cases d with
  | lit l => cases l <;> simp [Rows.uptoBulk]
  | nil => simp [Rows.uptoBulk]
  | ptr d => simp [Rows.uptoBulk]
  | slice elems spare => simp [Rows.uptoBulk]
  | agg parts => simp [Rows.uptoBulk]
  | iface t d => simp [Rows.uptoBulk]
  | map entries => simp [Rows.uptoBulk]
  | held h => simp [Rows.uptoBulk]
theorem bulkFn (H : Type) : BulkFn (H := H) Rows.uptoBulk Rows.uptoBulkAll :=
  ⟨one_le, fun l => by simp [Rows.uptoBulk], fun e s => by simp only [Rows.uptoBulk]; omega, fun p => by simp only [Rows.uptoBulk]; omega, by simp [Rows.uptoBulkAll], fun d l => by simp only [Rows.uptoBulkAll]⟩
namespace frameback
theorem own : ownKnob Try.prog.godebug = none := by kernel_rfl
theorem law (xs : Vals [(.sl 9 .str), (.int .i64), (.int .i64)]) (h : Smalls Try.prog.bytesOf [(.sl 9 .str), (.int .i64), (.int .i64)] xs) (hb : Bulks [(.sl 9 .str), (.int .i64), (.int .i64)] xs ≤ 1048576) : Pure Try.prog 6 (tvs [(.sl 9 .str), (.int .i64), (.int .i64)] xs) (.one .bool true) :=
  escrowlaw05_FrameBack_ok xs.1 xs.2.1 xs.2.2.1 _ (escrowlaw05_FrameBack_true xs.1 xs.2.1 xs.2.2.1 h.1 h.2.1 h.2.2.1 hb)
set_option maxRecDepth 100000 in
theorem lifted (os : Os) (started : os.Started) (H : Type) (enc : TypeId × Value → H) (F : Stop.Interp) :
    ReturnsInHanded {} Try.checked os 6 .any ((Rows.OpenSpec.upto Rows.frameBackSpec).pre6 enc Try.prog Try.f6 Rows.frameBackUptoRow.domain false) (((Rows.OpenSpec.upto Rows.frameBackSpec).at F).post enc Try.prog Try.f6 false true false false) :=
  law_upto (C := Try.checked) (s := Rows.frameBackSpec) (kk := Rows.uptoSmall) (most := 1048576) (bk := fun _ => Rows.uptoBulk) (bka := fun _ => Rows.uptoBulkAll) [(.sl 9 .str), (.int .i64), (.int .i64)] (tids := [30, 2, 3]) (bt := 4) rfl (fun _ _ => rfl) (bulkFn H) own started (by kernel_rfl) Try.func6
    (OpenSpec.witness (enc := enc) (C := Try.checked) (s := Rows.OpenSpec.upto Rows.frameBackSpec) (k := Rows.uptoSmall) rfl false ⟨#[], #[.slice none 0 0, .int .i64 0, .int .i64 0], []⟩ 8 (by kernel_rfl) (by kernel_rfl) (by kernel_rfl)
      (x := ([.nil, .lit (.int .i64 0), .lit (.int .i64 0)], [], [])) (by kernel_rfl) rfl (by kernel_rfl))
    Try.params6 rfl Try.underlying4 rfl (by kernel_rfl) (by kernel_rfl)
    (fun ds h => match ds, h with | [d0, d1, d2], _ => rfl) (fun xs h hb => law xs h hb)
theorem proved : Rows.FrameBackUptoSaid :=
  OpenClaim.holds_of_cond 6 Try.f6 rfl rfl rfl rfl rfl rfl rfl ⟨rfl, rfl, rfl, rfl, rfl⟩ rfl rfl rfl rfl rfl (by kernel_rfl) Try.func6 (by kernel_rfl)
    (of_decide_eq_true (by kernel_rfl)) (by unfold Func.isWrapper; first | (rw [if_pos (by decide +kernel)]; kernel_rfl) | (rw [if_neg (by decide +kernel)]; exact ⟨rfl, rfl⟩))
    (fun os started H enc _ F => lifted os started H enc F)
end frameback

namespace framebehind
theorem own : ownKnob Try.prog.godebug = none := by kernel_rfl
theorem law (xs : Vals [(.sl 9 .str), (.int .i64), (.int .i64), (.int .i64), .str]) (h : Smalls Try.prog.bytesOf [(.sl 9 .str), (.int .i64), (.int .i64), (.int .i64), .str] xs) (hb : Bulks [(.sl 9 .str), (.int .i64), (.int .i64), (.int .i64), .str] xs ≤ 1048576) : Pure Try.prog 7 (tvs [(.sl 9 .str), (.int .i64), (.int .i64), (.int .i64), .str] xs) (.one .bool true) :=
  escrowlaw05_FrameBehind_ok xs.1 xs.2.1 xs.2.2.1 xs.2.2.2.1 xs.2.2.2.2.1 _ (escrowlaw05_FrameBehind_true xs.1 xs.2.1 xs.2.2.1 xs.2.2.2.1 xs.2.2.2.2.1 h.1 h.2.1 h.2.2.1 h.2.2.2.1 h.2.2.2.2.1 hb)
set_option maxRecDepth 100000 in
theorem lifted (os : Os) (started : os.Started) (H : Type) (enc : TypeId × Value → H) (F : Stop.Interp) :
    ReturnsInHanded {} Try.checked os 7 .any ((Rows.OpenSpec.upto Rows.frameBehindSpec).pre6 enc Try.prog Try.f7 Rows.frameBehindUptoRow.domain false) (((Rows.OpenSpec.upto Rows.frameBehindSpec).at F).post enc Try.prog Try.f7 false true false false) :=
  law_upto (C := Try.checked) (s := Rows.frameBehindSpec) (kk := Rows.uptoSmall) (most := 1048576) (bk := fun _ => Rows.uptoBulk) (bka := fun _ => Rows.uptoBulkAll) [(.sl 9 .str), (.int .i64), (.int .i64), (.int .i64), .str] (tids := [30, 2, 3, 2, 9]) (bt := 4) rfl (fun _ _ => rfl) (bulkFn H) own started (by kernel_rfl) Try.func7
    (OpenSpec.witness (enc := enc) (C := Try.checked) (s := Rows.OpenSpec.upto Rows.frameBehindSpec) (k := Rows.uptoSmall) rfl false ⟨#[], #[.slice none 0 0, .int .i64 0, .int .i64 0, .int .i64 0, .string ByteArray.empty], []⟩ 8 (by kernel_rfl) (by kernel_rfl) (by kernel_rfl)
      (x := ([.nil, .lit (.int .i64 0), .lit (.int .i64 0), .lit (.int .i64 0), .lit (.string [])], [], [])) (by kernel_rfl) rfl (by kernel_rfl))
    Try.params7 rfl Try.underlying4 rfl (by kernel_rfl) (by kernel_rfl)
    (fun ds h => match ds, h with | [d0, d1, d2, d3, d4], _ => rfl) (fun xs h hb => law xs h hb)
theorem proved : Rows.FrameBehindUptoSaid :=
  OpenClaim.holds_of_cond 7 Try.f7 rfl rfl rfl rfl rfl rfl rfl ⟨rfl, rfl, rfl, rfl, rfl⟩ rfl rfl rfl rfl rfl (by kernel_rfl) Try.func7 (by kernel_rfl)
    (of_decide_eq_true (by kernel_rfl)) (by unfold Func.isWrapper; first | (rw [if_pos (by decide +kernel)]; kernel_rfl) | (rw [if_neg (by decide +kernel)]; exact ⟨rfl, rfl⟩))
    (fun os started H enc _ F => lifted os started H enc F)
end framebehind

namespace frametells
theorem own : ownKnob Try.prog.godebug = none := by kernel_rfl
theorem law (xs : Vals [(.sl 9 .str), (.int .i64), (.int .i64), (.int .i64), (.int .u8)]) (h : Smalls Try.prog.bytesOf [(.sl 9 .str), (.int .i64), (.int .i64), (.int .i64), (.int .u8)] xs) (hb : Bulks [(.sl 9 .str), (.int .i64), (.int .i64), (.int .i64), (.int .u8)] xs ≤ 1048576) : Pure Try.prog 9 (tvs [(.sl 9 .str), (.int .i64), (.int .i64), (.int .i64), (.int .u8)] xs) (.one .bool true) :=
  escrowlaw05_FrameTells_ok xs.1 xs.2.1 xs.2.2.1 xs.2.2.2.1 xs.2.2.2.2.1 _ (escrowlaw05_FrameTells_true xs.1 xs.2.1 xs.2.2.1 xs.2.2.2.1 xs.2.2.2.2.1 h.1 h.2.1 h.2.2.1 h.2.2.2.1 h.2.2.2.2.1 hb)
set_option maxRecDepth 100000 in
theorem lifted (os : Os) (started : os.Started) (H : Type) (enc : TypeId × Value → H) (F : Stop.Interp) :
    ReturnsInHanded {} Try.checked os 9 .any ((Rows.OpenSpec.upto Rows.frameTellsSpec).pre6 enc Try.prog Try.f9 Rows.frameTellsUptoRow.domain false) (((Rows.OpenSpec.upto Rows.frameTellsSpec).at F).post enc Try.prog Try.f9 false true false false) :=
  law_upto (C := Try.checked) (s := Rows.frameTellsSpec) (kk := Rows.uptoSmall) (most := 1048576) (bk := fun _ => Rows.uptoBulk) (bka := fun _ => Rows.uptoBulkAll) [(.sl 9 .str), (.int .i64), (.int .i64), (.int .i64), (.int .u8)] (tids := [30, 2, 3, 3, 5]) (bt := 4) rfl (fun _ _ => rfl) (bulkFn H) own started (by kernel_rfl) Try.func9
    (OpenSpec.witness (enc := enc) (C := Try.checked) (s := Rows.OpenSpec.upto Rows.frameTellsSpec) (k := Rows.uptoSmall) rfl false ⟨#[], #[.slice none 0 0, .int .i64 0, .int .i64 0, .int .i64 0, .int .u8 0], []⟩ 8 (by kernel_rfl) (by kernel_rfl) (by kernel_rfl)
      (x := ([.nil, .lit (.int .i64 0), .lit (.int .i64 0), .lit (.int .i64 0), .lit (.int .u8 0)], [], [])) (by kernel_rfl) rfl (by kernel_rfl))
    Try.params9 rfl Try.underlying4 rfl (by kernel_rfl) (by kernel_rfl)
    (fun ds h => match ds, h with | [d0, d1, d2, d3, d4], _ => rfl) (fun xs h hb => law xs h hb)
theorem proved : Rows.FrameTellsUptoSaid :=
  OpenClaim.holds_of_cond 9 Try.f9 rfl rfl rfl rfl rfl rfl rfl ⟨rfl, rfl, rfl, rfl, rfl⟩ rfl rfl rfl rfl rfl (by kernel_rfl) Try.func9 (by kernel_rfl)
    (of_decide_eq_true (by kernel_rfl)) (by unfold Func.isWrapper; first | (rw [if_pos (by decide +kernel)]; kernel_rfl) | (rw [if_neg (by decide +kernel)]; exact ⟨rfl, rfl⟩))
    (fun os started H enc _ F => lifted os started H enc F)
end frametells
end Go.Proofs.Ytfpabpjldjkebaa
