/-
  Proved here: for every input that the given rows let in, each of the laws ScriptParses of this program returns true and leaves its arguments as they were. No further condition beyond the row's own.
-/
import Derived.Test.YtfdhpfodjaaloaaDoorRows
import Derived.Test.YtfdhpfodjaaloaaDoorWalk
import Derived.Test.YtfdhpfodjaaloaaDoorPlain1
import Derived.Test.YtfdhpfodjaaloaaDoorLib2
import Derived.Test.YtfdhpfodjaaloaaDoorTie
import Derived.Test.YtfdhpfodjaaloaaDoorCards
import Derived.SevenTiedAt
namespace Go.Proofs.YtfdhpfodjaaloaaDoor
open Go Sx

theorem one_le {H : Type} (d : DataW H) : 1 ≤ Rows.uptoBulk d := by
  cases d with
  | lit l => cases l <;> simp [Rows.uptoBulk]
  | nil => simp [Rows.uptoBulk]
  | ptr d => simp [Rows.uptoBulk]
  | slice elems spare => simp [Rows.uptoBulk]
  | agg parts => simp [Rows.uptoBulk]
  | iface t d => simp [Rows.uptoBulk]
  | map entries => simp [Rows.uptoBulk]
  | held h => simp [Rows.uptoBulk]
theorem bulkFn (H : Type) : BulkFn (H := H) Rows.uptoBulk Rows.uptoBulkAll :=
  ⟨one_le, fun l => by simp [Rows.uptoBulk], fun e s => by simp only [Rows.uptoBulk]; omega, fun p => by simp only [Rows.uptoBulk]; omega, by simp [Rows.uptoBulkAll], fun d l => by simp only [Rows.uptoBulkAll]⟩
namespace scriptparses
theorem own : ownKnob Tryd.prog.godebug = none := by kernel_rfl
set_option maxRecDepth 100000 in
theorem law (xs : Vals [.str]) (h : Smalls Tryd.prog.bytesOf [.str] xs) (hb : Bulks [.str] xs ≤ 1048576) : FnT Tryd.prog tabs 3 (tvs [.str] xs) [] (fun _ => .one .bool true) (fun _ => []) :=
  escrowlaw25_ScriptParses_ok xs.1 _ (escrowlaw25_ScriptParses_true xs.1 h.1 hb)
theorem laid_met (os : Os) : laidMet Tryd.prog Rows.scriptParsesUptoRow.laid ((laidW Tryd.prog os Rows.scriptParsesUptoRow.laid).forCall (fun _ _ => 0) ⟨#[], #[.string ByteArray.empty], []⟩).memory := laidMet_of_run' 8 (by kernel_rfl) (by kernel_rfl)
theorem witness_row (os : Os) {H : Type} (enc : TypeId × Value → H) : (Rows.OpenSpec.upto Rows.scriptParsesSpec).preRow enc Tryd.prog Tryd.f3 Rows.scriptParsesUptoRow.domain false Rows.scriptParsesUptoRow.laid ((laidW Tryd.prog os Rows.scriptParsesUptoRow.laid).forCall (fun _ _ => 0) ⟨#[], #[.string ByteArray.empty], []⟩).memory #[.string ByteArray.empty] := by
  have hw : (DataW.whole enc Tryd.prog ((laidW Tryd.prog os Rows.scriptParsesUptoRow.laid).forCall (fun _ _ => 0) ⟨#[], #[.string ByteArray.empty], []⟩).memory Tryd.f3.params.toList (Rows.OpenSpec.upto Rows.scriptParsesSpec).vars false (#[.string ByteArray.empty] : Array Value).toList 8).map (fun x => (x.1, x.2.1)) = some ([.lit (.string [])], []) := by kernel_rfl
  obtain ⟨⟨x1, x2, x3⟩, hx, hx1⟩ := Option.map_eq_some_iff.1 hw
  simp only [Prod.mk.injEq] at hx1
  obtain ⟨rfl, rfl⟩ := hx1
  exact OpenSpec.preRow_of_cond 8 hx (by kernel_rfl) (fun k hk => by cases hk; kernel_rfl) (by kernel_rfl) (laid_met os)
theorem tabIs (W : World) (h : laidMetH Tryd.prog Rows.scriptParsesUptoRow.laid W) : ∀ x ∈ tabs, Lib.TabIs Tryd.prog W x.1 x.2.1 x.2.2 := by
  intro x hx
  obtain rfl := List.mem_singleton.1 hx
  exact Lib.tabIs_of_head (P := Tryd.prog) (g := 3) (t := 180) (e := 154) (n := 20) (by kernel_rfl) (by kernel_rfl) (by kernel_rfl) (by kernel_rfl) (by kernel_rfl) (by kernel_rfl) (show laidMet Tryd.prog Rows.scriptParsesUptoRow.laid W from h).tail.tail
set_option maxRecDepth 100000 in
theorem lifted (os : Os) (started : os.Started) (H : Type) (enc : TypeId × Value → H) (F : Stop.Interp) :
    ReturnsInHanded {} Tryd.checked os 3 .any ((Rows.OpenSpec.upto Rows.scriptParsesSpec).preRow enc Tryd.prog Tryd.f3 Rows.scriptParsesUptoRow.domain false Rows.scriptParsesUptoRow.laid) (((Rows.OpenSpec.upto Rows.scriptParsesSpec).at F).post enc Tryd.prog Tryd.f3 false true false false) :=
  law_laid_upto (C := Tryd.checked) (s := Rows.scriptParsesSpec) (kk := Rows.uptoSmall) (most := 1048576) (bk := fun _ => Rows.uptoBulk) (bka := fun _ => Rows.uptoBulkAll) tabs Rows.scriptParsesUptoRow.laid [.str] (tids := [9]) (bt := 4) rfl (fun _ _ => rfl) (bulkFn H) own started (by kernel_rfl) Tryd.func3
    (witness_row_at (enc := enc) (C := Tryd.checked) false (laidW Tryd.prog os Rows.scriptParsesUptoRow.laid) #[.string ByteArray.empty] rfl (by kernel_rfl) (by kernel_rfl) (by kernel_rfl) (witness_row os enc))
    Tryd.params3 rfl Tryd.underlying4 rfl (by kernel_rfl) (by kernel_rfl)
    (fun ds h => match ds, h with | [d0], _ => rfl) (by kernel_rfl) tabIs (fun xs h hb => law xs h hb)
theorem row_holds : Rows.ScriptParsesUptoSaid :=
  OpenClaim.holds_of_cond 3 Tryd.f3 rfl rfl rfl rfl rfl rfl rfl ⟨rfl, rfl, rfl, rfl, rfl⟩ rfl rfl rfl rfl rfl (by kernel_rfl) Tryd.func3 (by kernel_rfl)
    (of_decide_eq_true (by kernel_rfl)) (by unfold Func.isWrapper; first | (rw [if_pos (by decide +kernel)]; kernel_rfl) | (rw [if_neg (by decide +kernel)]; exact ⟨rfl, rfl⟩))
    (fun os started H enc _ F => by rw [OpenClaim.pre_eq_preRow]; exact lifted os started H enc F)
theorem proved : Rows.ScriptParsesUptoCardSaid :=
  Claim7.holds_tied_plain_at .later [] [.data, .data, .data, .data, .pinned] true (true, "35f17fccd14677b71eab6fe38c5a08715de6b9ebb7d58b31f063f867a2aedc41") true
    row_holds (fun _ h => by cases h) (by kernel_rfl) (fun _ h => by cases h) scriptParsesUpto_row_tie rfl ⟨rfl, rfl⟩ (by kernel_rfl) rfl
    (fun f fn hf hfn => by
      obtain rfl : f = 3 := Option.some.inj ((show Tryd.prog.funcNamed "escrow/escrowlaw25.ScriptParses" = some 3 by kernel_rfl).symm.trans hf) |>.symm
      obtain rfl : fn = Tryd.f3 := (Option.some.inj (Tryd.func3.symm.trans hfn)).symm
      exact ⟨by kernel_rfl, fun j t ht => by
        rw [Tryd.params3] at ht
        have hm : t ∈ [9] := by simpa using Array.mem_of_getElem? ht
        have hall : ([9].all fun u => !Tryd.prog.wantsStandIn u) = true := by kernel_rfl
        exact (show Tryd.prog.wantsStandIn t = false by simpa using List.all_eq_true.1 hall t hm)⟩)
    (by kernel_rfl)
end scriptparses
end Go.Proofs.YtfdhpfodjaaloaaDoor
