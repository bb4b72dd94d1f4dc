/-
  Proved here: for every input that the given rows let in, each of the laws WalAgain of this program returns true and leaves its arguments as they were. No further condition beyond the row's own.
-/
import Derived.Test.YtfgbjaoendfhdaaGreatDoorRows
import Derived.Test.YtfgbjaoendfhdaaGreatDoorWalk
import Derived.Test.YtfgbjaoendfhdaaGreatDoorPlain1
import Derived.Test.YtfgbjaoendfhdaaGreatDoorLib3
import Derived.Test.YtfgbjaoendfhdaaGreatDoorTie
import Derived.Test.YtfgbjaoendfhdaaGreatDoorCards
import Derived.SevenTiedAt
namespace Go.Proofs.YtfgbjaoendfhdaaGreatDoor
open Go Sx

namespace walagain
theorem own : ownKnob Tryz.prog.godebug = none := by kernel_rfl
set_option maxRecDepth 100000 in
theorem law (xs : Vals [(.sl 31 Y31), .str, (.int .i64), (.int .i64), (.int .i64)]) (h : Smalls Tryz.prog.bytesOf [(.sl 31 Y31), .str, (.int .i64), (.int .i64), (.int .i64)] xs) : FnT Tryz.prog tabs 3 (tvs [(.sl 31 Y31), .str, (.int .i64), (.int .i64), (.int .i64)] xs) [] (fun _ => .one .bool true) (fun _ => []) :=
  escrowlaw06_WalAgain_ok xs.1 xs.2.1 xs.2.2.1 xs.2.2.2.1 xs.2.2.2.2.1 _ (escrowlaw06_WalAgain_true xs.1 xs.2.1 xs.2.2.1 xs.2.2.2.1 xs.2.2.2.2.1 h.1 h.2.1 h.2.2.1 h.2.2.2.1 h.2.2.2.2.1)
theorem laid_met (os : Os) : laidMet Tryz.prog Rows.walAgainRow.laid ((laidW Tryz.prog os Rows.walAgainRow.laid).forCall (fun _ _ => 0) ⟨#[], #[.slice none 0 0, .string ByteArray.empty, .int .i64 0, .int .i64 0, .int .i64 0], []⟩).memory := laidMet_of_run' 8 (by kernel_rfl) (by kernel_rfl)
theorem witness_row (os : Os) {H : Type} (enc : TypeId × Value → H) : (OpenSpec.ofChange Rows.walAgainSpec).preRow enc Tryz.prog Tryz.f3 Rows.walAgainRow.domain false Rows.walAgainRow.laid ((laidW Tryz.prog os Rows.walAgainRow.laid).forCall (fun _ _ => 0) ⟨#[], #[.slice none 0 0, .string ByteArray.empty, .int .i64 0, .int .i64 0, .int .i64 0], []⟩).memory #[.slice none 0 0, .string ByteArray.empty, .int .i64 0, .int .i64 0, .int .i64 0] := by
  have hw : (DataW.whole enc Tryz.prog ((laidW Tryz.prog os Rows.walAgainRow.laid).forCall (fun _ _ => 0) ⟨#[], #[.slice none 0 0, .string ByteArray.empty, .int .i64 0, .int .i64 0, .int .i64 0], []⟩).memory Tryz.f3.params.toList (OpenSpec.ofChange Rows.walAgainSpec).vars false (#[.slice none 0 0, .string ByteArray.empty, .int .i64 0, .int .i64 0, .int .i64 0] : Array Value).toList 8).map (fun x => (x.1, x.2.1)) = some ([.nil, .lit (.string []), .lit (.int .i64 0), .lit (.int .i64 0), .lit (.int .i64 0)], []) := by kernel_rfl
  obtain ⟨⟨x1, x2, x3⟩, hx, hx1⟩ := Option.map_eq_some_iff.1 hw
  simp only [Prod.mk.injEq] at hx1
  obtain ⟨rfl, rfl⟩ := hx1
  exact OpenSpec.preRow_of_cond 8 hx (by kernel_rfl) (fun k hk => by cases hk) (by kernel_rfl) (laid_met os)
theorem tabIs (W : World) (h : laidMetH Tryz.prog Rows.walAgainRow.laid W) : ∀ x ∈ tabs, Lib.TabIs Tryz.prog W x.1 x.2.1 x.2.2 := by
  intro x hx
  obtain rfl := List.mem_singleton.1 hx
  exact Lib.tabIs_of_head (P := Tryz.prog) (g := 0) (t := 177) (e := 111) (n := 20) (by kernel_rfl) (by kernel_rfl) (by kernel_rfl) (by kernel_rfl) (by kernel_rfl) (by kernel_rfl) (show laidMet Tryz.prog Rows.walAgainRow.laid W from h).tail.tail
set_option maxRecDepth 100000 in
theorem lifted (os : Os) (started : os.Started) (H : Type) (enc : TypeId × Value → H) (F : Stop.Interp) :
    ReturnsInHanded {} Tryz.checked os 3 .any ((OpenSpec.ofChange Rows.walAgainSpec).preRow enc Tryz.prog Tryz.f3 Rows.walAgainRow.domain false Rows.walAgainRow.laid) (((OpenSpec.ofChange Rows.walAgainSpec).at F).post enc Tryz.prog Tryz.f3 false true false false) :=
  law_laid (C := Tryz.checked) (s := Rows.walAgainSpec) tabs Rows.walAgainRow.laid [(.sl 31 Y31), .str, (.int .i64), (.int .i64), (.int .i64)] (tids := [22, 9, 3, 2, 2]) (bt := 4) own started (by kernel_rfl) Tryz.func3
    (witness_row_at (enc := enc) (C := Tryz.checked) false (laidW Tryz.prog os Rows.walAgainRow.laid) #[.slice none 0 0, .string ByteArray.empty, .int .i64 0, .int .i64 0, .int .i64 0] rfl (by kernel_rfl) (by kernel_rfl) (by kernel_rfl) (witness_row os enc))
    Tryz.params3 rfl Tryz.underlying4 rfl (by kernel_rfl) (by kernel_rfl)
    (fun ds h => match ds, h with | [d0, d1, d2, d3, d4], _ => rfl) (by kernel_rfl) tabIs (fun xs h => law xs h)
theorem row_holds : Rows.WalAgainSaid :=
  OpenClaim.holds_of_wide 3 Tryz.f3 rfl rfl rfl rfl rfl rfl rfl ⟨rfl, rfl, rfl, rfl, rfl⟩ rfl rfl rfl rfl rfl (by kernel_rfl) Tryz.func3 (by kernel_rfl)
    (of_decide_eq_true (by kernel_rfl)) (by unfold Func.isWrapper; first | (rw [if_pos (by decide +kernel)]; kernel_rfl) | (rw [if_neg (by decide +kernel)]; exact ⟨rfl, rfl⟩))
    (fun os started H enc _ => by rw [OpenClaim.pre_eq_preRow]; exact lifted os started H enc (fun _ _ _ => 0))
theorem proved : Rows.WalAgainCardSaid :=
  Claim7.holds_tied_plain_at .later [] [.data, .data, .data] true (true, "aa1568b0f25db207721d0517690070beb5e654bb65de79424e70949819237b05") false
    row_holds (fun _ h => by cases h) (by kernel_rfl) (fun _ h => by cases h) walAgain_row_tie rfl ⟨rfl, rfl⟩ (by kernel_rfl) rfl
    (fun f fn hf hfn => by
      obtain rfl : f = 3 := Option.some.inj ((show Tryz.prog.funcNamed "escrow/escrowlaw06.WalAgain" = some 3 by kernel_rfl).symm.trans hf) |>.symm
      obtain rfl : fn = Tryz.f3 := (Option.some.inj (Tryz.func3.symm.trans hfn)).symm
      exact ⟨by kernel_rfl, fun j t ht => by
        rw [Tryz.params3] at ht
        have hm : t ∈ [22, 9, 3, 2, 2] := by simpa using Array.mem_of_getElem? ht
        have hall : ([22, 9, 3, 2, 2].all fun u => !Tryz.prog.wantsStandIn u) = true := by kernel_rfl
        exact (show Tryz.prog.wantsStandIn t = false by simpa using List.all_eq_true.1 hall t hm)⟩)
    (by kernel_rfl)
end walagain
end Go.Proofs.YtfgbjaoendfhdaaGreatDoor
