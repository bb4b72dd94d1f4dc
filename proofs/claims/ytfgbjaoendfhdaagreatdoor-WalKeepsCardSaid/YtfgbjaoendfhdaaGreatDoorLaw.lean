/-
  Proved here: for every input that the given rows let in, each of the laws WalKeeps of this program returns true and leaves its arguments as they were. No further condition beyond the row's own.
-/
import Derived.Test.YtfgbjaoendfhdaaGreatDoorRows
import Derived.Test.YtfgbjaoendfhdaaGreatDoorWalk
import Derived.Test.YtfgbjaoendfhdaaGreatDoorPlain2
import Derived.Test.YtfgbjaoendfhdaaGreatDoorLib3
import Derived.Test.YtfgbjaoendfhdaaGreatDoorTie
import Derived.Test.YtfgbjaoendfhdaaGreatDoorCards
import Derived.SevenTiedAt
namespace Go.Proofs.YtfgbjaoendfhdaaGreatDoor
open Go Sx

namespace walkeeps
theorem own : ownKnob Tryz.prog.godebug = none := by kernel_rfl
set_option maxRecDepth 100000 in
theorem law (xs : Vals [(.int .i64), (.sl 31 Y31)]) (h : uim Tryz.prog.bytesOf [(.int .i64), (.sl 31 Y31)] xs) : FnT Tryz.prog tabs 4 (tvs [(.int .i64), (.sl 31 Y31)] xs) [] (fun _ => .one .bool true) (fun _ => []) :=
  ufJ xs.1 xs.2.1 _ (ufr xs.1 xs.2.1 h.1 h.2.1)
theorem uoy (os : Os) : laidMet Tryz.prog Rows.walKeepsRow.laid ((laidW Tryz.prog os Rows.walKeepsRow.laid).forCall (fun _ _ => 0) ⟨#[], #[.int .i64 0, .slice none 0 0], []⟩).memory := laidMet_of_run' 8 (by kernel_rfl) (by kernel_rfl)
theorem ulo (os : Os) {H : Type} (enc : TypeId × Value → H) : (OpenSpec.ofChange Rows.walKeepsSpec).preRow enc Tryz.prog Tryz.f4 Rows.walKeepsRow.domain false Rows.walKeepsRow.laid ((laidW Tryz.prog os Rows.walKeepsRow.laid).forCall (fun _ _ => 0) ⟨#[], #[.int .i64 0, .slice none 0 0], []⟩).memory #[.int .i64 0, .slice none 0 0] := by
  have hw : (DataW.whole enc Tryz.prog ((laidW Tryz.prog os Rows.walKeepsRow.laid).forCall (fun _ _ => 0) ⟨#[], #[.int .i64 0, .slice none 0 0], []⟩).memory Tryz.f4.params.toList (OpenSpec.ofChange Rows.walKeepsSpec).vars false (#[.int .i64 0, .slice none 0 0] : Array Value).toList 8).map (fun x => (x.1, x.2.1)) = some ([.lit (.int .i64 0), .nil], []) := by kernel_rfl
  obtain ⟨⟨x1, x2, x3⟩, hx, hx1⟩ := Option.map_eq_some_iff.1 hw
  simp only [Prod.mk.injEq] at hx1
  obtain ⟨rfl, rfl⟩ := hx1
  exact OpenSpec.preRow_of_cond 8 hx (by kernel_rfl) (fun k hk => by cases hk) (by kernel_rfl) (uoy os)
theorem tabIs (W : World) (h : laidMetH Tryz.prog Rows.walKeepsRow.laid W) : ∀ x ∈ tabs, Lib.TabIs Tryz.prog W x.1 x.2.1 x.2.2 := by
  intro x hx
  obtain rfl := List.mem_singleton.1 hx
  exact Lib.tabIs_of_head (P := Tryz.prog) (g := 0) (t := 177) (e := 111) (n := 20) (by kernel_rfl) (by kernel_rfl) (by kernel_rfl) (by kernel_rfl) (by kernel_rfl) (by kernel_rfl) (show laidMet Tryz.prog Rows.walKeepsRow.laid W from h).tail.tail
set_option maxRecDepth 100000 in
theorem upz (os : Os) (started : os.Started) (H : Type) (enc : TypeId × Value → H) (F : Stop.Interp) :
    ReturnsInHanded {} Tryz.checked os 4 .any ((OpenSpec.ofChange Rows.walKeepsSpec).preRow enc Tryz.prog Tryz.f4 Rows.walKeepsRow.domain false Rows.walKeepsRow.laid) (((OpenSpec.ofChange Rows.walKeepsSpec).at F).post enc Tryz.prog Tryz.f4 false true false false) :=
  uoi (C := Tryz.checked) (s := Rows.walKeepsSpec) tabs Rows.walKeepsRow.laid [(.int .i64), (.sl 31 Y31)] (tids := [3, 22]) (bt := 4) own started (by kernel_rfl) Tryz.func4
    (witness_row_at (enc := enc) (C := Tryz.checked) false (laidW Tryz.prog os Rows.walKeepsRow.laid) #[.int .i64 0, .slice none 0 0] rfl (by kernel_rfl) (by kernel_rfl) (by kernel_rfl) (ulo os enc))
    Tryz.params4 rfl Tryz.underlying4 rfl (by kernel_rfl) (by kernel_rfl)
    (fun ds h => match ds, h with | [d0, d1], _ => rfl) (by kernel_rfl) tabIs (fun xs h => law xs h)
theorem unO : Rows.WalKeepsSaid :=
  OpenClaim.holds_of_wide 4 Tryz.f4 rfl rfl rfl rfl rfl rfl rfl ⟨rfl, rfl, rfl, rfl, rfl⟩ rfl rfl rfl rfl rfl (by kernel_rfl) Tryz.func4 (by kernel_rfl)
    (of_decide_eq_true (by kernel_rfl)) (by unfold Func.isWrapper; first | (rw [if_pos (by decide +kernel)]; kernel_rfl) | (rw [if_neg (by decide +kernel)]; exact ⟨rfl, rfl⟩))
    (fun os started H enc _ => by rw [OpenClaim.pre_eq_preRow]; exact upz os started H enc (fun _ _ _ => 0))
theorem proved : Rows.WalKeepsCardSaid :=
  Claim7.holds_tied_plain_at .later [] [.data, .data, .data] true (true, "aa1568b0f25db207721d0517690070beb5e654bb65de79424e70949819237b05") false
    unO (fun _ h => by cases h) (by kernel_rfl) (fun _ h => by cases h) walKeeps_row_tie rfl ⟨rfl, rfl⟩ (by kernel_rfl) rfl
    (fun f fn hf hfn => by
      obtain rfl : f = 4 := Option.some.inj ((show Tryz.prog.funcNamed "escrow/escrowlaw06.WalKeeps" = some 4 by kernel_rfl).symm.trans hf) |>.symm
      obtain rfl : fn = Tryz.f4 := (Option.some.inj (Tryz.func4.symm.trans hfn)).symm
      exact ⟨by kernel_rfl, fun j t ht => by
        rw [Tryz.params4] at ht
        have hm : t ∈ [3, 22] := by simpa using Array.mem_of_getElem? ht
        have hall : ([3, 22].all fun u => !Tryz.prog.wantsStandIn u) = true := by kernel_rfl
        exact (show Tryz.prog.wantsStandIn t = false by simpa using List.all_eq_true.1 hall t hm)⟩)
    (by kernel_rfl)
end walkeeps
end Go.Proofs.YtfgbjaoendfhdaaGreatDoor
