import Derived.Test.YtfdhpfodjaaloaaDoorProg
import Derived.Shelf.Strings.BuilderK
import Derived.Test.YtfdhpfodjaaloaaDoorShelfS
import Derived.KernelRfl
namespace Go.Proofs
open Go.Shelf Go.RowKit
set_option linter.unusedVariables false
set_option maxHeartbeats 1000000 in
set_option maxRecDepth 100000 in
theorem Tryd.cc_used (b : Nat) (w : World) (h0 : w.cell? ⟨b, 0, none⟩ = some (.pointer (some ⟨b, 0, none⟩))) :
    Calls Tryd.prog 65 #[.pointer (some ⟨b, 0, none⟩)] w fun e w' => e = .returned (.tuple #[]) ∧ w' = w := by
  have hsz : (Tryd.prog.info? 92).map (fun i => i.size) = some 2 := by kernel_rfl
  obtain ⟨j, hj, _⟩ := Option.map_eq_some_iff.1 hsz
  have t72 := Tryd.underlying92; have a72 := Tryd.isAgg92; have z72 := Tryd.sizeOf92; have v72 := Tryd.zeroValue92; have u72 := run_underlying Tryd.underlying92
  have t70 := Tryd.underlying90; have a70 := Tryd.isAgg90; have z70 := Tryd.sizeOf90; have v70 := Tryd.zeroValue90; have u70 := run_underlying Tryd.underlying90
  have t9 := Tryd.underlying9; have a9 := Tryd.isAgg9; have z9 := Tryd.sizeOf9; have v9 := Tryd.zeroValue9; have u9 := run_underlying Tryd.underlying9
  have t4 := Tryd.underlying4; have a4 := Tryd.isAgg4; have z4 := Tryd.sizeOf4; have v4 := Tryd.zeroValue4; have u4 := run_underlying Tryd.underlying4
  have t164 := Tryd.underlying157; have a164 := Tryd.isAgg157; have z164 := Tryd.sizeOf157; have v164 := Tryd.zeroValue157; have u164 := run_underlying Tryd.underlying157
  go_enter Tryd.func65, Tryd.ntmps65
  go_wp2
  rw [Lib.run_neq_ptr_same w _ Tryd.underlying90 hj]
  go_wp2
  go_end0
  exact ⟨rfl, rfl⟩
set_option maxHeartbeats 1000000 in
set_option maxRecDepth 100000 in
theorem Tryd.cc_fresh (b : Nat) (w : World) (h0 : w.cell? ⟨b, 0, none⟩ = some (.pointer none)) (hsh : w.shape? b = some (92, 2)) (hfz : w.frozen? ⟨b, 0, none⟩ = false) :
    Calls Tryd.prog 65 #[.pointer (some ⟨b, 0, none⟩)] w fun e w' => e = .returned (.tuple #[]) ∧ w' = w.setCell ⟨b, 0, none⟩ (.pointer (some ⟨b, 0, none⟩)) := by
  have hsz : (Tryd.prog.info? 92).map (fun i => i.size) = some 2 := by kernel_rfl
  have hli : liesAt Tryd.prog Tryd.prog.depth 92 (2 / Tryd.prog.cellsOf 92) 0 92 1 = true := by kernel_rfl
  obtain ⟨j, hj, hjs⟩ := Option.map_eq_some_iff.1 hsz
  have t72 := Tryd.underlying92; have a72 := Tryd.isAgg92; have z72 := Tryd.sizeOf92; have v72 := Tryd.zeroValue92; have u72 := run_underlying Tryd.underlying92
  have t70 := Tryd.underlying90; have a70 := Tryd.isAgg90; have z70 := Tryd.sizeOf90; have v70 := Tryd.zeroValue90; have u70 := run_underlying Tryd.underlying90
  have t9 := Tryd.underlying9; have a9 := Tryd.isAgg9; have z9 := Tryd.sizeOf9; have v9 := Tryd.zeroValue9; have u9 := run_underlying Tryd.underlying9
  have t4 := Tryd.underlying4; have a4 := Tryd.isAgg4; have z4 := Tryd.sizeOf4; have v4 := Tryd.zeroValue4; have u4 := run_underlying Tryd.underlying4
  have t164 := Tryd.underlying157; have a164 := Tryd.isAgg157; have z164 := Tryd.sizeOf157; have v164 := Tryd.zeroValue157; have u164 := run_underlying Tryd.underlying157
  go_enter Tryd.func65, Tryd.ntmps65
  go_wp2
  rw [Lib.run_to_unsafe w ⟨b, 0, none⟩ Tryd.underlying90 Tryd.underlying157 hj (by rw [hjs]; decide) hsh (Nat.zero_lt_succ 1)]
  simp only [Result.andThen]
  rw [Oper.upon_value]
  go_wp2
  rw [run_callFunc_extern Tryd.func87 (by kernel_rfl) (by kernel_rfl) (by kernel_rfl) (e := Extern.AbiNoEscape.same) (by kernel_rfl)]
  rw [Lib.run_noEscape]
  simp only [Result.andThen]
  rw [Oper.upon_value]
  go_wp2
  rw [Lib.run_from_unsafe w ⟨b, 0, none⟩ Tryd.underlying157 Tryd.underlying90 hj hsh hli]
  simp only [Result.andThen]
  rw [Oper.upon_value]
  go_wp2
  go_end0
  exact ⟨rfl, rfl⟩
set_option maxHeartbeats 1000000 in
set_option maxRecDepth 100000 in
/-- a builder that holds bytes is read: they are frozen -/
theorem Tryd.bstr (b g cap : Nat) (p : Value) (cur : Array Value) (fz : Nat × Nat) (l : List UInt8) (w : World) (h0 : l ≠ []) (hbk : w.heap[b]? = some (.cells #[p, .slice (some ⟨g, 0, none⟩) l.length cap] 92 (0, 0))) (hg : w.heap[g]? = some (.cells cur 5 fz)) (hnc : l.length ≤ cap) (hcm : l.length ≤ 4611686018427387904) (hcs : cur.size = cap * 1) (htk : cur.toList.take l.length = Lib.byteCells l) :
    Calls Tryd.prog 41 #[.pointer (some ⟨b, 0, none⟩)] w fun e w' => e = .returned (.string ⟨l.toArray⟩) ∧ w' = w.drew.freeze ⟨g, 0, none⟩ l.length := by
  have hl0 : l.length ≠ 0 := by simpa using h0
  have hcells : Tryd.prog.cellsOf 5 = 1 := by kernel_rfl
  have c1 : w.drew.cell? ⟨b, 1, none⟩ = some (.slice (some ⟨g, 0, none⟩) l.length cap) := by
    have : w.drew.heap[b]? = some (.cells #[p, .slice (some ⟨g, 0, none⟩) l.length cap] 92 (0, 0)) := hbk
    rw [Lib.cell_of_heap this]; rfl
  have hSD : (Builtin.unsafeSliceData_ #[45] 138 #[.slice (some ⟨g, 0, none⟩) l.length cap]).run Tryd.prog w.drew = .ok (.pointer (some ⟨g, 0, none⟩)) w.drew :=
    Lib.run_unsafeSliceData_row _ _ _ _ _ _ (by omega)
  have hUS : (Builtin.unsafeString_ #[138, 3] 9 #[.pointer (some ⟨g, 0, none⟩), .int .i64 l.length]).run Tryd.prog w.drew = .ok (.string ⟨l.toArray⟩) (w.drew.freeze ⟨g, 0, none⟩ l.length) := by
    refine Lib.run_unsafeString_row w.drew 138 3 9 5 Tryd.underlying138 hcells g cur.size (by have hg' : w.drew.heap[g]? = some (.cells cur 5 fz) := hg; simp [World.shape?, hg']) l h0 (by omega) (by omega) ?_
    intro j x hx
    have hg' : w.drew.heap[g]? = some (.cells cur 5 fz) := hg
    have hj : j < l.length := (List.getElem?_eq_some_iff.1 hx).1
    have e1 : (cur.toList.take l.length)[j]? = (Lib.byteCells l)[j]? := by rw [htk]
    rw [List.getElem?_take_of_lt hj, Array.getElem?_toList] at e1
    have ea : (⟨g, 0, none⟩ : Addr).add j = ⟨g, j, none⟩ := by
      simp only [Addr.add, Nat.zero_add]
      split
      · rename_i h; subst h; rfl
      · rfl
    rw [ea, Lib.cell_of_heap hg']
    show cur[j]? = _
    rw [e1]
    simp [Lib.byteCells, hx]
  have t72 := Tryd.underlying92; have a72 := Tryd.isAgg92; have z72 := Tryd.sizeOf92; have v72 := Tryd.zeroValue92; have u72 := run_underlying Tryd.underlying92
  have t70 := Tryd.underlying90; have a70 := Tryd.isAgg90; have z70 := Tryd.sizeOf90; have v70 := Tryd.zeroValue90; have u70 := run_underlying Tryd.underlying90
  have t37 := Tryd.underlying45; have a37 := Tryd.isAgg45; have z37 := Tryd.sizeOf45; have v37 := Tryd.zeroValue45; have u37 := run_underlying Tryd.underlying45
  have t127 := Tryd.underlying138; have a127 := Tryd.isAgg138; have z127 := Tryd.sizeOf138; have v127 := Tryd.zeroValue138; have u127 := run_underlying Tryd.underlying138
  have t3 := Tryd.underlying3; have a3 := Tryd.isAgg3; have z3 := Tryd.sizeOf3; have v3 := Tryd.zeroValue3; have u3 := run_underlying Tryd.underlying3
  have t9 := Tryd.underlying9; have a9 := Tryd.isAgg9; have z9 := Tryd.sizeOf9; have v9 := Tryd.zeroValue9; have u9 := run_underlying Tryd.underlying9
  have t5 := Tryd.underlying5; have a5 := Tryd.isAgg5; have z5 := Tryd.sizeOf5; have v5 := Tryd.zeroValue5; have u5 := run_underlying Tryd.underlying5
  have mixed := Tryd.lays169.mixed
  go_enter Tryd.func41, Tryd.ntmps41
  go_wp2
  go_region_o
  all_goals (go_wp2; go_ret; exact ⟨rfl, rfl⟩)
set_option maxHeartbeats 1000000 in
set_option maxRecDepth 100000 in
/-- one that holds none -/
theorem Tryd.bstr0 (b : Nat) (p : Value) (w : World) (hbk : w.heap[b]? = some (.cells #[p, .slice none 0 0] 92 (0, 0))) :
    Calls Tryd.prog 41 #[.pointer (some ⟨b, 0, none⟩)] w fun e w' => e = .returned (.string ⟨#[]⟩) ∧ w' = w.drew := by
  have hUS : ∀ (W : World) (q : Option Addr), (Builtin.unsafeString_ #[138, 3] 9 #[.pointer q, .int .i64 0]).run Tryd.prog W = .ok (.string .empty) W := fun W q => Lib.run_unsafeString_none W _ _ _ q
  have c1 : w.drew.cell? ⟨b, 1, none⟩ = some (.slice none 0 0) := by
    have : w.drew.heap[b]? = some (.cells #[p, .slice none 0 0] 92 (0, 0)) := hbk
    rw [Lib.cell_of_heap this]; rfl
  have hSD : (Builtin.unsafeSliceData_ #[45] 138 #[.slice none 0 0]).run Tryd.prog w.drew = .ok (.pointer none) w.drew := rfl
  have t72 := Tryd.underlying92; have a72 := Tryd.isAgg92; have z72 := Tryd.sizeOf92; have v72 := Tryd.zeroValue92; have u72 := run_underlying Tryd.underlying92
  have t70 := Tryd.underlying90; have a70 := Tryd.isAgg90; have z70 := Tryd.sizeOf90; have v70 := Tryd.zeroValue90; have u70 := run_underlying Tryd.underlying90
  have t37 := Tryd.underlying45; have a37 := Tryd.isAgg45; have z37 := Tryd.sizeOf45; have v37 := Tryd.zeroValue45; have u37 := run_underlying Tryd.underlying45
  have t127 := Tryd.underlying138; have a127 := Tryd.isAgg138; have z127 := Tryd.sizeOf138; have v127 := Tryd.zeroValue138; have u127 := run_underlying Tryd.underlying138
  have t3 := Tryd.underlying3; have a3 := Tryd.isAgg3; have z3 := Tryd.sizeOf3; have v3 := Tryd.zeroValue3; have u3 := run_underlying Tryd.underlying3
  have t9 := Tryd.underlying9; have a9 := Tryd.isAgg9; have z9 := Tryd.sizeOf9; have v9 := Tryd.zeroValue9; have u9 := run_underlying Tryd.underlying9
  have t5 := Tryd.underlying5; have a5 := Tryd.isAgg5; have z5 := Tryd.sizeOf5; have v5 := Tryd.zeroValue5; have u5 := run_underlying Tryd.underlying5
  have mixed := Tryd.lays169.mixed
  go_enter Tryd.func41, Tryd.ntmps41
  go_wp2
  go_region_o
  all_goals (go_wp2; go_ret; exact ⟨rfl, rfl⟩)
end Go.Proofs
