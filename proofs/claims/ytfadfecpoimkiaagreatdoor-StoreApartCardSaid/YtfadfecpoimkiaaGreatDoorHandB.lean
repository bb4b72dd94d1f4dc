import Derived.Test.YtfadfecpoimkiaaGreatDoorProg
import Derived.Shelf.Strings.BuilderK
import Derived.Test.YtfadfecpoimkiaaGreatDoorHandS
import Derived.KernelRfl
namespace Go.Proofs
open Go.Shelf Go.RowKit
set_option linter.unusedVariables false
set_option maxHeartbeats 1000000 in
set_option maxRecDepth 100000 in
theorem Tryz.cc_used(b:Nat)(w:World)(h0:w.cell? ⟨b,0,none⟩=some (.pointer (some ⟨b,0,none⟩))):
  Calls Tryz.prog 127 #[.pointer (some ⟨b,0,none⟩)] w λe w'=>e= .returned (.tuple #[])∧w'=w:=by
 have hsz:(Tryz.prog.info? 139).map (λi=>i.size)=some 2:=by kernel_rfl
 obtain⟨j,hj,_⟩:=Option.map_eq_some_iff.1 hsz
 have t72:=Tryz.underlying139;have a72:=Tryz.isAgg139;have z72:=Tryz.sizeOf139;have v72:=Tryz.zeroValue139;have u72:=run_underlying Tryz.underlying139
 have t70:=Tryz.underlying137;have a70:=Tryz.isAgg137;have z70:=Tryz.sizeOf137;have v70:=Tryz.zeroValue137;have u70:=run_underlying Tryz.underlying137
 have t9:=Tryz.underlying9;have a9:=Tryz.isAgg9;have z9:=Tryz.sizeOf9;have v9:=Tryz.zeroValue9;have u9:=run_underlying Tryz.underlying9
 have t4:=Tryz.underlying4;have a4:=Tryz.isAgg4;have z4:=Tryz.sizeOf4;have v4:=Tryz.zeroValue4;have u4:=run_underlying Tryz.underlying4
 have t164:=Tryz.underlying261;have a164:=Tryz.isAgg261;have z164:=Tryz.sizeOf261;have v164:=Tryz.zeroValue261;have u164:=run_underlying Tryz.underlying261
 go_enter Tryz.func127,Tryz.ntmps127
 go_wp2
 rw[Lib.run_neq_ptr_same w _ Tryz.underlying137 hj]
 go_wp2
 go_end0
 exact⟨rfl,rfl⟩
set_option maxHeartbeats 1000000 in
set_option maxRecDepth 100000 in
theorem Tryz.cc_fresh(b:Nat)(w:World)(h0:w.cell? ⟨b,0,none⟩=some (.pointer none))(hsh:w.shape? b=some (139,2))(hfz:w.frozen? ⟨b,0,none⟩=false):
  Calls Tryz.prog 127 #[.pointer (some ⟨b,0,none⟩)] w λe w'=>e= .returned (.tuple #[])∧w'=w.setCell ⟨b,0,none⟩ (.pointer (some ⟨b,0,none⟩)):=by
 have hsz:(Tryz.prog.info? 139).map (λi=>i.size)=some 2:=by kernel_rfl
 have hli:liesAt Tryz.prog Tryz.prog.depth 139 (2/Tryz.prog.cellsOf 139) 0 139 1=true:=by kernel_rfl
 obtain⟨j,hj,hjs⟩:=Option.map_eq_some_iff.1 hsz
 have t72:=Tryz.underlying139;have a72:=Tryz.isAgg139;have z72:=Tryz.sizeOf139;have v72:=Tryz.zeroValue139;have u72:=run_underlying Tryz.underlying139
 have t70:=Tryz.underlying137;have a70:=Tryz.isAgg137;have z70:=Tryz.sizeOf137;have v70:=Tryz.zeroValue137;have u70:=run_underlying Tryz.underlying137
 have t9:=Tryz.underlying9;have a9:=Tryz.isAgg9;have z9:=Tryz.sizeOf9;have v9:=Tryz.zeroValue9;have u9:=run_underlying Tryz.underlying9
 have t4:=Tryz.underlying4;have a4:=Tryz.isAgg4;have z4:=Tryz.sizeOf4;have v4:=Tryz.zeroValue4;have u4:=run_underlying Tryz.underlying4
 have t164:=Tryz.underlying261;have a164:=Tryz.isAgg261;have z164:=Tryz.sizeOf261;have v164:=Tryz.zeroValue261;have u164:=run_underlying Tryz.underlying261
 go_enter Tryz.func127,Tryz.ntmps127
 go_wp2
 rw[Lib.run_to_unsafe w ⟨b,0,none⟩ Tryz.underlying137 Tryz.underlying261 hj (by rw[hjs];decide) hsh (Nat.zero_lt_succ 1)]
 simp only[Result.andThen]
 rw[Oper.upon_value]
 go_wp2
 rw[run_callFunc_extern Tryz.func172 (by kernel_rfl) (by kernel_rfl) (by kernel_rfl) (e:=Extern.AbiNoEscape.same) (by kernel_rfl)]
 rw[Lib.run_noEscape]
 simp only[Result.andThen]
 rw[Oper.upon_value]
 go_wp2
 rw[Lib.run_from_unsafe w ⟨b,0,none⟩ Tryz.underlying261 Tryz.underlying137 hj hsh hli]
 simp only[Result.andThen]
 rw[Oper.upon_value]
 go_wp2
 go_end0
 exact⟨rfl,rfl⟩
set_option maxHeartbeats 1000000 in
set_option maxRecDepth 100000 in
/-- a builder that holds bytes is read:they are frozen -/
theorem Tryz.bstr(b g cap:Nat)(p:Value)(cur:Array Value)(fz:Nat×Nat)(l:List UInt8)(w:World)(h0:l≠[])(hbk:w.heap[b]? =some (.cells #[p,.slice (some ⟨g,0,none⟩) l.length cap] 139 (0,0)))(hg:w.heap[g]? =some (.cells cur 5 fz))(hnc:l.length≤cap)(hcm:l.length≤4611686018427387904)(hcs:cur.size=cap*1)(htk:cur.toList.take l.length=Lib.byteCells l):
  Calls Tryz.prog 74 #[.pointer (some ⟨b,0,none⟩)] w λe w'=>e= .returned (.string ⟨l.toArray⟩)∧w'=w.drew.freeze ⟨g,0,none⟩ l.length:=by
 have hl0:l.length≠0:=by simpa using h0
 have hcells:Tryz.prog.cellsOf 5=1:=by kernel_rfl
 have c1:w.drew.cell? ⟨b,1,none⟩=some (.slice (some ⟨g,0,none⟩) l.length cap):=by
  have:w.drew.heap[b]? =some (.cells #[p,.slice (some ⟨g,0,none⟩) l.length cap] 139 (0,0)):=hbk
  rw[Lib.cell_of_heap this];rfl
 have hSD:(Builtin.unsafeSliceData_ #[91] 222 #[.slice (some ⟨g,0,none⟩) l.length cap]).run Tryz.prog w.drew= .ok (.pointer (some ⟨g,0,none⟩)) w.drew:=
  Lib.run_unsafeSliceData_row _ _ _ _ _ _ (by omega)
 have hUS:(Builtin.unsafeString_ #[222,3] 9 #[.pointer (some ⟨g,0,none⟩),.int .i64 l.length]).run Tryz.prog w.drew= .ok (.string ⟨l.toArray⟩) (w.drew.freeze ⟨g,0,none⟩ l.length):=by
  refine Lib.run_unsafeString_row w.drew 222 3 9 5 Tryz.underlying222 hcells g cur.size (by have hg':w.drew.heap[g]? =some (.cells cur 5 fz):=hg;simp[World.shape?,hg']) l h0 (by omega) (by omega) ?_
  intro j x hx
  have hg':w.drew.heap[g]? =some (.cells cur 5 fz):=hg
  have hj:j<l.length:=(List.getElem?_eq_some_iff.1 hx).1
  have e1:(cur.toList.take l.length)[j]? =(Lib.byteCells l)[j]? :=by rw[htk]
  rw[List.getElem?_take_of_lt hj,Array.getElem?_toList]at e1
  have ea:(⟨g,0,none⟩:Addr).add j=⟨g,j,none⟩:=by
   simp only[Addr.add,Nat.zero_add]
   split
   ·rename_i h;subst h;rfl
   ·rfl
  rw[ea,Lib.cell_of_heap hg']
  show cur[j]? =_
  rw[e1]
  simp[Lib.byteCells,hx]
 have t72:=Tryz.underlying139;have a72:=Tryz.isAgg139;have z72:=Tryz.sizeOf139;have v72:=Tryz.zeroValue139;have u72:=run_underlying Tryz.underlying139
 have t70:=Tryz.underlying137;have a70:=Tryz.isAgg137;have z70:=Tryz.sizeOf137;have v70:=Tryz.zeroValue137;have u70:=run_underlying Tryz.underlying137
 have t37:=Tryz.underlying91;have a37:=Tryz.isAgg91;have z37:=Tryz.sizeOf91;have v37:=Tryz.zeroValue91;have u37:=run_underlying Tryz.underlying91
 have t127:=Tryz.underlying222;have a127:=Tryz.isAgg222;have z127:=Tryz.sizeOf222;have v127:=Tryz.zeroValue222;have u127:=run_underlying Tryz.underlying222
 have t3:=Tryz.underlying3;have a3:=Tryz.isAgg3;have z3:=Tryz.sizeOf3;have v3:=Tryz.zeroValue3;have u3:=run_underlying Tryz.underlying3
 have t9:=Tryz.underlying9;have a9:=Tryz.isAgg9;have z9:=Tryz.sizeOf9;have v9:=Tryz.zeroValue9;have u9:=run_underlying Tryz.underlying9
 have t5:=Tryz.underlying5;have a5:=Tryz.isAgg5;have z5:=Tryz.sizeOf5;have v5:=Tryz.zeroValue5;have u5:=run_underlying Tryz.underlying5
 have mixed:=Tryz.lays169.mixed
 go_enter Tryz.func74,Tryz.ntmps74
 go_wp2
 go_region_o
 all_goals (go_wp2;go_ret;exact⟨rfl,rfl⟩)
set_option maxHeartbeats 1000000 in
set_option maxRecDepth 100000 in
/-- one that holds none -/
theorem Tryz.bstr0(b:Nat)(p:Value)(w:World)(hbk:w.heap[b]? =some (.cells #[p,.slice none 0 0] 139 (0,0))):
  Calls Tryz.prog 74 #[.pointer (some ⟨b,0,none⟩)] w λe w'=>e= .returned (.string ⟨#[]⟩)∧w'=w.drew:=by
 have hUS:∀(W:World) (q:Option Addr),(Builtin.unsafeString_ #[222,3] 9 #[.pointer q,.int .i64 0]).run Tryz.prog W= .ok (.string .empty) W:=λW q=>Lib.run_unsafeString_none W _ _ _ q
 have c1:w.drew.cell? ⟨b,1,none⟩=some (.slice none 0 0):=by
  have:w.drew.heap[b]? =some (.cells #[p,.slice none 0 0] 139 (0,0)):=hbk
  rw[Lib.cell_of_heap this];rfl
 have hSD:(Builtin.unsafeSliceData_ #[91] 222 #[.slice none 0 0]).run Tryz.prog w.drew= .ok (.pointer none) w.drew:=rfl
 have t72:=Tryz.underlying139;have a72:=Tryz.isAgg139;have z72:=Tryz.sizeOf139;have v72:=Tryz.zeroValue139;have u72:=run_underlying Tryz.underlying139
 have t70:=Tryz.underlying137;have a70:=Tryz.isAgg137;have z70:=Tryz.sizeOf137;have v70:=Tryz.zeroValue137;have u70:=run_underlying Tryz.underlying137
 have t37:=Tryz.underlying91;have a37:=Tryz.isAgg91;have z37:=Tryz.sizeOf91;have v37:=Tryz.zeroValue91;have u37:=run_underlying Tryz.underlying91
 have t127:=Tryz.underlying222;have a127:=Tryz.isAgg222;have z127:=Tryz.sizeOf222;have v127:=Tryz.zeroValue222;have u127:=run_underlying Tryz.underlying222
 have t3:=Tryz.underlying3;have a3:=Tryz.isAgg3;have z3:=Tryz.sizeOf3;have v3:=Tryz.zeroValue3;have u3:=run_underlying Tryz.underlying3
 have t9:=Tryz.underlying9;have a9:=Tryz.isAgg9;have z9:=Tryz.sizeOf9;have v9:=Tryz.zeroValue9;have u9:=run_underlying Tryz.underlying9
 have t5:=Tryz.underlying5;have a5:=Tryz.isAgg5;have z5:=Tryz.sizeOf5;have v5:=Tryz.zeroValue5;have u5:=run_underlying Tryz.underlying5
 have mixed:=Tryz.lays169.mixed
 go_enter Tryz.func74,Tryz.ntmps74
 go_wp2
 go_region_o
 all_goals (go_wp2;go_ret;exact⟨rfl,rfl⟩)
end Go.Proofs
