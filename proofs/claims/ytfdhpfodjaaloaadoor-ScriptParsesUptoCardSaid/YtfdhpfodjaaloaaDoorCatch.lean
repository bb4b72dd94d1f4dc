import Derived.Test.YtfdhpfodjaaloaaDoorProg
import Derived.Test.YtfdhpfodjaaloaaDoorLib2
import Derived.Recover
import Derived.Tactics
import Derived.Tactics2
import Derived.Laws.Pointers
import Derived.KernelRfl
namespace Go.Proofs
open Go Sx
set_option maxHeartbeats 2000000 in
set_option maxRecDepth 100000 in
theorem Tryd.idle36 (p q : Value) (w : World) :
    CallsD Tryd.prog 36 #[p, q] .returning w fun e u' w' => e = .returned (.tuple #[]) ∧ u' = .returning ∧ w' = w := by
  refine callsD_of_wpS Tryd.func36 rfl fun c₀ cs hu => ?_
  apply wpS_seq
  apply wpS_region
  simp [wpOpsS, go_sem, recoverD, hu, Tryd.ntmps36, Exit.thenS]
  apply wpS_seq
  apply wpS_region
  simp [wpOpsS, go_sem, Exit.thenS]
  refine wpS_cond (t := false) (by simp [Act.eval, Array.replicate, Act.put]) ?_
  simp only [Bool.false_eq_true, if_false]
  refine wpS_of_wp (wp_skip ?_)
  cases c₀
  simp_all [bodyPostS, results, Tryd.results36, Act.put]
set_option maxHeartbeats 2000000 in
set_option maxRecDepth 100000 in
theorem Tryd.catch36 (a b : Nat) (x y : Value) (w : World) (hab : a ≠ b) (ha : w.heap[a]? = some (.cells #[x] 9 (0, 0))) (hb : w.heap[b]? = some (.cells #[y] 24 (0, 0))) :
    CallsD Tryd.prog 36 #[.pointer (some ⟨a, 0, none⟩), .pointer (some ⟨b, 0, none⟩)] (.panicking [{ v := .iface 65 (.agg #[]), recovered := false }]) w fun e u' w' =>
      e = .returned (.tuple #[]) ∧ u' = .panicking [{ v := .iface 65 (.agg #[]), recovered := true }] ∧ w' = ((w.alloc (.cells #[] 65 (0, 0))).setCell ⟨a, 0, none⟩ (.string ⟨#[]⟩)).setCell ⟨b, 0, none⟩ (.int .i64 250) := by
  refine callsD_of_wpS Tryd.func36 rfl fun c₀ cs hu => ?_
  have u20 := run_underlying (P := Tryd.prog) Tryd.underlying20
  have u65 := run_underlying (P := Tryd.prog) Tryd.underlying65
  have t65 := Tryd.underlying65; have a65 := Tryd.isAgg65; have z65 := Tryd.sizeOf65; have v65 := Tryd.zeroValue65
  have t9 := Tryd.underlying9; have a9 := Tryd.isAgg9; have z9 := Tryd.sizeOf9
  have t24 := Tryd.underlying24; have a24 := Tryd.isAgg24; have z24 := Tryd.sizeOf24
  have hla := heap_lt ha
  have hlb := heap_lt hb
  apply wpS_seq
  apply wpS_region
  simp [wpOpsS, go_sem, recoverD, hu, Tryd.ntmps36, Exit.thenS]
  apply wpS_seq
  apply wpS_region
  simp [wpOpsS, go_sem, recoverD, hu, Exit.thenS]
  refine wpS_cond (t := true) (by simp [Act.eval, Array.replicate, Act.put]) ?_
  simp only [if_true]
  apply wpS_seq
  apply wpS_seq
  apply wpS_region
  simp [wpOpsS, go_sem, recoverD, hu, Exit.thenS, Instr.typeAssert, u65]
  apply wpS_seq
  apply wpS_region
  simp [wpOpsS, go_sem, recoverD, hu, Exit.thenS]
  refine wpS_cond (t := false) (by simp [Act.eval, Array.replicate, Act.put]) ?_
  simp only [Bool.false_eq_true, if_false]
  refine wpS_of_wp (wp_skip ?_)
  simp only [Exit.thenS]
  have c1 : (w.alloc (.cells #[] 65 (0, 0))).heap[a]? = some (.cells #[x] 9 (0, 0)) := by rw [← ha]; show (w.heap.push _)[a]? = _; rw [Array.getElem?_push]; simp [Nat.ne_of_lt hla]
  have c2 : (w.alloc (.cells #[] 65 (0, 0))).heap[b]? = some (.cells #[y] 24 (0, 0)) := by rw [← hb]; show (w.heap.push _)[b]? = _; rw [Array.getElem?_push]; simp [Nat.ne_of_lt hlb]
  have k1 : (w.alloc (.cells #[] 65 (0, 0))).cell? ⟨a, 0, none⟩ = some x := by simp [World.cell?, c1]
  have f1 : (w.alloc (.cells #[] 65 (0, 0))).frozen? ⟨a, 0, none⟩ = false := by simp [World.frozen?, c1]
  have e2 : ((w.alloc (.cells #[] 65 (0, 0))).setCell ⟨a, 0, none⟩ (.string ⟨#[]⟩)).heap[b]? = some (.cells #[y] 24 (0, 0)) := by
    rw [← c2]; simp only [World.setCell, Array.getElem?_modify]; rw [if_neg hab]
  have k2 : ((w.alloc (.cells #[] 65 (0, 0))).setCell ⟨a, 0, none⟩ (.string ⟨#[]⟩)).cell? ⟨b, 0, none⟩ = some y := by simp [World.cell?, e2]
  have f2 : ((w.alloc (.cells #[] 65 (0, 0))).setCell ⟨a, 0, none⟩ (.string ⟨#[]⟩)).frozen? ⟨b, 0, none⟩ = false := by simp [World.frozen?, e2]
  apply wpS_region
  simp [wpOpsS, go_sem, bodyPostS, results, Tryd.results36, Act.put, k1, f1, k2, f2]
set_option maxHeartbeats 2000000 in
set_option maxRecDepth 100000 in
theorem Tryd.idle26 (p q : Value) (w : World) :
    CallsD Tryd.prog 26 #[p, q] .returning w fun e u' w' => e = .returned (.tuple #[]) ∧ u' = .returning ∧ w' = w := by
  refine callsD_of_wpS Tryd.func26 rfl fun c₀ cs hu => ?_
  apply wpS_seq
  apply wpS_region
  simp [wpOpsS, go_sem, recoverD, hu, Tryd.ntmps26, Exit.thenS]
  apply wpS_seq
  apply wpS_region
  simp [wpOpsS, go_sem, Exit.thenS]
  refine wpS_cond (t := false) (by simp [Act.eval, Array.replicate, Act.put]) ?_
  simp only [Bool.false_eq_true, if_false]
  refine wpS_of_wp (wp_skip ?_)
  cases c₀
  simp_all [bodyPostS, results, Tryd.results26, Act.put]
set_option maxHeartbeats 2000000 in
set_option maxRecDepth 100000 in
theorem Tryd.catch26 (a b : Nat) (x y : Value) (w : World) (hab : a ≠ b) (ha : w.heap[a]? = some (.cells #[x] 23 (0, 0))) (hb : w.heap[b]? = some (.cells #[y] 24 (0, 0))) :
    CallsD Tryd.prog 26 #[.pointer (some ⟨a, 0, none⟩), .pointer (some ⟨b, 0, none⟩)] (.panicking [{ v := .iface 65 (.agg #[]), recovered := false }]) w fun e u' w' =>
      e = .returned (.tuple #[]) ∧ u' = .panicking [{ v := .iface 65 (.agg #[]), recovered := true }] ∧ w' = ((w.alloc (.cells #[] 65 (0, 0))).setCell ⟨a, 0, none⟩ (.slice none 0 0)).setCell ⟨b, 0, none⟩ (.int .i64 250) := by
  refine callsD_of_wpS Tryd.func26 rfl fun c₀ cs hu => ?_
  have u20 := run_underlying (P := Tryd.prog) Tryd.underlying20
  have u65 := run_underlying (P := Tryd.prog) Tryd.underlying65
  have t65 := Tryd.underlying65; have a65 := Tryd.isAgg65; have z65 := Tryd.sizeOf65; have v65 := Tryd.zeroValue65
  have t9 := Tryd.underlying23; have a9 := Tryd.isAgg23; have z9 := Tryd.sizeOf23
  have t24 := Tryd.underlying24; have a24 := Tryd.isAgg24; have z24 := Tryd.sizeOf24
  have hla := heap_lt ha
  have hlb := heap_lt hb
  apply wpS_seq
  apply wpS_region
  simp [wpOpsS, go_sem, recoverD, hu, Tryd.ntmps26, Exit.thenS]
  apply wpS_seq
  apply wpS_region
  simp [wpOpsS, go_sem, recoverD, hu, Exit.thenS]
  refine wpS_cond (t := true) (by simp [Act.eval, Array.replicate, Act.put]) ?_
  simp only [if_true]
  apply wpS_seq
  apply wpS_seq
  apply wpS_region
  simp [wpOpsS, go_sem, recoverD, hu, Exit.thenS, Instr.typeAssert, u65]
  apply wpS_seq
  apply wpS_region
  simp [wpOpsS, go_sem, recoverD, hu, Exit.thenS]
  refine wpS_cond (t := false) (by simp [Act.eval, Array.replicate, Act.put]) ?_
  simp only [Bool.false_eq_true, if_false]
  refine wpS_of_wp (wp_skip ?_)
  simp only [Exit.thenS]
  have c1 : (w.alloc (.cells #[] 65 (0, 0))).heap[a]? = some (.cells #[x] 23 (0, 0)) := by rw [← ha]; show (w.heap.push _)[a]? = _; rw [Array.getElem?_push]; simp [Nat.ne_of_lt hla]
  have c2 : (w.alloc (.cells #[] 65 (0, 0))).heap[b]? = some (.cells #[y] 24 (0, 0)) := by rw [← hb]; show (w.heap.push _)[b]? = _; rw [Array.getElem?_push]; simp [Nat.ne_of_lt hlb]
  have k1 : (w.alloc (.cells #[] 65 (0, 0))).cell? ⟨a, 0, none⟩ = some x := by simp [World.cell?, c1]
  have f1 : (w.alloc (.cells #[] 65 (0, 0))).frozen? ⟨a, 0, none⟩ = false := by simp [World.frozen?, c1]
  have e2 : ((w.alloc (.cells #[] 65 (0, 0))).setCell ⟨a, 0, none⟩ (.slice none 0 0)).heap[b]? = some (.cells #[y] 24 (0, 0)) := by
    rw [← c2]; simp only [World.setCell, Array.getElem?_modify]; rw [if_neg hab]
  have k2 : ((w.alloc (.cells #[] 65 (0, 0))).setCell ⟨a, 0, none⟩ (.slice none 0 0)).cell? ⟨b, 0, none⟩ = some y := by simp [World.cell?, e2]
  have f2 : ((w.alloc (.cells #[] 65 (0, 0))).setCell ⟨a, 0, none⟩ (.slice none 0 0)).frozen? ⟨b, 0, none⟩ = false := by simp [World.frozen?, e2]
  apply wpS_region
  simp [wpOpsS, go_sem, bodyPostS, results, Tryd.results26, Act.put, k1, f1, k2, f2]
instance : Catch Tryd.prog 26 (.iface 65 (.agg #[])) 65 23 24 (.slice none 0 0) (.int .i64 250) := ⟨by kernel_rfl, Tryd.idle26, Tryd.catch26⟩
instance : Catch Tryd.prog 36 (.iface 65 (.agg #[])) 65 9 24 (.string ⟨#[]⟩) (.int .i64 250) := ⟨by kernel_rfl, Tryd.idle36, Tryd.catch36⟩
end Go.Proofs
