/-
  Own work. slices.Sorted(maps.Keys(m)) at keys that are ints, as the kit's shelf has it, in this library's form.
-/
import Derived.Test.YtpkjocjchkibaaaSxShelfS
import Derived.Shelf.SlIterI.Nil
import Derived.Maps.Ext
namespace Sx
open Go Go.Maps Go.Sort Go.RowKit Go.Proofs

theorem own_sorted {P : Program} {w : World} {kid : TypeId} {b n' : Nat} {kt vt : T} {M : Mem} {lv : List (kt.D × Value)} {l : List (kt.D × vt.D)} (hk : ktChk P kt kid = true) (h : w.ownsMap P kid rawR b n' (dat kt lv)) (hr : RelKV M lv l) (ho : koks kt l) : (l.map (·.1)).Pairwise (fun a b => klt kt a b = true) := by
  obtain ⟨es, he, hp, _⟩ := h.canon (keyed_of hk)
  simp only [DataW.map.injEq] at he
  subst he
  rw [List.pairwise_map] at hp
  have hkeys : lv.map (·.1) = l.map (·.1) := by
    have : ∀ {lv : List (kt.D × Value)} {l : List (kt.D × vt.D)}, RelKV M lv l → lv.map (·.1) = l.map (·.1) := by
      intro lv
      induction lv with
      | nil => intro l hr; cases l with
        | nil => rfl
        | cons _ _ => exact hr.elim
      | cons p r ih =>
        intro l hr
        cases l with
        | nil => exact hr.elim
        | cons q s => rw [List.map_cons, List.map_cons, hr.1, ih hr.2.2]
    exact this hr
  have hlo := hr.koks ho
  rw [← hkeys, List.pairwise_map]
  refine hp.imp_of_mem fun {p q} hp' hq' h => ?_
  rw [klit_before (hlo p hp') (hlo q hq')] at h
  exact h

section
variable {P : Program} {F : Fr} {M : Mem} {n : Nat} {E : Env} {L : List Res} {X : Act → World → Prop}
theorem r_psorted {v : Value} {kid : TypeId} {kt vt : T} {l : List (kt.D × vt.D)} (hk : ktChk P kt kid = true) (i : Nat) (hi : L[i]? = some (Res.map P kid kt vt v l)) (g : koks kt l → (l.map (·.1)).Pairwise (fun a b => klt kt a b = true) → Go F n E L X) : Go F n E L X := fun M a w c => by
  obtain ⟨b, lv, rfl, hown, hrel, hok⟩ := map_val c.st hi
  exact g hok (own_sorted hk hown hrel hok) M a w c

/-- new blocks behind all -/
theorem St.junk {w w' : World} (h : St F M w L) (hg : w.grownBy w' none) : St F M w' L := by
  obtain ⟨V, s, d⟩ := h.sep
  have hw : ∀ k, k < w.heap.size → w'.heap[k]? = w.heap[k]? := fun k hk => hg.block k hk (by simp)
  exact {
    os := hg.os.trans h.os, tape := hg.tape.trans h.tape, output := hg.output.trans h.output, size := Nat.le_trans h.size hg.size, elder := h.elder, fresh := h.fresh
    frame := fun k o e => by rw [hw k (h.flt e)]; exact h.frame k o e
    mem := fun k o e => by rw [hw k (h.lt e)]; exact h.mem k o e
    sep := ⟨V, Sep.loc (fun k hk => hw k (s.has k hk)) s, d⟩ }
/-- .. of which one is owned -/
theorem St.fresh' {w w' : World} (h : St F M w L) (hg : w.grownBy w' none) {R : Res} {S : Nat → Prop} (hR : R.sat M S w') (hS : ∀ k, S k → w.heap.size ≤ k) : St F M w' (R :: L) := by
  have h' := h.junk hg
  obtain ⟨V, s, d⟩ := h.sep
  have hw : ∀ k, k < w.heap.size → w'.heap[k]? = w.heap[k]? := fun k hk => hg.block k hk (by simp)
  refine { h' with sep := ⟨fun k => S k ∨ V k, ⟨S, V, hR, Sep.loc (fun k hk => hw k (s.has k hk)) s, fun k hk hv => ?_, fun _ => Iff.rfl⟩, fun k hk => ?_⟩ }
  · have := hS k hk; have := s.has k hv; omega
  · rcases hk with hk | hk
    · have h1 := hS k hk
      constructor
      · cases hm : M k with
        | none => rfl
        | some o => have := h.lt hm; omega
      · cases hm : F.mem k with
        | none => rfl
        | some o => have := h.flt hm; omega
    · exact d k hk
end

/-- maps.Keys -/
def KeysOk (P : Program) (k g : FuncId) (mt : TypeId) : Prop := ∀ (w : World) (b : Nat), Calls P k #[.map (some b)] w fun e w' => e = .returned (.func (.func g) #[] #[.pointer (some ⟨w.heap.size, 0, none⟩)]) ∧ w' = w.alloc (.cells #[.map (some b)] mt)
/-- slices.Sorted of it -/
def SortedOk (P : Program) (k g : FuncId) (mt it : TypeId) : Prop := ∀ (w : World) (b nn : Nat) (D0 : DataW Value), w.ownsMap P it rawR b nn D0 → Maps.size D0 ≤ maxLen → Maps.size D0 * 8 ≤ 140737488355328 →
  Calls P k #[.func (.func g) #[] #[.pointer (some ⟨w.heap.size, 0, none⟩)]] (w.alloc (.cells #[.map (some b)] mt)) fun e w' => ∃ (v : Value) (ss : List Int), e = .returned v ∧ ss.Perm (intKeys D0) ∧
    w'.ownsRow (w.heap.size + 1) it 1 v ss.length ((ss.mergeSort (fun x y => decide (x ≤ y))).map encZ) ∧ Below (w.heap.size + 1) (w.alloc (.cells #[.map (some b)] mt)) w'

theorem keys_of {P : Program} {ρ : Go.Shelf.Ren} (L : SlLaysZI.n7 P ρ) : KeysOk P (ρ.f 7) (ρ.f 10) (ρ.t 23) := fun w b =>
  (callsIn_wide (n := 5)).1 (AnyZI.keys_in L Fence.wide 5 trivial rfl (some b) w)

theorem sorted_of {P : Program} {ρ7 ρ6 ρs : Go.Shelf.Ren} (L7 : SlLaysZI.n7 P ρ7) (L6 : SlLaysZI.n6 P ρ6) (Ls : SlLaysN.n53 P ρs) (hs : ρs.f 53 = ρ6.f 9) (ht : ρ6.t 26 = ρ7.t 26)
    (e9 : ∀ args w, (callFunc (ρ6.f 9) args).run P w = .ok (.enter (ρ6.f 9) args) w) (eg : ∀ args w, (callFunc (ρ7.f 10) args).run P w = .ok (.enter (ρ7.f 10) args) w) : SortedOk P (ρ6.f 6) (ρ7.f 10) (ρ7.t 23) (ρ7.t 26) := fun w b nn D0 hown hmax hbytes => by
  refine (callsIn_wide (n := 5)).1 ?_
  have hbl := hown.lt
  have hsort : ∀ m, AnyZI.SortsIn P ρ6 Fence.wide m := fun m =>
    ⟨fun blk off cap ss W hH hblk hsz => by rw [← hs]; exact callsIn_wide.2 (AnyG.slices_Sort_int Ls blk off cap ss W hH hblk hsz), fun p cap W => by rw [← hs]; exact callsIn_wide.2 (AnyG.slices_Sort_int_none Ls p cap W)⟩
  have hseq : SeqGives Fence.wide 2 P (ρ7.f 10) #[.pointer (some ⟨w.heap.size, 0, none⟩)] encZ (fun ss => ss.Perm (intKeys D0)) (Maps.size D0) (w.alloc (.cells #[.map (some b)] (ρ7.t 23))) :=
    AnyZI.keys_gives (ρ := ρ7) (R := rawR) { L7 with } Fence.wide _ trivial rfl (by omega) w.heap.size b nn D0 _ (by simp) (by simp) (by
      obtain ⟨es, clock, hb, Ft, hs, hD⟩ := hown
      exact ⟨es, clock, (Below.heap_alloc _ _ b hbl).trans hb, Ft, hs, hD⟩)
  have cS := AnyZI.sorted_in L6 Fence.wide 5 trivial trivial trivial trivial rfl (by omega) (hsort _) e9 (ρ7.f 10) #[.pointer (some ⟨w.heap.size, 0, none⟩)] trivial eg _ _ hmax hbytes _ hseq
  refine cS.mono ?_
  rintro e w' ⟨v, ss, h1, h2, h3, h4, h5⟩
  rw [ht] at h3
  have e1 : (w.alloc (.cells #[.map (some b)] (ρ7.t 23))).heap.size = w.heap.size + 1 := by simp
  rw [e1] at h3 h5
  exact ⟨v, ss, h1, h2, h3, h5⟩

section
variable {P : Program} {I : DI} {F : Fr} {n : Nat} {E : Env} {L : List Res} {ops : Array Oper} {Q : Exit → Act → World → Prop} {rest : List Oper}

theorem dat_intKeys (l : List (Int × Value)) : intKeys (dat (.int .i64) l) = l.map (·.1) := by
  simp only [intKeys, dat, List.map_map]; rfl
theorem dat_size {kt : T} (l : List (kt.D × Value)) : Maps.size (dat kt l) = l.length := by
  simp [Maps.size, dat]

theorem r_sortedkeys {kk ks g : FuncId} {mt : TypeId} (hK : KeysOk P kk g mt) (hS : SortedOk P ks g mt I.int) (hk1 : callable P kk = true) (hk2 : callable P ks = true) (hkt : ktChk P (.int .i64) I.int = true) {m : Operand} {z v : Value} {keys : List Int} {d1 d2 : Nat} {ty ty' : TypeId} {tys tys' : Array TypeId} {pos pos' : String} {after after' : Array Edge} (i : Nat)
    (hm : ev E m = some (.one (.raw z) v)) (hi : L[i]? = some (Res.dirty P I v keys)) (hlen : keys.length * 8 ≤ 140737488355328) (hd1 : Nat.ble (d1 + 1) n = true) (hd2 : Nat.ble (d2 + 1) n = true) (hE : E.get d1 = none)
    (hg : ∀ v', Go F n ((d2, .one (.raw (.slice none 0 0)) v') :: E) (Res.own v' I.int (.int .i64) keys :: L) (wpList P ops Q rest)) :
    Go F n E L (wpList P ops Q (⟨some d1, .call ⟨.value (.func kk), #[m], tys⟩, ty, pos, after, none⟩ :: ⟨some d2, .call ⟨.value (.func ks), #[.tmp d1], tys'⟩, ty', pos', after', none⟩ :: rest)) := by
  have hlt : i < L.length := by
    rcases Nat.lt_or_ge i L.length with h | h
    · exact h
    · simp [List.getElem?_eq_none h] at hi
  refine r_undirty (P := P) (I := I) i hi fun l hl => ?_
  have hi' : (L.set i (Res.map P I.int (.int .i64) (.int .i64) v l))[i]? = some (Res.map P I.int (.int .i64) (.int .i64) v l) := by simp [hlt]
  have hback : ∀ v', Go F n ((d2, .one (.raw (.slice none 0 0)) v') :: E) (Res.own v' I.int (.int .i64) keys :: L.set i (Res.map P I.int (.int .i64) (.int .i64) v l)) (wpList P ops Q rest) := fun v' => by
    refine r_redirty (P := P) (I := I) (v := v) (l := l) (keys := keys) (i + 1) (by simp [hlt]) hl ?_
    rw [List.set_cons_succ, List.set_set]
    have : L.set i (Res.dirty P I v keys) = L := by
      apply List.ext_getElem?
      intro j
      rw [List.getElem?_set]
      split
      · rename_i h; subst h; exact hi.symm
      · rfl
    rw [this]; exact hg v'
  generalize L.set i (Res.map P I.int (.int .i64) (.int .i64) v l) = L2 at hi' hback
  intro M a w c
  obtain ⟨b, lv, rfl, hown, hrel, hok⟩ := map_val c.st hi'
  have hmv := (holds_raw.1 (ev_ok c hm)).1
  have hsorted := own_sorted hkt hown hrel hok
  have hkeys : lv.map (·.1) = keys := by
    have : ∀ {lv : List (Int × Value)} {l : List (Int × Int)}, RelKV (kt := .int .i64) (vt := .int .i64) M lv l → lv.map (·.1) = l.map (·.1) := by
      intro lv
      induction lv with
      | nil => intro l hr; cases l with
        | nil => rfl
        | cons _ _ => exact hr.elim
      | cons p r ih =>
        intro l hr
        cases l with
        | nil => exact hr.elim
        | cons q s => rw [List.map_cons, List.map_cons, hr.1, ih hr.2.2]
    rw [← hl]; exact this hrel
  have hll : lv.length = keys.length := by rw [← hkeys, List.length_map]
  -- maps.Keys
  unfold wpList
  rw [if_pos (by simp [Region.wanted])]
  left
  unfold Oper.wp
  have hrun : (execOp a.eval ⟨some d1, .call ⟨.value (.func kk), #[m], tys⟩, ty, pos, after, none⟩).run P w = .ok (.enter kk #[.map (some b)]) w := by
    simp only [execOp, resolve, run_bind, run_pure, Deferred.ofValue, invoke]
    have e1 : a.eval (Operand.func kk) = .func (.func kk) #[] #[] := rfl
    rw [e1]
    simp only [run_bind, run_pure]
    simp [hmv, run_callFunc hk1]
  rw [hrun, Oper.upon_enter]
  refine (hK w b).mono ?_
  rintro e w1 ⟨rfl, rfl⟩
  have hga : w.grownBy (w.alloc (.cells #[.map (some b)] mt)) none := ⟨rfl, rfl, rfl, by simp, fun k hk _ => Below.heap_alloc _ _ k hk⟩
  have c1 := c.void (some d1) (.func (.func g) #[] #[.pointer (some ⟨w.heap.size, 0, none⟩)])
  have hcv : (a.put (some d1) (.func (.func g) #[] #[.pointer (some ⟨w.heap.size, 0, none⟩)])).eval (.tmp d1) = .func (.func g) #[] #[.pointer (some ⟨w.heap.size, 0, none⟩)] := by
    have : d1 < a.tmps.size := by rw [c.size]; exact Nat.le_of_ble_eq_true hd1
    simp [Act.put, Act.eval, this]
  have c2 : Cfg F M n E L2 (a.put (some d1) (.func (.func g) #[] #[.pointer (some ⟨w.heap.size, 0, none⟩)])) w := c1.less (fun q t h => by
    have hq : q ≠ d1 := fun e => by rw [e, hE] at h; cases h
    exact get_del_ne hq h)
  show wpList P ops Q _ (a.put (some d1) (.func (.func g) #[] #[.pointer (some ⟨w.heap.size, 0, none⟩)])) _
  generalize a.put (some d1) (.func (.func g) #[] #[.pointer (some ⟨w.heap.size, 0, none⟩)]) = a2 at hcv c2 ⊢
  -- slices.Sorted
  unfold wpList
  rw [if_pos (by simp [Region.wanted])]
  left
  unfold Oper.wp
  have hrun2 : (execOp a2.eval ⟨some d2, .call ⟨.value (.func ks), #[.tmp d1], tys'⟩, ty', pos', after', none⟩).run P (w.alloc (.cells #[.map (some b)] mt)) = .ok (.enter ks #[.func (.func g) #[] #[.pointer (some ⟨w.heap.size, 0, none⟩)]]) (w.alloc (.cells #[.map (some b)] mt)) := by
    simp only [execOp, resolve, run_bind, run_pure, Deferred.ofValue, invoke]
    have e1 : a2.eval (Operand.func ks) = .func (.func ks) #[] #[] := rfl
    rw [e1]
    simp only [run_bind, run_pure]
    simp [hcv, run_callFunc hk2]
  rw [hrun2, Oper.upon_enter]
  refine (hS w b l.length (dat (.int .i64) lv) hown (by rw [dat_size, hll]; unfold maxLen; omega) (by rw [dat_size, hll]; exact hlen)).mono ?_
  rintro e w' ⟨v', ss, rfl, hperm, hrow, hbel⟩
  rw [dat_intKeys, hkeys] at hperm
  have hsrt : ss.mergeSort (fun x y => decide (x ≤ y)) = keys := sort_int hperm (by
    rw [hl] at hsorted
    exact hsorted.imp fun h => by simpa [klt] using h)
  rw [hsrt] at hrow
  have hgw : w.grownBy w' none := by
    refine ⟨hbel.os, hbel.tape, hbel.output, Nat.le_trans (by simp) hbel.size, fun k hk _ => ?_⟩
    rw [hbel.block k (by omega)]; exact Below.heap_alloc _ _ k hk
  have hint : ∀ x ∈ keys, rng .i64 x := fun x hx => by
    rw [← hl] at hx
    obtain ⟨p, hp, rfl⟩ := List.mem_map.1 hx
    exact hok p hp
  refine hback v' M _ _ (c2.put (Mem.le.refl _) ?_ (Nat.le_of_ble_eq_true hd2) ?_)
  · obtain ⟨hlen', hcase⟩ := hrow
    rcases hcase with ⟨rfl, h0⟩ | ⟨g', cap, cur, rfl, hbase, hgb, r1, r2, r3, r4⟩
    · have : keys = [] := by
        have := hperm.length_eq
        exact List.eq_nil_of_length_eq_zero (by omega)
      exact c2.st.fresh' hgw (S := fun _ => False) (.inl ⟨⟨none, rfl⟩, this, fun _ h => h⟩) (fun _ h => h.elim)
    · refine c2.st.fresh' hgw (S := fun k => k = g') (.inr ⟨g', cap, ?_⟩) (fun k hk => by omega)
      have hle := hperm.length_eq
      refine ⟨by rw [hle], fun k => Iff.rfl, cur, (0, 0), hgb, ?_, by rw [r3], by omega, by simp only [most]; unfold maxLen at r2; omega, fun i _ => by simp⟩
      have e2 : (T.int IntKind.i64).size = 1 := rfl
      rw [e2, ← hle, r4]
      exact repL_int_of hint
  · refine holds_raw.2 ⟨rfl, ?_⟩
    rcases hrow.2 with ⟨rfl, _⟩ | ⟨g', cap, cur, rfl, _⟩ <;> rfl

/-- the names of the files rise -/
theorem r_dsorted {X : Act → World → Prop} {mv : Value} {fs : List (List Int × FileS)} (hk : ktChk P .str I.str = true) (g : koks .str fs → (fs.map (·.1)).Pairwise (fun a b => sLt a b = true) → Go F n E (Res.dfiles P I mv fs :: L) X) : Go F n E (Res.dfiles P I mv fs :: L) X := fun M a w c => by
  obtain ⟨S, es, hs⟩ := c.st.res (i := 0) rfl
  obtain ⟨A, B, ⟨h1, _⟩, hs2, _, _⟩ := hs
  obtain ⟨A2, B2, ⟨b, lv, rfl, hA, hown, hrel, hok⟩, _⟩ := hs2
  have h2 := own_sorted hk hown hrel hok
  rw [pmap_keys] at h2
  refine g ?_ ?_ M a w c
  · rw [h1]; exact pmap_koks.2 (pmap_koks.1 hok)
  · rw [h1, pmap_keys]
    exact h2
end
end Sx
