/-
  Own work. The operations on maps of the call's own.
-/
import Derived.Test.YtpkjocjchkibaaaSxMap
import Derived.Carry
namespace Sx
open Go Go.Maps

section
variable {P : Program} {Tb : Tab} {F : Fr} {n : Nat} {E E' : Env} {L : List Res} {ops : Array Oper} {Q : Exit → Act → World → Prop} {rest : List Oper}

/-- make -/
theorem r_makeMap {mt d : Nat} {ty : TypeId} {pos : String} {after : Array Edge} (kid : TypeId) (kt vt : T) (hd : Nat.ble (d + 1) n = true)
    (g : ∀ v, Go F n ((d, .one (.raw (.map none)) v) :: E) (Res.map P kid kt vt v [] :: L) (wpList P ops Q rest)) : Go F n E L (wpList P ops Q (⟨some d, .makeMap mt none, ty, pos, after, none⟩ :: rest)) := fun M a w c => by
  have hrun : (execOp a.eval ⟨some d, .makeMap mt none, ty, pos, after, none⟩).run P w = .ok (.value (.map (some w.heap.size))) { w with heap := w.heap.push (.map #[] 0) } := rfl
  refine step_val (d := d) rfl (by simp [Region.wanted]) hrun (g _ M _ _ (c.put (Mem.le.refl _) (c.st.new ?_) (Nat.le_of_ble_eq_true hd) (holds_raw.2 ⟨rfl, rfl⟩)))
  exact ⟨w.heap.size, [], rfl, fun k => Iff.rfl, World.ownsMap_made w P kid rawR, trivial, fun p hp => by cases hp⟩

theorem map_val {M : Mem} {w : World} {kid : TypeId} {kt vt : T} {v : Value} {l : List (kt.D × vt.D)} {i : Nat} (h : St F M w L) (hi : L[i]? = some (Res.map P kid kt vt v l)) :
    ∃ b lv, v = .map (some b) ∧ w.ownsMap P kid rawR b l.length (dat kt lv) ∧ RelKV M lv l ∧ koks kt l := by
  obtain ⟨S, b, lv, h1, _, h2, h3, h4⟩ := h.res hi
  exact ⟨b, lv, h1, h2, h3, h4⟩

theorem run_zero {w : World} {t : T} {e : TypeId} (hz : (P.info? e).bind (·.zero) = some (mk t (zc t))) : (zeroValue e).run P w = .ok (mk t (zc t)) w := by
  cases hi : P.info? e with
  | none => simp [hi] at hz
  | some i =>
    simp only [hi, Option.bind_some] at hz
    simp only [zeroValue, typeInfo, run_bind, program, Sem.run, hi, hz, run_pure]

/-- v, ok := m[k] -/
theorem y_lookok {m x : Operand} {z v : Value} {kid e mt : TypeId} {kt vt : T} {l : List (kt.D × vt.D)} {key : kt.D} (i : Nat) (hm : ev E m = some (.one (.raw z) v)) (hx : ev E x = some (.one kt key)) (hi : L[i]? = some (Res.map P kid kt vt v l)) (hk : ktChk P kt kid = true) (ht : P.underlying mt = some (.map kid e))
    (hz : (P.info? e).bind (·.zero) = some (mk vt (zc vt))) (ho : zok vt = true) : Yields Same P F n E L (.lookup mt m x true) (.tup [⟨vt, (pget kt key l).getD vt.zero⟩, ⟨.bool, (pget kt key l).isSome⟩]) := fun o hop M a w c => by
  obtain ⟨b, lv, rfl, hown, hrel, hok⟩ := map_val c.st hi
  have hmv := (holds_raw.1 (ev_ok c hm)).1
  have hxv := ev_ok c hx
  obtain ⟨hkok, hkey⟩ := keyOf_of hk hxv
  have hlk := hrel.koks hok
  have hh : ∀ w', Same w w' → ∃ es clock, w'.heap[b]? = some (.map es clock) ∧ WideElems.Fit P kid rawR es clock ∧ dat kt lv = .map ((es.toList.map (WideElems.rg P kid rawR)).foldr DataW.insert []) := fun w' hs => by
    have hlt := hown.lt
    obtain ⟨es, clock, hb, hF, _, hD⟩ := hown
    exact ⟨es, clock, by rw [hs b hlt]; exact hb, hF, hD⟩
  have key : ∃ u, TV.holds M u (.tup [⟨vt, (pget kt key l).getD vt.zero⟩, ⟨.bool, (pget kt key l).isSome⟩]) ∧ ∀ w', Same w w' → (Instr.lookup mt (.map (some b)) (a.eval x) true).run P w' = .ok u w' := by
    rcases hrel.get key with ⟨g1, g2⟩ | ⟨v0, x0, g1, g2, g3⟩
    · refine ⟨.tuple #[mk vt (zc vt), .bool false], ⟨[mk vt (zc vt), .bool false], rfl, .cons (by rw [g2]; exact ⟨_, rfl, rep_zero ho⟩) (.cons (by rw [g2]; exact holds_bool.2 rfl) .nil)⟩, fun w' hs => ?_⟩
      obtain ⟨es, clock, hb, hF, hD⟩ := hh w' hs
      rcases Maps.fit_look true (keyed_of hk) ht (run_zero hz) hb hF hkey with ⟨h1, _, _⟩ | ⟨e0, y, h0, h1, h2, h3, h4, _⟩
      · exact h1
      · exfalso
        have := dat_has hkok hlk
        rw [g1, hD] at this
        have hmem : WideElems.rg P kid rawR e0 ∈ (es.toList.map (WideElems.rg P kid rawR)).foldr DataW.insert [] := mem_sorted.2 (List.mem_map.2 ⟨e0, h0, rfl⟩)
        obtain ⟨y0, hy0⟩ := hF.reads e0 h0
        have hk0 : (WideElems.rg P kid rawR e0).1 = klit kt key := by
          rw [WideElems.rg_of hy0]
          have := WideElems.rd_key hy0
          rw [h1, hkey] at this
          exact (Option.some.inj this).symm
        have : Maps.has (DataW.map ((es.toList.map (WideElems.rg P kid rawR)).foldr DataW.insert [])) (klit kt key) = true :=
          List.any_eq_true.2 ⟨_, hmem, by rw [hk0]; exact WideAt.sameKey_self ((keyed_of hk).key hkey)⟩
        simp_all
    · refine ⟨.tuple #[v0, .bool true], ⟨[v0, .bool true], rfl, .cons (by rw [g2]; exact g3) (.cons (by rw [g2]; exact holds_bool.2 rfl) .nil)⟩, fun w' hs => ?_⟩
      obtain ⟨es, clock, hb, hF, hD⟩ := hh w' hs
      rcases Maps.fit_look true (keyed_of hk) ht (run_zero hz) hb hF hkey with ⟨_, _, h3⟩ | ⟨e0, y, h0, h1, h2, h3, h4, _⟩
      · exfalso
        have := dat_at (z := .bool false) hkok hlk
        have h5 := dat_at (z := .bool true) hkok hlk
        rw [g1, hD] at this h5
        rw [h3] at this h5
        simp only [Option.getD_some, DataW.held.injEq] at this h5
        rw [← this] at h5; cases h5
      · rw [h2]
        have := dat_at (z := .bool false) hkok hlk
        rw [g1, hD, h4] at this
        cases h3
        simp only [Option.getD_some, DataW.held.injEq] at this
        simp [this]
  obtain ⟨u, hu, hr⟩ := key
  refine ⟨u, hu, fun w' hs => ?_⟩
  obtain ⟨dst, op, ty, pos, after, guard⟩ := o
  simp only at hop; subst hop
  exact run_val (by rw [hmv]; exact hr w' hs)

/-- m[k] -/
theorem y_look {m x : Operand} {z v : Value} {kid e mt : TypeId} {kt vt : T} {l : List (kt.D × vt.D)} {key : kt.D} (i : Nat) (hm : ev E m = some (.one (.raw z) v)) (hx : ev E x = some (.one kt key)) (hi : L[i]? = some (Res.map P kid kt vt v l)) (hk : ktChk P kt kid = true) (ht : P.underlying mt = some (.map kid e))
    (hz : (P.info? e).bind (·.zero) = some (mk vt (zc vt))) (ho : zok vt = true) : Yields Same P F n E L (.lookup mt m x false) (.one vt ((pget kt key l).getD vt.zero)) := fun o hop M a w c => by
  obtain ⟨b, lv, rfl, hown, hrel, hok⟩ := map_val c.st hi
  have hmv := (holds_raw.1 (ev_ok c hm)).1
  have hxv := ev_ok c hx
  obtain ⟨hkok, hkey⟩ := keyOf_of hk hxv
  have hlk := hrel.koks hok
  have hh : ∀ w', Same w w' → ∃ es clock, w'.heap[b]? = some (.map es clock) ∧ WideElems.Fit P kid rawR es clock ∧ dat kt lv = .map ((es.toList.map (WideElems.rg P kid rawR)).foldr DataW.insert []) := fun w' hs => by
    have hlt := hown.lt
    obtain ⟨es, clock, hb, hF, _, hD⟩ := hown
    exact ⟨es, clock, by rw [hs b hlt]; exact hb, hF, hD⟩
  have key : ∃ u, Holds vt M u ((pget kt key l).getD vt.zero) ∧ ∀ w', Same w w' → (Instr.lookup mt (.map (some b)) (a.eval x) false).run P w' = .ok u w' := by
    rcases hrel.get key with ⟨g1, g2⟩ | ⟨v0, x0, g1, g2, g3⟩
    · refine ⟨mk vt (zc vt), by rw [g2]; exact ⟨_, rfl, rep_zero ho⟩, fun w' hs => ?_⟩
      obtain ⟨es, clock, hb, hF, hD⟩ := hh w' hs
      rcases Maps.fit_look false (keyed_of hk) ht (run_zero hz) hb hF hkey with ⟨h1, _, _⟩ | ⟨e0, y, h0, h1, h2, h3, h4, _⟩
      · exact h1
      · exfalso
        have h5 := dat_at (z := .bool false) hkok hlk
        have h6 := dat_at (z := .bool true) hkok hlk
        rw [g1, hD, h4] at h5 h6
        rw [h5] at h6
        cases h6
    · refine ⟨v0, by rw [g2]; exact g3, fun w' hs => ?_⟩
      obtain ⟨es, clock, hb, hF, hD⟩ := hh w' hs
      rcases Maps.fit_look false (keyed_of hk) ht (run_zero hz) hb hF hkey with ⟨_, _, h3⟩ | ⟨e0, y, h0, h1, h2, h3, h4, _⟩
      · exfalso
        have := dat_at (z := .bool false) hkok hlk
        have h5 := dat_at (z := .bool true) hkok hlk
        rw [g1, hD] at this h5
        rw [h3] at this h5
        simp only [Option.getD_some, DataW.held.injEq] at this h5
        rw [← this] at h5; cases h5
      · rw [h2]
        have := dat_at (z := .bool false) hkok hlk
        rw [g1, hD, h4] at this
        cases h3
        simp only [Option.getD_some, DataW.held.injEq] at this
        simp [this]
  obtain ⟨u, hu, hr⟩ := key
  refine ⟨u, hu, fun w' hs => ?_⟩
  obtain ⟨dst, op, ty, pos, after, guard⟩ := o
  simp only at hop; subst hop
  exact run_val (by rw [hmv]; exact hr w' hs)

theorem ownsMap_tight {w : World} {kid : TypeId} {b n' : Nat} {kt : T} {lv : List (kt.D × Value)} (h : w.ownsMap P kid rawR b n' (dat kt lv)) : w.ownsMap P kid rawR b lv.length (dat kt lv) := by
  obtain ⟨es, clock, h1, h2, h3, h4⟩ := h
  refine ⟨es, clock, h1, h2, ?_, h4⟩
  have := congrArg (fun D => match D with | DataW.map l => l.length | _ => 0) h4
  simp only [List.length_map, length_sorted, Array.length_toList] at this
  omega

/-- m[k] = v -/
theorem r_mapUpdate {m x y : Operand} {z v : Value} {kid e mt : TypeId} {kt vt : T} {l : List (kt.D × vt.D)} {key : kt.D} {val : vt.D} {ty : TypeId} {pos : String} {after : Array Edge} (i : Nat) (hm : ev E m = some (.one (.raw z) v)) (hx : ev E x = some (.one kt key)) (hy : ev E y = some (.one vt val)) (hi : L[i]? = some (Res.map P kid kt vt v l)) (hk : ktChk P kt kid = true) (ht : P.underlying mt = some (.map kid e))
    (hroom : l.length < 4611686018427387904) (g : Go F n E (L.set i (Res.map P kid kt vt v (pput kt key val l))) (wpList P ops Q rest)) : Go F n E L (wpList P ops Q (⟨none, .mapUpdate mt m x y, ty, pos, after, none⟩ :: rest)) := fun M a w c => by
  obtain ⟨b, lv, rfl, hown, hrel, hok⟩ := map_val c.st hi
  have hmv := (holds_raw.1 (ev_ok c hm)).1
  obtain ⟨hkok, hkey⟩ := keyOf_of hk (ev_ok c hx)
  have hlk := hrel.koks hok
  have hrel' := hrel.put key (ev_ok c hy)
  obtain ⟨es, clock, hb, hF, hsz, hD⟩ := hown
  obtain ⟨es', clock', hrun, hF', hput, _⟩ := Maps.fit_store (R' := rawR) (val := a.eval y) (yv := (.held (a.eval y), [])) (keyed_of hk) ht hb hF (Nat.lt_of_le_of_lt hsz (by unfold maxLen; omega)) (fun _ _ _ _ hz => hz) hkey rfl
  have hD' : dat kt (pput kt key (a.eval y) lv) = .map ((es'.toList.map (WideElems.rg P kid rawR)).foldr DataW.insert []) := by
    rw [← dat_put hkok hlk, hD, DataW.put_eq, hput]
  unfold wpList
  rw [if_pos (by simp [Region.wanted])]
  left
  unfold Oper.wp
  have he : (execOp a.eval ⟨none, .mapUpdate mt m x y, ty, pos, after, none⟩).run P w = .ok .skip (ChangeMaps.setBlock w b (.map es' clock')) := by
    simp only [execOp, run_bind, hmv, hrun, run_pure]
  rw [he, Oper.upon_skip]
  refine g M _ _ (c.same (Mem.le.refl _) (c.st.turn hi (B := fun k => k = b) ?_ ?_ ?_ rfl rfl rfl (by simp [ChangeMaps.setBlock])))
  · rintro S ⟨b', _, e1, hS, _⟩
    cases e1
    refine ⟨b, pput kt key (a.eval y) lv, rfl, hS, ?_, hrel', koks_ins hkok (koks_del hok)⟩
    have : (ChangeMaps.setBlock w b (.map es' clock')).ownsMap P kid rawR b es'.size (dat kt (pput kt key (a.eval y) lv)) := ⟨es', clock', ChangeMaps.heap_setBlock_same hb _, hF', Nat.le_refl _, hD'⟩
    have := ownsMap_tight this
    rw [hrel'.len] at this; exact this
  · rintro S ⟨b', _, e1, hS, _⟩ k rfl
    cases e1; exact (hS _).2 rfl
  · intro k hk
    exact ChangeMaps.heap_setBlock_other hb _ hk

/-- delete(m, k) -/
theorem r_delete {m x : Operand} {z v : Value} {kid e mt kx : TypeId} {kt vt : T} {l : List (kt.D × vt.D)} {key : kt.D} {ty : TypeId} {pos : String} {after : Array Edge} (i : Nat) (hm : ev E m = some (.one (.raw z) v)) (hx : ev E x = some (.one kt key)) (hi : L[i]? = some (Res.map P kid kt vt v l)) (hk : ktChk P kt kid = true) (ht : P.underlying mt = some (.map kid e))
    (hkx : kx = kid) (g : Go F n E (L.set i (Res.map P kid kt vt v (pdel kt key l))) (wpList P ops Q rest)) : Go F n E L (wpList P ops Q (⟨none, .call ⟨.builtin .delete, #[m, x], #[mt, kx]⟩, ty, pos, after, none⟩ :: rest)) := fun M a w c => by
  subst hkx
  obtain ⟨b, lv, rfl, hown, hrel, hok⟩ := map_val c.st hi
  have hmv := (holds_raw.1 (ev_ok c hm)).1
  obtain ⟨hkok, hkey⟩ := keyOf_of hk (ev_ok c hx)
  have hlk := hrel.koks hok
  have hrel' := hrel.del key
  obtain ⟨es, clock, hb, hF, hsz, hD⟩ := hown
  obtain ⟨es', hrun, hF', hle, hdel, _⟩ := Maps.fit_drop (ty := ty) (keyed_of hk) ht hb hF hkey
  have hD' : dat kt (pdel kt key lv) = .map ((es'.toList.map (WideElems.rg P kx rawR)).foldr DataW.insert []) := by
    rw [← dat_del hkok hlk, hD, DataW.del_eq, hdel]
  unfold wpList
  rw [if_pos (by simp [Region.wanted])]
  left
  unfold Oper.wp
  have he : (execOp a.eval ⟨none, .call ⟨.builtin .delete, #[m, x], #[mt, kx]⟩, ty, pos, after, none⟩).run P w = .ok (.value (.tuple #[])) (ChangeMaps.setBlock w b (.map es' clock)) := by
    simp only [execOp, resolve, run_bind, run_pure, invoke, Go.builtin]
    have : #[m, x].map a.eval = #[a.eval m, a.eval x] := by simp
    rw [this, hmv, hrun]
  rw [he, Oper.upon_value]
  refine g M _ _ (c.same (Mem.le.refl _) (c.st.turn hi (B := fun k => k = b) ?_ ?_ ?_ rfl rfl rfl (by simp [ChangeMaps.setBlock])))
  · rintro S ⟨b', _, e1, hS, _⟩
    cases e1
    refine ⟨b, pdel kt key lv, rfl, hS, ?_, hrel', koks_del hok⟩
    have : (ChangeMaps.setBlock w b (.map es' clock)).ownsMap P kx rawR b es'.size (dat kt (pdel kt key lv)) := ⟨es', clock, ChangeMaps.heap_setBlock_same hb _, hF', Nat.le_refl _, hD'⟩
    have := ownsMap_tight this
    rw [hrel'.len] at this; exact this
  · rintro S ⟨b', _, e1, hS, _⟩ k rfl
    cases e1; exact (hS _).2 rfl
  · intro k hk
    exact ChangeMaps.heap_setBlock_other hb _ hk

theorem stamped_none (clock : Nat) : MapKept.Stamped #[] clock := by
  rw [MapKept.stamped_iff]; simp

/-- clear(m) -/
theorem r_clear {m : Operand} {z v : Value} {kid e mt : TypeId} {kt vt : T} {l : List (kt.D × vt.D)} {ty : TypeId} {pos : String} {after : Array Edge} (i : Nat) (hm : ev E m = some (.one (.raw z) v)) (hi : L[i]? = some (Res.map P kid kt vt v l)) (ht : P.underlying mt = some (.map kid e))
    (g : Go F n E (L.set i (Res.map P kid kt vt v [])) (wpList P ops Q rest)) : Go F n E L (wpList P ops Q (⟨none, .call ⟨.builtin .clear, #[m], #[mt]⟩, ty, pos, after, none⟩ :: rest)) := fun M a w c => by
  obtain ⟨b, lv, rfl, hown, hrel, hok⟩ := map_val c.st hi
  have hmv := (holds_raw.1 (ev_ok c hm)).1
  obtain ⟨es, clock, hb, hF, hsz, hD⟩ := hown
  unfold wpList
  rw [if_pos (by simp [Region.wanted])]
  left
  unfold Oper.wp
  have he : (execOp a.eval ⟨none, .call ⟨.builtin .clear, #[m], #[mt]⟩, ty, pos, after, none⟩).run P w = .ok (.value (.tuple #[])) (ChangeMaps.setBlock w b (.map #[] clock)) := by
    simp only [execOp, resolve, run_bind, run_pure, invoke, Go.builtin]
    have : #[m].map a.eval = #[a.eval m] := by simp
    rw [this, hmv]
    simp [Builtin.clear_, run_bind, run_underlying ht, MapKept.run_getObj_map hb, MapKept.run_setObj_map _ hb, ChangeMaps.setBlock, run_pure]
  rw [he, Oper.upon_value]
  refine g M _ _ (c.same (Mem.le.refl _) (c.st.turn hi (B := fun k => k = b) ?_ ?_ ?_ rfl rfl rfl (by simp [ChangeMaps.setBlock])))
  · rintro S ⟨b', _, e1, hS, _⟩
    cases e1
    exact ⟨b, [], rfl, hS, ⟨#[], clock, ChangeMaps.heap_setBlock_same hb _, ⟨by simp, stamped_none clock, by simp⟩, Nat.le_refl _, rfl⟩, trivial, fun p hp => by cases hp⟩
  · rintro S ⟨b', _, e1, hS, _⟩ k rfl
    cases e1; exact (hS _).2 rfl
  · intro k hk
    exact ChangeMaps.heap_setBlock_other hb _ hk

/-- len(m) -/
theorem y_maplen {m : Operand} {z v : Value} {kid e mt : TypeId} {kt vt : T} {l : List (kt.D × vt.D)} (i : Nat) (hm : ev E m = some (.one (.raw z) v)) (hi : L[i]? = some (Res.map P kid kt vt v l)) (ht : P.underlying mt = some (.map kid e)) (hl : l.length ≤ most) :
    Yields Same P F n E L (.call ⟨.builtin .len, #[m], #[mt]⟩) (.one (.int .i64) l.length) := fun o hop M a w c => by
  obtain ⟨b, lv, rfl, hown, hrel, hok⟩ := map_val c.st hi
  have hmv := (holds_raw.1 (ev_ok c hm)).1
  have hlt := hown.lt
  obtain ⟨es, clock, hb, hF, hsz, hD⟩ := hown
  have hlen : es.size = l.length := by
    have := congrArg (fun D => match D with | DataW.map l => l.length | _ => 0) hD
    simp only [List.length_map, length_sorted, Array.length_toList, hrel.len] at this
    exact this.symm
  refine ⟨.int .i64 l.length, holds_int.2 ⟨rfl, by simp only [rng, lo, Sx.hi, most] at *; omega⟩, fun w' hs => ?_⟩
  obtain ⟨dst, op, ty, pos, after, guard⟩ := o
  simp only at hop; subst hop
  simp only [execOp, resolve, run_bind, run_pure, invoke, Go.builtin]
  have : #[m].map a.eval = #[a.eval m] := by simp
  have hb' : w'.heap[b]? = some (.map es clock) := by rw [hs b hlt]; exact hb
  rw [this, hmv]
  simp only [Builtin.len_, List.getElem?_toArray, List.getElem?_cons_zero, run_bind, run_underlying ht, MapKept.run_getObj_map hb', run_pure, goInt, hlen]
end
end Sx
