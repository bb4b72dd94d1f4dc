/-
  Own work. maps.DeleteFunc with the disk's closure, as the kit's shelf has it, in this library's form.
-/
import Derived.Test.YtpkjocjchkibaaaSxDisk5
import Derived.Test.YtpkjocjchkibaaaSxShelf
import Derived.Shelf.SlMaps.DeleteFunc
namespace Sx
open Go Go.Maps

/-- a call by its values: of some of them nothing is told -/
theorem enterV {P : Program} {k : FuncId} {fn : Func} {body : Code} {L : List Res} {res : Value → TV} {L' : Value → List Res} (hf : P.funcs[k]? = some fn) (hb : fn.body = some body) (n : Nat) (hn : fn.ntmps = n) (E : Env) {F : Fr} {vs : List Value} (ha : vs.length ≤ n)
    (he : ∀ i t, E.get i = some t → ∃ v, vs[i]? = some v ∧ t.holds F.base v) (g : Go F n E L (body.wp P (bodyPost P fn (Post F res L')))) {w : World} (hst : St F F.base w L) : Calls P k vs.toArray w (Post F res L') := by
  refine calls_of_wp hf hb ?_
  refine g F.base _ _ ⟨hst, rfl, ?_, ?_⟩
  · simp [hn]; omega
  · intro i t h
    obtain ⟨v, hv, ht⟩ := he i t h
    refine ⟨v, ?_, ht⟩
    have hj : i < vs.length := by
      rcases Nat.lt_or_ge i vs.length with h | h
      · exact h
      · simp [List.getElem?_eq_none h] at hv
    have hv' : vs[i] = v := by simpa [hj] using hv
    simp [Array.getElem?_append, hj, hv']

/-- what a call that only reads leaves -/
theorem grown_of_lent {F : Fr} {M : Mem} {w w' : World} (ho : F.os = w.os) (ht : F.tape = w.tape) (hu : F.output = w.output) (hs : F.size = w.heap.size) (hm : F.mem = heapOf w) (h : St F M w' []) : w.grownBy w' none :=
  { os := h.os.trans ho, tape := h.tape.trans ht, output := h.output.trans hu, size := by rw [← hs]; exact h.size
    block := fun k hk _ => by
      have := h.frame k w.heap[k] (by rw [hm]; simp [heapOf, hk])
      rw [this]; simp [hk] }

/-- the closure that tells which sectors go -/
def CutOk (P : Program) (I : DI) (g : FuncId) : Prop := ∀ (bs : Nat) (s size : Int) (val : Value) (w : World), rng .i64 s → rng .i64 size → w.heap[bs]? = some (.cells #[.int .i64 size] I.int (0, 0)) →
  Calls P g #[.int .i64 s, val, .pointer (some ⟨bs, 0, none⟩)] w fun e w' => e = .returned (.bool (decide (size ≤ IntKind.wrap .i64 (s * 64)))) ∧ w.grownBy w' none

theorem cut_of {P : Program} {I : DI} {g : FuncId} {fn : Func} {body : Code} (hf : P.funcs[g]? = some fn) (hb : fn.body = some body) (n : Nat) (hn : fn.ntmps = n) (h3 : 3 ≤ n)
    (hg : ∀ F s size, Go F n [(0, .one (.int .i64) s), (2, .ref (.int .i64) size)] [] (body.wp P (bodyPost P fn (Post F (fun _ => .one .bool (decide (size ≤ IntKind.wrap .i64 (s * 64)))) (fun _ => []))))) : CutOk P I g := fun bs s size val w hs hz hbs => by
  have hst : St ⟨w.os, w.tape, w.output, heapOf w, heapOf w, w.heap.size⟩ (heapOf w) w [] :=
    { os := rfl, tape := rfl, output := rfl, size := Nat.le_refl _, elder := Mem.le.refl _, fresh := fun k o e => .inl e, frame := fun k o e => e, mem := fun k o e => e, sep := ⟨fun _ => False, fun _ h => h, fun _ h => h.elim⟩ }
  have := enterV (vs := [.int .i64 s, val, .pointer (some ⟨bs, 0, none⟩)]) (F := ⟨w.os, w.tape, w.output, heapOf w, heapOf w, w.heap.size⟩) hf hb n hn [(0, .one (.int .i64) s), (2, .ref (.int .i64) size)] (by simpa using h3) (fun i t h => by
    match i, h with
    | 0, h => cases h; exact ⟨_, rfl, holds_int.2 ⟨rfl, hs⟩⟩
    | 2, h => cases h; exact ⟨_, rfl, ⟨bs, 0, none⟩, rfl, rfl, _, _, _, hbs, by simp [T.size], by simpa [T.size] using ⟨rfl, hz⟩⟩) (hg _ s size) hst
  refine this.mono ?_
  rintro e w' ⟨v, M', rfl, st, hv⟩
  exact ⟨by rw [holds_bool.1 hv], grown_of_lent rfl rfl rfl rfl rfl st⟩

/-- maps.DeleteFunc with that closure -/
def DelOk (P : Program) (I : DI) (k g : FuncId) : Prop := ∀ (b bs n : Nat) (size : Int) (lv : List (Int × Value)) (w : World), rng .i64 size → w.heap[bs]? = some (.cells #[.int .i64 size] I.int (0, 0)) → bs ≠ b → koks (.int .i64) lv → w.ownsMap P I.int rawR b n (dat (.int .i64) lv) →
  Calls P k #[.map (some b), .func (.func g) #[] #[.pointer (some ⟨bs, 0, none⟩)]] w fun e w' => e = .returned (.tuple #[]) ∧ w'.ownsMap P I.int rawR b n (dat (.int .i64) (lv.filter fun p => decide (IntKind.wrap .i64 (p.1 * 64) < size))) ∧ w.grownBy w' (some b)

theorem del_of {P : Program} {ρ : Go.Shelf.Ren} {I : DI} {g : FuncId} (L : Go.Proofs.SlLaysDf.n5 P ρ) (ht : ρ.t 26 = I.int) (hu : P.underlying I.int = some (.int .i64)) (eg : ∀ args w, (callFunc g args).run P w = .ok (.enter g args) w) (hc : CutOk P I g) : DelOk P I (ρ.f 5) g :=
  fun b bs n size lv w hz hbs hne hok hown => by
  have K : Keyed P (ρ.t 26) := by rw [ht]; exact int_keyed hu
  have := Go.Proofs.AnyDf.maps_DeleteFunc (P := P) (ρ := ρ) L K rawR (fun kl _ => match kl with | .int _ s => decide (size ≤ IntKind.wrap .i64 (s * 64)) | _ => false) g #[.pointer (some ⟨bs, 0, none⟩)] b n (dat (.int .i64) lv) w eg (by rw [ht]; exact hown)
    (fun W key val kl yd yp hg hk hR => by
      rw [ht] at hk
      obtain ⟨x, rfl, rfl, hw⟩ := Maps.keyOf_int_inv hu hk
      have hr : rng .i64 x := by simpa [Lit.wf, rng, lo, Sx.hi, IntKind.min, IntKind.max, IntKind.signed, IntKind.bits] using hw
      have hW : W.heap[bs]? = some (.cells #[.int .i64 size] I.int (0, 0)) := by
        rw [hg.block bs (heap_lt hbs) (by simpa using hne)]; exact hbs
      exact hc bs x size val W hr hz hW)
  refine this.mono ?_
  rintro e w' ⟨rfl, h2, h3⟩
  refine ⟨rfl, ?_, h3⟩
  rw [ht] at h2
  have e1 : Lib.deleteFuncD (fun kl (_ : DataW Value) => match kl with | .int _ s => decide (size ≤ IntKind.wrap .i64 (s * 64)) | _ => false) (dat (.int .i64) lv) = dat (.int .i64) (lv.filter fun p => decide (IntKind.wrap .i64 (p.1 * 64) < size)) := by
    simp only [Lib.deleteFuncD, List.filter_map]
    congr 2
    apply List.filter_congr
    intro p _
    show (!decide (size ≤ IntKind.wrap .i64 (p.1 * 64))) = _
    rw [← decide_not]
    exact decide_eq_decide.2 Int.not_le
  rw [e1] at h2
  exact h2

theorem RelKV.filt {kt vt : T} {M : Mem} (f : kt.D → Bool) : ∀ {a : List (kt.D × Value)} {b : List (kt.D × vt.D)}, RelKV M a b → RelKV M (a.filter fun p => f p.1) (b.filter fun p => f p.1)
  | [], [], _ => trivial
  | p :: r, q :: s, ⟨h1, h2, h3⟩ => by
    have ih := RelKV.filt f h3
    simp only [List.filter_cons, h1] at ih ⊢
    split
    · exact ⟨h1, h2, ih⟩
    · exact ih
  | [], _ :: _, h => h.elim
  | _ :: _, [], h => h.elim

section
variable {P : Program} {I : DI} {F : Fr} {n : Nat} {E E' : Env} {L : List Res} {ops : Array Oper} {Q : Exit → Act → World → Prop} {rest : List Oper}

theorem run_makeFunc {a : Act} {w : World} {g : FuncId} {x : Operand} {d : Nat} {ty : TypeId} {pos : String} {after : Array Edge} : (execOp a.eval ⟨some d, .makeFunc (.func g) #[] #[x], ty, pos, after, none⟩).run P w = .ok (.value (.func (.func g) #[] #[a.eval x])) w := by
  simp [execOp, Instr.makeFunc, run_bind, run_pure]

theorem get_del_ne : ∀ {E : Env} {d i : Nat} {t : TV}, i ≠ d → E.get i = some t → (E.del d).get i = some t
  | [], _, _, _, _, h => by simp [Env.get] at h
  | (j, u) :: r, d, i, t, hn, h => by
    simp only [Env.get] at h
    simp only [Env.del]
    split at h
    · rename_i hb
      have hj := Nat.eq_of_beq_eq_true hb
      have hd : Nat.beq j d = false := by
        cases hjd : Nat.beq j d with
        | false => rfl
        | true => exact absurd (hj.symm.trans (Nat.eq_of_beq_eq_true hjd)) hn
      rw [hd]; simp only [Env.get, hb]; exact h
    · rename_i hb
      split
      · exact get_del_ne hn h
      · simp only [Env.get, hb]; exact get_del_ne hn h

theorem Sep.pick {M : Mem} {w : World} {R : Res} : ∀ {L : List Res} {i : Nat} {V : Nat → Prop}, Sep M w L V → L[i]? = some R → ∃ S, R.sat M S w ∧ ∀ k, S k → V k
  | [], _, _, _, h => by simp at h
  | R0 :: L, 0, V, ⟨S, V', r, s, d, e⟩, hi => by
    simp only [List.getElem?_cons_zero, Option.some.injEq] at hi; subst hi
    exact ⟨S, r, fun k h => (e k).2 (.inl h)⟩
  | R0 :: L, i + 1, V, ⟨S, V', r, s, d, e⟩, hi => by
    obtain ⟨S2, h2, h3⟩ := Sep.pick s (by simpa using hi)
    exact ⟨S2, h2, fun k h => (e k).2 (.inr (h3 k h))⟩
/-- two resources lie apart -/
theorem Sep.two {M : Mem} {w : World} {R1 R2 : Res} : ∀ {L : List Res} {i j : Nat} {V : Nat → Prop}, Sep M w L V → L[i]? = some R1 → L[j]? = some R2 → i ≠ j → ∃ S1 S2, R1.sat M S1 w ∧ R2.sat M S2 w ∧ ∀ k, S1 k → ¬ S2 k
  | [], _, _, _, _, h, _, _ => by simp at h
  | R :: L, 0, 0, _, _, _, _, h => absurd rfl h
  | R :: L, 0, j + 1, V, ⟨S, V', r, s, d, e⟩, hi, hj, _ => by
    simp only [List.getElem?_cons_zero, Option.some.injEq] at hi; subst hi
    obtain ⟨S2, h2, h3⟩ := Sep.pick s (by simpa using hj)
    exact ⟨S, S2, r, h2, fun k h h' => d k h (h3 k h')⟩
  | R :: L, i + 1, 0, V, ⟨S, V', r, s, d, e⟩, hi, hj, _ => by
    simp only [List.getElem?_cons_zero, Option.some.injEq] at hj; subst hj
    obtain ⟨S2, h2, h3⟩ := Sep.pick s (by simpa using hi)
    exact ⟨S2, S, h2, r, fun k h h' => d k h' (h3 k h)⟩
  | R :: L, i + 1, j + 1, V, ⟨S, V', r, s, d, e⟩, hi, hj, h => Sep.two s (by simpa using hi) (by simpa using hj) (by omega)

/-- a resource is turned, and new blocks may stand behind all -/
theorem St.turnG {M : Mem} {w w' : World} (h : St F M w L) {R R' : Res} {i : Nat} (hi : L[i]? = some R) {b : Nat} (hg : w.grownBy w' (some b)) (hR : ∀ S, R.sat M S w → R'.sat M S w') (hB : ∀ S, R.sat M S w → S b) : St F M w' (L.set i R') := by
  obtain ⟨V, s, d⟩ := h.sep
  have hV : V b := by
    obtain ⟨S, hS, h3⟩ := Sep.pick s hi
    exact h3 b (hB S hS)
  have hw : ∀ k, k < w.heap.size → k ≠ b → w'.heap[k]? = w.heap[k]? := fun k hk hne => hg.block k hk (fun e => hne (by cases e; rfl))
  exact {
    os := hg.os.trans h.os, tape := hg.tape.trans h.tape, output := hg.output.trans h.output, size := Nat.le_trans h.size hg.size, elder := h.elder, fresh := h.fresh
    frame := fun k o e => by
      rw [hw k (h.flt e) (fun hb => by have := (d b hV).2; rw [← hb] at this; rw [this] at e; cases e)]; exact h.frame k o e
    mem := fun k o e => by
      rw [hw k (h.lt e) (fun hb => by have := (d b hV).1; rw [← hb] at this; rw [this] at e; cases e)]; exact h.mem k o e
    sep := ⟨V, Sep.turn (B := fun k => k = b) (Mem.le.refl _) hR (fun S hS k hk => by subst hk; exact hB S hS) (fun k hk hv => hw k hv hk) s hi, d⟩ }

/-- the closure, and the call of maps.DeleteFunc behind it -/
theorem r_delmap {k g : FuncId} (hd : DelOk P I k g) (hk : callable P k = true) {m x : Operand} {z z' v : Value} {bs : Nat} {l : List (Int × Int)} {size : Int} {dc d : Nat} {ty ty' : TypeId} {tys : Array TypeId} {pos pos' : String} {after after' : Array Edge} (i j : Nat)
    (hm : ev E m = some (.one (.raw z) v)) (hx : ev E x = some (.one (.raw z') (.pointer (some ⟨bs, 0, none⟩)))) (hi : L[i]? = some (Res.map P I.int (.int .i64) (.int .i64) v l)) (hj : L[j]? = some (Res.var bs I.int (.int .i64) size)) (hij : i ≠ j) (hne : m ≠ .tmp dc) (hdc : Nat.ble (dc + 1) n = true) (hdd : Nat.ble (d + 1) n = true) (hE : E.get dc = none)
    (hg : Go F n ((d, .tup []) :: E) (L.set i (Res.map P I.int (.int .i64) (.int .i64) v (l.filter fun p => decide (IntKind.wrap .i64 (p.1 * 64) < size)))) (wpList P ops Q rest)) :
    Go F n E L (wpList P ops Q (⟨some dc, .makeFunc (.func g) #[] #[x], ty, pos, after, none⟩ :: ⟨some d, .call ⟨.value (.func k), #[m, .tmp dc], tys⟩, ty', pos', after', none⟩ :: rest)) := fun M a w c => by
  have hmf : (execOp a.eval ⟨some dc, .makeFunc (.func g) #[] #[x], ty, pos, after, none⟩).run P w = .ok (.value (.func (.func g) #[] #[.pointer (some ⟨bs, 0, none⟩)])) w := by
    rw [run_makeFunc, (holds_raw.1 (ev_ok c hx)).1]
  refine step_val (d := dc) rfl (by simp [Region.wanted]) hmf ?_
  have hmv : (a.put (some dc) (.func (.func g) #[] #[.pointer (some ⟨bs, 0, none⟩)])).eval m = v := by
    rw [← (holds_raw.1 (ev_ok c hm)).1]
    cases m with
    | tmp q =>
      have : dc ≠ q := fun e => hne (by rw [e])
      simp [Act.put, Act.eval, this]
    | _ => rfl
  have hcv : (a.put (some dc) (.func (.func g) #[] #[.pointer (some ⟨bs, 0, none⟩)])).eval (.tmp dc) = .func (.func g) #[] #[.pointer (some ⟨bs, 0, none⟩)] := by
    have : dc < a.tmps.size := by rw [c.size]; exact Nat.le_of_ble_eq_true hdc
    simp [Act.put, Act.eval, this]
  have c1 := c.void (some dc) (.func (.func g) #[] #[.pointer (some ⟨bs, 0, none⟩)])
  have c2 : Cfg F M n E L (a.put (some dc) (.func (.func g) #[] #[.pointer (some ⟨bs, 0, none⟩)])) w := c1.less (fun q t h => by
    have hq : q ≠ dc := fun e => by rw [e, hE] at h; cases h
    exact get_del_ne hq h)
  generalize a.put (some dc) (.func (.func g) #[] #[.pointer (some ⟨bs, 0, none⟩)]) = a2 at hmv hcv c2 ⊢
  unfold wpList
  rw [if_pos (by simp [Region.wanted])]
  left
  unfold Oper.wp
  have hrun : (execOp a2.eval ⟨some d, .call ⟨.value (.func k), #[m, .tmp dc], tys⟩, ty', pos', after', none⟩).run P w = .ok (.enter k #[v, .func (.func g) #[] #[.pointer (some ⟨bs, 0, none⟩)]]) w := by
    have : (Act.eval a2 (.tmp dc)) = .func (.func g) #[] #[.pointer (some ⟨bs, 0, none⟩)] := hcv
    simp only [execOp, resolve, run_bind, run_pure, Deferred.ofValue, invoke]
    have e1 : a2.eval (Operand.func k) = .func (.func k) #[] #[] := rfl
    rw [e1]
    simp only [run_bind, run_pure]
    simp [hmv, hcv, run_callFunc hk]
  rw [hrun, Oper.upon_enter]
  obtain ⟨b, lv, rfl, hown, hrel, hok⟩ := map_val c2.st hi
  obtain ⟨V, s, _⟩ := c2.st.sep
  obtain ⟨S1, S2, ⟨b', _, e1, hS1, _⟩, ⟨hS2, cs, hcs, hrep⟩, hdis⟩ := Sep.two s hi hj hij
  cases e1
  have hbb : bs ≠ b := fun e => hdis b ((hS1 b).2 rfl) ((hS2 b).2 e.symm)
  obtain ⟨rfl, hrg⟩ : cs = [.int .i64 size] ∧ rng .i64 size := hrep
  have := hd b bs l.length size lv w hrg (by simpa using hcs) hbb (hrel.koks hok) hown
  refine this.mono ?_
  rintro e w' ⟨rfl, hown', hgr⟩
  refine hg M _ _ (c2.put (Mem.le.refl _) (c2.st.turnG hi hgr ?_ ?_) (Nat.le_of_ble_eq_true hdd) ⟨[], rfl, .nil⟩)
  · rintro S ⟨b', lv', e1, hS, hown0, hrel0, hok0⟩
    cases e1
    have hrel2 := hrel.filt (fun s => decide (IntKind.wrap .i64 (s * 64) < size))
    refine ⟨b, _, rfl, hS, ?_, hrel2, fun p hp => hok p (List.mem_filter.1 hp).1⟩
    have := ownsMap_tight hown'
    rw [← hrel2.len]; exact this
  · rintro S ⟨b', _, e1, hS, _⟩
    cases e1; exact (hS _).2 rfl

theorem r_deldirtyK {k g : FuncId} (hd : DelOk P I k g) (hk : callable P k = true) {m x : Operand} {z z' v : Value} {bs : Nat} {keys : List Int} {size : Int} {dc d : Nat} {ty ty' : TypeId} {tys : Array TypeId} {pos pos' : String} {after after' : Array Edge} (i j : Nat)
    (hm : ev E m = some (.one (.raw z) v)) (hx : ev E x = some (.one (.raw z') (.pointer (some ⟨bs, 0, none⟩)))) (hi : L[i]? = some (Res.dirty P I v keys)) (hj : L[j]? = some (Res.var bs I.int (.int .i64) size)) (hij : i ≠ j) (hne : m ≠ .tmp dc) (hdc : Nat.ble (dc + 1) n = true) (hdd : Nat.ble (d + 1) n = true) (hE : E.get dc = none)
    (hg : Go F n ((d, .tup []) :: E) (L.set i (Res.dirty P I v (cutKeys keys size))) (wpList P ops Q rest)) :
    Go F n E L (wpList P ops Q (⟨some dc, .makeFunc (.func g) #[] #[x], ty, pos, after, none⟩ :: ⟨some d, .call ⟨.value (.func k), #[m, .tmp dc], tys⟩, ty', pos', after', none⟩ :: rest)) := by
  have hlt : i < L.length := by
    rcases Nat.lt_or_ge i L.length with h | h
    · exact h
    · simp [List.getElem?_eq_none h] at hi
  refine r_undirty (P := P) (I := I) i hi fun l hl => ?_
  refine r_delmap (l := l) hd hk i j hm hx (by simp [hlt]) (by rw [List.getElem?_set_ne hij]; exact hj) hij hne hdc hdd hE ?_
  refine r_redirty (P := P) (I := I) (v := v) (l := l.filter fun p => decide (IntKind.wrap .i64 (p.1 * 64) < size)) (keys := cutKeys keys size) i (by simp [hlt]) ?_ ?_
  · rw [← hl, cutKeys, List.filter_map]; rfl
  · rw [List.set_set, List.set_set]; exact hg
end
end Sx
