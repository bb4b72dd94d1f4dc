/-
  Own work. Slices of the call's own: their elements, literals, make, texts and bytes; structs and arrays written out; the ends of functions.
-/
import Derived.Test.YtpkjocjchkibaaaSxOwn
namespace Sx
open Go

theorem splice {α : Type} {l ds : List α} {J p U S N : Nat} (h1 : J + S ≤ N) (h2 : N ≤ l.length) (h3 : p + U ≤ S) (h4 : ds.length = U) :
    l.take J ++ ((((l.drop J).take S).take p) ++ ds ++ ((l.drop J).take S).drop (p + U)) ++ (l.take N).drop (J + S) = (l.take (J + p) ++ ds ++ l.drop (J + p + U)).take N := by
  have hA : (l.take (J + p)).length = J + p := by simp; omega
  have hAd : (l.take (J + p) ++ ds).length = J + p + U := by rw [List.length_append, hA, h4]
  have e1 : (l.take (J + p) ++ ds ++ l.drop (J + p + U)).take N = l.take (J + p) ++ ds ++ (l.drop (J + p + U)).take (N - (J + p + U)) := by
    rw [List.take_append, hAd, List.take_of_length_le (by rw [hAd]; omega)]
  rw [e1, List.take_take, Nat.min_eq_left (by omega), List.take_add (i := J) (j := p)]
  have e2 : (l.drop (J + p + U)).take (N - (J + p + U)) = ((l.drop J).take S).drop (p + U) ++ (l.take N).drop (J + S) := by
    rw [List.drop_take, List.drop_drop, List.drop_take]
    have e3 : N - (J + p + U) = (S - (p + U)) + (N - (J + S)) := by omega
    rw [e3, List.take_add, List.drop_drop]
    have e4 : J + (p + U) = J + p + U := by omega
    have e5 : J + p + U + (S - (p + U)) = J + S := by omega
    rw [e4, e5]
  rw [e2]; simp [List.append_assoc]

section
variable {P : Program} {Tb : Tab} {F : Fr} {n : Nat} {E E' : Env} {L : List Res} {ops : Array Oper} {Q : Exit → Act → World → Prop} {rest : List Oper} {X : Act → World → Prop}

theorem r_expose {v : Value} {e : TypeId} {t : T} {xs : List t.D} (i : Nat) (hi : L[i]? = some (Res.own v e t xs)) (h0 : 0 < xs.length) (g : ∀ b cap, v = .slice (some ⟨b, 0, none⟩) xs.length cap → Go F n E L X) : Go F n E L X := fun M a w c => by
  obtain ⟨S, hs⟩ := c.st.res hi
  rcases hs with ⟨_, rfl, _⟩ | ⟨b, cap, hv, _⟩
  · simp at h0
  · exact g b cap hv M a w c

/-- the address of an element of a slice that is a value by itself -/
theorem y_iraw {R : World → World → Prop} (hT : Tb.chk P = true) {x ix : Operand} {z : Value} {b off len cap : Nat} {u : T} {tid el : TypeId} {k : IntKind} {i : Int} (hx : ev E x = some (.one (.raw z) (.slice (some ⟨b, off, none⟩) len cap))) (hix : ev E ix = some (.one (.int k) i)) (h0 : 0 ≤ i) (h1 : i < len)
    (hl : lk Tb.slices tid = some el) (ht : tyChk P u el = true) : Yields R P F n E L (.indexAddr tid x ix) (ptr b (off + i.toNat * u.size)) := fun o ho M a w c => by
  have h2 := (holds_raw.1 (ev_ok c hx)).1
  have hiv := (holds_int.1 (ev_ok c hix)).1
  refine ⟨_, holds_raw.2 ⟨rfl, rfl⟩, fun w' _ => ?_⟩
  obtain ⟨dst, op, ty, pos, after, guard⟩ := o
  simp only at ho; subst ho
  refine run_val ?_
  rw [h2, hiv]
  unfold Instr.indexAt
  have hc : 0 ≤ i ∧ i < (len : Int) := ⟨h0, h1⟩
  simp only [run_bind, asIntOf, run_pure, run_underlying (Tab.slice hT hl), hc, and_self, if_true, run_sizeOf ht, add_add]

/-- an element of a slice of the call's own -/
theorem y_lown {x : Operand} {z : Value} {b off len cap : Nat} {e : TypeId} {t u : T} {xs : List t.D} {tid : TypeId} (i j : Nat) (p : Pth t u) (hx : ev E x = some (.one (.raw z) (.pointer (some ⟨b, off, none⟩)))) (hi : L[i]? = some (Res.own (.slice (some ⟨b, 0, none⟩) len cap) e t xs))
    (hj : j < xs.length) (hp : j * t.size + p.off = off) (hok : p.ok) (ht : tyChk P u tid = true) : Yields Same P F n E L (.load tid x) (.one u (p.get (xs.getD j t.zero))) := fun o ho M a w c => by
  obtain ⟨S, hs⟩ := c.st.res hi
  rcases hs with ⟨_, h, _⟩ | ⟨b', cap', h, h2, cc, fr, h3, h4, h5, h6, h7, h8⟩
  · rw [h] at hj; simp at hj
  · cases h
    have hget : xs[j]? = some (xs.getD j t.zero) := by simp [List.getD, hj]
    have hrep := RepL.get (s := t.size) (fun c x h => Rep.size h) h4 hget
    have hm : j * t.size + t.size ≤ xs.length * t.size := by rw [← Nat.succ_mul]; exact Nat.mul_le_mul_right _ hj
    have hm2 := Nat.mul_le_mul_right t.size h6
    have hf := p.fits hok
    have e1 : ((cc.toList.take (xs.length * t.size)).drop (j * t.size)).take t.size = (cc.toList.drop (j * t.size)).take t.size := by
      rw [List.drop_take, List.take_take, Nat.min_eq_left (by omega)]
    rw [e1] at hrep
    have hr2 := Rep.get p hok hrep
    rw [take_drop_take _ _ _ _ _ hf, hp] at hr2
    refine ⟨_, ⟨_, rfl, hr2⟩, fun w' hsm => ?_⟩
    have hb' : w'.heap[b]? = some (.cells cc e fr) := by rw [hsm b (heap_lt h3)]; exact h3
    have key := run_loadVar' (P := P) (w := w') ht hb' (by omega) hr2
    obtain ⟨dst, op, ty, pos, after, guard⟩ := o
    simp only at ho; subst ho
    have h1 := (holds_raw.1 (ev_ok c hx)).1
    exact run_val (by rw [h1]; simp only [Instr.loadAt, Instr.sureAddr, run_bind, run_pure]; exact key)

theorem r_sown {x y' : Operand} {z : Value} {b off len cap : Nat} {e : TypeId} {t u : T} {xs : List t.D} {yv : u.D} {tid : TypeId} {ty : TypeId} {pos : String} {after : Array Edge} (i j : Nat) (p : Pth t u) (hx : ev E x = some (.one (.raw z) (.pointer (some ⟨b, off, none⟩)))) (hy : ev E y' = some (.one u yv))
    (hi : L[i]? = some (Res.own (.slice (some ⟨b, 0, none⟩) len cap) e t xs)) (hj : j < xs.length) (hp : j * t.size + p.off = off) (hok : p.ok) (ht : tyChk P u tid = true)
    (g : Go F n E (L.set i (Res.own (.slice (some ⟨b, 0, none⟩) len cap) e t (xs.set j (p.set (xs.getD j t.zero) yv)))) (wpList P ops Q rest)) : Go F n E L (wpList P ops Q (⟨none, .store tid x y', ty, pos, after, none⟩ :: rest)) := fun M a w c => by
  obtain ⟨S, hs⟩ := c.st.res hi
  rcases hs with ⟨_, h, _⟩ | ⟨b', cap', h, h2, cc, fr, h3, h4, h5, h6, h7, h8⟩
  · rw [h] at hj; simp at hj
  · cases h
    have hget : xs[j]? = some (xs.getD j t.zero) := by simp [List.getD, hj]
    have hrep := RepL.get (s := t.size) (fun c x h => Rep.size h) h4 hget
    have hm : j * t.size + t.size ≤ xs.length * t.size := by rw [← Nat.succ_mul]; exact Nat.mul_le_mul_right _ hj
    have hm2 := Nat.mul_le_mul_right t.size h6
    have hf := p.fits hok
    have hcl : cc.toList.length = cap * t.size := by simpa using h5
    have h1 := (holds_raw.1 (ev_ok c hx)).1
    obtain ⟨ds, hds, hrun⟩ := run_storeVar (P := P) (w := w) ht h3 (off := off) (by omega) h8 (ev_ok c hy)
    have hdl := hds.size
    unfold wpList
    rw [if_pos (by simp [Region.wanted])]
    left
    unfold Oper.wp
    have he : (execOp a.eval ⟨none, .store tid x y', ty, pos, after, none⟩).run P w = .ok .skip (setBlk w b (.cells (cc.toList.take off ++ ds ++ cc.toList.drop (off + u.size)).toArray e fr)) := by
      simp only [execOp, run_bind, h1, Instr.storeAt, Instr.sureAddr, run_pure, hrun]
    rw [he, Oper.upon_skip]
    refine g M _ _ (c.same (Mem.le.refl _) (c.st.turn hi (B := fun k => k = b) ?_ ?_ ?_ rfl rfl rfl (by simp [setBlk])))
    · rintro S' hS'
      rcases hS' with ⟨_, h, _⟩ | ⟨b', cap', h, h2', _⟩
      · rw [h] at hj; simp at hj
      · cases h
        have hsz : (cc.toList.take off ++ ds ++ cc.toList.drop (off + u.size)).toArray.size = cc.size := by simp; omega
        refine .inr ⟨b, cap, by simp, h2', (cc.toList.take off ++ ds ++ cc.toList.drop (off + u.size)).toArray, fr, by rw [setBlk_get (heap_lt h3)]; simp, ?_, by rw [hsz]; exact h5, by simpa using h6, by simpa using h7, by rw [hsz]; exact h8⟩
        have e1 : ((cc.toList.take (xs.length * t.size)).drop (j * t.size)).take t.size = (cc.toList.drop (j * t.size)).take t.size := by
          rw [List.drop_take, List.take_take, Nat.min_eq_left (by omega)]
        have hset := Rep.set p hok hrep hds
        have := RepL.set (s := t.size) (fun c x h => Rep.size h) h4 hj hset
        have e2 : List.take (j * t.size) (cc.toList.take (xs.length * t.size)) ++ (List.take p.off (((cc.toList.take (xs.length * t.size)).drop (j * t.size)).take t.size) ++ ds ++ List.drop (p.off + u.size) (((cc.toList.take (xs.length * t.size)).drop (j * t.size)).take t.size)) ++ List.drop (j * t.size + t.size) (cc.toList.take (xs.length * t.size))
            = List.take ((xs.set j (p.set (xs.getD j t.zero) yv)).length * t.size) (cc.toList.take off ++ ds ++ cc.toList.drop (off + u.size)) := by
          rw [e1, List.length_set, ← hp]
          have := splice (l := cc.toList) (ds := ds) (J := j * t.size) (p := p.off) (U := u.size) (S := t.size) (N := xs.length * t.size) hm (by omega) hf hdl
          rw [List.take_take, Nat.min_eq_left (by omega)]
          exact this
        rw [e2] at this
        simpa using this
    · rintro S' hS' k rfl
      rcases hS' with ⟨_, h, _⟩ | ⟨b', cap', h, h2', _⟩
      · rw [h] at hj; simp at hj
      · cases h; exact (h2' _).2 rfl
    · intro k hk; rw [setBlk_get (heap_lt h3), if_neg (fun h => hk h.symm)]

/-- how long a slice of the call's own is -/
theorem y_lenown {R : World → World → Prop} (hT : Tb.chk P = true) {x : Operand} {z v : Value} {e : TypeId} {t : T} {xs : List t.D} {tid el : TypeId} (i : Nat) (hx : ev E x = some (.one (.raw z) v)) (hi : L[i]? = some (Res.own v e t xs)) (hl : lk Tb.slices tid = some el) :
    Yields R P F n E L (.call ⟨.builtin .len, #[x], #[tid]⟩) (.one (.int .i64) xs.length) := fun o ho M a w c => by
  obtain ⟨S, hs⟩ := c.st.res hi
  have hv := (holds_raw.1 (ev_ok c hx)).1
  have hform : ∃ base cap, v = .slice base xs.length cap ∧ xs.length ≤ most := by
    rcases hs with ⟨⟨a0, rfl⟩, rfl, _⟩ | ⟨b, cap, rfl, h2, cc, fr, h3, h4, h5, h6, h7, h8⟩
    · exact ⟨_, 0, rfl, by simp [most]⟩
    · exact ⟨_, _, rfl, h7⟩
  obtain ⟨base, cap, e1, hm⟩ := hform
  refine ⟨.int .i64 xs.length, holds_int.2 ⟨rfl, by simp only [rng, lo, Sx.hi, most] at *; omega⟩, fun w' _ => ?_⟩
  obtain ⟨dst, op, ty, pos, after, guard⟩ := o
  simp only at ho; subst ho
  simp only [execOp, resolve, run_bind, run_pure, invoke, Go.builtin]
  have : #[x].map a.eval = #[a.eval x] := by simp
  rw [this, hv, e1]
  simp only [Builtin.len_, List.getElem?_toArray, List.getElem?_cons_zero, run_bind, run_underlying (Tab.slice hT hl)]
  rfl

/-! ### Literals -/
inductive EvAll (E : Env) (u : T) : Nat → List (Nat × Operand) → List u.D → Prop
  | nil {k : Nat} : EvAll E u k [] []
  | cons {k : Nat} {x : Operand} {y : u.D} {l : List (Nat × Operand)} {ys : List u.D} (h : ev E x = some (.one u y)) (r : EvAll E u (k + 1) l ys) : EvAll E u k ((k, x) :: l) (y :: ys)

theorem foldl_set : ∀ (ds : List Value) (k off : Nat) (cs : Array Value), off + k + ds.length ≤ cs.size →
    ((ds.zipIdx k).foldl (fun cs (p : Value × Nat) => cs.setIfInBounds (off + p.2) p.1) cs).toList = cs.toList.take (off + k) ++ ds ++ cs.toList.drop (off + k + ds.length)
  | [], k, off, cs, _ => by simp
  | d :: ds, k, off, cs, h => by
    simp only [List.length_cons] at h
    rw [List.zipIdx_cons, List.foldl_cons, foldl_set ds (k + 1) off _ (by simp; omega)]
    have hl : off + k < cs.toList.length := by simp; omega
    simp only [Array.toList_setIfInBounds]
    rw [← Nat.add_assoc, List.take_add_one]
    simp only [List.getElem?_set_self hl, Option.toList_some, List.take_set_of_le (Nat.le_refl _)]
    rw [List.drop_set_of_lt (by omega)]
    simp [Nat.add_assoc, Nat.add_comm, Nat.add_left_comm]

theorem fill_all {u : T} {M : Mem} {a : Act} {w : World} (c : Cfg F M n E L a w) : ∀ {l : List (Nat × Operand)} {k : Nat} {ys : List u.D}, EvAll E u k l ys → ∀ (cs : Array Value), (k + l.length) * u.size ≤ cs.size →
    ∃ ds, RepL (Rep u M) ds ys ∧ (∃ r, Instr.fill (fun i => some (i * u.size, u.size)) cs (l.map fun p => (p.1, a.eval p.2)) = some r ∧ r.toList = cs.toList.take (k * u.size) ++ ds ++ cs.toList.drop (k * u.size + ds.length))
  | _, k, _, .nil, cs, h => ⟨[], rfl, cs, rfl, by simp⟩
  | _, k, _, .cons (x := x) (y := y) (l := l) (ys := ys) hx r, cs, h => by
    have hr := (ev_ok c hx).cells
    have hsz := hr.size
    have hsz' : (a.eval x).cells.size = u.size := by simpa using hsz
    simp only [List.length_cons] at h
    have h' : (k + 1 + l.length) * u.size ≤ cs.size := by rw [show k + 1 + l.length = k + (l.length + 1) by omega]; exact h
    have e1 : (k + 1) * u.size = k * u.size + u.size := by rw [Nat.add_mul]; omega
    have h2 : (k + 1) * u.size ≤ cs.size := Nat.le_trans (Nat.mul_le_mul_right _ (by omega)) h'
    have hf := foldl_set (a.eval x).cells.toList 0 (k * u.size) cs (by rw [hsz]; omega)
    have hzip : (a.eval x).cells.zipIdx.foldl (fun cs (p : Value × Nat) => cs.setIfInBounds (k * u.size + p.2) p.1) cs = ((a.eval x).cells.toList.zipIdx 0).foldl (fun cs (p : Value × Nat) => cs.setIfInBounds (k * u.size + p.2) p.1) cs := by
      rw [← Array.foldl_toList]; simp
    generalize ((a.eval x).cells.toList.zipIdx 0).foldl (fun cs (p : Value × Nat) => cs.setIfInBounds (k * u.size + p.2) p.1) cs = cs' at hf hzip
    have hl' : cs'.size = cs.size := by
      have := congrArg List.length hf
      simp only [List.length_append, List.length_take, List.length_drop, Array.length_toList, hsz, Nat.add_zero] at this
      rw [this]; omega
    obtain ⟨ds, hds, res, hfill, hres⟩ := fill_all c r cs' (by rw [hl']; exact h')
    refine ⟨(a.eval x).cells.toList ++ ds, ⟨_, _, rfl, hr, hds⟩, res, ?_, ?_⟩
    · simp only [List.map_cons, Instr.fill]
      rw [if_neg (by rw [hsz']; simp; omega), hzip]
      exact hfill
    · rw [hres, hf, hsz, e1]
      simp only [Nat.add_zero]
      have hlen : (cs.toList.take (k * u.size) ++ (a.eval x).cells.toList).length = k * u.size + u.size := by simp [hsz']; omega
      rw [List.take_append_of_le_length (by omega), List.take_of_length_le (by omega), List.drop_append, hlen]
      rw [List.drop_of_length_le (by rw [hlen]; omega)]
      simp only [List.nil_append, List.append_assoc, List.drop_drop, List.length_append, hsz]
      congr 3
      congr 1
      omega

theorem r_lits (hT : Tb.chk P = true) {tid elem B len : Nat} {t : T} {ys : List t.D} {l : List (Nat × Operand)} {d : Nat} {ty : TypeId} {pos : String} {after : Array Edge} (hl : lk Tb.slices tid = some elem) (he : elemChk P t elem B = true) (hlen : Nat.beq l.length len = true) (hsm : Nat.ble (len * t.size) 16777216 = true) (hm : Nat.ble len 1000000 = true)
    (ha : EvAll E t 0 l ys) (hd : Nat.ble (d + 1) n = true) (g : ∀ v, Go F n ((d, .one (.raw (.slice none 0 0)) v) :: E) (Res.own v elem t ys :: L) (wpList P ops Q rest)) :
    Go F n E L (wpList P ops Q (⟨some d, .buildSlice tid len l.toArray, ty, pos, after, none⟩ :: rest)) := fun M a w c => by
  obtain ⟨ht, inf, hinf, hbytes, z, hz1, hz2⟩ := elemChk_ok he
  have hlen := Nat.eq_of_beq_eq_true hlen
  have hsm := Nat.le_of_ble_eq_true hsm
  have hys : ys.length = len := by
    have : ∀ {k : Nat} {l : List (Nat × Operand)} {ys : List t.D}, EvAll E t k l ys → ys.length = l.length := by
      intro k l ys h
      induction h with
      | nil => rfl
      | cons _ _ ih => simp [ih]
    rw [this ha, hlen]
  obtain ⟨ds, hds, r, hfill, hr⟩ := fill_all c ha ((Array.range (len * t.size)).map ((if len * t.size = 0 then (#[] : Array Value) else z.cells)[· % (if len * t.size = 0 then (#[] : Array Value) else z.cells).size]!)) (by simp [hlen])
  have hdl := RepL.length (s := t.size) (fun c x h => Rep.size h) hds
  have hr' : r = ds.toArray := by
    apply Array.toList_inj.1
    rw [hr]
    simp only [Nat.zero_mul, List.take_zero, List.nil_append, Nat.zero_add]
    rw [List.drop_of_length_le (by simp [hdl, hys])]
    simp
  have hrun : (execOp a.eval ⟨some d, .buildSlice tid len l.toArray, ty, pos, after, none⟩).run P w = .ok (.value (.slice (some ⟨w.heap.size, 0, none⟩) len len)) { w with heap := w.heap.push (.cells ds.toArray elem) } := by
    simp only [execOp]
    refine run_val ?_
    unfold Instr.buildSlice
    have hmap : (l.toArray.map fun x => match x with | (i, x) => (i, a.eval x)).toList = l.map fun p => (p.1, a.eval p.2) := by simp
    have hzv : (zeroValue elem).run P w = .ok z w := by simp only [zeroValue, run_bind, typeInfo_run hinf, hz1]; rfl
    simp only [run_bind, run_underlying (Tab.slice hT hl), run_sizeOf ht]
    rw [if_neg (by omega)]
    by_cases h0 : len * t.size = 0
    · simp only [if_pos h0] at hfill ⊢
      simp only [run_bind, run_pure, hmap, hfill]
      simp only [hr', newRow, newObj, run_bind, run_pure, Sem.run]
    · simp only [if_neg h0] at hfill ⊢
      simp only [run_bind, run_pure, hzv, hmap, hfill]
      simp only [hr', newRow, newObj, run_bind, run_pure, Sem.run]
  refine step_val (d := d) rfl (by simp [Region.wanted]) hrun (g _ M _ _ (c.put (Mem.le.refl _) (c.st.new ?_) (Nat.le_of_ble_eq_true hd) (holds_raw.2 ⟨rfl, rfl⟩)))
  refine .inr ⟨w.heap.size, len, by rw [hys], fun k => Iff.rfl, ds.toArray, (0, 0), by simp, ?_, by simp [hdl, hys], by omega, ?_, unfrozen_zero _⟩
  · have e1 : ys.length * t.size = ds.length := hdl.symm
    rw [e1]
    simpa using hds
  · have := Nat.le_of_ble_eq_true hm
    simp only [most]; omega
end
end Sx
