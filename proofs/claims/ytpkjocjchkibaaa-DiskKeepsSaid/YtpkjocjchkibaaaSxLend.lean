/-
  Own work. Slices of the call's own are lent to a call that only reads; pieces of slices.
-/
import Derived.Test.YtpkjocjchkibaaaSxMix
namespace Sx
open Go

/-- a call that is handed nothing to write, and may read all that is there -/
theorem St.lent {F : Fr} {M : Mem} {w : World} {L : List Res} (h : St F M w L) :
    ∃ F', F'.base = heapOf w ∧ F'.size = w.heap.size ∧ St F' (heapOf w) w [] ∧ ∀ M' w', St F' M' w' [] → St F M w' L ∧ Same w w' := by
  refine ⟨{ F with mem := heapOf w, base := heapOf w, size := w.heap.size }, rfl, rfl, ?_, ?_⟩
  · exact { os := h.os, tape := h.tape, output := h.output, size := Nat.le_refl _, elder := Mem.le.refl _, fresh := fun k o e => .inl e, frame := fun k o e => e, mem := fun k o e => e, sep := ⟨fun _ => False, fun _ h => h, fun _ h => h.elim⟩ }
  · intro M' w' h'
    have hs : Same w w' := fun k hk => by
      have := h'.frame k w.heap[k] (by simp [heapOf, hk])
      rw [this]; simp [hk]
    obtain ⟨V, s, d⟩ := h.sep
    refine ⟨?_, hs⟩
    exact { os := h'.os, tape := h'.tape, output := h'.output, size := Nat.le_trans h.size h'.size, elder := h.elder, fresh := h.fresh
            frame := fun k o e => by rw [hs k (h.flt e)]; exact h.frame k o e
            mem := fun k o e => by rw [hs k (h.lt e)]; exact h.mem k o e
            sep := ⟨V, Sep.loc (fun k hk => hs k (s.has k hk)) s, d⟩ }

theorem St.lent' {F : Fr} {M : Mem} {w : World} {L : List Res} (h : St F M w L) :
    ∃ F', F'.base = heapOf w ∧ F'.size = w.heap.size ∧ F'.mem = heapOf w ∧ St F' (heapOf w) w [] ∧ F'.os = F.os ∧ F'.tape = F.tape ∧ F'.output = F.output :=
  ⟨{ F with mem := heapOf w, base := heapOf w, size := w.heap.size }, rfl, rfl, rfl, { os := h.os, tape := h.tape, output := h.output, size := Nat.le_refl _, elder := Mem.le.refl _, fresh := fun k o e => .inl e, frame := fun k o e => e, mem := fun k o e => e, sep := ⟨fun _ => False, fun _ h => h, fun _ h => h.elim⟩ }, rfl, rfl, rfl⟩

inductive LendArgs (E : Env) (L : List Res) : List Operand → List TV → Prop
  | nil : LendArgs E L [] []
  | val {x : Operand} {t : TV} {l : List Operand} {ts : List TV} (h : ev E x = some t) (r : LendArgs E L l ts) : LendArgs E L (x :: l) (t :: ts)
  | own {x : Operand} {z v : Value} {e : TypeId} {t : T} {xs : List t.D} {l : List Operand} {ts : List TV} (i : Nat) (h : ev E x = some (.one (.raw z) v)) (hi : L[i]? = some (Res.own v e t xs)) (r : LendArgs E L l ts) :
      LendArgs E L (x :: l) (.one (.sl e t) xs :: ts)
  | mix {x : Operand} {t' t : T} {x' : t'.D} {y : t.D} {l : List Operand} {ts : List TV} (h : ev E x = some (.one t' x')) (he : Emb L t' x' t y) (r : LendArgs E L l ts) : LendArgs E L (x :: l) (.one t y :: ts)

section
variable {P : Program} {Tb : Tab} {F : Fr} {M : Mem} {n : Nat} {E E' : Env} {L : List Res} {ops : Array Oper} {Q : Exit → Act → World → Prop} {rest : List Oper}

theorem lend_holds {a : Act} {w : World} (c : Cfg F M n E L a w) : ∀ {xs : List Operand} {ts : List TV}, LendArgs E L xs ts → HoldAll (heapOf w) ts (xs.map a.eval)
  | _, _, .nil => .nil
  | _, _, .val h r => .cons (TV.mono (fun k o e => c.st.mem k o e) (ev_ok c h)) (lend_holds c r)
  | _, _, .mix h he r => .cons (emb_holds c.st he (ev_ok c h)) (lend_holds c r)
  | _, _, @LendArgs.own _ _ _ _ _ _ t _ _ _ i h hi r => by
    refine .cons ?_ (lend_holds c r)
    obtain ⟨S, hs⟩ := c.st.res hi
    have hv := (holds_raw.1 (ev_ok c h)).1
    rw [hv]
    rcases hs with ⟨⟨a0, rfl⟩, rfl, _⟩ | ⟨b, cap, rfl, h2, cc, fr, h3, h4, h5, h6, h7, h8⟩
    · exact ⟨_, rfl, rep_slice_nil⟩
    · refine ⟨_, rfl, some ⟨b, 0, none⟩, cap, rfl, h7, h6, .inr ⟨rfl, cc, _, fr, h3, ?_, ?_⟩⟩
      · have := Nat.mul_le_mul_right t.size h6
        simp only; omega
      · have hle : M.le (heapOf w) := fun k o e => c.st.mem k o e
        simpa using RepL.mono (fun _ _ r => Rep.mono hle r) h4

/-- a call that reads, of what is there, what the call owns too -/
theorem r_callw {k : FuncId} {args : List TV} {res : TV} (hc : Pure P k args res) (hk : callable P k = true) (hf : res.flat = true) {xs : List Operand} {tys : Array TypeId} {d : Nat} {ty : TypeId} {pos : String} {after : Array Edge}
    (hx : LendArgs E L xs args) (hd : Nat.ble (d + 1) n = true) (g : Go F n ((d, res) :: E) L (wpList P ops Q rest)) :
    Go F n E L (wpList P ops Q (⟨some d, .call ⟨.value (.func k), xs.toArray, tys⟩, ty, pos, after, none⟩ :: rest)) := fun M a w c => by
  unfold wpList
  rw [if_pos (by simp [Region.wanted])]
  left
  unfold Oper.wp
  rw [run_calln hk, Oper.upon_enter]
  obtain ⟨F', hb, hs, st', hback⟩ := c.st.lent
  have := hc F' w (xs.map a.eval) (by rw [hb]; exact st') hs (by rw [hb]; exact lend_holds c hx)
  refine this.mono ?_
  rintro e w' ⟨v, M', rfl, st2, hv⟩
  obtain ⟨st3, _⟩ := hback _ _ st2
  exact g M _ _ (c.put (Mem.le.refl _) st3 (Nat.le_of_ble_eq_true hd) (TV.any hf hv))

/-- a piece of a slice that nobody writes -/
theorem y_slsub {R : World → World → Prop} (hT : Tb.chk P = true) {x : Operand} {e : TypeId} {t : T} {xs : List t.D} {tid : TypeId} {l h : Option Operand} {i j : Int} (hx : ev E x = some (.one (.sl e t) xs)) (hl : optInt E 0 l = some i) (hh : optInt E xs.length h = some j)
    (h0 : 0 ≤ i) (h1 : i ≤ j) (h2 : j ≤ xs.length) (ht : lk Tb.slices tid = some e) (hc : tyChk P t e = true) : Yields R P F n E L (.slice tid x l h none) (.one (.sl e t) ((xs.take j.toNat).drop i.toNat)) := fun o ho M a w c => by
  obtain ⟨cs, e1, ad, cap, e2, hm, hcap, h4⟩ := ev_ok c hx
  have hv : a.eval x = .slice ad (List.length xs) cap := by rw [e1, e2]; rfl
  have hlen : ((xs.take j.toNat).drop i.toNat).length = j.toNat - i.toNat := by simp; omega
  have hi : i.toNat ≤ j.toNat := by omega
  have hj : j.toNat ≤ xs.length := by omega
  refine ⟨.slice (if cap = i.toNat then ad else ad.map (·.add (i.toNat * t.size))) (j.toNat - i.toNat) (cap - i.toNat), ⟨[.slice (if cap = i.toNat then ad else ad.map (·.add (i.toNat * t.size))) (j.toNat - i.toNat) (cap - i.toNat)], rfl, ?_⟩, fun w' _ => ?_⟩
  · refine ⟨_, _, by rw [hlen], by rw [hlen]; simp only [most] at *; omega, by rw [hlen]; omega, ?_⟩
    rw [hlen]
    cases ad with
    | none =>
      simp only at h4
      have : (if cap = i.toNat then (none : Option Addr) else none) = none := by split <;> rfl
      simp only [Option.map_none, this]
      omega
    | some ad =>
      by_cases hz : j.toNat - i.toNat = 0
      · split
        · rename_i hh
          exact hz
        · exact .inl hz
      · have hne : ¬ cap = i.toNat := by omega
        obtain ⟨b, off, sp⟩ := ad
        obtain ⟨e3, cc, el, fr, hmm, hs, hr⟩ := h4.resolve_left (by omega)
        simp only at e3; subst e3
        simp only at hmm hs hr
        simp only [if_neg hne, Option.map_some, add_add]
        refine .inr ⟨trivial, cc, el, fr, hmm, ?_, ?_⟩
        · have h5 : j.toNat * t.size ≤ xs.length * t.size := Nat.mul_le_mul_right t.size hj
          have e4 : i.toNat * t.size + (j.toNat - i.toNat) * t.size = j.toNat * t.size := by rw [← Nat.add_mul, Nat.add_sub_cancel' hi]
          clear h4 hr
          show off + i.toNat * t.size + (j.toNat - i.toNat) * t.size ≤ cc.size
          omega
        · have s1 := (RepL.split (s := t.size) (fun c x h => Rep.size h) j.toNat hr).1
          have s2 := (RepL.split (s := t.size) (fun c x h => Rep.size h) i.toNat s1).2
          have hle : j.toNat * t.size ≤ xs.length * t.size := Nat.mul_le_mul_right _ hj
          rw [List.take_take, Nat.min_eq_left hle, List.drop_take, List.drop_drop] at s2
          have e4 : j.toNat * t.size - i.toNat * t.size = (j.toNat - i.toNat) * t.size := (Nat.sub_mul _ _ _).symm
          rw [e4] at s2
          exact s2
  · obtain ⟨dst, op, ty, pos, after, guard⟩ := o
    simp only at ho; subst ho
    refine run_val ?_
    rw [hv]
    have hl := optInt_ok c hl
    have hh := optInt_ok c hh
    unfold Instr.sliceAt
    simp only [run_bind, run_underlying (Tab.slice hT ht)]
    unfold Instr.slice
    have hbd := run_bounds (P := P) (w := w') (isS := true) (len := xs.length) (cap := cap) hl hh h0 h1 (by omega)
    simp only [run_bind, run_underlying (Tab.slice hT ht), Option.map_none, hbd, run_sizeOf hc]
    rfl

@[reducible] def keyed (ks : List Nat) (t : TV) (E : Env) : Env := match ks with
  | [] => E
  | k :: r => (k, t) :: keyed r t E
theorem keyed_get {t : TV} : ∀ {ks : List Nat} {i : Nat} {u : TV}, (keyed ks t E).get i = some u → (i ∈ ks ∧ u = t) ∨ E.get i = some u
  | [], _, _, h => .inr h
  | k :: r, i, u, h => by
    simp only [Env.get] at h
    split at h
    · rename_i hb
      cases h
      exact .inl ⟨by rw [Nat.eq_of_beq_eq_true hb]; simp, rfl⟩
    · rcases keyed_get h with ⟨h1, h2⟩ | h
      · exact .inl ⟨by simp [h1], h2⟩
      · exact .inr h

/-- a slice that will not be written any more, whatever temporaries hold it -/
theorem r_freezes {X : Act → World → Prop} {v z : Value} {e : TypeId} {t : T} {xs : List t.D} {i : Nat} (k : Nat) (ks : List Nat) (hk : ∀ j ∈ k :: ks, E.get j = some (.one (.raw z) v)) (hi : L[i]? = some (Res.own v e t xs))
    (g : Go F n (keyed (k :: ks) (.one (.sl e t) xs) E) (L.eraseIdx i) X) : Go F n E L X := fun M a w c => by
  have h1 : ∃ M', Cfg F M' n ((k, .one (.sl e t) xs) :: E) (L.eraseIdx i) a w :=
    r_freeze (X := fun a w => ∃ M', Cfg F M' n ((k, .one (.sl e t) xs) :: E) (L.eraseIdx i) a w) (hk k (by simp)) hi (fun M' a' w' c' => ⟨M', c'⟩) M a w c
  obtain ⟨M', c'⟩ := h1
  obtain ⟨u0, hu0, hr0⟩ := c.get (hk k (by simp))
  obtain ⟨u1, hu1, hs⟩ := c'.get (show Env.get ((k, TV.one (.sl e t) xs) :: E) k = some (TV.one (.sl e t) xs) by simp [Env.get])
  have e0 : u0 = v := (holds_raw.1 hr0).1
  have e1 : u1 = v := by rw [hu0] at hu1; rw [← e0]; exact (Option.some.inj hu1).symm
  rw [e1] at hs
  refine g M' a w { c' with env := ?_ }
  intro j u hj
  rcases keyed_get hj with ⟨hm, rfl⟩ | hj2
  · obtain ⟨u2, hu2, hr2⟩ := c.get (hk j hm)
    exact ⟨u2, hu2, by rw [(holds_raw.1 hr2).1]; exact hs⟩
  · by_cases hjk : j = k
    · subst hjk
      rw [hk j (by simp)] at hj2
      cases hj2
      exact ⟨u0, hu0, by rw [e0]; exact holds_raw.2 ⟨rfl, by have := (holds_raw.1 hr0).2; exact this⟩⟩
    · refine c'.env j u ?_
      simp only [Env.get]
      split
      · rename_i hb
        exact absurd (Nat.eq_of_beq_eq_true hb).symm hjk
      · exact hj2
end
end Sx
