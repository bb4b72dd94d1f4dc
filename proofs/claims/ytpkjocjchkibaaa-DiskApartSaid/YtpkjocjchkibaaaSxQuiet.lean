/-
  Own work. Regions that draw their order, where every operation reads or makes a quiet call.
-/
import Derived.Test.YtpkjocjchkibaaaSxOps
namespace Sx
open Go

def Cls (F : Fr) (M : Mem) (L : List Res) (w w' : World) : Prop := St F M w' L ∧ Same w w'

def QGo (P : Program) (ops : Array Oper) (F : Fr) (n : Nat) (E : Env) (L : List Res) (K : Mem → World → Act → Prop) (l : List Oper) : Prop :=
  ∀ M a w, Cfg F M n E L a w → wpQuiet P ops (Cls F M L w) (K M w) l a
/-- the region's own end -/
def qEnd (F : Fr) (L : List Res) (X : Act → World → Prop) (M : Mem) (w : World) (a : Act) : Prop := ∀ w', Cls F M L w w' → X a w'
/-- a place within the region -/
def qMeet (F : Fr) (n : Nat) (E : Env) (L : List Res) (M : Mem) (w : World) (a : Act) : Prop := Cfg F M n E L a w
def qMeetK (F : Fr) (n : Nat) {σ ρ : Type} (E : σ → Env) (L : List Res) (k : σ → Option ρ) (r : ρ) (M : Mem) (w : World) (a : Act) : Prop := ∃ s, k s = some r ∧ Cfg F M n (E s) L a w

/-- a call that is handed nothing to write, with all that is there as its frame -/
theorem St.alone {F : Fr} {M : Mem} {w : World} {L : List Res} (h : St F M w L) :
    ∃ F', F'.base = M ∧ F'.size = w.heap.size ∧ St F' M w [] ∧ ∀ M' w', St F' M' w' [] → St F M w' L ∧ Same w w' := by
  refine ⟨{ F with mem := fun k => w.heap[k]?, base := M, size := w.heap.size }, rfl, rfl, ?_, ?_⟩
  · exact { os := h.os, tape := h.tape, output := h.output, size := Nat.le_refl _, elder := Mem.le.refl _, fresh := fun k o e => .inl e, frame := fun k o e => e, mem := h.mem, sep := ⟨fun _ => False, fun _ h => h, fun _ h => h.elim⟩ }
  · intro M' w' h'
    have hs : Same w w' := fun k hk => by
      have := h'.frame k w.heap[k] (by simp [hk])
      rw [this]; simp [hk]
    obtain ⟨V, s, d⟩ := h.sep
    refine ⟨?_, hs⟩
    exact { os := h'.os, tape := h'.tape, output := h'.output, size := Nat.le_trans h.size h'.size, elder := h.elder, fresh := h.fresh
            frame := fun k o e => by rw [hs k (h.flt e)]; exact h.frame k o e
            mem := fun k o e => by rw [hs k (h.lt e)]; exact h.mem k o e
            sep := ⟨V, Sep.loc (fun k hk => hs k (s.has k hk)) s, d⟩ }

section
variable {P : Program} {Tb : Tab} {F : Fr} {n : Nat} {E E' : Env} {L : List Res} {ops : Array Oper} {Q : Exit → Act → World → Prop} {rest : List Oper} {t : TV} {X : Act → World → Prop} {K : Mem → World → Act → Prop}

theorem r_drawn {id : Nat} {l : List Oper} (hm : P.follows .mixedOrders = true) (hB : Region.lexB .any l.toArray = true) (g : QGo P l.toArray F n E L (qEnd F L (Q .normal)) l) : Go F n E L ((Code.region id l.toArray true).wp P Q) :=
  fun M a w c => wp_region_quiet (C := Cls F M L w) hm hB ⟨c.st.drew, fun _ _ => rfl⟩ (by show wpQuiet P _ _ (qEnd F L (Q .normal) M w) _ _; simpa using g M a w c)

theorem q_nil (g : Go F n E L X) : QGo P ops F n E L (qEnd F L X) [] := fun M a _ c => wpQuiet_nil fun w' h => g M a w' { c with st := h.1 }

theorem quiet_val {a : Act} {C : World → Prop} {K : Act → Prop} {o : Oper} {d : Nat} {v : Value} (hd : o.dst = some d) (hw : Region.wanted o (yielded ops a.tmps) = true) (hr : ∀ w', C w' → (execOp a.eval o).run P w' = .ok (.value v) w')
    (g : wpQuiet P ops C K rest (a.put (some d) v)) : wpQuiet P ops C K (o :: rest) a := by
  unfold wpQuiet
  rw [if_pos hw]
  refine ⟨v, fun w' hC => ?_, by rw [hd]; exact g⟩
  unfold Oper.quietAt
  rw [hr w' hC]
  exact ⟨rfl, rfl⟩

theorem quiet_not {a : Act} {C : World → Prop} {K : Act → Prop} {o : Oper} (hw : Region.wanted o (yielded ops a.tmps) = false) (g : wpQuiet P ops C K rest (a.put o.dst undef)) : wpQuiet P ops C K (o :: rest) a := by
  unfold wpQuiet
  rw [if_neg (by simp [hw])]
  exact g

theorem q_y {op : Op} (h : Yields Same P F n E L op t) {d : Nat} {ty : TypeId} {pos : String} {after : Array Edge} (hd : Nat.ble (d + 1) n = true) (g : QGo P ops F n ((d, t) :: E) L K rest) :
    QGo P ops F n E L K (⟨some d, op, ty, pos, after, none⟩ :: rest) := fun M a w c => by
  obtain ⟨v, hv, hr⟩ := h ⟨some d, op, ty, pos, after, none⟩ rfl M a w c
  exact quiet_val rfl (by simp [Region.wanted]) (fun w' hC => hr w' hC.2) (g M _ w (c.put (Mem.le.refl _) c.st (Nat.le_of_ble_eq_true hd) hv))

theorem run_okQ (hT : Tb.chk P = true) {C : World → Prop} {K : Act → Prop} : ∀ {l : List Oper} {E E1 : Env}, runPure Tb n ops l E = some E1 → ∀ {M : Mem} {a : Act} {w : World}, Cfg F M n E L a w →
    (∀ a', Cfg F M n E1 L a' w → wpQuiet P ops C K rest a') → wpQuiet P ops C K (l ++ rest) a
  | [], E, E1, h, M, a, w, c, g => by simp only [runPure, Option.some.injEq] at h; subst h; exact g a c
  | o :: l, E, E1, h, M, a, w, c, g => by
    simp only [runPure] at h
    split at h
    · rename_i hg
      split at h
      · rename_i d hd
        split at h
        · rename_i hn
          split at h
          · rename_i t ht
            obtain ⟨v, hv, hr⟩ := pv_ok hT c ht
            exact quiet_val hd (by simp [Region.wanted, hg]) (fun w' _ => hr w') (run_okQ hT h (c.put (Mem.le.refl _) c.st (Nat.le_of_ble_eq_true hn) hv) g)
          · cases h
        · cases h
      · cases h
    · rename_i j want hg
      split at h
      · rename_i dj hdj
        split at h
        · rename_i b hb
          have hw := wanted_of (o := o) (ops := ops) c hg hdj hb
          split at h
          · split at h
            · rename_i d hd
              split at h
              · rename_i hn
                split at h
                · rename_i t ht
                  obtain ⟨v, hv, hr⟩ := pv_ok hT c ht
                  exact quiet_val hd (by rw [hw]; rfl) (fun w' _ => hr w') (run_okQ hT h (c.put (Mem.le.refl _) c.st (Nat.le_of_ble_eq_true hn) hv) g)
                · cases h
              · cases h
            · cases h
          · split at h
            · rename_i d hd
              split at h
              · rename_i hn
                split at h
                · rename_i t ht
                  obtain ⟨v, hv, hr⟩ := pv_ok hT c ht
                  exact quiet_val hd (by rw [hw]; rfl) (fun w' _ => hr w') (run_okQ hT h (c.put (Mem.le.refl _) c.st (Nat.le_of_ble_eq_true hn) hv) g)
                · cases h
              · cases h
            · cases h
          · have hne : Region.wanted o (yielded ops a.tmps) = false := by
              rw [hw]
              rename_i h1 h2
              cases b <;> cases want <;> first | rfl | exact absurd rfl (h1 rfl) | exact absurd rfl (h2 rfl) | simp_all
            split at h
            · rename_i d hd
              refine quiet_not hne ?_
              rw [hd]
              exact run_okQ hT h (c.skip d) g
            · rename_i hd
              have := c.void none undef
              refine quiet_not hne ?_
              rw [hd]
              exact run_okQ hT h this g
        · rename_i hb
          have hne := wanted_undef (o := o) (ops := ops) c hg hdj hb
          split at h
          · rename_i d hd
            refine quiet_not hne ?_
            rw [hd]
            exact run_okQ hT h (c.skip d) g
          · rename_i hd
            have := c.void none undef
            refine quiet_not hne ?_
            rw [hd]
            exact run_okQ hT h this g
        · cases h
      · cases h

theorem q_pure (hT : Tb.chk P = true) {l : List Oper} (k : Nat) (keys : List Nat) (h : seg Tb n ops (l.take k) E keys = some E') (g : QGo P ops F n E' L K (l.drop k)) : QGo P ops F n E L K l := by
  intro M a w c
  unfold seg at h
  split at h
  · rename_i E1 h1
    have := run_okQ (P := P) (ops := ops) (rest := l.drop k) (C := Cls F M L w) (K := K M w) hT h1 c fun a' c' => g M a' w (c'.less (pickE_ok h))
    rwa [List.take_append_drop] at this
  · cases h

theorem run_calln {k : FuncId} (hk : callable P k = true) {xs : List Operand} {tys : Array TypeId} {dst : Option Tmp} {ty : TypeId} {pos : String} {after : Array Edge} {guard : Option (Nat × Bool)} {a : Act} {w : World} :
    (execOp a.eval ⟨dst, .call ⟨.value (.func k), xs.toArray, tys⟩, ty, pos, after, guard⟩).run P w = .ok (.enter k (xs.map a.eval).toArray) w := by
  simp only [execOp, resolve, run_bind, run_pure, Act.eval, Deferred.ofValue, invoke]
  rw [run_callFunc hk]
  simp

/-- a quiet call: what it hands back hangs on no memory -/
theorem q_calls {k : FuncId} {args : List TV} {res : TV} (hc : Pure P k args res) (hk : callable P k = true) (hf : res.flat = true) {xs : List Operand} {tys : Array TypeId} {d : Nat} {ty : TypeId} {pos : String} {after : Array Edge}
    (hx : evs E xs = some args) (hd : Nat.ble (d + 1) n = true) (g : QGo P ops F n ((d, res) :: E) L K rest) :
    QGo P ops F n E L K (⟨some d, .call ⟨.value (.func k), xs.toArray, tys⟩, ty, pos, after, none⟩ :: rest) := fun M a w c => by
  have key : ∀ w', Cls F M L w w' → Calls P k (xs.map a.eval).toArray w' fun e w'' => ∃ v M', e = .returned v ∧ res.holds M' v ∧ Cls F M L w w'' := by
    intro w' hC
    obtain ⟨F', hb, hs, st', hback⟩ := hC.1.alone
    have := hc F' w' (xs.map a.eval) (by rw [hb]; exact st') hs (by rw [hb]; exact evs_ok c hx)
    refine this.mono ?_
    rintro e w'' ⟨v, M', rfl, st2, hv⟩
    obtain ⟨st3, sm⟩ := hback _ _ st2
    refine ⟨v, M', rfl, hv, st3, fun k hk => ?_⟩
    rw [sm k (Nat.lt_of_lt_of_le hk ?_), hC.2 k hk]
    rcases Nat.lt_or_ge w'.heap.size w.heap.size with h | h
    · have h1 := hC.2 w'.heap.size h
      rw [Array.getElem?_eq_none (Nat.le_refl _), Array.getElem?_eq_getElem h] at h1
      cases h1
    · exact h
  obtain ⟨e0, w0, _, ⟨v, M0, rfl, hv, _⟩, _⟩ := key w ⟨c.st, Same.refl w⟩ []
  unfold wpQuiet
  rw [if_pos (by simp [Region.wanted])]
  refine ⟨v, fun w' hC => ?_, g M _ w (c.put (Mem.le.refl _) c.st (Nat.le_of_ble_eq_true hd) (TV.any hf hv))⟩
  unfold Oper.quietAt
  rw [run_calln hk]
  refine ⟨rfl, (key w' hC).mono ?_⟩
  rintro e w'' ⟨v', M', rfl, hv', hC'⟩
  rw [TV.unique hf hv' hv]
  exact ⟨rfl, hC'⟩

theorem quiet_app {C : World → Prop} {K : Act → Prop} : ∀ {l1 l2 : List Oper} {a : Act}, wpQuiet P ops C (fun a' => wpQuiet P ops C K l2 a') l1 a → wpQuiet P ops C K (l1 ++ l2) a
  | [], _, _, h => h
  | o :: l1, l2, a, h => by
    unfold wpQuiet at h
    rw [List.cons_append]
    unfold wpQuiet
    split
    · rename_i hw
      rw [if_pos hw] at h
      obtain ⟨v, h1, h2⟩ := h
      exact ⟨v, h1, quiet_app h2⟩
    · rename_i hw
      rw [if_neg hw] at h
      exact quiet_app h
theorem quiet_to {C : World → Prop} {K K' : Act → Prop} (hK : ∀ a, K a → K' a) : ∀ {l : List Oper} {a : Act}, wpQuiet P ops C K l a → wpQuiet P ops C K' l a
  | [], a, h => hK a h
  | o :: l, a, h => by
    unfold wpQuiet at h ⊢
    split
    · rename_i hw
      rw [if_pos hw] at h
      obtain ⟨v, h1, h2⟩ := h
      exact ⟨v, h1, quiet_to hK h2⟩
    · rename_i hw
      rw [if_neg hw] at h
      exact quiet_to hK h

theorem q_lnil (g : ∀ M a w, Cfg F M n E L a w → K M w a) : QGo P ops F n E L K [] := fun M a w c => g M a w c
theorem q_meet (hE : E = E') : ∀ M a w, Cfg F M n E L a w → qMeet F n E' L M w a := fun _ _ _ c => by subst hE; exact c
theorem q_meetk {σ ρ : Type} (s : σ) (keys : List Nat) {E2 : σ → Env} {k : σ → Option ρ} {r : ρ} (hk : k s = some r) (h : pickE E keys = some (E2 s)) : ∀ M a w, Cfg F M n E L a w → qMeetK F n E2 L k r M w a :=
  fun _ _ _ c => ⟨s, hk, c.less (pickE_ok h)⟩
theorem q_lsplit {l : List Oper} (k : Nat) (E' : Env) (h1 : QGo P ops F n E L (qMeet F n E' L) (l.take k)) (h2 : QGo P ops F n E' L K (l.drop k)) : QGo P ops F n E L K l := fun M a w c => by
  rw [← List.take_append_drop k l]
  exact quiet_app (quiet_to (fun a' c' => h2 M a' w c') (h1 M a w c))
theorem q_lsplitk {σ ρ : Type} {l : List Oper} (k : Nat) (E2 : σ → Env) (kf : σ → Option ρ) (r : ρ) (h1 : QGo P ops F n E L (qMeetK F n E2 L kf r) (l.take k)) (h2 : ∀ s, kf s = some r → QGo P ops F n (E2 s) L K (l.drop k)) : QGo P ops F n E L K l := fun M a w c => by
  rw [← List.take_append_drop k l]
  exact quiet_app (quiet_to (fun a' ⟨s, hk, c'⟩ => h2 s hk M a' w c') (h1 M a w c))
end
end Sx
