/-
  Own work. Regions that draw their order and write: what hangs on no memory is taken first; of the rest every order.
-/
import Derived.Test.YtpkjocjchkibaaaSxMake
namespace Sx
open Go

section
variable {P : Program} {ops : Array Oper} {md : Region.Mode} {Q : Exit → Act → World → Prop}

/-- ways out other than the normal one do not look at the temporaries -/
def Blind (Q : Exit → Act → World → Prop) : Prop := ∀ ch a d v w, Q (.panic ch) (Act.put a d v) w → Q (.panic ch) a w

theorem blind_body {fn : Func} {R : Ending → World → Prop} : Blind (bodyPost P fn R) := fun ch a d v w h => by
  cases d <;> exact h
theorem blind_then {K : Act → World → Prop} (h : Blind Q) : Blind (Exit.then K Q) := fun ch a d v w g => h ch a d v w g
theorem blind_block {id : Nat} (h : Blind Q) : Blind (Exit.inBlock id Q) := fun ch a d v w g => h ch a d v w g

theorem wpOp_put {j : Nat} {oi oj : Oper} {v : Value} (hQ : Blind Q) (hj : ops[j]? = some oj) (hap : oi.apart ops oj = true) (hsj : ∀ cs b, oj.op ≠ .select cs b) {K : Act → World → Prop} {a : Act} {w : World}
    (h : wpOp P ops Q j K (a.put oi.dst v) w) : wpOp P ops Q j (fun a' w' => K (a'.put oi.dst v) w') a w := by
  obtain ⟨h1, h2, h3⟩ := Oper.apart_spec hap
  unfold wpOp at *
  simp only [hj] at *
  rw [wanted_put oj a oi.dst v h1] at h
  split
  · rename_i hw
    simp only [hw, if_true] at h
    rcases h with h | ⟨h, hl⟩
    · left
      unfold Oper.wp at *
      rw [execOp_put oj hsj a oi.dst v h1] at h
      generalize (execOp a.eval oj).run P w = r at *
      cases r with
      | ok n w' =>
        cases n <;> simp only [Oper.upon] at h ⊢
        case value u => rw [← Act.put_comm a v u h2]; exact h
        case skip => rw [← Act.put_comm a v undef h2]; exact h
        case defer d =>
          have e : (({ a with defers := d :: a.defers } : Act).put oj.dst undef).put oi.dst v = ({ a.put oi.dst v with defers := d :: (a.put oi.dst v).defers } : Act).put oj.dst undef := by
            rw [Act.put_defers]
            exact (Act.put_comm ({ a with defers := d :: a.defers } : Act) v undef h2).symm
          rw [e]; exact h
        case enter f args =>
          refine Calls.mono h fun e w'' he => ?_
          cases e with
          | returned u => simp only at he ⊢; rw [← Act.put_comm a v u h2]; exact he
          | panicked ch => exact hQ _ _ _ _ _ he
          | outgrown => exact he
        case row row args =>
          refine Rows.mono h fun u w'' he => ?_
          rw [← Act.put_comm a v u h2]; exact he
      | halt x w' =>
        cases x <;> simp only [Oper.upon] at h ⊢
        exact hQ _ _ _ _ _ h
    · right
      refine ⟨?_, hl⟩
      unfold Oper.asks at *
      rw [execOp_put oj hsj a oi.dst v h1] at h
      exact h
  · rename_i hw
    simp only [hw] at h
    rw [← Act.put_comm a v undef h2]
    exact h

/-- in every world operation 'o' leaves 'v' in its temporary and the world as it is -/
def Floats (P : Program) (ops : Array Oper) (o : Oper) (v : Value) (a : Act) : Prop :=
  (Region.wanted o (yielded ops a.tmps) = true ∧ ∀ w, (execOp a.eval o).run P w = .ok (.value v) w) ∨ (Region.wanted o (yielded ops a.tmps) = false ∧ v = undef)

theorem Floats.op {i : Nat} {o : Oper} {v : Value} {a : Act} {w : World} (hi : ops[i]? = some o) (hf : Floats P ops o v a) {K : Act → World → Prop} (h : K (a.put o.dst v) w) : wpOp P ops Q i K a w := by
  unfold wpOp
  simp only [hi]
  rcases hf with ⟨hw, hr⟩ | ⟨hw, rfl⟩
  · simp only [hw, if_true]
    left
    unfold Oper.wp
    rw [hr w]; exact h
  · simp only [hw, Bool.false_eq_true, if_false]; exact h

theorem Floats.put {oi oj : Oper} {v u : Value} {a : Act} (hap : oi.apart ops oj = true) (hsi : ∀ cs b, oi.op ≠ .select cs b) (hf : Floats P ops oi v a) : Floats P ops oi v (a.put oj.dst u) := by
  obtain ⟨_, _, h3⟩ := Oper.apart_spec hap
  unfold Floats at *
  rw [wanted_put oi a oj.dst u h3, execOp_put oi hsi a oj.dst u h3]
  exact hf

/-- what is carried along by whatever operation comes first -/
theorem wpOp_keep {j : Nat} {oj : Oper} (hj : ops[j]? = some oj) {K : Act → World → Prop} {G : Act → Prop} {a : Act} {w : World} (hG : ∀ u, G (a.put oj.dst u)) (hd : ∀ d u, G (({ a with defers := d :: a.defers } : Act).put oj.dst u)) (h : wpOp P ops Q j K a w) :
    wpOp P ops Q j (fun a' w' => G a' ∧ K a' w') a w := by
  unfold wpOp at *
  simp only [hj] at *
  split
  · rename_i hw
    simp only [hw, if_true] at h
    refine h.imp ?_ id
    intro h
    unfold Oper.wp at *
    generalize (execOp a.eval oj).run P w = r at *
    cases r with
    | ok n w' =>
      cases n <;> simp only [Oper.upon] at h ⊢
      case value => exact ⟨hG _, h⟩
      case skip => exact ⟨hG _, h⟩
      case defer => exact ⟨hd _ _, h⟩
      case enter f args =>
        refine Calls.mono h fun e w'' he => ?_
        cases e with
        | returned u => exact ⟨hG u, he⟩
        | panicked ch => exact he
        | outgrown => exact he
      case row row args => exact Rows.mono h fun u w'' he => ⟨hG u, he⟩
    | halt x w' => cases x <;> simp only [Oper.upon] at h ⊢; exact h
  · rename_i hw
    simp only [hw] at h
    exact ⟨hG _, h⟩

/-- **an operation that hangs on no memory may be taken first** -/
theorem float_first {i : Nat} {oi : Oper} {v : Value} (hQ : Blind Q) (hi : ops[i]? = some oi) (hsel : ∀ (j : Nat) (o : Oper) cs b, ops[j]? = some o → o.op ≠ .select cs b) :
    ∀ (fuel : Nat) (listed : Array Bool) (a : Act) (w : World),
      (∀ j oj, ops[j]? = some oj → j ≠ i → listed.getD j true = false → (∀ e ∈ oj.after, Region.binds md e = true → e.on ≠ i) → oi.apart ops oj = true) →
      i ∈ Region.ready md ops listed → Floats P ops oi v a →
      wpAny P md ops Q fuel (listed.setIfInBounds i true) (a.put oi.dst v) w → wpAny P md ops Q (fuel + 1) listed a w := by
  intro fuel
  induction fuel with
  | zero =>
    intro listed a w _ hr hy H
    refine ⟨fun h => (by rw [h] at hr; cases hr), fun j hj => ?_⟩
    by_cases hji : j = i
    · subst hji; exact hy.op hi H
    · have := ready_mono hj hji
      rw [H.1] at this
      cases this
  | succ fuel ih =>
    intro listed a w hfree hr hy H
    refine ⟨fun h => (by rw [h] at hr; cases hr), fun j hj => ?_⟩
    by_cases hji : j = i
    · subst hji; exact hy.op hi H
    · have h1 := H.2 j (ready_mono hj hji)
      obtain ⟨hjun, oj, hoj, hall⟩ := mem_ready.1 hj
      have hnot : ∀ e ∈ oj.after, Region.binds md e = true → e.on ≠ i := fun e he hb heq => by
        have h1 := hall e he hb
        have h0 := (mem_ready.1 hr).1
        rw [heq] at h1
        rcases Nat.lt_or_ge i listed.size with h' | h'
        · simp [h'] at h0 h1; rw [h0] at h1; cases h1
        · simp [Array.getElem?_eq_none h'] at h1
      have hap := hfree j oj hoj hji hjun hnot
      have h2 := wpOp_put hQ hoj hap (fun cs b => hsel j oj cs b hoj) h1
      have h3 := wpOp_keep (G := fun a' => Floats P ops oi v a') hoj (fun u => hy.put hap (fun cs b => hsel i oi cs b hi)) (fun d u => (show Floats P ops oi v (({ a with defers := d :: a.defers } : Act).put oj.dst u) from Floats.put (a := ({ a with defers := d :: a.defers } : Act)) hap (fun cs b => hsel i oi cs b hi) hy)) h2
      have hfree' : ∀ k ok, ops[k]? = some ok → k ≠ i → (listed.setIfInBounds j true).getD k true = false →
          (∀ e ∈ ok.after, Region.binds md e = true → e.on ≠ i) → oi.apart ops ok = true := fun k ok hk hki hun hno => by
        refine hfree k ok hk hki ?_ hno
        by_cases hjk : j = k
        · subst hjk; exact hjun
        · rw [getD_set_ne true hjk] at hun; exact hun
      refine wpOp_mono (fun a' w' h4 => ih (listed.setIfInBounds j true) a' w' hfree' (ready_mono hr (Ne.symm hji)) h4.1 ?_) h3
      rw [Array.setIfInBounds_comm _ _ hji]
      exact h4.2
end

section
variable {P : Program} {Tb : Tab} {F : Fr} {n : Nat} {E E' : Env} {L : List Res} {ops : Array Oper} {Q : Exit → Act → World → Prop} {K : Act → World → Prop}

theorem r_any {id : Nat} {l : List Oper} (hm : P.follows .mixedOrders = true) (g : Go F n E L (wpAny P .any l.toArray Q l.toArray.size (Array.replicate l.toArray.size false))) : Go F n E L ((Code.region id l.toArray true).wp P Q) :=
  fun M a _ c => wp_region_any hm (g M a _ { c with st := c.st.drew })

theorem a_end {listed : Array Bool} (hr : Region.ready .any ops listed = []) (g : Go F n E L (Q .normal)) : Go F n E L (wpAny P .any ops Q 0 listed) := fun M a w c => ⟨hr, g M a w c⟩

theorem wpOp_of_list {i : Nat} {o : Oper} (hi : ops[i]? = some o) {a : Act} {w : World} (h : wpList P ops (Exit.then K Q) [o] a w) : wpOp P ops Q i K a w := by
  unfold wpOp
  simp only [hi]
  unfold wpList at h
  split
  · rename_i hw
    simp only [hw, if_true] at h
    refine h.imp (fun h => ?_) (fun ⟨h, b, v, q⟩ => ⟨h, b, v, q⟩)
    unfold Oper.wp at *
    generalize (execOp a.eval o).run P w = r at *
    cases r with
    | ok n w' =>
      cases n <;> simp only [Oper.upon] at h ⊢ <;> first
        | exact h
        | exact Calls.mono h (fun e w'' he => by cases e <;> first | exact he | (obtain ⟨b, v, q⟩ := he; exact ⟨b, v, q⟩))
        | exact Rows.mono h (fun _ _ he => he)
    | halt x w' => cases x <;> simp only [Oper.upon] at h ⊢; exact h
  · rename_i hw
    simp only [hw] at h
    exact h

/-- one operation may come up: it is taken -/
theorem a_one {fuel i : Nat} {o : Oper} {listed : Array Bool} (hr : Region.ready .any ops listed = [i]) (hi : ops[i]? = some o) (g : Go F n E L (wpList P ops (Exit.then (wpAny P .any ops Q fuel (listed.setIfInBounds i true)) Q) [o])) :
    Go F n E L (wpAny P .any ops Q (fuel + 1) listed) := fun M a w c => by
  refine ⟨fun h => (by rw [hr] at h; cases h), fun j hj => ?_⟩
  rw [hr] at hj
  obtain rfl := List.mem_singleton.1 hj
  exact wpOp_of_list hi (g M a w c)

theorem a_two {fuel i j : Nat} {o o' : Oper} {listed : Array Bool} (hr : Region.ready .any ops listed = [i, j]) (hi : ops[i]? = some o) (hj : ops[j]? = some o') (g : Go F n E L (wpList P ops (Exit.then (wpAny P .any ops Q fuel (listed.setIfInBounds i true)) Q) [o]))
    (g' : Go F n E L (wpList P ops (Exit.then (wpAny P .any ops Q fuel (listed.setIfInBounds j true)) Q) [o'])) :
    Go F n E L (wpAny P .any ops Q (fuel + 1) listed) := fun M a w c => by
  refine ⟨fun h => (by rw [hr] at h; cases h), fun k hk => ?_⟩
  rw [hr] at hk
  rcases List.mem_cons.1 hk with rfl | hk
  · exact wpOp_of_list hi (g M a w c)
  · obtain rfl := List.mem_singleton.1 hk
    exact wpOp_of_list hj (g' M a w c)

/-- of several the one that hangs on no memory is taken first -/
theorem a_float {fuel i : Nat} {op : Op} {d : Nat} {ty : TypeId} {pos : String} {after : Array Edge} {listed : Array Bool} {t : TV} (hQ : Blind Q) (hi : ops[i]? = some ⟨some d, op, ty, pos, after, none⟩) (hs : Region.noSelect ops = true)
    (hr : (Region.ready .any ops listed).contains i = true) (hf : Region.free .any ops listed i = true) (h : Yields (fun _ _ => True) P F n E L op t) (hd : Nat.ble (d + 1) n = true)
    (g : Go F n ((d, t) :: E) L (wpAny P .any ops Q fuel (listed.setIfInBounds i true))) : Go F n E L (wpAny P .any ops Q (fuel + 1) listed) := fun M a w c => by
  obtain ⟨v, hv, hrun⟩ := h ⟨some d, op, ty, pos, after, none⟩ rfl M a w c
  refine float_first (oi := ⟨some d, op, ty, pos, after, none⟩) (v := v) hQ hi (Region.noSelect_spec hs) fuel listed a w (Region.free_spec hi hf) (by simpa using hr) (.inl ⟨by simp [Region.wanted], fun w' => hrun w' trivial⟩) ?_
  exact g M _ w (c.put (Mem.le.refl _) c.st (Nat.le_of_ble_eq_true hd) hv)
end
end Sx
