/-
  Own work. Where ways meet; loops that carry values of the call's own; words for printed functions.
-/
import Derived.Test.YtpkjocjchkibaaaSxConv
namespace Sx
open Go

/-- a value under a name -/
@[inline] def bnd {α β : Type} (a : α) (f : α → β) : β := f a
theorem bnd_eq {α β : Type} (a : α) (f : α → β) : bnd a f = f a := id rfl
theorem bind_eq {α β : Type} (a : α) (f : α → Option β) : (some a).bind f = f a := id rfl
theorem bnd_ex {α β : Type} {a : α} {f : α → β} {r : β} (h : bnd a f = r) : ∃ x, a = x ∧ f x = r := ⟨a, rfl, h⟩
theorem bind_ex {α β : Type} {o : Option α} {f : α → Option β} {r : β} (h : o.bind f = some r) : ∃ x, o = some x ∧ f x = some r := by
  cases o with
  | none => simp at h
  | some x => exact ⟨x, rfl, h⟩
theorem ite_ex {α : Type} {c : Prop} [Decidable c] {a : Option α} {r : α} (h : (if c then a else none) = some r) : c ∧ a = some r := by
  split at h
  · exact ⟨‹_›, h⟩
  · cases h

theorem ok_here {t : T} : (Pth.here : Pth t t).ok := trivial
theorem ok_fst {a b u : T} {p : Pth a u} (h : p.ok) : (Pth.fst p : Pth (.pair a b) u).ok := h
theorem ok_snd {a b u : T} {p : Pth b u} (h : p.ok) : (Pth.snd p : Pth (.pair a b) u).ok := h
theorem ok_elem {n i : Nat} {t u : T} {p : Pth t u} (h1 : i < n) (h : p.ok) : (Pth.elem i p : Pth (.arr n t) u).ok := ⟨h1, h⟩

/-- a component of several results -/
def tupv (v : Value) (i : Nat) : Value := match v with | .tuple vs => vs.getD i undef | _ => undef

section
variable {P : Program} {Tb : Tab} {F : Fr} {n : Nat} {E E' : Env} {L : List Res} {ops : Array Oper} {Q : Exit → Act → World → Prop} {rest : List Oper} {X : Act → World → Prop} {c1 c2 : Code}

/-- ways meet; γ: values of the call's own that only the memory knows -/
def MeetG (F : Fr) (n : Nat) {γ : Type} (E : γ → Env) (L : γ → List Res) (a : Act) (w : World) : Prop := ∃ g M, Cfg F M n (E g) (L g) a w

theorem r_joing {γ : Type} (E' : γ → Env) (L' : γ → List Res) (h1 : Go F n E L (c1.wp P (Exit.then (MeetG F n E' L') Q))) (h2 : ∀ g, Go F n (E' g) (L' g) (c2.wp P Q)) : Go F n E L ((Code.seq c1 c2).wp P Q) := by
  intro M a w c
  refine wp_seq (wp_mono (h1 M a w c) ?_)
  intro e a w q
  cases e <;> first | exact q | skip
  obtain ⟨g, M', c'⟩ := q
  exact h2 g M' a w c'

theorem r_meetg {γ : Type} (g : γ) {E' : γ → Env} {L' : γ → List Res} (hE : E = E' g) (hL : L = L' g) : Go F n E L (MeetG F n E' L') := fun M a w c => ⟨g, M, by subst hE; subst hL; exact c⟩

/-- ways meet, and what follows is a function of what they bring -/
def MeetK (F : Fr) (n : Nat) {σ γ ρ : Type} (E : σ → γ → Env) (L : σ → γ → List Res) (k : σ → Option ρ) (r : ρ) (a : Act) (w : World) : Prop := ∃ s g M, k s = some r ∧ Cfg F M n (E s g) (L s g) a w

theorem r_joink {σ γ ρ : Type} (E' : σ → γ → Env) (L' : σ → γ → List Res) (k : σ → Option ρ) (r : ρ) (h1 : Go F n E L (c1.wp P (Exit.then (MeetK F n E' L' k r) Q))) (h2 : ∀ s g, k s = some r → Go F n (E' s g) (L' s g) (c2.wp P Q)) :
    Go F n E L ((Code.seq c1 c2).wp P Q) := by
  intro M a w c
  refine wp_seq (wp_mono (h1 M a w c) ?_)
  intro e a w q
  cases e <;> first | exact q | skip
  obtain ⟨s, g, M', hk, c'⟩ := q
  exact h2 s g hk M' a w c'

theorem r_meetk {σ γ ρ : Type} (s : σ) (g : γ) {E' : σ → γ → Env} {L' : σ → γ → List Res} {k : σ → Option ρ} {r : ρ} (hk : k s = some r) (hE : E = E' s g) (hL : L = L' s g) : Go F n E L (MeetK F n E' L' k r) := fun M a w c => ⟨s, g, M, hk, by subst hE; subst hL; exact c⟩

theorem r_cutk {σ γ ρ : Type} (E' : σ → γ → Env) (L' : σ → γ → List Res) (k : σ → Option ρ) (r : ρ) (h1 : Go F n E L (c1.wp P (Exit.then (MeetK F n E' L' k r) Q))) (h2 : ∀ s g, k s = some r → Go F n (E' s g) (L' s g) (Q .normal)) :
    Go F n E L (c1.wp P Q) := by
  intro M a w c
  refine wp_mono (h1 M a w c) ?_
  intro e a w q
  cases e <;> first | exact q | skip
  obtain ⟨s, g, M', hk, c'⟩ := q
  exact h2 s g hk M' a w c'

/-- where a round ends -/
def BackG (F : Fr) (n : Nat) {σ γ ρ : Type} (S : σ → γ → Env) (R : σ → γ → List Res) (f : Nat → σ → Option ρ) (out : ρ) (m : Nat) (a : Act) (w : World) : Prop :=
  ∃ m' s' g M, m' < m ∧ f m' s' = some out ∧ Cfg F M n (S s' g) (R s' g) a w

theorem r_loopg {σ γ ρ : Type} (S : σ → γ → Env) (R : σ → γ → List Res) (f : Nat → σ → Option ρ) {out : ρ} {m : Nat} (s : σ) (g : γ) (hf : f m s = some out) (hE : E = S s g) (hL : L = R s g)
    (round : ∀ m s g, f m s = some out → Go F n (S s g) (R s g) (c1.wp P (Exit.then (BackG F n S R f out m) Q))) : Go F n E L ((Code.loop c1).wp P Q) := by
  intro M a w c
  refine wp_loop_fuel (fun m a w => ∃ s' g M, f m s' = some out ∧ Cfg F M n (S s' g) (R s' g) a w) ?_ (m := m) ⟨s, g, M, hf, by subst hE; subst hL; exact c⟩
  rintro m a w ⟨s', g', M', hf', c'⟩
  refine wp_mono (round m s' g' hf' M' a w c') ?_
  intro e a w q
  cases e <;> first | exact q | skip
  obtain ⟨m', s'', g'', M'', h1, h3, h4⟩ := q
  exact ⟨m', h1, s'', g'', M'', h3, h4⟩

theorem r_backg {σ γ ρ : Type} {S : σ → γ → Env} {R : σ → γ → List Res} {f : Nat → σ → Option ρ} {out : ρ} {m m' : Nat} (s : σ) (g : γ) (hlt : m' < m) (hf : f m' s = some out) (hE : E = S s g) (hL : L = R s g) :
    Go F n E L (BackG F n S R f out m) := fun M a w c => ⟨m', s, g, M, hlt, hf, by subst hE; subst hL; exact c⟩

/-- a part of a region's operations, and the rest behind it -/
theorem list_app {l1 l2 : List Oper} {a : Act} {w : World} (h : wpList P ops (Exit.then (wpList P ops Q l2) Q) l1 a w) : wpList P ops Q (l1 ++ l2) a w := by
  induction l1 generalizing a w with
  | nil => exact h
  | cons o l1 ih =>
    rw [List.cons_append]
    unfold wpList at h ⊢
    split
    · rename_i hw
      rw [if_pos hw] at h
      rcases h with h | ⟨h, b, v, q⟩
      · left
        unfold Oper.wp at *
        generalize (execOp a.eval o).run P w = r at *
        cases r with
        | ok n w' =>
          cases n <;> simp only [Oper.upon] at h ⊢ <;> first
            | exact ih h
            | exact Calls.mono h (fun e w'' he => by cases e <;> first | exact ih he | exact he | (obtain ⟨b, v, q⟩ := he; exact ⟨b, v, q⟩))
            | exact Rows.mono h (fun _ _ he => ih he)
        | halt x w' => cases x <;> simp only [Oper.upon] at h ⊢; exact h
      · exact .inr ⟨h, b, v, q⟩
    · rename_i hw
      rw [if_neg hw] at h
      exact ih h
theorem list_to {K K' : Act → World → Prop} (hK : ∀ a w, K a w → K' a w) {l1 : List Oper} {a : Act} {w : World} (h : wpList P ops (Exit.then K Q) l1 a w) : wpList P ops (Exit.then K' Q) l1 a w := by
  induction l1 generalizing a w with
  | nil => exact hK _ _ h
  | cons o l1 ih =>
    unfold wpList at h ⊢
    split
    · rename_i hw
      rw [if_pos hw] at h
      rcases h with h | ⟨h, b, v, q⟩
      · left
        unfold Oper.wp at *
        generalize (execOp a.eval o).run P w = r at *
        cases r with
        | ok n w' =>
          cases n <;> simp only [Oper.upon] at h ⊢ <;> first
            | exact ih h
            | exact Calls.mono h (fun e w'' he => by cases e <;> first | exact ih he | exact he | (obtain ⟨b, v, q⟩ := he; exact ⟨b, v, q⟩))
            | exact Rows.mono h (fun _ _ he => ih he)
        | halt x w' => cases x <;> simp only [Oper.upon] at h ⊢; exact h
      · exact .inr ⟨h, b, v, q⟩
    · rename_i hw
      rw [if_neg hw] at h
      exact ih h
theorem r_lsplit {γ : Type} {l : List Oper} (k : Nat) (E' : γ → Env) (L' : γ → List Res) (h1 : Go F n E L (wpList P ops (Exit.then (MeetG F n E' L') Q) (l.take k))) (h2 : ∀ g, Go F n (E' g) (L' g) (wpList P ops Q (l.drop k))) : Go F n E L (wpList P ops Q l) := by
  intro M a w c
  rw [← List.take_append_drop k l]
  exact list_app (list_to (fun a w ⟨g, M', c'⟩ => h2 g M' a w c') (h1 M a w c))
theorem r_lsplitk {σ γ ρ : Type} {l : List Oper} (k : Nat) (E' : σ → γ → Env) (L' : σ → γ → List Res) (kf : σ → Option ρ) (r : ρ) (h1 : Go F n E L (wpList P ops (Exit.then (MeetK F n E' L' kf r) Q) (l.take k)))
    (h2 : ∀ s g, kf s = some r → Go F n (E' s g) (L' s g) (wpList P ops Q (l.drop k))) : Go F n E L (wpList P ops Q l) := by
  intro M a w c
  rw [← List.take_append_drop k l]
  exact list_app (list_to (fun a w ⟨s, g, M', hk, c'⟩ => h2 s g hk M' a w c') (h1 M a w c))

theorem r_lnil (g : Go F n E L (Q .normal)) : Go F n E L (wpList P ops Q []) := r_nil g

/-- a guarded operation that is wanted -/
theorem r_guard {dst : Option Tmp} {op : Op} {ty : TypeId} {pos : String} {after : Array Edge} {j dj : Nat} {want : Bool} (hd : (ops[j]?).bind (·.dst) = some dj) (hE : E.get dj = some (.one .bool want))
    (g : Go F n E L (wpList P ops Q (⟨dst, op, ty, pos, after, none⟩ :: rest))) : Go F n E L (wpList P ops Q (⟨dst, op, ty, pos, after, some (j, want)⟩ :: rest)) := fun M a w c => by
  have h1 : Region.wanted (⟨dst, op, ty, pos, after, some (j, want)⟩ : Oper) (yielded ops a.tmps) = true := by
    rw [wanted_of (o := ⟨dst, op, ty, pos, after, some (j, want)⟩) (ops := ops) c rfl hd hE]; simp
  have := g M a w c
  unfold wpList at this ⊢
  rw [if_pos h1]
  rw [if_pos (by simp [Region.wanted])] at this
  exact this
theorem q_guard {K : Mem → World → Act → Prop} {dst : Option Tmp} {op : Op} {ty : TypeId} {pos : String} {after : Array Edge} {j dj : Nat} {want : Bool} (hd : (ops[j]?).bind (·.dst) = some dj) (hE : E.get dj = some (.one .bool want))
    (g : QGo P ops F n E L K (⟨dst, op, ty, pos, after, none⟩ :: rest)) : QGo P ops F n E L K (⟨dst, op, ty, pos, after, some (j, want)⟩ :: rest) := fun M a w c => by
  have h1 : Region.wanted (⟨dst, op, ty, pos, after, some (j, want)⟩ : Oper) (yielded ops a.tmps) = true := by
    rw [wanted_of (o := ⟨dst, op, ty, pos, after, some (j, want)⟩) (ops := ops) c rfl hd hE]; simp
  have := g M a w c
  unfold wpQuiet at this ⊢
  rw [if_pos h1]
  rw [if_pos (by simp [Region.wanted])] at this
  exact this

/-! ### Reckoning that may panic -/
theorem y_bin {R : World → World → Prop} {op : BinOp} {x y' : Operand} {tid u : TypeId} {k k' : IntKind} {p q : Int} {t : TV} (hx : ev E x = some (.one (.int k) p)) (hy : ev E y' = some (.one (.int k') q))
    (h : ∀ M w, ∃ v, t.holds M v ∧ (binOp op tid (.int k p) (.int k' q)).run P w = .ok v w ∧ ∀ w', (binOp op tid (.int k p) (.int k' q)).run P w' = .ok v w') : Yields R P F n E L (.binOp op tid x y' u) t := fun o ho M a w c => by
  have e1 := (holds_int.1 (ev_ok c hx)).1
  have e2 := (holds_int.1 (ev_ok c hy)).1
  obtain ⟨v, hv, _, hr⟩ := h M w
  refine ⟨v, hv, fun w' _ => ?_⟩
  obtain ⟨dst, op', ty, pos, after, guard⟩ := o
  simp only at ho; subst ho
  refine run_val ?_
  rw [e1, e2, run_bind]
  have : (eqGuard op tid x y' (.int k p) (.int k' q)).run P w' = .ok () w' := by unfold eqGuard; split <;> rfl
  rw [this]; exact hr w'

theorem y_shl {R : World → World → Prop} {x y' : Operand} {tid u : TypeId} {k k' : IntKind} {p q : Int} (hx : ev E x = some (.one (.int k) p)) (hy : ev E y' = some (.one (.int k') q)) (h : 0 ≤ q) : Yields R P F n E L (.binOp .shl tid x y' u) (.one (.int k) (ishl k p q)) :=
  y_bin hx hy fun M w => ⟨_, holds_int.2 ⟨rfl, wrap_rng _ _⟩, by simp only [binOp, Op.shift, if_neg (show ¬ q < 0 by omega)]; rfl, fun w' => by simp only [binOp, Op.shift, if_neg (show ¬ q < 0 by omega)]; rfl⟩
theorem y_shr {R : World → World → Prop} {x y' : Operand} {tid u : TypeId} {k k' : IntKind} {p q : Int} (hx : ev E x = some (.one (.int k) p)) (hy : ev E y' = some (.one (.int k') q)) (h : 0 ≤ q) : Yields R P F n E L (.binOp .shr tid x y' u) (.one (.int k) (ishr k p q)) := fun o ho M a w c =>
  y_bin (t := .one (.int k) (ishr k p q)) hx hy (fun M w => ⟨.int k (ishr k p q), holds_int.2 ⟨rfl, shr_rng (holds_int.1 (ev_ok c hx)).2⟩, by simp only [binOp, Op.shift, if_neg (show ¬ q < 0 by omega)]; rfl, fun w' => by simp only [binOp, Op.shift, if_neg (show ¬ q < 0 by omega)]; rfl⟩) o ho M a w c
theorem y_quo {R : World → World → Prop} {x y' : Operand} {tid u : TypeId} {k : IntKind} {p q : Int} (hx : ev E x = some (.one (.int k) p)) (hy : ev E y' = some (.one (.int k) q)) (h : q ≠ 0) : Yields R P F n E L (.binOp .quo tid x y' u) (.one (.int k) (k.wrap (p.tdiv q))) :=
  y_bin hx hy fun M w => ⟨_, holds_int.2 ⟨rfl, wrap_rng _ _⟩, by simp only [binOp, ne_eq, not_true_eq_false, if_false, Op.intDiv, h]; rfl, fun w' => by simp only [binOp, ne_eq, not_true_eq_false, if_false, Op.intDiv, h]; rfl⟩
theorem r_rng {X : Act → World → Prop} {i : Nat} {k : IntKind} {p : Int} (h : E.get i = some (.one (.int k) p)) (g : rng k p → Go F n E L X) : Go F n E L X := fun M a w c => by
  obtain ⟨v, _, hv⟩ := c.get h
  exact g (holds_int.1 hv).2 M a w c
theorem y_rem {R : World → World → Prop} {x y' : Operand} {tid u : TypeId} {k : IntKind} {p q : Int} (hx : ev E x = some (.one (.int k) p)) (hy : ev E y' = some (.one (.int k) q)) (h : q ≠ 0) : Yields R P F n E L (.binOp .rem tid x y' u) (.one (.int k) (p.tmod q)) := fun o ho M a w c =>
  y_bin (t := .one (.int k) (p.tmod q)) hx hy (fun M w => ⟨.int k (p.tmod q), holds_int.2 ⟨rfl, tmod_rng (holds_int.1 (ev_ok c hx)).2⟩, by simp only [binOp, ne_eq, not_true_eq_false, if_false, Op.intDiv, h]; rfl, fun w' => by simp only [binOp, ne_eq, not_true_eq_false, if_false, Op.intDiv, h]; rfl⟩) o ho M a w c

theorem equalIn_bool {w : World} {d : Nat} {tid : TypeId} {p q : Bool} (hu : P.underlying tid = some .bool) : (Op.equalIn (d + 1) tid (.bool p) (.bool q)).run P w = .ok (p == q) w := by
  simp only [Op.equalIn, run_bind, run_underlying hu]
  rfl
theorem run_beq {w : World} {tid : TypeId} {p q : Bool} (hu : P.underlying tid = some .bool) : (Op.equal tid (.bool p) (.bool q)).run P w = .ok (p == q) w := by
  exact equalIn_bool (d := 9999) hu

theorem y_beq {R : World → World → Prop} {x y' : Operand} {tid u : TypeId} {p q : Bool} (hx : ev E x = some (.one .bool p)) (hy : ev E y' = some (.one .bool q)) (hu : P.underlying tid = some .bool) : Yields R P F n E L (.binOp .eql tid x y' u) (.one .bool (p == q)) := fun o ho M a w c => by
  have e1 := holds_bool.1 (ev_ok c hx)
  have e2 := holds_bool.1 (ev_ok c hy)
  refine ⟨_, holds_bool.2 rfl, fun w' _ => ?_⟩
  obtain ⟨dst, op', ty, pos, after, guard⟩ := o
  simp only at ho; subst ho
  refine run_val ?_
  rw [e1, e2, run_bind]
  have : (eqGuard .eql tid x y' (.bool p) (.bool q)).run P w' = .ok () w' := by unfold eqGuard; rfl
  rw [this]
  simp only [binOp, run_bind, run_beq hu]; rfl
theorem y_bne {R : World → World → Prop} {x y' : Operand} {tid u : TypeId} {p q : Bool} (hx : ev E x = some (.one .bool p)) (hy : ev E y' = some (.one .bool q)) (hu : P.underlying tid = some .bool) : Yields R P F n E L (.binOp .neq tid x y' u) (.one .bool (p != q)) := fun o ho M a w c => by
  have e1 := holds_bool.1 (ev_ok c hx)
  have e2 := holds_bool.1 (ev_ok c hy)
  refine ⟨_, holds_bool.2 rfl, fun w' _ => ?_⟩
  obtain ⟨dst, op', ty, pos, after, guard⟩ := o
  simp only at ho; subst ho
  refine run_val ?_
  rw [e1, e2, run_bind]
  have : (eqGuard .neq tid x y' (.bool p) (.bool q)).run P w' = .ok () w' := by unfold eqGuard; rfl
  rw [this]
  simp only [binOp, run_bind, run_beq hu]; rfl

/-- a nil slice is the empty list -/
theorem r_nilsl (k : Nat) (e : TypeId) (t : T) {z : Value} (h : E.get k = some (.one (.raw z) (.slice none 0 0))) (g : Go F n ((k, .one (.sl e t) []) :: E) L X) : Go F n E L X := fun M a w c => by
  refine g M a w { c with env := ?_ }
  intro i u hu
  simp only [Env.get] at hu
  split at hu
  · rename_i hb
    obtain rfl := Nat.eq_of_beq_eq_true hb
    cases hu
    obtain ⟨v, e1, hv⟩ := c.get h
    refine ⟨v, e1, ?_⟩
    rw [(holds_raw.1 hv).1]
    exact ⟨_, rfl, rep_slice_nil⟩
  · exact c.env i u hu
end
end Sx
