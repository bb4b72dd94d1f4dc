/-
  Own work. The rules: from what is told of a call's state to the end of its code, a step at a time.
-/
import Derived.Test.YtpkjocjchkibaaaSxPure
namespace Sx
open Go

/-! ### A run of operations that only reckon -/
/-- an operation that is passed over -/
@[reducible] def skipE (n : Nat) (E : Env) (d : Nat) : Env := match Nat.ble (d + 1) n with
  | true => (d, .tup []) :: E
  | false => E.del d

@[reducible] def runPure (T : Tab) (n : Nat) (ops : Array Oper) : List Oper → Env → Option Env
  | [], E => some E
  | o :: r, E =>
    match o.guard with
    | none => (match o.dst with
      | some d => (match Nat.ble (d + 1) n with
        | true => (match pv T E o.op with | some t => runPure T n ops r ((d, t) :: E) | none => none)
        | false => none)
      | none => none)
    | some (j, want) => (match (ops[j]?).bind (·.dst) with
      | some dj => (match E.get dj with
        | some (.one .bool b) => (match b, want with
          | true, true | false, false => (match o.dst with
            | some d => (match Nat.ble (d + 1) n with
              | true => (match pv T E o.op with | some t => runPure T n ops r ((d, t) :: E) | none => none)
              | false => none)
            | none => none)
          | _, _ => (match o.dst with
            | some d => runPure T n ops r (skipE n E d)
            | none => runPure T n ops r E))
        | some (.tup []) => (match o.dst with
            | some d => runPure T n ops r (skipE n E d)
            | none => runPure T n ops r E)
        | _ => none)
      | none => none)

@[reducible] def pickE (E : Env) : List Nat → Option Env
  | [] => some []
  | i :: r => match E.get i with
    | some t => (match pickE E r with | some E' => some ((i, t) :: E') | none => none)
    | none => none

@[reducible] def seg (T : Tab) (n : Nat) (ops : Array Oper) (l : List Oper) (E : Env) (keys : List Nat) : Option Env :=
  match runPure T n ops l E with
  | some E1 => pickE E1 keys
  | none => none

theorem pickE_ok : ∀ {keys : List Nat} {E E' : Env}, pickE E keys = some E' → ∀ i t, E'.get i = some t → E.get i = some t
  | [], _, _, h, i, t, g => by simp only [pickE, Option.some.injEq] at h; subst h; simp [Env.get] at g
  | k :: r, E, E', h, i, t, g => by
    simp only [pickE] at h
    split at h
    · rename_i u hu
      split at h
      · rename_i E1 h1
        cases h
        simp only [Env.get] at g
        split at g
        · rename_i hb
          obtain rfl := Nat.eq_of_beq_eq_true hb
          rw [hu]; exact g
        · exact pickE_ok h1 i t g
      · cases h
    · cases h

section
variable {P : Program} {Tb : Tab} {F : Fr} {M : Mem} {n : Nat} {E E' : Env} {L : List Res} {ops : Array Oper} {Q : Exit → Act → World → Prop} {rest : List Oper} {o : Oper}

theorem wanted_of {a : Act} {w : World} (c : Cfg F M n E L a w) {j : Nat} {want b : Bool} (hg : o.guard = some (j, want)) {dj : Nat} (hd : (ops[j]?).bind (·.dst) = some dj) (hE : E.get dj = some (.one .bool b)) :
    Region.wanted o (yielded ops a.tmps) = (b == want) := by
  obtain ⟨v, e, hv⟩ := c.get hE
  have hv := holds_bool.1 hv
  subst hv
  unfold Region.wanted yielded
  simp only [hg, hd, Option.bind_some, e]
  cases b <;> cases want <;> rfl

theorem wanted_undef {a : Act} {w : World} (c : Cfg F M n E L a w) {j : Nat} {want : Bool} (hg : o.guard = some (j, want)) {dj : Nat} (hd : (ops[j]?).bind (·.dst) = some dj) (hE : E.get dj = some (.tup [])) :
    Region.wanted o (yielded ops a.tmps) = false := by
  obtain ⟨v, e, vs, rfl, _⟩ := c.get hE
  unfold Region.wanted yielded
  simp only [hg, hd, Option.bind_some, e]
  cases want <;> rfl

theorem Cfg.skip {a : Act} {w : World} (c : Cfg F M n E L a w) (d : Nat) : Cfg F M n (skipE n E d) L (a.put (some d) undef) w := by
  unfold skipE
  split
  · rename_i h
    exact c.put (Mem.le.refl _) c.st (Nat.le_of_ble_eq_true h) ⟨[], rfl, .nil⟩
  · exact c.void (some d) undef

theorem step_val {a : Act} {w w' : World} {d : Nat} {v : Value} (hd : o.dst = some d) (hw : Region.wanted o (yielded ops a.tmps) = true) (hr : (execOp a.eval o).run P w = .ok (.value v) w')
    (g : wpList P ops Q rest (a.put (some d) v) w') : wpList P ops Q (o :: rest) a w := by
  unfold wpList
  rw [if_pos hw]
  left
  unfold Oper.wp
  rw [hr, Oper.upon_value, hd]
  exact g

theorem step_not {a : Act} {w : World} (hw : Region.wanted o (yielded ops a.tmps) = false) (g : wpList P ops Q rest (a.put o.dst undef) w) : wpList P ops Q (o :: rest) a w := by
  unfold wpList
  rw [if_neg (by simp [hw])]
  exact g

theorem run_ok (hT : Tb.chk P = true) : ∀ {l : List Oper} {E E1 : Env}, runPure Tb n ops l E = some E1 → ∀ {a : Act} {w : World}, Cfg F M n E L a w →
    (∀ a', Cfg F M n E1 L a' w → wpList P ops Q rest a' w) → wpList P ops Q (l ++ rest) a w
  | [], E, E1, h, a, w, c, g => by simp only [runPure, Option.some.injEq] at h; subst h; exact g a c
  | o :: l, E, E1, h, a, w, c, g => by
    simp only [runPure] at h
    split at h
    · rename_i hg
      split at h
      · rename_i d hd
        split at h
        · rename_i hn
          split at h
          · rename_i t ht
            obtain ⟨v, hv, hr⟩ := pv_ok hT c ht
            exact step_val hd (by simp [Region.wanted, hg]) (hr w) (run_ok hT h (c.put (Mem.le.refl _) c.st (Nat.le_of_ble_eq_true hn) hv) g)
          · cases h
        · cases h
      · cases h
    · rename_i j want hg
      split at h
      · rename_i dj hdj
        split at h
        · rename_i b hb
          have hw := wanted_of (o := o) (ops := ops) c hg hdj hb
          split at h
          · split at h
            · rename_i d hd
              split at h
              · rename_i hn
                split at h
                · rename_i t ht
                  obtain ⟨v, hv, hr⟩ := pv_ok hT c ht
                  exact step_val hd (by rw [hw]; rfl) (hr w) (run_ok hT h (c.put (Mem.le.refl _) c.st (Nat.le_of_ble_eq_true hn) hv) g)
                · cases h
              · cases h
            · cases h
          · split at h
            · rename_i d hd
              split at h
              · rename_i hn
                split at h
                · rename_i t ht
                  obtain ⟨v, hv, hr⟩ := pv_ok hT c ht
                  exact step_val hd (by rw [hw]; rfl) (hr w) (run_ok hT h (c.put (Mem.le.refl _) c.st (Nat.le_of_ble_eq_true hn) hv) g)
                · cases h
              · cases h
            · cases h
          · have hne : Region.wanted o (yielded ops a.tmps) = false := by
              rw [hw]
              rename_i h1 h2
              cases b <;> cases want <;> first | rfl | exact absurd rfl (h1 rfl) | exact absurd rfl (h2 rfl) | simp_all
            split at h
            · rename_i d hd
              refine step_not hne ?_
              rw [hd]
              exact run_ok hT h (c.skip d) g
            · rename_i hd
              have := c.void none undef
              refine step_not hne ?_
              rw [hd]
              exact run_ok hT h this g
        · rename_i hb
          have hne := wanted_undef (o := o) (ops := ops) c hg hdj hb
          split at h
          · rename_i d hd
            refine step_not hne ?_
            rw [hd]
            exact run_ok hT h (c.skip d) g
          · rename_i hd
            have := c.void none undef
            refine step_not hne ?_
            rw [hd]
            exact run_ok hT h this g
        · cases h
      · cases h

theorem r_pure (hT : Tb.chk P = true) {l : List Oper} (k : Nat) (keys : List Nat) (h : seg Tb n ops (l.take k) E keys = some E') (g : Go F n E' L (wpList P ops Q (l.drop k))) :
    Go F n E L (wpList P ops Q l) := by
  intro M a w c
  unfold seg at h
  split at h
  · rename_i E1 h1
    rw [← List.take_append_drop k l]
    exact run_ok hT h1 c fun a' c' => g M a' w (c'.less (pickE_ok h))
  · cases h

theorem r_less (keys : List Nat) {X : Act → World → Prop} (h : pickE E keys = some E') (g : Go F n E' L X) : Go F n E L X :=
  fun M a w c => g M a w (c.less (pickE_ok h))

/-! ### Code -/
variable {c1 c2 : Code} {K : Act → World → Prop}
theorem r_seq (g : Go F n E L (c1.wp P (Exit.then (c2.wp P Q) Q))) : Go F n E L ((Code.seq c1 c2).wp P Q) := fun M a w c => wp_seq (g M a w c)
theorem r_skip (g : Go F n E L (Q .normal)) : Go F n E L (Code.skip.wp P Q) := fun M a w c => wp_skip (g M a w c)
theorem r_region {id : Nat} {l : List Oper} (g : Go F n E L (wpList P l.toArray Q l)) : Go F n E L ((Code.region id l.toArray false).wp P Q) := fun M a w c => wp_region_lit (g M a w c)
theorem r_nil (g : Go F n E L (Q .normal)) : Go F n E L (wpList P ops Q []) := fun M a w c => wpList_nil (g M a w c)
theorem r_then (g : Go F n E L K) : Go F n E L (Exit.then K Q .normal) := g
theorem r_inblock {id : Nat} (g : Go F n E L (Q .normal)) : Go F n E L (Exit.inBlock id Q .normal) := g
theorem r_block {id : Nat} (g : Go F n E L (c1.wp P (Exit.inBlock id Q))) : Go F n E L ((Code.block id c1).wp P Q) := fun M a w c => wp_block (g M a w c)
theorem r_exit {id : Nat} (g : Go F n E L (Q (.exit id))) : Go F n E L ((Code.exit id).wp P Q) := fun M a w c => wp_exit (g M a w c)
theorem r_ret (g : Go F n E L (Q .ret)) : Go F n E L (Code.ret.wp P Q) := fun M a w c => wp_ret (g M a w c)
theorem e_then {id : Nat} (g : Go F n E L (Q (.exit id))) : Go F n E L (Exit.then K Q (.exit id)) := g
theorem e_eq {id : Nat} (g : Go F n E L (Q .normal)) : Go F n E L (Exit.inBlock id Q (.exit id)) := fun M a w c => by
  show if id = id then _ else _
  rw [if_pos rfl]; exact g M a w c
theorem e_ne {id id' : Nat} (h : Nat.beq id id' = false) (g : Go F n E L (Q (.exit id))) : Go F n E L (Exit.inBlock id' Q (.exit id)) := fun M a w c => by
  show if id = id' then _ else _
  rw [if_neg (by rintro rfl; simp at h)]; exact g M a w c
theorem t_then (g : Go F n E L (Q .ret)) : Go F n E L (Exit.then K Q .ret) := g
theorem t_block {id : Nat} (g : Go F n E L (Q .ret)) : Go F n E L (Exit.inBlock id Q .ret) := g
theorem r_if {i : Nat} {b : Bool} (he : E.get i = some (.one .bool b)) (hT : b = true → Go F n E L (c1.wp P Q)) (hF : b = false → Go F n E L (c2.wp P Q)) :
    Go F n E L ((Code.cond (.tmp i) c1 c2).wp P Q) := fun M a w c => by
  obtain ⟨v, e, hv⟩ := c.get? he
  have hv := holds_bool.1 hv
  subst hv
  exact wp_cond_split e (fun h => hT h M a w c) (fun h => hF h M a w c)
theorem r_if_true {i : Nat} (he : E.get i = some (.one .bool true)) (hT : Go F n E L (c1.wp P Q)) : Go F n E L ((Code.cond (.tmp i) c1 c2).wp P Q) :=
  r_if he (fun _ => hT) (fun h => nomatch h)
theorem r_if_false {i : Nat} (he : E.get i = some (.one .bool false)) (hF : Go F n E L (c2.wp P Q)) : Go F n E L ((Code.cond (.tmp i) c1 c2).wp P Q) :=
  r_if he (fun h => nomatch h) (fun _ => hF)

open Classical in
theorem wp_loop_fuel {c : Code} (I : Nat → Act → World → Prop) (round : ∀ m a w, I m a w → c.wp P (Exit.then (fun a' w' => ∃ m', m' < m ∧ I m' a' w') Q) a w) {m : Nat} {a : Act} {w : World} (h : I m a w) :
    (Code.loop c).wp P Q a w := by
  have least : ∀ {a w}, (∃ m, I m a w) → ∃ m, I m a w ∧ ∀ m', I m' a w → m ≤ m' := by
    intro a w ⟨m, hm⟩
    induction m using Nat.strongRecOn with
    | _ m ih =>
      by_cases hh : ∃ m', m' < m ∧ I m' a w
      · obtain ⟨m', hlt, hm'⟩ := hh; exact ih m' hlt hm'
      · exact ⟨m, hm, fun m' hm' => Nat.le_of_not_lt fun hlt => hh ⟨m', hlt, hm'⟩⟩
  refine wp_loop (fun a w => ∃ m, I m a w) (fun a w => if h : ∃ m, I m a w then choose (least h) else 0) ⟨m, h⟩ ?_
  intro a w hI
  have hs := choose_spec (least hI)
  refine wp_mono (round _ a w hs.1) ?_
  intro e a' w' q
  cases e <;> first | exact q | skip
  obtain ⟨m', hlt, hm'⟩ := q
  have hI' : ∃ m, I m a' w' := ⟨m', hm'⟩
  refine ⟨hI', ?_⟩
  rw [dif_pos hI', dif_pos hI]
  have := (choose_spec (least hI')).2 m' hm'
  omega

/-- where a round of a loop ends: at its head again, with less fuel -/
def Back (F : Fr) (n : Nat) {σ ρ : Type} (S : σ → Env) (R : σ → List Res) (f : Nat → σ → Option ρ) (out : ρ) (m : Nat) (a : Act) (w : World) : Prop :=
  ∃ m' s' M, m' < m ∧ f m' s' = some out ∧ Cfg F M n (S s') (R s') a w

theorem r_loop {σ ρ : Type} (S : σ → Env) (R : σ → List Res) (f : Nat → σ → Option ρ) {out : ρ} {m : Nat} (s : σ) (hf : f m s = some out) (hE : E = S s) (hL : L = R s)
    (round : ∀ m s, f m s = some out → Go F n (S s) (R s) (c1.wp P (Exit.then (Back F n S R f out m) Q))) : Go F n E L ((Code.loop c1).wp P Q) := by
  intro M a w c
  refine wp_loop_fuel (fun m a w => ∃ s' M, f m s' = some out ∧ Cfg F M n (S s') (R s') a w) ?_ (m := m) ⟨s, M, hf, by subst hE; subst hL; exact c⟩
  rintro m a w ⟨s', M', hf', c'⟩
  refine wp_mono (round m s' hf' M' a w c') ?_
  intro e a w q
  cases e <;> first | exact q | skip
  obtain ⟨m', s'', M'', h1, h3, h4⟩ := q
  exact ⟨m', h1, s'', M'', h3, h4⟩

theorem r_back {σ ρ : Type} {S : σ → Env} {R : σ → List Res} {f : Nat → σ → Option ρ} {out : ρ} {m m' : Nat} (s : σ) (hlt : m' < m) (hf : f m' s = some out) (hE : E = S s) (hL : L = R s) :
    Go F n E L (Back F n S R f out m) := fun M a w c => ⟨m', s, M, hlt, hf, by subst hE; subst hL; exact c⟩

/-- the ways through a piece of code meet again -/
def Meet (F : Fr) (n : Nat) (E : Env) (L : List Res) (a : Act) (w : World) : Prop := ∃ M, Cfg F M n E L a w

theorem r_join (E' : Env) (L' : List Res) (h1 : Go F n E L (c1.wp P (Exit.then (Meet F n E' L') Q))) (h2 : Go F n E' L' (c2.wp P Q)) : Go F n E L ((Code.seq c1 c2).wp P Q) := by
  intro M a w c
  refine wp_seq (wp_mono (h1 M a w c) ?_)
  intro e a w q
  cases e <;> first | exact q | skip
  obtain ⟨M', c'⟩ := q
  exact h2 M' a w c'

theorem r_meet (hE : E = E') {L' : List Res} (hL : L = L') : Go F n E L (Meet F n E' L') := fun M a w c => ⟨M, by subst hE; subst hL; exact c⟩
end

/-! ### Functions -/
inductive HoldAll (M : Mem) : List TV → List Value → Prop
  | nil : HoldAll M [] []
  | cons {t : TV} {v : Value} {l : List TV} {vs : List Value} (h : t.holds M v) (r : HoldAll M l vs) : HoldAll M (t :: l) (v :: vs)

/-- how a call ends: it hands back a value that holds what is told. -/
def Post (F : Fr) (res : Value → TV) (L : Value → List Res) : Ending → World → Prop := fun e w' => ∃ v M', e = .returned v ∧ St F M' w' (L v) ∧ (res v).holds M' v

/-- what a function does. 'L': what it is handed to write; 'L'': what is left of it, and what it hands back to be written on. -/
def Fn (P : Program) (k : FuncId) (args : List TV) (L : List Res) (res : Value → TV) (L' : Value → List Res) : Prop :=
  ∀ F w vs, St F F.base w L → F.size = w.heap.size → HoldAll F.base args vs → Calls P k vs.toArray w (Post F res L')

/-- the plain case: nothing is handed over to be written -/
abbrev Pure (P : Program) (k : FuncId) (args : List TV) (res : TV) : Prop := Fn P k args [] (fun _ => res) (fun _ => [])

@[reducible] def argEnv : Nat → List TV → Env
  | _, [] => []
  | i, t :: r => (i, t) :: argEnv (i + 1) r

theorem argEnv_get {M : Mem} : ∀ {args : List TV} {vs : List Value} {k i : Nat} {t : TV}, HoldAll M args vs → (argEnv k args).get i = some t →
    ∃ j v, i = k + j ∧ vs[j]? = some v ∧ t.holds M v
  | [], _, _, _, _, _, h => by simp [Env.get] at h
  | u :: r, _ :: _, k, i, t, .cons h1 h2, h => by
    simp only [Env.get] at h
    split at h
    · rename_i hb
      cases h
      exact ⟨0, _, (Nat.eq_of_beq_eq_true hb).symm, rfl, h1⟩
    · obtain ⟨j, v, e, hv, ht⟩ := argEnv_get h2 h
      exact ⟨j + 1, v, by omega, by simpa using hv, ht⟩

theorem HoldAll.length {M : Mem} : ∀ {l : List TV} {l' : List Value}, HoldAll M l l' → l.length = l'.length
  | _, _, .nil => rfl
  | _, _, .cons _ r => by simp [r.length]

theorem enter {P : Program} {k : FuncId} {fn : Func} {body : Code} {args : List TV} {L : List Res} {res : Value → TV} {L' : Value → List Res} (hf : P.funcs[k]? = some fn) (hb : fn.body = some body) (n : Nat) (hn : fn.ntmps = n)
    (ha : Nat.ble args.length n = true) (g : ∀ F, Go F n (argEnv 0 args) L (body.wp P (bodyPost P fn (Post F res L')))) : Fn P k args L res L' := by
  intro F w vs hst hsz hargs
  refine calls_of_wp hf hb ?_
  refine g F F.base _ _ ⟨hst, rfl, ?_, ?_⟩
  · have := hargs.length
    have := Nat.le_of_ble_eq_true ha
    simp [hn]; omega
  · intro i t h
    obtain ⟨j, v, e, hv, ht⟩ := argEnv_get hargs h
    refine ⟨v, ?_, ht⟩
    have hj : j < vs.length := by
      rcases Nat.lt_or_ge j vs.length with h | h
      · exact h
      · simp [List.getElem?_eq_none h] at hv
    simp only [Nat.zero_add] at e; subst e
    have hv' : vs[i] = v := by simpa [hj] using hv
    simp [Array.getElem?_append, hj, hv']

section
variable {P : Program} {Tb : Tab} {F : Fr} {n : Nat} {E E' : Env} {L : List Res} {ops : Array Oper} {Q : Exit → Act → World → Prop} {rest : List Oper}
/-- a return of one temporary -/
theorem r_done {fn : Func} {i : Nat} (hr : fn.results = #[.tmp i]) {t : TV} (he : E.get i = some t) {res : Value → TV} {L' : Value → List Res} (h : ∀ v, res v = t) (hL : ∀ v, L' v = L) :
    Go F n E L (bodyPost P fn (Post F res L') .ret) := fun M a w c => by
  obtain ⟨v, e, hv⟩ := c.get he
  refine bodyPost_ret (results_tmp hr _ _ _) c.defers ⟨v, M, ?_, by rw [hL]; exact c.st, by rw [h]; exact hv⟩
  simp [e]

/-! ### Calls -/
def callable (P : Program) (k : Nat) : Bool := match P.funcs[k]? with
  | some fn => fn.name != "runtime.NumGoroutine" && fn.body.isSome
  | none => false

theorem run_callFunc {k : FuncId} {args : Array Value} {w : World} (h : callable P k = true) : (callFunc k args).run P w = .ok (.enter k args) w := by
  unfold callable at h
  unfold callFunc
  rw [run_bind]
  simp only [program, Sem.run]
  split at h
  · rename_i fn hf
    simp only [Bool.and_eq_true, bne_iff_ne, ne_eq] at h
    have h2 : fn.body.isNone = false := by cases hb : fn.body <;> simp_all
    simp only [hf]
    simp [h.1, h2]
  · cases h

@[reducible] def evs (E : Env) : List Operand → Option (List TV)
  | [] => some []
  | x :: r => match ev E x with
    | some t => (match evs E r with | some l => some (t :: l) | none => none)
    | none => none

theorem evs_ok {M : Mem} {a : Act} {w : World} (c : Cfg F M n E L a w) : ∀ {xs : List Operand} {l : List TV}, evs E xs = some l → HoldAll M l (xs.map a.eval)
  | [], _, h => by simp only [evs, Option.some.injEq] at h; subst h; exact .nil
  | x :: r, l, h => by
    simp only [evs] at h
    split at h
    · rename_i t ht
      split at h
      · rename_i l' hl
        cases h
        exact .cons (ev_ok c ht) (evs_ok c hl)
      · cases h
    · cases h

/-- a call: 'Lc' is what it is handed to write. -/
theorem r_call {k : FuncId} {args : List TV} {Lc Lo : List Res} {res : Value → TV} {L' : Value → List Res} (hc : Fn P k args Lc res L') (hk : callable P k = true) (hp : L.Perm (Lc ++ Lo)) {xs : List Operand} {tys : Array TypeId} {d : Nat} {ty : TypeId} {pos : String} {after : Array Edge}
    (hx : evs E xs = some args) (hd : Nat.ble (d + 1) n = true) (g : ∀ v, Go F n ((d, res v) :: E) (L' v ++ Lo) (wpList P ops Q rest)) :
    Go F n E L (wpList P ops Q (⟨some d, .call ⟨.value (.func k), xs.toArray, tys⟩, ty, pos, after, none⟩ :: rest)) := fun M a w c => by
  unfold wpList
  rw [if_pos (by simp [Region.wanted])]
  left
  unfold Oper.wp
  have hrun : (execOp a.eval ⟨some d, .call ⟨.value (.func k), xs.toArray, tys⟩, ty, pos, after, none⟩).run P w = .ok (.enter k (xs.map a.eval).toArray) w := by
    simp only [execOp, resolve, run_bind, run_pure, Act.eval, Deferred.ofValue, invoke]
    rw [run_callFunc hk]
    simp
  rw [hrun, Oper.upon_enter]
  have st := c.st.perm hp
  obtain ⟨F', hb, hs, st', hback⟩ := st.part
  have := hc F' w (xs.map a.eval) (by rw [hb]; exact st') hs (by rw [hb]; exact evs_ok c hx)
  refine this.mono ?_
  rintro e w' ⟨v, M', rfl, st2, hv⟩
  obtain ⟨hle, st3⟩ := hback _ _ _ st2
  exact g v M' _ _ (c.put hle st3 (Nat.le_of_ble_eq_true hd) hv)

/-- a call that is handed nothing to write -/
theorem r_calls {k : FuncId} {args : List TV} {res : TV} (hc : Pure P k args res) (hk : callable P k = true) {xs : List Operand} {tys : Array TypeId} {d : Nat} {ty : TypeId} {pos : String} {after : Array Edge}
    (hx : evs E xs = some args) (hd : Nat.ble (d + 1) n = true) (g : Go F n ((d, res) :: E) L (wpList P ops Q rest)) :
    Go F n E L (wpList P ops Q (⟨some d, .call ⟨.value (.func k), xs.toArray, tys⟩, ty, pos, after, none⟩ :: rest)) :=
  r_call hc hk (by simp) hx hd fun _ => g
end
end Sx
