/-
  Own work. Memory: variables of the call's own (structs, arrays, what is boxed), and reading what nobody writes.
-/
import Derived.Test.YtpkjocjchkibaaaSxRules
namespace Sx
open Go

/-! ### Types -/
def tyBase (P : Program) (tid size : Nat) (f : TypeDesc → Bool) : Bool :=
  match P.info? tid with
  | some i => Nat.beq i.size size && (match P.underlying tid with | some d => f d | none => false)
  | none => false

mutual
def tyChk (P : Program) : T → TypeId → Bool
  | .int k, t => tyBase P t 1 fun d => match d with | .int k' => kindEq k k' | _ => false
  | .bool, t => tyBase P t 1 fun d => match d with | .bool => true | _ => false
  | .str, t => tyBase P t 1 fun d => match d with | .string => true | _ => false
  | .raw _, t => tyBase P t 1 fun d => match d with | .struct _ | .array _ _ => false | _ => true
  | .sl e u, t => tyBase P t 1 (fun d => match d with | .slice e' => Nat.beq e e' | _ => false) && tyChk P u e
  | .unit, t => tyBase P t 0 fun d => match d with | .struct fs => fs.isEmpty | _ => false
  | .arr n u, t => tyBase P t (n * u.size) fun d => match d with | .array m e => Nat.beq n m && tyChk P u e | _ => false
  | .pair a b, t => tyBase P t (a.size + b.size) fun d => match d with
    | .struct fs => (match fs.toList with | f :: r => Nat.beq f.offset 0 && tyChk P a f.type && stChk P b r a.size | [] => false)
    | _ => false
def stChk (P : Program) : T → List Field → Nat → Bool
  | .pair a b, f :: r, off => Nat.beq f.offset off && tyChk P a f.type && stChk P b r (off + a.size)
  | .unit, [], _ => true
  | _, _, _ => false
end

section
variable {P : Program} {w : World}
theorem tyBase_info {tid size : Nat} {f : TypeDesc → Bool} (h : tyBase P tid size f = true) : ∃ i d, P.info? tid = some i ∧ i.size = size ∧ P.underlying tid = some d ∧ f d = true := by
  unfold tyBase at h
  split at h
  · rename_i i hi
    simp only [Bool.and_eq_true] at h
    obtain ⟨h1, h2⟩ := h
    split at h2
    · rename_i d hd; exact ⟨i, d, hi, Nat.eq_of_beq_eq_true h1, hd, h2⟩
    · cases h2
  · cases h

def aggD : TypeDesc → Bool
  | .struct _ | .array _ _ => true
  | _ => false

theorem tyChk_info : ∀ {t : T} {tid : Nat}, tyChk P t tid = true → ∃ i d, P.info? tid = some i ∧ i.size = t.size ∧ P.underlying tid = some d ∧ aggD d = t.isAgg := by
  intro t tid h
  cases t <;> simp only [tyChk, Bool.and_eq_true] at h
  case int k => obtain ⟨i, d, a, b, c, e⟩ := tyBase_info h; exact ⟨i, d, a, b, c, by cases d <;> first | rfl | cases e⟩
  case bool => obtain ⟨i, d, a, b, c, e⟩ := tyBase_info h; exact ⟨i, d, a, b, c, by cases d <;> first | rfl | cases e⟩
  case str => obtain ⟨i, d, a, b, c, e⟩ := tyBase_info h; exact ⟨i, d, a, b, c, by cases d <;> first | rfl | cases e⟩
  case raw z => obtain ⟨i, d, a, b, c, e⟩ := tyBase_info h; exact ⟨i, d, a, b, c, by cases d <;> first | rfl | cases e⟩
  case sl e u => obtain ⟨i, d, a, b, c, e⟩ := tyBase_info h.1; exact ⟨i, d, a, b, c, by cases d <;> first | rfl | cases e⟩
  case unit => obtain ⟨i, d, a, b, c, e⟩ := tyBase_info h; exact ⟨i, d, a, b, c, by cases d <;> first | rfl | cases e⟩
  case arr n u => obtain ⟨i, d, a, b, c, e⟩ := tyBase_info h; exact ⟨i, d, a, b, c, by cases d <;> first | rfl | cases e⟩
  case pair p q => obtain ⟨i, d, a, b, c, e⟩ := tyBase_info h; exact ⟨i, d, a, b, c, by cases d <;> first | rfl | cases e⟩

theorem run_sizeOf {t : T} {tid : Nat} (h : tyChk P t tid = true) : (Go.sizeOf tid).run P w = .ok t.size w := by
  obtain ⟨i, d, hi, hs, _⟩ := tyChk_info h
  simp only [Go.sizeOf, typeInfo, run_bind, program, Sem.run, hi]
  simp only [← hs]; rfl

theorem run_isAgg {t : T} {tid : Nat} (h : tyChk P t tid = true) : (Go.isAgg tid).run P w = .ok t.isAgg w := by
  obtain ⟨i, d, hi, hs, hd, ha⟩ := tyChk_info h
  simp only [Go.isAgg, run_bind, run_underlying hd, ← ha]
  cases d <;> rfl

/-! ### Rows of cells -/
theorem add_add (b off i : Nat) : (⟨b, off, none⟩ : Addr).add i = ⟨b, off + i, none⟩ := by
  unfold Addr.add; split
  · subst_vars; rfl
  · rfl

theorem cell_at {b off : Nat} {c : Array Value} {el : TypeId} {fr : Nat × Nat} (hb : w.heap[b]? = some (.cells c el fr)) : w.cell? ⟨b, off, none⟩ = c[off]? := by
  simp [World.cell?, hb]

theorem run_loadCells {b off : Nat} {c : Array Value} {el : TypeId} {fr : Nat × Nat} (hb : w.heap[b]? = some (.cells c el fr)) : ∀ (n i : Nat) (acc : Array Value), off + i + n ≤ c.size →
    (loadCellsFrom ⟨b, off, none⟩ i n acc).run P w = .ok (acc ++ ((c.toList.drop (off + i)).take n).toArray) w
  | 0, i, acc, _ => by simp [loadCellsFrom]
  | n + 1, i, acc, h => by
    have hlt : off + i < c.size := by omega
    simp only [loadCellsFrom, run_bind, load, add_add, Sem.run, cell_at hb, Array.getElem?_eq_getElem hlt]
    rw [run_loadCells hb n (i + 1) _ (by omega)]
    congr 1
    have hl : off + i < c.toList.length := by simpa using hlt
    rw [List.drop_eq_getElem_cons hl, ← Nat.add_assoc off i 1]
    simp

theorem run_loadVar {t : T} {tid : Nat} (h : tyChk P t tid = true) {b off : Nat} {c : Array Value} {el : TypeId} {fr : Nat × Nat} (hb : w.heap[b]? = some (.cells c el fr)) (hs : off + t.size ≤ c.size) {M : Mem} {x : t.D}
    (hr : Rep t M ((c.toList.drop off).take t.size) x) : ∃ v, (loadVar tid ⟨b, off, none⟩).run P w = .ok v w ∧ Holds t M v x := by
  refine ⟨mk t ((c.toList.drop off).take t.size), ?_, _, rfl, hr⟩
  unfold loadVar
  rw [run_bind, run_isAgg h]
  cases ha : t.isAgg with
  | true =>
    simp only [if_true, run_bind, run_sizeOf h, loadCells, run_loadCells hb t.size 0 #[] (by omega), mk, ha, Nat.add_zero]
    simp
  | false =>
    obtain ⟨v, e, _⟩ := rep_one ha hr
    simp only [Bool.false_eq_true, if_false, load, Sem.run, cell_at hb]
    have h1 : t.size = 1 := by cases t <;> first | rfl | cases ha
    have hlt : off < c.size := by omega
    simp only [mk, ha, Bool.false_eq_true, if_false]
    rw [List.drop_eq_getElem_cons (by simpa using hlt), h1]
    simp [Array.getElem?_eq_getElem hlt]

theorem all_one : ∀ {t : T} {M : Mem} {cs : List Value} {x : t.D}, Rep t M cs x → ∀ v ∈ cs, one v = true
  | .int _, _, _, _, h => by rw [h.1]; simp [one]
  | .bool, _, _, _, h => by simp only [Rep] at h; rw [h]; simp [one]
  | .str, _, _, _, h => by rw [h.1]; simp [one]
  | .unit, _, _, _, h => by simp only [Rep] at h; rw [h]; simp
  | .raw _, _, _, _, h => by rw [h.1]; simpa using h.2
  | .sl _ _, _, _, _, ⟨a, cap, e, _⟩ => by rw [e]; simp [one]
  | .pair a b, _, _, _, ⟨c1, c2, e, h1, h2⟩ => by
    rw [e]; intro v hv
    rcases List.mem_append.1 hv with g | g
    · exact all_one h1 v g
    · exact all_one h2 v g
  | .arr n t, M, cs, x, h => by
    have : ∀ {cs : List Value} {xs : List t.D}, RepL (Rep t M) cs xs → ∀ v ∈ cs, one v = true := by
      intro cs xs
      induction xs generalizing cs with
      | nil => intro h; simp only [RepL] at h; rw [h]; simp
      | cons y ys ih =>
        rintro ⟨c1, c2, e, h1, h2⟩
        rw [e]; intro v hv
        rcases List.mem_append.1 hv with g | g
        · exact all_one h1 v g
        · exact ih h2 v g
    exact this h.2

theorem repL_one {t : T} {M : Mem} : ∀ {cs : List Value} {xs : List t.D}, RepL (Rep t M) cs xs → ∀ v ∈ cs, one v = true
  | _, [], h => by simp only [RepL] at h; rw [h]; simp
  | _, y :: ys, ⟨c1, c2, e, h1, h2⟩ => by
    rw [e]; intro v hv
    rcases List.mem_append.1 hv with g | g
    · exact all_one h1 v g
    · exact repL_one h2 v g

/-- the world with block b turned -/
def setBlk (w : World) (b : Nat) (o : Obj) : World := { w with heap := w.heap.setIfInBounds b o }

theorem setCell_blk {b off : Nat} {c : Array Value} {el : TypeId} {fr : Nat × Nat} {v : Value} (hb : w.heap[b]? = some (.cells c el fr)) :
    w.setCell ⟨b, off, none⟩ v = setBlk w b (.cells (c.setIfInBounds off v) el fr) := by
  have hlt : b < w.heap.size := by
    rcases Nat.lt_or_ge b w.heap.size with g | g
    · exact g
    · simp [Array.getElem?_eq_none g] at hb
  have e : w.heap[b] = .cells c el fr := by simpa [Array.getElem?_eq_getElem hlt] using hb
  unfold World.setCell setBlk
  congr 1
  apply Array.ext (by simp)
  intro i h1 h2
  by_cases hi : b = i
  · subst hi; simp [Array.getElem_modify, e]
  · have hi' : i < w.heap.size := by simpa using h1
    rw [Array.getElem_modify, Array.getElem_setIfInBounds hi']
    simp [hi]

theorem setBlk_get {b k : Nat} {o : Obj} (h : b < w.heap.size) : (setBlk w b o).heap[k]? = if b = k then some o else w.heap[k]? := by
  simp only [setBlk, Array.getElem?_setIfInBounds]
  by_cases hk : b = k
  · simp [hk ▸ h, hk]
  · simp [hk]

theorem setBlk_setBlk {b : Nat} {o o' : Obj} : setBlk (setBlk w b o) b o' = setBlk w b o' := by
  simp [setBlk]

def unfrozen (fr : Nat × Nat) (size : Nat) : Prop := ∀ i, i < size → ¬ (fr.1 ≤ i ∧ i < fr.2)

theorem run_storeCells {b off : Nat} {el : TypeId} {fr : Nat × Nat} : ∀ (ds : List Value) (i : Nat) (c : Array Value) (w : World), w.heap[b]? = some (.cells c el fr) → off + i + ds.length ≤ c.size → unfrozen fr c.size → (∀ v ∈ ds, one v = true) →
    (storeCells ⟨b, off, none⟩ ds i).run P w = .ok () (setBlk w b (.cells (c.toList.take (off + i) ++ ds ++ c.toList.drop (off + i + ds.length)).toArray el fr))
  | [], i, c, w, hb, hs, _, _ => by
    have hlt : b < w.heap.size := by
      rcases Nat.lt_or_ge b w.heap.size with g | g
      · exact g
      · simp [Array.getElem?_eq_none g] at hb
    have e : w.heap[b] = .cells c el fr := by simpa [Array.getElem?_eq_getElem hlt] using hb
    simp only [storeCells, run_pure]
    congr 1
    simp only [setBlk, List.append_nil, List.length_nil, Nat.add_zero, List.take_append_drop, Array.toArray_toList]
    have : w.heap.setIfInBounds b (.cells c el fr) = w.heap := by
      apply Array.ext (by simp)
      intro j h1 h2
      by_cases hj : b = j
      · subst hj; simp [e]
      · rw [Array.getElem_setIfInBounds h2]
        simp [hj]
    simp only [this]
  | v :: ds, i, c, w, hb, hs, hf, ho => by
    simp only [List.length_cons] at hs
    have hlt : off + i < c.size := by omega
    have hfz : w.frozen? ⟨b, off + i, none⟩ = false := by
      simp only [World.frozen?, hb]
      have := hf (off + i) hlt
      simpa using this
    have hv := ho v (by simp)
    have hst : (store ((⟨b, off, none⟩ : Addr).add i) v).run P w = .ok () (w.setCell ⟨b, off + i, none⟩ v) := by
      rw [add_add]
      cases v <;> first | (cases hv; done) | simp [store, Sem.run, cell_at hb, hlt, hfz]
    simp only [storeCells, run_bind, hst]
    rw [setCell_blk hb]
    have hlt' : b < w.heap.size := by
      rcases Nat.lt_or_ge b w.heap.size with g | g
      · exact g
      · simp [Array.getElem?_eq_none g] at hb
    rw [run_storeCells (el := el) (fr := fr) ds (i + 1) (c.setIfInBounds (off + i) v) _ (by rw [setBlk_get hlt']; simp) (by simp; omega) (by simpa using hf) (fun u hu => ho u (by simp [hu]))]
    rw [setBlk_setBlk]
    congr 4
    simp only [Array.toList_setIfInBounds]
    have hl : off + i < c.toList.length := by simpa using hlt
    rw [← Nat.add_assoc, List.take_add_one]
    simp only [List.getElem?_set_self hl, Option.toList_some, List.take_set_of_le (Nat.le_refl _)]
    rw [List.drop_set_of_lt (by omega)]
    simp [Nat.add_assoc, Nat.add_comm, Nat.add_left_comm]

theorem run_storeVar {t : T} {tid : Nat} (h : tyChk P t tid = true) {b off : Nat} {c : Array Value} {el : TypeId} {fr : Nat × Nat} {w : World} (hb : w.heap[b]? = some (.cells c el fr)) (hs : off + t.size ≤ c.size) (hf : unfrozen fr c.size) {M : Mem} {x : t.D} {v : Value}
    (hv : Holds t M v x) : ∃ ds, Rep t M ds x ∧ (storeVar tid ⟨b, off, none⟩ v).run P w = .ok () (setBlk w b (.cells (c.toList.take off ++ ds ++ c.toList.drop (off + t.size)).toArray el fr)) := by
  have hr := hv.cells
  refine ⟨_, hr, ?_⟩
  have hl := hr.size
  unfold storeVar
  rw [run_bind, run_sizeOf h]
  have hne : ¬ v.cells.size ≠ t.size := by simpa using hl
  dsimp only
  rw [if_neg hne]
  have := run_storeCells (P := P) (el := el) (fr := fr) v.cells.toList 0 c w hb (by rw [hl]; omega) hf (all_one hr)
  simp only [Nat.add_zero, hl] at this
  simpa [run_pure] using this

theorem unfrozen_zero (n : Nat) : unfrozen (0, 0) n := fun i _ h => by simp at h

/-! ### A variable of the call's own -/
theorem heap_lt {w : World} {k : Nat} {o : Obj} (h : w.heap[k]? = some o) : k < w.heap.size := by
  rcases Nat.lt_or_ge k w.heap.size with g | g
  · exact g
  · simp [Array.getElem?_eq_none g] at h

def Res.var (b : Nat) (e : TypeId) (t : T) (x : t.D) : Res where
  sat M S w := (∀ k, S k ↔ k = b) ∧ ∃ cs : List Value, w.heap[b]? = some (.cells cs.toArray e (0, 0)) ∧ Rep t M cs x
  mono h := fun ⟨h1, cs, h2, h3⟩ => ⟨h1, cs, h2, h3.mono h⟩
  loc h := fun ⟨h1, cs, h2, h3⟩ => ⟨h1, cs, by rw [h b ((h1 b).2 rfl)]; exact h2, h3⟩
  has := fun ⟨h1, cs, h2, _⟩ k hk => by
    obtain rfl := (h1 k).1 hk
    exact heap_lt h2

variable {F : Fr} {M : Mem} {L : List Res}

/-- one of the resources, and the world off it -/
theorem St.var {b : Nat} {e : TypeId} {t : T} {x : t.D} {i : Nat} (h : St F M w L) (hi : L[i]? = some (Res.var b e t x)) : ∃ cs, w.heap[b]? = some (.cells cs.toArray e (0, 0)) ∧ Rep t M cs x := by
  obtain ⟨V, s, d⟩ := h.sep
  have : ∀ {L : List Res} {i : Nat} {V : Nat → Prop}, Sep M w L V → L[i]? = some (Res.var b e t x) → ∃ cs, w.heap[b]? = some (.cells cs.toArray e (0, 0)) ∧ Rep t M cs x := by
    intro L
    induction L with
    | nil => intro i V _ hi; simp at hi
    | cons R L ih =>
      rintro i V ⟨S, V', r, s, _, _⟩ hi
      cases i with
      | zero => simp only [List.getElem?_cons_zero, Option.some.injEq] at hi; subst hi; exact r.2
      | succ i => exact ih s (by simpa using hi)
  exact this s hi

/-- a resource is turned: its blocks stay its blocks, nothing else is touched -/
theorem Sep.turn {M M' : Mem} {w w' : World} (hM : M.le M') {R R' : Res} (hR : ∀ S, R.sat M S w → R'.sat M' S w') {B : Nat → Prop} (hB : ∀ S, R.sat M S w → ∀ k, B k → S k) (hw : ∀ k, ¬ B k → k < w.heap.size → w'.heap[k]? = w.heap[k]?) :
    ∀ {L : List Res} {i : Nat} {V : Nat → Prop}, Sep M w L V → L[i]? = some R → Sep M' w' (L.set i R') V
  | [], i, V, _, hi => by simp at hi
  | R0 :: L, 0, V, ⟨S, V', r, s, d, e⟩, hi => by
    simp only [List.getElem?_cons_zero, Option.some.injEq] at hi; subst hi
    refine ⟨S, V', hR S r, Sep.mono hM (Sep.loc (fun k hk => ?_) s), d, e⟩
    exact hw k (fun hb => d k (hB S r k hb) hk) (s.has k hk)
  | R0 :: L, i + 1, V, ⟨S, V', r, s, d, e⟩, hi => by
    have hi' : L[i]? = some R := by simpa using hi
    have key : ∀ k, B k → V' k := by
      have : ∀ {L : List Res} {i : Nat} {V : Nat → Prop}, Sep M w L V → L[i]? = some R → ∀ k, B k → V k := by
        intro L
        induction L with
        | nil => intro i V _ hi; simp at hi
        | cons R1 L ih =>
          rintro i V ⟨S, V', r, s, _, e⟩ hi k hk
          cases i with
          | zero => simp only [List.getElem?_cons_zero, Option.some.injEq] at hi; subst hi; exact (e k).2 (.inl (hB S r k hk))
          | succ i => exact (e k).2 (.inr (ih s (by simpa using hi) k hk))
      exact this s hi'
    refine ⟨S, V', R0.mono hM (R0.loc (fun k hk => ?_) r), Sep.turn hM hR hB hw s hi', d, e⟩
    exact hw k (fun hb => d k hk (key k hb)) (R0.has r k hk)

theorem St.turn {w' : World} (h : St F M w L) {R R' : Res} {i : Nat} (hi : L[i]? = some R) {B : Nat → Prop} (hR : ∀ S, R.sat M S w → R'.sat M S w') (hB : ∀ S, R.sat M S w → ∀ k, B k → S k)
    (hw : ∀ k, ¬ B k → w'.heap[k]? = w.heap[k]?) (hos : w'.os = w.os) (htape : w'.tape = w.tape) (hout : w'.output = w.output) (hsz : w.heap.size ≤ w'.heap.size) : St F M w' (L.set i R') := by
  obtain ⟨V, s, d⟩ := h.sep
  have key : ∀ k, B k → V k := by
    have : ∀ {L : List Res} {i : Nat} {V : Nat → Prop}, Sep M w L V → L[i]? = some R → ∀ k, B k → V k := by
      intro L
      induction L with
      | nil => intro i V _ hi; simp at hi
      | cons R1 L ih =>
        rintro i V ⟨S, V', r, s, _, e⟩ hi k hk
        cases i with
        | zero => simp only [List.getElem?_cons_zero, Option.some.injEq] at hi; subst hi; exact (e k).2 (.inl (hB S r k hk))
        | succ i => exact (e k).2 (.inr (ih s (by simpa using hi) k hk))
    exact this s hi
  exact {
    os := hos.trans h.os, tape := htape.trans h.tape, output := hout.trans h.output, size := Nat.le_trans h.size hsz, elder := h.elder, fresh := h.fresh
    frame := fun k o e => by
      rw [hw k (fun hb => by have := (d k (key k hb)).2; rw [this] at e; cases e)]; exact h.frame k o e
    mem := fun k o e => by
      rw [hw k (fun hb => by have := (d k (key k hb)).1; rw [this] at e; cases e)]; exact h.mem k o e
    sep := ⟨V, Sep.turn (Mem.le.refl _) hR hB (fun k hk _ => hw k hk) s hi, d⟩ }

/-- a new block -/
theorem St.new (h : St F M w L) {o : Obj} {R : Res} (hR : R.sat M (fun k => k = w.heap.size) { w with heap := w.heap.push o }) : St F M { w with heap := w.heap.push o } (R :: L) := by
  obtain ⟨V, s, d⟩ := h.sep
  have hk : ∀ k, k < w.heap.size → (w.heap.push o)[k]? = w.heap[k]? := fun k hk => by rw [Array.getElem?_push, if_neg (by omega)]
  exact {
    os := h.os, tape := h.tape, output := h.output, size := by simp; exact Nat.le_succ_of_le h.size, elder := h.elder, fresh := h.fresh
    frame := fun k ob e => by dsimp only; rw [hk k (h.flt e)]; exact h.frame k ob e
    mem := fun k ob e => by dsimp only; rw [hk k (h.lt e)]; exact h.mem k ob e
    sep := by
      refine ⟨fun k => k = w.heap.size ∨ V k, ⟨_, V, hR, Sep.loc (fun k hv => hk k (s.has k hv)) s, ?_, fun _ => Iff.rfl⟩, ?_⟩
      · rintro k rfl hv; exact absurd (s.has _ hv) (Nat.lt_irrefl _)
      · rintro k (rfl | hv)
        · constructor
          · cases hm : M w.heap.size with
            | none => rfl
            | some ob => exact absurd (h.lt hm) (Nat.lt_irrefl _)
          · cases hm : F.mem w.heap.size with
            | none => rfl
            | some ob => exact absurd (h.flt hm) (Nat.lt_irrefl _)
        · exact d k hv }

/-! ### Zeros -/
def zc : T → List Value
  | .int k => [.int k 0] | .bool => [.bool false] | .str => [.string .empty] | .unit => [] | .raw z => [z]
  | .pair a b => zc a ++ zc b | .arr n t => (List.replicate n (zc t)).flatten | .sl _ _ => [.slice none 0 0]
def zok : T → Bool
  | .raw z => one z | .pair a b => zok a && zok b | .arr _ t => zok t | _ => true

theorem rep_zero {M : Mem} : ∀ {t : T}, zok t = true → Rep t M (zc t) t.zero
  | .int k, _ => ⟨rfl, by cases k <;> exact ⟨by decide, by decide⟩⟩
  | .bool, _ => rfl
  | .str, _ => ⟨rfl, fun c hc => by simp [T.zero] at hc, by simp [T.zero, most]⟩
  | .unit, _ => rfl
  | .raw z, h => ⟨rfl, h⟩
  | .pair a b, h => by
    simp only [zok, Bool.and_eq_true] at h
    exact ⟨_, _, rfl, rep_zero h.1, rep_zero h.2⟩
  | .arr n t, h => by
    refine ⟨by simp [T.zero], ?_⟩
    simp only [zc, T.zero]
    have hz : Rep t M (zc t) t.zero := rep_zero (by simpa [zok] using h)
    clear h
    induction n with
    | zero => rfl
    | succ n ih =>
      rw [List.replicate_succ, List.replicate_succ, List.flatten_cons]
      exact ⟨_, _, rfl, hz, ih⟩
  | .sl e t, _ => ⟨none, 0, by simp [zc, T.zero], by simp [T.zero], by simp [T.zero], by simp [T.zero]⟩
end
end Sx
