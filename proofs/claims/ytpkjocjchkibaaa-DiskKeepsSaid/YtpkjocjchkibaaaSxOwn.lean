/-
  Own work. Slices of the call's own: made, appended to, read, written, handed on; the ends of functions.
-/
import Derived.Test.YtpkjocjchkibaaaSxQuiet
import Derived.Laws.Sem
namespace Sx
open Go

def OwnAt (M : Mem) (S : Nat → Prop) (w : World) (v : Value) (e : TypeId) (t : T) (xs : List t.D) (b cap : Nat) : Prop :=
  v = .slice (some ⟨b, 0, none⟩) (List.length xs) cap ∧ (∀ k, S k ↔ k = b) ∧ ∃ (c : Array Value) (fr : Nat × Nat), w.heap[b]? = some (.cells c e fr) ∧ RepL (Rep t M) (c.toList.take (List.length xs * t.size)) xs ∧
    c.size = cap * t.size ∧ List.length xs ≤ cap ∧ List.length xs ≤ most ∧ unfrozen fr c.size

/-- a slice of the call's own: nil, or at the head of a block of its own -/
def Res.own (v : Value) (e : TypeId) (t : T) (xs : List t.D) : Res where
  sat M S w := ((∃ a, v = .slice a 0 0) ∧ xs = [] ∧ ∀ k, ¬ S k) ∨ ∃ b cap, OwnAt M S w v e t xs b cap
  mono h := fun g => g.elim .inl fun ⟨b, cap, h1, h2, c, fr, h3, h4, h5⟩ => .inr ⟨b, cap, h1, h2, c, fr, h3, RepL.mono (fun _ _ r => r.mono h) h4, h5⟩
  loc h := fun g => g.elim .inl fun ⟨b, cap, h1, h2, c, fr, h3, h4⟩ => .inr ⟨b, cap, h1, h2, c, fr, by rw [h b ((h2 b).2 rfl)]; exact h3, h4⟩
  has := fun g k hk => by
    rcases g with ⟨_, _, h⟩ | ⟨b, cap, _, h2, c, fr, h3, _⟩
    · exact absurd hk (h k)
    · obtain rfl := (h2 k).1 hk; exact heap_lt h3

section
variable {P : Program} {Tb : Tab} {F : Fr} {n : Nat} {E E' : Env} {L : List Res} {ops : Array Oper} {Q : Exit → Act → World → Prop} {rest : List Oper} {X : Act → World → Prop}

/-- a resource, wherever it stands -/
theorem St.res {M : Mem} {w : World} {R : Res} {i : Nat} (h : St F M w L) (hi : L[i]? = some R) : ∃ S, R.sat M S w := by
  obtain ⟨V, s, d⟩ := h.sep
  have : ∀ {L : List Res} {i : Nat} {V : Nat → Prop}, Sep M w L V → L[i]? = some R → ∃ S, R.sat M S w := by
    intro L
    induction L with
    | nil => intro i V _ hi; simp at hi
    | cons R L ih =>
      rintro i V ⟨S, V', r, s, _, _⟩ hi
      cases i with
      | zero => simp only [List.getElem?_cons_zero, Option.some.injEq] at hi; subst hi; exact ⟨S, r⟩
      | succ i => exact ih s (by simpa using hi)
  exact this s hi

/-- a resource that holds no block -/
theorem St.free {M : Mem} {w : World} {R : Res} (h : St F M w L) (hR : R.sat M (fun _ => False) w) : St F M w (R :: L) :=
  { h with
    sep := by
      obtain ⟨V, s, d⟩ := h.sep
      exact ⟨V, ⟨fun _ => False, V, hR, s, fun _ h => h.elim, fun k => ⟨.inr, fun h => h.elim False.elim id⟩⟩, d⟩ }

theorem r_nilown (v : Value) (hv : v = .slice none 0 0) (e : TypeId) (t : T) (g : Go F n E (Res.own v e t [] :: L) X) : Go F n E L X := fun M a w c =>
  g M a w { c with st := c.st.free (.inl ⟨⟨none, hv⟩, rfl, fun _ h => h⟩) }

/-- what is owned is forgotten -/
theorem St.lose {M : Mem} {w : World} {L' : List Res} (p : L'.Sublist L) (h : St F M w L) : St F M w L' := by
  have key : ∀ {L L' : List Res}, L'.Sublist L → ∀ {V : Nat → Prop}, Sep M w L V → ∃ V', Sep M w L' V' ∧ ∀ k, V' k → V k := by
    intro L L' p
    induction p with
    | slnil => intro V s; exact ⟨V, s, fun _ h => h⟩
    | cons R p ih =>
      rintro V ⟨S, V', r, s, d, e⟩
      obtain ⟨W, sw, hw⟩ := ih s
      exact ⟨W, sw, fun k hk => (e k).2 (.inr (hw k hk))⟩
    | cons_cons R p ih =>
      rintro V ⟨S, V', r, s, d, e⟩
      obtain ⟨W, sw, hw⟩ := ih s
      exact ⟨fun k => S k ∨ W k, ⟨S, W, r, sw, fun k hk h => d k hk (hw k h), fun _ => Iff.rfl⟩, fun k hk => (e k).2 (hk.imp id (hw k))⟩
  obtain ⟨V, s, d⟩ := h.sep
  obtain ⟨W, sw, hw⟩ := key p s
  exact { h with sep := ⟨W, sw, fun k hk => d k (hw k hk)⟩ }

@[reducible] def pickL (L : List Res) : List Nat → List Res
  | [] => []
  | i :: r => match L[i]? with | some R => R :: pickL L r | none => pickL L r

theorem r_lose {L' : List Res} (p : L'.Sublist L) (g : Go F n E L' X) : Go F n E L X := fun M a w c => g M a w { c with st := c.st.lose p }
theorem r_perm {L' : List Res} (p : L.Perm L') (g : Go F n E L' X) : Go F n E L X := fun M a w c => g M a w { c with st := c.st.perm p }

theorem rep_slice_nil {M : Mem} {e : TypeId} {t : T} {a : Option Addr} : Rep (.sl e t) M [.slice a 0 0] ([] : List t.D) := ⟨a, 0, rfl, by simp [most], by simp, by cases a with | none => exact rfl | some ad => exact .inl rfl⟩

open Classical in
/-- FREEZE: what is owned is from now on memory that nobody writes. -/
theorem r_freeze {v : Value} {z : Value} {e : TypeId} {t : T} {xs : List t.D} {i k : Nat} (hk : E.get k = some (.one (.raw z) v)) (hi : L[i]? = some (Res.own v e t xs)) (g : Go F n ((k, .one (.sl e t) xs) :: E) (L.eraseIdx i) X) : Go F n E L X := fun M a w c => by
  have key : ∀ {L : List Res} {i : Nat} {V : Nat → Prop}, Sep M w L V → L[i]? = some (Res.own v e t xs) → ∃ S V', (Res.own v e t xs).sat M S w ∧ Sep M w (L.eraseIdx i) V' ∧ (∀ k, S k → ¬ V' k) ∧ ∀ k, V k ↔ (S k ∨ V' k) := by
    intro L
    induction L with
    | nil => intro i V _ hi; simp at hi
    | cons R L ih =>
      rintro i V ⟨S, V', r, s, d, e⟩ hi
      cases i with
      | zero => simp only [List.getElem?_cons_zero, Option.some.injEq] at hi; subst hi; exact ⟨S, V', r, s, d, e⟩
      | succ i =>
        obtain ⟨S1, V1, r1, s1, d1, e1⟩ := ih s (by simpa using hi)
        refine ⟨S1, fun k => S k ∨ V1 k, r1, ⟨S, V1, r, s1, fun k hk h => d k hk ((e1 k).2 (.inr h)), fun _ => Iff.rfl⟩, ?_, ?_⟩
        · rintro k hk (h | h)
          · exact d k h ((e1 k).2 (.inl hk))
          · exact d1 k hk h
        · intro k; rw [e k, e1 k]; exact or_left_comm
  obtain ⟨V, s, d⟩ := c.st.sep
  obtain ⟨S, V', r, s', dj, ev⟩ := key s hi
  obtain ⟨u, hu, hh⟩ := c.get hk
  have hval := (holds_raw.1 hh).1
  -- the new memory
  let M' : Mem := fun k => if S k then w.heap[k]? else M k
  have hle : M.le M' := fun k o e => by
    have : ¬ S k := fun h => by have := (d k ((ev k).2 (.inl h))).1; rw [this] at e; cases e
    show (if S k then _ else _) = _
    rw [if_neg this]; exact e
  have hold : Holds (.sl e t) M' u xs := by
    rw [hval]
    rcases r with ⟨⟨a0, rfl⟩, rfl, _⟩ | ⟨b, cap, rfl, h2, cc, fr, h3, h4, h5, h6, h7, h8⟩
    · exact ⟨_, rfl, rep_slice_nil⟩
    · refine ⟨_, rfl, some ⟨b, 0, none⟩, cap, rfl, h7, h6, .inr ⟨rfl, cc, e, fr, ?_, ?_, ?_⟩⟩
      · show (if S b then _ else _) = _
        rw [if_pos ((h2 b).2 rfl)]; exact h3
      · have := Nat.mul_le_mul_right t.size h6
        simp only; omega
      · simpa using RepL.mono (fun _ _ r => Rep.mono hle r) h4
  have st' : St F M' w (L.eraseIdx i) := by
    refine { c.st with elder := c.st.elder.trans hle, fresh := ?_, mem := ?_, sep := ⟨V', Sep.mono hle s', ?_⟩ }
    · intro k o e
      by_cases hS : S k
      · exact .inr (d k ((ev k).2 (.inl hS))).2
      · have e' : M k = some o := by simpa [M', hS] using e
        exact c.st.fresh k o e'
    · intro k o e
      by_cases hS : S k
      · simpa [M', hS] using e
      · exact c.st.mem k o (by simpa [M', hS] using e)
    · intro k hk
      have hS : ¬ S k := fun h => dj k h hk
      have := d k ((ev k).2 (.inr hk))
      refine ⟨?_, this.2⟩
      show (if S k then _ else _) = _
      rw [if_neg hS]; exact this.1
  refine g M' a w ⟨st', c.defers, c.size, ?_⟩
  intro j t' hj
  simp only [Env.get] at hj
  split at hj
  · rename_i hb
    obtain rfl := Nat.eq_of_beq_eq_true hb
    cases hj
    exact ⟨u, hu, hold⟩
  · obtain ⟨x, e, hx⟩ := c.env j t' hj
    exact ⟨x, e, TV.mono hle hx⟩

/-! ### append -/
/-- what is appended -/
def Src (P : Program) (F : Fr) (n : Nat) (E : Env) (L : List Res) (x : Operand) (t : T) (ys : List t.D) : Prop :=
  ∀ M a w, Cfg F M n E L a w → ∃ ds, RepL (Rep t M) ds ys ∧ ∀ w', w'.heap = w.heap → (Builtin.lenOf (a.eval x)).run P w' = .ok (List.length ys) w' ∧
    (Builtin.firstCells t.size (List.length ys) (a.eval x)).run P w' = .ok ds.toArray w'

theorem first_nil {P : Program} {w : World} {a : Option Addr} {s : Nat} : (Builtin.firstCells s 0 (.slice a 0 0)).run P w = .ok #[] w := by
  cases a with
  | none => rfl
  | some ad => simp [Builtin.firstCells, loadCells, loadCellsFrom, run_pure]

theorem src_own {x : Operand} {z v : Value} {e : TypeId} {t : T} {ys : List t.D} (j : Nat) (hx : ev E x = some (.one (.raw z) v)) (hj : L[j]? = some (Res.own v e t ys)) : Src P F n E L x t ys := fun M a w c => by
  obtain ⟨S, hs⟩ := c.st.res hj
  have hv := (holds_raw.1 (ev_ok c hx)).1
  rw [hv]
  rcases hs with ⟨⟨a0, rfl⟩, rfl, _⟩ | ⟨b, cap, rfl, h2, cc, fr, h3, h4, h5, h6, h7, h8⟩
  · exact ⟨[], rfl, fun w' _ => ⟨rfl, first_nil⟩⟩
  · refine ⟨_, h4, fun w' hw => ⟨rfl, ?_⟩⟩
    have hm := Nat.mul_le_mul_right t.size h6
    have := run_loadCells (P := P) (w := w') (b := b) (off := 0) (c := cc) (el := e) (fr := fr) (by rw [hw]; exact h3) (List.length ys * t.size) 0 #[] (by omega)
    simp only [Builtin.firstCells, loadCells, this]
    simp

theorem src_sl {x : Operand} {e : TypeId} {t : T} {ys : List t.D} (hx : ev E x = some (.one (.sl e t) ys)) : Src P F n E L x t ys := fun M a w c => by
  obtain ⟨cs, e1, ad, cap, e2, h2, h3, h4⟩ := ev_ok c hx
  have hv : a.eval x = .slice ad (List.length ys) cap := by rw [e1, e2]; rfl
  rw [hv]
  cases ad with
  | none =>
    simp only at h4
    have : ys = [] := List.length_eq_zero_iff.1 h4
    subst this
    exact ⟨[], rfl, fun w' _ => ⟨rfl, rfl⟩⟩
  | some ad =>
    rcases h4 with h4 | h4
    · have : ys = [] := List.length_eq_zero_iff.1 h4
      subst this
      exact ⟨[], rfl, fun w' _ => ⟨rfl, by simp [Builtin.firstCells, loadCells]; rfl⟩⟩
    obtain ⟨b, off, sp⟩ := ad
    obtain ⟨e3, cc, el, fr, hm, hs, hr⟩ := h4
    simp only at e3; subst e3
    refine ⟨_, hr, fun w' hw => ⟨rfl, ?_⟩⟩
    have := run_loadCells (P := P) (w := w') (b := b) (off := off) (c := cc) (el := el) (fr := fr) (by rw [hw]; exact c.st.mem _ _ hm) (List.length ys * t.size) 0 #[] (by simp only at hs; omega)
    simp only [Builtin.firstCells, loadCells, this]
    simp

theorem repL_bytes {M : Mem} : ∀ {ys : List Int}, byteOk ys → RepL (Rep (.int .u8) M) (ys.map fun y => Value.int .u8 y) ys
  | [], _ => rfl
  | y :: ys, h => ⟨[.int .u8 y], _, rfl, ⟨rfl, by have := h y (by simp); simp only [rng, lo, hi]; omega⟩, repL_bytes fun c hc => h c (by simp [hc])⟩

theorem src_str {x : Operand} {ys : List Int} (hx : ev E x = some (.one .str ys)) : Src P F n E L x (.int .u8) ys := fun M a w c => by
  obtain ⟨e1, hb, hm⟩ := holds_str.1 (ev_ok c hx)
  rw [e1]
  refine ⟨_, repL_bytes hb, fun w' _ => ⟨by simp [Builtin.lenOf, bs_size], ?_⟩⟩
  simp only [Builtin.firstCells, run_pure]
  congr 1
  have h1 : (bs ys).extract 0 (List.length ys) = bs ys := by rw [bs_extract]; simp
  rw [h1]
  simp only [bs, List.map_toArray, List.map_map]
  congr 1
  apply List.map_congr_left
  intro c hc
  have := hb c hc
  simp only [Function.comp]
  rw [UInt8.toNat_ofNat']
  congr 1
  omega

theorem growBy_le (need : Nat) : ∀ (r c : Nat), 256 ≤ c → c < need → Builtin.growBy need r c < 2 * need
  | 0, c, _, h => by simp [Builtin.growBy]; omega
  | r + 1, c, h0, h => by
    simp only [Builtin.growBy]
    rw [if_neg (by omega)]
    by_cases hh : c + (c + 768) / 4 < need
    · exact growBy_le need r _ (by omega) hh
    · cases r with
      | zero => simp [Builtin.growBy]; omega
      | succ r => simp only [Builtin.growBy]; rw [if_pos (by omega)]; omega

theorem nextcap_le {need cap : Nat} (h : cap < need) : Builtin.nextslicecap need cap ≤ 2 * need := by
  unfold Builtin.nextslicecap
  split
  · omega
  · split
    · omega
    · exact Nat.le_of_lt (growBy_le _ _ _ (by omega) h)

theorem run_askRoom {k : Nat} {w : World} : (askRoom k).run P w = .ok () w := by
  unfold askRoom; split <;> rfl

theorem typeInfo_run {tid : TypeId} {i : TypeInfo} {w : World} (h : P.info? tid = some i) : (typeInfo tid).run P w = .ok i w := by
  simp only [typeInfo, run_bind, program, Sem.run, h]; rfl

theorem zeroCells_size (z : Array Value) (k : Nat) : (Builtin.zeroCells z k).size = k * z.size := by simp [Builtin.zeroCells]

/-- no number is the second argument's type (it is no 'append of make') -/
def noInt (P : Program) (t : TypeId) : Bool := match P.underlying t with | some (.slice _) => true | some .string => true | _ => false

theorem run_append {sT xT elem : TypeId} {t : T} {s x : Value} {base : Option Addr} {sLen sCap m B : Nat} {w : World} {ds olds : List Value} {ty : TypeId} {i : TypeInfo}
    (hu : P.underlying sT = some (.slice elem)) (ht : tyChk P t elem = true) (hx : noInt P xT = true) (hi : P.info? elem = some i) (hB : i.bytes = B) (hz : ∃ z, i.zero = some z ∧ z.cells.size = t.size) (hB1 : 1 ≤ B)
    (hs : s = .slice base sLen sCap) (hl : ∀ w', w'.heap = w.heap → (Builtin.lenOf x).run P w' = .ok m w') (hf : ∀ w', w'.heap = w.heap → (Builtin.firstCells t.size m x).run P w' = .ok ds.toArray w')
    (ho : ∀ w', w'.heap = w.heap → (Builtin.firstCells t.size sLen s).run P w' = .ok olds.toArray w') (hlen : (sLen + m) * B ≤ 140737488355328) :
    (sLen + m ≤ sCap → ∀ w', (match base with | some a => storeCells (a.add (sLen * t.size)) ds | none => pure ()).run P w = .ok () w' →
      (Builtin.append_ #[sT, xT] ty #[s, x]).run P w = .ok (.slice base (sLen + m) sCap) w') ∧
    (sCap < sLen + m → ∃ newCap zs d, sLen + m ≤ newCap ∧ zs.length = (newCap - (sLen + m)) * t.size ∧
      (Builtin.append_ #[sT, xT] ty #[s, x]).run P w = .ok (.slice (some ⟨w.heap.size, 0, none⟩) (sLen + m) newCap) { w with drawn := d, heap := w.heap.push (.cells (olds ++ ds ++ zs).toArray elem) }) := by
  obtain ⟨z, hz1, hz2⟩ := hz
  have hxu : (∃ u, P.underlying xT = some (.slice u)) ∨ P.underlying xT = some .string := by
    unfold noInt at hx
    split at hx
    · rename_i h; exact .inl ⟨_, h⟩
    · rename_i h; exact .inr h
    · cases hx
  subst hs
  have hl' := hl w rfl
  have hf' := hf w rfl
  constructor
  · intro hle w' hst
    have key : (match base with | some a => storeCells (a.add (sLen * t.size)) ds | none => pure PUnit.unit).run P w = .ok PUnit.unit w' := hst
    rcases hxu with ⟨u, hdx⟩ | hdx
    all_goals
      simp only [Builtin.append_, List.getElem?_toArray, List.getElem?_cons_zero, List.getElem?_cons_succ, run_bind, run_underlying hu, run_sizeOf ht, run_underlying hdx, run_pure, Bool.false_eq_true, if_false, hl', hle, if_true, Bool.not_false, hf']
      cases base with
      | none => simp only at key ⊢; cases key; rfl
      | some ad => simp only at key ⊢; rw [run_bind, key]; rfl
  · intro hlt
    have hnl : ¬ (sLen + m ≤ sCap) := by omega
    have hb0 : ¬ i.bytes = 0 := by omega
    have hcap := nextcap_le hlt
    have hn2 : ¬ (Builtin.nextslicecap (sLen + m) sCap * i.bytes > 2 ^ 48) := by
      have h1 := Nat.mul_le_mul_right i.bytes hcap
      have h2 : 2 * (sLen + m) * i.bytes = 2 * ((sLen + m) * i.bytes) := by rw [Nat.mul_assoc]
      rw [hB] at h1 h2 ⊢
      omega
    rcases hxu with ⟨u, hdx⟩ | hdx
    all_goals
      simp only [Builtin.append_, List.getElem?_toArray, List.getElem?_cons_zero, List.getElem?_cons_succ, run_bind, run_underlying hu, run_sizeOf ht, run_underlying hdx, run_pure, Bool.false_eq_true, if_false, hl', hnl, typeInfo_run hi, hb0, false_or, and_false, hn2, choose, Sem.run, Question.forced, Question.cut]
      generalize hnc : sLen + m + w.tape w.drawn (.appendCap (sLen + m) sCap elem) % (2 ^ 63 - (sLen + m)) = newCap
      have ho' := ho { w with drawn := w.drawn + 1 } rfl
      have hf'' := hf { w with drawn := w.drawn + 1 } rfl
      have hzv : ∀ w', (zeroValue elem).run P w' = .ok z w' := fun w' => by simp only [zeroValue, run_bind, typeInfo_run hi, hz1]; rfl
      refine ⟨newCap, (Builtin.zeroCells z.cells (newCap - (sLen + m))).toList, w.drawn + 1, by omega, by rw [Array.length_toList, zeroCells_size, hz2], ?_⟩
      have harr : olds.toArray ++ ds.toArray ++ Builtin.zeroCells z.cells (newCap - (sLen + m)) = (olds ++ ds ++ (Builtin.zeroCells z.cells (newCap - (sLen + m))).toList).toArray := by
        apply Array.toList_inj.1; simp
      simp only [run_bind, run_askRoom, ho', hf'', hzv, newRow, newObj, run_pure, Sem.run, Bool.not_false, if_true, harr]

theorem St.drewTo {M : Mem} {w : World} (d : Nat) (h : St F M w L) : St F M { w with drawn := d } L :=
  { os := h.os, tape := h.tape, output := h.output, size := h.size, elder := h.elder, fresh := h.fresh, frame := h.frame, mem := h.mem, sep := let ⟨V, s, d⟩ := h.sep; ⟨V, Sep.loc (w := w) (fun _ _ => rfl) s, d⟩ }

/-- one of the resources is another one now, with a new block -/
theorem St.renew {M : Mem} {w : World} {R R' : Res} {i : Nat} {o : Obj} (h : St F M w L) (hi : L[i]? = some R) (hR : ∀ S, R.sat M S w → R'.sat M (fun k => k = w.heap.size) { w with heap := w.heap.push o }) : St F M { w with heap := w.heap.push o } (L.set i R') := by
  have hk : ∀ k, k < w.heap.size → (w.heap.push o)[k]? = w.heap[k]? := fun k hk => by rw [Array.getElem?_push, if_neg (by omega)]
  have key : ∀ {L : List Res} {i : Nat} {V : Nat → Prop}, Sep M w L V → L[i]? = some R → ∃ V', Sep M { w with heap := w.heap.push o } (L.set i R') V' ∧ ∀ k, V' k → V k ∨ k = w.heap.size := by
    intro L
    induction L with
    | nil => intro i V _ hi; simp at hi
    | cons R1 L ih =>
      rintro i V ⟨S, V', r, s, d, e⟩ hi
      cases i with
      | zero =>
        simp only [List.getElem?_cons_zero, Option.some.injEq] at hi; subst hi
        refine ⟨fun k => k = w.heap.size ∨ V' k, ⟨_, V', hR S r, Sep.loc (fun k hv => hk k (s.has k hv)) s, ?_, fun _ => Iff.rfl⟩, ?_⟩
        · rintro k rfl hv; exact absurd (s.has _ hv) (Nat.lt_irrefl _)
        · rintro k (h | h)
          · exact .inr h
          · exact .inl ((e k).2 (.inr h))
      | succ i =>
        obtain ⟨W, sw, hw⟩ := ih s (by simpa using hi)
        refine ⟨fun k => S k ∨ W k, ⟨S, W, R1.loc (fun k hv => hk k (R1.has r k hv)) r, sw, ?_, fun _ => Iff.rfl⟩, ?_⟩
        · intro k hs hW
          rcases hw k hW with h | h
          · exact d k hs h
          · have := R1.has r k hs; omega
        · rintro k (h | h)
          · exact .inl ((e k).2 (.inl h))
          · rcases hw k h with h | h
            · exact .inl ((e k).2 (.inr h))
            · exact .inr h
  obtain ⟨V, s, d⟩ := h.sep
  obtain ⟨W, sw, hw⟩ := key s hi
  exact {
    os := h.os, tape := h.tape, output := h.output, size := by simp; exact Nat.le_succ_of_le h.size, elder := h.elder, fresh := h.fresh
    frame := fun k ob e => by dsimp only; rw [hk k (h.flt e)]; exact h.frame k ob e
    mem := fun k ob e => by dsimp only; rw [hk k (h.lt e)]; exact h.mem k ob e
    sep := by
      refine ⟨W, sw, fun k hW => ?_⟩
      rcases hw k hW with hv | rfl
      · exact d k hv
      · constructor
        · cases hm : M w.heap.size with
          | none => rfl
          | some ob => exact absurd (h.lt hm) (Nat.lt_irrefl _)
        · cases hm : F.mem w.heap.size with
          | none => rfl
          | some ob => exact absurd (h.flt hm) (Nat.lt_irrefl _) }

def elemChk (P : Program) (t : T) (elem B : Nat) : Bool := tyChk P t elem && (match P.info? elem with
  | some i => Nat.beq i.bytes B && (match i.zero with | some z => Nat.beq z.cells.size t.size | none => false)
  | none => false)

theorem elemChk_ok {t : T} {elem B : Nat} (h : elemChk P t elem B = true) : tyChk P t elem = true ∧ ∃ i, P.info? elem = some i ∧ i.bytes = B ∧ ∃ z, i.zero = some z ∧ z.cells.size = t.size := by
  simp only [elemChk, Bool.and_eq_true] at h
  refine ⟨h.1, ?_⟩
  have h2 := h.2
  split at h2
  · rename_i i hi
    simp only [Bool.and_eq_true] at h2
    obtain ⟨h3, h4⟩ := h2
    split at h4
    · rename_i z hz; exact ⟨i, hi, Nat.eq_of_beq_eq_true h3, z, hz, Nat.eq_of_beq_eq_true h4⟩
    · cases h4
  · cases h2

theorem zerosRep {t : T} {M : Mem} (ho : zok t = true) : ∀ k, RepL (Rep t M) (List.replicate k (zc t)).flatten (List.replicate k t.zero)
  | 0 => rfl
  | k + 1 => by rw [List.replicate_succ, List.replicate_succ, List.flatten_cons]; exact ⟨_, _, rfl, rep_zero ho, zerosRep ho k⟩

/-- APPEND to a slice of the call's own -/
theorem r_append (hT : Tb.chk P = true) {s x : Operand} {z v : Value} {elem B : Nat} {t : T} {xs ys : List t.D} {sT xT : TypeId} {d : Nat} {ty : TypeId} {pos : String} {after : Array Edge} (i : Nat)
    (hs : ev E s = some (.one (.raw z) v)) (hi : L[i]? = some (Res.own v elem t xs)) (src : Src P F n E L x t ys) (hsT : lk Tb.slices sT = some elem) (he : elemChk P t elem B = true) (hx : noInt P xT = true) (hB : Nat.ble 1 B = true)
    (hlen : (xs.length + ys.length) * B ≤ 140737488355328) (hd : Nat.ble (d + 1) n = true)
    (g : ∀ v', Go F n ((d, .one (.raw (.slice none 0 0)) v') :: E) (L.set i (Res.own v' elem t (xs ++ ys))) (wpList P ops Q rest)) :
    Go F n E L (wpList P ops Q (⟨some d, .call ⟨.builtin .append, #[s, x], #[sT, xT]⟩, ty, pos, after, none⟩ :: rest)) := fun M a w c => by
  obtain ⟨ht, inf, hinf, hbytes, hzero⟩ := elemChk_ok he
  obtain ⟨ds, hds, hsrc⟩ := src M a w c
  have hdl := RepL.length (s := t.size) (fun c x h => Rep.size h) hds
  have hB1 : 1 ≤ B := Nat.le_of_ble_eq_true hB
  have hv := (holds_raw.1 (ev_ok c hs)).1
  obtain ⟨S, hsat⟩ := c.st.res hi
  have hred : ∀ {v' : Value} {w' : World}, (Builtin.append_ #[sT, xT] ty #[v, a.eval x]).run P w = .ok v' w' →
      (execOp a.eval ⟨some d, .call ⟨.builtin .append, #[s, x], #[sT, xT]⟩, ty, pos, after, none⟩).run P w = .ok (.value v') w' := by
    intro v' w' h
    have : #[s, x].map a.eval = #[v, a.eval x] := by simp [hv]
    simp only [execOp, resolve, run_bind, run_pure, invoke, Go.builtin, this, h]
  have hmost : xs.length + ys.length ≤ most := by
    have := Nat.le_mul_of_pos_right (xs.length + ys.length) hB1
    simp only [most]; omega
  have hnd : Nat.le (d + 1) n := Nat.le_of_ble_eq_true hd
  -- the slice as it stands
  have hform : ∃ base sCap olds, v = .slice base xs.length sCap ∧ RepL (Rep t M) olds xs ∧ (∀ w' : World, w'.heap = w.heap → (Builtin.firstCells t.size xs.length v).run P w' = .ok olds.toArray w') := by
    rcases hsat with ⟨⟨a0, rfl⟩, rfl, _⟩ | ⟨b, cap, rfl, h2, cc, fr, h3, h4, h5, h6, h7, h8⟩
    · exact ⟨a0, 0, [], rfl, rfl, fun w' _ => first_nil⟩
    · refine ⟨_, _, _, rfl, h4, fun w' hw => ?_⟩
      have hm := Nat.mul_le_mul_right t.size h6
      have := run_loadCells (P := P) (w := w') (b := b) (off := 0) (c := cc) (el := elem) (fr := fr) (by rw [hw]; exact h3) (xs.length * t.size) 0 #[] (by omega)
      simp only [Builtin.firstCells, loadCells, this]
      simp
  obtain ⟨base, sCap, olds, hvf, holds, hol⟩ := hform
  have hol' := RepL.length (s := t.size) (fun c x h => Rep.size h) holds
  obtain ⟨hroom, hgrow⟩ := run_append (P := P) (ty := ty) (w := w) (ds := ds) (olds := olds) (Tab.slice hT hsT) ht hx hinf hbytes hzero hB1 hvf (fun w' h => (hsrc w' h).1) (fun w' h => (hsrc w' h).2) hol hlen
  by_cases hle : xs.length + ys.length ≤ sCap
  · -- there is room
    by_cases hcz : sCap = 0
    · subst hcz
      have hx0 : xs = [] := List.eq_nil_of_length_eq_zero (by omega)
      have hy : ys = [] := List.eq_nil_of_length_eq_zero (by omega)
      subst hx0
      subst hy
      subst hvf
      have hd0 : ds = [] := List.eq_nil_of_length_eq_zero (by simpa using hdl)
      have hr := hroom hle w (by subst hd0; cases base <;> rfl)
      refine step_val (d := d) rfl (by simp [Region.wanted]) (hred hr) (g _ M _ _ (c.put (Mem.le.refl _) ?_ hnd (holds_raw.2 ⟨rfl, rfl⟩)))
      have : L.set i (Res.own (.slice base 0 0) elem t ([] ++ [])) = L := by
        apply List.ext_getElem?
        intro j
        by_cases hj : i = j
        · subst hj
          rw [List.getElem?_set_self (by
            rcases Nat.lt_or_ge i L.length with h | h
            · exact h
            · simp [List.getElem?_eq_none h] at hi), hi]
          rfl
        · rw [List.getElem?_set_ne hj]
      show St F M w (L.set i (Res.own (.slice base 0 0) elem t ([] ++ [])))
      rw [this]; exact c.st
    rcases hsat with ⟨⟨a0, rfl⟩, rfl, hS⟩ | ⟨b, cap, rfl, h2, cc, fr, h3, h4, h5, h6, h7, h8⟩
    · cases hvf; exact absurd rfl hcz
    · cases hvf
      have hm := Nat.mul_le_mul_right t.size hle
      rw [Nat.add_mul] at hm
      have hst := run_storeCells (P := P) (el := elem) (fr := fr) (off := xs.length * t.size) ds 0 cc w h3 (by rw [hdl]; omega) (by simpa using h8) (repL_one hds)
      have hr := hroom hle _ (by simp only [add_add, Nat.zero_add]; exact hst)
      refine step_val (d := d) rfl (by simp [Region.wanted]) (hred hr) (g _ M _ _ (c.put (Mem.le.refl _) ?_ hnd (holds_raw.2 ⟨rfl, rfl⟩)))
      refine c.st.turn hi (B := fun k => k = b) ?_ ?_ ?_ rfl rfl rfl (by simp [setBlk])
      · rintro S' hS'
        rcases hS' with ⟨⟨_, h⟩, _, _⟩ | ⟨b', cap', h, h2', cc', fr', h3', _⟩
        · injection h with _ _ h; exact absurd h hcz
        · cases h
          refine .inr ⟨b, sCap, by simp, h2', (cc.toList.take (xs.length * t.size + 0) ++ ds ++ cc.toList.drop (xs.length * t.size + 0 + ds.length)).toArray, fr, by rw [setBlk_get (heap_lt h3)]; simp, ?_, ?_, by simpa using hle, by simpa using hmost, ?_⟩
          · have e1 : (xs ++ ys).length * t.size = xs.length * t.size + ds.length := by rw [hdl, List.length_append, Nat.add_mul]
            rw [e1]
            have hcl : xs.length * t.size ≤ cc.toList.length := by simp; omega
            have : ((cc.toList.take (xs.length * t.size + 0) ++ ds ++ cc.toList.drop (xs.length * t.size + 0 + ds.length)).toArray.toList.take (xs.length * t.size + ds.length)) = cc.toList.take (xs.length * t.size) ++ ds := by
              simp only [Nat.add_zero]
              rw [List.take_append_of_le_length (by simp; omega), List.take_of_length_le (by simp; omega)]
            rw [this]
            exact RepL.append h4 hds
          · simp; omega
          · have hsz : (cc.toList.take (xs.length * t.size + 0) ++ ds ++ cc.toList.drop (xs.length * t.size + 0 + ds.length)).toArray.size = cc.size := by simp; omega
            rw [hsz]; exact h8
      · rintro S' hS' k rfl
        rcases hS' with ⟨⟨_, h⟩, _, _⟩ | ⟨b', cap', h, h2', _⟩
        · injection h with _ _ h; exact absurd h hcz
        · cases h; exact (h2' _).2 rfl
      · intro k hk; rw [setBlk_get (heap_lt h3), if_neg (fun h => hk h.symm)]
  · obtain ⟨newCap, zs, dr, hnc, hzs, hr⟩ := hgrow (by omega)
    refine step_val (d := d) rfl (by simp [Region.wanted]) (hred hr) (g _ M _ _ (c.put (Mem.le.refl _) ?_ hnd (holds_raw.2 ⟨rfl, rfl⟩)))
    have hst := St.drewTo dr c.st
    refine hst.renew (R' := Res.own (.slice (some ⟨w.heap.size, 0, none⟩) (xs.length + ys.length) newCap) elem t (xs ++ ys)) (o := .cells (olds ++ ds ++ zs).toArray elem) hi ?_
    intro S' _
    refine .inr ⟨w.heap.size, newCap, by simp, fun k => Iff.rfl, (olds ++ ds ++ zs).toArray, (0, 0), by simp, ?_, ?_, by simpa using hnc, by simpa using hmost, unfrozen_zero _⟩
    · have e1 : (xs ++ ys).length * t.size = (olds ++ ds).length := by rw [List.length_append, Nat.add_mul, List.length_append, hol', hdl]
      rw [e1]
      have e2 : (olds ++ ds ++ zs).toArray.toList.take (olds ++ ds).length = olds ++ ds := by simp only []; exact List.take_left
      rw [e2]
      exact RepL.append holds hds
    · simp only [List.size_toArray, List.length_append, hol', hdl, hzs]
      rw [← Nat.add_mul, ← Nat.add_mul]
      congr 1; omega
end
end Sx
