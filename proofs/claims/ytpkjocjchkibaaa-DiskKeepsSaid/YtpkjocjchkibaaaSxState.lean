/-
  Own work. The state of a call as typed facts: what stands in the temporaries, what lies in memory of the call's own, what stays as it is.
-/
import Derived.Test.YtpkjocjchkibaaaSxData
import Derived.Tactics
import Derived.Deep.Quiet
namespace Sx
open Go

/-! ### A value of a shape -/
@[reducible] def T.isAgg : T → Bool
  | .pair _ _ | .arr _ _ | .unit => true
  | _ => false

def mk (t : T) (cs : List Value) : Value := if t.isAgg then .agg cs.toArray else cs.headD undef

def Holds (t : T) (M : Mem) (v : Value) (x : t.D) : Prop := ∃ cs, v = mk t cs ∧ Rep t M cs x

theorem Holds.mono {t : T} {M M' : Mem} {v : Value} {x : t.D} (h : M.le M') (g : Holds t M v x) : Holds t M' v x :=
  let ⟨cs, e, r⟩ := g; ⟨cs, e, r.mono h⟩

theorem Holds.any {t : T} {M M' : Mem} {v : Value} {x : t.D} (h : t.flat = true) (g : Holds t M v x) : Holds t M' v x :=
  let ⟨cs, e, r⟩ := g; ⟨cs, e, r.any h⟩

theorem Holds.unique {t : T} {M M' : Mem} {v v' : Value} {x : t.D} (h : t.flat = true) (g : Holds t M v x) (g' : Holds t M' v' x) : v = v' := by
  obtain ⟨cs, e, r⟩ := g; obtain ⟨ds, e', r'⟩ := g'; rw [e, e', Rep.unique h r r']

theorem rep_one {t : T} {M : Mem} {cs : List Value} {x : t.D} (ht : t.isAgg = false) (h : Rep t M cs x) : ∃ v, cs = [v] ∧ one v = true := by
  cases t with
  | int k => exact ⟨_, h.1, rfl⟩
  | bool => exact ⟨_, h, rfl⟩
  | str => exact ⟨_, h.1, rfl⟩
  | raw z => exact ⟨_, h.1, h.2⟩
  | sl e t => obtain ⟨a, cap, e1, _⟩ := h; exact ⟨_, e1, rfl⟩
  | unit => cases ht
  | pair a b => cases ht
  | arr n t => cases ht

theorem Holds.cells {t : T} {M : Mem} {v : Value} {x : t.D} (g : Holds t M v x) : Rep t M v.cells.toList x := by
  obtain ⟨cs, e, r⟩ := g
  cases ht : t.isAgg with
  | true => rw [e]; simp only [mk, ht, if_true, Value.cells]; exact r
  | false =>
    obtain ⟨u, e1, hu⟩ := rep_one ht r
    subst e1
    have : v = u := by rw [e]; simp [mk, ht]
    subst this
    cases v <;> first | exact r | cases hu

theorem holds_int {k : IntKind} {M : Mem} {v : Value} {x : Int} : Holds (.int k) M v x ↔ v = .int k x ∧ rng k x := by
  constructor
  · rintro ⟨cs, e, h1, h2⟩; subst h1; exact ⟨by simp [e, mk], h2⟩
  · rintro ⟨e, h⟩; exact ⟨[.int k x], by simp [e, mk], rfl, h⟩
theorem holds_bool {M : Mem} {v : Value} {x : Bool} : Holds .bool M v x ↔ v = .bool x := by
  constructor
  · rintro ⟨cs, e, h1⟩; simp only [Rep] at h1; subst h1; simp [e, mk]
  · rintro e; exact ⟨[.bool x], by simp [e, mk], rfl⟩
theorem holds_str {M : Mem} {v : Value} {x : List Int} : Holds .str M v x ↔ v = .string (bs x) ∧ byteOk x ∧ x.length ≤ most := by
  constructor
  · rintro ⟨cs, e, h1, h2⟩; subst h1; exact ⟨by simp [e, mk], h2⟩
  · rintro ⟨e, h⟩; exact ⟨[.string (bs x)], by simp [e, mk], rfl, h⟩
theorem holds_raw {z : Value} {M : Mem} {v : Value} {x : Value} : Holds (.raw z) M v x ↔ v = x ∧ one x = true := by
  constructor
  · rintro ⟨cs, e, h1, h2⟩; subst h1; exact ⟨by simp [e, mk], h2⟩
  · rintro ⟨e, h⟩; exact ⟨[x], by simp [e, mk], rfl, h⟩

/-! ### What a temporary holds -/
inductive TV where
  | one (t : T) (x : t.D)
  | ref (t : T) (x : t.D)
  | tup (l : List ((t : T) × t.D))

inductive HoldsL (M : Mem) : List Value → List ((t : T) × t.D) → Prop
  | nil : HoldsL M [] []
  | cons {v : Value} {vs : List Value} {t : T} {x : t.D} {l : List ((t : T) × t.D)} (h : Holds t M v x) (r : HoldsL M vs l) : HoldsL M (v :: vs) (⟨t, x⟩ :: l)

/-- the address of what stands in memory that nobody writes -/
def RefTo (t : T) (M : Mem) (v : Value) (x : t.D) : Prop := ∃ ad, v = .pointer (some ad) ∧ ad.spot = none ∧ ∃ c el fr, M ad.block = some (.cells c el fr) ∧ ad.off + t.size ≤ c.size ∧
  Rep t M ((c.toList.drop ad.off).take t.size) x

def TV.holds (M : Mem) (v : Value) : TV → Prop
  | .one t x => Holds t M v x
  | .ref t x => RefTo t M v x
  | .tup l => ∃ vs, v = .tuple vs.toArray ∧ HoldsL M vs l

@[reducible] def TV.flat : TV → Bool
  | .one t _ => t.flat
  | .ref _ _ => false
  | .tup l => l.all fun p => p.1.flat

theorem HoldsL.mono {M M' : Mem} (h : M.le M') : ∀ {vs : List Value} {l : List ((t : T) × t.D)}, HoldsL M vs l → HoldsL M' vs l
  | _, _, .nil => .nil
  | _, _, .cons a b => .cons (a.mono h) (b.mono h)

theorem HoldsL.any {M M' : Mem} : ∀ {vs : List Value} {l : List ((t : T) × t.D)}, l.all (fun p => p.1.flat) = true → HoldsL M vs l → HoldsL M' vs l
  | _, _, _, .nil => .nil
  | _, _, h, .cons a b => by simp only [List.all_cons, Bool.and_eq_true] at h; exact .cons (a.any h.1) (b.any h.2)

theorem HoldsL.unique {M M' : Mem} : ∀ {vs ws : List Value} {l : List ((t : T) × t.D)}, l.all (fun p => p.1.flat) = true → HoldsL M vs l → HoldsL M' ws l → vs = ws
  | _, _, _, _, .nil, .nil => rfl
  | _, _, _, h, .cons a b, .cons a' b' => by simp only [List.all_cons, Bool.and_eq_true] at h; rw [a.unique h.1 a', b.unique h.2 b']

theorem TV.mono {M M' : Mem} (h : M.le M') {v : Value} : ∀ {t : TV}, t.holds M v → t.holds M' v
  | .one _ _, g => Holds.mono h g
  | .ref _ _, ⟨ad, e, s, c, el, fr, m, l, r⟩ => ⟨ad, e, s, c, el, fr, h _ _ m, l, r.mono h⟩
  | .tup _, ⟨vs, e, g⟩ => ⟨vs, e, g.mono h⟩

theorem TV.any {M M' : Mem} {v : Value} : ∀ {t : TV}, t.flat = true → t.holds M v → t.holds M' v
  | .one _ _, h, g => Holds.any h g
  | .ref _ _, h, _ => by simp [TV.flat] at h
  | .tup _, h, ⟨vs, e, g⟩ => ⟨vs, e, g.any h⟩

theorem TV.unique {M M' : Mem} {v v' : Value} : ∀ {t : TV}, t.flat = true → t.holds M v → t.holds M' v' → v = v'
  | .one _ _, h, g, g' => Holds.unique h g g'
  | .ref _ _, h, _, _ => by simp [TV.flat] at h
  | .tup _, h, ⟨vs, e, g⟩, ⟨ws, e', g'⟩ => by rw [e, e', HoldsL.unique h g g']

abbrev Env := List (Nat × TV)

@[reducible] def Env.get : Env → Nat → Option TV
  | [], _ => none
  | (j, v) :: r, i => match Nat.beq j i with
    | true => some v
    | false => Env.get r i

/-! ### What the call owns -/
structure Res where
  sat : Mem → (Nat → Prop) → World → Prop
  mono : ∀ {M M' : Mem} {S : Nat → Prop} {w : World}, M.le M' → sat M S w → sat M' S w
  loc : ∀ {M : Mem} {S : Nat → Prop} {w w' : World}, (∀ k, S k → w'.heap[k]? = w.heap[k]?) → sat M S w → sat M S w'
  has : ∀ {M : Mem} {S : Nat → Prop} {w : World}, sat M S w → ∀ k, S k → k < w.heap.size

def Sep (M : Mem) (w : World) : List Res → (Nat → Prop) → Prop
  | [], V => ∀ k, ¬ V k
  | R :: L, V => ∃ S V', R.sat M S w ∧ Sep M w L V' ∧ (∀ k, S k → ¬ V' k) ∧ ∀ k, V k ↔ (S k ∨ V' k)

theorem Sep.has {M : Mem} {w : World} : ∀ {L : List Res} {V : Nat → Prop}, Sep M w L V → ∀ k, V k → k < w.heap.size
  | [], _, h, k, hk => absurd hk (h k)
  | _ :: _, _, ⟨_, _, r, s, _, e⟩, k, hk => ((e k).1 hk).elim (Res.has _ r k) (Sep.has s k)

theorem Sep.mono {M M' : Mem} (h : M.le M') {w : World} : ∀ {L : List Res} {V : Nat → Prop}, Sep M w L V → Sep M' w L V
  | [], _, g => g
  | R :: _, _, ⟨S, V', r, s, d, e⟩ => ⟨S, V', R.mono h r, Sep.mono h s, d, e⟩

theorem Sep.loc {M : Mem} {w w' : World} : ∀ {L : List Res} {V : Nat → Prop}, (∀ k, V k → w'.heap[k]? = w.heap[k]?) → Sep M w L V → Sep M w' L V
  | [], _, _, g => g
  | R :: _, _, h, ⟨S, V', r, s, d, e⟩ => ⟨S, V', R.loc (fun k hk => h k ((e k).2 (.inl hk))) r, Sep.loc (fun k hk => h k ((e k).2 (.inr hk))) s, d, e⟩

theorem Sep.eqv {M : Mem} {w : World} : ∀ {L : List Res} {V W : Nat → Prop}, (∀ k, V k ↔ W k) → Sep M w L V → Sep M w L W
  | [], _, _, h, g => fun k hk => g k ((h k).2 hk)
  | _ :: _, _, _, h, ⟨S, V', r, s, d, e⟩ => ⟨S, V', r, s, d, fun k => (h k).symm.trans (e k)⟩

theorem Sep.append {M : Mem} {w : World} : ∀ {L L' : List Res} {V V' : Nat → Prop}, Sep M w L V → Sep M w L' V' → (∀ k, V k → ¬ V' k) → Sep M w (L ++ L') (fun k => V k ∨ V' k)
  | [], L', V, V', h, g, _ => Sep.eqv (fun k => ⟨.inr, fun h' => h'.elim (fun x => absurd x (h k)) id⟩) g
  | R :: L, L', V, V', ⟨S, W, r, s, d, e⟩, g, hd =>
    ⟨S, fun k => W k ∨ V' k, r, Sep.append s g (fun k hk => hd k ((e k).2 (.inr hk))), fun k hk => fun h => h.elim (d k hk) (hd k ((e k).2 (.inl hk))),
      fun k => by show V k ∨ V' k ↔ S k ∨ (W k ∨ V' k); rw [e k]; exact or_assoc⟩

theorem Sep.split {M : Mem} {w : World} : ∀ {L L' : List Res} {V : Nat → Prop}, Sep M w (L ++ L') V → ∃ A B, Sep M w L A ∧ Sep M w L' B ∧ (∀ k, A k → ¬ B k) ∧ ∀ k, V k ↔ (A k ∨ B k)
  | [], _, V, h => ⟨fun _ => False, V, fun _ h => h, h, fun _ h => h.elim, fun k => ⟨.inr, fun h => h.elim False.elim id⟩⟩
  | R :: L, L', V, ⟨S, W, r, s, d, e⟩ => by
    obtain ⟨A, B, a, b, dd, ee⟩ := Sep.split (L := L) s
    refine ⟨fun k => S k ∨ A k, B, ⟨S, A, r, a, fun k hk ha => d k hk ((ee k).2 (.inl ha)), fun k => Iff.rfl⟩, b, ?_, ?_⟩
    · rintro k (hk | hk)
      · exact fun hb => d k hk ((ee k).2 (.inr hb))
      · exact dd k hk
    · intro k; rw [e k, ee k]; exact or_assoc.symm

theorem Sep.swap {M : Mem} {w : World} {L L' : List Res} {V : Nat → Prop} (h : Sep M w (L ++ L') V) : Sep M w (L' ++ L) V := by
  obtain ⟨A, B, a, b, d, e⟩ := Sep.split h
  exact Sep.eqv (fun k => by rw [e k]; exact or_comm) (Sep.append b a (fun k hb ha => d k ha hb))

theorem Sep.perm {M : Mem} {w : World} {L L' : List Res} (p : L.Perm L') : ∀ {V : Nat → Prop}, Sep M w L V → Sep M w L' V := by
  induction p with
  | nil => exact id
  | cons R _ ih => rintro V ⟨S, W, r, s, d, e⟩; exact ⟨S, W, r, ih s, d, e⟩
  | swap R R' L =>
    rintro V ⟨S, W, r, ⟨S', W', r', s', d', e'⟩, d, e⟩
    refine ⟨S', fun k => S k ∨ W' k, r', ⟨S, W', r, s', fun k hk hw => d k hk ((e' k).2 (.inr hw)), fun k => Iff.rfl⟩, ?_, ?_⟩
    · rintro k hk (h | h)
      · exact d k h ((e' k).2 (.inl hk))
      · exact d' k hk h
    · intro k; rw [e k, e' k]; exact or_left_comm
  | trans _ _ ih1 ih2 => exact fun h => ih2 (ih1 h)

/-- what must stay as it is -/
structure Fr where
  os : Os
  tape : Nat → Question → Nat
  output : Array (Nat × ByteArray)
  mem : Mem
  base : Mem
  size : Nat

structure St (F : Fr) (M : Mem) (w : World) (L : List Res) : Prop where
  os : w.os = F.os
  tape : w.tape = F.tape
  output : w.output = F.output
  size : F.size ≤ w.heap.size
  elder : F.base.le M
  fresh : ∀ k o, M k = some o → F.base k = some o ∨ F.mem k = none
  frame : ∀ k o, F.mem k = some o → w.heap[k]? = some o
  mem : ∀ k o, M k = some o → w.heap[k]? = some o
  sep : ∃ V, Sep M w L V ∧ ∀ k, V k → M k = none ∧ F.mem k = none

theorem St.perm {F : Fr} {M : Mem} {w : World} {L L' : List Res} (p : L.Perm L') (h : St F M w L) : St F M w L' :=
  { h with sep := let ⟨V, s, d⟩ := h.sep; ⟨V, s.perm p, d⟩ }

theorem St.lt {F : Fr} {M : Mem} {w : World} {L : List Res} (h : St F M w L) {k : Nat} {o : Obj} (e : M k = some o) : k < w.heap.size := by
  have := h.mem k o e
  rcases Nat.lt_or_ge k w.heap.size with g | g
  · exact g
  · simp [Array.getElem?_eq_none g] at this

theorem St.flt {F : Fr} {M : Mem} {w : World} {L : List Res} (h : St F M w L) {k : Nat} {o : Obj} (e : F.mem k = some o) : k < w.heap.size := by
  have := h.frame k o e
  rcases Nat.lt_or_ge k w.heap.size with g | g
  · exact g
  · simp [Array.getElem?_eq_none g] at this

theorem St.drop {F : Fr} {M : Mem} {w : World} {L L' : List Res} (h : St F M w (L ++ L')) : St F M w L :=
  { h with
    sep := by
      obtain ⟨V, s, d⟩ := h.sep
      obtain ⟨A, B, a, _, _, e⟩ := s.split
      exact ⟨A, a, fun k hk => d k ((e k).2 (.inl hk))⟩ }

theorem St.drew {F : Fr} {M : Mem} {w : World} {L : List Res} (h : St F M w L) : St F M { w with drawn := w.drawn + 1 } L :=
  { os := h.os, tape := h.tape, output := h.output, size := h.size, elder := h.elder, fresh := h.fresh, frame := h.frame, mem := h.mem, sep := let ⟨V, s, d⟩ := h.sep; ⟨V, Sep.loc (w := w) (fun _ _ => rfl) s, d⟩ }

/-- back to an elder memory -/
theorem St.back {F : Fr} {M M' : Mem} {w w' : World} (h : St F M' w' []) (h0 : St F M w []) (l : M.le M') : St F M w' [] :=
  { os := h.os, tape := h.tape, output := h.output, size := h.size, elder := h0.elder, fresh := h0.fresh, frame := h.frame, mem := fun k o e => h.mem k o (l k o e), sep := ⟨fun _ => False, fun _ h => h, fun _ h => h.elim⟩ }

open Classical in
/-- THE FRAME RULE: for a call that is handed a part of what is owned. -/
theorem St.part {F : Fr} {M : Mem} {w : World} {Lc Lo : List Res} (h : St F M w (Lc ++ Lo)) :
    ∃ F', F'.base = M ∧ F'.size = w.heap.size ∧ St F' M w Lc ∧ ∀ M' w' Lc', St F' M' w' Lc' → M.le M' ∧ St F M' w' (Lc' ++ Lo) := by
  obtain ⟨V, s, d⟩ := h.sep
  obtain ⟨A, B, a, b, dj, e⟩ := s.split
  refine ⟨{ F with mem := fun k => if B k then w.heap[k]? else F.mem k, base := M, size := w.heap.size }, rfl, rfl, ?_, ?_⟩
  · refine { os := h.os, tape := h.tape, output := h.output, size := Nat.le_refl _, elder := Mem.le.refl _, fresh := fun k o e => .inl e, frame := ?_, mem := h.mem, sep := ⟨A, a, ?_⟩ }
    · intro k o hk
      dsimp only at hk
      split at hk
      · exact hk
      · exact h.frame k o hk
    · intro k hk
      have := d k ((e k).2 (.inl hk))
      refine ⟨this.1, ?_⟩
      dsimp only
      rw [if_neg (dj k hk)]
      exact this.2
  · intro M' w' Lc' h'
    have hle : M.le M' := h'.elder
    have hfr : ∀ k o, M' k = some o → M k = some o ∨ (if B k then w.heap[k]? else F.mem k) = none := h'.fresh
    refine ⟨hle, ?_⟩
    have hB : ∀ k, B k → w'.heap[k]? = w.heap[k]? := by
      intro k hk
      have hlt := b.has k hk
      have := h'.frame k (w.heap[k]) (by dsimp only; rw [if_pos hk]; simp [hlt])
      rw [this]; simp [hlt]
    obtain ⟨V', s', d'⟩ := h'.sep
    refine { os := h'.os, tape := h'.tape, output := h'.output, size := Nat.le_trans h.size h'.size, elder := h.elder.trans hle, fresh := ?_, frame := ?_, mem := h'.mem, sep := ?_ }
    · intro k o hk
      rcases hfr k o hk with g | g
      · exact h.fresh k o g
      · split at g
        · rename_i hb
          have := b.has k hb
          simp [this] at g
        · exact .inr g
    · intro k o hk
      have hnb : ¬ B k := fun hb => by have := (d k ((e k).2 (.inr hb))).2; rw [this] at hk; cases hk
      exact h'.frame k o (by dsimp only; rw [if_neg hnb]; exact hk)
    · have hd : ∀ k, V' k → ¬ B k := by
        intro k hk hb
        have := (d' k hk).2
        dsimp only at this
        rw [if_pos hb] at this
        have hlt := b.has k hb
        simp [hlt] at this
      refine ⟨fun k => V' k ∨ B k, Sep.append s' ((b.loc hB).mono hle) hd, ?_⟩
      rintro k (hk | hk)
      · refine ⟨(d' k hk).1, ?_⟩
        have := (d' k hk).2
        dsimp only at this
        rwa [if_neg (hd k hk)] at this
      · have := d k ((e k).2 (.inr hk))
        refine ⟨?_, this.2⟩
        cases hm : M' k with
        | none => rfl
        | some o =>
          rcases hfr k o hm with g | g
          · rw [this.1] at g; cases g
          · rw [if_pos hk] at g
            have := b.has k hk
            simp [this] at g

/-! ### The configuration of a call -/
structure Cfg (F : Fr) (M : Mem) (n : Nat) (E : Env) (L : List Res) (a : Act) (w : World) : Prop where
  st : St F M w L
  defers : a.defers = []
  size : a.tmps.size = n
  env : ∀ i t, E.get i = some t → ∃ v, a.tmps[i]? = some v ∧ t.holds M v

/-- whatever temporaries and whatever world are as told: X. -/
def Go (F : Fr) (n : Nat) (E : Env) (L : List Res) (X : Act → World → Prop) : Prop := ∀ M a w, Cfg F M n E L a w → X a w

theorem Cfg.get {F : Fr} {M : Mem} {n : Nat} {E : Env} {L : List Res} {a : Act} {w : World} (c : Cfg F M n E L a w) {i : Nat} {t : TV} (h : E.get i = some t) :
    ∃ v, a.tmps[i]? = some v ∧ t.holds M v := c.env _ _ h

theorem Cfg.get? {F : Fr} {M : Mem} {n : Nat} {E : Env} {L : List Res} {a : Act} {w : World} (c : Cfg F M n E L a w) {i : Nat} {t : TV} (h : E.get i = some t) :
    ∃ v, a.eval (.tmp i) = v ∧ t.holds M v := by
  obtain ⟨v, e, h⟩ := c.get h
  exact ⟨v, by simp [Act.eval, e], h⟩

@[reducible] def Env.del : Env → Nat → Env
  | [], _ => []
  | (j, v) :: r, i => match Nat.beq j i with
    | true => Env.del r i
    | false => (j, v) :: Env.del r i

theorem Env.get_del : ∀ {E : Env} {d i : Nat} {t : TV}, (E.del d).get i = some t → E.get i = some t ∧ i ≠ d
  | [], _, _, _, h => by simp [Env.get] at h
  | (j, u) :: r, d, i, t, h => by
    simp only [Env.del] at h
    split at h
    · rename_i hb
      have hj := Nat.eq_of_beq_eq_true hb
      have := Env.get_del h
      refine ⟨?_, this.2⟩
      simp only [Env.get]
      have : Nat.beq j i = false := by
        cases hji : Nat.beq j i with
        | false => rfl
        | true => exact absurd ((Nat.eq_of_beq_eq_true hji).symm.trans hj) this.2
      rw [this]; simp only []
      exact (Env.get_del h).1
    · rename_i hb
      simp only [Env.get] at h ⊢
      split at h
      · rename_i hji
        refine ⟨h, ?_⟩
        rintro rfl
        rw [hji] at hb; cases hb
      · exact Env.get_del h

/-- a temporary is written -/
theorem Cfg.put {F : Fr} {M M' : Mem} {n : Nat} {E : Env} {L L' : List Res} {a : Act} {w w' : World} (c : Cfg F M n E L a w) (hM : M.le M') (h' : St F M' w' L') {d : Nat} (hd : d < n) {v : Value} {t : TV} (hv : t.holds M' v) :
    Cfg F M' n ((d, t) :: E) L' (a.put (some d) v) w' where
  st := h'
  defers := c.defers
  size := by simp [Act.put, c.size]
  env := by
    intro i u hp
    simp only [Env.get] at hp
    split at hp
    · rename_i hb
      obtain rfl := Nat.eq_of_beq_eq_true hb
      cases hp
      exact ⟨v, by simp [Act.put, c.size, hd], hv⟩
    · rename_i hb
      obtain ⟨x, e, hx⟩ := c.env i u hp
      refine ⟨x, ?_, TV.mono hM hx⟩
      have : d ≠ i := by rintro rfl; simp at hb
      simp [Act.put, this, e]

/-- a temporary is written with what nobody reads -/
theorem Cfg.void {F : Fr} {M : Mem} {n : Nat} {E : Env} {L : List Res} {a : Act} {w : World} (c : Cfg F M n E L a w) (d : Option Nat) (v : Value) :
    Cfg F M n (match d with | some d => E.del d | none => E) L (a.put d v) w where
  st := c.st
  defers := by cases d <;> exact c.defers
  size := by cases d <;> simp [Act.put, c.size]
  env := by
    intro i u hp
    cases d with
    | none => exact c.env i u hp
    | some d =>
      obtain ⟨hp, hne⟩ := Env.get_del hp
      obtain ⟨x, e, hx⟩ := c.env i u hp
      exact ⟨x, by simp [Act.put, Ne.symm hne, e], hx⟩

/-- nothing is written -/
theorem Cfg.same {F : Fr} {M M' : Mem} {n : Nat} {E : Env} {L L' : List Res} {a : Act} {w w' : World} (c : Cfg F M n E L a w) (hM : M.le M') (h' : St F M' w' L') : Cfg F M' n E L' a w' where
  st := h'
  defers := c.defers
  size := c.size
  env := fun i t hp => let ⟨v, e, h⟩ := c.env i t hp; ⟨v, e, TV.mono hM h⟩

/-- less is told -/
theorem Cfg.less {F : Fr} {M : Mem} {n : Nat} {E E' : Env} {L : List Res} {a : Act} {w : World} (c : Cfg F M n E L a w) (h : ∀ i t, E'.get i = some t → E.get i = some t) : Cfg F M n E' L a w :=
  { c with env := fun i t hp => c.env i t (h i t hp) }

end Sx
