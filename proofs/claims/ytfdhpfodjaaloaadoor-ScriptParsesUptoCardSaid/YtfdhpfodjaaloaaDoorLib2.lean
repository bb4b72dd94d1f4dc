/-
  Own work, of several texts. Slices of the call's own are lent to a call that only reads; pieces of slices.
  Short forms of the rules, for printed texts.
  Resources out of resources: several at once, some with something unknown, bare facts.
  Maps of the call's own: what they hold as a sorted list of keys and data; lookup, store, delete.
  The operations on maps of the call's own.
  'for k, v := range m' over a map of the call's own, in whatever order.
  The stand-in for a disk: its plain state, and how it lies in memory.
  The files of the stand-in for a disk as one thing: a file is looked up, taken out, put back, laid, removed.
  append(s, make([]byte, n)...).
  Pieces of slices of the call's own, lent for reading; calls that hand back what is new; copy.
  Functions that may break by a panic.
  What a call may take for granted of the program's own tables: contracts under that condition.
  Contracts of Go's library over texts, as the kit's shelf has them, in this library's form.
  What is done to a file's parts: copy, a sector's count, no sector any more; the disk as one thing.
  The disk as one thing; the rows of dirty sectors; a shorter piece of a slice.
  A file is put back; the disk of which one name is known.
  Regions that draw their order: of what only reads, and all else waits for, one order serves every order.
  From a statement's row to the plain function: what an argument reads as is typed data in memory.
  How many files there are.
  Loops over the files, and over the dirty sectors of one, in whatever order.
  What the disk tells: its names, the dirty sectors; the sectors behind a cut.
  maps.DeleteFunc with the disk's closure, as the kit's shelf has it, in this library's form.
  slices.Sort of strings and of ints, as the kit's shelf has it, in this library's form.
  slices.Sorted(maps.Keys(m)) at keys that are ints, as the kit's shelf has it, in this library's form.
  The order of names, and rows of entries that rise by it.
  Regions that draw their order and write: what is loaded from variables that nobody writes meanwhile is taken first (the kit's 'wpAnyH'); maps.Clone.
  Things behind a pointer as one resource: a struct, and the slices that it alone holds.
  A text that is built up: strings.Builder, of the call's own.
  'for i, c := range s' over a string.
  The elements of an array that lies in a variable, as a slice.
  A function with one deferred closure that catches its panics: two results, both in memory.
  Slices that nobody writes any more, with their place told: in regions that draw their order their elements are loaded first.
  From a row with a bound of its own to the plain function.
  From a row that lists tables to the plain function.
-/
import Derived.Test.YtfdhpfodjaaloaaDoorLib1
import Derived.KernelRfl
import Derived.Maps.Own
import Derived.Maps.OwnSet
import Derived.Maps.Range
import Derived.Carry
import Derived.Lib.LaidTab
import GoSem.Claims
import Derived.ChangeAgain
import Derived.Lib.Split
import Derived.Lib.SplitLaws
import Derived.Lib.IndexMore
import Derived.Lib.ItoaNum
import Derived.Lib.Join
import Derived.Lib.AppendIntMem
import Derived.Lib.Bytealg
import Derived.ProofKit
import Derived.OpenShut
import Derived.SizedLaws
import Derived.RowKit3
import Derived.Shelf.SlMaps.DeleteFunc
import Derived.Shelf.SortG.Plain
import Derived.Shelf.SortG.SortNone
import Derived.Lib.SlKeysI
import Derived.Shelf.SlIterI.Nil
import Derived.Maps.Ext
import Derived.OrdersHeld
import Derived.Shelf.SlMaps.Clone
import Derived.Lib.UnsafeStr
import Derived.Laws.RangeString
import Derived.Recover
import Derived.Deep.CondSized
import Derived.Deep.DeepHandedRow
import Derived.Stop.LaidErr
import Derived.JoinedOf
import Derived.JoinedCond
namespace Sx
open Go

/-- a call that is handed nothing to write, and may read all that is there -/
theorem St.lent {F : Fr} {M : Mem} {w : World} {L : List Res} (h : St F M w L) :
    ∃ F', F'.base = heapOf w ∧ F'.size = w.heap.size ∧ St F' (heapOf w) w [] ∧ ∀ M' w', St F' M' w' [] → St F M w' L ∧ Same w w' := by
  refine ⟨{ F with mem := heapOf w, base := heapOf w, size := w.heap.size }, rfl, rfl, ?_, ?_⟩
  · exact { os := h.os, tape := h.tape, output := h.output, size := Nat.le_refl _, elder := Mem.le.refl _, fresh := fun k o e => .inl e, frame := fun k o e => e, mem := fun k o e => e, sep := ⟨fun _ => False, fun _ h => h, fun _ h => h.elim⟩ }
  · intro M' w' h'
    have hs : Same w w' := fun k hk => by
      have := h'.frame k w.heap[k] (by simp [heapOf, hk])
      rw [this]; simp [hk]
    obtain ⟨V, s, d⟩ := h.sep
    refine ⟨?_, hs⟩
    exact { os := h'.os, tape := h'.tape, output := h'.output, size := Nat.le_trans h.size h'.size, elder := h.elder, fresh := h.fresh
            frame := fun k o e => by rw [hs k (h.flt e)]; exact h.frame k o e
            mem := fun k o e => by rw [hs k (h.lt e)]; exact h.mem k o e
            sep := ⟨V, Sep.loc (fun k hk => hs k (s.has k hk)) s, d⟩ }

inductive LendArgs (E : Env) (L : List Res) : List Operand → List TV → Prop
  | nil : LendArgs E L [] []
  | val {x : Operand} {t : TV} {l : List Operand} {ts : List TV} (h : ev E x = some t) (r : LendArgs E L l ts) : LendArgs E L (x :: l) (t :: ts)
  | own {x : Operand} {z v : Value} {e : TypeId} {t : T} {xs : List t.D} {l : List Operand} {ts : List TV} (i : Nat) (h : ev E x = some (.one (.raw z) v)) (hi : L[i]? = some (Res.own v e t xs)) (r : LendArgs E L l ts) :
      LendArgs E L (x :: l) (.one (.sl e t) xs :: ts)
  | mix {x : Operand} {t' t : T} {x' : t'.D} {y : t.D} {l : List Operand} {ts : List TV} (h : ev E x = some (.one t' x')) (he : Emb L t' x' t y) (r : LendArgs E L l ts) : LendArgs E L (x :: l) (.one t y :: ts)

section
variable {P : Program} {Tb : Tab} {F : Fr} {M : Mem} {n : Nat} {E E' : Env} {L : List Res} {ops : Array Oper} {Q : Exit → Act → World → Prop} {rest : List Oper}

theorem lend_holds {a : Act} {w : World} (c : Cfg F M n E L a w) : ∀ {xs : List Operand} {ts : List TV}, LendArgs E L xs ts → HoldAll (heapOf w) ts (xs.map a.eval)
  | _, _, .nil => .nil
  | _, _, .val h r => .cons (TV.mono (fun k o e => c.st.mem k o e) (ev_ok c h)) (lend_holds c r)
  | _, _, .mix h he r => .cons (emb_holds c.st he (ev_ok c h)) (lend_holds c r)
  | _, _, @LendArgs.own _ _ _ _ _ _ t _ _ _ i h hi r => by
    refine .cons ?_ (lend_holds c r)
    obtain ⟨S, hs⟩ := c.st.res hi
    have hv := (holds_raw.1 (ev_ok c h)).1
    rw [hv]
    rcases hs with ⟨⟨a0, rfl⟩, rfl, _⟩ | ⟨b, cap, rfl, h2, cc, fr, h3, h4, h5, h6, h7, h8⟩
    · exact ⟨_, rfl, rep_slice_nil⟩
    · refine ⟨_, rfl, some ⟨b, 0, none⟩, cap, rfl, h7, h6, .inr ⟨rfl, cc, _, fr, h3, ?_, ?_⟩⟩
      · have := Nat.mul_le_mul_right t.size h6
        simp only; omega
      · have hle : M.le (heapOf w) := fun k o e => c.st.mem k o e
        simpa using RepL.mono (fun _ _ r => Rep.mono hle r) h4

/-- a call that reads, of what is there, what the call owns too -/
theorem r_callw {k : FuncId} {args : List TV} {res : TV} (hc : Pure P k args res) (hk : callable P k = true) (hf : res.flat = true) {xs : List Operand} {tys : Array TypeId} {d : Nat} {ty : TypeId} {pos : String} {after : Array Edge}
    (hx : LendArgs E L xs args) (hd : Nat.ble (d + 1) n = true) (g : Go F n ((d, res) :: E) L (wpList P ops Q rest)) :
    Go F n E L (wpList P ops Q (⟨some d, .call ⟨.value (.func k), xs.toArray, tys⟩, ty, pos, after, none⟩ :: rest)) := fun M a w c => by
  unfold wpList
  rw [if_pos (by simp [Region.wanted])]
  left
  unfold Oper.wp
  rw [run_calln hk, Oper.upon_enter]
  obtain ⟨F', hb, hs, st', hback⟩ := c.st.lent
  have := hc F' w (xs.map a.eval) (by rw [hb]; exact st') hs (by rw [hb]; exact lend_holds c hx)
  refine this.mono ?_
  rintro e w' ⟨v, M', rfl, st2, hv⟩
  obtain ⟨st3, _⟩ := hback _ _ st2
  exact g M _ _ (c.put (Mem.le.refl _) st3 (Nat.le_of_ble_eq_true hd) (TV.any hf hv))

/-- a piece of a slice that nobody writes -/
theorem y_slsub {R : World → World → Prop} (hT : Tb.chk P = true) {x : Operand} {e : TypeId} {t : T} {xs : List t.D} {tid : TypeId} {l h : Option Operand} {i j : Int} (hx : ev E x = some (.one (.sl e t) xs)) (hl : optInt E 0 l = some i) (hh : optInt E xs.length h = some j)
    (h0 : 0 ≤ i) (h1 : i ≤ j) (h2 : j ≤ xs.length) (ht : lk Tb.slices tid = some e) (hc : tyChk P t e = true) : Yields R P F n E L (.slice tid x l h none) (.one (.sl e t) ((xs.take j.toNat).drop i.toNat)) := fun o ho M a w c => by
  obtain ⟨cs, e1, ad, cap, e2, hm, hcap, h4⟩ := ev_ok c hx
  have hv : a.eval x = .slice ad (List.length xs) cap := by rw [e1, e2]; rfl
  have hlen : ((xs.take j.toNat).drop i.toNat).length = j.toNat - i.toNat := by simp; omega
  have hi : i.toNat ≤ j.toNat := by omega
  have hj : j.toNat ≤ xs.length := by omega
  refine ⟨.slice (if cap = i.toNat then ad else ad.map (·.add (i.toNat * t.size))) (j.toNat - i.toNat) (cap - i.toNat), ⟨[.slice (if cap = i.toNat then ad else ad.map (·.add (i.toNat * t.size))) (j.toNat - i.toNat) (cap - i.toNat)], rfl, ?_⟩, fun w' _ => ?_⟩
  · refine ⟨_, _, by rw [hlen], by rw [hlen]; simp only [most] at *; omega, by rw [hlen]; omega, ?_⟩
    rw [hlen]
    cases ad with
    | none =>
      simp only at h4
      have : (if cap = i.toNat then (none : Option Addr) else none) = none := by split <;> rfl
      simp only [Option.map_none, this]
      omega
    | some ad =>
      by_cases hz : j.toNat - i.toNat = 0
      · split
        · rename_i hh
          exact hz
        · exact .inl hz
      · have hne : ¬ cap = i.toNat := by omega
        obtain ⟨b, off, sp⟩ := ad
        obtain ⟨e3, cc, el, fr, hmm, hs, hr⟩ := h4.resolve_left (by omega)
        simp only at e3; subst e3
        simp only at hmm hs hr
        simp only [if_neg hne, Option.map_some, add_add]
        refine .inr ⟨trivial, cc, el, fr, hmm, ?_, ?_⟩
        · have h5 : j.toNat * t.size ≤ xs.length * t.size := Nat.mul_le_mul_right t.size hj
          have e4 : i.toNat * t.size + (j.toNat - i.toNat) * t.size = j.toNat * t.size := by rw [← Nat.add_mul, Nat.add_sub_cancel' hi]
          clear h4 hr
          show off + i.toNat * t.size + (j.toNat - i.toNat) * t.size ≤ cc.size
          omega
        · have s1 := (RepL.split (s := t.size) (fun c x h => Rep.size h) j.toNat hr).1
          have s2 := (RepL.split (s := t.size) (fun c x h => Rep.size h) i.toNat s1).2
          have hle : j.toNat * t.size ≤ xs.length * t.size := Nat.mul_le_mul_right _ hj
          rw [List.take_take, Nat.min_eq_left hle, List.drop_take, List.drop_drop] at s2
          have e4 : j.toNat * t.size - i.toNat * t.size = (j.toNat - i.toNat) * t.size := (Nat.sub_mul _ _ _).symm
          rw [e4] at s2
          exact s2
  · obtain ⟨dst, op, ty, pos, after, guard⟩ := o
    simp only at ho; subst ho
    refine run_val ?_
    rw [hv]
    have hl := optInt_ok c hl
    have hh := optInt_ok c hh
    unfold Instr.sliceAt
    simp only [run_bind, run_underlying (Tab.slice hT ht)]
    unfold Instr.slice
    have hbd := run_bounds (P := P) (w := w') (isS := true) (len := xs.length) (cap := cap) hl hh h0 h1 (by omega)
    simp only [run_bind, run_underlying (Tab.slice hT ht), Option.map_none, hbd, run_sizeOf hc]
    rfl

end
end Sx
namespace Sx
open Go

@[reducible] def ti (x : Int) : TV := .one (.int .i64) x
@[reducible] def tb (x : Bool) : TV := .one .bool x
@[reducible] def ts (x : List Int) : TV := .one .str x
@[reducible] def tp (x : Value) : TV := .one (.raw (.pointer none)) x
/-! ### what is known of the plain twin -/
section
universe u
variable {α : Type} {ρ : Type} {r : ρ} {G : Prop}
theorem cB {f : Option α} {k : α → Option ρ} (h : f.bind k = some r) (g : ∀ x, f = some x → k x = some r → G) : G := by
  obtain ⟨x, h1, h2⟩ := bind_ex h; exact g x h1 h2
theorem iE {c : Prop} [Decidable c] {t : Option ρ} (h : (if c then t else none) = some r) (g : c → t = some r → G) : G := by
  obtain ⟨h1, h2⟩ := ite_ex h; exact g h1 h2
theorem bX {v : α} {k : α → Option ρ} (h : bnd v k = some r) (g : ∀ x, v = x → k x = some r → G) : G := by
  obtain ⟨x, h1, h2⟩ := bnd_ex h; exact g x h1 h2
end

section
variable {P : Program} {Tb : Tab} {F : Fr} {n : Nat} {E E' : Env} {L : List Res} {ops : Array Oper} {Q : Exit → Act → World → Prop} {rest : List Oper} {X : Act → World → Prop} {c1 c2 : Code} {K : Act → World → Prop} {id : Nat}

/-! ### the code's frame -/
theorem zn (g : Go F n E L (Q .normal)) : Go F n E L (wpList P ops Q []) := r_nil g
theorem zt (g : Go F n E L K) : Go F n E L (Exit.then K Q .normal) := g
theorem zs (g : Go F n E L (c1.wp P (Exit.then (c2.wp P Q) Q))) : Go F n E L ((Code.seq c1 c2).wp P Q) := r_seq g
theorem zr {l : List Oper} (g : Go F n E L (wpList P l.toArray Q l)) : Go F n E L ((Code.region id l.toArray false).wp P Q) := r_region g
theorem zk (g : Go F n E L (Q .normal)) : Go F n E L (Code.skip.wp P Q) := r_skip g
theorem zi (g : Go F n E L (Q .normal)) : Go F n E L (Exit.inBlock id Q .normal) := g
theorem zb (g : Go F n E L (c1.wp P (Exit.inBlock id Q))) : Go F n E L ((Code.block id c1).wp P Q) := r_block g
theorem zx (g : Go F n E L (Q (.exit id))) : Go F n E L ((Code.exit id).wp P Q) := r_exit g
theorem zR (g : Go F n E L (Q .ret)) : Go F n E L (Code.ret.wp P Q) := r_ret g
theorem ze (g : Go F n E L (Q (.exit id))) : Go F n E L (Exit.then K Q (.exit id)) := g
theorem zq (g : Go F n E L (Q .normal)) : Go F n E L (Exit.inBlock id Q (.exit id)) := e_eq g
theorem zT (g : Go F n E L (Q .ret)) : Go F n E L (Exit.then K Q .ret) := g
theorem zB (g : Go F n E L (Q .ret)) : Go F n E L (Exit.inBlock id Q .ret) := g
theorem za (g : Go F n E L K) : Go F n E L (wpList P ops (Exit.then K Q) []) := r_nil g
theorem zu {l : List Oper} (g : Go F n E L (wpList P l.toArray (Exit.then (c2.wp P Q) Q) l)) : Go F n E L ((Code.seq (Code.region id l.toArray false) c2).wp P Q) := r_seq (r_region g)
/-- the end of a region; the next one -/
theorem zz {l : List Oper} (g : Go F n E L (wpList P l.toArray (Exit.then (c2.wp P Q) Q) l)) {R : Exit → Act → World → Prop} : Go F n E L (wpList P ops (Exit.then ((Code.seq (Code.region id l.toArray false) c2).wp P Q) R) []) := r_nil (r_seq (r_region g))
theorem zy {l : List Oper} (g : Go F n E L (wpList P l.toArray (Exit.then (c2.wp P Q) Q) l)) {R : Exit → Act → World → Prop} : Go F n E L (Code.skip.wp P (Exit.then ((Code.seq (Code.region id l.toArray false) c2).wp P Q) R)) := r_skip (r_seq (r_region g))
/-- the end of a function -/
theorem zf (g : Go F n E L (Q .ret)) {R : Exit → Act → World → Prop} : Go F n E L (wpList P ops (Exit.then (Code.ret.wp P Q) R) []) := r_nil (r_ret g)

@[reducible] def seg2 (T : Tab) (n : Nat) (ops : Array Oper) (l : List Oper) (E : Env) (k1 k2 : List Nat) : Option (Env × Env) :=
  match runPure T n ops l E with
  | some E1 => (match pickE E1 k1 with
    | some a => (match pickE E1 k2 with
      | some b => some (a, b)
      | none => none)
    | none => none)
  | none => none
theorem get_app {a b : Env} {i : Nat} {t : TV} (h : Env.get (a ++ b) i = some t) : a.get i = some t ∨ b.get i = some t := by
  induction a with
  | nil => exact .inr h
  | cons x a ih =>
    obtain ⟨j, v⟩ := x
    simp only [List.cons_append, Env.get] at h ⊢
    split at h
    · exact .inl h
    · exact ih h
theorem r_pure2 (hT : Tb.chk P = true) {l : List Oper} (k : Nat) {k1 k2 : List Nat} {a b : Env} (h : seg2 Tb n ops (l.take k) E k1 k2 = some (a, b)) (g : Go F n (a ++ b) L (wpList P ops Q (l.drop k))) : Go F n E L (wpList P ops Q l) := by
  intro M ac w c
  unfold seg2 at h
  split at h
  · rename_i E1 h1
    split at h
    · rename_i a' ha
      split at h
      · rename_i b' hb
        simp only [Option.some.injEq, Prod.mk.injEq] at h
        obtain ⟨rfl, rfl⟩ := h
        rw [← List.take_append_drop k l]
        exact run_ok hT h1 c fun ac' c' => g M ac' w (c'.less fun i t hi => (get_app hi).elim (pickE_ok ha i t) (pickE_ok hb i t))
      · cases h
    · cases h
  · cases h
theorem rI {ρ : Type} {i : Nat} {b : Bool} {A B : Option ρ} {r : ρ} (h : (if b = true then A else B) = some r) (he : E.get i = some (.one .bool b)) (hT : b = true → A = some r → Go F n E L (c1.wp P Q)) (hF : b = false → B = some r → Go F n E L (c2.wp P Q)) :
    Go F n E L ((Code.cond (.tmp i) c1 c2).wp P Q) := r_if he (fun hb => hT hb (by rw [if_pos hb] at h; exact h)) (fun hb => hF hb (by rw [if_neg (ne_true_of_eq_false hb)] at h; exact h))

/-! ### resources are told apart -/
@[reducible] def outR : List Res → Nat → Option (Res × List Res)
  | [], _ => none
  | R :: l, 0 => some (R, l)
  | R :: l, i + 1 => match outR l i with
    | some (x, q) => some (x, R :: q)
    | none => none
@[reducible] def takeR : List Res → List Nat → Option (List Res × List Res)
  | l, [] => some ([], l)
  | l, i :: is => match outR l i with
    | some (x, q) => (match takeR q is with
      | some (a, b) => some (x :: a, b)
      | none => none)
    | none => none
theorem outR_perm : ∀ {l : List Res} {i : Nat} {x : Res} {q : List Res}, outR l i = some (x, q) → l.Perm (x :: q)
  | [], _, _, _, h => by simp [outR] at h
  | R :: l, 0, _, _, h => by simp only [outR, Option.some.injEq, Prod.mk.injEq] at h; obtain ⟨rfl, rfl⟩ := h; exact List.Perm.refl _
  | R :: l, i + 1, x, q, h => by
    simp only [outR] at h
    split at h
    · rename_i y s hs
      simp only [Option.some.injEq, Prod.mk.injEq] at h
      obtain ⟨rfl, rfl⟩ := h
      exact (List.Perm.cons R (outR_perm hs)).trans (List.Perm.swap _ _ _)
    · cases h
theorem takeR_perm : ∀ {is : List Nat} {l a b : List Res}, takeR l is = some (a, b) → l.Perm (a ++ b)
  | [], _, _, _, h => by simp only [takeR, Option.some.injEq, Prod.mk.injEq] at h; obtain ⟨rfl, rfl⟩ := h; exact List.Perm.refl _
  | i :: is, l, a, b, h => by
    simp only [takeR] at h
    split at h
    · rename_i x q hq
      split at h
      · rename_i a' b' hab
        simp only [Option.some.injEq, Prod.mk.injEq] at h
        obtain ⟨rfl, rfl⟩ := h
        exact (outR_perm hq).trans (List.Perm.cons x (takeR_perm hab))
      · cases h
    · cases h
/-- of the resources these, in this order -/
theorem pk (is : List Nat) {L' Lo : List Res} (h : takeR L is = some (L', Lo)) (g : Go F n E L' X) : Go F n E L X :=
  r_perm (takeR_perm h) (r_lose (List.sublist_append_left L' Lo) g)

/-! ### calls -/
theorem rc (is : List Nat) {k : FuncId} {args : List TV} {Lc Lo : List Res} {res : Value → TV} {L' : Value → List Res} (hc : Fn P k args Lc res L') (hk : callable P k = true) (hp : takeR L is = some (Lc, Lo)) {xs : List Operand} {tys : Array TypeId} {d : Nat} {ty : TypeId} {pos : String} {after : Array Edge}
    (hx : evs E xs = some args) (hd : Nat.ble (d + 1) n = true) (g : ∀ v, Go F n ((d, res v) :: E) (L' v ++ Lo) (wpList P ops Q rest)) :
    Go F n E L (wpList P ops Q (⟨some d, .call ⟨.value (.func k), xs.toArray, tys⟩, ty, pos, after, none⟩ :: rest)) := r_call hc hk (takeR_perm hp) hx hd g

/-! ### reads and writes of variables -/
theorem yl {x : Operand} {z : Value} {b off : Nat} {e : TypeId} {t u : T} {xv : t.D} {tid : TypeId} (i : Nat) (p : Pth t u) (ht : tyChk P u tid = true) (hx : ev E x = some (.one (.raw z) (.pointer (some ⟨b, off, none⟩)))) (hi : L[i]? = some (Res.var b e t xv)) (hp : p.off = off) (hok : p.ok)
    {d : Nat} {ty : TypeId} {pos : String} {after : Array Edge} (hd : Nat.ble (d + 1) n = true) (g : Go F n ((d, .one u (p.get xv)) :: E) L (wpList P ops Q rest)) :
    Go F n E L (wpList P ops Q (⟨some d, .load tid x, ty, pos, after, none⟩ :: rest)) := y (y_load i p hx hi hp hok ht) hd g
theorem st {x y' : Operand} {z : Value} {b off : Nat} {e : TypeId} {t u : T} {xv : t.D} {yv : u.D} {tid : TypeId} {ty : TypeId} {pos : String} {after : Array Edge} (i : Nat) (p : Pth t u) (ht : tyChk P u tid = true) (hx : ev E x = some (.one (.raw z) (.pointer (some ⟨b, off, none⟩)))) (hy : ev E y' = some (.one u yv)) (hi : L[i]? = some (Res.var b e t xv))
    (hp : p.off = off) (hok : p.ok) (g : Go F n E (L.set i (Res.var b e t (p.set xv yv))) (wpList P ops Q rest)) : Go F n E L (wpList P ops Q (⟨none, .store tid x y', ty, pos, after, none⟩ :: rest)) := r_store i p hx hy hi hp hok ht g

theorem jK {σ γ ρ : Type} {v : σ → Option ρ} {body : (σ → Option ρ) → Option ρ} {r : ρ} (h : bnd v body = some r) (E' : σ → γ → Env) (L' : σ → γ → List Res) (h1 : ∀ k, body k = some r → Go F n E L (c1.wp P (Exit.then (MeetK F n E' L' k r) Q))) (h2 : ∀ s g, v s = some r → Go F n (E' s g) (L' s g) (c2.wp P Q)) :
    Go F n E L ((Code.seq c1 c2).wp P Q) := by
  obtain ⟨k, hk, h⟩ := bnd_ex h
  exact r_joink E' L' k r (h1 k h) fun s g hs => h2 s g (by rw [← hk] at hs; exact hs)
end
end Sx
namespace Sx
open Go

/-- several as one -/
def Res.all (L : List Res) : Res where
  sat M S w := Sep M w L S
  mono h := Sep.mono h
  loc h := Sep.loc h
  has := Sep.has
/-- one of many -/
def Res.ex {γ : Type} (f : γ → Res) : Res where
  sat M S w := ∃ g, (f g).sat M S w
  mono h := fun ⟨g, s⟩ => ⟨g, (f g).mono h s⟩
  loc h := fun ⟨g, s⟩ => ⟨g, (f g).loc h s⟩
  has := fun ⟨g, s⟩ => (f g).has s
/-- a fact -/
def Res.fact (p : Prop) : Res where
  sat _ S _ := p ∧ ∀ k, ¬ S k
  mono _ := id
  loc _ := id
  has := fun h k hk => absurd hk (h.2 k)

theorem Sep.all_to {M : Mem} {w : World} {L1 L2 : List Res} {V : Nat → Prop} : Sep M w (Res.all L1 :: L2) V → Sep M w (L1 ++ L2) V := fun ⟨_, _, a, b, d, e⟩ =>
  Sep.eqv (fun k => (e k).symm) (Sep.append a b d)
theorem St.sep_to {F : Fr} {M : Mem} {w : World} {L L' : List Res} (h : St F M w L) (f : ∀ V, Sep M w L V → Sep M w L' V) : St F M w L' :=
  { h with sep := let ⟨V, s, d⟩ := h.sep; ⟨V, f V s, d⟩ }

section
variable {F : Fr} {n : Nat} {E : Env} {L L1 : List Res} {X : Act → World → Prop}
theorem r_unall (g : Go F n E (L1 ++ L) X) : Go F n E (Res.all L1 :: L) X := fun M a w c => g M a w { c with st := c.st.sep_to fun _ => Sep.all_to }
theorem r_unex {γ : Type} {f : γ → Res} (g : ∀ x, Go F n E (f x :: L) X) : Go F n E (Res.ex f :: L) X := fun M a w c => by
  obtain ⟨V, ⟨S, V', ⟨x, r⟩, s, d, e⟩, dd⟩ := c.st.sep
  exact g x M a w { c with st := { c.st with sep := ⟨V, ⟨S, V', r, s, d, e⟩, dd⟩ } }
theorem r_unfact {p : Prop} (g : p → Go F n E L X) : Go F n E (Res.fact p :: L) X := fun M a w c => by
  obtain ⟨V, ⟨S, V', ⟨hp, hS⟩, s, d, e⟩, dd⟩ := c.st.sep
  refine g hp M a w { c with st := { c.st with sep := ⟨V, ?_, dd⟩ } }
  exact Sep.eqv (fun k => by rw [e k]; exact ⟨.inr, fun h => h.elim (fun x => absurd x (hS k)) id⟩) s
theorem r_fact {p : Prop} (hp : p) (g : Go F n E (Res.fact p :: L) X) : Go F n E L X := fun M a w c => g M a w { c with st := c.st.free ⟨hp, fun _ h => h⟩ }
end

/-- what hangs on no memory that stays -/
def Res.free (R : Res) : Prop := ∀ M M' S w, R.sat M S w → R.sat M' S w
end Sx
namespace Sx
open Go Go.Maps

/-! ### Keys -/
def klit : (kt : T) → kt.D → Lit
  | .int k, n => .int k n
  | .str, s => .string ((show List Int from s).map fun c => UInt8.ofNat c.toNat)
  | .bool, _ => .bool false | .unit, _ => .bool false | .raw _, _ => .bool false | .pair _ _, _ => .bool false | .arr _ _, _ => .bool false | .sl _ _, _ => .bool false
def kok : (kt : T) → kt.D → Prop
  | .int k, n => rng k n
  | .str, s => byteOk s ∧ List.length s ≤ most
  | .bool, _ => False | .unit, _ => False | .raw _, _ => False | .pair _ _, _ => False | .arr _ _, _ => False | .sl _ _, _ => False
def sLt : List Int → List Int → Bool
  | [], [] => false
  | [], _ :: _ => true
  | _ :: _, [] => false
  | a :: r, b :: s => decide (a < b) || (a == b && sLt r s)
def klt : (kt : T) → kt.D → kt.D → Bool
  | .int _, a, b => decide ((show Int from a) < b)
  | .str, a, b => sLt a b
  | .bool, _, _ => false | .unit, _, _ => false | .raw _, _, _ => false | .pair _ _, _, _ => false | .arr _ _, _, _ => false | .sl _ _, _, _ => false
def keq : (kt : T) → kt.D → kt.D → Bool
  | .int _, a, b => (show Int from a) == b
  | .str, a, b => (show List Int from a) == b
  | .bool, _, _ => false | .unit, _, _ => false | .raw _, _, _ => false | .pair _ _, _, _ => false | .arr _ _, _, _ => false | .sl _ _, _, _ => false

/-! ### Plain maps: sorted lists -/
def pins (kt : T) {V : Type} (k : kt.D) (v : V) : List (kt.D × V) → List (kt.D × V)
  | [] => [(k, v)]
  | y :: r => if klt kt k y.1 then (k, v) :: y :: r else y :: pins kt k v r
def pdel (kt : T) {V : Type} (k : kt.D) (l : List (kt.D × V)) : List (kt.D × V) := l.filter fun p => !keq kt p.1 k
def pput (kt : T) {V : Type} (k : kt.D) (v : V) (l : List (kt.D × V)) : List (kt.D × V) := pins kt k v (pdel kt k l)
def pget (kt : T) {V : Type} (k : kt.D) (l : List (kt.D × V)) : Option V := (l.find? fun p => keq kt p.1 k).map (·.2)

abbrev dat (kt : T) (l : List (kt.D × Value)) : DataW Value := .map (l.map fun p => (klit kt p.1, .held p.2))
def koks (kt : T) {V : Type} (l : List (kt.D × V)) : Prop := ∀ p ∈ l, kok kt p.1

/-! ### Held as values -/
def RelKV {kt vt : T} (M : Mem) : List (kt.D × Value) → List (kt.D × vt.D) → Prop
  | [], [] => True
  | p :: r, q :: s => p.1 = q.1 ∧ Holds vt M p.2 q.2 ∧ RelKV M r s
  | _, _ => False
theorem RelKV.mono {kt vt : T} {M M' : Mem} (h : M.le M') : ∀ {a : List (kt.D × Value)} {b : List (kt.D × vt.D)}, RelKV M a b → RelKV M' a b
  | [], [], _ => trivial
  | _ :: _, _ :: _, ⟨h1, h2, h3⟩ => ⟨h1, h2.mono h, RelKV.mono h h3⟩
  | [], _ :: _, h => h.elim
  | _ :: _, [], h => h.elim
theorem RelKV.any {kt vt : T} {M M' : Mem} (hf : vt.flat = true) : ∀ {a : List (kt.D × Value)} {b : List (kt.D × vt.D)}, RelKV M a b → RelKV M' a b
  | [], [], _ => trivial
  | _ :: _, _ :: _, ⟨h1, h2, h3⟩ => ⟨h1, h2.any hf, RelKV.any hf h3⟩
  | [], _ :: _, h => h.elim
  | _ :: _, [], h => h.elim
theorem RelKV.len {kt vt : T} {M : Mem} : ∀ {a : List (kt.D × Value)} {b : List (kt.D × vt.D)}, RelKV M a b → a.length = b.length
  | [], [], _ => rfl
  | _ :: _, _ :: _, ⟨_, _, h3⟩ => by simp [RelKV.len h3]
  | [], _ :: _, h => h.elim
  | _ :: _, [], h => h.elim
theorem RelKV.koks {kt vt : T} {M : Mem} : ∀ {a : List (kt.D × Value)} {b : List (kt.D × vt.D)}, RelKV M a b → koks kt b → koks kt a
  | [], [], _, _ => fun p hp => by cases hp
  | p :: r, q :: s, ⟨h1, _, h3⟩, h => fun x hx => by
    rcases List.mem_cons.1 hx with rfl | hx
    · rw [h1]; exact h q (by simp)
    · exact RelKV.koks h3 (fun y hy => h y (by simp [hy])) x hx
  | [], _ :: _, h, _ => h.elim
  | _ :: _, [], h, _ => h.elim
theorem RelKV.del {kt vt : T} {M : Mem} (k : kt.D) : ∀ {a : List (kt.D × Value)} {b : List (kt.D × vt.D)}, RelKV M a b → RelKV M (pdel kt k a) (pdel kt k b)
  | [], [], _ => trivial
  | p :: r, q :: s, ⟨h1, h2, h3⟩ => by
    have ih := RelKV.del k h3
    simp only [pdel, List.filter_cons, h1] at ih ⊢
    split
    · exact ⟨h1, h2, ih⟩
    · exact ih
  | [], _ :: _, h => h.elim
  | _ :: _, [], h => h.elim
theorem RelKV.ins {kt vt : T} {M : Mem} (k : kt.D) {v : Value} {x : vt.D} (hv : Holds vt M v x) : ∀ {a : List (kt.D × Value)} {b : List (kt.D × vt.D)}, RelKV M a b → RelKV M (pins kt k v a) (pins kt k x b)
  | [], [], _ => ⟨rfl, hv, trivial⟩
  | p :: r, q :: s, ⟨h1, h2, h3⟩ => by
    have ih := RelKV.ins k hv h3
    simp only [pins, h1]
    split
    · exact ⟨rfl, hv, h1, h2, h3⟩
    · exact ⟨h1, h2, ih⟩
  | [], _ :: _, h => h.elim
  | _ :: _, [], h => h.elim
theorem RelKV.put {kt vt : T} {M : Mem} (k : kt.D) {v : Value} {x : vt.D} (hv : Holds vt M v x) {a : List (kt.D × Value)} {b : List (kt.D × vt.D)} (h : RelKV M a b) : RelKV M (pput kt k v a) (pput kt k x b) := (h.del k).ins k hv
theorem RelKV.get {kt vt : T} {M : Mem} (k : kt.D) : ∀ {a : List (kt.D × Value)} {b : List (kt.D × vt.D)}, RelKV M a b → (pget kt k a = none ∧ pget kt k b = none) ∨ ∃ v x, pget kt k a = some v ∧ pget kt k b = some x ∧ Holds vt M v x
  | [], [], _ => .inl ⟨rfl, rfl⟩
  | p :: r, q :: s, ⟨h1, h2, h3⟩ => by
    have ih := RelKV.get k h3
    simp only [pget, List.find?_cons, h1] at ih ⊢
    cases keq kt q.1 k with
    | true => exact .inr ⟨p.2, q.2, rfl, rfl, h2⟩
    | false => exact ih
  | [], _ :: _, h => h.elim
  | _ :: _, [], h => h.elim

def rawR (v : Value) : Option (DataW Value × List MemPlace) := some (.held v, [])

/-- a map of the call's own -/
def Res.map (P : Program) (kid : TypeId) (kt vt : T) (v : Value) (l : List (kt.D × vt.D)) : Res where
  sat M S w := ∃ b lv, v = .map (some b) ∧ (∀ k, S k ↔ k = b) ∧ w.ownsMap P kid rawR b l.length (dat kt lv) ∧ RelKV M lv l ∧ koks kt l
  mono h := fun ⟨b, lv, h1, h2, h3, h4, h5⟩ => ⟨b, lv, h1, h2, h3, h4.mono h, h5⟩
  loc h := fun ⟨b, lv, h1, h2, ⟨es, clock, g1, g2⟩, h4⟩ => ⟨b, lv, h1, h2, ⟨es, clock, by rw [h b ((h2 b).2 rfl)]; exact g1, g2⟩, h4⟩
  has := fun ⟨b, lv, _, h2, h3, _⟩ k hk => by obtain rfl := (h2 k).1 hk; exact h3.lt
end Sx
namespace Sx
open Go Go.Maps

section
variable {P : Program} {Tb : Tab} {F : Fr} {n : Nat} {E E' : Env} {L : List Res} {ops : Array Oper} {Q : Exit → Act → World → Prop} {rest : List Oper}

end
end Sx
namespace Sx
open Go Go.Maps

/-- an iterator over a map: 'todo' are the keys still to come, 'cur' the entry that came last -/
def Res.iter (P : Program) (kid : TypeId) (kt vt : T) (v it : Value) (l : List (kt.D × vt.D)) (todo : List kt.D) (cur : Option (kt.D × vt.D)) : Res where
  sat M S w := ∃ b r lv left cnt, v = .map (some b) ∧ it = .pointer (some ⟨r, 0, none⟩) ∧ (∀ k, S k ↔ (k = b ∨ k = r)) ∧ w.ranges P kid rawR b r l.length (dat kt lv) left cnt ∧ RelKV M lv l ∧ koks kt l ∧
    todo.Nodup ∧ (∀ k, kok kt k → (left (klit kt k) = true ↔ k ∈ todo)) ∧ (∀ k ∈ todo, kok kt k ∧ (pget kt k l).isSome) ∧
    ∀ p, cur = some p → ∃ kv xv, Holds kt M kv p.1 ∧ Holds vt M xv p.2 ∧ ∀ w' : World, w'.heap[b]? = w.heap[b]? → w'.heap[r]? = w.heap[r]? → (Instr.entry it).run P w' = .ok (.tuple #[kv, xv]) w'
  mono h := fun ⟨b, r, lv, left, cnt, h1, h2, h3, h4, h5, h6, h7, h8, h9, h10⟩ => ⟨b, r, lv, left, cnt, h1, h2, h3, h4, h5.mono h, h6, h7, h8, h9, fun p hp => let ⟨kv, xv, a, c, d⟩ := h10 p hp; ⟨kv, xv, a.mono h, c.mono h, d⟩⟩
  loc h := fun ⟨b, r, lv, left, cnt, h1, h2, h3, ⟨es, clock, since, seen, c0, g1, g2, g3, g4, g5, g6⟩, h5, h6, h7, h8, h9, h10⟩ => by
    have eb := h b ((h3 b).2 (.inl rfl))
    have er := h r ((h3 r).2 (.inr rfl))
    exact ⟨b, r, lv, left, cnt, h1, h2, h3, ⟨es, clock, since, seen, c0, by rw [eb]; exact g1, g2, g3, g4, by rw [er]; exact g5, g6⟩, h5, h6, h7, h8, h9, fun p hp =>
      let ⟨kv, xv, a, c, d⟩ := h10 p hp; ⟨kv, xv, a, c, fun w' e1 e2 => d w' (by rw [e1, eb]) (by rw [e2, er])⟩⟩
  has := fun ⟨b, r, lv, left, cnt, _, _, h3, h4, _⟩ k hk => by
    rcases (h3 k).1 hk with rfl | rfl
    · exact h4.owns.lt
    · exact h4.lt

def Res.block (b : Nat) (o : Obj) : Res where
  sat _ S w := (∀ k, S k ↔ k = b) ∧ w.heap[b]? = some o
  mono _ := id
  loc h := fun ⟨h1, h2⟩ => ⟨h1, by rw [h b ((h1 b).2 rfl)]; exact h2⟩
  has := fun ⟨h1, h2⟩ k hk => by obtain rfl := (h1 k).1 hk; exact heap_lt h2

section
variable {P : Program} {F : Fr} {n : Nat} {E E' : Env} {L : List Res} {ops : Array Oper} {Q : Exit → Act → World → Prop} {rest : List Oper}

end
end Sx
namespace Sx
open Go

/-! ### Plain maps, whatever they hold -/
def pmap {K V W : Type} (f : V → W) (l : List (K × V)) : List (K × W) := l.map fun e => (e.1, f e.2)
/-! ### The disk -/
/-- seen, safe, dirty sectors -/
abbrev FileS := List Int × List Int × List Int
/-- capacity, files, armed, what, falls, off, open -/
abbrev DiskS := Int × List (List Int × FileS) × Int × Int × Int × Bool × Bool

/-- the numbers of the types -/
structure DI where
  disk : TypeId
  file : TypeId
  str : TypeId
  int : TypeId
  byte : TypeId

@[reducible] def FT : T := .pair (.raw (.slice none 0 0)) (.pair (.raw (.slice none 0 0)) (.pair (.raw (.map none)) .unit))
@[reducible] def DT : T := .pair (.int .i64) (.pair (.raw (.map none)) (.pair (.int .i64) (.pair (.int .i64) (.pair (.int .i64) (.pair .bool (.pair .bool .unit))))))
abbrev NV : Value := .pointer none

section
variable (P : Program) (I : DI)
def Res.dirty (v : Value) (keys : List Int) : Res := Res.ex fun (l : List (Int × Int)) => Res.all [Res.fact (l.map (·.1) = keys), Res.map P I.int (.int .i64) (.int .i64) v l]
/-- a file whose parts are told -/
def Res.file (p : Value) (f : FileS) : Res := Res.ex fun (g : Nat × Value × Value × Value) => Res.all [Res.fact (p = .pointer (some ⟨g.1, 0, none⟩)), Res.var g.1 I.file FT (g.2.1, g.2.2.1, g.2.2.2, ()),
  Res.own g.2.1 I.byte (.int .u8) f.1, Res.own g.2.2.1 I.byte (.int .u8) f.2.1, Res.dirty P I g.2.2.2 f.2.2]
def Res.files (es : List (List Int × Value × FileS)) : Res := Res.all (es.map fun e => Res.file P I e.2.1 e.2.2)
def Res.dmap (mv : Value) (es : List (List Int × Value × FileS)) : Res := Res.map P I.str .str (.raw NV) mv (pmap (fun y => y.1) es)
end

section
variable {P : Program} {I : DI} {F : Fr} {n : Nat} {E : Env} {L : List Res} {X : Act → World → Prop}

end
end Sx
namespace Sx
open Go

/-- where the file of that name lies -/
def fptr (es : List (List Int × Value × FileS)) (name : List Int) : Value := (pget .str name (pmap (fun y => y.1) es)).getD NV

section
variable (P : Program) (I : DI)
def Res.dfiles (mv : Value) (fs : List (List Int × FileS)) : Res := Res.ex fun (es : List (List Int × Value × FileS)) => Res.all [Res.fact (fs = pmap (fun y => y.2) es), Res.dmap P I mv es, Res.files P I es]
/-- .. where that of one name is known to lie -/
def Res.dat (mv : Value) (fs : List (List Int × FileS)) (name : List Int) (q : Value) : Res := Res.ex fun (es : List (List Int × Value × FileS)) =>
  Res.all [Res.fact (fs = pmap (fun y => y.2) es ∧ fptr es name = q), Res.dmap P I mv es, Res.files P I es]
end

section
variable {P : Program} {I : DI} {Tb : Tab} {F : Fr} {n : Nat} {E E' : Env} {L : List Res} {X : Act → World → Prop} {ops : Array Oper} {Q : Exit → Act → World → Prop} {rest : List Oper}

/-- a resource at its place is another one -/
theorem Sep.imp_at {M : Mem} {w : World} {R R' : Res} (h : ∀ S, R.sat M S w → R'.sat M S w) : ∀ {L : List Res} {i : Nat} {V : Nat → Prop}, Sep M w L V → L[i]? = some R → Sep M w (L.set i R') V
  | [], i, _, _, hi => by simp at hi
  | R0 :: L, 0, V, ⟨S, V', r, s, d, e⟩, hi => by
    simp only [List.getElem?_cons_zero, Option.some.injEq] at hi; subst hi
    exact ⟨S, V', h S r, s, d, e⟩
  | R0 :: L, i + 1, V, ⟨S, V', r, s, d, e⟩, hi => ⟨S, V', r, Sep.imp_at h s (by simpa using hi), d, e⟩
theorem r_imp_at {R R' : Res} (i : Nat) (hi : L[i]? = some R) (h : ∀ M S w, R.sat M S w → R'.sat M S w) (g : Go F n E (L.set i R') X) : Go F n E L X := fun M a w c =>
  g M a w { c with st := c.st.sep_to fun _ hs => Sep.imp_at (fun S => h M S w) hs hi }

theorem sep_fact {M : Mem} {w : World} {p : Prop} (hp : p) {L : List Res} {S : Nat → Prop} (h : Sep M w L S) : Sep M w (Res.fact p :: L) S :=
  ⟨fun _ => False, S, ⟨hp, fun _ h => h⟩, h, fun _ h => h.elim, fun k => ⟨.inr, fun h => h.elim False.elim id⟩⟩

end
end Sx
namespace Sx
open Go

section
variable {P : Program} {Tb : Tab} {F : Fr} {n : Nat} {E E' : Env} {L : List Res} {ops : Array Oper} {Q : Exit → Act → World → Prop} {rest : List Oper} {X : Act → World → Prop}

end
end Sx
namespace Sx
open Go

/-- a value is a piece of what is owned, and holds xs -/
def Sub (L : List Res) (v : Value) (e : TypeId) (t : T) (xs : List t.D) : Prop := ∀ F M w, St F M w L → Rep (.sl e t) (heapOf w) [v] xs

section
variable {P : Program} {Tb : Tab} {F : Fr} {n : Nat} {E E' : Env} {L : List Res} {ops : Array Oper} {Q : Exit → Act → World → Prop} {rest : List Oper} {X : Act → World → Prop}

/-- what a call is lent -/
inductive LendAll (E : Env) (L : List Res) : List Operand → List TV → Prop
  | nil : LendAll E L [] []
  | val {x : Operand} {t : TV} {l : List Operand} {ts : List TV} (h : ev E x = some t) (r : LendAll E L l ts) : LendAll E L (x :: l) (t :: ts)
  | sub {x : Operand} {z v : Value} {e : TypeId} {t : T} {xs : List t.D} {l : List Operand} {ts : List TV} (h : ev E x = some (.one (.raw z) v)) (hs : Sub L v e t xs) (r : LendAll E L l ts) : LendAll E L (x :: l) (.one (.sl e t) xs :: ts)
end
end Sx
namespace Sx
open Go

/-- a call's answer that may be a break -/
def pb {α β : Type} (o : Option α) (k : α → Option (Option β)) : Option (Option β) := match o with
  | none => some none
  | some x => k x

/-- how a call ends that may break: 'ch' is what it breaks with -/
def PostE (F : Fr) {ρ : Type} (out : Option ρ) (res : ρ → Value → TV) (L' : ρ → Value → List Res) (ch : Value) : Ending → World → Prop := match out with
  | some r => Post F (res r) (L' r)
  | none => fun e w' => e = .panicked [{ v := ch, recovered := false }] ∧ ∃ M', St F M' w' []

def FnE (P : Program) (k : FuncId) (args : List TV) (L : List Res) {ρ : Type} (out : Option ρ) (res : ρ → Value → TV) (L' : ρ → Value → List Res) (ch : Value) : Prop :=
  ∀ F w vs, St F F.base w L → F.size = w.heap.size → HoldAll F.base args vs → Calls P k vs.toArray w (PostE F out res L' ch)

/-- into a function, whatever is wanted behind it -/
theorem enterX {P : Program} {k : FuncId} {fn : Func} {body : Code} {args : List TV} {L : List Res} {R : Ending → World → Prop} {F : Fr} (hf : P.funcs[k]? = some fn) (hb : fn.body = some body) (n : Nat) (hn : fn.ntmps = n)
    (ha : Nat.ble args.length n = true) (g : Go (Fr.nd F) n (argEnv 0 args) L (body.wp P (bodyPost P fn R))) {w : World} {vs : List Value} (hst : St F F.base w L) (hargs : HoldAll F.base args vs) : Calls P k vs.toArray w R := by
  refine calls_of_wp hf hb ?_
  refine g F.base _ _ ⟨hst.nd, rfl, ?_, ?_⟩
  · have := hargs.length
    have := Nat.le_of_ble_eq_true ha
    simp [hn]; omega
  · intro i t h
    obtain ⟨j, v, e, hv, ht⟩ := argEnv_get hargs h
    refine ⟨v, ?_, ht⟩
    have hj : j < vs.length := by
      rcases Nat.lt_or_ge j vs.length with h | h
      · exact h
      · simp [List.getElem?_eq_none h] at hv
    simp only [Nat.zero_add] at e; subst e
    have hv' : vs[i] = v := by simpa [hj] using hv
    simp [Array.getElem?_append, hj, hv']
theorem enterE {P : Program} {k : FuncId} {fn : Func} {body : Code} {args : List TV} {L : List Res} {ρ : Type} {out : Option ρ} {res : ρ → Value → TV} {L' : ρ → Value → List Res} {ch : Value} (hf : P.funcs[k]? = some fn) (hb : fn.body = some body) (n : Nat) (hn : fn.ntmps = n)
    (ha : Nat.ble args.length n = true) (g : ∀ F, Go (Fr.nd F) n (argEnv 0 args) L (body.wp P (bodyPost P fn (PostE F out res L' ch)))) : FnE P k args L out res L' ch :=
  fun F _ _ hst _ hargs => enterX hf hb n hn ha (g F) hst hargs

/-- a break goes through -/
class Brk (F : Fr) (n : Nat) (Q : Exit → Act → World → Prop) (ch : Value) (c : Prop) : Prop where
  ok : c → ∀ L, Go F n [] L (Q (.panic [{ v := ch, recovered := false }]))
section
variable {P : Program} {Tb : Tab} {F : Fr} {n : Nat} {E : Env} {L : List Res} {ops : Array Oper} {Q : Exit → Act → World → Prop} {rest : List Oper} {K : Act → World → Prop} {ch : Value} {c : Prop}
instance [h : Brk F n Q ch c] : Brk F n (Exit.then K Q) ch c := ⟨fun hc L => h.ok hc L⟩
instance {id : Nat} [h : Brk F n Q ch c] : Brk F n (Exit.inBlock id Q) ch c := ⟨fun hc L => h.ok hc L⟩
instance {fn : Func} {ρ : Type} {out : Option ρ} {res : ρ → Value → TV} {L' : ρ → Value → List Res} : Brk (Fr.nd F) n (bodyPost P fn (PostE F out res L' ch)) ch (out = none) := ⟨fun hc L M a w g => by
  subst hc
  exact ⟨g.defers, rfl, M, g.st.un.lose (List.nil_sublist _)⟩⟩

theorem xN {fn : Func} {ρ : Type} {x : ρ} {res : ρ → Value → TV} {L' : ρ → Value → List Res} {e : Exit} (g : Go (Fr.nd F) n E L (bodyPost P fn (Post F (res x) (L' x)) e)) : Go (Fr.nd F) n E L (bodyPost P fn (PostE F (some x) res L' ch) e) := g

/-- the break itself -/
theorem r_panic {x : Operand} {z : Value} {t : TypeId} {v : Value} {ty : TypeId} {pos : String} {after : Array Edge} {d : Option Nat} [hb : Brk F n Q (.iface t v) c] (hc : c) (hx : ev E x = some (.one (.raw z) (.iface t v))) :
    Go F n E L (wpList P ops Q (⟨d, .panic x, ty, pos, after, none⟩ :: rest)) := fun M a w g => by
  unfold wpList
  rw [if_pos (by simp [Region.wanted])]
  left
  unfold Oper.wp
  have e1 := (holds_raw.1 (ev_ok g hx)).1
  have hrun : (execOp a.eval ⟨d, .panic x, ty, pos, after, none⟩).run P w = .halt (.panic (.iface t v)) w := by
    simp only [execOp, e1]
    rfl
  rw [hrun]
  exact hb.ok hc L M a w { g with env := fun i t h => by simp [Env.get] at h }

/-- a call that may break -/
theorem rcE (is : List Nat) {k : FuncId} {args : List TV} {Lc Lo : List Res} {ρ σ : Type} {out : Option ρ} {res : ρ → Value → TV} {L' : ρ → Value → List Res} {kf : ρ → Option (Option σ)} {ro : Option σ} (hc : FnE P k args Lc out res L' ch) (h : pb out kf = some ro) (hk : callable P k = true) (hp : takeR L is = some (Lc, Lo)) {xs : List Operand} {tys : Array TypeId} {d : Nat} {ty : TypeId} {pos : String} {after : Array Edge}
    (hx : evs E xs = some args) (hd : Nat.ble (d + 1) n = true) [hb : Brk F n Q ch (ro = none)] (g : ∀ r, kf r = some ro → ∀ v, Go F n ((d, res r v) :: E) (L' r v ++ Lo) (wpList P ops Q rest)) :
    Go F n E L (wpList P ops Q (⟨some d, .call ⟨.value (.func k), xs.toArray, tys⟩, ty, pos, after, none⟩ :: rest)) := fun M a w c => by
  unfold wpList
  rw [if_pos (by simp [Region.wanted])]
  left
  unfold Oper.wp
  have hrun : (execOp a.eval ⟨some d, .call ⟨.value (.func k), xs.toArray, tys⟩, ty, pos, after, none⟩).run P w = .ok (.enter k (xs.map a.eval).toArray) w := by
    simp only [execOp, resolve, run_bind, run_pure, Act.eval, Deferred.ofValue, invoke]
    rw [run_callFunc hk]
    simp
  rw [hrun, Oper.upon_enter]
  have st := c.st.perm (takeR_perm hp)
  obtain ⟨F', hb', hs, st', hback⟩ := st.part
  have := hc F' w (xs.map a.eval) (by rw [hb']; exact st') hs (by rw [hb']; exact evs_ok c hx)
  refine this.mono ?_
  cases out with
  | some r =>
    rintro e w' ⟨v, M', rfl, st2, hv⟩
    obtain ⟨hle, st3⟩ := hback _ _ _ st2
    exact g r h v M' _ _ (c.put hle st3 (Nat.le_of_ble_eq_true hd) hv)
  | none =>
    rintro e w' ⟨rfl, M', st2⟩
    obtain ⟨hle, st3⟩ := hback _ _ _ st2
    exact hb.ok (Option.some.inj h).symm _ M' a w' ⟨st3, c.defers, c.size, fun i t h => by simp [Env.get] at h⟩

/-- an empty struct as an interface's value -/
theorem y_iface {R : World → World → Prop} {tid : TypeId} {x : Operand} (hx : ev E x = some (.one .unit ())) (hu : P.underlying tid = some (.struct #[])) : Yields R P F n E L (.makeInterface tid x) (.one (.raw .nilIface) (.iface tid (.agg #[]))) := fun o ho M a w c => by
  obtain ⟨cs, e, hr⟩ := ev_ok c hx
  refine ⟨.iface tid (.agg #[]), holds_raw.2 ⟨rfl, rfl⟩, fun w' _ => ?_⟩
  have e0 : cs = [] := hr
  subst e0
  have e1 : a.eval x = .agg #[] := e
  have hv : (Instr.makeInterface tid (a.eval x)).run P w' = .ok (.iface tid (.agg #[])) w' := by
    unfold Instr.makeInterface
    rw [e1]
    simp only [run_bind, run_underlying hu]
    rfl
  obtain ⟨od, oo, ot, op, oa, og⟩ := o
  simp only at ho
  subst ho
  simp only [execOp]
  exact run_val hv
end
end Sx
namespace Sx
open Go Go.RowKit

/-- the blocks of a world in which the tables stand as laid lie in the memory -/
def TabM (P : Program) (tabs : List (String × IntKind × List Int)) (M : Mem) : Prop :=
  ∃ w0 : World, w0.ShapedOpen P ∧ (∀ x ∈ tabs, Lib.TabIs P w0 x.1 x.2.1 x.2.2) ∧ (begin P (fun _ _ => 0) default).world.heap.size ≤ w0.heap.size ∧ P.globals.size ≤ w0.heap.size ∧ ∀ k o, w0.heap[k]? = some o → M k = some o
theorem TabM.mono {P : Program} {tabs : List (String × IntKind × List Int)} {M M' : Mem} (hl : M.le M') (h : TabM P tabs M) : TabM P tabs M' := by
  obtain ⟨w0, h1, h2, h3, h4, h5⟩ := h
  exact ⟨w0, h1, h2, h3, h4, fun k o hk => hl k o (h5 k o hk)⟩

variable {P : Program} {tabs : List (String × IntKind × List Int)}
/-- a world that holds the memory is of that shape -/
theorem TabM.shaped {M : Mem} (h : TabM P tabs M) {w : World} (hw : ∀ k o, M k = some o → w.heap[k]? = some o) : w.ShapedOpen P := by
  obtain ⟨w0, ⟨g1, g2⟩, _, h3, h4, h5⟩ := h
  have he : ∀ k, k < w0.heap.size → w.heap[k]? = w0.heap[k]? := fun k hk => by
    rw [Array.getElem?_eq_getElem hk]
    exact hw k _ (h5 k _ (Array.getElem?_eq_getElem hk))
  refine ⟨fun g zero t hg hz => ?_, fun k hk1 hk2 => ?_⟩
  · obtain ⟨cs, c1, c2, c3⟩ := g1 g zero t hg hz
    refine ⟨cs, by rw [he g (Nat.lt_of_lt_of_le hg h4)]; exact c1, c2, fun hb => Row.ok_of_shape (fun b x hx => ?_) (c3 hb)⟩
    rcases Nat.lt_or_ge b w0.heap.size with hb' | hb'
    · unfold World.shape? at hx ⊢
      rw [he b hb']; exact hx
    · simp [World.shape?, Array.getElem?_eq_none hb'] at hx
  · obtain ⟨o, o0, c1, c2, c3⟩ := g2 k hk1 hk2
    exact ⟨o, o0, by rw [he k (Nat.lt_of_lt_of_le hk2 h3)]; exact c1, c2, c3⟩
theorem TabM.tab {M : Mem} (h : TabM P tabs M) {w : World} (hw : ∀ k o, M k = some o → w.heap[k]? = some o) {x : String × IntKind × List Int} (hx : x ∈ tabs) : Lib.TabIs P w x.1 x.2.1 x.2.2 := by
  obtain ⟨w0, _, h2, _, _, h5⟩ := h
  have := h2 x hx
  unfold Lib.TabIs World.var? at this ⊢
  cases hg : P.globalNamed x.1 with
  | none => rw [hg] at this; cases this
  | some g =>
    rw [hg] at this
    simp only [Option.bind_some] at this ⊢
    cases ho : w0.heap[g]? with
    | none => rw [ho] at this; cases this
    | some o =>
      rw [ho] at this
      rw [hw g o (h5 g o ho)]
      exact this

/-! ### contracts under the tables -/
def FnT (P : Program) (tabs : List (String × IntKind × List Int)) (k : FuncId) (args : List TV) (L : List Res) (res : Value → TV) (L' : Value → List Res) : Prop :=
  ∀ F w vs, TabM P tabs F.base → St F F.base w L → F.size = w.heap.size → HoldAll F.base args vs → Calls P k vs.toArray w (Post F res L')
def FnET (P : Program) (tabs : List (String × IntKind × List Int)) (k : FuncId) (args : List TV) (L : List Res) {ρ : Type} (out : Option ρ) (res : ρ → Value → TV) (L' : ρ → Value → List Res) (ch : Value) : Prop :=
  ∀ F w vs, TabM P tabs F.base → St F F.base w L → F.size = w.heap.size → HoldAll F.base args vs → Calls P k vs.toArray w (PostE F out res L' ch)
theorem enterT {k : FuncId} {fn : Func} {body : Code} {args : List TV} {L : List Res} {res : Value → TV} {L' : Value → List Res} (hf : P.funcs[k]? = some fn) (hb : fn.body = some body) (n : Nat) (hn : fn.ntmps = n)
    (ha : Nat.ble args.length n = true) (g : ∀ F, TabM P tabs F.base → Go (Fr.nd F) n (argEnv 0 args) L (body.wp P (bodyPost P fn (Post F res L')))) : FnT P tabs k args L res L' := fun F _ _ hT hst _ hargs => enterX hf hb n hn ha (g F hT) hst hargs
theorem enterET {k : FuncId} {fn : Func} {body : Code} {args : List TV} {L : List Res} {ρ : Type} {out : Option ρ} {res : ρ → Value → TV} {L' : ρ → Value → List Res} {ch : Value} (hf : P.funcs[k]? = some fn) (hb : fn.body = some body) (n : Nat) (hn : fn.ntmps = n)
    (ha : Nat.ble args.length n = true) (g : ∀ F, TabM P tabs F.base → Go (Fr.nd F) n (argEnv 0 args) L (body.wp P (bodyPost P fn (PostE F out res L' ch)))) : FnET P tabs k args L out res L' ch := fun F _ _ hT hst _ hargs => enterX hf hb n hn ha (g F hT) hst hargs
section
variable {F G : Fr} {n : Nat} {E : Env} {L : List Res} {ops : Array Oper} {Q : Exit → Act → World → Prop} {rest : List Oper} {ch : Value}
theorem rcT (hT : TabM P tabs G.base) (is : List Nat) {k : FuncId} {args : List TV} {Lc Lo : List Res} {res : Value → TV} {L' : Value → List Res} (hc : FnT P tabs k args Lc res L') (hk : callable P k = true) (hp : takeR L is = some (Lc, Lo)) {xs : List Operand} {tys : Array TypeId} {d : Nat} {ty : TypeId} {pos : String} {after : Array Edge}
    (hx : evs E xs = some args) (hd : Nat.ble (d + 1) n = true) (g : ∀ v, Go (Fr.nd G) n ((d, res v) :: E) (L' v ++ Lo) (wpList P ops Q rest)) :
    Go (Fr.nd G) n E L (wpList P ops Q (⟨some d, .call ⟨.value (.func k), xs.toArray, tys⟩, ty, pos, after, none⟩ :: rest)) := fun M a w c => by
  unfold wpList
  rw [if_pos (by simp [Region.wanted])]
  left
  unfold Oper.wp
  have hrun : (execOp a.eval ⟨some d, .call ⟨.value (.func k), xs.toArray, tys⟩, ty, pos, after, none⟩).run P w = .ok (.enter k (xs.map a.eval).toArray) w := by
    simp only [execOp, resolve, run_bind, run_pure, Act.eval, Deferred.ofValue, invoke]
    rw [run_callFunc hk]
    simp
  rw [hrun, Oper.upon_enter]
  have st := c.st.perm (takeR_perm hp)
  have hT' : TabM P tabs M := hT.mono c.st.elder
  obtain ⟨F', hb, hs, st', hback⟩ := st.part
  have := hc F' w (xs.map a.eval) (by rw [hb]; exact hT') (by rw [hb]; exact st') hs (by rw [hb]; exact evs_ok c hx)
  refine this.mono ?_
  rintro e w' ⟨v, M', rfl, st2, hv⟩
  obtain ⟨hle, st3⟩ := hback _ _ _ st2
  exact g v M' _ _ (c.put hle st3 (Nat.le_of_ble_eq_true hd) hv)
theorem rcET (hT : TabM P tabs G.base) (is : List Nat) {k : FuncId} {args : List TV} {Lc Lo : List Res} {ρ σ : Type} {out : Option ρ} {res : ρ → Value → TV} {L' : ρ → Value → List Res} {kf : ρ → Option (Option σ)} {ro : Option σ} (hc : FnET P tabs k args Lc out res L' ch) (h : pb out kf = some ro) (hk : callable P k = true) (hp : takeR L is = some (Lc, Lo)) {xs : List Operand} {tys : Array TypeId} {d : Nat} {ty : TypeId} {pos : String} {after : Array Edge}
    (hx : evs E xs = some args) (hd : Nat.ble (d + 1) n = true) [hb : Brk (Fr.nd G) n Q ch (ro = none)] (g : ∀ r, kf r = some ro → ∀ v, Go (Fr.nd G) n ((d, res r v) :: E) (L' r v ++ Lo) (wpList P ops Q rest)) :
    Go (Fr.nd G) n E L (wpList P ops Q (⟨some d, .call ⟨.value (.func k), xs.toArray, tys⟩, ty, pos, after, none⟩ :: rest)) := fun M a w c => by
  unfold wpList
  rw [if_pos (by simp [Region.wanted])]
  left
  unfold Oper.wp
  have hrun : (execOp a.eval ⟨some d, .call ⟨.value (.func k), xs.toArray, tys⟩, ty, pos, after, none⟩).run P w = .ok (.enter k (xs.map a.eval).toArray) w := by
    simp only [execOp, resolve, run_bind, run_pure, Act.eval, Deferred.ofValue, invoke]
    rw [run_callFunc hk]
    simp
  rw [hrun, Oper.upon_enter]
  have st := c.st.perm (takeR_perm hp)
  have hT' : TabM P tabs M := hT.mono c.st.elder
  obtain ⟨F', hb', hs, st', hback⟩ := st.part
  have := hc F' w (xs.map a.eval) (by rw [hb']; exact hT') (by rw [hb']; exact st') hs (by rw [hb']; exact evs_ok c hx)
  refine this.mono ?_
  cases out with
  | some r =>
    rintro e w' ⟨v, M', rfl, st2, hv⟩
    obtain ⟨hle, st3⟩ := hback _ _ _ st2
    exact g r h v M' _ _ (c.put hle st3 (Nat.le_of_ble_eq_true hd) hv)
  | none =>
    rintro e w' ⟨rfl, M', st2⟩
    obtain ⟨hle, st3⟩ := hback _ _ _ st2
    exact hb.ok (Option.some.inj h).symm _ M' a w' ⟨st3, c.defers, c.size, fun i t h => by simp [Env.get] at h⟩
end
end Sx
namespace Sx
open Go Go.RowKit

def toB (l : List Int) : List UInt8 := l.map fun c => UInt8.ofNat c.toNat
def ofB (l : List UInt8) : List Int := l.map fun b => (b.toNat : Int)
theorem bs_toB (l : List Int) : (bs l).data.toList = toB l := by simp [bs, toB]
theorem toB_ofB (l : List UInt8) : toB (ofB l) = l := by
  unfold toB ofB
  rw [List.map_map]
  conv => rhs; rw [← List.map_id l]
  exact List.map_congr_left fun b _ => by simp
theorem ofB_toB {l : List Int} (h : byteOk l) : ofB (toB l) = l := by
  unfold toB ofB
  rw [List.map_map]
  conv => rhs; rw [← List.map_id l]
  refine List.map_congr_left fun c hc => ?_
  have := h c hc
  simp only [Function.comp, id]
  rw [UInt8.toNat_ofNat']
  omega
theorem ofB_ok (l : List UInt8) : byteOk (ofB l) := fun c hc => by
  obtain ⟨b, _, rfl⟩ := List.mem_map.1 hc
  have := b.toNat_lt
  omega
theorem bs_ofB (l : List UInt8) : bs (ofB l) = ⟨l.toArray⟩ := by
  have : (bs (ofB l)).data.toList = l := by rw [bs_toB, toB_ofB]
  unfold bs at this ⊢
  simp only [List.toList_toArray] at this
  rw [this]
theorem ofB_length (l : List UInt8) : (ofB l).length = l.length := List.length_map ..
theorem toB_length (l : List Int) : (toB l).length = l.length := List.length_map ..
theorem holds_bytes {M : Mem} {l : List UInt8} (h : l.length ≤ most) : Holds .str M (.string ⟨l.toArray⟩) (ofB l) := holds_str.2 ⟨by rw [bs_ofB], ofB_ok l, by rw [ofB_length]; exact h⟩

section
variable {P : Program} {tabs : List (String × IntKind × List Int)}
theorem st_below {F : Fr} {w w' : World} (hst : St F F.base w []) (hb : Below w.heap.size w w') : St F F.base w' [] :=
  { os := hb.os.trans hst.os, tape := hb.tape.trans hst.tape, output := hb.output.trans hst.output, size := Nat.le_trans hst.size hb.size, elder := Mem.le.refl _, fresh := fun k o e => .inl e
    frame := fun k o e => by rw [hb.block k (hst.flt e)]; exact hst.frame k o e
    mem := fun k o e => by rw [hb.block k (hst.lt e)]; exact hst.mem k o e
    sep := ⟨fun _ => False, fun _ h => h, fun _ h => h.elim⟩ }
theorem pureT_of {k : FuncId} {args : List TV} {res : TV} (h : ∀ M vs, HoldAll M args vs → ∃ v, (∀ M, res.holds M v) ∧ ∀ w, w.ShapedOpen P → (∀ x ∈ tabs, Lib.TabIs P w x.1 x.2.1 x.2.2) → Calls P k vs.toArray w fun e w' => e = .returned v ∧ Below w.heap.size w w') : FnT P tabs k args [] (fun _ => res) (fun _ => []) := by
  intro F w vs hT hst hsz hargs
  obtain ⟨v, hv, hc⟩ := h _ _ hargs
  refine (hc w (hT.shaped hst.mem) (fun x hx => hT.tab hst.mem hx)).mono ?_
  rintro e w' ⟨rfl, hb⟩
  exact ⟨v, F.base, rfl, st_below hst hb, hv _⟩

/-! ### strings.IndexByte -/
def strings_IndexByte (x : List Int) (c : Int) : Option Int := some (Lib.indexByte (toB x) c.toNat.toUInt8)
theorem indexByte_lt (l : List UInt8) (c : UInt8) : Lib.indexByte l c < l.length + 1 ∧ -1 ≤ Lib.indexByte l c := by
  induction l with
  | nil => simp [Lib.indexByte]
  | cons b l ih =>
    unfold Lib.indexByte
    split
    · simp only [List.length_cons]; omega
    · split
      · simp only [List.length_cons]; omega
      · simp only [List.length_cons]; omega
theorem indexByte_pure {k : FuncId} (h : ∀ (s : ByteArray) (c : Int) (w : World), Calls P k #[.string s, .int .u8 c] w fun e w' => e = .returned (.int .i64 (Lib.indexByte s.data.toList c.toNat.toUInt8)) ∧ w' = w)
    (x : List Int) (c : Int) (r : Int) (hr : strings_IndexByte x c = some r) : Pure P k [.one .str x, .one (.int .u8) c] (.one (.int .i64) r) := by
  obtain rfl := Option.some.inj hr
  refine pure_of_below fun M vs hv => ?_
  cases hv with
  | cons a r => cases r with
    | cons b r =>
      cases r
      obtain ⟨rfl, hb, hm⟩ := holds_str.1 a
      obtain ⟨rfl, _⟩ := holds_int.1 b
      refine ⟨_, fun M => holds_int.2 ⟨rfl, ?_⟩, fun w => ?_⟩
      · have := indexByte_lt (toB x) c.toNat.toUInt8
        rw [toB_length] at this
        simp only [most] at hm
        simp only [rng, lo, Sx.hi]
        omega
      · refine (h (bs x) c w).mono ?_
        rintro e w' ⟨rfl, rfl⟩
        rw [bs_toB]
        exact ⟨rfl, Below.refl _ _⟩

/-! ### strconv.FormatInt, strconv.Itoa -/
def itoaI (n : Int) : List Int := ofB (Lib.itoa n)
def strconv_FormatInt (n b : Int) : Option (List Int) := if b = 10 then some (itoaI n) else none
theorem dec_len : ∀ (f n : Nat), n < 10 ^ f → (Lib.decDigits n).length ≤ f + 1 := by
  intro f
  induction f with
  | zero => intro n h; rw [Lib.decDigits, dif_pos (by omega)]; simp
  | succ f ih =>
    intro n h
    rw [Lib.decDigits]
    split
    · simp
    · rw [List.length_append]
      have := ih (n / 10) (by rw [Nat.pow_succ] at h; omega)
      simp only [List.length_cons, List.length_nil]
      omega
theorem itoa_len {n : Int} (h : rng .i64 n) : (Lib.itoa n).length ≤ 30 := by
  simp only [rng, lo, Sx.hi] at h
  unfold Lib.itoa
  split
  · have := dec_len 20 n.natAbs (by omega)
    simp only [List.length_cons]; omega
  · have := dec_len 20 n.toNat (by omega)
    omega
def pow10 : String × IntKind × List Int := ("internal/strconv.uint64pow10", .u64, Lib.pow10Tab)
theorem formatInt_pure {k : FuncId} (hp : pow10 ∈ tabs) (h : ∀ (n : Int), -9223372036854775808 ≤ n → n ≤ 9223372036854775807 → ∀ (w : World), Lib.TabIs P w "internal/strconv.uint64pow10" .u64 Lib.pow10Tab → Calls P k #[.int .i64 n, .int .i64 10] w fun e w' => e = .returned (.string ⟨(Lib.itoa n).toArray⟩) ∧ ∃ k os, w' = Go.Sort.grow (w.drewN k) os)
    (n b : Int) (r : List Int) (hr : strconv_FormatInt n b = some r) : FnT P tabs k [.one (.int .i64) n, .one (.int .i64) b] [] (fun _ => .one .str r) (fun _ => []) := by
  unfold strconv_FormatInt at hr
  split at hr
  · rename_i hb10
    subst hb10
    obtain rfl := Option.some.inj hr
    refine pureT_of fun M vs hv => ?_
    cases hv with
    | cons a r => cases r with
      | cons b r =>
        cases r
        obtain ⟨rfl, hn⟩ := holds_int.1 a
        obtain ⟨rfl, _⟩ := holds_int.1 b
        have hl := itoa_len hn
        simp only [rng, lo, Sx.hi] at hn
        refine ⟨_, fun M => holds_bytes (by simp only [most]; omega), fun w hs ht => ?_⟩
        refine (h n (by omega) (by omega) w (ht _ hp)).mono ?_
        rintro e w' ⟨rfl, k, os, rfl⟩
        exact ⟨rfl, Lib.below_grow _ _ (Nat.le_refl _) _ _⟩
  · cases hr

/-! ### strings.Cut -/
def strings_Cut (s sep : List Int) : Option (List Int × List Int × Bool) := if s.length < 4294967281 then some (ofB (Lib.cut (toB s) (toB sep)).1, ofB (Lib.cut (toB s) (toB sep)).2.1, (Lib.cut (toB s) (toB sep)).2.2) else none
theorem cut_len (s sep : List UInt8) : (Lib.cut s sep).1.length ≤ s.length ∧ (Lib.cut s sep).2.1.length ≤ s.length := by
  unfold Lib.cut
  split
  · simp only [List.length_take, List.length_drop]; omega
  · simp
theorem cut_pure {k : FuncId} (h : ∀ (s sep : ByteArray) (w : World), w.ShapedOpen P → s.size < 4294967281 → Calls P k #[.string s, .string sep] w fun e w' => e = .returned (.tuple #[.string ⟨(Lib.cut s.data.toList sep.data.toList).1.toArray⟩, .string ⟨(Lib.cut s.data.toList sep.data.toList).2.1.toArray⟩, .bool (Lib.cut s.data.toList sep.data.toList).2.2]) ∧ ∃ n, w' = w.drewN n)
    (s sep : List Int) (r : List Int × List Int × Bool) (hr : strings_Cut s sep = some r) : FnT P tabs k [.one .str s, .one .str sep] [] (fun _ => .tup [⟨.str, r.1⟩, ⟨.str, r.2.1⟩, ⟨.bool, r.2.2⟩]) (fun _ => []) := by
  unfold strings_Cut at hr
  obtain ⟨hl, hr⟩ := ite_ex hr
  obtain rfl := Option.some.inj hr
  refine pureT_of fun M vs hv => ?_
  cases hv with
  | cons a r => cases r with
    | cons b r =>
      cases r
      obtain ⟨rfl, hb, hm⟩ := holds_str.1 a
      obtain ⟨rfl, hb2, hm2⟩ := holds_str.1 b
      have hc := cut_len (toB s) (toB sep)
      rw [toB_length] at hc
      refine ⟨_, fun M => ⟨_, rfl, .cons (holds_bytes (by simp only [most]; omega)) (.cons (holds_bytes (by simp only [most]; omega)) (.cons (holds_bool.2 rfl) .nil))⟩, fun w hs ht => ?_⟩
      refine (h (bs s) (bs sep) w hs (by rw [bs_size]; exact hl)).mono ?_
      rintro e w' ⟨rfl, n, rfl⟩
      rw [bs_toB, bs_toB]
      exact ⟨rfl, ⟨rfl, rfl, rfl, Nat.le_refl _, fun _ _ => rfl⟩⟩

/-! ### strings.Split -/
def strings_Split (s sep : List Int) : Option (List (List Int)) := if s.length < 4294967281 ∧ 1 ≤ sep.length then some ((Lib.split (toB s) (toB sep)).map ofB) else none
theorem splitK_len (sep : List UInt8) : ∀ (k : Nat) (s : List UInt8), (Lib.splitK sep 0 k s).length ≤ k + 1 ∧ ∀ x ∈ Lib.splitK sep 0 k s, x.length ≤ s.length
  | 0, s => ⟨Nat.le_refl _, fun x hx => by rw [List.mem_singleton.1 hx]; exact Nat.le_refl _⟩
  | k + 1, s => by
    unfold Lib.splitK
    split
    · exact ⟨by simp, fun x hx => by rw [List.mem_singleton.1 hx]; exact Nat.le_refl _⟩
    · obtain ⟨h1, h2⟩ := splitK_len sep k (s.drop ((Lib.index s sep).toNat + sep.length))
      refine ⟨by simp only [List.length_cons]; omega, fun x hx => ?_⟩
      rcases List.mem_cons.1 hx with rfl | hx
      · simp only [List.length_take]; omega
      · have := h2 x hx
        simp only [List.length_drop] at this; omega
theorem repL_strs {M : Mem} : ∀ {l : List (List UInt8)}, (∀ x ∈ l, x.length ≤ most) → RepL (Rep .str M) (l.map fun x => Value.string ⟨x.toArray⟩) (l.map ofB)
  | [], _ => rfl
  | x :: l, h => by
    refine ⟨[.string ⟨x.toArray⟩], _, rfl, ⟨by rw [bs_ofB], ofB_ok x, by rw [ofB_length]; exact h x (by simp)⟩, repL_strs fun y hy => h y (by simp [hy])⟩
theorem hcnt (s sep : ByteArray) : Lib.countB s sep = Lib.count s.data.toList sep.data.toList := rfl
theorem hlen (s sep : List UInt8) (h : sep ≠ []) : (Lib.split s sep).length = Lib.count s sep + 1 ∧ Lib.count s sep ≤ s.length := by
  have h1 : 1 ≤ (⟨sep.toArray⟩ : ByteArray).size := by
    show 1 ≤ sep.toArray.size
    cases sep with
    | nil => exact absurd rfl h
    | cons a r => simp
  have e1 := Lib.splitB_all ⟨sep.toArray⟩ h1 0 (Lib.countB ⟨s.toArray⟩ ⟨sep.toArray⟩) ⟨s.toArray⟩ rfl
  have e2 := Lib.countB_le ⟨sep.toArray⟩ h1 s.length ⟨s.toArray⟩ (by show s.toArray.size ≤ _; simp)
  have e3 := Lib.splitB_data ⟨sep.toArray⟩ 0 (Lib.countB ⟨s.toArray⟩ ⟨sep.toArray⟩) ⟨s.toArray⟩
  have e4 := congrArg List.length e3
  rw [List.length_map, e1] at e4
  simp only [hcnt, List.toList_toArray] at e2 e4
  refine ⟨e4.symm, ?_⟩
  have e5 : (⟨s.toArray⟩ : ByteArray).size = s.length := by show s.toArray.size = _; simp
  omega
open Classical in
theorem split_pure {k : FuncId} {e : TypeId} (h : ∀ (s sep : ByteArray) (w : World), w.ShapedOpen P → s.size < 4294967281 → 1 ≤ sep.size → Calls P k #[.string s, .string sep] w fun en w' =>
      en = .returned (.slice (some ⟨w.heap.size, 0, none⟩) (Lib.countB s sep + 1) (Lib.countB s sep + 1)) ∧ w' = w.alloc (.cells ((Lib.splitB sep 0 (Lib.countB s sep) s).map Value.string).toArray e))
    (s sep : List Int) (r : List (List Int)) (hr : strings_Split s sep = some r) : FnT P tabs k [.one .str s, .one .str sep] [] (fun _ => .one (.sl e .str) r) (fun _ => []) := by
  unfold strings_Split at hr
  obtain ⟨⟨hl, hsl⟩, hr⟩ := ite_ex hr
  obtain rfl := Option.some.inj hr
  intro F w vs hT hst hsz hv
  cases hv with
  | cons a r => cases r with
    | cons b r =>
      cases r
      obtain ⟨rfl, hb, hm⟩ := holds_str.1 a
      obtain ⟨rfl, hb2, hm2⟩ := holds_str.1 b
      refine (h (bs s) (bs sep) w (hT.shaped hst.mem) (by rw [bs_size]; exact hl) (by rw [bs_size]; exact hsl)).mono ?_
      rintro en w' ⟨rfl, rfl⟩
      have hne : toB sep ≠ [] := fun hc => by
        have := toB_length sep
        rw [hc] at this
        simp at this; omega
      obtain ⟨hn1, hn2⟩ := hlen (toB s) (toB sep) hne
      have hcells : ((Lib.splitB (bs sep) 0 (Lib.countB (bs s) (bs sep)) (bs s)).map Value.string) = (Lib.split (toB s) (toB sep)).map fun x => Value.string ⟨x.toArray⟩ := by
        have hd := Lib.splitB_data (bs sep) 0 (Lib.countB (bs s) (bs sep)) (bs s)
        rw [hcnt, bs_toB, bs_toB] at hd
        unfold Lib.split
        rw [← hd, List.map_map]
        refine (List.map_congr_left fun x _ => ?_).trans (by rw [hcnt, bs_toB, bs_toB])
        rfl
      rw [hcells, hcnt, bs_toB, bs_toB]
      rw [toB_length] at hn2
      have hsp := (splitK_len (toB sep) (Lib.count (toB s) (toB sep)) (toB s)).2
      have hq : ∀ x ∈ Lib.split (toB s) (toB sep), x.length ≤ most := fun x hx => by
        have := hsp x hx
        rw [toB_length] at this
        simp only [most] at hm ⊢; omega
      generalize hL : Lib.split (toB s) (toB sep) = l at hn1 hq ⊢
      have hnone : F.base w.heap.size = none := by
        cases hb' : F.base w.heap.size with
        | none => rfl
        | some o => exact absurd (hst.lt hb') (Nat.lt_irrefl _)
      have hfnone : F.mem w.heap.size = none := by
        cases hb' : F.mem w.heap.size with
        | none => rfl
        | some o => exact absurd (hst.flt hb') (Nat.lt_irrefl _)
      have hold : ∀ j, j < w.heap.size → (w.alloc (.cells (l.map fun x => Value.string ⟨x.toArray⟩).toArray e)).heap[j]? = w.heap[j]? := fun j hj => by
        unfold World.alloc
        rw [Array.getElem?_push_lt hj, Array.getElem?_eq_getElem hj]
      have hnew : (w.alloc (.cells (l.map fun x => Value.string ⟨x.toArray⟩).toArray e)).heap[w.heap.size]? = some (.cells (l.map fun x => Value.string ⟨x.toArray⟩).toArray e) := by
        unfold World.alloc
        exact Array.getElem?_push_size
      refine ⟨_, fun j => if j = w.heap.size then some (.cells (l.map fun x => Value.string ⟨x.toArray⟩).toArray e) else F.base j, rfl, ?_, ?_⟩
      · refine { os := hst.os, tape := hst.tape, output := hst.output, size := Nat.le_trans hst.size (by unfold World.alloc; rw [Array.size_push]; omega), elder := fun j o hj => ?_, fresh := fun j o hj => ?_, frame := fun j o hj => ?_, mem := fun j o hj => ?_, sep := ⟨fun _ => False, fun _ h => h, fun _ h => h.elim⟩ }
        · show (if j = w.heap.size then _ else _) = _
          rw [if_neg (fun hc => by rw [hc, hnone] at hj; cases hj)]; exact hj
        · by_cases hjw : j = w.heap.size
          · exact .inr (by rw [hjw]; exact hfnone)
          · rw [if_neg hjw] at hj; exact .inl hj
        · rw [hold j (hst.flt hj)]; exact hst.frame j o hj
        · by_cases hjw : j = w.heap.size
          · rw [if_pos hjw] at hj; rw [hjw, hnew, ← hj]
          · rw [if_neg hjw] at hj; rw [hold j (hst.lt hj)]; exact hst.mem j o hj
      · refine ⟨[.slice (some ⟨w.heap.size, 0, none⟩) (Lib.count (toB s) (toB sep) + 1) (Lib.count (toB s) (toB sep) + 1)], rfl, some ⟨w.heap.size, 0, none⟩, Lib.count (toB s) (toB sep) + 1, ?_, ?_, ?_, .inr ⟨rfl, _, e, _, if_pos rfl, ?_, ?_⟩⟩
        · rw [List.length_map, hn1]
        · rw [List.length_map, hn1]; simp only [most] at hm ⊢; omega
        · rw [List.length_map, hn1]; exact Nat.le_refl _
        · simp [T.size]
        · simp only [List.toList_toArray, List.drop_zero, List.length_map, T.size, Nat.mul_one]
          rw [List.take_of_length_le (by simp)]
          exact repL_strs hq

/-! ### strings.Join -/
def strings_Join (xs : List (List Int)) (sep : List Int) : Option (List Int) := if xs.length ≤ 140737488355328 ∧ (Lib.join (xs.map toB) (toB sep)).length ≤ 140737488355328 then some (ofB (Lib.join (xs.map toB) (toB sep))) else none
theorem repL_strs' {M : Mem} : ∀ {cs : List Value} {l : List (List Int)}, RepL (Rep .str M) cs l → cs = l.map fun x => Value.string (bs x)
  | _, [], h => h
  | _, x :: l, ⟨c1, c2, e, a, b⟩ => by
    rw [e, repL_strs' b, a.1]; rfl
theorem join_pure {k : FuncId} {e : TypeId} (h0 : ∀ (a : Option Addr) (c : Nat) (sep : ByteArray) (w : World), Calls P k #[.slice a 0 c, .string sep] w fun e w' => e = .returned (.string ⟨#[]⟩) ∧ w' = w)
    (h : ∀ (bk o c : Nat) (xs : List ByteArray) (sep : ByteArray) (w : World), (∀ (j : Nat) x, xs[j]? = some x → w.cell? ⟨bk, o + j, none⟩ = some (.string x)) → bk < w.heap.size → xs.length ≤ 140737488355328 → xs.length ≤ c → (Lib.join (xs.map (·.data.toList)) sep.data.toList).length ≤ 140737488355328 →
      Calls P k #[.slice (some ⟨bk, o, none⟩) xs.length c, .string sep] w fun e w' => e = .returned (.string ⟨(Lib.join (xs.map (·.data.toList)) sep.data.toList).toArray⟩) ∧ Below w.heap.size w w')
    (xs : List (List Int)) (sep : List Int) (r : List Int) (hr : strings_Join xs sep = some r) : Pure P k [.one (.sl e .str) xs, .one .str sep] (.one .str r) := by
  unfold strings_Join at hr
  obtain ⟨⟨hl, hjl⟩, hr⟩ := ite_ex hr
  obtain rfl := Option.some.inj hr
  intro F w vs hst hsz hv
  cases hv with
  | cons a r => cases r with
    | cons b r =>
      cases r
      obtain ⟨rfl, hb2, hm2⟩ := holds_str.1 b
      obtain ⟨cs, e1, ad, cap, e2, g1, g2, g3⟩ := a
      subst e2
      simp only [mk, T.isAgg, Bool.false_eq_true, if_false, List.headD_cons] at e1
      subst e1
      have fin : ∀ {l : List UInt8} {w' : World}, l.length ≤ 140737488355328 → l = Lib.join (xs.map toB) (toB sep) → Below w.heap.size w w' → Post F (fun _ => .one .str (ofB (Lib.join (xs.map toB) (toB sep)))) (fun _ => []) (.returned (.string ⟨l.toArray⟩)) w' := fun h1 h2 h3 => by
        subst h2
        exact ⟨_, F.base, rfl, st_below hst h3, holds_bytes (by simp only [most]; omega)⟩
      by_cases hx : xs = []
      · subst hx
        refine (h0 ad cap (bs sep) w).mono ?_
        rintro en w' ⟨rfl, rfl⟩
        exact fin (l := []) (by simp) (by simp [Lib.join]) (Below.refl _ _)
      · have hn : List.length xs ≠ 0 := fun hc => hx (List.length_eq_zero_iff.1 hc)
        cases ad with
        | none => exact absurd g3 hn
        | some ad =>
          rcases g3 with g3 | ⟨q1, c, el, fr, q2, q3, q4⟩
          · exact absurd g3 hn
          · obtain ⟨bk, off, sp⟩ := ad
            simp only at q1 q2 q3 q4
            subst q1
            have q2' := hst.mem _ _ q2
            simp only [T.size, Nat.mul_one] at q3 q4
            have q5 := repL_strs' q4
            have hlen : (xs.map bs).length = List.length xs := List.length_map ..
            have hmm : (xs.map bs).map (·.data.toList) = xs.map toB := by rw [List.map_map]; exact List.map_congr_left fun x _ => bs_toB x
            have := h bk off cap (xs.map bs) (bs sep) w (fun j x hj => ?_) (heap_lt q2') (by rw [hlen]; exact hl) (by rw [hlen]; exact g2) (by rw [hmm, bs_toB]; exact hjl)
            · rw [hlen] at this
              refine this.mono ?_
              rintro en w' ⟨rfl, hb⟩
              rw [hmm, bs_toB]
              exact fin hjl rfl hb
            · have hj2 : j < List.length xs := by
                rw [← hlen]
                exact (List.getElem?_eq_some_iff.1 hj).1
              have e6 : (List.take (List.length xs) (List.drop off c.toList))[j]? = (xs.map fun x => Value.string (bs x))[j]? := by rw [q5]
              rw [List.getElem?_take_of_lt hj2, List.getElem?_drop, Array.getElem?_toList] at e6
              simp only [World.cell?, q2']
              rw [e6]
              rw [List.getElem?_map] at hj ⊢
              cases hxj : xs[j]? with
              | none => rw [hxj] at hj; cases hj
              | some y => rw [hxj] at hj; cases hj; rfl
end
end Sx
namespace Sx
open Go

section
variable {P : Program} {I : DI} {Tb : Tab} {F : Fr} {n : Nat} {E E' : Env} {L : List Res} {ops : Array Oper} {Q : Exit → Act → World → Prop} {rest : List Oper} {X : Act → World → Prop}

end
end Sx
namespace Sx
open Go

section
variable (P : Program) (I : DI)
def Res.disk (p : Value) (D : DiskS) : Res := Res.ex fun (g : Nat × Value) => Res.all [Res.fact (p = .pointer (some ⟨g.1, 0, none⟩)),
  Res.var g.1 I.disk DT (D.1, g.2, D.2.2.1, D.2.2.2.1, D.2.2.2.2.1, D.2.2.2.2.2.1, D.2.2.2.2.2.2, ()), Res.dfiles P I g.2 D.2.1]
end

section
variable {P : Program} {I : DI} {Tb : Tab} {F : Fr} {n : Nat} {E E' : Env} {L : List Res} {ops : Array Oper} {Q : Exit → Act → World → Prop} {rest : List Oper} {X : Act → World → Prop}

end
end Sx
namespace Sx
open Go

section
variable (P : Program) (I : DI)
end

section
variable {P : Program} {I : DI} {Tb : Tab} {F : Fr} {n : Nat} {E E' : Env} {L : List Res} {ops : Array Oper} {Q : Exit → Act → World → Prop} {rest : List Oper} {X : Act → World → Prop}

end
end Sx
namespace Sx
open Go

section
variable {P : Program} {ops : Array Oper} {C : World → Prop} {K : Act → Prop} {is : List Nat} {fin : Array Bool}

def wpSub (P : Program) (ops : Array Oper) (C : World → Prop) (is : List Nat) (fin : Array Bool) (K : Act → Prop) : Nat → Array Bool → Act → Prop
  | 0, listed, a => listed = fin ∧ K a
  | m + 1, listed, a => (∃ i ∈ is, i ∈ Region.ready .any ops listed) ∧ ∀ i ∈ is, i ∈ Region.ready .any ops listed → qOp P ops C i (wpSub P ops C is fin K m (listed.setIfInBounds i true)) a

theorem sub_first {i : Nat} {oi : Oper} {v : Value} (hi : ops[i]? = some oi) (hsel : ∀ (j : Nat) (o : Oper) cs b, ops[j]? = some o → o.op ≠ .select cs b) (hfin : ∀ j ∈ is, j ∉ Region.ready .any ops fin) (hmem : i ∈ is) :
    ∀ (m : Nat) (listed : Array Bool) (a : Act),
      (∀ j oj, ops[j]? = some oj → j ≠ i → listed.getD j true = false → (∀ e ∈ oj.after, Region.binds .any e = true → e.on ≠ i) → oi.apart ops oj = true) →
      i ∈ Region.ready .any ops listed → YieldsIn P ops C oi v a →
      wpSub P ops C is fin K m (listed.setIfInBounds i true) (a.put oi.dst v) → wpSub P ops C is fin K (m + 1) listed a := by
  intro m
  induction m with
  | zero =>
    intro listed a _ hr hy H
    refine ⟨⟨i, hmem, hr⟩, fun j hj hjr => ?_⟩
    by_cases hji : j = i
    · subst hji; exact hy.qOp hi H
    · have := ready_mono hjr hji
      rw [H.1] at this
      exact absurd this (hfin j hj)
  | succ m ih =>
    intro listed a hfree hr hy H
    refine ⟨⟨i, hmem, hr⟩, fun j hj hjr => ?_⟩
    by_cases hji : j = i
    · subst hji; exact hy.qOp hi H
    · have h1 := H.2 j hj (ready_mono hjr hji)
      obtain ⟨hjun, oj, hoj, hall⟩ := mem_ready.1 hjr
      have hnot : ∀ e ∈ oj.after, Region.binds .any e = true → e.on ≠ i := fun e he hb heq => by
        have h1 := hall e he hb
        have h0 := (mem_ready.1 hr).1
        rw [heq] at h1
        rcases Nat.lt_or_ge i listed.size with h' | h'
        · simp [h'] at h0 h1; rw [h0] at h1; cases h1
        · simp [Array.getElem?_eq_none h'] at h1
      have h2 := qOp_put hoj (hfree j oj hoj hji hjun hnot) (fun cs b => hsel i oi cs b hi) (fun cs b => hsel j oj cs b hoj) hy h1
      have hfree' : ∀ k ok, ops[k]? = some ok → k ≠ i → (listed.setIfInBounds j true).getD k true = false →
          (∀ e ∈ ok.after, Region.binds .any e = true → e.on ≠ i) → oi.apart ops ok = true := fun k ok hk hki hun hno => by
        refine hfree k ok hk hki ?_ hno
        by_cases hjk : j = k
        · subst hjk; exact hjun
        · rw [getD_set_ne true hjk] at hun; exact hun
      refine qOp_mono (fun a' h3 => ih (listed.setIfInBounds j true) a' hfree' (ready_mono hr (Ne.symm hji)) h3.1 ?_) h2
      rw [Array.setIfInBounds_comm _ _ hji]
      exact h3.2

def lexOn (ops : Array Oper) (fin : Array Bool) : List Nat → Array Bool → Bool
  | [], listed => listed == fin
  | i :: is, listed => (Region.ready .any ops listed).contains i && Region.free .any ops listed i && lexOn ops fin is (listed.setIfInBounds i true)

theorem sub_lex (hs : Region.noSelect ops = true) (hfin : ∀ j ∈ is, j ∉ Region.ready .any ops fin) : ∀ (l : List Nat) (listed : Array Bool) (a : Act), (∀ i ∈ l, i ∈ is) → lexOn ops fin l listed = true →
    wpQuiet P ops C K (l.filterMap (ops[·]?)) a → wpSub P ops C is fin K l.length listed a
  | [], listed, a, _, hB, h => ⟨by simpa [lexOn] using hB, h⟩
  | i :: l, listed, a, hl, hB, h => by
    simp only [lexOn, Bool.and_eq_true] at hB
    obtain ⟨⟨hr, hf⟩, hB'⟩ := hB
    have hr' : i ∈ Region.ready .any ops listed := by simpa using hr
    obtain ⟨_, o, h0, _⟩ := mem_ready.1 hr'
    have h' : wpQuiet P ops C K (o :: l.filterMap (ops[·]?)) a := by simpa [List.filterMap_cons, h0] using h
    have hst : qOp P ops C i (wpQuiet P ops C K (l.filterMap (ops[·]?))) a := by unfold qOp; simp only [h0]; exact h'
    obtain ⟨v, hy, hK⟩ := yieldsIn_of_qOp h0 hst
    exact sub_first h0 (Region.noSelect_spec hs) hfin (hl i (by simp)) l.length listed a (Region.free_spec h0 hf) hr' hy
      (sub_lex hs hfin l _ _ (fun j hj => hl j (by simp [hj])) hB' hK)

def full (is : List Nat) (listed : Array Bool) : Array Bool := is.foldl (fun l i => l.setIfInBounds i true) listed
theorem set_twice (l : Array Bool) (i : Nat) : (l.setIfInBounds i true).setIfInBounds i true = l.setIfInBounds i true := by simp
theorem full_mem : ∀ (is : List Nat) (listed : Array Bool) (i : Nat), i ∈ is → full is (listed.setIfInBounds i true) = full is listed
  | k :: is, listed, i, h => by
    by_cases hk : i = k
    · subst hk
      show full is ((listed.setIfInBounds i true).setIfInBounds i true) = full is (listed.setIfInBounds i true)
      rw [set_twice]
    · have : i ∈ is := (List.mem_cons.1 h).elim (fun h => absurd h hk) id
      show full is ((listed.setIfInBounds i true).setIfInBounds k true) = full is (listed.setIfInBounds k true)
      rw [Array.setIfInBounds_comm _ _ hk, full_mem is _ _ this]
theorem ready_full {j : Nat} : ∀ (is : List Nat) (listed : Array Bool), j ∉ is → j ∈ Region.ready .any ops listed → j ∈ Region.ready .any ops (full is listed)
  | [], _, _, h => h
  | k :: is, listed, hn, h => ready_full is _ (fun h' => hn (by simp [h'])) (ready_mono h (fun e => hn (by simp [e])))

theorem sub_any {Q' : Exit → Act → World → Prop} {fuel : Nat} {listed0 : Array Bool} (hbar : ∀ i ∈ is, ∀ j ∈ Region.ready .any ops (full (is.filter (· != i)) listed0), j ∈ is) (hQ : ∀ a w, C w → K a → wpAny P .any ops Q' fuel fin a w) :
    ∀ (m : Nat) (listed : Array Bool) (a : Act) (w : World), C w → (∀ i ∈ is, listed.getD i true = false → full (is.filter (· != i)) listed = full (is.filter (· != i)) listed0) →
    wpSub P ops C is fin K m listed a → wpAny P .any ops Q' (fuel + m) listed a w
  | 0, listed, a, w, hw, _, ⟨h1, h2⟩ => by subst h1; exact hQ a w hw h2
  | m + 1, listed, a, w, hw, hinv, ⟨⟨i, hi, hir⟩, h⟩ => by
    have hmem : ∀ j ∈ Region.ready .any ops listed, j ∈ is := fun j hj => by
      by_cases hji : j ∈ is
      · exact hji
      · have := ready_full (is.filter (· != i)) listed (fun h => hji (List.mem_filter.1 h).1) hj
        rw [hinv i hi (mem_ready.1 hir).1] at this
        exact hbar i hi j this
    refine ⟨fun h0 => (by rw [h0] at hir; cases hir), fun j hj => ?_⟩
    refine wpOp_of_qOp hw (fun a' w' hw' hs => sub_any hbar hQ m _ a' w' hw' (fun k hk hun => ?_) hs) (h j (hmem j hj) hj)
    have hkj : j ≠ k := fun e => by
      subst e
      have h0 := (mem_ready.1 hj).1
      rcases Nat.lt_or_ge j listed.size with h' | h'
      · simp [h'] at hun
      · simp [Array.getElem?_eq_none h'] at h0
    rw [full_mem _ _ _ (List.mem_filter.2 ⟨hmem j hj, by simp [hkj]⟩)]
    exact hinv k hk (by rwa [getD_set_ne true hkj] at hun)

/-- what the kernel looks at -/
def prefChk (ops : Array Oper) (is : List Nat) (listed fin : Array Bool) : Bool :=
  Region.noSelect ops && lexOn ops fin is listed && is.all (fun j => !(Region.ready .any ops fin).contains j) && is.all fun i => (Region.ready .any ops (full (is.filter (· != i)) listed)).all fun j => is.contains j
end

section
variable {P : Program} {Tb : Tab} {F : Fr} {n : Nat} {E E' : Env} {L : List Res} {ops : Array Oper} {Q : Exit → Act → World → Prop}

theorem a_pref {fuel : Nat} {listed : Array Bool} (is : List Nat) (fin : Array Bool) (hc : prefChk ops is listed fin = true) (g : QGo P ops F n E L (qEnd F L (wpAny P .any ops Q fuel fin)) (is.filterMap (ops[·]?))) : Go F n E L (wpAny P .any ops Q (fuel + is.length) listed) := fun M a w c => by
  simp only [prefChk, Bool.and_eq_true, List.all_eq_true, Bool.not_eq_true', List.contains_eq_mem, decide_eq_false_iff_not, decide_eq_true_eq] at hc
  obtain ⟨⟨⟨h1, h2⟩, h3⟩, h4⟩ := hc
  exact sub_any (C := Cls F M L w) (K := qEnd F L (wpAny P .any ops Q fuel fin) M w) h4 (fun a' w' hw' hk => hk w' hw') is.length listed a w ⟨c.st, fun _ _ => rfl⟩ (fun i hi _ => rfl)
    (sub_lex h1 h3 is listed a (fun i hi => hi) h2 (g M a w c))
end
end Sx
namespace Sx
open Go Go.RowKit

/-- what is known of data that came in; 'B': an element's bytes -/
def Small (B : TypeId → Nat) : (t : T) → t.D → Prop
  | .int k, x => rng k x
  | .str, x => byteOk x ∧ List.length x ≤ 140737488351232
  | .pair a b, x => Small B a x.1 ∧ Small B b x.2
  | .arr n t, x => List.length x = n ∧ ∀ y ∈ (show List t.D from x), Small B t y
  | .sl e t, x => List.length x * B e ≤ 140737488351232 ∧ ∀ y ∈ (show List t.D from x), Small B t y
  | .bool, _ => True
  | .unit, _ => True
  | .raw _, _ => True

/-- how many values and letters -/
def Bulk : (t : T) → t.D → Nat
  | .str, x => List.length x + 1
  | .pair a b, x => Bulk a x.1 + Bulk b x.2
  | .arr _ t, x => ((show List t.D from x).map (Bulk t)).sum
  | .sl _ t, x => ((show List t.D from x).map (Bulk t)).sum + 1
  | .int _, _ => 1
  | .bool, _ => 1
  | .unit, _ => 0
  | .raw _, _ => 0
/-- a count of values and letters, as the rows with a bound have it -/
structure BulkFn {H : Type} (bk : DataW H → Nat) (bka : List (DataW H) → Nat) : Prop where
  one : ∀ d, 1 ≤ bk d
  str : ∀ l, bk (.lit (.string l)) = l.length + 1
  sl : ∀ e s, bka e + 1 ≤ bk (.slice e s)
  agg : ∀ p, bka p ≤ bk (.agg p)
  nil : bka [] = 0
  cons : ∀ d l, bka (d :: l) = bk d + bka l
theorem BulkFn.sum_le {H α : Type} {bk : DataW H → Nat} {bka : List (DataW H) → Nat} (h : BulkFn bk bka) {B : α → Nat} : ∀ {ys : List α} {xs : List (DataW H × List MemPlace)}, ys.length = xs.length →
    (∀ (i : Nat) y x, ys[i]? = some y → xs[i]? = some x → B y ≤ bk x.1) → (ys.map B).sum ≤ bka (xs.map (·.1))
  | [], [], _, _ => by simp
  | y :: ys, x :: xs, hl, hh => by
    simp only [List.map_cons, List.sum_cons, h.cons]
    have h0 := hh 0 y x rfl rfl
    have h1 := h.sum_le (B := B) (ys := ys) (xs := xs) (by simpa using hl) (fun i a b ha hb => hh (i + 1) a b (by simpa using ha) (by simpa using hb))
    omega
  | [], _ :: _, hl, _ => by simp at hl
  | _ :: _, [], hl, _ => by simp at hl

def rdChk (P : Program) : T → Bool
  | .raw _ => false
  | .pair a b => rdChk P a && rdChk P b
  | .arr _ t => rdChk P t
  | .sl e t => Nat.ble 1 (P.bytesOf e) && Nat.ble 1 t.size && rdChk P t
  | .int _ => true
  | .bool => true
  | .str => true
  | .unit => true

def memOf (W : World) : Mem := fun k => W.heap[k]?

theorem bs_data (b : ByteArray) : bs (b.data.toList.map fun c => (c.toNat : Int)) = b ∧ byteOk (b.data.toList.map fun c => (c.toNat : Int)) := by
  constructor
  · unfold bs
    simp
    have : (b.data.toList.map ((fun c : Int => UInt8.ofNat c.toNat) ∘ fun c : UInt8 => (c.toNat : Int))) = b.data.toList := by
      conv => rhs; rw [← List.map_id b.data.toList]
      apply List.map_congr_left
      intro c _
      simp
    first | rw [this] | skip
  · intro c hc
    simp only [List.mem_map] at hc
    obtain ⟨d, _, rfl⟩ := hc
    have := d.toNat_lt
    omega

theorem gather {α : Type} {R : List Value → α → Prop} {S : Nat → α → Prop} {s : Nat} : ∀ (n : Nat) {L : List Value}, L.length = n * s → ∀ k, (∀ i, i < n → ∃ v, R ((L.drop (i * s)).take s) v ∧ S (k + i) v) →
    ∃ xs : List α, xs.length = n ∧ RepL R L xs ∧ ∀ (i : Nat) y, xs[i]? = some y → S (k + i) y
  | 0, L, hL, _, _ => ⟨[], rfl, by simpa [RepL] using hL, by simp⟩
  | n + 1, L, hL, k, h => by
    obtain ⟨v, hv, sv⟩ := h 0 (by omega)
    have hL' : L.length = n * s + s := by rw [hL, Nat.add_mul]; omega
    obtain ⟨xs, h1, h2, h3⟩ := gather (R := R) (S := S) (s := s) n (L := L.drop s) (by simp; omega) (k + 1) (fun i hi => by
      obtain ⟨u, hu, su⟩ := h (i + 1) (by omega)
      refine ⟨u, ?_, by rw [Nat.add_right_comm, Nat.add_assoc]; exact su⟩
      rw [List.drop_drop]
      have : s + i * s = (i + 1) * s := by rw [Nat.add_mul]; omega
      rw [this]; exact hu)
    refine ⟨v :: xs, by simp [h1], ⟨L.take s, L.drop s, (List.take_append_drop s L).symm, by simpa using hv, h2⟩, ?_⟩
    intro i y hy
    cases i with
    | zero => simp at hy; subst hy; exact sv
    | succ i =>
      have := h3 i y (by simpa using hy)
      rw [Nat.add_right_comm, Nat.add_assoc] at this; exact this
theorem all_of_get {α : Type} {xs : List α} {p : α → Prop} (h : ∀ (i : Nat) y, xs[i]? = some y → p y) : ∀ y ∈ xs, p y := fun y hy => by
  obtain ⟨i, hi⟩ := List.getElem?_of_mem hy
  exact h i y hi

theorem cells?_some {w : World} {a : Addr} {n : Nat} {cs : List Value} (h : w.cells? 0 a n = some cs) (hn : 1 ≤ n) :
    a.spot = none ∧ ∃ c el fr, w.heap[a.block]? = some (.cells c el fr) ∧ a.off + n ≤ c.size ∧ cs = (c.toList.drop a.off).take n := by
  unfold World.cells? at h
  rw [if_pos (Nat.zero_le _)] at h
  have hl := mapM_some_length h
  have hg : ∀ i, i < n → w.cell? (a.add i) = cs[i]? := fun i hi => mapM_some_get h i i (by simp [hi])
  have hlen : cs.length = n := by simpa using hl
  have h0 := hg 0 (by omega)
  have hcs0 : cs[0]? = some cs[0] := by simp [hlen, show 0 < n by omega]
  rw [hcs0] at h0
  have ha : a.add 0 = a := by simp [Addr.add]
  rw [ha] at h0
  unfold World.cell? at h0
  split at h0
  · rename_i c el fr hm
    split at h0
    · cases h0
    · rename_i hs
      have hs : a.spot = none := by simpa using hs
      have each : ∀ i, i < n → c[a.off + i]? = cs[i]? := by
        intro i hi
        have := hg i hi
        by_cases h0 : i = 0
        · subst h0
          rw [ha] at this
          unfold World.cell? at this
          rw [hm] at this
          simp only [hs] at this
          simpa using this
        · simp only [Addr.add, if_neg h0, World.cell?, hm] at this
          simpa using this
      refine ⟨hs, c, el, fr, hm, ?_, ?_⟩
      · have h1 := each (n - 1) (by omega)
        have h2 : cs[n - 1]? = some cs[n - 1] := by simp [hlen, show n - 1 < n by omega]
        rw [h2] at h1
        have := (Array.getElem?_eq_some_iff.1 h1).1
        omega
      · apply List.ext_getElem?
        intro i
        by_cases hi : i < n
        · rw [← each i hi, List.getElem?_take, if_pos hi, List.getElem?_drop]
          simp
        · rw [List.getElem?_eq_none (by omega), List.getElem?_eq_none (by simp; omega)]
  · cases h0

theorem cellsOf_ty {P : Program} {t : T} {tid : TypeId} (h : tyChk P t tid = true) : P.cellsOf tid = t.size := by
  obtain ⟨i, _, hi, hs, _⟩ := tyChk_info h
  simp [Program.cellsOf, hi, hs]

theorem mem_weightsAll {H : Type} {P : Program} {e : TypeId} {n : Nat} : ∀ {l : List (DataW H)} {d : DataW H}, d ∈ l → n ∈ d.weights P e → n ∈ DataW.weightsAll P e l
  | a :: l, d, hd, hn => by
    simp only [DataW.weightsAll, List.mem_append]
    rcases List.mem_cons.1 hd with rfl | hd
    · exact .inl hn
    · exact .inr (mem_weightsAll hd hn)

theorem wf_rng {k : IntKind} {n : Int} (h : (Lit.int k n).wf = true) : rng k n := by
  cases k <;> simp [Lit.wf, IntKind.min, IntKind.max, IntKind.signed, IntKind.bits] at h <;> simp only [rng, lo, hi] <;> omega

section
variable {H : Type} {enc : TypeId × Value → H} {P : Program} {W : World} {sp : Nat → Bool} {held : Bool}

def CameT (enc : TypeId × Value → H) (P : Program) (W : World) (sp : Nat → Bool) (held : Bool) (t : T) : Prop := ∀ {tid : TypeId}, tyChk P t tid = true → rdChk P t = true → ∀ {fuel : Nat} {cs : List Value} {x : DataW H × List MemPlace},
  DataW.trod enc P W 0 sp held fuel tid cs = some x → (∀ n ∈ x.1.weights P tid, n ≤ reachBytes) → ∃ v : t.D, Rep t (memOf W) cs v ∧ Small P.bytesOf t v ∧ ∀ bk bka, BulkFn (H := H) bk bka → Bulk t v ≤ bk x.1

def CameF (enc : TypeId × Value → H) (P : Program) (W : World) (sp : Nat → Bool) (held : Bool) (t : T) : Prop := ∀ {r : List Field} {off : Nat}, stChk P t r off = true → rdChk P t = true → ∀ {fuel : Nat} {cs : List Value} {xs : List (DataW H × List MemPlace)},
  cs.length = t.size → xs.length = r.length → (∀ (i : Nat) (f : Field), r[i]? = some f → off ≤ f.offset ∧ DataW.trod enc P W 0 sp held fuel f.type ((cs.drop (f.offset - off)).take (P.cellsOf f.type)) = xs[i]?) →
  (∀ n ∈ DataW.weightsEach P (r.map (·.type)) (xs.map (·.1)), n ≤ reachBytes) → ∃ v : t.D, Rep t (memOf W) cs v ∧ Small P.bytesOf t v ∧ ∀ bk bka, BulkFn (H := H) bk bka → Bulk t v ≤ bka (xs.map (·.1))

theorem st_offs : ∀ {t : T} {r : List Field} {off : Nat}, stChk P t r off = true → ∀ (i : Nat) (f : Field), r[i]? = some f → off ≤ f.offset
  | .pair a b, f :: r, off, h, i, g, hg => by
    simp only [stChk, Bool.and_eq_true] at h
    have := Nat.eq_of_beq_eq_true h.1.1
    cases i with
    | zero => simp at hg; subst hg; omega
    | succ i => have := st_offs h.2 i g (by simpa using hg); omega
  | .unit, [], _, _, _, _, hg => by simp at hg
  | .pair _ _, [], _, h, _, _, _ => by simp [stChk] at h
  | .unit, _ :: _, _, h, _, _, _ => by simp [stChk] at h
  | .int _, _, _, h, _, _, _ => by simp [stChk] at h
  | .bool, _, _, h, _, _, _ => by simp [stChk] at h
  | .str, _, _, h, _, _, _ => by simp [stChk] at h
  | .raw _, _, _, h, _, _, _ => by simp [stChk] at h
  | .arr _ _, _, _, h, _, _, _ => by simp [stChk] at h
  | .sl _ _, _, _, h, _, _, _ => by simp [stChk] at h

theorem came : ∀ t : T, CameT enc P W sp held t ∧ CameF enc P W sp held t
  | .int k => ⟨fun {tid} hc hr {fuel cs x} h hw => by
      obtain ⟨i, d, hi, _, hu, hd⟩ := tyBase_info hc
      split at hd
      · rename_i k'
        obtain rfl := kindEq_eq hd
        obtain ⟨n, rfl, _, hwf⟩ := DataW.trod_int hu h
        exact ⟨n, ⟨rfl, wf_rng hwf⟩, wf_rng hwf, fun bk bka hb => hb.one _⟩
      · exact Bool.noConfusion hd, fun h => by simp [stChk] at h⟩
  | .bool => ⟨fun {tid} hc hr {fuel cs x} h hw => by
      obtain ⟨i, d, hi, _, hu, hd⟩ := tyBase_info hc
      split at hd
      · obtain ⟨b, rfl, _⟩ := DataW.trod_bool hu h
        exact ⟨b, rfl, trivial, fun bk bka hb => hb.one _⟩
      · exact Bool.noConfusion hd, fun h => by simp [stChk] at h⟩
  | .str => ⟨fun {tid} hc hr {fuel cs x} h hw => by
      obtain ⟨i, d, hi, _, hu, hd⟩ := tyBase_info hc
      split at hd
      · obtain ⟨s, rfl, rfl, _⟩ := DataW.trod_string hu h
        obtain ⟨h1, h2⟩ := bs_data s
        have := hw s.data.toList.length (by simp [DataW.weights])
        have hl : (s.data.toList.map fun c => (c.toNat : Int)).length ≤ 140737488351232 := by simpa [reachBytes] using this
        exact ⟨_, ⟨by rw [h1], h2, by simp only [most]; omega⟩, ⟨h2, hl⟩, fun bk bka hb => by rw [hb.str]; simp [Bulk]⟩
      · exact Bool.noConfusion hd, fun h => by simp [stChk] at h⟩
  | .raw _ => ⟨fun _ hr => by simp [rdChk] at hr, fun h => by simp [stChk] at h⟩
  | .unit => ⟨fun {tid} hc hr {fuel cs x} h hw => by
      obtain ⟨i, d, hi, hs, hu, hd⟩ := tyBase_info hc
      split at hd
      · rename_i fs
        obtain ⟨xs, n, _, _, hl, _⟩ := DataW.trod_struct hu h
        have : P.cellsOf tid = 0 := by simp [Program.cellsOf, hi, hs]
        rw [this] at hl
        exact ⟨(), by simpa [Rep] using hl, trivial, fun bk bka hb => Nat.zero_le _⟩
      · exact Bool.noConfusion hd, fun {r off} h hr {fuel cs xs} hl _ _ _ => ⟨(), by simpa [Rep, T.size] using hl, trivial, fun bk bka hb => Nat.zero_le _⟩⟩
  | .arr m u => ⟨fun {tid} hc hr {fuel cs x} h hw => by
      have hcells := cellsOf_ty hc
      obtain ⟨i, d, hi, hs, hu, hd⟩ := tyBase_info hc
      split at hd
      · rename_i m' e
        simp only [Bool.and_eq_true] at hd
        obtain rfl := Nat.eq_of_beq_eq_true hd.1
        have hce := cellsOf_ty hd.2
        obtain ⟨xs, n, _, rfl, hl, hxl, hx⟩ := DataW.trod_array hu h
        rw [hcells] at hl
        have := gather (R := Rep u (memOf W)) (S := fun i v => Small P.bytesOf u v ∧ ∀ x, xs[i]? = some x → ∀ bk bka, BulkFn (H := H) bk bka → Bulk u v ≤ bk x.1) (s := u.size) m hl 0 (fun i hi => by
          have h1 := hx i hi
          rw [hce] at h1
          have hlt : i < xs.length := by omega
          rw [List.getElem?_eq_getElem hlt] at h1
          obtain ⟨v, q1, q2, q3⟩ := (came u).1 hd.2 (by simpa [rdChk] using hr) h1 (fun n hn => hw n (by
            simp only [DataW.weights, hu]
            exact mem_weightsAll (List.mem_map.2 ⟨xs[i], List.getElem_mem _, rfl⟩) hn))
          exact ⟨v, q1, q2, fun x hx => by rw [Nat.zero_add, List.getElem?_eq_getElem hlt] at hx; cases hx; exact q3⟩)
        obtain ⟨ys, h1, h2, h3⟩ := this
        exact ⟨ys, ⟨h1, h2⟩, ⟨h1, all_of_get fun i y hy => (h3 i y hy).1⟩, fun bk bka hb => Nat.le_trans (hb.sum_le (by rw [h1, hxl]) fun i y x hy hx => (h3 i y hy).2 x (by rw [Nat.zero_add]; exact hx) bk bka hb) (hb.agg _)⟩
      · exact Bool.noConfusion hd, fun h => by simp [stChk] at h⟩
  | .sl e u => ⟨fun {tid} hc hr {fuel cs x} h hw => by
      simp only [tyChk, Bool.and_eq_true] at hc
      obtain ⟨hc1, hcu⟩ := hc
      obtain ⟨i, d, hi, hs, hu, hd⟩ := tyBase_info hc1
      simp only [rdChk, Bool.and_eq_true] at hr
      obtain ⟨⟨hB, hS⟩, hru⟩ := hr
      have hB := Nat.le_of_ble_eq_true hB
      have hS := Nat.le_of_ble_eq_true hS
      split at hd
      · rename_i e'
        obtain rfl := Nat.eq_of_beq_eq_true hd
        have hce := cellsOf_ty hcu
        rcases DataW.trod_slice hu h with ⟨rfl, rfl⟩ | ⟨a, len, cap, elems, rest, n, _, rfl, rfl, _, hlc, hcm, hel, hx, _⟩
        · exact ⟨[], ⟨none, 0, rfl, by simp, by simp, rfl⟩, ⟨by simp, by simp⟩, fun bk bka hb => by simpa [Bulk] using hb.one _⟩
        · have hbytes : (elems.length + rest.length) * P.bytesOf e ≤ reachBytes := by
            have := hw ((elems.length + rest.length) * P.bytesOf e) (by simp [DataW.weights, hu])
            exact this
          have hlb : len * P.bytesOf e ≤ 140737488351232 := by
            refine Nat.le_trans ?_ hbytes
            rw [← hel, Nat.add_mul]; omega
          have hlm : len ≤ 140737488351232 := Nat.le_trans (by simpa using Nat.mul_le_mul_left len hB) hlb
          rw [hce] at hx
          have each : ∀ i, i < len → ∃ ci, W.cells? 0 (a.add (i * u.size)) u.size = some ci ∧ ∃ v : u.D, Rep u (memOf W) ci v ∧ Small P.bytesOf u v ∧ ∀ x, elems[i]? = some x → ∀ bk bka, BulkFn (H := H) bk bka → Bulk u v ≤ bk x.1 := by
            intro i hi
            have h1 := hx i hi
            have hlt : i < elems.length := by omega
            rw [List.getElem?_eq_getElem hlt] at h1
            obtain ⟨ci, h2, h3⟩ := Option.bind_eq_some_iff.1 h1
            obtain ⟨v, q1, q2, q3⟩ := (came u).1 hcu hru h3 (fun n hn => hw n (by
              simp only [DataW.weights, hu, List.mem_cons, List.mem_append]
              exact .inr (.inl (mem_weightsAll (List.mem_map.2 ⟨elems[i], List.getElem_mem _, rfl⟩) hn))))
            exact ⟨ci, h2, v, q1, q2, fun x hx => by rw [List.getElem?_eq_getElem hlt] at hx; cases hx; exact q3⟩
          rcases Nat.eq_zero_or_pos len with h0 | h0
          · exact ⟨[], ⟨some a, cap, by simp [h0], by simp, by simp, .inl rfl⟩, ⟨by simp, by simp⟩, fun bk bka hb => by simpa [Bulk] using hb.one _⟩
          · obtain ⟨c0, hc0, _⟩ := each 0 h0
            have ha0 : a.add (0 * u.size) = a := by simp [Addr.add]
            rw [ha0] at hc0
            obtain ⟨hsp, c, el, fr, hm, _, _⟩ := cells?_some hc0 hS
            have place : ∀ i, i < len → a.off + i * u.size + u.size ≤ c.size ∧ ∃ v : u.D, Rep u (memOf W) ((c.toList.drop (a.off + i * u.size)).take u.size) v ∧ Small P.bytesOf u v ∧ ∀ x, elems[i]? = some x → ∀ bk bka, BulkFn (H := H) bk bka → Bulk u v ≤ bk x.1 := by
              intro i hi
              obtain ⟨ci, h1, h2⟩ := each i hi
              obtain ⟨_, c', el', fr', hm', hs', hcs⟩ := cells?_some h1 hS
              have hblk : (a.add (i * u.size)).block = a.block := by unfold Addr.add; split <;> rfl
              have hoff : (a.add (i * u.size)).off = a.off + i * u.size := by
                unfold Addr.add; split
                · rename_i hz; omega
                · rfl
              rw [hblk, hm] at hm'
              cases hm'
              rw [hoff] at hs' hcs
              rw [hcs] at h2
              exact ⟨hs', h2⟩
            have htot : a.off + len * u.size ≤ c.size := by
              have := (place (len - 1) (by omega)).1
              have e2 : (len - 1) * u.size + u.size = len * u.size := by
                rw [← Nat.succ_mul]; congr 1; omega
              omega
            obtain ⟨ys, h1, h2, h3⟩ := gather (R := Rep u (memOf W)) (S := fun i v => Small P.bytesOf u v ∧ ∀ x, elems[i]? = some x → ∀ bk bka, BulkFn (H := H) bk bka → Bulk u v ≤ bk x.1) (s := u.size) len (L := (c.toList.drop a.off).take (len * u.size)) (by simp; omega) 0 (fun i hi => by
              obtain ⟨_, v, hv, sv⟩ := place i hi
              refine ⟨v, ?_, by rw [Nat.zero_add]; exact sv⟩
              have hle : i * u.size + u.size ≤ len * u.size := by rw [← Nat.succ_mul]; exact Nat.mul_le_mul_right _ hi
              have e := take_drop_take (c.toList.drop a.off) 0 (len * u.size) (i * u.size) u.size hle
              rw [List.drop_zero, List.drop_drop, Nat.zero_add] at e
              rw [e]; exact hv)
            exact ⟨ys, ⟨some a, cap, by rw [h1], by rw [h1]; simp only [most]; omega, by rw [h1]; exact hlc, .inr ⟨hsp, c, el, fr, hm, by rw [h1]; exact htot, by rw [h1]; exact h2⟩⟩, ⟨by rw [h1]; exact hlb, all_of_get fun i y hy => (h3 i y hy).1⟩,
              fun bk bka hb => by
                have hs := hb.sum_le (B := Bulk u) (ys := ys) (xs := elems) (by rw [h1, hel]) fun i y x hy hx => (h3 i y hy).2 x (by rw [Nat.zero_add]; exact hx) bk bka hb
                have hs2 := hb.sl (elems.map (·.1)) (rest.map (·.1))
                simp only [Bulk]
                exact Nat.le_trans (Nat.succ_le_succ hs) hs2⟩
      · exact Bool.noConfusion hd, fun h => by simp [stChk] at h⟩
  | .pair a b => by
    have hF : CameF enc P W sp held (.pair a b) := fun {r off} h hr {fuel cs xs} hl hxl hx hw => by
      cases r with
      | nil => simp [stChk] at h
      | cons f r =>
        have hoffs := st_offs h
        simp only [stChk, Bool.and_eq_true] at h
        obtain ⟨⟨h1, h2⟩, h3⟩ := h
        have h1 := Nat.eq_of_beq_eq_true h1
        simp only [rdChk, Bool.and_eq_true] at hr
        cases xs with
        | nil => simp at hxl
        | cons x xs =>
          have hca := cellsOf_ty h2
          simp only [T.size] at hl
          have e0 := (hx 0 f rfl).2
          rw [h1, Nat.sub_self, List.drop_zero, hca] at e0
          simp only [List.map_cons, DataW.weightsEach, List.mem_append] at hw
          obtain ⟨va, ra, sa, ba⟩ := (came a).1 h2 hr.1 (by simpa using e0) (fun n hn => hw n (.inl hn))
          obtain ⟨vb, rb, sb, bb⟩ := (came b).2 h3 hr.2 (fuel := fuel) (cs := cs.drop a.size) (xs := xs) (by simp; omega) (by simpa using hxl) (fun i g hg => by
            have hge := st_offs h3 i g hg
            have := (hx (i + 1) g (by simpa using hg)).2
            refine ⟨hge, ?_⟩
            rw [List.drop_drop]
            have e : a.size + (g.offset - (off + a.size)) = g.offset - off := by omega
            rw [e]; simpa using this) (fun n hn => hw n (.inr hn))
          exact ⟨(va, vb), ⟨cs.take a.size, cs.drop a.size, (List.take_append_drop _ _).symm, ra, rb⟩, ⟨sa, sb⟩, fun bk bka hb => by
            have q1 := ba bk bka hb
            have q2 := bb bk bka hb
            simp only [Bulk, List.map_cons, hb.cons]; omega⟩
    refine ⟨fun {tid} hc hr {fuel cs x} h hw => ?_, hF⟩
    have hcells := cellsOf_ty hc
    obtain ⟨i, d, hi, hs, hu, hd⟩ := tyBase_info hc
    split at hd
    · rename_i fs
      split at hd
      · rename_i f r hfs
        have hst : stChk P (.pair a b) (f :: r) 0 = true := by
          simp only [stChk, Nat.zero_add]; exact hd
        obtain ⟨xs, n, _, rfl, hl, hxl, hx⟩ := DataW.trod_struct hu h
        rw [hcells] at hl
        obtain ⟨v, q1, q2, q3⟩ := hF hst hr (fuel := n) hl (by rw [hxl, ← hfs]; simp) (fun i g hg => ⟨Nat.zero_le _, by
          rw [Nat.sub_zero]
          exact hx i g (by rw [← hfs] at hg; simpa using hg)⟩) (fun n hn => hw n (by
          simp only [DataW.weights, hu]
          rw [hfs]; exact hn))
        exact ⟨v, q1, q2, fun bk bka hb => Nat.le_trans (q3 bk bka hb) (hb.agg _)⟩
      · cases hd
    · cases hd

/-! ### Arguments -/
@[reducible] def Vals : List T → Type
  | [] => Unit
  | t :: r => t.D × Vals r
@[reducible] def tvs : (ts : List T) → Vals ts → List TV
  | [], _ => []
  | t :: r, x => .one t x.1 :: tvs r x.2
@[reducible] def Smalls (B : TypeId → Nat) : (ts : List T) → Vals ts → Prop
  | [], _ => True
  | t :: r, x => Small B t x.1 ∧ Smalls B r x.2
@[reducible] def Bulks : (ts : List T) → Vals ts → Nat
  | [], _ => 0
  | t :: r, x => Bulk t x.1 + Bulks r x.2
def argsChk (P : Program) : List T → List TypeId → Bool
  | [], [] => true
  | t :: r, i :: is => tyChk P t i && rdChk P t && P.readableRec i && Nat.ble (i + 1) P.types.size && argsChk P r is
  | _, _ => false

theorem holds_of {t : T} {tid : TypeId} (hc : tyChk P t tid = true) (hr : rdChk P t = true) {v : Value} {base : Nat} (hv : Value.okWide P W .any base tid v) {x : t.D} (h : Rep t (memOf W) v.cells.toList x) : Holds t (memOf W) v x := by
  refine ⟨_, ?_, h⟩
  have agg : t.isAgg = true → v = mk t v.cells.toList := by
    intro ha
    obtain ⟨i, d, hi, hs, hu, hd⟩ := tyChk_info hc
    rw [ha] at hd
    unfold Value.okWide at hv
    rw [hu] at hv
    cases d <;> simp [aggD] at hd
    all_goals
      obtain ⟨cs, rfl, _, _⟩ := hv
      simp [mk, ha, Value.cells]
  by_cases ha : t.isAgg = true
  · exact agg ha
  · have ha : t.isAgg = false := by simpa using ha
    obtain ⟨u, e, ho⟩ := rep_one ha h
    have hna : ∀ cs, v ≠ .agg cs := by
      rintro cs rfl
      cases t <;> simp [T.isAgg] at ha <;> simp only [tyChk, Bool.and_eq_true] at hc
      case raw => simp [rdChk] at hr
      case sl =>
        obtain ⟨_, d, _, _, hu, hd⟩ := tyBase_info hc.1
        unfold Value.okWide at hv; rw [hu] at hv
        cases d <;> simp at hd <;> simp [Cell.okWide, Cell.ok, hu] at hv
      all_goals
        obtain ⟨_, d, _, _, hu, hd⟩ := tyBase_info hc
        unfold Value.okWide at hv; rw [hu] at hv
        cases d <;> simp at hd <;> simp [Cell.okWide, Cell.ok, hu] at hv
    have : v.cells.toList = [v] := by
      cases v <;> first | rfl | exact absurd rfl (hna _)
    rw [this]; simp [mk, ha]

theorem open_all (hl : True) : ∀ (ts : List T) {tids : List TypeId} {vs : List Value} {ds : List (DataW H)} {ps : List MemPlace} {base : Nat}, argsChk P ts tids = true → DataW.TrodAll enc P W 0 sp held tids vs ds ps →
    (∀ (j : Nat) t v, tids[j]? = some t → vs[j]? = some v → Value.okWide P W .any base t v) → (∀ n ∈ DataW.weightsEach P tids ds, n ≤ reachBytes) → ∃ xs : Vals ts, HoldAll (memOf W) (tvs ts xs) vs ∧ Smalls P.bytesOf ts xs ∧ ∀ bk bka, BulkFn (H := H) bk bka → Bulks ts xs ≤ bka ds
  | [], [], [], [], _, _, _, _, _, _ => ⟨(), .nil, trivial, fun _ _ _ => Nat.zero_le _⟩
  | t :: r, i :: is, v :: vs, d :: ds, ps, base, hc, h, hv, hw => by
    simp only [argsChk, Bool.and_eq_true] at hc
    obtain ⟨⟨⟨⟨h1, h2⟩, _⟩, _⟩, h3⟩ := hc
    obtain ⟨p, q, ⟨fuel, ht⟩, hr, _⟩ := h
    simp only [DataW.weightsEach, List.mem_append] at hw
    obtain ⟨x, rx, sx, bx⟩ := (came (sp := sp) (held := held) t).1 h1 h2 ht (fun n hn => hw n (.inl hn))
    obtain ⟨xs, hh, ss, bs⟩ := open_all hl r h3 hr (fun j t' v' hj hv' => hv (j + 1) t' v' (by simpa using hj) (by simpa using hv')) (fun n hn => hw n (.inr hn))
    exact ⟨(x, xs), .cons (holds_of h1 h2 (hv 0 i v rfl rfl) rx) hh, ⟨sx, ss⟩, fun bk bka hb => by
      have q1 : Bulk t x ≤ bk d := bx bk bka hb
      have q2 := bs bk bka hb
      simp only [Bulks, hb.cons]; omega⟩
  | [], [], _ :: _, _, _, _, _, h, _, _ => h.elim
  | [], [], [], _ :: _, _, _, _, h, _, _ => h.elim
  | [], _ :: _, _, _, _, _, h, _, _, _ => by simp [argsChk] at h
  | _ :: _, [], _, _, _, _, h, _, _, _ => by simp [argsChk] at h
  | _ :: _, _ :: _, [], _, _, _, _, h, _, _ => h.elim
  | _ :: _, _ :: _, _ :: _, [], _, _, _, h, _, _ => h.elim

theorem stays_all (hl : laidOutB P = true) {W' : World} (hb : Below W.heap.size W W') : ∀ (ts : List T) {tids : List TypeId} {vs : List Value} {ds : List (DataW H)} {ps : List MemPlace}, argsChk P ts tids = true →
    DataW.TrodAll enc P W 0 (fun _ => true) true tids vs ds ps → (∀ x ∈ ps, x.block < W.heap.size) → ∀ sp' : Nat → Bool, (∀ x ∈ ps, sp' x.block = true) → DataW.TrodAll enc P W' 0 sp' true tids vs ds ps
  | [], [], [], [], _, _, h, _, _, _ => h
  | t :: r, i :: is, v :: vs, d :: ds, ps, hc, h, hlt, sp', hs => by
    simp only [argsChk, Bool.and_eq_true] at hc
    obtain ⟨⟨⟨_, h2⟩, h4⟩, h3⟩ := hc
    obtain ⟨p, q, ht, hr, rfl⟩ := h
    exact ⟨p, q, WideElems.Trod_stays hl h2 (Nat.le_of_ble_eq_true h4) ht (fun x hx => hb.same (hlt x (by simp [hx]))) (fun x hx => hs x (by simp [hx])),
      stays_all hl hb r h3 hr (fun x hx => hlt x (by simp [hx])) sp' (fun x hx => hs x (by simp [hx])), rfl⟩
  | [], [], _ :: _, _, _, _, h, _, _, _ => h.elim
  | [], [], [], _ :: _, _, _, h, _, _, _ => h.elim
  | [], _ :: _, _, _, _, h, _, _, _, _ => by simp [argsChk] at h
  | _ :: _, [], _, _, _, h, _, _, _, _ => by simp [argsChk] at h
  | _ :: _, _ :: _, [], _, _, _, h, _, _, _ => h.elim
  | _ :: _, _ :: _, _ :: _, [], _, _, h, _, _, _ => h.elim
end

theorem trod_len {H : Type} {enc : TypeId × Value → H} {P : Program} {w : World} {base : Nat} {sp : Nat → Bool} {held : Bool} : ∀ {ts : List TypeId} {vs : List Value} {ds : List (DataW H)} {ps : List MemPlace}, DataW.TrodAll enc P w base sp held ts vs ds ps → ds.length = ts.length
  | [], [], [], _, _ => rfl
  | _ :: _, _ :: _, _ :: _, _, ⟨_, _, _, h, _⟩ => by simp [trod_len h]
  | [], _ :: _, _, _, h => h.elim
  | [], [], _ :: _, _, h => h.elim
  | _ :: _, [], _, _, h => h.elim
  | _ :: _, _ :: _, [], _, h => h.elim

end Sx
namespace Sx
open Go
section
variable {P : Program} {I : DI} {Tb : Tab} {F : Fr} {n : Nat} {E E' : Env} {L : List Res} {ops : Array Oper} {Q : Exit → Act → World → Prop} {rest : List Oper} {X : Act → World → Prop}

end
end Sx
namespace Sx
open Go

/-! ### A fold in any order -/
section
variable {P : Program} {I : DI} {Tb : Tab} {F : Fr} {n : Nat} {E E' : Env} {L : List Res} {ops : Array Oper} {Q : Exit → Act → World → Prop} {rest : List Oper} {X : Act → World → Prop}

end

/-! ### The files -/
section
variable (P : Program) (I : DI)
end

section
variable {P : Program} {I : DI} {Tb : Tab} {F : Fr} {n : Nat} {E E' : Env} {L : List Res} {ops : Array Oper} {Q : Exit → Act → World → Prop} {rest : List Oper} {X : Act → World → Prop}

/-! ### dirty sectors -/
/-! ### one file, told by its pointer -/
end

/-! ### a call whose arguments may be nil slices written out -/
inductive Args (E : Env) : List Operand → List TV → Prop
  | nil : Args E [] []
  | val {x : Operand} {t : TV} {l : List Operand} {ts : List TV} (h : ev E x = some t) (r : Args E l ts) : Args E (x :: l) (t :: ts)
  | nilsl {e : TypeId} {t : T} {l : List Operand} {ts : List TV} (r : Args E l ts) : Args E (.const (.slice none 0 0) :: l) (.one (.sl e t) [] :: ts)
section
variable {P : Program} {F : Fr} {n : Nat} {E : Env} {L : List Res} {ops : Array Oper} {Q : Exit → Act → World → Prop} {rest : List Oper}
end

section
variable {P : Program} {I : DI} {F : Fr} {n : Nat} {E : Env} {L : List Res} {X : Act → World → Prop}
end
end Sx
namespace Sx
open Go
end Sx
namespace Sx
open Go Go.Maps

section
variable {P : Program} {I : DI} {F : Fr} {n : Nat} {E E' : Env} {L : List Res} {ops : Array Oper} {Q : Exit → Act → World → Prop} {rest : List Oper}

theorem Sep.pick {M : Mem} {w : World} {R : Res} : ∀ {L : List Res} {i : Nat} {V : Nat → Prop}, Sep M w L V → L[i]? = some R → ∃ S, R.sat M S w ∧ ∀ k, S k → V k
  | [], _, _, _, h => by simp at h
  | R0 :: L, 0, V, ⟨S, V', r, s, d, e⟩, hi => by
    simp only [List.getElem?_cons_zero, Option.some.injEq] at hi; subst hi
    exact ⟨S, r, fun k h => (e k).2 (.inl h)⟩
  | R0 :: L, i + 1, V, ⟨S, V', r, s, d, e⟩, hi => by
    obtain ⟨S2, h2, h3⟩ := Sep.pick s (by simpa using hi)
    exact ⟨S2, h2, fun k h => (e k).2 (.inr (h3 k h))⟩
/-- two resources lie apart -/
theorem Sep.two {M : Mem} {w : World} {R1 R2 : Res} : ∀ {L : List Res} {i j : Nat} {V : Nat → Prop}, Sep M w L V → L[i]? = some R1 → L[j]? = some R2 → i ≠ j → ∃ S1 S2, R1.sat M S1 w ∧ R2.sat M S2 w ∧ ∀ k, S1 k → ¬ S2 k
  | [], _, _, _, _, h, _, _ => by simp at h
  | R :: L, 0, 0, _, _, _, _, h => absurd rfl h
  | R :: L, 0, j + 1, V, ⟨S, V', r, s, d, e⟩, hi, hj, _ => by
    simp only [List.getElem?_cons_zero, Option.some.injEq] at hi; subst hi
    obtain ⟨S2, h2, h3⟩ := Sep.pick s (by simpa using hj)
    exact ⟨S, S2, r, h2, fun k h h' => d k h (h3 k h')⟩
  | R :: L, i + 1, 0, V, ⟨S, V', r, s, d, e⟩, hi, hj, _ => by
    simp only [List.getElem?_cons_zero, Option.some.injEq] at hj; subst hj
    obtain ⟨S2, h2, h3⟩ := Sep.pick s (by simpa using hi)
    exact ⟨S2, S, h2, r, fun k h h' => d k h' (h3 k h)⟩
  | R :: L, i + 1, j + 1, V, ⟨S, V', r, s, d, e⟩, hi, hj, h => Sep.two s (by simpa using hi) (by simpa using hj) (by omega)

end
end Sx
namespace Sx
open Go Go.Maps Go.Sort Go.RowKit

end Sx
namespace Sx
open Go Go.Maps Go.Sort Go.RowKit Go.Proofs

section
variable {P : Program} {F : Fr} {M : Mem} {n : Nat} {E : Env} {L : List Res} {X : Act → World → Prop}
end

section
variable {P : Program} {I : DI} {F : Fr} {n : Nat} {E : Env} {L : List Res} {ops : Array Oper} {Q : Exit → Act → World → Prop} {rest : List Oper}

end
end Sx
namespace Sx
open Go

end Sx
namespace Sx
open Go Go.Maps Go.RowKit

/-- a variable holds this -/
def VarIs (b : Nat) (e : TypeId) (t : T) (x : t.D) (w : World) : Prop := ∃ (cs : List Value) (M : Mem), w.heap[b]? = some (.cells cs.toArray e (0, 0)) ∧ Rep t M cs x
section
variable {P : Program} {Tb : Tab} {F : Fr} {n : Nat} {E E' : Env} {L : List Res} {ops : Array Oper} {Q : Exit → Act → World → Prop} {S : World → Prop}

theorem h_start {id : Nat} {l : List Oper} (S : World → Prop) (hm : P.follows .mixedOrders = true) (g : Go F n E L (wpAnyH P .any l.toArray Q S l.toArray.size (Array.replicate l.toArray.size false))) : Go F n E L ((Code.region id l.toArray true).wp P Q) :=
  fun M a _ c => wp_region_held (S := S) hm (g M a _ { c with st := c.st.drew })

theorem h_take {fuel i : Nat} {op : Op} {d : Nat} {ty : TypeId} {pos : String} {after : Array Edge} {listed : Array Bool} {t : TV} (hQ : Blind Q) (hi : ops[i]? = some ⟨some d, op, ty, pos, after, none⟩) (hs : Region.noSelect ops = true)
    (hr : (Region.ready .any ops listed).contains i = true) (hf : Region.free .any ops listed i = true) (hS : ∀ M w, St F M w L → S w) (h : Yields (fun _ w' => S w') P F n E L op t) (hd : Nat.ble (d + 1) n = true)
    (g : Go F n ((d, t) :: E) L (wpAnyH P .any ops Q S fuel (listed.setIfInBounds i true))) : Go F n E L (wpAnyH P .any ops Q S (fuel + 1) listed) := fun M a w c => by
  obtain ⟨v, hv, hrun⟩ := h ⟨some d, op, ty, pos, after, none⟩ rfl M a w c
  refine wpAnyH_take (oi := ⟨some d, op, ty, pos, after, none⟩) (v := v) hi hs hf hr (fun ch a w h => hQ ch a _ _ w h) (.inl ⟨by simp [Region.wanted], fun w' hw' => hrun w' hw'⟩) (hS _ _ c.st) ?_
  exact g M _ w (c.put (Mem.le.refl _) c.st (Nat.le_of_ble_eq_true hd) hv)

theorem y_held {x : Operand} {z : Value} {b off : Nat} {e : TypeId} {t u : T} {xv : t.D} {tid : TypeId} (hV : ∀ w, S w → VarIs b e t xv w) (i : Nat) (p : Pth t u) (hfl : u.flat = true) (hx : ev E x = some (.one (.raw z) (.pointer (some ⟨b, off, none⟩)))) (hi : L[i]? = some (Res.var b e t xv))
    (hp : p.off = off) (hok : p.ok) (ht : tyChk P u tid = true) : Yields (fun _ w' => S w') P F n E L (.load tid x) (.one u (p.get xv)) := fun o ho M a w c => by
  obtain ⟨cs, hb, hr⟩ := c.st.var hi
  have hf := p.fits hok
  have hrep := Rep.get p hok hr
  rw [hp] at hrep hf
  refine ⟨mk u ((cs.drop off).take u.size), ⟨_, rfl, hrep⟩, fun w' hs => ?_⟩
  obtain ⟨cs', M', hb', hr'⟩ := hV w' hs
  have hl := hr'.size
  have hrep' := Rep.get p hok hr'
  rw [hp] at hrep'
  have hq : (cs'.drop off).take u.size = (cs.drop off).take u.size := Rep.unique hfl hrep' hrep
  have key := run_loadVar' (P := P) (w := w') ht hb' (by simp [hl]; exact hf) (M := M') (x := p.get xv) (by simpa using hrep')
  obtain ⟨dst, op, ty, pos, after, guard⟩ := o
  simp only at ho; subst ho
  have h1 := (holds_raw.1 (ev_ok c hx)).1
  exact run_val (by rw [h1, ← hq]; simp only [Instr.loadAt, Instr.sureAddr, run_bind, run_pure]; simpa using key)

theorem h_one {fuel i : Nat} {o : Oper} {listed : Array Bool} (hr : Region.ready .any ops listed = [i]) (hi : ops[i]? = some o) (g : Go F n E L (wpList P ops (Exit.then (fun a w => S w ∧ wpAnyH P .any ops Q S fuel (listed.setIfInBounds i true) a w) Q) [o])) :
    Go F n E L (wpAnyH P .any ops Q S (fuel + 1) listed) := fun M a w c => by
  refine wpAnyH_all hr (by simp) fun j hj => ?_
  obtain rfl := List.mem_singleton.1 hj
  exact wpOp_of_list hi (g M a w c)
theorem h_in {fuel : Nat} {listed : Array Bool} (hS : ∀ M w, St F M w L → S w) (g : Go F n E L (wpAnyH P .any ops Q S fuel listed)) : Go F n E L (fun a w => S w ∧ wpAnyH P .any ops Q S fuel listed a w) := fun M a w c => ⟨hS _ _ c.st, g M a w c⟩
theorem h_end {listed : Array Bool} (hr : Region.ready .any ops listed = []) (g : Go F n E L (Q .normal)) : Go F n E L (wpAnyH P .any ops Q S 0 listed) := fun M a w c => ⟨hr, g M a w c⟩
end

/-! ### guards -/
section
variable {P : Program} {F : Fr} {n : Nat} {E : Env} {L : List Res} {ops : Array Oper} {Q : Exit → Act → World → Prop} {S : World → Prop}
end

/-! ### several things that are held -/
def AllIs (l : List (World → Prop)) (w : World) : Prop := ∀ p ∈ l, p w
theorem allis_at {l : List (World → Prop)} {p : World → Prop} (i : Nat) (h : l[i]? = some p) : ∀ w, AllIs l w → p w := fun _ hw => hw p (List.mem_of_getElem? h)
section
variable {P : Program} {F : Fr} {n : Nat} {E : Env} {L : List Res} {S : World → Prop}
theorem allis_nil : ∀ M w, St F M w L → AllIs [] w := fun _ _ _ p hp => by cases hp
theorem allis_cons {q : World → Prop} {l : List (World → Prop)} (h : ∀ M w, St F M w L → q w) (r : ∀ M w, St F M w L → AllIs l w) : ∀ M w, St F M w L → AllIs (q :: l) w := fun M w st p hp => by
  rcases List.mem_cons.1 hp with rfl | hp
  · exact h M w st
  · exact r M w st p hp
theorem var_is {b : Nat} {e : TypeId} {t : T} {x : t.D} (i : Nat) (hi : L[i]? = some (Res.var b e t x)) : ∀ M w, St F M w L → VarIs b e t x w := fun M w st => by
  obtain ⟨cs, hb, hr⟩ := st.var hi
  exact ⟨cs, M, hb, hr⟩
end

/-! ### maps.Clone -/
end Sx
namespace Sx
open Go

/-- a kind of thing: what it tells, what it hides, and the resources that it is -/
structure Kind where
  D : Type
  γ : Type
  R : Nat → γ → D → List Res
/-- such a thing -/
def Res.cls (K : Kind) (p : Value) (x : K.D) : Res := Res.ex fun (g : Nat × K.γ) => Res.all (Res.fact (p = .pointer (some ⟨g.1, 0, none⟩)) :: K.R g.1 g.2 x)
section
variable {K : Kind} {P : Program} {F : Fr} {n : Nat} {E : Env} {L : List Res} {X : Act → World → Prop}
theorem r_uncls {p : Value} {x : K.D} (g : ∀ b s, p = .pointer (some ⟨b, 0, none⟩) → Go F n E (K.R b s x ++ L) X) : Go F n E (Res.cls K p x :: L) X :=
  r_unex fun ⟨b, s⟩ => r_unall (r_unfact fun h => g b s h)
theorem r_unclsb {b0 : Nat} {x : K.D} (g : ∀ s, Go F n E (K.R b0 s x ++ L) X) : Go F n E (Res.cls K (.pointer (some ⟨b0, 0, none⟩)) x :: L) X :=
  r_uncls fun b s h => by
    have : b0 = b := by simpa using h
    subst this; exact g s
theorem r_cls {b : Nat} {s : K.γ} {x : K.D} (g : Go F n E (Res.cls K (.pointer (some ⟨b, 0, none⟩)) x :: L) X) : Go F n E (K.R b s x ++ L) X := fun M a w c => by
  refine g M a w { c with st := c.st.sep_to fun V hs => ?_ }
  obtain ⟨A, B, sa, sb, d, e⟩ := Sep.split hs
  exact ⟨A, B, ⟨(b, s), sep_fact rfl sa⟩, sb, d, e⟩
end

/-! ### regions whose operations may come in several orders -/
section
variable {P : Program} {Tb : Tab} {F : Fr} {n : Nat} {E : Env} {L : List Res} {ops : Array Oper} {Q : Exit → Act → World → Prop} {S : World → Prop}
theorem h_two {fuel i j : Nat} {o o2 : Oper} {listed : Array Bool} (hr : Region.ready .any ops listed = [i, j]) (hi : ops[i]? = some o) (hj : ops[j]? = some o2) (g : Go F n E L (wpList P ops (Exit.then (fun a w => S w ∧ wpAnyH P .any ops Q S fuel (listed.setIfInBounds i true) a w) Q) [o]))
    (g2 : Go F n E L (wpList P ops (Exit.then (fun a w => S w ∧ wpAnyH P .any ops Q S fuel (listed.setIfInBounds j true) a w) Q) [o2])) : Go F n E L (wpAnyH P .any ops Q S (fuel + 1) listed) := fun M a w c => by
  refine wpAnyH_all hr (by simp) fun k hk => ?_
  rcases List.mem_cons.1 hk with rfl | hk
  · exact wpOp_of_list hi (g M a w c)
  · obtain rfl := List.mem_singleton.1 hk
    exact wpOp_of_list hj (g2 M a w c)
/-- what follows is proved once -/
theorem h_meet {γ : Type} {fuel : Nat} {listed : Array Bool} (E' : γ → Env) (L' : γ → List Res) (g1 : ∀ x, Go F n (E' x) (L' x) (Q .normal)) (g2 : (∀ x, Go F n (E' x) (L' x) (Q .normal)) → Go F n E L (wpAnyH P .any ops Q S fuel listed)) : Go F n E L (wpAnyH P .any ops Q S fuel listed) := g2 g1
end
end Sx
namespace Sx
open Go Go.RowKit

def strings_Builder_WriteByte (x : List Int) (c : Int) : Option (Value × List Int) := if x.length + 1 ≤ 140737488355328 then some (.nilIface, x ++ [c]) else none
def strings_Builder_WriteString (x s : List Int) : Option (Int × Value × List Int) := if s ≠ [] ∧ x.length + s.length ≤ 140737488355328 then some ((s.length : Int), .nilIface, x ++ s) else none
abbrev BT : T := .pair (.raw (.pointer none)) (.pair (.raw (.slice none 0 0)) .unit)
/-- a builder: 'T', 'e': the numbers of its type and of byte -/
def CBld (T e : Nat) : Kind := ⟨List Int, Value × Value, fun b g x => [Res.fact ((g.1 = .pointer none ∨ g.1 = .pointer (some ⟨b, 0, none⟩)) ∧ (x = [] → g.2 = .slice none 0 0)), Res.var b T BT (g.1, g.2, ()), Res.own g.2 e (.int .u8) x]⟩
/-- a slice that may be read -/
def Res.ownR (v : Value) (e : Nat) (x : List Int) : Res where
  sat _ S w := (v = .slice none 0 0 ∧ x = [] ∧ ∀ k, ¬ S k) ∨ ∃ g cap, x ≠ [] ∧ v = .slice (some ⟨g, 0, none⟩) x.length cap ∧ (∀ k, S k ↔ k = g) ∧ ∃ (c : Array Value) (fr : Nat × Nat), w.heap[g]? = some (.cells c e fr) ∧ c.toList.take x.length = x.map (fun y => Value.int .u8 y) ∧ byteOk x ∧ c.size = cap ∧ x.length ≤ cap ∧ x.length ≤ most
  mono _ := id
  loc h := fun g => g.elim .inl fun ⟨g, cap, h0, h1, h2, c, fr, h3, h4⟩ => .inr ⟨g, cap, h0, h1, h2, c, fr, by rw [h g ((h2 g).2 rfl)]; exact h3, h4⟩
  has := fun g k hk => by
    rcases g with ⟨_, _, h⟩ | ⟨b, cap, _, _, h2, c, fr, h3, _⟩
    · exact absurd hk (h k)
    · obtain rfl := (h2 k).1 hk; exact heap_lt h3
def CBldR (T e : Nat) : Kind := ⟨List Int, Value × Value, fun b g x => [Res.var b T BT (g.1, g.2, ()), Res.ownR g.2 e x]⟩

section
variable {P : Program} {T e : Nat} {F : Fr} {n : Nat} {E : Env} {L : List Res} {X : Act → World → Prop}
theorem r_newbld {b : Nat} (g : Go F n E (Res.cls (CBld T e) (.pointer (some ⟨b, 0, none⟩)) [] :: L) X) : Go F n E (Res.var b T BT (.pointer none, .slice none 0 0, ()) :: L) X := by
  refine r_nilown (.slice none 0 0) rfl e (.int .u8) ?_
  refine r_fact (p := ((Value.pointer none = .pointer none ∨ Value.pointer none = .pointer (some ⟨b, 0, none⟩)) ∧ (([] : List Int) = [] → Value.slice none 0 0 = .slice none 0 0))) ⟨.inl rfl, fun _ => rfl⟩ ?_
  refine r_perm (L' := [Res.fact _, Res.var b T BT (.pointer none, .slice none 0 0, ()), Res.own (.slice none 0 0) e (.int .u8) ([] : List Int)] ++ L) (.cons _ (List.Perm.swap _ _ _)) ?_
  exact r_cls (K := CBld T e) (s := (.pointer none, .slice none 0 0)) (x := ([] : List Int)) g
theorem r_unbld {p : Value} {x : List Int} (g : ∀ b p0 sv, p = .pointer (some ⟨b, 0, none⟩) → (p0 = .pointer none ∨ p0 = .pointer (some ⟨b, 0, none⟩)) → Go F n E (Res.var b T BT (p0, sv, ()) :: Res.own sv e (.int .u8) x :: L) X) : Go F n E (Res.cls (CBld T e) p x :: L) X :=
  r_uncls (K := CBld T e) fun b s h => r_unfact fun hf => g b s.1 s.2 h hf.1
theorem r_bld {b : Nat} {p0 sv : Value} {x : List Int} (h0 : p0 = .pointer none ∨ p0 = .pointer (some ⟨b, 0, none⟩)) (hx : x ≠ []) (g : Go F n E (Res.cls (CBld T e) (.pointer (some ⟨b, 0, none⟩)) x :: L) X) : Go F n E (Res.var b T BT (p0, sv, ()) :: Res.own sv e (.int .u8) x :: L) X :=
  r_fact (p := ((p0 = .pointer none ∨ p0 = .pointer (some ⟨b, 0, none⟩)) ∧ (x = [] → sv = .slice none 0 0))) ⟨h0, fun h => absurd h hx⟩ (r_cls (K := CBld T e) (s := (p0, sv)) (x := x) g)

theorem bld_cells {M : Mem} {cs : List Value} {p0 sv : Value} (h : Rep BT M cs (p0, sv, ())) : cs = [p0, sv] ∧ one sv = true := by
  obtain ⟨c1, c2, e1, h1, c3, c4, e2, h2, h3⟩ := h
  have h3' : c4 = [] := h3
  exact ⟨by rw [e1, h1.1, e2, h2.1, h3']; rfl, h2.2⟩
theorem cc_fn {kcc : FuncId} (hu : ∀ (b : Nat) (w : World), w.cell? ⟨b, 0, none⟩ = some (.pointer (some ⟨b, 0, none⟩)) → Calls P kcc #[.pointer (some ⟨b, 0, none⟩)] w fun e w' => e = .returned (.tuple #[]) ∧ w' = w)
    (hf : ∀ (b : Nat) (w : World), w.cell? ⟨b, 0, none⟩ = some (.pointer none) → w.shape? b = some (T, 2) → w.frozen? ⟨b, 0, none⟩ = false → Calls P kcc #[.pointer (some ⟨b, 0, none⟩)] w fun e w' => e = .returned (.tuple #[]) ∧ w' = w.setCell ⟨b, 0, none⟩ (.pointer (some ⟨b, 0, none⟩)))
    {b : Nat} {p0 sv : Value} (h0 : p0 = .pointer none ∨ p0 = .pointer (some ⟨b, 0, none⟩)) : Fn P kcc [ptr b 0] [Res.var b T BT (p0, sv, ())] (fun _ => .tup []) (fun _ => [Res.var b T BT (.pointer (some ⟨b, 0, none⟩), sv, ())]) := by
  intro F w vs hst hsz hargs
  cases hargs with
  | cons a r =>
    cases r
    obtain ⟨rfl, _⟩ := holds_raw.1 a
    obtain ⟨cs, hb, hr⟩ := hst.var (i := 0) rfl
    obtain ⟨hc, hone⟩ := bld_cells hr
    subst hc
    rcases h0 with rfl | rfl
    · refine (hf b w (by simp [World.cell?, hb]) (by simp [World.shape?, hb]) (by simp [World.frozen?, hb])).mono ?_
      rintro e w' ⟨rfl, rfl⟩
      have hset : (w.setCell ⟨b, 0, none⟩ (.pointer (some ⟨b, 0, none⟩))).heap[b]? = some (.cells #[.pointer (some ⟨b, 0, none⟩), sv] T (0, 0)) := by
        unfold World.setCell
        simp [Array.getElem?_modify, hb]
      refine ⟨_, F.base, rfl, ?_, ⟨[], rfl, .nil⟩⟩
      refine hst.turn (i := 0) rfl (R' := Res.var b T BT (.pointer (some ⟨b, 0, none⟩), sv, ())) (B := fun k => k = b) ?_ ?_ ?_ rfl rfl rfl (by simp [World.setCell])
      · rintro S ⟨hS, _⟩
        exact ⟨hS, [.pointer (some ⟨b, 0, none⟩), sv], by simpa using hset, [.pointer (some ⟨b, 0, none⟩)], [sv], rfl, ⟨rfl, rfl⟩, [sv], [], rfl, ⟨rfl, hone⟩, rfl⟩
      · rintro S ⟨hS, _⟩ k rfl; exact (hS _).2 rfl
      · intro k hk
        unfold World.setCell
        simp only [Array.getElem?_modify]
        rw [if_neg (fun h => hk h.symm)]
    · refine (hu b w (by simp [World.cell?, hb])).mono ?_
      rintro e w' ⟨rfl, rfl⟩
      exact ⟨_, F.base, rfl, hst, ⟨[], rfl, .nil⟩⟩

/-- what is built may be read -/
theorem bld_read {p : Value} {x : List Int} : ∀ M S w, (Res.cls (CBld T e) p x).sat M S w → (Res.cls (CBldR T e) p x).sat M S w := by
  rintro M S w ⟨g, S1, V1, hp, s1, d1, e1⟩
  refine ⟨g, S1, V1, hp, ?_, d1, e1⟩
  obtain ⟨S2, V2, ⟨⟨hf1, hf2⟩, hS2⟩, ⟨S3, V3, hv, ⟨S4, V4, ho, s4, d4, e4⟩, d3, e3⟩, d2, e2⟩ := s1
  refine ⟨S3, V3, hv, ⟨S4, V4, ?_, s4, d4, e4⟩, d3, fun k => by rw [e2 k, e3 k]; exact ⟨fun h => h.elim (fun h => absurd h (hS2 k)) id, .inr⟩⟩
  rcases ho with ⟨⟨a, h1⟩, h2, h3⟩ | ⟨b, cap, h1, h2, c, fr, h3, h4, h5, h6, h7, h8⟩
  · exact .inl ⟨hf2 h2, h2, h3⟩
  · by_cases hx : x = []
    · have := hf2 hx
      rw [this] at h1
      cases h1
    · obtain ⟨q1, q2⟩ := repL_u8 h4
      simp only [Sx.T.size, Nat.mul_one] at q1 h5
      exact .inr ⟨b, cap, hx, h1, h2, c, fr, h3, q1, q2, h5, h6, h7⟩
/-- String -/
theorem str_fn {ks : FuncId} (h1 : ∀ (b g cap : Nat) (p : Value) (cur : Array Value) (fz : Nat × Nat) (l : List UInt8) (w : World), l ≠ [] → w.heap[b]? = some (.cells #[p, .slice (some ⟨g, 0, none⟩) l.length cap] T (0, 0)) → w.heap[g]? = some (.cells cur e fz) → l.length ≤ cap → l.length ≤ 4611686018427387904 → cur.size = cap * 1 → cur.toList.take l.length = Lib.byteCells l →
      Calls P ks #[.pointer (some ⟨b, 0, none⟩)] w fun en w' => en = .returned (.string ⟨l.toArray⟩) ∧ w' = w.drew.freeze ⟨g, 0, none⟩ l.length)
    (h0 : ∀ (b : Nat) (p : Value) (w : World), w.heap[b]? = some (.cells #[p, .slice none 0 0] T (0, 0)) → Calls P ks #[.pointer (some ⟨b, 0, none⟩)] w fun en w' => en = .returned (.string ⟨#[]⟩) ∧ w' = w.drew)
    {p : Value} {x : List Int} : Fn P ks [.one (.raw (.pointer none)) p] [Res.cls (CBldR T e) p x] (fun _ => .one .str x) (fun _ => [Res.cls (CBldR T e) p x]) := by
  intro F w vs hst hsz hargs
  cases hargs with
  | cons a r =>
    cases r
    rw [(holds_raw.1 a).1]
    -- the resource is opened
    obtain ⟨b, p0, sv, rfl, hst2⟩ : ∃ b p0 sv, p = .pointer (some ⟨b, 0, none⟩) ∧ St F F.base w [Res.var b T BT (p0, sv, ()), Res.ownR sv e x] := by
      obtain ⟨V, ⟨S, V', ⟨g, S1, V1, ⟨hp, hS1⟩, s1, d1, e1⟩, s, d, en⟩, dd⟩ := hst.sep
      refine ⟨g.1, g.2.1, g.2.2, hp, { hst with sep := ⟨V, ?_, dd⟩ }⟩
      refine Sep.eqv (fun k => ?_) s1
      rw [en k, e1 k]
      exact ⟨fun h => .inl (.inr h), fun h => h.elim (fun h => h.elim (fun h => absurd h (hS1 k)) id) (fun h => absurd h (s k))⟩
    have back : ∀ {w' : World}, St F F.base w' [Res.var b T BT (p0, sv, ()), Res.ownR sv e x] → St F F.base w' [Res.cls (CBldR T e) (.pointer (some ⟨b, 0, none⟩)) x] := fun h => h.sep_to fun V hs => by
      refine ⟨V, fun _ => False, ⟨(b, p0, sv), fun _ => False, V, ⟨rfl, fun _ h => h⟩, hs, fun _ h => h.elim, fun k => ⟨.inr, fun h => h.elim False.elim id⟩⟩, fun _ h => h, fun _ _ h => h, fun k => ⟨.inl, fun h => h.elim id False.elim⟩⟩
    obtain ⟨cs, hb, hr⟩ := hst2.var (i := 0) rfl
    obtain ⟨hc, hone⟩ := bld_cells hr
    subst hc
    obtain ⟨S, hS⟩ := hst2.res (i := 1) rfl
    have hdr : St F F.base w.drew [Res.var b T BT (p0, sv, ()), Res.ownR sv e x] := hst2.drew
    rcases hS with ⟨rfl, rfl, _⟩ | ⟨g, cap, hne, rfl, hSg, c, fr, g1, g2, g3, g4, g5, g6⟩
    · refine (h0 b p0 w hb).mono ?_
      rintro en w' ⟨rfl, rfl⟩
      exact ⟨_, F.base, rfl, back hdr, holds_bytes (l := []) (by simp)⟩
    · have hlen : (toB x).length = x.length := toB_length x
      have hbc : x.map (fun y => Value.int .u8 y) = Lib.byteCells (toB x) := by
        unfold Lib.byteCells toB
        rw [List.map_map]
        refine List.map_congr_left fun y hy => ?_
        have := g3 y hy
        simp only [Function.comp, UInt8.toNat_ofNat']
        congr 1; omega
      refine (h1 b g cap p0 c fr (toB x) w (fun h => hne (by have := hlen; rw [h] at this; exact List.length_eq_zero_iff.1 this.symm)) (by rw [hlen]; exact hb) g1 (by omega) (by simp only [most] at g6; omega) (by omega) (by rw [hlen, g2, hbc])).mono ?_
      rintro en w' ⟨rfl, rfl⟩
      have hval : Holds .str F.base (.string ⟨(toB x).toArray⟩) x := by
        have := holds_bytes (M := F.base) (l := toB x) (by rw [hlen]; exact g6)
        rwa [ofB_toB g3] at this
      refine ⟨_, F.base, rfl, back ?_, hval⟩
      have hfz : ∀ k, k ≠ g → (w.drew.freeze ⟨g, 0, none⟩ (toB x).length).heap[k]? = w.heap[k]? := fun k hk => by
        unfold World.freeze
        split
        · rfl
        · simp only [Array.getElem?_modify]
          rw [if_neg (fun h => hk h.symm)]; rfl
      have hfg : ∃ fr', (w.drew.freeze ⟨g, 0, none⟩ (toB x).length).heap[g]? = some (.cells c e fr') := by
        unfold World.freeze
        split
        · exact ⟨fr, g1⟩
        · obtain ⟨lo, hi⟩ := fr
          simp only [Array.getElem?_modify]
          rw [if_pos trivial, show w.drew.heap[g]? = some (.cells c e (lo, hi)) from g1]
          exact ⟨_, rfl⟩
      obtain ⟨fr', hfg⟩ := hfg
      have := hdr.turn (i := 1) rfl (R' := Res.ownR (.slice (some ⟨g, 0, none⟩) x.length cap) e x) (w' := w.drew.freeze ⟨g, 0, none⟩ (toB x).length) (B := fun k => k = g) (fun S hS => ?_) (fun S hS k hk => ?_) (fun k hk => hfz k hk) (by unfold World.freeze; split <;> rfl) (by unfold World.freeze; split <;> rfl) (by unfold World.freeze; split <;> rfl) (by unfold World.freeze; split <;> simp)
      · exact this
      · rcases hS with ⟨h, _⟩ | ⟨g', cap', q0, q1, q2, q3⟩
        · cases h
        · simp only [Value.slice.injEq, Option.some.injEq, Addr.mk.injEq, and_true, true_and] at q1
          obtain ⟨rfl, rfl⟩ := q1
          exact .inr ⟨g, cap, hne, rfl, q2, c, fr', hfg, g2, g3, g4, g5, g6⟩
      · subst hk
        rcases hS with ⟨h, _⟩ | ⟨g', cap', q0, q1, q2, q3⟩
        · cases h
        · simp only [Value.slice.injEq, Option.some.injEq, Addr.mk.injEq, and_true, true_and] at q1
          obtain ⟨rfl, rfl⟩ := q1
          exact (q2 k).2 rfl
end
end Sx
namespace Sx
open Go

/-- the rune at a place, and the place behind it -/
def rune (s : List Int) (p : Nat) : Int := (Utf8.decode (bs s) p).1
def past (s : List Int) (p : Nat) : Nat := p + (Utf8.decode (bs s) p).2

def Res.siter (it : Value) (s : List Int) (p : Nat) : Res where
  sat _ S w := ∃ r, it = .pointer (some ⟨r, 0, none⟩) ∧ (∀ k, S k ↔ k = r) ∧ w.heap[r]? = some (.stringIter (bs s) p) ∧ s.length ≤ most
  mono _ := id
  loc h := fun ⟨r, h1, h2, h3, h4⟩ => ⟨r, h1, h2, by rw [h r ((h2 r).2 rfl)]; exact h3, h4⟩
  has := fun ⟨r, _, h2, h3, _⟩ k hk => by obtain rfl := (h2 k).1 hk; exact heap_lt h3

theorem valid_lt {c : Nat} (h : Utf8.valid (c : Int) = true) : c < 1114112 := by
  simp only [Utf8.valid, Bool.or_eq_true, Bool.and_eq_true, decide_eq_true_eq] at h
  omega
theorem dec_lt (s : ByteArray) (p : Nat) : (Utf8.decode s p).1 < 1114112 := by
  have h0 : ∀ k, (s.get! (p + k)).toNat < 256 := fun k => (s.get! (p + k)).toNat_lt
  unfold Utf8.decode
  simp only
  have := h0 0; have := h0 1; have := h0 2; have := h0 3
  repeat' split
  all_goals first | (simp only [Utf8.runeError]; omega) | skip
  all_goals first | omega | skip
  all_goals (rename_i hh; simp only [ge_iff_le, Bool.and_eq_true, decide_eq_true_eq] at hh; exact valid_lt hh.2)
theorem rune_rng {s : List Int} {p : Nat} : rng .i32 (rune s p) := by
  have := dec_lt (bs s) p
  unfold rng rune
  simp [Sx.lo, Sx.hi]
  try omega
section
variable {P : Program} {F : Fr} {n : Nat} {E : Env} {L : List Res} {ops : Array Oper} {Q : Exit → Act → World → Prop} {rest : List Oper}

theorem r_srange {m : Operand} {s : List Int} {mt d : Nat} {ty : TypeId} {pos : String} {after : Array Edge} (hm : ev E m = some (.one .str s)) (ht : P.underlying mt = some .string) (hd : Nat.ble (d + 1) n = true)
    (g : ∀ it, Go F n ((d, .one (.raw (.pointer none)) it) :: E) (Res.siter it s 0 :: L) (wpList P ops Q rest)) : Go F n E L (wpList P ops Q (⟨some d, .range mt m, ty, pos, after, none⟩ :: rest)) := fun M a w c => by
  obtain ⟨hmv, _, hlen⟩ := holds_str.1 (ev_ok c hm)
  have he : (execOp a.eval ⟨some d, .range mt m, ty, pos, after, none⟩).run P w = .ok (.value (.pointer (some ⟨w.heap.size, 0, none⟩))) (w.iter (bs s) 0) := run_val (by rw [hmv]; exact run_range_string w mt (bs s) ht)
  refine step_val (d := d) rfl (by simp [Region.wanted]) he (g _ M _ _ (c.put (Mem.le.refl _) (c.st.new ?_) (Nat.le_of_ble_eq_true hd) (holds_raw.2 ⟨rfl, rfl⟩)))
  exact ⟨w.heap.size, rfl, fun k => Iff.rfl, by simp, hlen⟩

theorem r_snext {x : Operand} {z it : Value} {s : List Int} {p d : Nat} {ty : TypeId} {pos : String} {after : Array Edge} (i : Nat) (hx : ev E x = some (.one (.raw z) it)) (hi : L[i]? = some (Res.siter it s p)) (hd : Nat.ble (d + 1) n = true)
    (hend : ¬ p < s.length → Go F n ((d, .tup [⟨.bool, false⟩]) :: E) L (wpList P ops Q rest))
    (hone : p < s.length → Go F n ((d, .tup [⟨.bool, true⟩, ⟨.int .i64, Int.ofNat p⟩, ⟨.int .i32, rune s p⟩]) :: E) (L.set i (Res.siter it s (past s p))) (wpList P ops Q rest)) :
    Go F n E L (wpList P ops Q (⟨some d, .next x true, ty, pos, after, none⟩ :: rest)) := fun M a w c => by
  obtain ⟨S, r, rfl, hS, hr, hlen⟩ := c.st.res hi
  have hxv := (holds_raw.1 (ev_ok c hx)).1
  have hsz : (bs s).size = s.length := bs_size
  by_cases hp : p < s.length
  · have he : (execOp a.eval ⟨some d, .next x true, ty, pos, after, none⟩).run P w = .ok (.value (.tuple #[.bool true, .int .i64 p, .int .i32 (rune s p)])) { w with heap := w.heap.setIfInBounds r (.stringIter (bs s) (past s p)) } := run_val (by
      rw [hxv]
      simp [Instr.next, getObj, setObj, Sem.run, run_bind, hr, hsz, hp, goInt, rune, past, Result.andThen])
    have hst : St F M { w with heap := w.heap.setIfInBounds r (.stringIter (bs s) (past s p)) } (L.set i (Res.siter (.pointer (some ⟨r, 0, none⟩)) s (past s p))) := by
      refine c.st.turn hi (B := fun k => k = r) ?_ ?_ ?_ rfl rfl rfl (by simp)
      · rintro S' ⟨r', e1, hS', _⟩
        cases e1
        exact ⟨r, rfl, hS', by simp [Array.getElem?_setIfInBounds, heap_lt hr], hlen⟩
      · rintro S' ⟨r', e1, hS', _⟩ k rfl
        cases e1; exact (hS' _).2 rfl
      · intro k hk
        simp only [Array.getElem?_setIfInBounds]
        rw [if_neg (fun h => hk h.symm)]
    refine step_val (d := d) rfl (by simp [Region.wanted]) he (hone hp M _ _ (c.put (Mem.le.refl _) hst (Nat.le_of_ble_eq_true hd) ⟨[.bool true, .int .i64 p, .int .i32 (rune s p)], rfl, .cons (holds_bool.2 rfl) (.cons (holds_int.2 ⟨rfl, ?_⟩) (.cons (holds_int.2 ⟨rfl, rune_rng⟩) .nil))⟩))
    unfold rng
    simp [Sx.lo, Sx.hi]
    unfold most at hlen
    omega
  · have he : (execOp a.eval ⟨some d, .next x true, ty, pos, after, none⟩).run P w = .ok (.value (.tuple #[.bool false])) w := run_val (by
      rw [hxv]
      simp [Instr.next, getObj, Sem.run, run_bind, hr, hsz, hp])
    exact step_val (d := d) rfl (by simp [Region.wanted]) he (hend hp M _ _ (c.put (Mem.le.refl _) c.st (Nat.le_of_ble_eq_true hd) ⟨[.bool false], rfl, .cons (holds_bool.2 rfl) .nil⟩))

/-- a call of a function value that is known -/
theorem r_viaf {o : Operand} {k : FuncId} {z : Value} (ho : ev E o = some (.one (.raw z) (fnv k))) {xs : Array Operand} {tys : Array TypeId} {d : Option Nat} {ty : TypeId} {pos : String} {after : Array Edge}
    (g : Go F n E L (wpList P ops Q (⟨d, .call ⟨.value (.func k), xs, tys⟩, ty, pos, after, none⟩ :: rest))) : Go F n E L (wpList P ops Q (⟨d, .call ⟨.value o, xs, tys⟩, ty, pos, after, none⟩ :: rest)) := fun M a w c => by
  have hv := (holds_raw.1 (ev_ok c ho)).1
  have hg := g M a w c
  have he : execOp a.eval ⟨d, .call ⟨.value o, xs, tys⟩, ty, pos, after, none⟩ = execOp a.eval ⟨d, .call ⟨.value (.func k), xs, tys⟩, ty, pos, after, none⟩ := by
    simp only [execOp, resolve]
    rw [hv]
    rfl
  unfold wpList at hg ⊢
  rw [if_pos (by simp [Region.wanted])] at hg ⊢
  rcases hg with h | h
  · left
    unfold Oper.wp at h ⊢
    rw [he]; exact h
  · right
    refine ⟨?_, h.2⟩
    obtain ⟨h1, h2⟩ := h
    unfold Oper.asks at h1 ⊢
    rw [he]; exact h1
end
end Sx
namespace Sx
open Go

section
variable {P : Program} {Tb : Tab} {F : Fr} {n : Nat} {E : Env} {L : List Res} {ops : Array Oper} {Q : Exit → Act → World → Prop} {rest : List Oper}

theorem y_arrsl {R : World → World → Prop} {x : Operand} {z : Value} {b off k : Nat} {t : T} {arr elem : TypeId} (hx : ev E x = some (.one (.raw z) (.pointer (some ⟨b, off, none⟩)))) (hu : P.underlying arr = some (.array k elem)) (hk : Nat.ble 1 k = true) (hc : tyChk P t elem = true) :
    Yields R P F n E L (.slice arr x none none none) (.one (.raw (.slice none 0 0)) (.slice (some ⟨b, off, none⟩) k k)) := fun o ho M a w c => by
  have hv := (holds_raw.1 (ev_ok c hx)).1
  refine ⟨_, holds_raw.2 ⟨rfl, rfl⟩, fun w' _ => ?_⟩
  obtain ⟨dst, op, ty, pos, after, guard⟩ := o
  simp only at ho; subst ho
  have h1 := Nat.le_of_ble_eq_true hk
  refine run_val ?_
  rw [hv]
  simp only [Option.map_none]
  unfold Instr.sliceAt
  simp only [run_bind, run_underlying hu, Instr.sureAddr, Instr.sliceBounds, run_pure, run_sizeOf hc, Nat.sub_zero]
  rw [if_neg (by omega)]
  simp [Addr.add]

theorem src_arr {x : Operand} {z : Value} {b off k : Nat} {e : TypeId} {t u : T} {xv : t.D} (j : Nat) (p : Pth t (.arr k u)) (hx : ev E x = some (.one (.raw z) (.slice (some ⟨b, off, none⟩) k k))) (hj : L[j]? = some (Res.var b e t xv)) (hp : p.off = off) (hok : p.ok) : Src P F n E L x u (p.get xv) := fun M a w c => by
  obtain ⟨cs, hb, hr⟩ := c.st.var hj
  have hl := hr.size
  have hf := p.fits hok
  have hrep := Rep.get p hok hr
  rw [hp] at hrep hf
  obtain ⟨hlen, hrl⟩ := hrep
  have hv := (holds_raw.1 (ev_ok c hx)).1
  rw [hv]
  refine ⟨_, hrl, fun w' hw => ⟨by rw [show List.length (p.get xv) = k from hlen]; rfl, ?_⟩⟩
  have hsz : (T.arr k u).size = k * u.size := rfl
  rw [hsz] at hf
  rw [show List.length (p.get xv) = k from hlen]
  have := run_loadCells (P := P) (w := w') (b := b) (off := off) (c := cs.toArray) (el := e) (fr := (0, 0)) (by rw [hw]; exact hb) (k * u.size) 0 #[] (by simp only [List.size_toArray]; omega)
  simp only [Builtin.firstCells, loadCells, this, hsz]
  simp

/-- append to a slice that has no room -/
theorem r_appfull (hT : Tb.chk P = true) {s x : Operand} {z : Value} {b off k : Nat} {elem B : Nat} {t : T} {xs ys : List t.D} {sT xT : TypeId} {d : Nat} {ty : TypeId} {pos : String} {after : Array Edge}
    (hs : ev E s = some (.one (.raw z) (.slice (some ⟨b, off, none⟩) k k))) (srcS : Src P F n E L s t xs) (src : Src P F n E L x t ys) (hk : xs.length = k) (hne : 0 < ys.length) (hsT : lk Tb.slices sT = some elem) (he : elemChk P t elem B = true) (hx : noInt P xT = true) (hB : Nat.ble 1 B = true)
    (hlen : (xs.length + ys.length) * B ≤ 140737488355328) (hd : Nat.ble (d + 1) n = true)
    (g : ∀ v', Go F n ((d, .one (.raw (.slice none 0 0)) v') :: E) (Res.own v' elem t (xs ++ ys) :: L) (wpList P ops Q rest)) :
    Go F n E L (wpList P ops Q (⟨some d, .call ⟨.builtin .append, #[s, x], #[sT, xT]⟩, ty, pos, after, none⟩ :: rest)) := fun M a w c => by
  obtain ⟨ht, inf, hinf, hbytes, hzero⟩ := elemChk_ok he
  obtain ⟨ds, hds, hsrc⟩ := src M a w c
  obtain ⟨olds, holds, hsrcS⟩ := srcS M a w c
  have hdl := RepL.length (s := t.size) (fun c x h => Rep.size h) hds
  have hol' := RepL.length (s := t.size) (fun c x h => Rep.size h) holds
  have hB1 : 1 ≤ B := Nat.le_of_ble_eq_true hB
  have hv := (holds_raw.1 (ev_ok c hs)).1
  have hred : ∀ {v' : Value} {w' : World}, (Builtin.append_ #[sT, xT] ty #[.slice (some ⟨b, off, none⟩) k k, a.eval x]).run P w = .ok v' w' →
      (execOp a.eval ⟨some d, .call ⟨.builtin .append, #[s, x], #[sT, xT]⟩, ty, pos, after, none⟩).run P w = .ok (.value v') w' := by
    intro v' w' h
    have : #[s, x].map a.eval = #[.slice (some ⟨b, off, none⟩) k k, a.eval x] := by simp [hv]
    simp only [execOp, resolve, run_bind, run_pure, invoke, Go.builtin, this, h]
  have hmost : xs.length + ys.length ≤ most := by
    have := Nat.le_mul_of_pos_right (xs.length + ys.length) hB1
    simp only [most]; omega
  have hnd : Nat.le (d + 1) n := Nat.le_of_ble_eq_true hd
  obtain ⟨_, hgrow⟩ := run_append (P := P) (ty := ty) (w := w) (ds := ds) (olds := olds) (sLen := xs.length) (sCap := k) (Tab.slice hT hsT) ht hx hinf hbytes hzero hB1 (by rw [hk]) (fun w' h => (hsrc w' h).1) (fun w' h => (hsrc w' h).2) (fun w' h => by rw [← hv]; exact (hsrcS w' h).2) hlen
  obtain ⟨newCap, zs, dr, hnc, hzs, hr⟩ := hgrow (by omega)
  refine step_val (d := d) rfl (by simp [Region.wanted]) (hred hr) (g _ M _ _ (c.put (Mem.le.refl _) ?_ hnd (holds_raw.2 ⟨rfl, rfl⟩)))
  have hst := St.drewTo dr c.st
  refine hst.new (R := Res.own (.slice (some ⟨w.heap.size, 0, none⟩) (xs.length + ys.length) newCap) elem t (xs ++ ys)) (o := .cells (olds ++ ds ++ zs).toArray elem) ?_
  refine .inr ⟨w.heap.size, newCap, by simp, fun k => Iff.rfl, (olds ++ ds ++ zs).toArray, (0, 0), by simp, ?_, ?_, by simpa using hnc, by simpa using hmost, unfrozen_zero _⟩
  · have e1 : (xs ++ ys).length * t.size = (olds ++ ds).length := by rw [List.length_append, Nat.add_mul, List.length_append, hol', hdl]
    rw [e1]
    have e2 : (olds ++ ds ++ zs).toArray.toList.take (olds ++ ds).length = olds ++ ds := by simp only []; exact List.take_left
    rw [e2]
    exact RepL.append holds hds
  · simp only [List.size_toArray, List.length_append, hol', hdl, hzs]
    rw [← Nat.add_mul, ← Nat.add_mul]
    congr 1; omega

/-- append an array to an array -/
theorem r_apparr (hT : Tb.chk P = true) {s x : Operand} {z z' : Value} {b off k b' off' k' : Nat} {e e' : TypeId} {elem B : Nat} {t tv tv' : T} {xv : tv.D} {xv' : tv'.D} {sT xT : TypeId} {d : Nat} {ty : TypeId} {pos : String} {after : Array Edge} (i : Nat) (p : Pth tv (.arr k t)) (j : Nat) (q : Pth tv' (.arr k' t))
    (hs : ev E s = some (.one (.raw z) (.slice (some ⟨b, off, none⟩) k k))) (hi : L[i]? = some (Res.var b e tv xv)) (hp : p.off = off) (hok : p.ok)
    (hs' : ev E x = some (.one (.raw z') (.slice (some ⟨b', off', none⟩) k' k'))) (hi' : L[j]? = some (Res.var b' e' tv' xv')) (hp' : q.off = off') (hok' : q.ok)
    (hsT : lk Tb.slices sT = some elem) (he : elemChk P t elem B = true) (hx : noInt P xT = true) (hB : Nat.ble 1 B = true) (hlen : Nat.ble ((k + k') * B) 140737488355328 = true) (hk' : Nat.ble 1 k' = true) (hd : Nat.ble (d + 1) n = true)
    (g : ∀ v', Go F n ((d, .one (.raw (.slice none 0 0)) v') :: E) (Res.own v' elem t (p.get xv ++ q.get xv') :: L) (wpList P ops Q rest)) :
    Go F n E L (wpList P ops Q (⟨some d, .call ⟨.builtin .append, #[s, x], #[sT, xT]⟩, ty, pos, after, none⟩ :: rest)) := fun M a w c => by
  have len : ∀ {b off k : Nat} {e : TypeId} {tv : T} {xv : tv.D} (i : Nat) (p : Pth tv (.arr k t)), L[i]? = some (Res.var b e tv xv) → p.ok → List.length (p.get xv) = k := fun i p hi hok => by
    obtain ⟨cs, hb, hr⟩ := c.st.var hi
    exact (Rep.get p hok hr).1
  have l1 := len (off := off) i p hi hok
  have l2 := len (off := off') j q hi' hok'
  refine r_appfull hT hs (src_arr i p hs hi hp hok) (src_arr j q hs' hi' hp' hok') l1 ?_ hsT he hx hB ?_ hd g M a w c
  · rw [l2]; exact Nat.le_of_ble_eq_true hk'
  · rw [l1, l2]; exact Nat.le_of_ble_eq_true hlen
end
end Sx
namespace Sx
open Go Go.RowKit

abbrev adr (b : Nat) : Value := .pointer (some ⟨b, 0, none⟩)
/-- the closure: it does nothing, or catches and writes both results -/
class Catch (P : Program) (k : FuncId) (ch : outParam Value) (tn e1 e2 : outParam TypeId) (v1 v2 : outParam Value) : Prop where
  call : callable P k = true
  idle : ∀ p q w, CallsD P k #[p, q] .returning w fun e u' w' => e = .returned (.tuple #[]) ∧ u' = .returning ∧ w' = w
  take : ∀ a b x y (w : World), a ≠ b → w.heap[a]? = some (.cells #[x] e1 (0, 0)) → w.heap[b]? = some (.cells #[y] e2 (0, 0)) →
    CallsD P k #[adr a, adr b] (.panicking [{ v := ch, recovered := false }]) w fun e u' w' => e = .returned (.tuple #[]) ∧ u' = .panicking [{ v := ch, recovered := true }] ∧
      w' = ((w.alloc (.cells #[] tn (0, 0))).setCell ⟨a, 0, none⟩ v1).setCell ⟨b, 0, none⟩ v2

abbrev dfv (k : FuncId) (a b : Nat) : Deferred := { target := .fn (.func k) #[adr a, adr b], args := #[] }

/-- where it breaks both results are still there -/
structure KC (i j : Nat) (e1 e2 : TypeId) (a b : Nat) (E : Env) (L : List Res) : Prop where
  x : E.get i = some (ptr a 0)
  y : E.get j = some (ptr b 0)
  r : ∃ (p q : Nat) (t u : T) (x : t.D) (y : u.D), p ≠ q ∧ L[p]? = some (Res.var a e1 t x) ∧ t.size = 1 ∧ L[q]? = some (Res.var b e2 u y) ∧ u.size = 1

theorem KC.of {E : Env} {L : List Res} (i j : Nat) (e1 e2 : TypeId) (a b p q : Nat) {t u : T} {x : t.D} {y : u.D} (h1 : E.get i = some (ptr a 0)) (h2 : E.get j = some (ptr b 0)) (hpq : Nat.beq p q = false) (h3 : L[p]? = some (Res.var a e1 t x)) (h4 : t.size = 1) (h5 : L[q]? = some (Res.var b e2 u y)) (h6 : u.size = 1) : KC i j e1 e2 a b E L :=
  ⟨h1, h2, p, q, t, u, x, y, fun h => by subst h; simp at hpq, h3, h4, h5, h6⟩

class BrkK (F : Fr) (n : Nat) (Q : Exit → Act → World → Prop) (ch : Value) (c : Prop) (K : outParam (Env → List Res → Prop)) : Prop where
  ok : c → ∀ E L, K E L → Go F n E L (Q (.panic [{ v := ch, recovered := false }]))

section
variable {P : Program} {Tb : Tab} {F : Fr} {n : Nat} {E : Env} {L : List Res} {ops : Array Oper} {Q : Exit → Act → World → Prop} {rest : List Oper} {X : Act → World → Prop} {ch : Value} {c : Prop} {K : Env → List Res → Prop}
instance [h : BrkK F n Q ch c K] : BrkK F n (Exit.then X Q) ch c K := ⟨fun hc E L hK => h.ok hc E L hK⟩
instance {id : Nat} [h : BrkK F n Q ch c K] : BrkK F n (Exit.inBlock id Q) ch c K := ⟨fun hc E L hK => h.ok hc E L hK⟩

theorem Cfg.undf {M : Mem} {d : Deferred} {a : Act} {w : World} (c : Cfg (Fr.df (Fr.nd F) d) M n E L a w) : Cfg (Fr.nd F) M n E L { a with defers := [] } w :=
  ⟨⟨c.st.os, c.st.tape, c.st.output, c.st.size, c.st.elder, c.st.fresh, c.st.frame, c.st.mem, c.st.sep⟩, rfl, c.size, c.env⟩

/-- a return ahead of the defer -/
theorem d_ret {fn : Func} {R : Ending → World → Prop} (g : Go (Fr.nd F) n E L (bodyPost P fn R .ret)) : Go (Fr.nd F) n E L (bodyPostD P fn R .ret) := fun M a w c => by
  have hd := c.defers
  obtain ⟨_, v, h1, h2⟩ := g M a w c
  show Leaves P fn a.tmps R a.defers .returning w
  rw [hd]
  exact ⟨v, h1, h2⟩
/-- a return behind it -/
theorem d_back {fn : Func} {R : Ending → World → Prop} {k : FuncId} {a b : Nat} {tn e1 e2 : TypeId} {v1 v2 : Value} [hc : Catch P k ch tn e1 e2 v1 v2] (g : Go (Fr.nd F) n E L (bodyPost P fn R .ret)) : Go (Fr.df (Fr.nd F) (dfv k a b)) n E L (bodyPostD P fn R .ret) := fun M x w c => by
  have hd := c.defers
  obtain ⟨_, v, h1, h2⟩ := g M _ w (Cfg.undf c)
  show Leaves P fn x.tmps R x.defers .returning w
  rw [hd]
  refine leaves_cons (f := k) (args := #[adr a, adr b]) (by simp) ?_ ?_
  · simp only [invoke]
    rw [run_callFunc hc.call]
    simp
  · refine (hc.idle (adr a) (adr b) w).mono ?_
    rintro e u' w' ⟨rfl, rfl, rfl⟩
    exact ⟨v, h1, h2⟩

/-- how it ends: 'none' is a break -/
def PostO (F : Fr) {ρ : Type} (o : Option ρ) (d : ρ) (res : ρ → Value → TV) (L' : ρ → Value → List Res) : Ending → World → Prop := Post F (res (o.getD d)) (L' (o.getD d))
/-- what is told where it does not break -/
theorem d_is {fn : Func} {ρ : Type} {x d : ρ} {G : Fr} {res : ρ → Value → TV} {L' : ρ → Value → List Res} {e : Exit} (g : Go F n E L (bodyPostD P fn (Post G (res x) (L' x)) e)) : Go F n E L (bodyPostD P fn (PostO G (some x) d res L') e) := g

theorem y_makefn {R : World → World → Prop} {x y : Operand} {a b : Nat} {k : FuncId} (hx : ev E x = some (ptr a 0)) (hy : ev E y = some (ptr b 0)) : Yields R P F n E L (.makeFunc (.func k) #[] #[x, y]) (.one (.raw .nilFunc) (.func (.func k) #[] #[adr a, adr b])) := fun o ho M s w c => by
  refine ⟨_, holds_raw.2 ⟨rfl, rfl⟩, fun w' _ => ?_⟩
  have h1 := (holds_raw.1 (ev_ok c hx)).1
  have h2 := (holds_raw.1 (ev_ok c hy)).1
  obtain ⟨dst, op, ty, pos, after, guard⟩ := o
  simp only at ho; subst ho
  refine run_val ?_
  simp [h1, h2]
  rfl

theorem r_defer {x : Operand} {k : FuncId} {a b : Nat} {z : Value} {ty : TypeId} {pos : String} {after : Array Edge} (hx : ev E x = some (.one (.raw z) (.func (.func k) #[] #[adr a, adr b])))
    (g : Go (Fr.df F (dfv k a b)) n E L (wpList P ops Q rest)) : Go F n E L (wpList P ops Q (⟨none, .defer ⟨.value x, #[], #[]⟩, ty, pos, after, none⟩ :: rest)) := fun M s w c => by
  unfold wpList
  rw [if_pos (by simp [Region.wanted])]
  left
  unfold Oper.wp
  have h1 := (holds_raw.1 (ev_ok c hx)).1
  have hrun : (execOp s.eval ⟨none, .defer ⟨.value x, #[], #[]⟩, ty, pos, after, none⟩).run P w = .ok (.defer (dfv k a b)) w := by
    simp [execOp, resolve, run_bind, run_pure, h1, Deferred.ofValue]
  rw [hrun, Oper.upon_defer]
  exact g M _ w ⟨⟨c.st.os, c.st.tape, c.st.output, c.st.size, c.st.elder, c.st.fresh, c.st.frame, c.st.mem, c.st.sep⟩, by show _ :: s.defers = _; rw [c.defers]; rfl, c.size, c.env⟩

theorem load1 {v : Value} {e : TypeId} {w : World} {a : Nat} (ht : tyChk P (.raw v) e = true) (ho : one v = true) (h : w.heap[a]? = some (.cells #[v] e (0, 0))) : (loadVar e ⟨a, 0, none⟩).run P w = .ok v w := by
  have := run_loadVar' (u := .raw v) (off := 0) ht h (by simp [T.size]) (M := fun _ => none) (x := v) ⟨rfl, ho⟩
  have h2 : mk (.raw v) ((#[v].toList.drop 0).take (T.raw v).size) = v := rfl
  rw [h2] at this; exact this
/-- into such a function -/
theorem enterDT {tabs : List (String × IntKind × List Int)} {k kc : FuncId} {fn : Func} {body : Code} {args : List TV} {L : List Res} {ρ : Type} (o : Option ρ) (d : ρ) {res : ρ → Value → TV} {L' : ρ → Value → List Res} (i j : Nat) {tn e1 e2 : TypeId} {v1 v2 : Value} [hc : Catch P kc ch tn e1 e2 v1 v2]
    (hf : P.funcs[k]? = some fn) (hb : fn.body = some body) (n : Nat) (hn : fn.ntmps = n) (ha : Nat.ble args.length n = true) (hr : fn.results = #[.cell i e1, .cell j e2])
    (t1 : tyChk P (.raw v1) e1 = true) (o1 : one v1 = true) (t2 : tyChk P (.raw v2) e2 = true) (o2 : one v2 = true)
    (hfin : ∀ F M w, St F M w [] → Post F (res d) (L' d) (.returned (.tuple #[v1, v2])) w)
    (g : ∀ F, TabM P tabs F.base → (∀ a b, BrkK (Fr.df (Fr.nd F) (dfv kc a b)) n (bodyPostD P fn (PostO F o d res L')) ch (o = none) (KC i j e1 e2 a b)) → Go (Fr.nd F) n (argEnv 0 args) L (body.wp P (bodyPostD P fn (PostO F o d res L')))) : FnT P tabs k args L (res (o.getD d)) (L' (o.getD d)) := fun F w vs hT hst _ hargs => by
  refine calls_of_wp_defers hf hb ?_
  refine g F hT ?_ F.base _ _ ⟨hst.nd, rfl, ?_, ?_⟩
  · intro a b
    refine ⟨fun ho E L hK M s w c => ?_⟩
    subst ho
    obtain ⟨hx, hy, p, q, t, u, x, y, hpq, h1, s1, h2, s2⟩ := hK
    have hd := c.defers
    show Leaves P fn s.tmps _ s.defers (.panicking _) w
    rw [hd]
    obtain ⟨V, hsep, hV⟩ := c.st.sep
    obtain ⟨S1, S2, r1, r2, hd12⟩ := Sep.two hsep h1 h2 hpq
    have hab : a ≠ b := fun e => hd12 a ((r1.1 a).2 rfl) (by rw [e]; exact (r2.1 b).2 rfl)
    obtain ⟨cs1, hb1, hr1⟩ := c.st.var h1
    obtain ⟨cs2, hb2, hr2⟩ := c.st.var h2
    have l1 := hr1.size
    have l2 := hr2.size
    rw [s1] at l1; rw [s2] at l2
    obtain ⟨x1, rfl⟩ := List.length_eq_one_iff.1 l1
    obtain ⟨x2, rfl⟩ := List.length_eq_one_iff.1 l2
    have la := heap_lt hb1
    have lb := heap_lt hb2
    refine leaves_cons (f := kc) (args := #[adr a, adr b]) (by simp) ?_ ?_
    · simp only [invoke]
      rw [run_callFunc hc.call]
      simp
    · refine (hc.take a b x1 x2 w hab hb1 hb2).mono ?_
      rintro e u' w' ⟨rfl, rfl, rfl⟩
      have hA : ∀ k, k < w.heap.size → (w.alloc (.cells #[] tn (0, 0))).heap[k]? = w.heap[k]? := fun k hk => by
        show (w.heap.push _)[k]? = _
        rw [Array.getElem?_push]; simp [Nat.ne_of_lt hk]
      have hall : ∀ k, k < w.heap.size → k ≠ a → k ≠ b → (((w.alloc (.cells #[] tn (0, 0))).setCell ⟨a, 0, none⟩ v1).setCell ⟨b, 0, none⟩ v2).heap[k]? = w.heap[k]? := fun k hk ka kb => by
        rw [← hA k hk]
        simp only [World.setCell, Array.getElem?_modify]
        rw [if_neg (fun h => kb h.symm), if_neg (fun h => ka h.symm)]
      have c1 : (((w.alloc (.cells #[] tn (0, 0))).setCell ⟨a, 0, none⟩ v1).setCell ⟨b, 0, none⟩ v2).heap[a]? = some (.cells #[v1] e1 (0, 0)) := by
        simp only [World.setCell, Array.getElem?_modify]
        rw [if_neg (fun h => hab h.symm), if_pos trivial, hA a la, hb1]
        rfl
      have c2 : (((w.alloc (.cells #[] tn (0, 0))).setCell ⟨a, 0, none⟩ v1).setCell ⟨b, 0, none⟩ v2).heap[b]? = some (.cells #[v2] e2 (0, 0)) := by
        simp only [World.setCell, Array.getElem?_modify]
        rw [if_pos trivial, if_neg hab, hA b lb, hb2]
        rfl
      have ta : s.tmps.getD i undef = adr a := by
        obtain ⟨v, hv, hh⟩ := c.env i _ hx
        have := (holds_raw.1 hh).1; subst this; simp [hv]
      have tb : s.tmps.getD j undef = adr b := by
        obtain ⟨v, hv, hh⟩ := c.env j _ hy
        have := (holds_raw.1 hh).1; subst this; simp [hv]
      refine ⟨.tuple #[v1, v2], ?_, hfin F M _ ?_⟩
      · have hm : ([ResultVar.cell i e1, ResultVar.cell j e2].mapM (retOp s.tmps)).run P (((w.alloc (.cells #[] tn (0, 0))).setCell ⟨a, 0, none⟩ v1).setCell ⟨b, 0, none⟩ v2) = .ok [v1, v2] (((w.alloc (.cells #[] tn (0, 0))).setCell ⟨a, 0, none⟩ v1).setCell ⟨b, 0, none⟩ v2) := by
          simp only [List.mapM_cons, List.mapM_nil, retOp, ta, tb, asAddr, run_bind, run_pure, load1 t1 o1 c1, load1 t2 o2 c2]
        have := results_run (rs := [.cell i e1, .cell j e2]) hr hm
        rw [this]
        rfl
      · have st := c.st
        refine ⟨st.os, st.tape, st.output, ?_, st.elder, st.fresh, ?_, ?_, ⟨fun _ => False, fun _ h => h, fun _ h => h.elim⟩⟩
        · simp only [World.setCell, Array.size_modify]
          show _ ≤ (w.heap.push _).size
          have := st.size
          simp only [Array.size_push]
          exact Nat.le_succ_of_le this
        · intro k o hk
          have hk' := st.frame k o hk
          rw [hall k (heap_lt hk')]
          · exact hk'
          · rintro rfl
            obtain ⟨S, hs, hsV⟩ := Sep.pick hsep h1
            have h3 : F.mem k = some o := hk
            exact absurd ((hV k (hsV k ((hs.1 k).2 rfl))).2) (by show ¬ F.mem k = none; rw [h3]; simp)
          · rintro rfl
            obtain ⟨S, hs, hsV⟩ := Sep.pick hsep h2
            have h3 : F.mem k = some o := hk
            exact absurd ((hV k (hsV k ((hs.1 k).2 rfl))).2) (by show ¬ F.mem k = none; rw [h3]; simp)
        · intro k o hk
          have hk' := st.mem k o hk
          rw [hall k (heap_lt hk')]
          · exact hk'
          · rintro rfl
            obtain ⟨S, hs, hsV⟩ := Sep.pick hsep h1
            have := (hV k (hsV k ((hs.1 k).2 rfl))).1
            rw [hk] at this; cases this
          · rintro rfl
            obtain ⟨S, hs, hsV⟩ := Sep.pick hsep h2
            have := (hV k (hsV k ((hs.1 k).2 rfl))).1
            rw [hk] at this; cases this
  · have := hargs.length
    have := Nat.le_of_ble_eq_true ha
    simp [hn]; omega
  · intro i t h
    obtain ⟨j, v, e, hv, ht⟩ := argEnv_get hargs h
    refine ⟨v, ?_, ht⟩
    have hj : j < vs.length := by
      rcases Nat.lt_or_ge j vs.length with h | h
      · exact h
      · simp [List.getElem?_eq_none h] at hv
    simp only [Nat.zero_add] at e; subst e
    have hv' : vs[i] = v := by simpa [hj] using hv
    simp [Array.getElem?_append, hj, hv']

/-! ### calls in it -/
variable {tabs : List (String × IntKind × List Int)} {G : Fr}
theorem rcTK (hT : TabM P tabs G.base) (is : List Nat) {D : Deferred} {k : FuncId} {args : List TV} {Lc Lo : List Res} {res : Value → TV} {L' : Value → List Res} (hc : FnT P tabs k args Lc res L') (hk : callable P k = true) (hp : takeR L is = some (Lc, Lo)) {xs : List Operand} {tys : Array TypeId} {d : Nat} {ty : TypeId} {pos : String} {after : Array Edge}
    (hx : evs E xs = some args) (hd : Nat.ble (d + 1) n = true) (g : ∀ v, Go (Fr.df (Fr.nd G) D) n ((d, res v) :: E) (L' v ++ Lo) (wpList P ops Q rest)) :
    Go (Fr.df (Fr.nd G) D) n E L (wpList P ops Q (⟨some d, .call ⟨.value (.func k), xs.toArray, tys⟩, ty, pos, after, none⟩ :: rest)) := fun M a w c => by
  unfold wpList
  rw [if_pos (by simp [Region.wanted])]
  left
  unfold Oper.wp
  have hrun : (execOp a.eval ⟨some d, .call ⟨.value (.func k), xs.toArray, tys⟩, ty, pos, after, none⟩).run P w = .ok (.enter k (xs.map a.eval).toArray) w := by
    simp only [execOp, resolve, run_bind, run_pure, Act.eval, Deferred.ofValue, invoke]
    rw [run_callFunc hk]
    simp
  rw [hrun, Oper.upon_enter]
  have st := c.st.perm (takeR_perm hp)
  have hT' : TabM P tabs M := hT.mono c.st.elder
  obtain ⟨F', hb, hs, st', hback⟩ := st.part
  have := hc F' w (xs.map a.eval) (by rw [hb]; exact hT') (by rw [hb]; exact st') hs (by rw [hb]; exact evs_ok c hx)
  refine this.mono ?_
  rintro e w' ⟨v, M', rfl, st2, hv⟩
  obtain ⟨hle, st3⟩ := hback _ _ _ st2
  exact g v M' _ _ (c.put hle st3 (Nat.le_of_ble_eq_true hd) hv)
theorem rcETK (hT : TabM P tabs G.base) (is : List Nat) {D : Deferred} {k : FuncId} {args : List TV} {Lc Lo : List Res} {ρ σ : Type} {out : Option ρ} {res : ρ → Value → TV} {L' : ρ → Value → List Res} {kf : ρ → Option (Option σ)} {ro : Option σ} (hc : FnET P tabs k args Lc out res L' ch) (h : pb out kf = some ro) (hk : callable P k = true) (hp : takeR L is = some (Lc, Lo)) {xs : List Operand} {tys : Array TypeId} {d : Nat} {ty : TypeId} {pos : String} {after : Array Edge}
    (hx : evs E xs = some args) (hd : Nat.ble (d + 1) n = true) [hb : BrkK (Fr.df (Fr.nd G) D) n Q ch (ro = none) K] (hK : K E Lo) (g : ∀ r, kf r = some ro → ∀ v, Go (Fr.df (Fr.nd G) D) n ((d, res r v) :: E) (L' r v ++ Lo) (wpList P ops Q rest)) :
    Go (Fr.df (Fr.nd G) D) n E L (wpList P ops Q (⟨some d, .call ⟨.value (.func k), xs.toArray, tys⟩, ty, pos, after, none⟩ :: rest)) := fun M a w c => by
  unfold wpList
  rw [if_pos (by simp [Region.wanted])]
  left
  unfold Oper.wp
  have hrun : (execOp a.eval ⟨some d, .call ⟨.value (.func k), xs.toArray, tys⟩, ty, pos, after, none⟩).run P w = .ok (.enter k (xs.map a.eval).toArray) w := by
    simp only [execOp, resolve, run_bind, run_pure, Act.eval, Deferred.ofValue, invoke]
    rw [run_callFunc hk]
    simp
  rw [hrun, Oper.upon_enter]
  have st := c.st.perm (takeR_perm hp)
  have hT' : TabM P tabs M := hT.mono c.st.elder
  obtain ⟨F', hb', hs, st', hback⟩ := st.part
  have := hc F' w (xs.map a.eval) (by rw [hb']; exact hT') (by rw [hb']; exact st') hs (by rw [hb']; exact evs_ok c hx)
  refine this.mono ?_
  cases out with
  | some r =>
    rintro e w' ⟨v, M', rfl, st2, hv⟩
    obtain ⟨hle, st3⟩ := hback _ _ _ st2
    exact g r h v M' _ _ (c.put hle st3 (Nat.le_of_ble_eq_true hd) hv)
  | none =>
    rintro e w' ⟨rfl, M', st2⟩
    obtain ⟨hle, st3⟩ := hback _ _ _ st2
    have hlo : Cfg (Fr.df (Fr.nd G) D) M' n E Lo a w' := ⟨st3, c.defers, c.size, fun i t h => by obtain ⟨v, h1, h2⟩ := c.env i t h; exact ⟨v, h1, TV.mono hle h2⟩⟩
    exact hb.ok (Option.some.inj h).symm E Lo hK M' a w' hlo
/-- what is told behind a break -/
theorem finOwn {M : Mem} {w : World} {e : TypeId} {t : T} {v2 : Value} {u : T} {y : u.D} (h : Holds u M v2 y) (st : St F M w []) : Post F (fun v => .tup [⟨.raw (.slice none 0 0), tupv v 0⟩, ⟨u, y⟩]) (fun v => [Res.own (tupv v 0) e t ([] : List t.D)]) (.returned (.tuple #[.slice none 0 0, v2])) w :=
  ⟨_, M, rfl, st.free (.inl ⟨⟨none, rfl⟩, rfl, fun _ h => h⟩), ⟨[.slice none 0 0, v2], rfl, .cons (holds_raw.2 ⟨rfl, rfl⟩) (.cons h .nil)⟩⟩
theorem finPure {M : Mem} {w : World} {v1 v2 : Value} {t u : T} {x : t.D} {y : u.D} (h1 : Holds t M v1 x) (h2 : Holds u M v2 y) (st : St F M w []) : Post F (fun _ => .tup [⟨t, x⟩, ⟨u, y⟩]) (fun _ => []) (.returned (.tuple #[v1, v2])) w :=
  ⟨_, M, rfl, st, ⟨[v1, v2], rfl, .cons h1 (.cons h2 .nil)⟩⟩
end
end Sx
namespace Sx
open Go

/-- a slice's elements lie here, and nobody writes them -/
def Res.pin (b off cap : Nat) (t : T) (xs : List t.D) : Res where
  sat M S _ := (xs.length ≤ most ∧ xs.length ≤ cap ∧ ∃ c el fr, M b = some (.cells c el fr) ∧ off + xs.length * t.size ≤ c.size ∧ RepL (Rep t M) ((c.toList.drop off).take (xs.length * t.size)) xs) ∧ ∀ k, ¬ S k
  mono l := fun ⟨⟨h1, h2, c, el, fr, h3, h4, h5⟩, h⟩ => ⟨⟨h1, h2, c, el, fr, l _ _ h3, h4, RepL.mono (fun _ _ g => Rep.mono l g) h5⟩, h⟩
  loc _ := id
  has := fun h k hk => absurd hk (h.2 k)
def PinIs (b off : Nat) (t : T) (xs : List t.D) (w : World) : Prop := ∃ (c : Array Value) (el : TypeId) (fr : Nat × Nat) (M : Mem), w.heap[b]? = some (.cells c el fr) ∧ off + xs.length * t.size ≤ c.size ∧ RepL (Rep t M) ((c.toList.drop off).take (xs.length * t.size)) xs

section
variable {P : Program} {F : Fr} {n : Nat} {E : Env} {L : List Res} {X : Act → World → Prop} {S : World → Prop}
theorem pin_is {b off cap : Nat} {t : T} {xs : List t.D} (i : Nat) (hi : L[i]? = some (Res.pin b off cap t xs)) : ∀ M w, St F M w L → PinIs b off t xs w := fun M w st => by
  obtain ⟨_, ⟨_, _, c, el, fr, h3, h4, h5⟩, _⟩ := st.res hi
  exact ⟨c, el, fr, M, st.mem _ _ h3, h4, h5⟩
theorem r_pin {k : Nat} {e : TypeId} {t : T} {xs : List t.D} (hk : E.get k = some (.one (.sl e t) xs)) (h0 : 0 < xs.length) (g : ∀ b off cap, Go F n ((k, .one (.raw (.slice none 0 0)) (.slice (some ⟨b, off, none⟩) xs.length cap)) :: E) (Res.pin b off cap t xs :: L) X) : Go F n E L X := fun M a w c => by
  obtain ⟨v, hv, cs, e1, ad, cap, e2, h2, h3, h4⟩ := c.env _ _ hk
  cases ad with
  | none => simp only at h4; omega
  | some ad =>
    obtain ⟨b, off, sp⟩ := ad
    obtain ⟨e3, cc, el, fr, hm, hs, hr⟩ := h4.resolve_left (by omega)
    simp only at e3; subst e3
    simp only at hm hs hr
    refine g b off cap M a w ⟨c.st.free ⟨⟨h2, h3, cc, el, fr, hm, hs, hr⟩, fun _ h => h⟩, c.defers, c.size, fun i t ht => ?_⟩
    simp only [Env.get] at ht
    split at ht
    · rename_i hb
      obtain rfl := Nat.eq_of_beq_eq_true hb
      cases ht
      subst e2
      refine ⟨_, hv, holds_raw.2 ⟨?_, rfl⟩⟩
      rw [e1]; rfl
    · exact c.env i t ht
theorem r_unpin {b off cap : Nat} {z : Value} {t : T} {xs : List t.D} (e : TypeId) (k i : Nat) (hk : E.get k = some (.one (.raw z) (.slice (some ⟨b, off, none⟩) xs.length cap))) (hi : L[i]? = some (Res.pin b off cap t xs)) (g : Go F n ((k, .one (.sl e t) xs) :: E) L X) : Go F n E L X := fun M a w c => by
  obtain ⟨_, ⟨h1, h2, cc, el, fr, h3, h4, h5⟩, _⟩ := c.st.res hi
  obtain ⟨v, hv, hh⟩ := c.env _ _ hk
  refine g M a w ⟨c.st, c.defers, c.size, fun i t ht => ?_⟩
  simp only [Env.get] at ht
  split at ht
  · rename_i hb
    obtain rfl := Nat.eq_of_beq_eq_true hb
    cases ht
    refine ⟨v, hv, [v], ?_, some ⟨b, off, none⟩, cap, ?_, h1, h2, .inr ⟨rfl, cc, el, fr, h3, h4, h5⟩⟩
    · rw [(holds_raw.1 hh).1]; rfl
    · rw [(holds_raw.1 hh).1]
  · exact c.env i t ht
theorem y_heldpin {x : Operand} {z : Value} {b o0 off : Nat} {t u : T} {xs : List t.D} {tid : TypeId} (hV : ∀ w, S w → PinIs b o0 t xs w) (i : Nat) {cap : Nat} (j : Nat) (p : Pth t u) (hfl : u.flat = true) (hx : ev E x = some (.one (.raw z) (.pointer (some ⟨b, off, none⟩)))) (hi : L[i]? = some (Res.pin b o0 cap t xs))
    (hj : j < xs.length) (hp : o0 + j * t.size + p.off = off) (hok : p.ok) (ht : tyChk P u tid = true) : Yields (fun _ w' => S w') P F n E L (.load tid x) (.one u (p.get (xs.getD j t.zero))) := fun o ho M a w c => by
  have one : ∀ w', PinIs b o0 t xs w' → ∃ v, (∃ M', Holds u M' v (p.get (xs.getD j t.zero))) ∧ (loadVar tid ⟨b, off, none⟩).run P w' = .ok v w' := by
    rintro w' ⟨cc, el, fr, M', h3, h5, h4⟩
    have hget : xs[j]? = some (xs.getD j t.zero) := by simp [List.getD, hj]
    have hrep := RepL.get (s := t.size) (fun c x h => Rep.size h) h4 hget
    have hm : j * t.size + t.size ≤ xs.length * t.size := by rw [← Nat.succ_mul]; exact Nat.mul_le_mul_right _ hj
    have hf := p.fits hok
    have e1 : (((cc.toList.drop o0).take (xs.length * t.size)).drop (j * t.size)).take t.size = (cc.toList.drop (o0 + j * t.size)).take t.size := by
      rw [List.drop_take, List.take_take, Nat.min_eq_left (by omega), List.drop_drop]
    rw [e1] at hrep
    have hr2 := Rep.get p hok hrep
    rw [take_drop_take _ _ _ _ _ hf, hp] at hr2
    exact ⟨_, ⟨M', _, rfl, hr2⟩, run_loadVar' (P := P) (w := w') ht h3 (by omega) hr2⟩
  have hw : PinIs b o0 t xs w := pin_is i hi M w c.st
  obtain ⟨v, ⟨M', hv⟩, _⟩ := one w hw
  refine ⟨v, hv.any hfl, fun w' hs => ?_⟩
  obtain ⟨v', ⟨M2, hv2⟩, hrun⟩ := one w' (hV w' hs)
  obtain rfl : v' = v := Holds.unique hfl hv2 hv
  obtain ⟨dst, op, ty, pos, after, guard⟩ := o
  simp only at ho; subst ho
  have h1 := (holds_raw.1 (ev_ok c hx)).1
  exact run_val (by rw [h1]; simp only [Instr.loadAt, Instr.sureAddr, run_bind, run_pure]; exact hrun)
end
end Sx
namespace Sx
open Go Go.RowKit

end Sx
namespace Sx
open Go Go.RowKit

section
variable {P : Program} {W : World} {tabs : List (String × IntKind × List Int)}
theorem run_lawT {k : FuncId} {args : List TV} (hT : TabM P tabs (memOf W)) (hp : FnT P tabs k args [] (fun _ => .one .bool true) (fun _ => [])) {vs : List Value} (hv : HoldAll (memOf W) args vs) : Calls P k vs.toArray W fun e w' => e = .returned (.bool true) ∧ Below W.heap.size W w' := by
  have := hp { os := W.os, tape := W.tape, output := W.output, mem := memOf W, base := memOf W, size := W.heap.size } W vs hT
    { os := rfl, tape := rfl, output := rfl, size := Nat.le_refl _, elder := Mem.le.refl _, fresh := fun k o e => .inl e, frame := fun k o e => e, mem := fun k o e => e, sep := ⟨fun _ => False, fun _ h => h, fun _ h => h.elim⟩ } rfl hv
  refine this.mono ?_
  rintro e w' ⟨v, M', rfl, st, hh⟩
  obtain rfl := holds_bool.1 hh
  refine ⟨rfl, st.os, st.tape, st.output, st.size, fun k hk => ?_⟩
  have : memOf W k = some W.heap[k] := by simp [memOf, hk]
  rw [st.frame k _ this]; simp [hk]

theorem tabM_of (hsh : W.ShapedOpen P) (hbig : P.globals.size < (begin P (fun _ _ => 0) default).world.heap.size) (ht : ∀ x ∈ tabs, Lib.TabIs P W x.1 x.2.1 x.2.2) : TabM P tabs (memOf W) := by
  have h1 : (begin P (fun _ _ => 0) default).world.heap.size ≤ W.heap.size := by
    obtain ⟨_, h2⟩ := hsh
    obtain ⟨o, _, ho, _⟩ := h2 ((begin P (fun _ _ => 0) default).world.heap.size - 1) (by omega) (by omega)
    have := heap_lt ho
    omega
  exact ⟨W, hsh, ht, h1, by omega, fun k o h => h⟩
end

/-- the contract of a row with tables and a bound of its own -/
theorem law_laid_upto {C : Checked} {os : Os} {f : FuncId} {fn : Func} {s : ChangeSpec} {S : OpenSpec} {kk : (H : Type) → List (DataW H) → Bool} {most : Nat} {bk : (H : Type) → DataW H → Nat} {bka : (H : Type) → List (DataW H) → Nat} {H : Type} {enc : TypeId × Value → H} {F : Stop.Interp} (tabs : List (String × IntKind × List Int)) (laid : List (String × DataW Unit)) (ts : List T) {tids : List TypeId} {bt : TypeId}
    (hS : S = { OpenSpec.ofChange s with cond := some kk }) (hkk : ∀ H ds, kk H ds = decide (bka H ds ≤ most)) (hbk : BulkFn (bk H) (bka H))
    (own : ownKnob C.prog.godebug = none) (started : os.Started) (noInit : C.prog.inits.idxOf? f = none) (hfn : C.prog.funcs[f]? = some fn)
    (witness : ∃ (w : World) (tape : Tape) (i : Input), w.os = os ∧ (w.forCall tape i).Shaped C.prog ∧ i.vars = [] ∧ Input.okWide C.prog (w.forCall tape i) .any w.heap.size f i ∧
      S.preRow enc C.prog fn [] false laid (w.forCall tape i).memory i.args ∧ Assume.holds {} C.prog (lone (Frame.enter C.prog f i.args .normal) [] (w.forCall tape i)))
    (hpar : fn.params = tids.toArray) (hres : fn.resultTypes = #[bt]) (hbt : C.prog.underlying bt = some .bool) (hvars : s.vars = []) (hcc : argsChk C.prog ts tids = true) (hlay : laidOutB C.prog = true)
    (hspec : ∀ ds : List (DataW H), ds.length = tids.length → s.fn H ds = { results := [.lit (.bool true)], args := ds })
    (hbig : Nat.blt C.prog.globals.size (begin C.prog (fun _ _ => 0) default).world.heap.size = true) (htabs : ∀ W : World, laidMetH C.prog laid W → ∀ x ∈ tabs, Lib.TabIs C.prog W x.1 x.2.1 x.2.2)
    (law : ∀ xs : Vals ts, Smalls C.prog.bytesOf ts xs → Bulks ts xs ≤ most → FnT C.prog tabs f (tvs ts xs) [] (fun _ => .one .bool true) (fun _ => [])) :
    ReturnsInHanded {} C os f .any (S.preRow enc C.prog fn [] false laid) ((S.at F).post enc C.prog fn false true false false) := by
  subst hS
  refine returnsInHanded_of_row (s := { OpenSpec.ofChange s with cond := some kk }) own started noInit hfn witness ?_
  intro W base args ds gs before hval hW _ hk0 hsz hL hsh _
  have hk := hk0 kk rfl
  have hW' := hW
  obtain ⟨p, q, hA, hV, rfl, hfz, hnd⟩ := hW
  rw [show ({ OpenSpec.ofChange s with cond := some kk } : OpenSpec).vars = s.vars from rfl, hvars] at hV
  obtain ⟨rfl, rfl⟩ := ChangeShapes.trodVars_none hV
  simp only [List.append_nil] at hW' hsz hk
  have hplain : ({ OpenSpec.ofChange s with cond := some kk } : OpenSpec).bare.plain.varTypes C.prog = [] := by
    show s.plain.varTypes C.prog = []
    simp [DataSpec.varTypes, ChangeSpec.plain, hvars]
  rw [hplain, List.append_nil, hpar] at hsz
  rw [hpar] at hA
  simp only at hA hsz
  have hlen := trod_len hA
  have hlt := hW'.lt
  obtain ⟨xs, hh, ss, hbu⟩ := open_all (enc := enc) trivial ts hcc hA (fun j t v hj hv => hval j t v (by rw [hpar]; simpa using hj) (by simpa using hv)) (fun n hn => by simpa using List.all_eq_true.1 hsz n hn)
  have hb1 := hbu _ _ hbk
  rw [hkk, decide_eq_true_eq] at hk
  have hT : TabM C.prog tabs (memOf W) := tabM_of hsh (Nat.le_of_ble_eq_true hbig) (htabs W hL)
  have hrun := run_lawT hT (law xs ss (Nat.le_trans hb1 hk)) hh
  rw [Array.toArray_toList] at hrun
  refine hrun.mono ?_
  rintro e W' ⟨rfl, hb⟩
  have hsp := hspec ds hlen
  show ∃ v, _ ∧ s.post enc C.prog fn false true false false W args v W'
  refine ⟨_, rfl, ds, [], p, [], p, [], hW', ?_, ?_, ?_, World.keptBut_mono (fun x hx => ⟨hx, .inr (.inl hx)⟩) (hb.frame _), fun h => by cases h⟩
  · rw [hres]
    simp only [List.append_nil, hsp]
    exact ChangeShapes.trodAll_mk1 (shut_bool hbt _)
  · rw [hpar]
    simp only [List.append_nil, hsp]
    exact stays_all hlay hb ts hcc hA hlt _ (fun x hx => by simpa using hlt x hx)
  · rw [hvars]
    simp only [List.append_nil, hsp]
    rfl

/-! ### a start in which the tables lie -/
def flatF : Nat → DataW Unit → List Value
  | 0, _ => []
  | _ + 1, .lit (.int k z) => [.int k z]
  | n + 1, .agg l => l.flatMap (flatF n)
  | _, _ => []
def layAll (P : Program) (h : Array Obj) : List (String × DataW Unit) → Array Obj
  | [] => h
  | (nm, d) :: r => layAll P (h.modify ((P.globalNamed nm).getD 0) fun | .cells _ t fz => .cells (flatF 8 d).toArray t fz | o => o) r
noncomputable def laidW (P : Program) (os : Os) (l : List (String × DataW Unit)) : World :=
  { World.holding P os ⟨#[], #[], []⟩ with heap := layAll P (World.holding P os ⟨#[], #[], []⟩).heap l }
end Sx
