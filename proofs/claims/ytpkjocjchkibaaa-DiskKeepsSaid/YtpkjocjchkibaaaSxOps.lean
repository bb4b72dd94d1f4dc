/-
  Own work. One operation that reads: the same value in every world that keeps what there was. Regions in order, and regions that draw their order.
-/
import Derived.Test.YtpkjocjchkibaaaSxMem
namespace Sx
open Go

/-- the temporaries alone -/
structure CfgE (M : Mem) (n : Nat) (E : Env) (a : Act) : Prop where
  defers : a.defers = []
  size : a.tmps.size = n
  env : ∀ i t, E.get i = some t → ∃ v, a.tmps[i]? = some v ∧ t.holds M v

def Same (w w' : World) : Prop := ∀ k, k < w.heap.size → w'.heap[k]? = w.heap[k]?

section
variable {P : Program} {Tb : Tab} {F : Fr} {n : Nat} {E E' : Env} {L : List Res} {ops : Array Oper} {Q : Exit → Act → World → Prop} {rest : List Oper} {o : Oper} {t : TV}

def Yields (R : World → World → Prop) (P : Program) (F : Fr) (n : Nat) (E : Env) (L : List Res) (op : Op) (t : TV) : Prop :=
  ∀ (o : Oper), o.op = op → ∀ M a w, Cfg F M n E L a w → ∃ v, t.holds M v ∧ ∀ w', R w w' → (execOp a.eval o).run P w' = .ok (.value v) w'

theorem Same.refl (w : World) : Same w w := fun _ _ => rfl

/-- a step that reads, in order -/
theorem y {op : Op} (h : Yields Same P F n E L op t) {d : Nat} {ty : TypeId} {pos : String} {after : Array Edge} (hd : Nat.ble (d + 1) n = true) (g : Go F n ((d, t) :: E) L (wpList P ops Q rest)) :
    Go F n E L (wpList P ops Q (⟨some d, op, ty, pos, after, none⟩ :: rest)) := fun M a w c => by
  obtain ⟨v, hv, hr⟩ := h ⟨some d, op, ty, pos, after, none⟩ rfl M a w c
  exact step_val rfl (by simp [Region.wanted]) (hr w (Same.refl w)) (g M _ _ (c.put (Mem.le.refl _) c.st (Nat.le_of_ble_eq_true hd) hv))

theorem y_pure {R : World → World → Prop} (hT : Tb.chk P = true) {op : Op} (h : pv Tb E op = some t) : Yields R P F n E L op t := fun o ho M a w c => by
  subst ho
  obtain ⟨v, hv, hr⟩ := pv_ok hT c h
  exact ⟨v, hv, fun w' _ => hr w'⟩

theorem take_one {α : Type} {l : List α} {i : Nat} {v : α} (h : (l.drop i).take 1 = [v]) : l[i]? = some v := by
  have := congrArg (fun l => l[0]?) h
  simpa using this

/-- reading what nobody writes -/
theorem run_loadVar' {u : T} {tid : Nat} {w : World} (ht : tyChk P u tid = true) {b off : Nat} {c : Array Value} {el : TypeId} {fr : Nat × Nat} (hb : w.heap[b]? = some (.cells c el fr)) (hs : off + u.size ≤ c.size) {M : Mem} {x : u.D}
    (hr : Rep u M ((c.toList.drop off).take u.size) x) : (loadVar tid ⟨b, off, none⟩).run P w = .ok (mk u ((c.toList.drop off).take u.size)) w := by
  unfold loadVar
  rw [run_bind, run_isAgg ht]
  cases ha : u.isAgg with
  | true =>
    simp only [if_true, run_bind, run_sizeOf ht, loadCells, run_loadCells hb u.size 0 #[] (by omega), mk, ha, Nat.add_zero]
    simp
  | false =>
    obtain ⟨v, e, _⟩ := rep_one ha hr
    simp only [Bool.false_eq_true, if_false, load, Sem.run, cell_at hb, mk, ha, e]
    have h1 : u.size = 1 := by cases u <;> first | rfl | cases ha
    rw [h1] at e
    have e' := take_one e
    rw [Array.getElem?_toList] at e'
    rw [e']
    rfl

/-- reading a variable of the call's own -/
theorem y_load {x : Operand} {z : Value} {b off : Nat} {e : TypeId} {t u : T} {xv : t.D} {tid : TypeId} (i : Nat) (p : Pth t u) (hx : ev E x = some (.one (.raw z) (.pointer (some ⟨b, off, none⟩)))) (hi : L[i]? = some (Res.var b e t xv))
    (hp : p.off = off) (hok : p.ok) (ht : tyChk P u tid = true) : Yields Same P F n E L (.load tid x) (.one u (p.get xv)) := fun o ho M a w c => by
  obtain ⟨cs, hb, hr⟩ := c.st.var hi
  have hl := hr.size
  have hf := p.fits hok
  have hrep := Rep.get p hok hr
  rw [hp] at hrep hf
  refine ⟨mk u ((cs.drop off).take u.size), ⟨_, rfl, hrep⟩, fun w' hs => ?_⟩
  have hb' : w'.heap[b]? = some (.cells cs.toArray e (0, 0)) := by rw [hs b (heap_lt hb)]; exact hb
  have key := run_loadVar' (P := P) (w := w') ht hb' (by simp [hl]; exact hf) (M := M) (x := p.get xv) (by simpa using hrep)
  obtain ⟨dst, op, ty, pos, after, guard⟩ := o
  simp only at ho; subst ho
  have h1 := (holds_raw.1 (ev_ok c hx)).1
  exact run_val (by rw [h1]; simp only [Instr.loadAt, Instr.sureAddr, run_bind, run_pure]; simpa using key)

theorem y_ref {x : Operand} {u : T} {xv : u.D} {tid : TypeId} (hx : ev E x = some (.ref u xv)) (ht : tyChk P u tid = true) : Yields Same P F n E L (.load tid x) (.one u xv) := fun o ho M a w c => by
  obtain ⟨⟨b, off, sp⟩, e1, e2, cs, el, fr, hm, hs, hr⟩ := ev_ok c hx
  simp only at e2; subst e2
  have hb := c.st.mem _ _ hm
  refine ⟨_, ⟨_, rfl, hr⟩, fun w' hsm => ?_⟩
  obtain ⟨dst, op, ty, pos, after, guard⟩ := o
  simp only at ho; subst ho
  have hb' : w'.heap[b]? = some (.cells cs el fr) := by rw [hsm b (heap_lt hb)]; exact hb
  exact run_val (by rw [e1]; simp only [Instr.loadAt, Instr.sureAddr, run_bind, run_pure]; exact run_loadVar' ht hb' hs hr)

/-- a field of what nobody writes -/
theorem y_fref {R : World → World → Prop} (hT : Tb.chk P = true) {x : Operand} {t u : T} {xv : t.D} {s f off : Nat} {l : List Nat} (p : Pth t u) (hx : ev E x = some (.ref t xv)) (hl : lk Tb.offs s = some l) (hf : l[f]? = some off) (hp : p.off = off) (hok : p.ok) :
    Yields R P F n E L (.fieldAddr s x f) (.ref u (p.get xv)) := fun o ho M a w c => by
  obtain ⟨⟨b, of, sp⟩, e1, e2, cs, el, fr, hm, hs, hr⟩ := ev_ok c hx
  simp only at e2; subst e2
  have hfit := p.fits hok
  refine ⟨.pointer (some ⟨b, of + off, none⟩), ⟨_, rfl, rfl, cs, el, fr, hm, by simp only at hs ⊢; omega, ?_⟩, fun w' hsm => ?_⟩
  · have := Rep.get p hok hr
    simp only at this ⊢
    rw [take_drop_take _ _ _ _ _ hfit, hp] at this
    exact this
  · obtain ⟨dst, op, ty, pos, after, guard⟩ := o
    simp only at ho; subst ho
    exact run_val (by rw [e1]; exact run_fieldAt (Tab.off hT hl hf))

/-- an element of what nobody writes -/
theorem y_iref {R : World → World → Prop} (hT : Tb.chk P = true) {x ix : Operand} {e : TypeId} {u : T} {xs : List u.D} {tid : TypeId} {k : IntKind} {i : Int} (hx : ev E x = some (.one (.sl e u) xs)) (hix : ev E ix = some (.one (.int k) i)) (h0 : 0 ≤ i) (h1 : i < xs.length)
    (hl : lk Tb.slices tid = some e) (ht : tyChk P u e = true) : Yields R P F n E L (.indexAddr tid x ix) (.ref u (xs.getD i.toNat u.zero)) := fun o ho M a w c => by
  obtain ⟨cs, e1, ad, cap, e2, h2, h3, h4⟩ := ev_ok c hx
  have hiv := (holds_int.1 (ev_ok c hix)).1
  cases ad with
  | none => simp only at h4; omega
  | some ad =>
    obtain ⟨b, off, sp⟩ := ad
    obtain ⟨e3, cc, el, fr, hm, hs, hr⟩ := h4.resolve_left (by omega)
    simp only at e3; subst e3
    simp only at hm hs hr
    have hlt : i.toNat < xs.length := by omega
    have hget : xs[i.toNat]? = some (xs.getD i.toNat u.zero) := by simp [List.getD, hlt]
    have hrep := RepL.get (s := u.size) (fun c x h => Rep.size h) hr hget
    have hm2 : i.toNat * u.size + u.size ≤ xs.length * u.size := by rw [← Nat.succ_mul]; exact Nat.mul_le_mul_right _ hlt
    rw [take_drop_take _ _ _ _ _ hm2] at hrep
    refine ⟨.pointer (some ⟨b, off + i.toNat * u.size, none⟩), ⟨_, rfl, rfl, cc, el, fr, hm, by simp only; omega, hrep⟩, fun w' hsm => ?_⟩
    obtain ⟨dst, op, ty, pos, after, guard⟩ := o
    simp only at ho; subst ho
    refine run_val ?_
    rw [e1, e2, hiv]
    have hmk : mk (.sl e u) [Value.slice (some ⟨b, off, none⟩) (List.length xs) cap] = .slice (some ⟨b, off, none⟩) (List.length xs) cap := rfl
    rw [hmk]
    unfold Instr.indexAt
    simp only [run_bind, asIntOf, run_pure, run_underlying (Tab.slice hT hl)]
    have htiny : ((List.length xs ≤ 1) && (match TypeDesc.slice e with | .array .. => true | _ => false)) = false := by simp
    simp only [h0, h1, and_self, if_true, run_bind, run_sizeOf ht, run_pure, add_add]

/-- a byte of a text -/
theorem y_byte {R : World → World → Prop} (hT : Tb.chk P = true) {x ix : Operand} {xs : List Int} {tid : TypeId} {k : IntKind} {i : Int} (hx : ev E x = some (.one .str xs)) (hix : ev E ix = some (.one (.int k) i)) (h0 : 0 ≤ i) (h1 : i < xs.length)
    (hl : lk Tb.strs tid = some ()) : Yields R P F n E L (.index tid x ix) (.one (.int .u8) (xs.getD i.toNat 0)) := fun o ho M a w c => by
  obtain ⟨e1, hb, hm⟩ := holds_str.1 (ev_ok c hx)
  have hiv := (holds_int.1 (ev_ok c hix)).1
  have hlt : i.toNat < xs.length := by omega
  have hmem : xs.getD i.toNat 0 ∈ xs := by simp [List.getD, hlt]
  have hby := hb _ hmem
  refine ⟨.int .u8 (xs.getD i.toNat 0), holds_int.2 ⟨rfl, by simp only [rng, lo, hi]; omega⟩, fun w' _ => ?_⟩
  obtain ⟨dst, op, ty, pos, after, guard⟩ := o
  simp only at ho; subst ho
  refine run_val ?_
  rw [e1, hiv]
  unfold Instr.index
  simp only [run_bind, asIntOf, run_pure, run_underlying (Tab.str hT hl), h0, if_true]
  have : (bs xs : ByteArray)[(i.toNat : Nat)]? = some (UInt8.ofNat (xs.getD i.toNat 0).toNat) := by
    have hsz : i.toNat < (bs xs).size := by rw [bs_size]; exact hlt
    rw [getElem?_pos (bs xs) i.toNat hsz]
    congr 1
    show (bs xs).data[i.toNat]'_ = _
    simp [bs, List.getD, hlt]
  rw [this]
  simp only [UInt8.toNat_ofNat']
  have e3 : ((xs.getD i.toNat 0).toNat % 2 ^ 8 : Nat) = (xs.getD i.toNat 0).toNat := Nat.mod_eq_of_lt (by omega)
  rw [e3]
  have e4 : (((xs.getD i.toNat 0).toNat : Nat) : Int) = xs.getD i.toNat 0 := by omega
  rw [e4]; rfl

/-- an element of an array in a temporary -/
theorem y_elem {R : World → World → Prop} {x ix : Operand} {m : Nat} {u : T} {xs : List u.D} {tid el : TypeId} {k : IntKind} {i : Int} (hx : ev E x = some (.one (.arr m u) xs)) (hix : ev E ix = some (.one (.int k) i)) (h0 : 0 ≤ i) (h1 : i < m)
    (hu : P.underlying tid = some (.array m el)) (ht : tyChk P u el = true) : Yields R P F n E L (.index tid x ix) (.one u (xs.getD i.toNat u.zero)) := fun o ho M a w c => by
  obtain ⟨cs, e1, hlen, hr⟩ := ev_ok c hx
  have hiv := (holds_int.1 (ev_ok c hix)).1
  have hlt : i.toNat < xs.length := by omega
  have hget : xs[i.toNat]? = some (xs.getD i.toNat u.zero) := by simp [List.getD, hlt]
  have hrep := RepL.get (s := u.size) (fun c x h => Rep.size h) hr hget
  refine ⟨mk u ((cs.drop (i.toNat * u.size)).take u.size), ⟨_, rfl, hrep⟩, fun w' _ => ?_⟩
  obtain ⟨dst, op, ty, pos, after, guard⟩ := o
  simp only at ho; subst ho
  refine run_val ?_
  rw [e1, hiv]
  have hmk : mk (.arr m u) cs = .agg cs.toArray := rfl
  rw [hmk]
  unfold Instr.index
  simp only [run_bind, asIntOf, run_pure, run_underlying hu]
  have hc : 0 ≤ i ∧ i < (m : Int) := ⟨h0, h1⟩
  simp only [hc, and_self, if_true, run_bind, run_sizeOf ht, part, run_isAgg ht]
  have hl2 := RepL.length (s := u.size) (fun c x h => Rep.size h) hr
  have hm2 : i.toNat * u.size + u.size ≤ cs.length := by rw [hl2, ← Nat.succ_mul]; exact Nat.mul_le_mul_right _ hlt
  cases ha : u.isAgg with
  | true =>
    simp only [if_true, run_bind, run_sizeOf ht, run_pure, mk, ha]
    congr 2
    apply Array.toList_inj.1
    simp [List.extract_eq_take_drop]
  | false =>
    obtain ⟨v, e, _⟩ := rep_one ha hrep
    have hs1 : u.size = 1 := by cases u <;> first | rfl | cases ha
    have e0 := e
    rw [hs1, Nat.mul_one] at e0
    have e' := take_one e0
    simp only [Bool.false_eq_true, if_false, hs1, Nat.mul_one, List.getElem?_toArray, e', mk, ha]
    rw [hs1, Nat.mul_one] at e
    rw [e]; rfl

/-- a field of a struct in a temporary -/
theorem y_field {R : World → World → Prop} {x : Operand} {t u : T} {xv : t.D} {tid f : Nat} (p : Pth t u) (hx : ev E x = some (.one t xv)) (hta : t.isAgg = true) (hok : p.ok) {fs : Array Field} {fd : Field} (hu : P.underlying tid = some (.struct fs)) (hf : fs[f]? = some fd) (ho' : fd.offset = p.off)
    (ht : tyChk P u fd.type = true) : Yields R P F n E L (.field tid x f) (.one u (p.get xv)) := fun o ho M a w c => by
  obtain ⟨cs, e1, hr⟩ := ev_ok c hx
  have hrep := Rep.get p hok hr
  have hfit := p.fits hok
  have hl := hr.size
  refine ⟨mk u ((cs.drop p.off).take u.size), ⟨_, rfl, hrep⟩, fun w' _ => ?_⟩
  obtain ⟨dst, op, ty, pos, after, guard⟩ := o
  simp only at ho; subst ho
  refine run_val ?_
  rw [e1]
  simp only [mk, hta, if_true]
  unfold Instr.field
  simp only [run_bind, run_underlying hu, hf, asAgg, run_pure, part, run_isAgg ht, ho']
  cases ha : u.isAgg with
  | true =>
    simp only [if_true, run_bind, run_sizeOf ht, run_pure]
    congr 2
    apply Array.toList_inj.1
    simp [List.extract_eq_take_drop]
  | false =>
    obtain ⟨v, e, _⟩ := rep_one ha hrep
    have hs1 : u.size = 1 := by cases u <;> first | rfl | cases ha
    have e0 := e
    rw [hs1] at e0
    have e' := take_one e0
    simp only [Bool.false_eq_true, if_false, List.getElem?_toArray, e', e]
    rfl

/-- the address of an element of an array of the call's own (or of one behind a pointer) -/
theorem y_ivar {R : World → World → Prop} {x ix : Operand} {z : Value} {b off m : Nat} {u : T} {tid el : TypeId} {k : IntKind} {i : Int} (hx : ev E x = some (.one (.raw z) (.pointer (some ⟨b, off, none⟩)))) (hix : ev E ix = some (.one (.int k) i)) (h0 : 0 ≤ i) (h1 : i < m)
    (hu : P.underlying tid = some (.array m el)) (ht : tyChk P u el = true) : Yields R P F n E L (.indexAddr tid x ix) (.one (.raw z) (.pointer (some ⟨b, off + i.toNat * u.size, none⟩))) := fun o ho M a w c => by
  have h2 := (holds_raw.1 (ev_ok c hx)).1
  have hiv := (holds_int.1 (ev_ok c hix)).1
  refine ⟨_, holds_raw.2 ⟨rfl, rfl⟩, fun w' _ => ?_⟩
  obtain ⟨dst, op, ty, pos, after, guard⟩ := o
  simp only at ho; subst ho
  refine run_val ?_
  rw [h2, hiv]
  unfold Instr.indexAt
  have hc : 0 ≤ i ∧ i < (m : Int) := ⟨h0, h1⟩
  simp only [run_bind, asIntOf, run_pure, run_underlying hu, Instr.sureAddr, hc, and_self, if_true, run_sizeOf ht, add_add]

/-- a piece of a text -/
theorem byteOk_sub {xs ys : List Int} (h : byteOk xs) (hs : ∀ c ∈ ys, c ∈ xs) : byteOk ys := fun c hc => h c (hs c hc)

theorem bs_extract {xs : List Int} {i j : Nat} : (bs xs).extract i j = bs ((xs.take j).drop i) := by
  apply ByteArray.ext
  simp only [bs, ByteArray.data_extract]
  apply Array.toList_inj.1
  simp [List.extract_eq_take_drop, List.map_drop, List.map_take, List.drop_take]

def optInt (E : Env) (d : Int) : Option Operand → Option Int
  | none => some d
  | some x => match ev E x with | some (.one (.int _) i) => some i | _ => none

theorem run_bounds {P : Program} {w : World} {isS : Bool} {len cap : Nat} {lo hi : Option Value} {i j : Int} (hl : (lo = none ∧ i = 0) ∨ ∃ k, lo = some (.int k i)) (hh : (hi = none ∧ j = len) ∨ ∃ k, hi = some (.int k j)) (h0 : 0 ≤ i) (h1 : i ≤ j) (h2 : j ≤ cap) :
    (Instr.sliceBounds isS len cap lo hi none).run P w = .ok (i.toNat, j.toNat, cap) w := by
  have hj : 0 ≤ j ∧ j ≤ (cap : Int) := ⟨by omega, h2⟩
  have hi' : 0 ≤ i ∧ i ≤ (j.toNat : Int) := ⟨h0, by omega⟩
  rcases hl with ⟨rfl, rfl⟩ | ⟨k, rfl⟩ <;> rcases hh with ⟨rfl, rfl⟩ | ⟨k', rfl⟩
  · simp [Instr.sliceBounds]
  · simp [Instr.sliceBounds, Instr.sliceBound, asIntOf, hj]
  · have : i ≤ (len : Int) := h1
    simp [Instr.sliceBounds, Instr.sliceBound, asIntOf, h0, this]
  · simp only [Instr.sliceBounds, run_bind, run_pure, Instr.sliceBound, asIntOf, hj, and_self, if_true, hi']

theorem optInt_ok {M : Mem} {a : Act} {w : World} (c : Cfg F M n E L a w) {d : Int} {x : Option Operand} {i : Int} (h : optInt E d x = some i) : (x.map a.eval = none ∧ i = d) ∨ ∃ k, x.map a.eval = some (.int k i) := by
  cases x with
  | none => simp only [optInt, Option.some.injEq] at h; exact .inl ⟨rfl, h.symm⟩
  | some x =>
    simp only [optInt] at h
    split at h <;> cases h
    rename_i k hk
    exact .inr ⟨k, by simp only [Option.map_some, (holds_int.1 (ev_ok c hk)).1]⟩

theorem y_sub {R : World → World → Prop} (hT : Tb.chk P = true) {x : Operand} {xs : List Int} {tid : TypeId} {l h : Option Operand} {i j : Int} (hx : ev E x = some (.one .str xs)) (hl : optInt E 0 l = some i) (hh : optInt E xs.length h = some j)
    (h0 : 0 ≤ i) (h1 : i ≤ j) (h2 : j ≤ xs.length) (ht : lk Tb.strs tid = some ()) : Yields R P F n E L (.slice tid x l h none) (.one .str ((xs.take j.toNat).drop i.toNat)) := fun o ho M a w c => by
  obtain ⟨e1, hb, hm⟩ := holds_str.1 (ev_ok c hx)
  refine ⟨_, holds_str.2 ⟨rfl, byteOk_sub hb (fun c hc => List.mem_of_mem_take (List.mem_of_mem_drop hc)), by simp; omega⟩, fun w' _ => ?_⟩
  obtain ⟨dst, op, ty, pos, after, guard⟩ := o
  simp only at ho; subst ho
  refine run_val ?_
  rw [e1]
  have hl := optInt_ok c hl
  have hh := optInt_ok c hh
  unfold Instr.sliceAt
  simp only [run_bind, run_underlying (Tab.str hT ht)]
  unfold Instr.slice
  have hbd := run_bounds (P := P) (w := w') (isS := false) (len := (bs xs).size) (cap := (bs xs).size) hl (by rw [bs_size]; exact hh) h0 h1 (by rw [bs_size]; exact h2)
  simp only [run_bind, run_underlying (Tab.str hT ht), Option.map_none, Option.isSome_none, Bool.false_eq_true, if_false, hbd, bs_extract]
  rfl

/-- two texts, one behind the other -/
theorem bs_append {a b : List Int} : bs a ++ bs b = bs (a ++ b) := by
  apply ByteArray.ext
  simp [bs]

theorem y_cat {R : World → World → Prop} {x y' : Operand} {xs ys : List Int} {tid u : TypeId} (hx : ev E x = some (.one .str xs)) (hy : ev E y' = some (.one .str ys)) (hm : xs.length + ys.length ≤ most) : Yields R P F n E L (.binOp .add tid x y' u) (.one .str (xs ++ ys)) := fun o ho M a w c => by
  obtain ⟨e1, hb1, hm1⟩ := holds_str.1 (ev_ok c hx)
  obtain ⟨e2, hb2, hm2⟩ := holds_str.1 (ev_ok c hy)
  refine ⟨_, holds_str.2 ⟨rfl, ?_, by simpa using hm⟩, fun w' _ => ?_⟩
  · intro d hd
    rcases List.mem_append.1 hd with g | g
    · exact hb1 d g
    · exact hb2 d g
  obtain ⟨dst, op, ty, pos, after, guard⟩ := o
  simp only at ho; subst ho
  refine run_val ?_
  rw [e1, e2]
  have hg : (eqGuard .add tid x y' (.string (bs xs)) (.string (bs ys))).run P w' = .ok () w' := by unfold eqGuard; rfl
  rw [run_bind, hg]
  have hlt : ¬ ((((bs xs).size + (bs ys).size : Nat) : Int) > IntKind.i64.max) := by
    rw [bs_size, bs_size]
    have : IntKind.i64.max = 9223372036854775807 := rfl
    simp only [most] at hm
    omega
  simp only [binOp, Op.stringOp, hlt, if_false, bs_append]
  rfl

/-! ### Steps that change memory -/
abbrev ptr (b off : Nat) : TV := .one (.raw (.pointer none)) (.pointer (some ⟨b, off, none⟩))

theorem r_box' {t : T} {xv : t.D} {el : TypeId} {d : Nat} {op : Op} {ty : TypeId} {pos : String} {after : Array Edge} (hd : Nat.ble (d + 1) n = true)
    (hr : ∀ (o : Oper), o.op = op → ∀ M a w, Cfg F M n E L a w → ∃ v, Holds t M v xv ∧ (execOp a.eval o).run P w = (do let a ← newVar el v; pure (Next.value (.pointer (some a)))).run P w)
    (g : ∀ b, Go F n ((d, ptr b 0) :: E) (Res.var b el t xv :: L) (wpList P ops Q rest)) : Go F n E L (wpList P ops Q (⟨some d, op, ty, pos, after, none⟩ :: rest)) := fun M a w c => by
  obtain ⟨v, hv, he⟩ := hr ⟨some d, op, ty, pos, after, none⟩ rfl M a w c
  have hrun : (do let a ← newVar el v; pure (Next.value (.pointer (some a))) : Sem Next).run P w = .ok (.value (.pointer (some ⟨w.heap.size, 0, none⟩))) { w with heap := w.heap.push (.cells v.cells el) } := rfl
  rw [hrun] at he
  refine step_val (d := d) rfl (by simp [Region.wanted]) he (g w.heap.size M _ _ (c.put (Mem.le.refl _) (c.st.new ?_) (Nat.le_of_ble_eq_true hd) (holds_raw.2 ⟨rfl, rfl⟩)))
  exact ⟨fun k => Iff.rfl, v.cells.toList, by simp, hv.cells⟩

theorem r_box {x : Operand} {t : T} {xv : t.D} {el : TypeId} {d : Nat} {ty : TypeId} {pos : String} {after : Array Edge} (hd : Nat.ble (d + 1) n = true) (hx : ev E x = some (.one t xv))
    (g : ∀ b, Go F n ((d, ptr b 0) :: E) (Res.var b el t xv :: L) (wpList P ops Q rest)) : Go F n E L (wpList P ops Q (⟨some d, .box el x, ty, pos, after, none⟩ :: rest)) :=
  r_box' hd (fun o ho M a w c => ⟨a.eval x, ev_ok c hx, by obtain ⟨dst, op, ty, pos, after, guard⟩ := o; simp only at ho; subst ho; rfl⟩) g

theorem r_alloc {t : T} {el : TypeId} {d : Nat} {ty : TypeId} {pos : String} {after : Array Edge} (hd : Nat.ble (d + 1) n = true) (hz : (P.info? el).bind (·.zero) = some (mk t (zc t))) (ho : zok t = true)
    (g : ∀ b, Go F n ((d, ptr b 0) :: E) (Res.var b el t t.zero :: L) (wpList P ops Q rest)) : Go F n E L (wpList P ops Q (⟨some d, .alloc el, ty, pos, after, none⟩ :: rest)) :=
  r_box' hd (fun o ho' M a w c => ⟨mk t (zc t), ⟨_, rfl, rep_zero ho⟩, by
    obtain ⟨dst, op, ty, pos, after, guard⟩ := o; simp only at ho'; subst ho'
    cases hi : P.info? el with
    | none => simp [hi] at hz
    | some i =>
      simp only [hi, Option.bind_some] at hz
      simp only [execOp, Instr.alloc, run_bind, zeroValue, typeInfo, program, Sem.run, hi, hz, run_pure]
      rfl⟩) g

theorem r_store {x y' : Operand} {z : Value} {b off : Nat} {e : TypeId} {t u : T} {xv : t.D} {yv : u.D} {tid : TypeId} {ty : TypeId} {pos : String} {after : Array Edge} (i : Nat) (p : Pth t u) (hx : ev E x = some (.one (.raw z) (.pointer (some ⟨b, off, none⟩)))) (hy : ev E y' = some (.one u yv)) (hi : L[i]? = some (Res.var b e t xv))
    (hp : p.off = off) (hok : p.ok) (ht : tyChk P u tid = true) (g : Go F n E (L.set i (Res.var b e t (p.set xv yv))) (wpList P ops Q rest)) : Go F n E L (wpList P ops Q (⟨none, .store tid x y', ty, pos, after, none⟩ :: rest)) := fun M a w c => by
  obtain ⟨cs, hb, hr⟩ := c.st.var hi
  have hl := hr.size
  have hf := p.fits hok
  have h1 := (holds_raw.1 (ev_ok c hx)).1
  obtain ⟨ds, hds, hrun⟩ := run_storeVar (P := P) (w := w) ht hb (off := off) (by simp [hl, ← hp]; exact hf) (unfrozen_zero _) (ev_ok c hy)
  unfold wpList
  rw [if_pos (by simp [Region.wanted])]
  left
  unfold Oper.wp
  have he : (execOp a.eval ⟨none, .store tid x y', ty, pos, after, none⟩).run P w = .ok .skip (setBlk w b (.cells (cs.take off ++ ds ++ cs.drop (off + u.size)).toArray e (0, 0))) := by
    have hrun' : (storeVar tid ⟨b, off, none⟩ (a.eval y')).run P w = .ok () (setBlk w b (.cells (cs.take off ++ ds ++ cs.drop (off + u.size)).toArray e (0, 0))) := hrun
    simp only [execOp, run_bind, h1, Instr.storeAt, Instr.sureAddr, run_pure, hrun']
  rw [he, Oper.upon_skip]
  refine g M _ _ (c.same (Mem.le.refl _) (c.st.turn hi (B := fun k => k = b) ?_ ?_ ?_ rfl rfl rfl (by simp [setBlk])))
  · rintro S ⟨hS, cs', hb', hr'⟩
    refine ⟨hS, cs.take off ++ ds ++ cs.drop (off + u.size), by rw [setBlk_get (heap_lt hb)]; simp, ?_⟩
    rw [← hp]
    exact Rep.set p hok hr hds
  · rintro S ⟨hS, _⟩ k rfl; exact (hS _).2 rfl
  · intro k hk; rw [setBlk_get (heap_lt hb), if_neg (fun h => hk h.symm)]
end
end Sx
