/-
  Own work. Texts and bytes; structs and arrays written out.
-/
import Derived.Test.YtpkjocjchkibaaaSxEnd
namespace Sx
open Go

section
variable {P : Program} {Tb : Tab} {F : Fr} {n : Nat} {E E' : Env} {L : List Res} {ops : Array Oper} {Q : Exit → Act → World → Prop} {rest : List Oper} {X : Act → World → Prop}

theorem run_forBytes {w : World} : ∀ (ys : List Int) (s : ByteArray),
    (forIn (ys.map fun y => Value.int .u8 y) s fun c r => ((match c with | .int .u8 m => pure (ForInStep.yield (r.push (UInt8.ofNat m.toNat))) | _ => do stuck "bytesToString: byte expected"; pure (ForInStep.yield r)) : Sem (ForInStep ByteArray))).run P w = .ok (s ++ bs ys) w
  | [], s => by
    show Result.ok s w = _
    congr 1
    apply ByteArray.ext; simp [bs]
  | y :: ys, s => by
    rw [List.map_cons, List.forIn_cons, run_bind]
    simp only [run_pure]
    rw [run_forBytes ys]
    congr 1
    apply ByteArray.ext
    simp [bs]

theorem run_bytesToString {b off len cap : Nat} {c : Array Value} {el : TypeId} {fr : Nat × Nat} {w : World} {ys : List Int} (hb : w.heap[b]? = some (.cells c el fr)) (hs : off + len ≤ c.size) (hy : (c.toList.drop off).take len = ys.map fun y => Value.int .u8 y) :
    (Conv.bytesToString (.slice (some ⟨b, off, none⟩) len cap)).run P w = .ok (.string (bs ys)) w := by
  unfold Conv.bytesToString
  have h1 := run_loadCells (P := P) hb len 0 #[] (by omega)
  simp only [Nat.add_zero, hy] at h1
  simp only [run_bind, loadCells, h1]
  have h2 := run_forBytes (P := P) (w := w) ys ByteArray.empty
  have e : ByteArray.empty ++ bs ys = bs ys := by apply ByteArray.ext; simp
  rw [e] at h2
  have e3 : (#[] ++ (ys.map fun y => Value.int .u8 y).toArray) = (ys.map fun y => Value.int .u8 y).toArray := by simp
  rw [e3, List.forIn_toArray]
  have h5 : ∀ {f g : Value → ByteArray → Sem (ForInStep ByteArray)}, (∀ c r, f c r = g c r) → (forIn (ys.map fun y => Value.int .u8 y) ByteArray.empty g).run P w = .ok (bs ys) w → (forIn (ys.map fun y => Value.int .u8 y) ByteArray.empty f).run P w = .ok (bs ys) w := by
    intro f g h e
    have : f = g := by funext c r; exact h c r
    rw [this]; exact e
  split
  · rename_i x w' heq
    rw [h5 (fun c r => ?_) h2] at heq
    · cases heq; rfl
    · cases c <;> rfl
  · rename_i h w' heq
    rw [h5 (fun c r => ?_) h2] at heq
    · cases heq
    · cases c <;> rfl

theorem repL_u8 {M : Mem} : ∀ {cs : List Value} {ys : List Int}, RepL (Rep (.int .u8) M) cs ys → cs = (ys.map fun y => Value.int .u8 y) ∧ byteOk ys
  | _, [], h => ⟨h, fun c hc => by simp at hc⟩
  | _, y :: ys, ⟨c1, c2, e, h1, h2⟩ => by
    obtain ⟨e2, hb⟩ := repL_u8 h2
    refine ⟨by rw [e, h1.1, e2]; rfl, ?_⟩
    intro c hc
    rcases List.mem_cons.1 hc with rfl | hc
    · have := h1.2; simp only [rng, lo, hi] at this; omega
    · exact hb c hc

/-- the text of bytes of the call's own -/
theorem y_text (hT : Tb.chk P = true) {sT dT elem : TypeId} {x : Operand} {z v : Value} {ys : List Int} (i : Nat) (hx : ev E x = some (.one (.raw z) v)) (hi : L[i]? = some (Res.own v elem (.int .u8) ys)) (hs : lk Tb.slices sT = some elem) (hd : lk Tb.strs dT = some ()) (he : lk Tb.ints elem = some .u8) :
    Yields Same P F n E L (.convert sT dT x) (.one .str ys) := fun o ho M a w c => by
  obtain ⟨S, hsat⟩ := c.st.res hi
  have hv := (holds_raw.1 (ev_ok c hx)).1
  have key : byteOk ys ∧ ys.length ≤ most ∧ ∀ w', Same w w' → (Conv.bytesToString v).run P w' = .ok (.string (bs ys)) w' := by
    rcases hsat with ⟨⟨a0, rfl⟩, rfl, _⟩ | ⟨b, cap, rfl, h2, cc, fr, h3, h4, h5, h6, h7, h8⟩
    · exact ⟨fun c hc => by simp at hc, by simp [most], fun w' _ => by cases a0 <;> simp [Conv.bytesToString, loadCells, loadCellsFrom, run_pure, run_bind] <;> rfl⟩
    · obtain ⟨e1, hb⟩ := repL_u8 h4
      simp only [T.size, Nat.mul_one] at e1 h5
      exact ⟨hb, h7, fun w' hsm => run_bytesToString (by rw [hsm b (heap_lt h3)]; exact h3) (by omega) (by simpa using e1)⟩
  refine ⟨_, holds_str.2 ⟨rfl, key.1, key.2.1⟩, fun w' hsm => ?_⟩
  obtain ⟨dst, op, ty, pos, after, guard⟩ := o
  simp only at ho; subst ho
  refine run_val ?_
  rw [hv]
  have hform : ∃ base len cap, v = .slice base len cap := by
    rcases hsat with ⟨⟨_, rfl⟩, _, _⟩ | ⟨b, cap, rfl, _⟩ <;> exact ⟨_, _, _, rfl⟩
  obtain ⟨base, len, cap, rfl⟩ := hform
  have hk := key.2.2 w' hsm
  simp only [Go.convert, run_bind, run_underlying (Tab.slice hT hs), run_underlying (Tab.str hT hd)]
  cases base <;> simp only [run_underlying (Tab.int hT he)] <;> exact hk

/-- the text of bytes that nobody writes -/
theorem y_textsl (hT : Tb.chk P = true) {sT dT elem : TypeId} {x : Operand} {e : TypeId} {ys : List Int} (hx : ev E x = some (.one (.sl e (.int .u8)) ys)) (hs : lk Tb.slices sT = some elem) (hd : lk Tb.strs dT = some ()) (he : lk Tb.ints elem = some .u8) :
    Yields Same P F n E L (.convert sT dT x) (.one .str ys) := fun o ho M a w c => by
  obtain ⟨cs, e1, ad, cap, e2, h2, h3, h4⟩ := ev_ok c hx
  have hv : a.eval x = .slice ad (List.length ys) cap := by rw [e1, e2]; rfl
  have key : byteOk ys ∧ ∀ w', Same w w' → (Conv.bytesToString (.slice ad (List.length ys) cap)).run P w' = .ok (.string (bs ys)) w' := by
    cases ad with
    | none =>
      simp only at h4
      have : ys = [] := List.length_eq_zero_iff.1 h4
      subst this
      exact ⟨fun c hc => by simp at hc, fun w' _ => rfl⟩
    | some ad =>
      rcases h4 with h4 | h4
      · have : ys = [] := List.length_eq_zero_iff.1 h4
        subst this
        exact ⟨fun c hc => by simp at hc, fun w' _ => rfl⟩
      obtain ⟨b, off, sp⟩ := ad
      obtain ⟨e3, cc, el, fr, hm, hss, hr⟩ := h4
      simp only at e3; subst e3
      obtain ⟨e4, hb⟩ := repL_u8 hr
      simp only [T.size, Nat.mul_one] at e4 hss
      have hb' := c.st.mem _ _ hm
      exact ⟨hb, fun w' hsm => run_bytesToString (by rw [hsm b (heap_lt hb')]; exact hb') hss e4⟩
  refine ⟨_, holds_str.2 ⟨rfl, key.1, h2⟩, fun w' hsm => ?_⟩
  obtain ⟨dst, op, ty, pos, after, guard⟩ := o
  simp only at ho; subst ho
  refine run_val ?_
  rw [hv]
  have hk := key.2 w' hsm
  simp only [Go.convert, run_bind, run_underlying (Tab.slice hT hs), run_underlying (Tab.str hT hd)]
  cases ad <;> simp only [run_underlying (Tab.int hT he)] <;> exact hk

/-- bytes of the call's own, out of a text -/
theorem r_bytes (hT : Tb.chk P = true) {sT dT elem : TypeId} {x : Operand} {ys : List Int} {d : Nat} {ty : TypeId} {pos : String} {after : Array Edge} (hx : ev E x = some (.one .str ys)) (hs : lk Tb.strs sT = some ()) (hdT : lk Tb.slices dT = some elem) (he : lk Tb.ints elem = some .u8)
    (hd : Nat.ble (d + 1) n = true) (g : ∀ v, Go F n ((d, .one (.raw (.slice none 0 0)) v) :: E) (Res.own v elem (.int .u8) ys :: L) (wpList P ops Q rest)) :
    Go F n E L (wpList P ops Q (⟨some d, .convert sT dT x, ty, pos, after, none⟩ :: rest)) := fun M a w c => by
  obtain ⟨e1, hb, hm⟩ := holds_str.1 (ev_ok c hx)
  generalize hcap : ys.length + w.tape w.drawn (.appendCap ys.length 0 elem) % (2 ^ 63 - ys.length) = cap
  have hcells : ((bs ys).data.map fun b => Value.int .u8 b.toNat) = (ys.map fun y => Value.int .u8 y).toArray := by
    simp only [bs, List.map_toArray, List.map_map]
    congr 1
    apply List.map_congr_left
    intro c hc
    have := hb c hc
    simp only [Function.comp]
    rw [UInt8.toNat_ofNat']
    congr 1
    omega
  let cells : Array Value := (ys.map fun y => Value.int .u8 y).toArray ++ Array.replicate (cap - ys.length) (.int .u8 0)
  have hsz : cells.size = cap := by simp only [cells, Array.size_append, List.size_toArray, List.length_map, Array.size_replicate]; omega
  let w1 : World := { w with drawn := w.drawn + 1, heap := w.heap.push (.cells cells elem (cells.size, cells.size + 1)) }
  have hrun : (execOp a.eval ⟨some d, .convert sT dT x, ty, pos, after, none⟩).run P w = .ok (.value (.slice (some ⟨w.heap.size, 0, none⟩) ys.length cap)) w1 := by
    simp only [execOp]
    refine run_val ?_
    rw [e1]
    simp only [Go.convert, run_bind, run_underlying (Tab.str hT hs), run_underlying (Tab.slice hT hdT), run_underlying (Tab.int hT he)]
    unfold Conv.stringToBytes
    simp only [run_bind, choose, Sem.run, Question.forced, Question.cut, bs_size, hcap, hcells, Bool.false_eq_true, if_false]
    let w0 : World := { w with drawn := w.drawn + 1, heap := w.heap.push (.cells cells elem) }
    have s1 : (newRow elem cells).run P { w with drawn := w.drawn + 1 } = .ok ⟨w.heap.size, 0, none⟩ w0 := rfl
    have hsh : w0.shape? w.heap.size = some (elem, cells.size) := by simp [World.shape?, w0]
    have hfz : w0.freeze ⟨w.heap.size, cells.size, none⟩ 1 = w1 := by
      simp only [World.freeze, w1, w0]
      rw [if_neg (by omega)]
      congr 1
      apply Array.ext
      · simp
      · intro i h1 h2
        simp only [Array.size_modify, Array.size_push] at h1
        by_cases hi : w.heap.size = i
        · subst hi; simp [Array.getElem_modify]
        · have hlt : i < w.heap.size := by omega
          simp [Array.getElem_modify, hi, Array.getElem_push, hlt]
    have s2 : (markStringish ⟨w.heap.size, 0, none⟩).run P w0 = .ok () w1 := by
      have e : (markStringish ⟨w.heap.size, 0, none⟩).run P w0 = (match w0.shape? w.heap.size with | some (_, n) => freeze { block := w.heap.size, off := n } 1 | none => pure () : Sem Unit).run P w0 := by
        unfold markStringish
        simp only [run_bind, shape, Sem.run]
        cases w0.shape? w.heap.size <;> rfl
      rw [e, hsh]
      simp only [freeze, Sem.run, hfz]
    rw [s1]
    simp only [s2]
    rfl
  have hst0 : St F M { w with drawn := w.drawn + 1 } L := c.st.drew
  refine step_val (d := d) rfl (by simp [Region.wanted]) hrun (g _ M _ _ (c.put (Mem.le.refl _) (hst0.new ?_) (Nat.le_of_ble_eq_true hd) (holds_raw.2 ⟨rfl, rfl⟩)))
  refine .inr ⟨w.heap.size, cap, rfl, fun k => Iff.rfl, cells, (cells.size, cells.size + 1), by simp, ?_, by simpa using hsz, by omega, hm, fun i hi h => by omega⟩
  have : cells.toList.take (List.length ys * (T.int .u8).size) = ys.map fun y => Value.int .u8 y := by
    simp only [cells, T.size, Nat.mul_one, Array.toList_append]
    rw [List.take_append_of_le_length (by simp), List.take_of_length_le (by simp)]
  rw [this]
  exact repL_bytes hb

/-! ### Structs and arrays written out -/
/-- where the parts of a struct or an array lie -/
def placeOf (P : Program) (tid : TypeId) (i : Nat) : Option (Nat × Nat) :=
  match P.underlying tid with
  | some (.struct fs) => (match fs[i]? with | some f => (match P.info? f.type with | some inf => some (f.offset, inf.size) | none => none) | none => none)
  | some (.array _ e) => (match P.info? e with | some inf => some (i * inf.size, inf.size) | none => none)
  | _ => none

inductive Fills (P : Program) (E : Env) (tid : TypeId) (t : T) : List (Nat × Operand) → t.D → t.D → Prop
  | nil {x : t.D} : Fills P E tid t [] x x
  | cons {i : Nat} {o : Operand} {u : T} {y : u.D} {l : List (Nat × Operand)} {x r : t.D} (p : Pth t u) (h : ev E o = some (.one u y)) (hp : placeOf P tid i = some (p.off, u.size)) (hok : p.ok) (q : Fills P E tid t l (p.set x y) r) : Fills P E tid t ((i, o) :: l) x r

/-- every type that a struct names is known -/
def allInfo (P : Program) (tid : TypeId) : Bool :=
  match P.underlying tid with
  | some (.struct fs) => fs.toList.all fun f => (P.info? f.type).isSome
  | some (.array _ e) => (P.info? e).isSome
  | _ => false

theorem fills_ok {M : Mem} {a : Act} {w : World} (c : Cfg F M n E L a w) {tid : TypeId} {t : T} {place : Nat → Option (Nat × Nat)} (hpl : ∀ i p, placeOf P tid i = some p → place i = some p) : ∀ {l : List (Nat × Operand)} {x r : t.D}, Fills P E tid t l x r → ∀ cs : Array Value, Rep t M cs.toList x →
    ∃ ds, Instr.fill place cs (l.map fun p => (p.1, a.eval p.2)) = some ds ∧ Rep t M ds.toList r
  | _, _, _, .nil, cs, h => ⟨cs, rfl, h⟩
  | _, x, r, .cons (i := i) (o := o) (u := u) (y := y) (l := l) p h hp hok q, cs, hr => by
    have hv := (ev_ok c h).cells
    have hsz := hv.size
    have hsz' : (a.eval o).cells.size = u.size := by simpa using hsz
    have hcs := hr.size
    have hcs' : cs.size = t.size := by simpa using hcs
    have hf := p.fits hok
    have hfold := foldl_set (a.eval o).cells.toList 0 p.off cs (by rw [hsz]; omega)
    have hzip : (a.eval o).cells.zipIdx.foldl (fun cs (q : Value × Nat) => cs.setIfInBounds (p.off + q.2) q.1) cs = ((a.eval o).cells.toList.zipIdx 0).foldl (fun cs (q : Value × Nat) => cs.setIfInBounds (p.off + q.2) q.1) cs := by
      rw [← Array.foldl_toList]; simp
    generalize ((a.eval o).cells.toList.zipIdx 0).foldl (fun cs (q : Value × Nat) => cs.setIfInBounds (p.off + q.2) q.1) cs = cs' at hfold hzip
    have hset := Rep.set p hok hr hv
    have hrep : Rep t M cs'.toList (p.set x y) := by
      rw [hfold, hsz]
      simpa using hset
    obtain ⟨ds, h1, h2⟩ := fills_ok c hpl q cs' hrep
    refine ⟨ds, ?_, h2⟩
    simp only [List.map_cons, Instr.fill, hpl _ _ hp]
    rw [if_neg (by rw [hsz']; simp; omega), hzip]
    exact h1

theorem y_build {R : World → World → Prop} {tid : TypeId} {t : T} {l : List (Nat × Operand)} {r : t.D} (hta : t.isAgg = true) (hz : (P.info? tid).bind (·.zero) = some (mk t (zc t))) (hzo : zok t = true) (hi : allInfo P tid = true) (h : Fills P E tid t l t.zero r) :
    Yields R P F n E L (.build tid l.toArray) (.one t r) := fun o ho M a w c => by
  have hrep : Rep t M (zc t).toArray.toList t.zero := by simpa using rep_zero (M := M) hzo
  have hmap : (l.toArray.map fun x => match x with | (i, x) => (i, a.eval x)).toList = l.map fun p => (p.1, a.eval p.2) := by simp
  have hzv : ∀ w', (zeroValue tid).run P w' = .ok (mk t (zc t)) w' := fun w' => by
    cases hinf : P.info? tid with
    | none => simp [hinf] at hz
    | some inf =>
      simp only [hinf, Option.bind_some] at hz
      simp only [zeroValue, run_bind, typeInfo_run hinf, hz]; rfl
  have hzc : (mk t (zc t)).cells = (zc t).toArray := by simp [mk, hta, Value.cells]
  unfold allInfo at hi
  split at hi
  · rename_i fs hu
    have hall : ∀ f ∈ fs.toList, ∃ inf, P.info? f.type = some inf := fun f hf => Option.isSome_iff_exists.1 (List.all_eq_true.1 hi f hf)
    have hplaces : ∀ w', ∃ places : Array (Nat × Nat), ((fs.mapM fun (f : Field) => do pure (f.offset, ← Go.sizeOf f.type)) : Sem (Array (Nat × Nat))).run P w' = .ok places w' ∧ ∀ i : Nat, places[i]? = (match fs[i]? with | some f => (match P.info? f.type with | some inf => some (f.offset, inf.size) | none => none) | none => none) := by
      intro w'
      have key : ∀ (l : List Field), (∀ f ∈ l, ∃ inf, P.info? f.type = some inf) → ∃ ps : List (Nat × Nat), ((l.mapM fun (f : Field) => do pure (f.offset, ← Go.sizeOf f.type)) : Sem (List (Nat × Nat))).run P w' = .ok ps w' ∧ ∀ i : Nat, ps[i]? = (match l[i]? with | some f => (match P.info? f.type with | some inf => some (f.offset, inf.size) | none => none) | none => none) := by
        intro l
        induction l with
        | nil => intro _; exact ⟨[], rfl, fun i => by simp⟩
        | cons f l ih =>
          intro h
          obtain ⟨inf, hinf⟩ := h f (by simp)
          obtain ⟨ps, h1, h2⟩ := ih fun f hf => h f (by simp [hf])
          refine ⟨(f.offset, inf.size) :: ps, ?_, ?_⟩
          · rw [List.mapM_cons, run_bind, run_bind]
            have : (Go.sizeOf f.type).run P w' = .ok inf.size w' := by simp only [Go.sizeOf, run_bind, typeInfo_run hinf]; rfl
            rw [this]
            simp only [run_pure, run_bind, h1]
          · intro i
            cases i with
            | zero => simp [hinf]
            | succ i => simpa using h2 i
      obtain ⟨ps, h1, h2⟩ := key fs.toList hall
      refine ⟨ps.toArray, ?_, fun i => by simpa using h2 i⟩
      have : fs = fs.toList.toArray := by simp
      rw [this, List.mapM_toArray]
      rw [← bind_pure_comp, run_bind]
      rw [show fs.toList.toArray.toList = fs.toList by simp] 
      rw [h1]; rfl
    obtain ⟨places0, _, hp0⟩ := hplaces w
    obtain ⟨ds, hfill, hds⟩ := fills_ok c (place := (places0[·]?)) (fun i p hp => by
      rw [hp0]; unfold placeOf at hp; rw [hu] at hp; exact hp) h _ hrep
    refine ⟨.agg ds, ⟨ds.toList, by simp [mk, hta], hds⟩, fun w' _ => ?_⟩
    obtain ⟨places, hpr, hp1⟩ := hplaces w'
    have hpp : places = places0 := Array.ext_getElem? fun i => by rw [hp1, hp0]
    subst hpp
    obtain ⟨dst, op, ty, pos, after, guard⟩ := o
    simp only at ho; subst ho
    refine run_val ?_
    unfold Instr.build
    simp only [run_bind, hzv, run_underlying hu, hpr, hzc, hmap, hfill]
    rfl
  · rename_i k e hu
    obtain ⟨inf, hinf⟩ := Option.isSome_iff_exists.1 hi
    obtain ⟨ds, hfill, hds⟩ := fills_ok c (place := fun i => some (i * inf.size, inf.size)) (fun i p hp => by
      unfold placeOf at hp; rw [hu] at hp; simp only [hinf] at hp; exact hp) h _ hrep
    refine ⟨.agg ds, ⟨ds.toList, by simp [mk, hta], hds⟩, fun w' _ => ?_⟩
    have hsz : (Go.sizeOf e).run P w' = .ok inf.size w' := by simp only [Go.sizeOf, run_bind, typeInfo_run hinf]; rfl
    obtain ⟨dst, op, ty, pos, after, guard⟩ := o
    simp only at ho; subst ho
    refine run_val ?_
    unfold Instr.build
    simp only [run_bind, hzv, run_underlying hu, hsz, hzc, hmap, hfill]
    rfl
  · cases hi
end
end Sx
