/-
  Own work. The ends of functions; make; texts and bytes; structs and arrays written out.
-/
import Derived.Test.YtpkjocjchkibaaaSxDraw
namespace Sx
open Go

section
variable {P : Program} {Tb : Tab} {F : Fr} {n : Nat} {E E' : Env} {L : List Res} {ops : Array Oper} {Q : Exit → Act → World → Prop} {rest : List Oper} {X : Act → World → Prop}

/-- what a result variable hands back -/
inductive RetV (P : Program) (E : Env) (L : List Res) : ResultVar → (u : T) → u.D → Prop
  | tmp {i : Nat} {u : T} {x : u.D} (h : E.get i = some (.one u x)) : RetV P E L (.tmp i) u x
  | cell {a : Nat} {tid : TypeId} {z : Value} {b off : Nat} {e : TypeId} {t u : T} {xv : t.D} (i : Nat) (p : Pth t u) (h : E.get a = some (.one (.raw z) (.pointer (some ⟨b, off, none⟩)))) (hi : L[i]? = some (Res.var b e t xv)) (hp : p.off = off) (hok : p.ok)
      (ht : tyChk P u tid = true) : RetV P E L (.cell a tid) u (p.get xv)

def retOp (tmps : Array Value) : ResultVar → Sem Value
  | .tmp t => pure (tmps.getD t undef)
  | .cell a t => do loadVar t (← asAddr (tmps.getD a undef))

theorem RetV.run {M : Mem} {a : Act} {w : World} (c : Cfg F M n E L a w) {r : ResultVar} {u : T} {x : u.D} (h : RetV P E L r u x) : ∃ v, (retOp a.tmps r).run P w = .ok v w ∧ Holds u M v x := by
  cases h with
  | tmp h =>
    obtain ⟨v, e, hv⟩ := c.get h
    exact ⟨v, by simp [retOp, e], hv⟩
  | @cell ad tid z b off e0 t u xv i p h hi hp hok ht =>
    obtain ⟨v, e, hv⟩ := c.get h
    obtain ⟨cs, hb, hr⟩ := c.st.var hi
    have hl := hr.size
    have hf := p.fits hok
    have hrep := Rep.get p hok hr
    rw [hp] at hrep hf
    obtain ⟨v', h1, h2⟩ := run_loadVar (P := P) (w := w) ht hb (by simp [hl]; exact hf) (M := M) (x := p.get _) (by simpa using hrep)
    refine ⟨v', ?_, h2⟩
    have hv' := (holds_raw.1 hv).1
    simp only [retOp, run_bind]
    have : a.tmps.getD ad undef = v := by simp [e]
    rw [this, hv']
    exact h1

inductive RetL (P : Program) (E : Env) (L : List Res) : List ResultVar → List ((t : T) × t.D) → Prop
  | nil : RetL P E L [] []
  | cons {r : ResultVar} {u : T} {x : u.D} {rs : List ResultVar} {l : List ((t : T) × t.D)} (h : RetV P E L r u x) (q : RetL P E L rs l) : RetL P E L (r :: rs) (⟨u, x⟩ :: l)

theorem RetL.run {M : Mem} {a : Act} {w : World} (c : Cfg F M n E L a w) : ∀ {rs : List ResultVar} {l : List ((t : T) × t.D)}, RetL P E L rs l → ∃ vs, (rs.mapM (retOp a.tmps)).run P w = .ok vs w ∧ HoldsL M vs l
  | _, _, .nil => ⟨[], rfl, .nil⟩
  | _, _, .cons h q => by
    obtain ⟨v, h1, h2⟩ := RetV.run c h
    obtain ⟨vs, h3, h4⟩ := RetL.run c q
    refine ⟨v :: vs, ?_, .cons h2 h4⟩
    rw [List.mapM_cons, run_bind, h1]
    simp only [run_bind, h3]; rfl

theorem results_run {fn : Func} {rs : List ResultVar} (hr : fn.results = rs.toArray) {tmps : Array Value} {w : World} {vs : List Value} (h : (rs.mapM (retOp tmps)).run P w = .ok vs w) :
    (results fn tmps).run P w = .ok (if h : vs.toArray.size = 1 then vs.toArray[0] else .tuple vs.toArray) w := by
  have e : results fn tmps = (fn.results.mapM (retOp tmps) >>= fun vs => pure (if h : vs.size = 1 then vs[0] else .tuple vs)) := by
    unfold results
    congr 1
  have e2 : (rs.toArray.mapM (retOp tmps)).run P w = .ok vs.toArray w := by
    rw [List.mapM_toArray]
    have : (List.toArray <$> rs.mapM (retOp tmps)) = (do let l ← rs.mapM (retOp tmps); pure l.toArray) := by rw [← bind_pure_comp]
    rw [this, run_bind, h]; rfl
  rw [e, hr, run_bind, e2]
  rfl

/-- one result -/
theorem r_ret1 {fn : Func} {r : ResultVar} {u : T} {x : u.D} (hr : fn.results = #[r]) (h : RetV P E L r u x) {res : Value → TV} {L' : Value → List Res} (hres : ∀ M v, Holds u M v x → (res v).holds M v) (hL : ∀ M v, Holds u M v x → (L' v).Sublist L) :
    Go F n E L (bodyPost P fn (Post F res L') .ret) := fun M a w c => by
  obtain ⟨v, h1, h2⟩ := RetV.run c h
  have hm : ([r].mapM (retOp a.tmps)).run P w = .ok [v] w := by
    rw [List.mapM_cons, run_bind, h1]; rfl
  have := results_run (rs := [r]) hr hm
  exact bodyPost_ret (by rw [this]; rfl) c.defers ⟨v, M, rfl, c.st.lose (hL M v h2), hres M v h2⟩

/-- no result -/
theorem r_ret0 {fn : Func} (hr : fn.results = #[]) {res : Value → TV} {L' : Value → List Res} (hres : ∀ M, (res (.tuple #[])).holds M (.tuple #[])) (hL : (L' (.tuple #[])).Sublist L) :
    Go F n E L (bodyPost P fn (Post F res L') .ret) := fun M _ _ c =>
  bodyPost_ret (results_none hr _ _ _) c.defers ⟨_, M, rfl, c.st.lose hL, hres M⟩
theorem r_end0 {fn : Func} (hr : fn.results = #[]) {res : Value → TV} {L' : Value → List Res} (hres : ∀ M, (res (.tuple #[])).holds M (.tuple #[])) (hL : (L' (.tuple #[])).Sublist L) :
    Go F n E L (bodyPost P fn (Post F res L') .normal) := fun M _ _ c =>
  bodyPost_end (results_none hr _ _ _) c.defers ⟨_, M, rfl, c.st.lose hL, hres M⟩

/-- several results -/
theorem r_rets {fn : Func} {rs : List ResultVar} {l : List ((t : T) × t.D)} (hr : fn.results = rs.toArray) (h : RetL P E L rs l) (h2 : Nat.ble 2 rs.length = true) {res : Value → TV} {L' : Value → List Res} (hres : ∀ M vs, HoldsL M vs l → (res (.tuple vs.toArray)).holds M (.tuple vs.toArray))
    (hL : ∀ M vs, HoldsL M vs l → (L' (.tuple vs.toArray)).Sublist L) : Go F n E L (bodyPost P fn (Post F res L') .ret) := fun M a w c => by
  obtain ⟨vs, h1, h3⟩ := RetL.run c h
  have := results_run hr h1
  have hlen : ∀ {rs : List ResultVar} {l : List ((t : T) × t.D)} {vs : List Value}, RetL P E L rs l → HoldsL M vs l → rs.length = vs.length := by
    intro rs l vs h
    induction h generalizing vs with
    | nil => intro g; cases g; rfl
    | cons _ _ ih => intro g; cases g with | cons _ g => simp [ih g]
  have hl := hlen h h3
  have h2 := Nat.le_of_ble_eq_true h2
  rw [dif_neg (by simp; omega)] at this
  exact bodyPost_ret this c.defers ⟨_, M, rfl, c.st.lose (hL M vs h3), hres M vs h3⟩

theorem tup_ok {M : Mem} {l : List ((t : T) × t.D)} : ∀ vs, HoldsL M vs l → (TV.tup l).holds M (.tuple vs.toArray) := fun vs h => ⟨vs, rfl, h⟩

/-! ### make -/
theorem r_make (hT : Tb.chk P = true) {tid elem B : Nat} {t : T} {x y' : Operand} {k k' : IntKind} {i : Int} {d : Nat} {ty : TypeId} {pos : String} {after : Array Edge} (hl : lk Tb.slices tid = some elem) (he : elemChk P t elem B = true) (hB : Nat.ble 1 B = true) (hzero : (P.info? elem).bind (·.zero) = some (mk t (zc t))) (hzo : zok t = true)
    (hx : ev E x = some (.one (.int k) i)) (hy : ev E y' = some (.one (.int k') i)) (h0 : 0 ≤ i) (h1 : i * B ≤ 140737488355328) (hd : Nat.ble (d + 1) n = true)
    (g : ∀ v, Go F n ((d, .one (.raw (.slice none 0 0)) v) :: E) (Res.own v elem t (List.replicate i.toNat t.zero) :: L) (wpList P ops Q rest)) :
    Go F n E L (wpList P ops Q (⟨some d, .makeSlice tid x y', ty, pos, after, none⟩ :: rest)) := fun M a w c => by
  obtain ⟨ht, inf, hinf, hbytes, z, hz1, hz2⟩ := elemChk_ok he
  have hB := Nat.le_of_ble_eq_true hB
  have e1 := (holds_int.1 (ev_ok c hx)).1
  have e2 := (holds_int.1 (ev_ok c hy)).1
  have hz : z = mk t (zc t) := by simpa [hinf, hz1] using hzero
  have hrep : Rep t (fun _ => none) (zc t) t.zero := rep_zero hzo
  have hzl := hrep.size
  have hzc : z.cells.toList = zc t := by
    have : Rep t (fun _ => none) z.cells.toList t.zero := Holds.cells ⟨_, hz, hrep⟩
    have hh : Holds t (fun _ => none) z t.zero := ⟨_, hz, hrep⟩
    rw [hz]
    cases ha : t.isAgg with
    | true => simp [mk, ha, Value.cells]
    | false =>
      obtain ⟨v, e, ho⟩ := rep_one ha hrep
      rw [e]; simp only [mk, ha, Bool.false_eq_true, if_false, List.headD_cons]
      cases v <;> first | rfl | cases ho
  have hi1 : i ≤ 140737488355328 := by
    have : i * 1 ≤ i * B := Int.mul_le_mul_of_nonneg_left (by omega) h0
    omega
  have hw : IntKind.i64.wrap i = i := wrap_id (by simp only [rng, lo, hi]; omega)
  have hBi : (inf.bytes : Int) * i ≤ 2 ^ 48 := by rw [hbytes, Int.mul_comm]; omega
  have hng : ¬ i < 0 := by omega
  have hd48 : decide (2 ^ 48 < (inf.bytes : Int) * i) = false := decide_eq_false (by omega)
  have htl : (decide (i < 0) || decide ((inf.bytes : Int) * i > 2 ^ 48)) = false := by
    simp only [Bool.or_eq_false_iff, decide_eq_false_iff_not]; omega
  -- the cells
  have hcells : ∀ (zs : Array Value), zs.toList = zc t → ((Array.range (i.toNat * t.size)).map (zs[· % zs.size]!)).toList = (List.replicate i.toNat (zc t)).flatten := by
    intro zs hzs
    have hs : zs.size = t.size := by rw [← Array.length_toList, hzs]; exact hzl
    rw [Array.toList_map, Array.toList_range, hs]
    generalize i.toNat = m
    induction m with
    | zero => simp
    | succ m ih =>
      rw [Nat.succ_mul, List.range_add, List.map_append, ih]
      rw [List.replicate_succ', List.flatten_append, List.flatten_singleton]
      congr 1
      rw [List.map_map, ← hzs]
      apply List.ext_getElem
      · simp [hs]
      · intro j h1 h2
        simp only [List.length_map, List.length_range] at h1
        simp only [List.getElem_map, List.getElem_range, Function.comp]
        have hmod : (m * t.size + j) % t.size = j := by rw [Nat.add_comm, Nat.add_mul_mod_self_right, Nat.mod_eq_of_lt h1]
        rw [hmod]
        have hj : j < zs.size := by rw [hs]; exact h1
        simp [hj]
  have hrun : ∃ cs : Array Value, cs.toList = (List.replicate i.toNat (zc t)).flatten ∧ (execOp a.eval ⟨some d, .makeSlice tid x y', ty, pos, after, none⟩).run P w = .ok (.value (.slice (some ⟨w.heap.size, 0, none⟩) i.toNat i.toNat)) { w with heap := w.heap.push (.cells cs elem) } := by
    have hzv : (zeroValue elem).run P w = .ok z w := by simp only [zeroValue, run_bind, typeInfo_run hinf, hz1]; rfl
    by_cases h00 : i.toNat * t.size = 0
    · refine ⟨(Array.range (i.toNat * t.size)).map ((#[] : Array Value)[· % 0]!), ?_, ?_⟩
      · rw [h00]
        have : (List.replicate i.toNat (zc t)).flatten.length = 0 := by simp [hzl, h00]
        simp [List.length_eq_zero_iff.1 this]
      · simp only [execOp]
        refine run_val ?_
        rw [e1, e2]
        unfold Instr.makeSlice
        simp only [run_bind, run_underlying (Tab.slice hT hl), asInt, asIntOf, run_pure, typeInfo_run hinf, hw, hd48, hng, decide_false, Bool.false_or, Int.lt_irrefl, gt_iff_lt, Bool.or_self, Bool.false_eq_true, if_false, run_askRoom, run_sizeOf ht, h00, if_true]
        rfl
    · refine ⟨(Array.range (i.toNat * t.size)).map (z.cells[· % z.cells.size]!), hcells _ hzc, ?_⟩
      simp only [execOp]
      refine run_val ?_
      rw [e1, e2]
      unfold Instr.makeSlice
      simp only [run_bind, run_underlying (Tab.slice hT hl), asInt, asIntOf, run_pure, typeInfo_run hinf, hw, hd48, hng, decide_false, Bool.false_or, Int.lt_irrefl, gt_iff_lt, Bool.or_self, Bool.false_eq_true, if_false, run_askRoom, run_sizeOf ht, h00, hzv]
      rfl
  obtain ⟨cs, hcs, hrun⟩ := hrun
  refine step_val (d := d) rfl (by simp [Region.wanted]) hrun (g _ M _ _ (c.put (Mem.le.refl _) (c.st.new ?_) (Nat.le_of_ble_eq_true hd) (holds_raw.2 ⟨rfl, rfl⟩)))
  have hzs := zerosRep (t := t) (M := M) hzo i.toNat
  have hcl : cs.toList.length = i.toNat * t.size := by rw [hcs]; simp [hzl]
  refine .inr ⟨w.heap.size, i.toNat, by simp, fun k => Iff.rfl, cs, (0, 0), by simp, ?_, by simpa using hcl, by simp, by simp only [List.length_replicate, most]; omega, unfrozen_zero _⟩
  rw [List.length_replicate, ← hcl, List.take_length, hcs]
  exact hzs
end
end Sx
