/-
  Own work. '==' of data of any comparable shape; max and min.
-/
import Derived.Test.YtpkjocjchkibaaaSxJoin
import Derived.DeepKeys
namespace Sx
open Go

@[reducible] def eqT : T → Bool
  | .int _ => true | .bool => true | .str => true | .unit => true
  | .raw _ => false | .sl _ _ => false
  | .pair a b => eqT a && eqT b
  | .arr _ t => eqT t

def eqL {α : Type} (f : α → α → Bool) : List α → List α → Bool
  | [], [] => true
  | x :: xs, y :: ys => f x y && eqL f xs ys
  | _, _ => false

def eqD : (t : T) → t.D → t.D → Bool
  | .int _, a, b => (show Int from a) == (show Int from b)
  | .bool, a, b => (show Bool from a) == (show Bool from b)
  | .str, a, b => (show List Int from a) == (show List Int from b)
  | .unit, _, _ => true
  | .raw _, _, _ => false
  | .sl _ _, _, _ => false
  | .pair a b, x, y => eqD a x.1 y.1 && eqD b x.2 y.2
  | .arr _ t, x, y => eqL (eqD t) x y

theorem eqL_iff {α : Type} {f : α → α → Bool} (h : ∀ a b, f a b = true ↔ a = b) : ∀ (x y : List α), eqL f x y = true ↔ x = y
  | [], [] => by simp [eqL]
  | _ :: _, [] => by simp [eqL]
  | [], _ :: _ => by simp [eqL]
  | a :: x, b :: y => by simp only [eqL, Bool.and_eq_true, h, eqL_iff h x y, List.cons.injEq]

theorem eqD_iff : ∀ {t : T}, eqT t = true → ∀ (x y : t.D), eqD t x y = true ↔ x = y
  | .int _, _, x, y => by simp [eqD]
  | .bool, _, x, y => by simp [eqD]
  | .str, _, x, y => by simp [eqD]
  | .unit, _, _, _ => by simp [eqD]
  | .raw _, h, _, _ => by simp [eqT] at h
  | .sl _ _, h, _, _ => by simp [eqT] at h
  | .pair a b, h, x, y => by
    simp only [eqT, Bool.and_eq_true] at h
    simp only [eqD, Bool.and_eq_true, eqD_iff h.1, eqD_iff h.2]
    exact ⟨fun g => Prod.ext g.1 g.2, fun g => by rw [g]; exact ⟨rfl, rfl⟩⟩
  | .arr _ t, h, x, y => eqL_iff (fun a b => eqD_iff (t := t) h a b) x y

/-! ### What a value's letters are -/
def lits : (t : T) → t.D → List Lit
  | .int k, x => [.int k x]
  | .bool, x => [.bool x]
  | .str, x => [.string (bs x).data.toList]
  | .unit, _ => []
  | .raw _, _ => []
  | .sl _ _, _ => []
  | .pair a b, x => lits a x.1 ++ lits b x.2
  | .arr _ t, x => (List.map (lits t) x).flatten

@[reducible] def dep : T → Nat
  | .pair a b => max (dep a + 1) (dep b)
  | .arr _ t => dep t + 1
  | _ => 1

theorem rng_wf {k : IntKind} {n : Int} (h : rng k n) : (Lit.int k n).wf = true := by
  cases k <;> simp only [rng, lo, hi] at h <;> simp [Lit.wf, IntKind.min, IntKind.max, IntKind.signed, IntKind.bits] <;> omega


section
variable {P : Program} {M : Mem}

theorem cellsOf_ty' {t : T} {tid : TypeId} (h : tyChk P t tid = true) : P.cellsOf tid = t.size := by
  obtain ⟨i, _, hi, hs, _⟩ := tyChk_info h
  simp [Program.cellsOf, hi, hs]

def KeyT (P : Program) (M : Mem) (t : T) : Prop := ∀ {tid : TypeId} {m : Nat}, tyChk P t tid = true → eqT t = true → P.keyTypeAt m tid = true → ∀ {cs : List Value} {x : t.D}, Rep t M cs x → ∀ D, dep t ≤ D → P.keyLits D tid cs = some (lits t x)
def KeyF (P : Program) (M : Mem) (t : T) : Prop := ∀ {r : List Field} {off m : Nat}, stChk P t r off = true → eqT t = true → (∀ f ∈ r, P.keyTypeAt m f.type = true) → ∀ {pre cs : List Value} {x : t.D}, pre.length = off → Rep t M cs x → ∀ D, dep t ≤ D + 1 →
  ∃ ls, (r.mapM fun f => P.keyLits D f.type (((pre ++ cs).drop f.offset).take (P.cellsOf f.type))) = some ls ∧ ls.flatten = lits t x

theorem arr_keys {α : Type} {R : List Value → α → Prop} {s : Nat} {g : List Value → Option (List Lit)} {l : α → List Lit} (hs : ∀ c x, R c x → c.length = s) (hg : ∀ c x, R c x → g c = some (l x)) : ∀ (k : Nat) {pre cs : List Value} {xs : List α}, pre.length = k * s → RepL R cs xs →
    ((List.range' k xs.length).mapM fun i => g (((pre ++ cs).drop (i * s)).take s)) = some (xs.map l)
  | k, pre, cs, [], hp, h => by simp
  | k, pre, cs, x :: xs, hp, ⟨c1, c2, e, h1, h2⟩ => by
    have hl := hs _ _ h1
    have e0 : ((pre ++ cs).drop (k * s)).take s = c1 := by
      rw [e, ← hp, List.drop_left, ← hl, List.take_left]
    have ih := arr_keys hs hg (k + 1) (pre := pre ++ c1) (by rw [List.length_append, hp, hl, Nat.add_mul]; omega) h2
    rw [List.append_assoc, ← e] at ih
    simp only [List.length_cons, List.range'_succ, List.mapM_cons, e0, hg _ _ h1, List.map_cons]
    simp [ih]

theorem key : ∀ t : T, KeyT P M t ∧ KeyF P M t
  | .int k => ⟨fun {tid m} hc _ _ {cs x} h D hD => by
      obtain ⟨i, d, _, _, hu, hd⟩ := tyBase_info hc
      split at hd
      · obtain rfl := kindEq_eq hd
        obtain ⟨rfl, hr⟩ := h
        cases D with
        | zero => simp at hD
        | succ D => simp [Program.keyLits, hu, lits, rng_wf hr]
      · exact Bool.noConfusion hd, fun h => by simp [stChk] at h⟩
  | .bool => ⟨fun {tid m} hc _ _ {cs x} h D hD => by
      obtain ⟨i, d, _, _, hu, hd⟩ := tyBase_info hc
      split at hd
      · obtain rfl := h
        cases D with
        | zero => simp at hD
        | succ D => simp [Program.keyLits, hu, lits]
      · exact Bool.noConfusion hd, fun h => by simp [stChk] at h⟩
  | .str => ⟨fun {tid m} hc _ _ {cs x} h D hD => by
      obtain ⟨i, d, _, _, hu, hd⟩ := tyBase_info hc
      split at hd
      · obtain ⟨rfl, hb, hl⟩ := h
        cases D with
        | zero => simp at hD
        | succ D =>
          have : (bs x).size ≤ maxLen := by rw [bs_size]; simp only [most] at hl; simp only [maxLen]; omega
          simp [Program.keyLits, hu, lits, this]
      · exact Bool.noConfusion hd, fun h => by simp [stChk] at h⟩
  | .raw _ => ⟨fun _ h => by simp [eqT] at h, fun h => by simp [stChk] at h⟩
  | .sl _ _ => ⟨fun _ h => by simp [eqT] at h, fun h => by simp [stChk] at h⟩
  | .unit => ⟨fun {tid m} hc _ hk {cs x} h D hD => by
      obtain ⟨i, d, hi, hs, hu, hd⟩ := tyBase_info hc
      split at hd
      · rename_i fs
        obtain rfl : cs = [] := h
        have hc0 : P.cellsOf tid = 0 := by simp [Program.cellsOf, hi, hs]
        have hf : fs.toList = [] := by simpa using hd
        cases D with
        | zero => simp at hD
        | succ D =>
          have hf2 : fs = #[] := by simpa using hd
          subst hf2
          simp [Program.keyLits, hu, lits, hc0]
      · exact Bool.noConfusion hd, fun {r off m} h _ _ {pre cs x} _ hr D _ => by
      cases r with
      | nil => exact ⟨[], by simp, by simp [lits]⟩
      | cons f r => simp [stChk] at h⟩
  | .arr n u => ⟨fun {tid m} hc he hk {cs x} h D hD => by
      have hcells := cellsOf_ty' hc
      obtain ⟨i, d, hi, hs, hu, hd⟩ := tyBase_info hc
      split at hd
      · rename_i n' e
        simp only [Bool.and_eq_true] at hd
        obtain rfl := Nat.eq_of_beq_eq_true hd.1
        cases D with
        | zero => simp [dep] at hD
        | succ D =>
          cases m with
          | zero => simp [Program.keyTypeAt] at hk
          | succ m =>
            simp only [Program.keyTypeAt, hu] at hk
            have hce := cellsOf_ty' hd.2
            have hl := Rep.size h
            obtain ⟨h1, h2⟩ := h
            have := arr_keys (R := Rep u M) (s := u.size) (g := P.keyLits D e) (l := lits u) (fun c x h => Rep.size h) (fun c x h => (key u).1 hd.2 he hk h D (by simp only [dep] at hD; omega)) 0 (pre := []) (by simp) h2
            simp only [List.nil_append, ← List.range_eq_range'] at this
            rw [h1] at this
            have hcl : cs.length = P.cellsOf tid := by rw [hcells, hl]
            simp only [Program.keyLits, hu, hcl, if_true, hce, this, Option.map_some, lits]
      · exact Bool.noConfusion hd, fun h => by simp [stChk] at h⟩
  | .pair a b => by
    have hF : KeyF P M (.pair a b) := fun {r off m} h he hk {pre cs x} hp hr D hD => by
      cases r with
      | nil => simp [stChk] at h
      | cons f r =>
        simp only [stChk, Bool.and_eq_true] at h
        obtain ⟨⟨h1, h2⟩, h3⟩ := h
        have h1 := Nat.eq_of_beq_eq_true h1
        simp only [eqT, Bool.and_eq_true] at he
        obtain ⟨c1, c2, rfl, ra, rb⟩ := hr
        have hla := Rep.size ra
        simp only [dep] at hD
        obtain ⟨ls, e1, e2⟩ := (key b).2 h3 he.2 (fun g hg => hk g (by simp [hg])) (pre := pre ++ c1) (by rw [List.length_append, hp, hla]) rb D (by omega)
        rw [List.append_assoc] at e1
        have e0 : ((pre ++ (c1 ++ c2)).drop f.offset).take (P.cellsOf f.type) = c1 := by
          rw [h1, cellsOf_ty' h2, ← hp, List.drop_left, ← hla, List.take_left]
        refine ⟨lits a x.1 :: ls, ?_, by simp [lits, e2]⟩
        simp only [List.mapM_cons, e0, (key a).1 h2 he.1 (hk f (by simp)) ra D (by omega), e1]
        rfl
    refine ⟨fun {tid m} hc he hk {cs x} h D hD => ?_, hF⟩
    have hcells := cellsOf_ty' hc
    obtain ⟨i, d, hi, hs, hu, hd⟩ := tyBase_info hc
    split at hd
    · rename_i fs
      split at hd
      · rename_i f r hfs
        have hst : stChk P (.pair a b) (f :: r) 0 = true := by
          simp only [stChk, Nat.zero_add]; exact hd
        cases D with
        | zero => simp only [dep] at hD; omega
        | succ D =>
          cases m with
          | zero => simp [Program.keyTypeAt] at hk
          | succ m =>
            simp only [Program.keyTypeAt, hu, Bool.and_eq_true] at hk
            have hall := hk.1.1
            rw [← Array.all_toList, hfs] at hall
            simp only [List.all_eq_true, Bool.and_eq_true] at hall
            have hnm : fs.all (fun f => f.name != "_") = true := by
              rw [← Array.all_toList, hfs]
              simp only [List.all_eq_true]
              exact fun g hg => (hall g hg).1
            obtain ⟨ls, e1, e2⟩ := hF hst he (fun g hg => (hall g hg).2) (pre := []) rfl h D hD
            have hcl : cs.length = P.cellsOf tid := by rw [hcells, Rep.size h]
            simp only [Program.keyLits, hu, hcl, hnm, and_self, if_true, hfs]
            simp only [List.nil_append] at e1
            rw [e1, Option.map_some, e2]
      · exact Bool.noConfusion hd
    · exact Bool.noConfusion hd

@[reducible] def wid : T → Nat
  | .int _ => 1 | .bool => 1 | .str => 1
  | .unit => 0 | .raw _ => 0 | .sl _ _ => 0
  | .pair a b => wid a + wid b
  | .arr n t => n * wid t
theorem flat_len {α : Type} {R : List Value → α → Prop} {l : α → List Lit} {n : Nat} (h : ∀ c x, R c x → (l x).length = n) : ∀ {cs : List Value} {xs : List α}, RepL R cs xs → ((xs.map l).flatten).length = xs.length * n
  | _, [], _ => by simp
  | _, x :: xs, ⟨_, _, _, a, b⟩ => by simp only [List.map_cons, List.flatten_cons, List.length_append, h _ _ a, flat_len h b, List.length_cons, Nat.add_mul]; omega
theorem lits_len : ∀ {t : T} {cs : List Value} {x : t.D}, Rep t M cs x → (lits t x).length = wid t
  | .int _, _, _, _ => rfl
  | .bool, _, _, _ => rfl
  | .str, _, _, _ => rfl
  | .unit, _, _, _ => rfl
  | .raw _, _, _, _ => rfl
  | .sl _ _, _, _, _ => rfl
  | .pair a b, _, _, ⟨_, _, _, h1, h2⟩ => by simp only [lits, List.length_append, lits_len h1, lits_len h2]
  | .arr n t, _, x, ⟨h1, h2⟩ => by
    simp only [lits]
    rw [flat_len (fun c x h => lits_len h) h2]
    simp only [wid]; rw [← h1]
theorem bs_inj' {x y : List Int} (hx : byteOk x) (hy : byteOk y) (h : (bs x).data.toList = (bs y).data.toList) : x = y := by
  have h : x.map (fun c => UInt8.ofNat c.toNat) = y.map (fun c => UInt8.ofNat c.toNat) := by
    simpa only [bs, List.toList_toArray] using h
  apply List.ext_getElem?
  intro i
  have := congrArg (fun l => l[i]?) h
  simp only [List.getElem?_map] at this
  cases ha : x[i]? with
  | none => cases hb : y[i]? with
    | none => rfl
    | some b => rw [ha, hb] at this; cases this
  | some a => cases hb : y[i]? with
    | none => rw [ha, hb] at this; cases this
    | some b =>
      rw [ha, hb] at this
      simp only [Option.map_some, Option.some.injEq] at this
      have h1 := hx a (List.mem_of_getElem? ha)
      have h2 := hy b (List.mem_of_getElem? hb)
      have := congrArg UInt8.toNat this
      simp at this
      congr 1
      omega
theorem flat_inj {α : Type} {R : List Value → α → Prop} {l : α → List Lit} {n : Nat} (hn : ∀ c x, R c x → (l x).length = n) (hi : ∀ c d x y, R c x → R d y → l x = l y → x = y) : ∀ {cs ds : List Value} {xs ys : List α}, RepL R cs xs → RepL R ds ys → xs.length = ys.length → (xs.map l).flatten = (ys.map l).flatten → xs = ys
  | _, _, [], [], _, _, _, _ => rfl
  | _, _, x :: xs, y :: ys, ⟨_, _, _, a, b⟩, ⟨_, _, _, c, d⟩, hl, h => by
    simp only [List.map_cons, List.flatten_cons] at h
    have := List.append_inj h (by rw [hn _ _ a, hn _ _ c])
    rw [hi _ _ _ _ a c this.1, flat_inj hn hi b d (by simpa using hl) this.2]
  | _, _, [], _ :: _, _, _, hl, _ => by simp at hl
  | _, _, _ :: _, [], _, _, hl, _ => by simp at hl
theorem lits_inj : ∀ {t : T}, eqT t = true → ∀ {cs ds : List Value} {x y : t.D}, Rep t M cs x → Rep t M ds y → lits t x = lits t y → x = y
  | .int _, _, _, _, _, _, _, _, h => by simpa [lits] using h
  | .bool, _, _, _, _, _, _, _, h => by simpa [lits] using h
  | .str, _, _, _, _, _, h1, h2, h => bs_inj' h1.2.1 h2.2.1 (by simpa only [lits, List.cons.injEq, Lit.string.injEq, and_true] using h)
  | .unit, _, _, _, _, _, _, _, _ => rfl
  | .raw _, h, _, _, _, _, _, _, _ => by simp [eqT] at h
  | .sl _ _, h, _, _, _, _, _, _, _ => by simp [eqT] at h
  | .pair a b, he, _, _, x, y, ⟨_, _, _, a1, b1⟩, ⟨_, _, _, a2, b2⟩, h => by
    simp only [eqT, Bool.and_eq_true] at he
    have := List.append_inj h (by rw [lits_len a1, lits_len a2])
    exact Prod.ext (lits_inj he.1 a1 a2 this.1) (lits_inj he.2 b1 b2 this.2)
  | .arr _ t, he, _, _, x, y, ⟨l1, r1⟩, ⟨l2, r2⟩, h => flat_inj (fun c x h => lits_len h) (fun _ _ _ _ a b e => lits_inj (t := t) he a b e) r1 r2 (by rw [l1, l2]) h

theorem formed_mk {t : T} {tid : TypeId} (h : tyChk P t tid = true) {cs : List Value} {x : t.D} (hr : Rep t M cs x) : (mk t cs).formed P tid = true ∧ (mk t cs).cells.toList = cs := by
  obtain ⟨i, d, hi, hs, hu, hd⟩ := tyChk_info h
  by_cases ha : t.isAgg = true
  · rw [ha] at hd
    have hl := Rep.size hr
    have : mk t cs = .agg cs.toArray := by simp [mk, ha]
    rw [this]
    refine ⟨?_, by simp [Value.cells]⟩
    cases d <;> simp [aggD] at hd <;> simp [Value.formed, hu, Program.cellsOf, hi, hs, hl]
  · have ha : t.isAgg = false := by simpa using ha
    obtain ⟨v, rfl, ho⟩ := rep_one ha hr
    have : mk t [v] = v := by simp [mk, ha]
    rw [this]
    rw [ha] at hd
    constructor
    · cases d <;> simp [aggD] at hd <;> cases v <;> simp [one] at ho <;> simp [Value.formed, hu]
    · cases v <;> simp [one] at ho <;> rfl
end

section
variable {P : Program} {Tb : Tab} {F : Fr} {n : Nat} {E : Env} {L : List Res}
theorem run_eqD {w : World} {M : Mem} {t : T} {tid : TypeId} (m : Nat) (hm : Nat.ble m 10000 = true) (ht : tyChk P t tid = true) (he : eqT t = true) (hk : P.keyTypeAt m tid = true) {v v' : Value} {x y : t.D} (hv : Holds t M v x) (hv' : Holds t M v' y) :
    (Op.equal tid v v').run P w = .ok (eqD t x y) w := by
  obtain ⟨cs, rfl, r1⟩ := hv
  obtain ⟨ds, rfl, r2⟩ := hv'
  obtain ⟨f1, c1⟩ := formed_mk ht r1
  obtain ⟨f2, c2⟩ := formed_mk ht r2
  have hm := Nat.le_of_ble_eq_true hm
  have := run_equalIn_deep (P := P) (10000 - m) m tid hk w (dep t) (dep t) _ _ _ _ f1 f2 (by rw [c1]; exact (key t).1 ht he hk r1 _ (Nat.le_refl _)) (by rw [c2]; exact (key t).1 ht he hk r2 _ (Nat.le_refl _))
  obtain ⟨r, hr, hiff⟩ := this
  have e : 10000 - m + m = 10000 := by omega
  rw [e] at hr
  have : r = eqD t x y := by
    rw [Bool.eq_iff_iff, hiff, eqD_iff he]
    exact ⟨fun h => lits_inj he r1 r2 h, fun h => by rw [h]⟩
  rw [← this]
  exact hr

theorem eqs_guard {w : World} {tid : TypeId} {x y' : Operand} {u v : Array Value} (hg : P.eqGuardType P.depth tid = false) : (eqGuard .eql tid x y' (.agg u) (.agg v)).run P w = .ok () w := by
  simp [eqGuard, program, Sem.run, hg]
theorem neqs_guard {w : World} {tid : TypeId} {x y' : Operand} {u v : Array Value} (hg : P.eqGuardType P.depth tid = false) : (eqGuard .neq tid x y' (.agg u) (.agg v)).run P w = .ok () w := by
  simp [eqGuard, program, Sem.run, hg]
theorem y_eqs {R : World → World → Prop} {x y' : Operand} {tid w0 : TypeId} {t : T} {a b : t.D} (m : Nat) (hx : ev E x = some (.one t a)) (hy : ev E y' = some (.one t b)) (hm : Nat.ble m 10000 = true) (ha : t.isAgg = true) (ht : tyChk P t tid = true) (he : eqT t = true) (hk : P.keyTypeAt m tid = true) (hg : P.eqGuardType P.depth tid = false) :
    Yields R P F n E L (.binOp .eql tid x y' w0) (.one .bool (eqD t a b)) := fun o ho M a' w c => by
  have e1 := ev_ok c hx
  have e2 := ev_ok c hy
  obtain ⟨cs, h1, r1⟩ := e1
  obtain ⟨ds, h2, r2⟩ := e2
  have g1 : mk t cs = .agg cs.toArray := by simp [mk, ha]
  have g2 : mk t ds = .agg ds.toArray := by simp [mk, ha]
  refine ⟨_, holds_bool.2 rfl, fun w' _ => ?_⟩
  have hr := run_eqD (w := w') m hm ht he hk ⟨cs, rfl, r1⟩ ⟨ds, rfl, r2⟩
  obtain ⟨dst, op', ty, pos, after, guard⟩ := o
  simp only at ho; subst ho
  refine run_val ?_
  rw [g1, g2] at hr
  rw [run_bind, h1, h2, g1, g2, eqs_guard hg]
  simp only [binOp, run_bind, hr]; rfl
theorem y_nes {R : World → World → Prop} {x y' : Operand} {tid w0 : TypeId} {t : T} {a b : t.D} (m : Nat) (hx : ev E x = some (.one t a)) (hy : ev E y' = some (.one t b)) (hm : Nat.ble m 10000 = true) (ha : t.isAgg = true) (ht : tyChk P t tid = true) (he : eqT t = true) (hk : P.keyTypeAt m tid = true) (hg : P.eqGuardType P.depth tid = false) :
    Yields R P F n E L (.binOp .neq tid x y' w0) (.one .bool (!eqD t a b)) := fun o ho M a' w c => by
  have e1 := ev_ok c hx
  have e2 := ev_ok c hy
  obtain ⟨cs, h1, r1⟩ := e1
  obtain ⟨ds, h2, r2⟩ := e2
  have g1 : mk t cs = .agg cs.toArray := by simp [mk, ha]
  have g2 : mk t ds = .agg ds.toArray := by simp [mk, ha]
  refine ⟨_, holds_bool.2 rfl, fun w' _ => ?_⟩
  have hr := run_eqD (w := w') m hm ht he hk ⟨cs, rfl, r1⟩ ⟨ds, rfl, r2⟩
  obtain ⟨dst, op', ty, pos, after, guard⟩ := o
  simp only at ho; subst ho
  refine run_val ?_
  rw [g1, g2] at hr
  rw [run_bind, h1, h2, g1, g2, neqs_guard hg]
  simp only [binOp, run_bind, hr]; rfl

/-! ### max and min of two numbers -/
theorem y_max {R : World → World → Prop} {x y' : Operand} {tys : Array TypeId} {k : IntKind} {p q : Int} (hx : ev E x = some (.one (.int k) p)) (hy : ev E y' = some (.one (.int k) q)) :
    Yields R P F n E L (.call ⟨.builtin .max, #[x, y'], tys⟩) (.one (.int k) (max p q)) := fun o ho M a w c => by
  obtain ⟨e1, r1⟩ := holds_int.1 (ev_ok c hx)
  obtain ⟨e2, r2⟩ := holds_int.1 (ev_ok c hy)
  refine ⟨.int k (max p q), holds_int.2 ⟨rfl, by simp only [rng] at *; omega⟩, fun w' _ => ?_⟩
  obtain ⟨dst, op', ty, pos, after, guard⟩ := o
  simp only at ho; subst ho
  simp only [execOp, resolve, run_bind, run_pure, invoke, Go.builtin]
  have : #[x, y'].map a.eval = #[.int k p, .int k q] := by simp [e1, e2]
  rw [this]
  have e : max p q = if q > p then q else p := by omega
  rw [e]; rfl
theorem y_min {R : World → World → Prop} {x y' : Operand} {tys : Array TypeId} {k : IntKind} {p q : Int} (hx : ev E x = some (.one (.int k) p)) (hy : ev E y' = some (.one (.int k) q)) :
    Yields R P F n E L (.call ⟨.builtin .min, #[x, y'], tys⟩) (.one (.int k) (min p q)) := fun o ho M a w c => by
  obtain ⟨e1, r1⟩ := holds_int.1 (ev_ok c hx)
  obtain ⟨e2, r2⟩ := holds_int.1 (ev_ok c hy)
  refine ⟨.int k (min p q), holds_int.2 ⟨rfl, by simp only [rng] at *; omega⟩, fun w' _ => ?_⟩
  obtain ⟨dst, op', ty, pos, after, guard⟩ := o
  simp only at ho; subst ho
  simp only [execOp, resolve, run_bind, run_pure, invoke, Go.builtin]
  have : #[x, y'].map a.eval = #[.int k p, .int k q] := by simp [e1, e2]
  rw [this]
  have e : min p q = if q < p then q else p := by omega
  rw [e]; rfl
end
end Sx
