/-
  Own work. Pieces of slices of the call's own, lent for reading; calls that hand back what is new; copy.
-/
import Derived.Test.YtpkjocjchkibaaaSxDfiles
import Derived.Test.YtpkjocjchkibaaaSxAppN
namespace Sx
open Go

def subv (s : Nat) (v : Value) (i j : Nat) : Value := match v with
  | .slice ad _ cap => .slice (if cap = i then ad else ad.map (·.add (i * s))) (j - i) (cap - i)
  | v => v
/-- a value is a piece of what is owned, and holds xs -/
def Sub (L : List Res) (v : Value) (e : TypeId) (t : T) (xs : List t.D) : Prop := ∀ F M w, St F M w L → Rep (.sl e t) (heapOf w) [v] xs

theorem sub_own {L : List Res} {v : Value} {e : TypeId} {t : T} {xs : List t.D} (i : Nat) (hi : L[i]? = some (Res.own v e t xs)) : Sub L v e t xs := fun _ _ _ st => own_rep st hi

theorem rep_piece {M : Mem} {v : Value} {e : TypeId} {t : T} {xs : List t.D} (h : Rep (.sl e t) M [v] xs) {i j : Int} (h0 : 0 ≤ i) (h1 : i ≤ j) (h2 : j ≤ xs.length) : Rep (.sl e t) M [subv t.size v i.toNat j.toNat] ((xs.take j.toNat).drop i.toNat) := by
  obtain ⟨ad, cap, e2, hm, hcap, h4⟩ := h
  obtain rfl : v = .slice ad (List.length xs) cap := by simpa using e2
  have hlen : ((xs.take j.toNat).drop i.toNat).length = j.toNat - i.toNat := by simp; omega
  have hi : i.toNat ≤ j.toNat := by omega
  have hj : j.toNat ≤ xs.length := by omega
  refine ⟨_, _, by simp only [subv]; rw [hlen], by rw [hlen]; simp only [most] at *; omega, by rw [hlen]; omega, ?_⟩
  rw [hlen]
  cases ad with
  | none =>
    simp only at h4
    have : (if cap = i.toNat then (none : Option Addr) else none) = none := by split <;> rfl
    simp only [Option.map_none, this]
    omega
  | some ad =>
    by_cases hz : j.toNat - i.toNat = 0
    · split
      · rename_i hh
        exact hz
      · exact .inl hz
    · have hne : ¬ cap = i.toNat := by omega
      obtain ⟨b, off, sp⟩ := ad
      obtain ⟨e3, cc, el, fr, hmm, hs, hr⟩ := h4.resolve_left (by omega)
      simp only at e3; subst e3
      simp only at hmm hs hr
      simp only [if_neg hne, Option.map_some, add_add]
      refine .inr ⟨trivial, cc, el, fr, hmm, ?_, ?_⟩
      · have h5 : j.toNat * t.size ≤ xs.length * t.size := Nat.mul_le_mul_right t.size hj
        have e4 : i.toNat * t.size + (j.toNat - i.toNat) * t.size = j.toNat * t.size := by rw [← Nat.add_mul, Nat.add_sub_cancel' hi]
        clear h4 hr
        show off + i.toNat * t.size + (j.toNat - i.toNat) * t.size ≤ cc.size
        omega
      · have s1 := (RepL.split (s := t.size) (fun c x h => Rep.size h) j.toNat hr).1
        have s2 := (RepL.split (s := t.size) (fun c x h => Rep.size h) i.toNat s1).2
        have hle : j.toNat * t.size ≤ xs.length * t.size := Nat.mul_le_mul_right _ hj
        rw [List.take_take, Nat.min_eq_left hle, List.drop_take, List.drop_drop] at s2
        have e4 : j.toNat * t.size - i.toNat * t.size = (j.toNat - i.toNat) * t.size := (Nat.sub_mul _ _ _).symm
        rw [e4] at s2
        exact s2
theorem sub_sub {L : List Res} {v : Value} {e : TypeId} {t : T} {xs : List t.D} (h : Sub L v e t xs) {i j : Int} (h0 : 0 ≤ i) (h1 : i ≤ j) (h2 : j ≤ xs.length) : Sub L (subv t.size v i.toNat j.toNat) e t ((xs.take j.toNat).drop i.toNat) := fun F M w st => rep_piece (h F M w st) h0 h1 h2

section
variable {P : Program} {Tb : Tab} {F : Fr} {n : Nat} {E E' : Env} {L : List Res} {ops : Array Oper} {Q : Exit → Act → World → Prop} {rest : List Oper} {X : Act → World → Prop}

theorem run_piece (hT : Tb.chk P = true) {tid e : TypeId} {t : T} {xs : List t.D} {M : Mem} {v : Value} (hv : Rep (.sl e t) M [v] xs) {lo hi : Option Value} {i j : Int} (hl : (lo = none ∧ i = 0) ∨ ∃ k, lo = some (.int k i)) (hh : (hi = none ∧ j = xs.length) ∨ ∃ k, hi = some (.int k j))
    (h0 : 0 ≤ i) (h1 : i ≤ j) (h2 : j ≤ xs.length) (ht : lk Tb.slices tid = some e) (hc : tyChk P t e = true) (w : World) : (Instr.sliceAt tid v lo hi none).run P w = .ok (subv t.size v i.toNat j.toNat) w := by
  obtain ⟨ad, cap, e2, hm, hcap, h4⟩ := hv
  obtain rfl : v = .slice ad (List.length xs) cap := by simpa using e2
  unfold Instr.sliceAt
  simp only [run_bind, run_underlying (Tab.slice hT ht)]
  unfold Instr.slice
  have hbd := run_bounds (P := P) (w := w) (isS := true) (len := xs.length) (cap := cap) hl hh h0 h1 (by omega)
  simp only [run_bind, run_underlying (Tab.slice hT ht), hbd, run_sizeOf hc]
  rfl

/-- a piece of what is owned -/
theorem y_osub (hT : Tb.chk P = true) {x : Operand} {z v : Value} {e : TypeId} {t : T} {xs : List t.D} {tid : TypeId} {l h : Option Operand} {i j : Int} (hx : ev E x = some (.one (.raw z) v)) (hs : Sub L v e t xs) (hl : optInt E 0 l = some i) (hh : optInt E xs.length h = some j)
    (h0 : 0 ≤ i) (h1 : i ≤ j) (h2 : j ≤ xs.length) (ht : lk Tb.slices tid = some e) (hc : tyChk P t e = true) : Yields Same P F n E L (.slice tid x l h none) (.one (.raw (.slice none 0 0)) (subv t.size v i.toNat j.toNat)) := fun o ho M a w c => by
  have hv := (holds_raw.1 (ev_ok c hx)).1
  have hrep := hs F M w c.st
  refine ⟨_, holds_raw.2 ⟨rfl, ?_⟩, fun w' _ => ?_⟩
  · obtain ⟨ad, cap, e2, _⟩ := hrep
    obtain rfl : v = .slice ad (List.length xs) cap := by simpa using e2
    rfl
  · obtain ⟨dst, op, ty, pos, after, guard⟩ := o
    simp only at ho; subst ho
    exact run_val (by rw [hv]; exact run_piece hT hrep (optInt_ok c hl) (optInt_ok c hh) h0 h1 h2 ht hc w')

theorem y_lensub {R : World → World → Prop} (hT : Tb.chk P = true) {x : Operand} {z v : Value} {e : TypeId} {t : T} {xs : List t.D} {tid el : TypeId} (hx : ev E x = some (.one (.raw z) v)) (hs : Sub L v e t xs) (hl : lk Tb.slices tid = some el) :
    Yields R P F n E L (.call ⟨.builtin .len, #[x], #[tid]⟩) (.one (.int .i64) xs.length) := fun o ho M a w c => by
  have hv := (holds_raw.1 (ev_ok c hx)).1
  obtain ⟨ad, cap, e2, hm, hcap, h4⟩ := hs F M w c.st
  obtain rfl : v = .slice ad (List.length xs) cap := by simpa using e2
  refine ⟨.int .i64 xs.length, holds_int.2 ⟨rfl, by simp only [rng, lo, Sx.hi, most] at *; omega⟩, fun w' _ => ?_⟩
  obtain ⟨dst, op, ty, pos, after, guard⟩ := o
  simp only at ho; subst ho
  simp only [execOp, resolve, run_bind, run_pure, invoke, Go.builtin]
  have : #[x].map a.eval = #[a.eval x] := by simp
  rw [this, hv]
  simp only [Builtin.len_, List.getElem?_toArray, List.getElem?_cons_zero, run_bind, run_underlying (Tab.slice hT hl)]
  rfl

theorem run_text_rep {M : Mem} {v : Value} {e : TypeId} {ys : List Int} (h : Rep (.sl e (.int .u8)) M [v] ys) {w : World} (hM : ∀ k o, M k = some o → w.heap[k]? = some o) : byteOk ys ∧ ys.length ≤ most ∧ (Conv.bytesToString v).run P w = .ok (.string (bs ys)) w := by
  obtain ⟨ad, cap, e2, hm, hcap, h4⟩ := h
  obtain rfl : v = .slice ad (List.length ys) cap := by simpa using e2
  have empty : ∀ (a0 : Option Addr) (cap : Nat), (Conv.bytesToString (.slice a0 0 cap)).run P w = .ok (.string (bs [])) w := fun a0 cap => by
    cases a0 <;> simp [Conv.bytesToString, loadCells, loadCellsFrom, run_pure, run_bind] <;> rfl
  cases ad with
  | none =>
    simp only at h4
    have : ys = [] := List.eq_nil_of_length_eq_zero h4
    subst this
    exact ⟨fun c hc => by simp at hc, by simp [most], empty _ _⟩
  | some ad =>
    rcases h4 with h4 | ⟨e3, cc, el, fr, hmm, hs, hr⟩
    · have : ys = [] := List.eq_nil_of_length_eq_zero h4
      subst this
      exact ⟨fun c hc => by simp at hc, by simp [most], empty _ _⟩
    · obtain ⟨b, off, sp⟩ := ad
      simp only at e3; subst e3
      simp only [T.size, Nat.mul_one] at hmm hs hr
      obtain ⟨e1, hb⟩ := repL_u8 hr
      exact ⟨hb, hm, run_bytesToString (hM _ _ hmm) hs e1⟩

theorem y_textsub (hT : Tb.chk P = true) {sT dT elem : TypeId} {x : Operand} {z v : Value} {e : TypeId} {ys : List Int} (hx : ev E x = some (.one (.raw z) v)) (hsb : Sub L v e (.int .u8) ys) (hs : lk Tb.slices sT = some elem) (hd : lk Tb.strs dT = some ()) (he : lk Tb.ints elem = some .u8) :
    Yields Same P F n E L (.convert sT dT x) (.one .str ys) := fun o ho M a w c => by
  have hv := (holds_raw.1 (ev_ok c hx)).1
  have hrep := hsb F M w c.st
  have key := fun w' (hsm : Same w w') => run_text_rep (P := P) hrep (w := w') (fun k o e => by
    have hlt := heap_lt e
    rw [hsm k hlt]; exact e)
  have k0 := key w (Same.refl w)
  refine ⟨_, holds_str.2 ⟨rfl, k0.1, k0.2.1⟩, fun w' hsm => ?_⟩
  obtain ⟨dst, op, ty, pos, after, guard⟩ := o
  simp only at ho; subst ho
  refine run_val ?_
  rw [hv]
  have hk := (key w' hsm).2.2
  obtain ⟨ad, cap, e2, _⟩ := hrep
  obtain rfl : v = .slice ad (List.length ys) cap := by simpa using e2
  simp only [Go.convert, run_bind, run_underlying (Tab.slice hT hs), run_underlying (Tab.str hT hd)]
  cases ad <;> simp only [run_underlying (Tab.int hT he)] <;> exact hk

/-- what a call is lent -/
inductive LendAll (E : Env) (L : List Res) : List Operand → List TV → Prop
  | nil : LendAll E L [] []
  | val {x : Operand} {t : TV} {l : List Operand} {ts : List TV} (h : ev E x = some t) (r : LendAll E L l ts) : LendAll E L (x :: l) (t :: ts)
  | sub {x : Operand} {z v : Value} {e : TypeId} {t : T} {xs : List t.D} {l : List Operand} {ts : List TV} (h : ev E x = some (.one (.raw z) v)) (hs : Sub L v e t xs) (r : LendAll E L l ts) : LendAll E L (x :: l) (.one (.sl e t) xs :: ts)
theorem lendall_holds {a : Act} {w : World} {M : Mem} (c : Cfg F M n E L a w) : ∀ {xs : List Operand} {ts : List TV}, LendAll E L xs ts → HoldAll (heapOf w) ts (xs.map a.eval)
  | _, _, .nil => .nil
  | _, _, .val h r => .cons (TV.mono (fun k o e => c.st.mem k o e) (ev_ok c h)) (lendall_holds c r)
  | _, _, .sub h hs r => .cons ⟨_, by rw [(holds_raw.1 (ev_ok c h)).1]; rfl, hs _ _ _ c.st⟩ (lendall_holds c r)

/-- a call that reads, of what is there, what the call owns too, and hands back something new -/
theorem r_callwo {k : FuncId} {args : List TV} {res : Value → TV} {R : Value → List Res} (hc : Fn P k args [] res R) (hk : callable P k = true) (hf : ∀ v, (res v).flat = true) (hR : ∀ v, ∀ r ∈ R v, r.free) {xs : List Operand} {tys : Array TypeId} {d : Nat} {ty : TypeId} {pos : String} {after : Array Edge}
    (hx : LendAll E L xs args) (hd : Nat.ble (d + 1) n = true) (g : ∀ v, Go F n ((d, res v) :: E) (R v ++ L) (wpList P ops Q rest)) :
    Go F n E L (wpList P ops Q (⟨some d, .call ⟨.value (.func k), xs.toArray, tys⟩, ty, pos, after, none⟩ :: rest)) := fun M a w c => by
  unfold wpList
  rw [if_pos (by simp [Region.wanted])]
  left
  unfold Oper.wp
  rw [run_calln hk, Oper.upon_enter]
  obtain ⟨F', hb, hs, hmem, st', hos, htape, hout⟩ := c.st.lent'
  have := hc F' w (xs.map a.eval) (by rw [hb]; exact st') hs (by rw [hb]; exact lendall_holds c hx)
  refine this.mono ?_
  rintro e w' ⟨v, M', rfl, st2, hv⟩
  -- nothing that was there has turned
  have hsame : Same w w' := fun k hk => by
    have := st2.frame k w.heap[k] (by rw [hmem]; simp [heapOf, hk])
    rw [this]; simp [hk]
  obtain ⟨V, s, dj⟩ := c.st.sep
  obtain ⟨V2, s2, d2⟩ := st2.sep
  have s2' : Sep M w' (R v) V2 := by
    have : (Res.all (R v)).free := Res.free_all (hR v)
    exact this M' M V2 w' s2
  have s' : Sep M w' L V := Sep.loc (fun k hk => hsame k (s.has k hk)) s
  have hd12 : ∀ k, V2 k → ¬ V k := fun k h2 h1 => by
    have hlt := s.has k h1
    have := (d2 k h2).2
    rw [hmem] at this
    simp [heapOf, hlt] at this
  have st3 : St F M w' (R v ++ L) := {
    os := st2.os.trans hos, tape := st2.tape.trans htape, output := st2.output.trans hout
    size := Nat.le_trans c.st.size (by have := st2.size; rw [hs] at this; exact this)
    elder := c.st.elder, fresh := c.st.fresh
    frame := fun k o e => by rw [hsame k (c.st.flt e)]; exact c.st.frame k o e
    mem := fun k o e => by rw [hsame k (c.st.lt e)]; exact c.st.mem k o e
    sep := ⟨fun k => V2 k ∨ V k, Sep.append s2' s' hd12, fun k hk => by
      rcases hk with h | h
      · have := (d2 k h).2
        rw [hmem] at this
        have hge : w.heap.size ≤ k := by
          rcases Nat.lt_or_ge k w.heap.size with g | g
          · simp [heapOf, g] at this
          · exact g
        constructor
        · cases hm : M k with
          | none => rfl
          | some o => exact absurd (c.st.lt hm) (by omega)
        · cases hm : F.mem k with
          | none => rfl
          | some o => exact absurd (c.st.flt hm) (by omega)
      · exact dj k h⟩ }
  exact g v M _ _ (c.put (Mem.le.refl _) st3 (Nat.le_of_ble_eq_true hd) (TV.any (hf v) hv))
end
end Sx
