/-
  Own work. Loops over the files, and over the dirty sectors of one, in whatever order.
-/
import Derived.Test.YtpkjocjchkibaaaSxDops4
namespace Sx
open Go

/-! ### A fold in any order -/
def foldK {K σ : Type} (step : K → σ → Option σ) : List K → σ → Option σ
  | [], s => some s
  | k :: l, s => (step k s).bind (foldK step l)
theorem foldK_append {K σ : Type} (step : K → σ → Option σ) : ∀ (a b : List K) (s : σ), foldK step (a ++ b) s = (foldK step a s).bind (foldK step b)
  | [], _, _ => rfl
  | k :: a, b, s => by
    show (step k s).bind (foldK step (a ++ b)) = ((step k s).bind (foldK step a)).bind (foldK step b)
    cases step k s with
    | none => rfl
    | some s' => exact foldK_append step a b s'
def CommG {K σ : Type} (step : K → σ → Option σ) (G : σ → List K → Prop) : Prop :=
  (∀ s a l s', G s (a :: l) → step a s = some s' → G s' l) ∧ (∀ s l l', List.Perm l l' → G s l → G s l') ∧ ∀ s a b l, a ≠ b → G s (a :: b :: l) → (step a s).bind (step b) = (step b s).bind (step a)
theorem commG_of {K σ : Type} {step : K → σ → Option σ} (h : ∀ a b, a ≠ b → ∀ s, (step a s).bind (step b) = (step b s).bind (step a)) : CommG step (fun _ _ => True) :=
  ⟨fun _ _ _ _ _ _ => trivial, fun _ _ _ _ _ => trivial, fun s a b _ hn _ => h a b hn s⟩
theorem foldK_perm {K σ : Type} {step : K → σ → Option σ} {G : σ → List K → Prop} (hc : CommG step G) {a b : List K} (p : a.Perm b) : a.Nodup → ∀ s, G s a → foldK step a s = foldK step b s := by
  induction p with
  | nil => intro _ _ _; rfl
  | cons k p ih =>
    intro hn s hg
    show (step k s).bind _ = (step k s).bind _
    cases hs : step k s with
    | none => rfl
    | some s' => exact ih (List.nodup_cons.1 hn).2 s' (hc.1 s k _ s' hg hs)
  | swap x y l =>
    intro hn s hg
    show (step y s).bind (fun s => (step x s).bind (foldK step l)) = (step x s).bind (fun s => (step y s).bind (foldK step l))
    have hne : y ≠ x := fun e => by subst e; simp at hn
    have h1 : (step y s).bind (fun s => (step x s).bind (foldK step l)) = ((step y s).bind (step x)).bind (foldK step l) := by cases step y s <;> rfl
    have h2 : (step x s).bind (fun s => (step y s).bind (foldK step l)) = ((step x s).bind (step y)).bind (foldK step l) := by cases step x s <;> rfl
    rw [h1, h2, hc.2.2 s y x l hne hg]
  | trans p1 p2 ih1 ih2 =>
    intro hn s hg
    rw [ih1 hn s hg, ih2 (p1.nodup_iff.1 hn) s (hc.2.1 s _ _ p1 hg)]
theorem foldK_G {K σ : Type} {step : K → σ → Option σ} {G : σ → List K → Prop} (hc : CommG step G) {todo : List K} : ∀ (done : List K) (s s' : σ), G s (done ++ todo) → foldK step done s = some s' → G s' todo
  | [], s, s', hg, h => by cases h; exact hg
  | k :: done, s, s', hg, h => by
    have h' : (step k s).bind (foldK step done) = some s' := h
    cases hs : step k s with
    | none => rw [hs] at h'; cases h'
    | some s1 => rw [hs] at h'; exact foldK_G hc done s1 s' (hc.1 s k _ s1 hg hs) h'

section
variable {P : Program} {I : DI} {Tb : Tab} {F : Fr} {n : Nat} {E E' : Env} {L : List Res} {ops : Array Oper} {Q : Exit → Act → World → Prop} {rest : List Oper} {X : Act → World → Prop}

def BackR (F : Fr) (n : Nat) {K σ γ : Type} (step : K → σ → Option σ) (S : σ → γ → Env) (R : List K → σ → γ → List Res) (todo : List K) (s : σ) (a : Act) (w : World) : Prop :=
  ∃ A k B s' g', todo = A ++ k :: B ∧ step k s = some s' ∧ ∃ M, Cfg F M n (S s' g') (R (A ++ B) s' g') a w
theorem r_backR {K σ γ : Type} {step : K → σ → Option σ} {S : σ → γ → Env} {R : List K → σ → γ → List Res} {todo A B : List K} {k : K} {s s' : σ} (g' : γ) (ht : todo = A ++ k :: B) (hs : step k s = some s') (hE : E = S s' g') (hL : L = R (A ++ B) s' g') : Go F n E L (BackR F n step S R todo s) :=
  fun M a w c => ⟨A, k, B, s', g', ht, hs, M, by subst hE; subst hL; exact c⟩

theorem r_rangeloop {K σ γ : Type} {c1 : Code} {step : K → σ → Option σ} (Gd : σ → List K → Prop) (hc : CommG step Gd) {keys : List K} (hn : keys.Nodup) {s0 rr : σ} (hG : Gd s0 keys) (hall : foldK step keys s0 = some rr) (S : σ → γ → Env) (R : List K → σ → γ → List Res) (g0 : γ) (hE : E = S s0 g0) (hL : L = R keys s0 g0)
    (round : ∀ todo s g, (todo = [] → s = rr) → (∀ A k B, todo = A ++ k :: B → ∃ s', step k s = some s') → Go F n (S s g) (R todo s g) (c1.wp P (Exit.then (BackR F n step S R todo s) Q))) : Go F n E L ((Code.loop c1).wp P Q) := by
  intro M a w c
  refine wp_loop_fuel (fun m a w => ∃ todo s g M, todo.length = m ∧ (∃ done, (done ++ todo).Perm keys ∧ foldK step done s0 = some s) ∧ Cfg F M n (S s g) (R todo s g) a w) ?_ (m := keys.length) ⟨keys, s0, g0, M, rfl, ⟨[], by simp, rfl⟩, by subst hE; subst hL; exact c⟩
  rintro m a w ⟨todo, s, g, M', rfl, ⟨done, hp, hd⟩, c'⟩
  have hnd : (done ++ todo).Nodup := hp.nodup_iff.2 hn
  have hall' : foldK step (done ++ todo) s0 = some rr := (foldK_perm hc hp hnd s0 (hc.2.1 _ _ _ hp.symm hG)).trans hall
  have hGs : Gd s todo := foldK_G hc done s0 s (hc.2.1 _ _ _ hp.symm hG) hd
  have h1 : foldK step todo s = some rr := by rw [foldK_append, hd] at hall'; exact hall'
  have hone : ∀ A k B, todo = A ++ k :: B → ∃ s', step k s = some s' := fun A k B e => by
    have p : todo.Perm (k :: (A ++ B)) := by rw [e]; exact List.perm_middle
    have h2 : foldK step (k :: (A ++ B)) s = some rr := (foldK_perm hc p (List.nodup_append.1 hnd).2.1 s hGs).symm.trans h1
    have h3 : (step k s).bind (foldK step (A ++ B)) = some rr := h2
    cases hs : step k s with
    | none => rw [hs] at h3; cases h3
    | some s' => exact ⟨s', rfl⟩
  refine wp_mono (round todo s g (fun e => by subst e; exact Option.some.inj h1) hone M' a w c') ?_
  intro e a w q
  cases e <;> first | exact q | skip
  obtain ⟨A, k, B, s', g', ht, hs, M'', c''⟩ := q
  refine ⟨(A ++ B).length, ?_, A ++ B, s', g', M'', rfl, ⟨done ++ [k], ?_, ?_⟩, c''⟩
  · rw [ht]; simp
  · refine List.Perm.trans ?_ hp
    rw [ht, List.append_assoc]
    exact List.Perm.append_left done (by simpa using (List.perm_middle (a := k) (l₁ := A) (l₂ := B)).symm)
  · rw [foldK_append, hd]
    show (step k s).bind _ = _
    rw [hs]; rfl

end

/-! ### The files -/
section
variable (P : Program) (I : DI)
/-- the files while a loop runs over them -/
def Res.diter (mv it : Value) (fs : List (List Int × FileS)) (todo : List (List Int)) (cur kn : Option (List Int × Value)) : Res := Res.ex fun (es : List (List Int × Value × FileS)) =>
  Res.all [Res.fact (fs = pmap (fun y => y.2) es ∧ koks .str es ∧ (es.map (·.1)).Nodup ∧ (∀ p, cur = some p → pget .str p.1 (pmap (fun y => y.1) es) = some p.2) ∧ ∀ p, kn = some p → fptr es p.1 = p.2), Res.iter P I.str .str (.raw NV) mv it (pmap (fun y => y.1) es) todo cur, Res.files P I es]
/-- .. one of them being out -/
def Res.dihole (mv it : Value) (fs : List (List Int × FileS)) (todo : List (List Int)) (name : List Int) (q : Value) (kn : Option (List Int × Value)) : Res := Res.ex fun (es : List (List Int × Value × FileS)) =>
  Res.all [Res.fact (fs = pmap (fun y => y.2) es ∧ koks .str es ∧ (es.map (·.1)).Nodup ∧ pget .str name (pmap (fun y => y.1) es) = some q ∧ ∀ p, kn = some p → fptr es p.1 = p.2), Res.iter P I.str .str (.raw NV) mv it (pmap (fun y => y.1) es) todo (some (name, q)), Res.files P I (pdel .str name es)]
/-- the dirty sectors while a loop runs over them -/
def Res.kiter (v it : Value) (keys todo : List Int) (cur : Option Int) : Res := Res.ex fun (g : List (Int × Int) × Option (Int × Int)) =>
  Res.all [Res.fact (g.1.map (·.1) = keys ∧ g.2.map (·.1) = cur), Res.iter P I.int (.int .i64) (.int .i64) v it g.1 todo g.2]
end

section
variable {P : Program} {I : DI} {Tb : Tab} {F : Fr} {n : Nat} {E E' : Env} {L : List Res} {ops : Array Oper} {Q : Exit → Act → World → Prop} {rest : List Oper} {X : Act → World → Prop}

theorem diter_close {mv it : Value} {fs : List (List Int × FileS)} {todo : List (List Int)} {cur kn : Option (List Int × Value)} {es : List (List Int × Value × FileS)} (h : fs = pmap (fun y => y.2) es ∧ koks .str es ∧ (es.map (·.1)).Nodup ∧ (∀ p, cur = some p → pget .str p.1 (pmap (fun y => y.1) es) = some p.2) ∧ ∀ p, kn = some p → fptr es p.1 = p.2)
    (g : Go F n E (Res.diter P I mv it fs todo cur kn :: L) X) : Go F n E (Res.iter P I.str .str (.raw NV) mv it (pmap (fun y => y.1) es) todo cur :: Res.files P I es :: L) X := fun M a w c => by
  refine g M a w { c with st := c.st.sep_to fun V hs => ?_ }
  have hs' : Sep M w ([Res.iter P I.str .str (.raw NV) mv it (pmap (fun y => y.1) es) todo cur, Res.files P I es] ++ L) V := hs
  obtain ⟨A, B, sa, sb, d, e⟩ := Sep.split hs'
  exact ⟨A, B, ⟨es, sep_fact h sa⟩, sb, d, e⟩

theorem r_drange {m : Operand} {z mv : Value} {e mt : TypeId} {fs : List (List Int × FileS)} {d : Nat} {ty : TypeId} {pos : String} {after : Array Edge} (hk : ktChk P .str I.str = true) (hm : ev E m = some (.one (.raw z) mv)) (ht : P.underlying mt = some (.map I.str e)) (hd : Nat.ble (d + 1) n = true)
    (g : ∀ it, (fs.map (·.1)).Nodup → Go F n ((d, .one (.raw (.pointer none)) it) :: E) (Res.diter P I mv it fs (fs.map (·.1)) none none :: L) (wpList P ops Q rest)) : Go F n E (Res.dfiles P I mv fs :: L) (wpList P ops Q (⟨some d, .range mt m, ty, pos, after, none⟩ :: rest)) := by
  refine dfiles_open hk fun es h1 h2 h3 => ?_
  refine r_range (vt := .raw NV) 0 hm rfl hk ht hd fun it h4 h5 => ?_
  have e1 : (pmap (fun y : Value × FileS => y.1) es).map (·.1) = fs.map (·.1) := by rw [h1, pmap_keys, pmap_keys]
  refine diter_close (fs := fs) (cur := none) (kn := none) ⟨h1, h2, h3, (fun p hp => by cases hp), fun p hp => by cases hp⟩ ?_
  rw [e1]
  rw [e1] at h4
  exact g it h4

theorem r_drangeq {m : Operand} {z mv q0 : Value} {name : List Int} {e mt : TypeId} {fs : List (List Int × FileS)} {d : Nat} {ty : TypeId} {pos : String} {after : Array Edge} (hk : ktChk P .str I.str = true) (hm : ev E m = some (.one (.raw z) mv)) (ht : P.underlying mt = some (.map I.str e)) (hd : Nat.ble (d + 1) n = true)
    (g : ∀ it, (fs.map (·.1)).Nodup → Go F n ((d, .one (.raw (.pointer none)) it) :: E) (Res.diter P I mv it fs (fs.map (·.1)) none (some (name, q0)) :: L) (wpList P ops Q rest)) : Go F n E (Res.dat P I mv fs name q0 :: L) (wpList P ops Q (⟨some d, .range mt m, ty, pos, after, none⟩ :: rest)) := by
  refine dat_open hk fun es h1 h0 h2 h3 => ?_
  refine r_range (vt := .raw NV) 0 hm rfl hk ht hd fun it h4 h5 => ?_
  have e1 : (pmap (fun y : Value × FileS => y.1) es).map (·.1) = fs.map (·.1) := by rw [h1, pmap_keys, pmap_keys]
  refine diter_close (fs := fs) (cur := none) (kn := some (name, q0)) ⟨h1, h2, h3, (fun p hp => by cases hp), fun p hp => by cases hp; exact h0⟩ ?_
  rw [e1]
  rw [e1] at h4
  exact g it h4

theorem r_dnext {x : Operand} {z mv it : Value} {fs : List (List Int × FileS)} {todo : List (List Int)} {cur kn : Option (List Int × Value)} {d : Nat} {ty : TypeId} {pos : String} {after : Array Edge} (hk : ktChk P .str I.str = true) (hx : ev E x = some (.one (.raw z) it)) (hd : Nat.ble (d + 1) n = true)
    (hend : todo = [] → Go F n ((d, .tup [⟨.bool, false⟩]) :: E) (Res.diter P I mv it fs todo cur kn :: L) (wpList P ops Q rest))
    (hone : ∀ A k B q, todo = A ++ k :: B → (pget .str k fs).isSome = true → Go F n ((d, .tup [⟨.bool, true⟩, ⟨.str, k⟩, ⟨.raw NV, q⟩]) :: E) (Res.diter P I mv it fs (A ++ B) (some (k, q)) kn :: L) (wpList P ops Q rest)) :
    Go F n E (Res.diter P I mv it fs todo cur kn :: L) (wpList P ops Q (⟨some d, .next x false, ty, pos, after, none⟩ :: rest)) := by
  refine r_unex fun es => r_unall (r_unfact fun ⟨h1, h2, h3, h4, h6⟩ => ?_)
  refine r_next (vt := .raw NV) 0 hx rfl hk hd (fun h => diter_close ⟨h1, h2, h3, h4, h6⟩ (hend h)) fun k y A B ht hg hko => diter_close ⟨h1, h2, h3, (fun p hp => ?_), h6⟩ (hone A k B y ht ?_)
  · cases hp; exact hg
  · have := hg
    rw [pmap_get] at this
    rw [h1, pmap_get]
    cases hp : pget .str k es with
    | none => rw [hp] at this; cases this
    | some _ => rfl

theorem y_dentry {x : Operand} {z mv it : Value} {fs : List (List Int × FileS)} {todo : List (List Int)} {k : List Int} {q : Value} {kn : Option (List Int × Value)} (hx : ev E x = some (.one (.raw z) it)) (i : Nat) (hi : L[i]? = some (Res.diter P I mv it fs todo (some (k, q)) kn)) :
    Yields Same P F n E L (.entry x) (.tup [⟨.str, k⟩, ⟨.raw NV, q⟩]) := fun o ho M a w c => by
  obtain ⟨L', p⟩ := perm_at hi
  have c' : Cfg F M n E (Res.diter P I mv it fs todo (some (k, q)) kn :: L') a w := { c with st := c.st.perm p }
  have key : Go F n E (Res.diter P I mv it fs todo (some (k, q)) kn :: L') (fun a w => ∀ o : Oper, o.op = .entry x → ∃ (M : Mem) (v : Value), (TV.tup [⟨.str, k⟩, ⟨.raw NV, q⟩]).holds M v ∧ ∀ w', Same w w' → (execOp a.eval o).run P w' = .ok (.value v) w') := by
    refine r_unex fun es => r_unall (r_unfact fun _ => ?_)
    intro M a w c o ho
    obtain ⟨v, hv, hr⟩ := y_entry (vt := .raw NV) 0 hx rfl o ho M a w c
    exact ⟨M, v, hv, hr⟩
  obtain ⟨M2, v, hv, hr⟩ := key M a w c' o ho
  exact ⟨v, TV.any rfl hv, hr⟩

/-- the file that came is taken out -/
theorem r_difocus {kn : Option (List Int × Value)} {mv it q : Value} {fs : List (List Int × FileS)} {todo : List (List Int)} {name : List Int} {f : FileS} (hf : pget .str name fs = some f)
    (g : ∀ fb sv tv dv, q = .pointer (some ⟨fb, 0, none⟩) → Go F n E (Res.var fb I.file FT (sv, tv, dv, ()) :: Res.own sv I.byte (.int .u8) f.1 :: Res.own tv I.byte (.int .u8) f.2.1 :: Res.dirty P I dv f.2.2 :: Res.dihole P I mv it fs todo name q kn :: L) X) :
    Go F n E (Res.diter P I mv it fs todo (some (name, q)) kn :: L) X := by
  refine r_unex fun es => r_unall (r_unfact fun ⟨h1, h2, h3, h4, h6⟩ => ?_)
  have hq := h4 _ rfl
  have hg : pget .str name es = some (q, f) := by
    rw [h1, pmap_get] at hf
    rw [pmap_get] at hq
    cases hp : pget .str name es with
    | none => rw [hp] at hf; cases hf
    | some y =>
      rw [hp] at hf hq
      simp only [Option.map_some, Option.some.injEq] at hf hq
      rw [← hf, ← hq]
  refine r_swap (r_focus h2 h3 hg ?_)
  refine r_unex fun ⟨fb, sv, tv, dv⟩ => r_unall (r_unfact fun h5 => ?_)
  have := g fb sv tv dv h5
  intro M a w c
  refine this M a w { c with st := c.st.sep_to fun V hs => ?_ }
  have key : ∀ {A : List Res} {V : Nat → Prop}, Sep M w (A ++ Res.files P I (pdel .str name es) :: Res.iter P I.str .str (.raw NV) mv it (pmap (fun y => y.1) es) todo (some (name, q)) :: L) V → Sep M w (A ++ Res.dihole P I mv it fs todo name q kn :: L) V := by
    intro A
    induction A with
    | nil =>
      rintro V ⟨S, V', r, ⟨S2, V2, r2, s2, d2, e2⟩, d, e⟩
      refine ⟨fun k => S2 k ∨ S k, V2, ⟨es, sep_fact ⟨h1, h2, h3, hq, h6⟩ ⟨S2, S, r2, sep_one r, fun k h2 h1 => d k h1 ((e2 k).2 (.inl h2)), fun _ => Iff.rfl⟩⟩, s2, ?_, ?_⟩
      · rintro k (h | h)
        · exact d2 k h
        · exact fun hv => d k h ((e2 k).2 (.inr hv))
      · intro k; rw [e k, e2 k, or_left_comm]; exact or_assoc.symm
    | cons R A ih => rintro V ⟨S, V', r, s, d, e⟩; exact ⟨S, V', r, ih s, d, e⟩
  exact key (A := [_, _, _, _]) hs

/-- .. and put back -/
theorem r_diunfocusG {kn : Option (List Int × Value)} {mv it : Value} {fs fs' : List (List Int × FileS)} {todo : List (List Int)} {name : List Int} {f1 f2 f3 : List Int} {fb : Nat} {sv tv dv : Value}
    (hfs : koks .str fs → (fs.map (·.1)).Nodup → pset .str name (f1, f2, f3) fs = fs')
    (g : Go F n E (Res.diter P I mv it fs' todo (some (name, .pointer (some ⟨fb, 0, none⟩))) kn :: L) X) :
    Go F n E (Res.var fb I.file FT (sv, tv, dv, ()) :: Res.own sv I.byte (.int .u8) f1 :: Res.own tv I.byte (.int .u8) f2 :: Res.dirty P I dv f3 :: Res.dihole P I mv it fs todo name (.pointer (some ⟨fb, 0, none⟩)) kn :: L) X := by
  refine r_perm (L' := Res.dihole P I mv it fs todo name (.pointer (some ⟨fb, 0, none⟩)) kn :: Res.var fb I.file FT (sv, tv, dv, ()) :: Res.own sv I.byte (.int .u8) f1 :: Res.own tv I.byte (.int .u8) f2 :: Res.dirty P I dv f3 :: L) (List.perm_middle (l₁ := [_, _, _, _]) (l₂ := L)) ?_
  refine r_unex fun es => r_unall (r_unfact fun ⟨h1, h3, h4, hq, h6⟩ => ?_)
  have h5 : (pget .str name es).isSome := by
    rw [pmap_get] at hq
    cases hp : pget .str name es with
    | none => rw [hp] at hq; cases hq
    | some _ => rfl
  obtain ⟨⟨p, f⟩, hp⟩ := Option.isSome_iff_exists.1 h5
  obtain ⟨A, B, e1, e2⟩ := pget_split h3 h4 hp
  have hpq : p = .pointer (some ⟨fb, 0, none⟩) := by
    rw [pmap_get, hp] at hq
    simpa using hq
  have e3 := pset_split (v := ((.pointer (some ⟨fb, 0, none⟩) : Value), ((f1, f2, f3) : FileS))) h3 h4 e1
  have hsame : pmap (fun y : Value × FileS => y.1) (pset .str name (.pointer (some ⟨fb, 0, none⟩), (f1, f2, f3)) es) = pmap (fun y => y.1) es := by
    rw [e3, e1, hpq]; simp [pmap]
  have hkeys : (pset .str name ((.pointer (some ⟨fb, 0, none⟩) : Value), ((f1, f2, f3) : FileS)) es).map (·.1) = es.map (·.1) := by rw [e3, e1]; simp
  intro M a w c
  refine g M a w { c with st := c.st.sep_to fun V hs => ?_ }
  have hs' : Sep M w ([Res.iter P I.str .str (.raw NV) mv it (pmap (fun y => y.1) es) todo (some (name, .pointer (some ⟨fb, 0, none⟩))), Res.files P I (pdel .str name es), Res.var fb I.file FT (sv, tv, dv, ()), Res.own sv I.byte (.int .u8) f1, Res.own tv I.byte (.int .u8) f2, Res.dirty P I dv f3] ++ L) V := hs
  obtain ⟨SA, SB, sa, sb, sd, se⟩ := Sep.split hs'
  have k1 : fs' = pmap (fun y => y.2) (pset .str name ((.pointer (some ⟨fb, 0, none⟩) : Value), ((f1, f2, f3) : FileS)) es) := by
    rw [pmap_set, ← h1]
    refine (hfs ?_ ?_).symm
    · rw [h1]; exact pmap_koks.2 h3
    · rw [h1, pmap_keys]; exact h4
  have k2 : koks .str (pset .str name ((.pointer (some ⟨fb, 0, none⟩) : Value), ((f1, f2, f3) : FileS)) es) := by
    intro p' hp'
    rw [e3] at hp'
    rcases List.mem_append.1 hp' with h | h
    · exact h3 p' (by rw [e1]; simp [h])
    · rcases List.mem_cons.1 h with rfl | h
      · exact h3 (name, p, f) (by rw [e1]; simp)
      · exact h3 p' (by rw [e1]; simp [h])
  have k3 : ((pset .str name ((.pointer (some ⟨fb, 0, none⟩) : Value), ((f1, f2, f3) : FileS)) es).map (·.1)).Nodup := by rw [hkeys]; exact h4
  have k5 : Sep M w [Res.iter P I.str .str (.raw NV) mv it (pmap (fun y : Value × FileS => y.1) (pset .str name ((.pointer (some ⟨fb, 0, none⟩) : Value), ((f1, f2, f3) : FileS)) es)) todo (some (name, .pointer (some ⟨fb, 0, none⟩))), Res.files P I (pset .str name ((.pointer (some ⟨fb, 0, none⟩) : Value), ((f1, f2, f3) : FileS)) es)] SA := by
    obtain ⟨S1, V1, r1, s1, d1, e4⟩ := sa
    have s1' : Sep M w ([Res.files P I (pdel .str name es)] ++ [Res.var fb I.file FT (sv, tv, dv, ()), Res.own sv I.byte (.int .u8) f1, Res.own tv I.byte (.int .u8) f2, Res.dirty P I dv f3]) V1 := s1
    obtain ⟨SC, SD, sc, sdd, dd, ee⟩ := Sep.split s1'
    refine ⟨S1, V1, by rw [hsame]; exact r1, sep_one (files_of (name := name) (q := .pointer (some ⟨fb, 0, none⟩)) (f := (f1, f2, f3)) (es := es) ?_ ?_), d1, e4⟩
    · rw [e3, e2]; exact List.perm_middle
    · exact Sep.eqv (fun k => (ee k).symm) (Sep.append sc (sep_one (file_of sdd)) dd)
  have k4 : ∀ p', some (name, (.pointer (some ⟨fb, 0, none⟩) : Value)) = some p' → pget .str p'.1 (pmap (fun y : Value × FileS => y.1) (pset .str name ((.pointer (some ⟨fb, 0, none⟩) : Value), ((f1, f2, f3) : FileS)) es)) = some p'.2 := by
    rintro p' hp'
    rw [hsame]
    cases hp'
    exact hq
  exact ⟨SA, SB, ⟨_, sep_fact ⟨k1, k2, k3, k4, fun p hp => by rw [← h6 p hp]; unfold fptr; rw [hsame]⟩ k5⟩, sb, sd, se⟩
theorem r_diunfocus {kn : Option (List Int × Value)} {mv it : Value} {fs : List (List Int × FileS)} {todo : List (List Int)} {name : List Int} {f1 f2 f3 : List Int} {fb : Nat} {sv tv dv : Value}
    (g : Go F n E (Res.diter P I mv it (pset .str name (f1, f2, f3) fs) todo (some (name, .pointer (some ⟨fb, 0, none⟩))) kn :: L) X) :
    Go F n E (Res.var fb I.file FT (sv, tv, dv, ()) :: Res.own sv I.byte (.int .u8) f1 :: Res.own tv I.byte (.int .u8) f2 :: Res.dirty P I dv f3 :: Res.dihole P I mv it fs todo name (.pointer (some ⟨fb, 0, none⟩)) kn :: L) X :=
  r_diunfocusG (fun _ _ => rfl) g
theorem r_diunfocus_same {kn : Option (List Int × Value)} {mv it : Value} {fs : List (List Int × FileS)} {todo : List (List Int)} {name : List Int} {f : FileS} {fb : Nat} {sv tv dv : Value} (hf : pget .str name fs = some f)
    (g : Go F n E (Res.diter P I mv it fs todo (some (name, .pointer (some ⟨fb, 0, none⟩))) kn :: L) X) :
    Go F n E (Res.var fb I.file FT (sv, tv, dv, ()) :: Res.own sv I.byte (.int .u8) f.1 :: Res.own tv I.byte (.int .u8) f.2.1 :: Res.dirty P I dv f.2.2 :: Res.dihole P I mv it fs todo name (.pointer (some ⟨fb, 0, none⟩)) kn :: L) X :=
  r_diunfocusG (fun ho hn => pset_same ho hn hf) g

/-- the loop is behind us -/
theorem r_dunrange {mv it : Value} {fs : List (List Int × FileS)} {todo : List (List Int)} {cur : Option (List Int × Value)} (g : Go F n E (Res.dfiles P I mv fs :: L) X) : Go F n E (Res.diter P I mv it fs todo cur none :: L) X := by
  refine r_unex fun es => r_unall (r_unfact fun ⟨h1, h2, h3, h4, h6⟩ => ?_)
  exact r_unrange 0 rfl (dfiles_close h1 g)
theorem r_dunrangeq {mv it q0 : Value} {name : List Int} {fs : List (List Int × FileS)} {todo : List (List Int)} {cur : Option (List Int × Value)} (g : Go F n E (Res.dat P I mv fs name q0 :: L) X) : Go F n E (Res.diter P I mv it fs todo cur (some (name, q0)) :: L) X := by
  refine r_unex fun es => r_unall (r_unfact fun ⟨h1, h2, h3, h4, h6⟩ => ?_)
  exact r_unrange 0 rfl (dat_close h1 (h6 _ rfl) g)
/-- some name is known -/
theorem r_somedat {mv : Value} {fs : List (List Int × FileS)} (g : ∀ q, Go F n E (Res.dat P I mv fs [] q :: L) X) : Go F n E (Res.dfiles P I mv fs :: L) X := by
  refine r_unex fun es => r_unall (r_unfact fun h1 => ?_)
  intro M a w c
  refine g (fptr es []) M a w { c with st := c.st.sep_to fun V hs => ?_ }
  have hs' : Sep M w ([Res.dmap P I mv es, Res.files P I es] ++ L) V := hs
  obtain ⟨A, B, sa, sb, d, e⟩ := Sep.split hs'
  exact ⟨A, B, ⟨es, sep_fact ⟨h1, rfl⟩ sa⟩, sb, d, e⟩

/-! ### dirty sectors -/
theorem kiter_close {v it : Value} {keys todo : List Int} {cur : Option Int} {l : List (Int × Int)} {c0 : Option (Int × Int)} (h : l.map (·.1) = keys ∧ c0.map (·.1) = cur) (g : Go F n E (Res.kiter P I v it keys todo cur :: L) X) : Go F n E (Res.iter P I.int (.int .i64) (.int .i64) v it l todo c0 :: L) X := fun M a w c => by
  refine g M a w { c with st := c.st.sep_to fun V hs => ?_ }
  have hs' : Sep M w ([Res.iter P I.int (.int .i64) (.int .i64) v it l todo c0] ++ L) V := hs
  obtain ⟨A, B, sa, sb, d, e⟩ := Sep.split hs'
  exact ⟨A, B, ⟨(l, c0), sep_fact h sa⟩, sb, d, e⟩
theorem r_krange {m : Operand} {z v : Value} {e mt : TypeId} {keys : List Int} {d : Nat} {ty : TypeId} {pos : String} {after : Array Edge} (hk : ktChk P (.int .i64) I.int = true) (hm : ev E m = some (.one (.raw z) v)) (ht : P.underlying mt = some (.map I.int e)) (hd : Nat.ble (d + 1) n = true)
    (g : ∀ it, keys.Nodup → Go F n ((d, .one (.raw (.pointer none)) it) :: E) (Res.kiter P I v it keys keys none :: L) (wpList P ops Q rest)) : Go F n E (Res.dirty P I v keys :: L) (wpList P ops Q (⟨some d, .range mt m, ty, pos, after, none⟩ :: rest)) := by
  refine r_unex fun l => r_unall (r_unfact fun h1 => ?_)
  refine r_range (vt := .int .i64) 0 hm rfl hk ht hd fun it h4 h5 => ?_
  subst h1
  exact kiter_close (c0 := none) ⟨rfl, rfl⟩ (g it h4)
theorem r_knext {x : Operand} {z v it : Value} {keys todo : List Int} {cur : Option Int} {d : Nat} {ty : TypeId} {pos : String} {after : Array Edge} (hk : ktChk P (.int .i64) I.int = true) (hx : ev E x = some (.one (.raw z) it)) (hd : Nat.ble (d + 1) n = true)
    (hend : todo = [] → Go F n ((d, .tup [⟨.bool, false⟩]) :: E) (Res.kiter P I v it keys todo cur :: L) (wpList P ops Q rest))
    (hone : ∀ A k B c, todo = A ++ k :: B → k ∈ keys → Go F n ((d, .tup [⟨.bool, true⟩, ⟨.int .i64, k⟩, ⟨.int .i64, c⟩]) :: E) (Res.kiter P I v it keys (A ++ B) (some k) :: L) (wpList P ops Q rest)) :
    Go F n E (Res.kiter P I v it keys todo cur :: L) (wpList P ops Q (⟨some d, .next x false, ty, pos, after, none⟩ :: rest)) := by
  refine r_unex fun ⟨l, c0⟩ => r_unall (r_unfact fun ⟨h1, h2⟩ => ?_)
  refine r_next (vt := .int .i64) 0 hx rfl hk hd (fun h => kiter_close ⟨h1, h2⟩ (hend h)) fun k y A B ht hg hko => kiter_close ⟨h1, rfl⟩ (hone A k B y ht ?_)
  have : (pget (.int .i64) k l).isSome = true := by rw [hg]; rfl
  rw [pget_isSome] at this
  obtain ⟨p, hp, hkp⟩ := List.any_eq_true.1 this
  rw [← h1]
  have : p.1 = k := by
    have := hkp
    simpa [keq] using this
  rw [← this]
  exact List.mem_map.2 ⟨p, hp, rfl⟩
theorem y_kentry {d0 : Nat} {x : Operand} {z v it : Value} {keys todo : List Int} {k : Int} (hx : ev E x = some (.one (.raw z) it)) (i : Nat) (hi : L[i]? = some (Res.kiter P I v it keys todo (some k))) (hd : Nat.ble (d0 + 1) n = true) {ty : TypeId} {pos : String} {after : Array Edge}
    (g : ∀ c, Go F n ((d0, .tup [⟨.int .i64, k⟩, ⟨.int .i64, c⟩]) :: E) L (wpList P ops Q rest)) : Go F n E L (wpList P ops Q (⟨some d0, .entry x, ty, pos, after, none⟩ :: rest)) := fun M a w c => by
  obtain ⟨L', p⟩ := perm_at hi
  refine r_perm p ?_ M a w c
  refine r_unex fun ⟨l, c0⟩ => r_unall (r_unfact fun ⟨h1, h2⟩ => ?_)
  cases c0 with
  | none => cases h2
  | some p0 =>
    obtain ⟨k0, cc⟩ := p0
    have : k0 = k := by simpa using h2
    subst this
    exact y (y_entry (vt := .int .i64) 0 hx rfl) hd (kiter_close ⟨h1, rfl⟩ (r_perm p.symm (g cc)))
theorem diter_none {mv it : Value} {fs : List (List Int × FileS)} {todo : List (List Int)} {cur kn : Option (List Int × Value)} : ∀ M S w, (Res.diter P I mv it fs todo cur kn).sat M S w → (Res.diter P I mv it fs todo none kn).sat M S w := fun M S w ⟨es, A, B, ⟨⟨h1, h2, h3, _, h6⟩, hA⟩, ⟨C, D, ⟨b, r, lv, left, cnt, g1, g2, g3, g4, g5, g6, g7, g8, g9, _⟩, hD, d2, e2⟩, d, e⟩ =>
  ⟨es, A, B, ⟨⟨h1, h2, h3, (fun p hp => by cases hp), h6⟩, hA⟩, ⟨C, D, ⟨b, r, lv, left, cnt, g1, g2, g3, g4, g5, g6, g7, g8, g9, fun p hp => by cases hp⟩, hD, d2, e2⟩, d, e⟩
theorem kiter_none {v it : Value} {keys todo : List Int} {cur : Option Int} : ∀ M S w, (Res.kiter P I v it keys todo cur).sat M S w → (Res.kiter P I v it keys todo none).sat M S w := fun M S w ⟨(l, c0), A, B, ⟨⟨h1, _⟩, hA⟩, ⟨C, D, ⟨b, r, lv, left, cnt, g1, g2, g3, g4, g5, g6, g7, g8, g9, _⟩, hD, d2, e2⟩, d, e⟩ =>
  ⟨(l, none), A, B, ⟨⟨h1, rfl⟩, hA⟩, ⟨C, D, ⟨b, r, lv, left, cnt, g1, g2, g3, g4, g5, g6, g7, g8, g9, fun p hp => by cases hp⟩, hD, d2, e2⟩, d, e⟩
theorem r_kunrange {v it : Value} {keys todo : List Int} {cur : Option Int} (g : Go F n E (Res.dirty P I v keys :: L) X) : Go F n E (Res.kiter P I v it keys todo cur :: L) X := by
  refine r_unex fun ⟨l, c0⟩ => r_unall (r_unfact fun ⟨h1, h2⟩ => ?_)
  refine r_unrange 0 rfl ?_
  intro M a w c
  exact r_redirty (P := P) (I := I) (keys := keys) 0 rfl h1 g M a w c

/-! ### one file, told by its pointer -/
theorem r_unfile {q : Value} {f : FileS} (g : ∀ fb sv tv dv, q = .pointer (some ⟨fb, 0, none⟩) → Go F n E (Res.var fb I.file FT (sv, tv, dv, ()) :: Res.own sv I.byte (.int .u8) f.1 :: Res.own tv I.byte (.int .u8) f.2.1 :: Res.dirty P I dv f.2.2 :: L) X) : Go F n E (Res.file P I q f :: L) X :=
  r_unex fun ⟨fb, sv, tv, dv⟩ => r_unall (r_unfact fun h => g fb sv tv dv h)
theorem r_unfileb {b0 : Nat} {f : FileS} (g : ∀ sv tv dv, Go F n E (Res.var b0 I.file FT (sv, tv, dv, ()) :: Res.own sv I.byte (.int .u8) f.1 :: Res.own tv I.byte (.int .u8) f.2.1 :: Res.dirty P I dv f.2.2 :: L) X) : Go F n E (Res.file P I (.pointer (some ⟨b0, 0, none⟩)) f :: L) X :=
  r_unfile fun b sv tv dv h => by
    have : b0 = b := by simpa using h
    subst this; exact g sv tv dv
theorem r_file {fb : Nat} {sv tv dv : Value} {f1 f2 f3 : List Int} (g : Go F n E (Res.file P I (.pointer (some ⟨fb, 0, none⟩)) (f1, f2, f3) :: L) X) : Go F n E (Res.var fb I.file FT (sv, tv, dv, ()) :: Res.own sv I.byte (.int .u8) f1 :: Res.own tv I.byte (.int .u8) f2 :: Res.dirty P I dv f3 :: L) X :=
  r_fold (A := [_, _, _, _]) (fun _ _ _ h => file_of h) g
end

/-! ### a call whose arguments may be nil slices written out -/
inductive Args (E : Env) : List Operand → List TV → Prop
  | nil : Args E [] []
  | val {x : Operand} {t : TV} {l : List Operand} {ts : List TV} (h : ev E x = some t) (r : Args E l ts) : Args E (x :: l) (t :: ts)
  | nilsl {e : TypeId} {t : T} {l : List Operand} {ts : List TV} (r : Args E l ts) : Args E (.const (.slice none 0 0) :: l) (.one (.sl e t) [] :: ts)
section
variable {P : Program} {F : Fr} {n : Nat} {E : Env} {L : List Res} {ops : Array Oper} {Q : Exit → Act → World → Prop} {rest : List Oper}
theorem args_ok {M : Mem} {a : Act} {w : World} (c : Cfg F M n E L a w) : ∀ {xs : List Operand} {l : List TV}, Args E xs l → HoldAll M l (xs.map a.eval)
  | _, _, .nil => .nil
  | _, _, .val h r => .cons (ev_ok c h) (args_ok c r)
  | _, _, .nilsl r => .cons ⟨_, rfl, rep_slice_nil⟩ (args_ok c r)
theorem r_calla {k : FuncId} {args : List TV} {Lc Lo : List Res} {res : Value → TV} {L' : Value → List Res} (hc : Fn P k args Lc res L') (hk : callable P k = true) (hp : L.Perm (Lc ++ Lo)) {xs : List Operand} {tys : Array TypeId} {d : Nat} {ty : TypeId} {pos : String} {after : Array Edge}
    (hx : Args E xs args) (hd : Nat.ble (d + 1) n = true) (g : ∀ v, Go F n ((d, res v) :: E) (L' v ++ Lo) (wpList P ops Q rest)) :
    Go F n E L (wpList P ops Q (⟨some d, .call ⟨.value (.func k), xs.toArray, tys⟩, ty, pos, after, none⟩ :: rest)) := fun M a w c => by
  unfold wpList
  rw [if_pos (by simp [Region.wanted])]
  left
  unfold Oper.wp
  have hrun : (execOp a.eval ⟨some d, .call ⟨.value (.func k), xs.toArray, tys⟩, ty, pos, after, none⟩).run P w = .ok (.enter k (xs.map a.eval).toArray) w := by
    simp only [execOp, resolve, run_bind, run_pure, Act.eval, Deferred.ofValue, invoke]
    rw [run_callFunc hk]
    simp
  rw [hrun, Oper.upon_enter]
  have st := c.st.perm hp
  obtain ⟨F', hb, hs, st', hback⟩ := st.part
  have := hc F' w (xs.map a.eval) (by rw [hb]; exact st') hs (by rw [hb]; exact args_ok c hx)
  refine this.mono ?_
  rintro e w' ⟨v, M', rfl, st2, hv⟩
  obtain ⟨hle, st3⟩ := hback _ _ _ st2
  exact g v M' _ _ (c.put hle st3 (Nat.le_of_ble_eq_true hd) hv)
end

section
variable {P : Program} {I : DI} {F : Fr} {n : Nat} {E : Env} {L : List Res} {X : Act → World → Prop}
theorem r_nodisk {D : DiskS} {e : Int} (he : e ≠ 0) (g : Go F n E (Res.diskif P I NV D e :: L) X) : Go F n E L X := by
  have : Res.diskif P I NV D e = Res.fact (NV = NV) := by unfold Res.diskif; rw [if_neg he]
  rw [this] at g
  exact r_fact rfl g
theorem run_pnil {w : World} {tid e : TypeId} {a : Option Addr} (hu : P.underlying tid = some (.pointer e)) : (Op.equal tid (.pointer a) (.pointer none)).run P w = .ok a.isNone w := by
  show (Op.equalIn (9999 + 1) tid _ _).run P w = _
  rw [Op.equalIn, run_bind, run_underlying hu]
  cases a <;> rfl
/-- a pointer held against nil -/
theorem y_pnil {R : World → World → Prop} {x : Operand} {z v : Value} {tid w0 e : TypeId} {a : Option Addr} (hx : ev E x = some (.one (.raw z) v)) (hv : v = .pointer a) (hu : P.underlying tid = some (.pointer e)) : Yields R P F n E L (.binOp .eql tid x (.const (.pointer none)) w0) (.one .bool a.isNone) := fun o ho M a' w c => by
  have h1 := (holds_raw.1 (ev_ok c hx)).1
  refine ⟨_, holds_bool.2 rfl, fun w' _ => ?_⟩
  obtain ⟨dst, op', ty, pos, after, guard⟩ := o
  simp only at ho; subst ho
  refine run_val ?_
  have hg : (eqGuard .eql tid x (.const (.pointer none)) (a'.eval x) (.pointer none)).run P w' = .ok () w' := by rw [h1, hv]; unfold eqGuard; rfl
  have hq : (Op.equal tid (a'.eval x) (.pointer none)).run P w' = .ok a.isNone w' := by rw [h1, hv]; exact run_pnil hu
  show ((do eqGuard .eql tid x (.const (.pointer none)) (a'.eval x) (.pointer none); binOp .eql tid (a'.eval x) (.pointer none)) : Sem Value).run P w' = _
  rw [run_bind, hg]
  show (binOp .eql tid (a'.eval x) (.pointer none)).run P w' = _
  rw [h1, hv] at hq ⊢
  simp only [binOp, run_bind, hq]; rfl
theorem y_dnil {x : Operand} {z p : Value} {tid w0 e : TypeId} {D : DiskS} {f : Int} (i : Nat) (hx : ev E x = some (.one (.raw z) p)) (hi : L[i]? = some (Res.diskif P I p D f)) (hu : P.underlying tid = some (.pointer e)) : Yields Same P F n E L (.binOp .eql tid x (.const (.pointer none)) w0) (.one .bool (f != 0)) := fun o ho M a' w c => by
  obtain ⟨S, hs⟩ := c.st.res hi
  have : ∃ a, p = .pointer a ∧ a.isNone = (f != 0) := by
    by_cases hf : f = 0
    · unfold Res.diskif at hs
      rw [if_pos hf] at hs
      obtain ⟨g, A, B, ⟨h1, _⟩, _⟩ := hs
      exact ⟨_, h1, by simp [hf]⟩
    · unfold Res.diskif at hs
      rw [if_neg hf] at hs
      exact ⟨none, hs.1, by simp [hf]⟩
  obtain ⟨a, h1, h2⟩ := this
  have := y_pnil (R := Same) (P := P) (F := F) (n := n) (E := E) (L := L) (w0 := w0) hx h1 hu o ho M a' w c
  rwa [h2] at this
theorem y_dnot {x : Operand} {z p : Value} {tid w0 e : TypeId} {D : DiskS} (i : Nat) (hx : ev E x = some (.one (.raw z) p)) (hi : L[i]? = some (Res.disk P I p D)) (hu : P.underlying tid = some (.pointer e)) : Yields Same P F n E L (.binOp .eql tid x (.const (.pointer none)) w0) (.one .bool false) := fun o ho M a' w c => by
  obtain ⟨S, g, A, B, ⟨h1, _⟩, _⟩ := c.st.res hi
  exact y_pnil (R := Same) (P := P) (F := F) (n := n) (E := E) (L := L) (w0 := w0) hx h1 hu o ho M a' w c
theorem r_isdisk {p : Value} {D : DiskS} (g : Go F n E (Res.diskif P I p D 0 :: L) X) : Go F n E (Res.disk P I p D :: L) X := g
theorem r_nofiles {v : Value} (g : Go F n E (Res.dfiles P I v [] :: L) X) : Go F n E (Res.map P I.str .str (.raw NV) v [] :: L) X := fun M a w c =>
  dfiles_close (P := P) (I := I) (es := []) rfl g M a w { c with st := c.st.sep_to fun V ⟨S, V', r, s, d, e⟩ => ⟨S, V', r, ⟨fun _ => False, V', fun _ h => h, s, fun _ h => h.elim, fun k => ⟨.inr, fun h => h.elim False.elim id⟩⟩, d, e⟩ }
theorem diskif_free {p : Value} {D : DiskS} {e : Int} : (Res.diskif P I p D e).free := by
  unfold Res.diskif
  split
  · exact disk_free
  · exact Res.free_fact
end
end Sx
