/-
  Own work, of several texts. Loops over the files, and over the dirty sectors of one, in whatever order.
  What the disk tells: its names, the dirty sectors; the sectors behind a cut.
  maps.DeleteFunc with the disk's closure, as the kit's shelf has it, in this library's form.
  slices.Sort of strings and of ints, as the kit's shelf has it, in this library's form.
  slices.Sorted(maps.Keys(m)) at keys that are ints, as the kit's shelf has it, in this library's form.
  The order of names, and rows of entries that rise by it.
  Regions that draw their order and write: what is loaded from variables that nobody writes meanwhile is taken first (the kit's 'wpAnyH'); maps.Clone.
  Things behind a pointer as one resource: a struct, and the slices that it alone holds.
-/
import Derived.Test.YtammhjkpdepohaaGreatLib2
import Derived.Shelf.SlMaps.DeleteFunc
import Derived.Shelf.SortG.Plain
import Derived.Shelf.SortG.SortNone
import Derived.Lib.SlKeysI
import Derived.Shelf.SlIterI.Nil
import Derived.Maps.Ext
import Derived.OrdersHeld
import Derived.Shelf.SlMaps.Clone
namespace Sx
open Go

/-! ### A fold in any order -/
def foldK {K σ : Type} (step : K → σ → Option σ) : List K → σ → Option σ
  | [], s => some s
  | k :: l, s => (step k s).bind (foldK step l)
theorem foldK_append {K σ : Type} (step : K → σ → Option σ) : ∀ (a b : List K) (s : σ), foldK step (a ++ b) s = (foldK step a s).bind (foldK step b)
  | [], _, _ => rfl
  | k :: a, b, s => by
    show (step k s).bind (foldK step (a ++ b)) = ((step k s).bind (foldK step a)).bind (foldK step b)
    cases step k s with
    | none => rfl
    | some s' => exact foldK_append step a b s'
def CommG {K σ : Type} (step : K → σ → Option σ) (G : σ → List K → Prop) : Prop :=
  (∀ s a l s', G s (a :: l) → step a s = some s' → G s' l) ∧ (∀ s l l', List.Perm l l' → G s l → G s l') ∧ ∀ s a b l, a ≠ b → G s (a :: b :: l) → (step a s).bind (step b) = (step b s).bind (step a)
theorem commG_of {K σ : Type} {step : K → σ → Option σ} (h : ∀ a b, a ≠ b → ∀ s, (step a s).bind (step b) = (step b s).bind (step a)) : CommG step (fun _ _ => True) :=
  ⟨fun _ _ _ _ _ _ => trivial, fun _ _ _ _ _ => trivial, fun s a b _ hn _ => h a b hn s⟩
theorem foldK_perm {K σ : Type} {step : K → σ → Option σ} {G : σ → List K → Prop} (hc : CommG step G) {a b : List K} (p : a.Perm b) : a.Nodup → ∀ s, G s a → foldK step a s = foldK step b s := by
  induction p with
  | nil => intro _ _ _; rfl
  | cons k p ih =>
    intro hn s hg
    show (step k s).bind _ = (step k s).bind _
    cases hs : step k s with
    | none => rfl
    | some s' => exact ih (List.nodup_cons.1 hn).2 s' (hc.1 s k _ s' hg hs)
  | swap x y l =>
    intro hn s hg
    show (step y s).bind (fun s => (step x s).bind (foldK step l)) = (step x s).bind (fun s => (step y s).bind (foldK step l))
    have hne : y ≠ x := fun e => by subst e; simp at hn
    have h1 : (step y s).bind (fun s => (step x s).bind (foldK step l)) = ((step y s).bind (step x)).bind (foldK step l) := by cases step y s <;> rfl
    have h2 : (step x s).bind (fun s => (step y s).bind (foldK step l)) = ((step x s).bind (step y)).bind (foldK step l) := by cases step x s <;> rfl
    rw [h1, h2, hc.2.2 s y x l hne hg]
  | trans p1 p2 ih1 ih2 =>
    intro hn s hg
    rw [ih1 hn s hg, ih2 (p1.nodup_iff.1 hn) s (hc.2.1 s _ _ p1 hg)]
theorem foldK_G {K σ : Type} {step : K → σ → Option σ} {G : σ → List K → Prop} (hc : CommG step G) {todo : List K} : ∀ (done : List K) (s s' : σ), G s (done ++ todo) → foldK step done s = some s' → G s' todo
  | [], s, s', hg, h => by cases h; exact hg
  | k :: done, s, s', hg, h => by
    have h' : (step k s).bind (foldK step done) = some s' := h
    cases hs : step k s with
    | none => rw [hs] at h'; cases h'
    | some s1 => rw [hs] at h'; exact foldK_G hc done s1 s' (hc.1 s k _ s1 hg hs) h'

section
variable {P : Program} {I : DI} {Tb : Tab} {F : Fr} {n : Nat} {E E' : Env} {L : List Res} {ops : Array Oper} {Q : Exit → Act → World → Prop} {rest : List Oper} {X : Act → World → Prop}

def BackR (F : Fr) (n : Nat) {K σ γ : Type} (step : K → σ → Option σ) (S : σ → γ → Env) (R : List K → σ → γ → List Res) (todo : List K) (s : σ) (a : Act) (w : World) : Prop :=
  ∃ A k B s' g', todo = A ++ k :: B ∧ step k s = some s' ∧ ∃ M, Cfg F M n (S s' g') (R (A ++ B) s' g') a w
theorem r_backR {K σ γ : Type} {step : K → σ → Option σ} {S : σ → γ → Env} {R : List K → σ → γ → List Res} {todo A B : List K} {k : K} {s s' : σ} (g' : γ) (ht : todo = A ++ k :: B) (hs : step k s = some s') (hE : E = S s' g') (hL : L = R (A ++ B) s' g') : Go F n E L (BackR F n step S R todo s) :=
  fun M a w c => ⟨A, k, B, s', g', ht, hs, M, by subst hE; subst hL; exact c⟩

theorem r_rangeloop {K σ γ : Type} {c1 : Code} {step : K → σ → Option σ} (Gd : σ → List K → Prop) (hc : CommG step Gd) {keys : List K} (hn : keys.Nodup) {s0 rr : σ} (hG : Gd s0 keys) (hall : foldK step keys s0 = some rr) (S : σ → γ → Env) (R : List K → σ → γ → List Res) (g0 : γ) (hE : E = S s0 g0) (hL : L = R keys s0 g0)
    (round : ∀ todo s g, (todo = [] → s = rr) → (∀ A k B, todo = A ++ k :: B → ∃ s', step k s = some s') → Go F n (S s g) (R todo s g) (c1.wp P (Exit.then (BackR F n step S R todo s) Q))) : Go F n E L ((Code.loop c1).wp P Q) := by
  intro M a w c
  refine wp_loop_fuel (fun m a w => ∃ todo s g M, todo.length = m ∧ (∃ done, (done ++ todo).Perm keys ∧ foldK step done s0 = some s) ∧ Cfg F M n (S s g) (R todo s g) a w) ?_ (m := keys.length) ⟨keys, s0, g0, M, rfl, ⟨[], by simp, rfl⟩, by subst hE; subst hL; exact c⟩
  rintro m a w ⟨todo, s, g, M', rfl, ⟨done, hp, hd⟩, c'⟩
  have hnd : (done ++ todo).Nodup := hp.nodup_iff.2 hn
  have hall' : foldK step (done ++ todo) s0 = some rr := (foldK_perm hc hp hnd s0 (hc.2.1 _ _ _ hp.symm hG)).trans hall
  have hGs : Gd s todo := foldK_G hc done s0 s (hc.2.1 _ _ _ hp.symm hG) hd
  have h1 : foldK step todo s = some rr := by rw [foldK_append, hd] at hall'; exact hall'
  have hone : ∀ A k B, todo = A ++ k :: B → ∃ s', step k s = some s' := fun A k B e => by
    have p : todo.Perm (k :: (A ++ B)) := by rw [e]; exact List.perm_middle
    have h2 : foldK step (k :: (A ++ B)) s = some rr := (foldK_perm hc p (List.nodup_append.1 hnd).2.1 s hGs).symm.trans h1
    have h3 : (step k s).bind (foldK step (A ++ B)) = some rr := h2
    cases hs : step k s with
    | none => rw [hs] at h3; cases h3
    | some s' => exact ⟨s', rfl⟩
  refine wp_mono (round todo s g (fun e => by subst e; exact Option.some.inj h1) hone M' a w c') ?_
  intro e a w q
  cases e <;> first | exact q | skip
  obtain ⟨A, k, B, s', g', ht, hs, M'', c''⟩ := q
  refine ⟨(A ++ B).length, ?_, A ++ B, s', g', M'', rfl, ⟨done ++ [k], ?_, ?_⟩, c''⟩
  · rw [ht]; simp
  · refine List.Perm.trans ?_ hp
    rw [ht, List.append_assoc]
    exact List.Perm.append_left done (by simpa using (List.perm_middle (a := k) (l₁ := A) (l₂ := B)).symm)
  · rw [foldK_append, hd]
    show (step k s).bind _ = _
    rw [hs]; rfl

end

/-! ### The files -/
section
variable (P : Program) (I : DI)
/-- the files while a loop runs over them -/
def Res.diter (mv it : Value) (fs : List (List Int × FileS)) (todo : List (List Int)) (cur kn : Option (List Int × Value)) : Res := Res.ex fun (es : List (List Int × Value × FileS)) =>
  Res.all [Res.fact (fs = pmap (fun y => y.2) es ∧ koks .str es ∧ (es.map (·.1)).Nodup ∧ (∀ p, cur = some p → pget .str p.1 (pmap (fun y => y.1) es) = some p.2) ∧ ∀ p, kn = some p → fptr es p.1 = p.2), Res.iter P I.str .str (.raw NV) mv it (pmap (fun y => y.1) es) todo cur, Res.files P I es]
/-- .. one of them being out -/
def Res.dihole (mv it : Value) (fs : List (List Int × FileS)) (todo : List (List Int)) (name : List Int) (q : Value) (kn : Option (List Int × Value)) : Res := Res.ex fun (es : List (List Int × Value × FileS)) =>
  Res.all [Res.fact (fs = pmap (fun y => y.2) es ∧ koks .str es ∧ (es.map (·.1)).Nodup ∧ pget .str name (pmap (fun y => y.1) es) = some q ∧ ∀ p, kn = some p → fptr es p.1 = p.2), Res.iter P I.str .str (.raw NV) mv it (pmap (fun y => y.1) es) todo (some (name, q)), Res.files P I (pdel .str name es)]
/-- the dirty sectors while a loop runs over them -/
def Res.kiter (v it : Value) (keys todo : List Int) (cur : Option Int) : Res := Res.ex fun (g : List (Int × Int) × Option (Int × Int)) =>
  Res.all [Res.fact (g.1.map (·.1) = keys ∧ g.2.map (·.1) = cur), Res.iter P I.int (.int .i64) (.int .i64) v it g.1 todo g.2]
end

section
variable {P : Program} {I : DI} {Tb : Tab} {F : Fr} {n : Nat} {E E' : Env} {L : List Res} {ops : Array Oper} {Q : Exit → Act → World → Prop} {rest : List Oper} {X : Act → World → Prop}

theorem diter_close {mv it : Value} {fs : List (List Int × FileS)} {todo : List (List Int)} {cur kn : Option (List Int × Value)} {es : List (List Int × Value × FileS)} (h : fs = pmap (fun y => y.2) es ∧ koks .str es ∧ (es.map (·.1)).Nodup ∧ (∀ p, cur = some p → pget .str p.1 (pmap (fun y => y.1) es) = some p.2) ∧ ∀ p, kn = some p → fptr es p.1 = p.2)
    (g : Go F n E (Res.diter P I mv it fs todo cur kn :: L) X) : Go F n E (Res.iter P I.str .str (.raw NV) mv it (pmap (fun y => y.1) es) todo cur :: Res.files P I es :: L) X := fun M a w c => by
  refine g M a w { c with st := c.st.sep_to fun V hs => ?_ }
  have hs' : Sep M w ([Res.iter P I.str .str (.raw NV) mv it (pmap (fun y => y.1) es) todo cur, Res.files P I es] ++ L) V := hs
  obtain ⟨A, B, sa, sb, d, e⟩ := Sep.split hs'
  exact ⟨A, B, ⟨es, sep_fact h sa⟩, sb, d, e⟩

theorem r_drange {m : Operand} {z mv : Value} {e mt : TypeId} {fs : List (List Int × FileS)} {d : Nat} {ty : TypeId} {pos : String} {after : Array Edge} (hk : ktChk P .str I.str = true) (hm : ev E m = some (.one (.raw z) mv)) (ht : P.underlying mt = some (.map I.str e)) (hd : Nat.ble (d + 1) n = true)
    (g : ∀ it, (fs.map (·.1)).Nodup → Go F n ((d, .one (.raw (.pointer none)) it) :: E) (Res.diter P I mv it fs (fs.map (·.1)) none none :: L) (wpList P ops Q rest)) : Go F n E (Res.dfiles P I mv fs :: L) (wpList P ops Q (⟨some d, .range mt m, ty, pos, after, none⟩ :: rest)) := by
  refine dfiles_open hk fun es h1 h2 h3 => ?_
  refine r_range (vt := .raw NV) 0 hm rfl hk ht hd fun it h4 h5 => ?_
  have e1 : (pmap (fun y : Value × FileS => y.1) es).map (·.1) = fs.map (·.1) := by rw [h1, pmap_keys, pmap_keys]
  refine diter_close (fs := fs) (cur := none) (kn := none) ⟨h1, h2, h3, (fun p hp => by cases hp), fun p hp => by cases hp⟩ ?_
  rw [e1]
  rw [e1] at h4
  exact g it h4

theorem r_drangeq {m : Operand} {z mv q0 : Value} {name : List Int} {e mt : TypeId} {fs : List (List Int × FileS)} {d : Nat} {ty : TypeId} {pos : String} {after : Array Edge} (hk : ktChk P .str I.str = true) (hm : ev E m = some (.one (.raw z) mv)) (ht : P.underlying mt = some (.map I.str e)) (hd : Nat.ble (d + 1) n = true)
    (g : ∀ it, (fs.map (·.1)).Nodup → Go F n ((d, .one (.raw (.pointer none)) it) :: E) (Res.diter P I mv it fs (fs.map (·.1)) none (some (name, q0)) :: L) (wpList P ops Q rest)) : Go F n E (Res.dat P I mv fs name q0 :: L) (wpList P ops Q (⟨some d, .range mt m, ty, pos, after, none⟩ :: rest)) := by
  refine dat_open hk fun es h1 h0 h2 h3 => ?_
  refine r_range (vt := .raw NV) 0 hm rfl hk ht hd fun it h4 h5 => ?_
  have e1 : (pmap (fun y : Value × FileS => y.1) es).map (·.1) = fs.map (·.1) := by rw [h1, pmap_keys, pmap_keys]
  refine diter_close (fs := fs) (cur := none) (kn := some (name, q0)) ⟨h1, h2, h3, (fun p hp => by cases hp), fun p hp => by cases hp; exact h0⟩ ?_
  rw [e1]
  rw [e1] at h4
  exact g it h4

theorem r_dnext {x : Operand} {z mv it : Value} {fs : List (List Int × FileS)} {todo : List (List Int)} {cur kn : Option (List Int × Value)} {d : Nat} {ty : TypeId} {pos : String} {after : Array Edge} (hk : ktChk P .str I.str = true) (hx : ev E x = some (.one (.raw z) it)) (hd : Nat.ble (d + 1) n = true)
    (hend : todo = [] → Go F n ((d, .tup [⟨.bool, false⟩]) :: E) (Res.diter P I mv it fs todo cur kn :: L) (wpList P ops Q rest))
    (hone : ∀ A k B q, todo = A ++ k :: B → (pget .str k fs).isSome = true → Go F n ((d, .tup [⟨.bool, true⟩, ⟨.str, k⟩, ⟨.raw NV, q⟩]) :: E) (Res.diter P I mv it fs (A ++ B) (some (k, q)) kn :: L) (wpList P ops Q rest)) :
    Go F n E (Res.diter P I mv it fs todo cur kn :: L) (wpList P ops Q (⟨some d, .next x false, ty, pos, after, none⟩ :: rest)) := by
  refine r_unex fun es => r_unall (r_unfact fun ⟨h1, h2, h3, h4, h6⟩ => ?_)
  refine r_next (vt := .raw NV) 0 hx rfl hk hd (fun h => diter_close ⟨h1, h2, h3, h4, h6⟩ (hend h)) fun k y A B ht hg hko => diter_close ⟨h1, h2, h3, (fun p hp => ?_), h6⟩ (hone A k B y ht ?_)
  · cases hp; exact hg
  · have := hg
    rw [pmap_get] at this
    rw [h1, pmap_get]
    cases hp : pget .str k es with
    | none => rw [hp] at this; cases this
    | some _ => rfl

theorem y_dentry {x : Operand} {z mv it : Value} {fs : List (List Int × FileS)} {todo : List (List Int)} {k : List Int} {q : Value} {kn : Option (List Int × Value)} (hx : ev E x = some (.one (.raw z) it)) (i : Nat) (hi : L[i]? = some (Res.diter P I mv it fs todo (some (k, q)) kn)) :
    Yields Same P F n E L (.entry x) (.tup [⟨.str, k⟩, ⟨.raw NV, q⟩]) := fun o ho M a w c => by
  obtain ⟨L', p⟩ := perm_at hi
  have c' : Cfg F M n E (Res.diter P I mv it fs todo (some (k, q)) kn :: L') a w := { c with st := c.st.perm p }
  have key : Go F n E (Res.diter P I mv it fs todo (some (k, q)) kn :: L') (fun a w => ∀ o : Oper, o.op = .entry x → ∃ (M : Mem) (v : Value), (TV.tup [⟨.str, k⟩, ⟨.raw NV, q⟩]).holds M v ∧ ∀ w', Same w w' → (execOp a.eval o).run P w' = .ok (.value v) w') := by
    refine r_unex fun es => r_unall (r_unfact fun _ => ?_)
    intro M a w c o ho
    obtain ⟨v, hv, hr⟩ := y_entry (vt := .raw NV) 0 hx rfl o ho M a w c
    exact ⟨M, v, hv, hr⟩
  obtain ⟨M2, v, hv, hr⟩ := key M a w c' o ho
  exact ⟨v, TV.any rfl hv, hr⟩

/-- the file that came is taken out -/
theorem r_difocus {kn : Option (List Int × Value)} {mv it q : Value} {fs : List (List Int × FileS)} {todo : List (List Int)} {name : List Int} {f : FileS} (hf : pget .str name fs = some f)
    (g : ∀ fb sv tv dv, q = .pointer (some ⟨fb, 0, none⟩) → Go F n E (Res.var fb I.file FT (sv, tv, dv, ()) :: Res.own sv I.byte (.int .u8) f.1 :: Res.own tv I.byte (.int .u8) f.2.1 :: Res.dirty P I dv f.2.2 :: Res.dihole P I mv it fs todo name q kn :: L) X) :
    Go F n E (Res.diter P I mv it fs todo (some (name, q)) kn :: L) X := by
  refine r_unex fun es => r_unall (r_unfact fun ⟨h1, h2, h3, h4, h6⟩ => ?_)
  have hq := h4 _ rfl
  have hg : pget .str name es = some (q, f) := by
    rw [h1, pmap_get] at hf
    rw [pmap_get] at hq
    cases hp : pget .str name es with
    | none => rw [hp] at hf; cases hf
    | some y =>
      rw [hp] at hf hq
      simp only [Option.map_some, Option.some.injEq] at hf hq
      rw [← hf, ← hq]
  refine r_swap (r_focus h2 h3 hg ?_)
  refine r_unex fun ⟨fb, sv, tv, dv⟩ => r_unall (r_unfact fun h5 => ?_)
  have := g fb sv tv dv h5
  intro M a w c
  refine this M a w { c with st := c.st.sep_to fun V hs => ?_ }
  have key : ∀ {A : List Res} {V : Nat → Prop}, Sep M w (A ++ Res.files P I (pdel .str name es) :: Res.iter P I.str .str (.raw NV) mv it (pmap (fun y => y.1) es) todo (some (name, q)) :: L) V → Sep M w (A ++ Res.dihole P I mv it fs todo name q kn :: L) V := by
    intro A
    induction A with
    | nil =>
      rintro V ⟨S, V', r, ⟨S2, V2, r2, s2, d2, e2⟩, d, e⟩
      refine ⟨fun k => S2 k ∨ S k, V2, ⟨es, sep_fact ⟨h1, h2, h3, hq, h6⟩ ⟨S2, S, r2, sep_one r, fun k h2 h1 => d k h1 ((e2 k).2 (.inl h2)), fun _ => Iff.rfl⟩⟩, s2, ?_, ?_⟩
      · rintro k (h | h)
        · exact d2 k h
        · exact fun hv => d k h ((e2 k).2 (.inr hv))
      · intro k; rw [e k, e2 k, or_left_comm]; exact or_assoc.symm
    | cons R A ih => rintro V ⟨S, V', r, s, d, e⟩; exact ⟨S, V', r, ih s, d, e⟩
  exact key (A := [_, _, _, _]) hs

/-- .. and put back -/
theorem r_diunfocusG {kn : Option (List Int × Value)} {mv it : Value} {fs fs' : List (List Int × FileS)} {todo : List (List Int)} {name : List Int} {f1 f2 f3 : List Int} {fb : Nat} {sv tv dv : Value}
    (hfs : koks .str fs → (fs.map (·.1)).Nodup → pset .str name (f1, f2, f3) fs = fs')
    (g : Go F n E (Res.diter P I mv it fs' todo (some (name, .pointer (some ⟨fb, 0, none⟩))) kn :: L) X) :
    Go F n E (Res.var fb I.file FT (sv, tv, dv, ()) :: Res.own sv I.byte (.int .u8) f1 :: Res.own tv I.byte (.int .u8) f2 :: Res.dirty P I dv f3 :: Res.dihole P I mv it fs todo name (.pointer (some ⟨fb, 0, none⟩)) kn :: L) X := by
  refine r_perm (L' := Res.dihole P I mv it fs todo name (.pointer (some ⟨fb, 0, none⟩)) kn :: Res.var fb I.file FT (sv, tv, dv, ()) :: Res.own sv I.byte (.int .u8) f1 :: Res.own tv I.byte (.int .u8) f2 :: Res.dirty P I dv f3 :: L) (List.perm_middle (l₁ := [_, _, _, _]) (l₂ := L)) ?_
  refine r_unex fun es => r_unall (r_unfact fun ⟨h1, h3, h4, hq, h6⟩ => ?_)
  have h5 : (pget .str name es).isSome := by
    rw [pmap_get] at hq
    cases hp : pget .str name es with
    | none => rw [hp] at hq; cases hq
    | some _ => rfl
  obtain ⟨⟨p, f⟩, hp⟩ := Option.isSome_iff_exists.1 h5
  obtain ⟨A, B, e1, e2⟩ := pget_split h3 h4 hp
  have hpq : p = .pointer (some ⟨fb, 0, none⟩) := by
    rw [pmap_get, hp] at hq
    simpa using hq
  have e3 := pset_split (v := ((.pointer (some ⟨fb, 0, none⟩) : Value), ((f1, f2, f3) : FileS))) h3 h4 e1
  have hsame : pmap (fun y : Value × FileS => y.1) (pset .str name (.pointer (some ⟨fb, 0, none⟩), (f1, f2, f3)) es) = pmap (fun y => y.1) es := by
    rw [e3, e1, hpq]; simp [pmap]
  have hkeys : (pset .str name ((.pointer (some ⟨fb, 0, none⟩) : Value), ((f1, f2, f3) : FileS)) es).map (·.1) = es.map (·.1) := by rw [e3, e1]; simp
  intro M a w c
  refine g M a w { c with st := c.st.sep_to fun V hs => ?_ }
  have hs' : Sep M w ([Res.iter P I.str .str (.raw NV) mv it (pmap (fun y => y.1) es) todo (some (name, .pointer (some ⟨fb, 0, none⟩))), Res.files P I (pdel .str name es), Res.var fb I.file FT (sv, tv, dv, ()), Res.own sv I.byte (.int .u8) f1, Res.own tv I.byte (.int .u8) f2, Res.dirty P I dv f3] ++ L) V := hs
  obtain ⟨SA, SB, sa, sb, sd, se⟩ := Sep.split hs'
  have k1 : fs' = pmap (fun y => y.2) (pset .str name ((.pointer (some ⟨fb, 0, none⟩) : Value), ((f1, f2, f3) : FileS)) es) := by
    rw [pmap_set, ← h1]
    refine (hfs ?_ ?_).symm
    · rw [h1]; exact pmap_koks.2 h3
    · rw [h1, pmap_keys]; exact h4
  have k2 : koks .str (pset .str name ((.pointer (some ⟨fb, 0, none⟩) : Value), ((f1, f2, f3) : FileS)) es) := by
    intro p' hp'
    rw [e3] at hp'
    rcases List.mem_append.1 hp' with h | h
    · exact h3 p' (by rw [e1]; simp [h])
    · rcases List.mem_cons.1 h with rfl | h
      · exact h3 (name, p, f) (by rw [e1]; simp)
      · exact h3 p' (by rw [e1]; simp [h])
  have k3 : ((pset .str name ((.pointer (some ⟨fb, 0, none⟩) : Value), ((f1, f2, f3) : FileS)) es).map (·.1)).Nodup := by rw [hkeys]; exact h4
  have k5 : Sep M w [Res.iter P I.str .str (.raw NV) mv it (pmap (fun y : Value × FileS => y.1) (pset .str name ((.pointer (some ⟨fb, 0, none⟩) : Value), ((f1, f2, f3) : FileS)) es)) todo (some (name, .pointer (some ⟨fb, 0, none⟩))), Res.files P I (pset .str name ((.pointer (some ⟨fb, 0, none⟩) : Value), ((f1, f2, f3) : FileS)) es)] SA := by
    obtain ⟨S1, V1, r1, s1, d1, e4⟩ := sa
    have s1' : Sep M w ([Res.files P I (pdel .str name es)] ++ [Res.var fb I.file FT (sv, tv, dv, ()), Res.own sv I.byte (.int .u8) f1, Res.own tv I.byte (.int .u8) f2, Res.dirty P I dv f3]) V1 := s1
    obtain ⟨SC, SD, sc, sdd, dd, ee⟩ := Sep.split s1'
    refine ⟨S1, V1, by rw [hsame]; exact r1, sep_one (files_of (name := name) (q := .pointer (some ⟨fb, 0, none⟩)) (f := (f1, f2, f3)) (es := es) ?_ ?_), d1, e4⟩
    · rw [e3, e2]; exact List.perm_middle
    · exact Sep.eqv (fun k => (ee k).symm) (Sep.append sc (sep_one (file_of sdd)) dd)
  have k4 : ∀ p', some (name, (.pointer (some ⟨fb, 0, none⟩) : Value)) = some p' → pget .str p'.1 (pmap (fun y : Value × FileS => y.1) (pset .str name ((.pointer (some ⟨fb, 0, none⟩) : Value), ((f1, f2, f3) : FileS)) es)) = some p'.2 := by
    rintro p' hp'
    rw [hsame]
    cases hp'
    exact hq
  exact ⟨SA, SB, ⟨_, sep_fact ⟨k1, k2, k3, k4, fun p hp => by rw [← h6 p hp]; unfold fptr; rw [hsame]⟩ k5⟩, sb, sd, se⟩
theorem r_diunfocus {kn : Option (List Int × Value)} {mv it : Value} {fs : List (List Int × FileS)} {todo : List (List Int)} {name : List Int} {f1 f2 f3 : List Int} {fb : Nat} {sv tv dv : Value}
    (g : Go F n E (Res.diter P I mv it (pset .str name (f1, f2, f3) fs) todo (some (name, .pointer (some ⟨fb, 0, none⟩))) kn :: L) X) :
    Go F n E (Res.var fb I.file FT (sv, tv, dv, ()) :: Res.own sv I.byte (.int .u8) f1 :: Res.own tv I.byte (.int .u8) f2 :: Res.dirty P I dv f3 :: Res.dihole P I mv it fs todo name (.pointer (some ⟨fb, 0, none⟩)) kn :: L) X :=
  r_diunfocusG (fun _ _ => rfl) g
theorem r_diunfocus_same {kn : Option (List Int × Value)} {mv it : Value} {fs : List (List Int × FileS)} {todo : List (List Int)} {name : List Int} {f : FileS} {fb : Nat} {sv tv dv : Value} (hf : pget .str name fs = some f)
    (g : Go F n E (Res.diter P I mv it fs todo (some (name, .pointer (some ⟨fb, 0, none⟩))) kn :: L) X) :
    Go F n E (Res.var fb I.file FT (sv, tv, dv, ()) :: Res.own sv I.byte (.int .u8) f.1 :: Res.own tv I.byte (.int .u8) f.2.1 :: Res.dirty P I dv f.2.2 :: Res.dihole P I mv it fs todo name (.pointer (some ⟨fb, 0, none⟩)) kn :: L) X :=
  r_diunfocusG (fun ho hn => pset_same ho hn hf) g

/-- the loop is behind us -/
theorem r_dunrange {mv it : Value} {fs : List (List Int × FileS)} {todo : List (List Int)} {cur : Option (List Int × Value)} (g : Go F n E (Res.dfiles P I mv fs :: L) X) : Go F n E (Res.diter P I mv it fs todo cur none :: L) X := by
  refine r_unex fun es => r_unall (r_unfact fun ⟨h1, h2, h3, h4, h6⟩ => ?_)
  exact r_unrange 0 rfl (dfiles_close h1 g)
theorem r_dunrangeq {mv it q0 : Value} {name : List Int} {fs : List (List Int × FileS)} {todo : List (List Int)} {cur : Option (List Int × Value)} (g : Go F n E (Res.dat P I mv fs name q0 :: L) X) : Go F n E (Res.diter P I mv it fs todo cur (some (name, q0)) :: L) X := by
  refine r_unex fun es => r_unall (r_unfact fun ⟨h1, h2, h3, h4, h6⟩ => ?_)
  exact r_unrange 0 rfl (dat_close h1 (h6 _ rfl) g)
/-- some name is known -/
theorem r_somedat {mv : Value} {fs : List (List Int × FileS)} (g : ∀ q, Go F n E (Res.dat P I mv fs [] q :: L) X) : Go F n E (Res.dfiles P I mv fs :: L) X := by
  refine r_unex fun es => r_unall (r_unfact fun h1 => ?_)
  intro M a w c
  refine g (fptr es []) M a w { c with st := c.st.sep_to fun V hs => ?_ }
  have hs' : Sep M w ([Res.dmap P I mv es, Res.files P I es] ++ L) V := hs
  obtain ⟨A, B, sa, sb, d, e⟩ := Sep.split hs'
  exact ⟨A, B, ⟨es, sep_fact ⟨h1, rfl⟩ sa⟩, sb, d, e⟩

/-! ### dirty sectors -/
theorem kiter_close {v it : Value} {keys todo : List Int} {cur : Option Int} {l : List (Int × Int)} {c0 : Option (Int × Int)} (h : l.map (·.1) = keys ∧ c0.map (·.1) = cur) (g : Go F n E (Res.kiter P I v it keys todo cur :: L) X) : Go F n E (Res.iter P I.int (.int .i64) (.int .i64) v it l todo c0 :: L) X := fun M a w c => by
  refine g M a w { c with st := c.st.sep_to fun V hs => ?_ }
  have hs' : Sep M w ([Res.iter P I.int (.int .i64) (.int .i64) v it l todo c0] ++ L) V := hs
  obtain ⟨A, B, sa, sb, d, e⟩ := Sep.split hs'
  exact ⟨A, B, ⟨(l, c0), sep_fact h sa⟩, sb, d, e⟩
theorem r_krange {m : Operand} {z v : Value} {e mt : TypeId} {keys : List Int} {d : Nat} {ty : TypeId} {pos : String} {after : Array Edge} (hk : ktChk P (.int .i64) I.int = true) (hm : ev E m = some (.one (.raw z) v)) (ht : P.underlying mt = some (.map I.int e)) (hd : Nat.ble (d + 1) n = true)
    (g : ∀ it, keys.Nodup → Go F n ((d, .one (.raw (.pointer none)) it) :: E) (Res.kiter P I v it keys keys none :: L) (wpList P ops Q rest)) : Go F n E (Res.dirty P I v keys :: L) (wpList P ops Q (⟨some d, .range mt m, ty, pos, after, none⟩ :: rest)) := by
  refine r_unex fun l => r_unall (r_unfact fun h1 => ?_)
  refine r_range (vt := .int .i64) 0 hm rfl hk ht hd fun it h4 h5 => ?_
  subst h1
  exact kiter_close (c0 := none) ⟨rfl, rfl⟩ (g it h4)
theorem r_knext {x : Operand} {z v it : Value} {keys todo : List Int} {cur : Option Int} {d : Nat} {ty : TypeId} {pos : String} {after : Array Edge} (hk : ktChk P (.int .i64) I.int = true) (hx : ev E x = some (.one (.raw z) it)) (hd : Nat.ble (d + 1) n = true)
    (hend : todo = [] → Go F n ((d, .tup [⟨.bool, false⟩]) :: E) (Res.kiter P I v it keys todo cur :: L) (wpList P ops Q rest))
    (hone : ∀ A k B c, todo = A ++ k :: B → k ∈ keys → Go F n ((d, .tup [⟨.bool, true⟩, ⟨.int .i64, k⟩, ⟨.int .i64, c⟩]) :: E) (Res.kiter P I v it keys (A ++ B) (some k) :: L) (wpList P ops Q rest)) :
    Go F n E (Res.kiter P I v it keys todo cur :: L) (wpList P ops Q (⟨some d, .next x false, ty, pos, after, none⟩ :: rest)) := by
  refine r_unex fun ⟨l, c0⟩ => r_unall (r_unfact fun ⟨h1, h2⟩ => ?_)
  refine r_next (vt := .int .i64) 0 hx rfl hk hd (fun h => kiter_close ⟨h1, h2⟩ (hend h)) fun k y A B ht hg hko => kiter_close ⟨h1, rfl⟩ (hone A k B y ht ?_)
  have : (pget (.int .i64) k l).isSome = true := by rw [hg]; rfl
  rw [pget_isSome] at this
  obtain ⟨p, hp, hkp⟩ := List.any_eq_true.1 this
  rw [← h1]
  have : p.1 = k := by
    have := hkp
    simpa [keq] using this
  rw [← this]
  exact List.mem_map.2 ⟨p, hp, rfl⟩
theorem y_kentry {d0 : Nat} {x : Operand} {z v it : Value} {keys todo : List Int} {k : Int} (hx : ev E x = some (.one (.raw z) it)) (i : Nat) (hi : L[i]? = some (Res.kiter P I v it keys todo (some k))) (hd : Nat.ble (d0 + 1) n = true) {ty : TypeId} {pos : String} {after : Array Edge}
    (g : ∀ c, Go F n ((d0, .tup [⟨.int .i64, k⟩, ⟨.int .i64, c⟩]) :: E) L (wpList P ops Q rest)) : Go F n E L (wpList P ops Q (⟨some d0, .entry x, ty, pos, after, none⟩ :: rest)) := fun M a w c => by
  obtain ⟨L', p⟩ := perm_at hi
  refine r_perm p ?_ M a w c
  refine r_unex fun ⟨l, c0⟩ => r_unall (r_unfact fun ⟨h1, h2⟩ => ?_)
  cases c0 with
  | none => cases h2
  | some p0 =>
    obtain ⟨k0, cc⟩ := p0
    have : k0 = k := by simpa using h2
    subst this
    exact y (y_entry (vt := .int .i64) 0 hx rfl) hd (kiter_close ⟨h1, rfl⟩ (r_perm p.symm (g cc)))
theorem diter_none {mv it : Value} {fs : List (List Int × FileS)} {todo : List (List Int)} {cur kn : Option (List Int × Value)} : ∀ M S w, (Res.diter P I mv it fs todo cur kn).sat M S w → (Res.diter P I mv it fs todo none kn).sat M S w := fun M S w ⟨es, A, B, ⟨⟨h1, h2, h3, _, h6⟩, hA⟩, ⟨C, D, ⟨b, r, lv, left, cnt, g1, g2, g3, g4, g5, g6, g7, g8, g9, _⟩, hD, d2, e2⟩, d, e⟩ =>
  ⟨es, A, B, ⟨⟨h1, h2, h3, (fun p hp => by cases hp), h6⟩, hA⟩, ⟨C, D, ⟨b, r, lv, left, cnt, g1, g2, g3, g4, g5, g6, g7, g8, g9, fun p hp => by cases hp⟩, hD, d2, e2⟩, d, e⟩
theorem kiter_none {v it : Value} {keys todo : List Int} {cur : Option Int} : ∀ M S w, (Res.kiter P I v it keys todo cur).sat M S w → (Res.kiter P I v it keys todo none).sat M S w := fun M S w ⟨(l, c0), A, B, ⟨⟨h1, _⟩, hA⟩, ⟨C, D, ⟨b, r, lv, left, cnt, g1, g2, g3, g4, g5, g6, g7, g8, g9, _⟩, hD, d2, e2⟩, d, e⟩ =>
  ⟨(l, none), A, B, ⟨⟨h1, rfl⟩, hA⟩, ⟨C, D, ⟨b, r, lv, left, cnt, g1, g2, g3, g4, g5, g6, g7, g8, g9, fun p hp => by cases hp⟩, hD, d2, e2⟩, d, e⟩
theorem r_kunrange {v it : Value} {keys todo : List Int} {cur : Option Int} (g : Go F n E (Res.dirty P I v keys :: L) X) : Go F n E (Res.kiter P I v it keys todo cur :: L) X := by
  refine r_unex fun ⟨l, c0⟩ => r_unall (r_unfact fun ⟨h1, h2⟩ => ?_)
  refine r_unrange 0 rfl ?_
  intro M a w c
  exact r_redirty (P := P) (I := I) (keys := keys) 0 rfl h1 g M a w c

/-! ### one file, told by its pointer -/
theorem r_unfile {q : Value} {f : FileS} (g : ∀ fb sv tv dv, q = .pointer (some ⟨fb, 0, none⟩) → Go F n E (Res.var fb I.file FT (sv, tv, dv, ()) :: Res.own sv I.byte (.int .u8) f.1 :: Res.own tv I.byte (.int .u8) f.2.1 :: Res.dirty P I dv f.2.2 :: L) X) : Go F n E (Res.file P I q f :: L) X :=
  r_unex fun ⟨fb, sv, tv, dv⟩ => r_unall (r_unfact fun h => g fb sv tv dv h)
theorem r_unfileb {b0 : Nat} {f : FileS} (g : ∀ sv tv dv, Go F n E (Res.var b0 I.file FT (sv, tv, dv, ()) :: Res.own sv I.byte (.int .u8) f.1 :: Res.own tv I.byte (.int .u8) f.2.1 :: Res.dirty P I dv f.2.2 :: L) X) : Go F n E (Res.file P I (.pointer (some ⟨b0, 0, none⟩)) f :: L) X :=
  r_unfile fun b sv tv dv h => by
    have : b0 = b := by simpa using h
    subst this; exact g sv tv dv
theorem r_file {fb : Nat} {sv tv dv : Value} {f1 f2 f3 : List Int} (g : Go F n E (Res.file P I (.pointer (some ⟨fb, 0, none⟩)) (f1, f2, f3) :: L) X) : Go F n E (Res.var fb I.file FT (sv, tv, dv, ()) :: Res.own sv I.byte (.int .u8) f1 :: Res.own tv I.byte (.int .u8) f2 :: Res.dirty P I dv f3 :: L) X :=
  r_fold (A := [_, _, _, _]) (fun _ _ _ h => file_of h) g
end

/-! ### a call whose arguments may be nil slices written out -/
inductive Args (E : Env) : List Operand → List TV → Prop
  | nil : Args E [] []
  | val {x : Operand} {t : TV} {l : List Operand} {ts : List TV} (h : ev E x = some t) (r : Args E l ts) : Args E (x :: l) (t :: ts)
  | nilsl {e : TypeId} {t : T} {l : List Operand} {ts : List TV} (r : Args E l ts) : Args E (.const (.slice none 0 0) :: l) (.one (.sl e t) [] :: ts)
section
variable {P : Program} {F : Fr} {n : Nat} {E : Env} {L : List Res} {ops : Array Oper} {Q : Exit → Act → World → Prop} {rest : List Oper}
theorem args_ok {M : Mem} {a : Act} {w : World} (c : Cfg F M n E L a w) : ∀ {xs : List Operand} {l : List TV}, Args E xs l → HoldAll M l (xs.map a.eval)
  | _, _, .nil => .nil
  | _, _, .val h r => .cons (ev_ok c h) (args_ok c r)
  | _, _, .nilsl r => .cons ⟨_, rfl, rep_slice_nil⟩ (args_ok c r)
theorem r_calla {k : FuncId} {args : List TV} {Lc Lo : List Res} {res : Value → TV} {L' : Value → List Res} (hc : Fn P k args Lc res L') (hk : callable P k = true) (hp : L.Perm (Lc ++ Lo)) {xs : List Operand} {tys : Array TypeId} {d : Nat} {ty : TypeId} {pos : String} {after : Array Edge}
    (hx : Args E xs args) (hd : Nat.ble (d + 1) n = true) (g : ∀ v, Go F n ((d, res v) :: E) (L' v ++ Lo) (wpList P ops Q rest)) :
    Go F n E L (wpList P ops Q (⟨some d, .call ⟨.value (.func k), xs.toArray, tys⟩, ty, pos, after, none⟩ :: rest)) := fun M a w c => by
  unfold wpList
  rw [if_pos (by simp [Region.wanted])]
  left
  unfold Oper.wp
  have hrun : (execOp a.eval ⟨some d, .call ⟨.value (.func k), xs.toArray, tys⟩, ty, pos, after, none⟩).run P w = .ok (.enter k (xs.map a.eval).toArray) w := by
    simp only [execOp, resolve, run_bind, run_pure, Act.eval, Deferred.ofValue, invoke]
    rw [run_callFunc hk]
    simp
  rw [hrun, Oper.upon_enter]
  have st := c.st.perm hp
  obtain ⟨F', hb, hs, st', hback⟩ := st.part
  have := hc F' w (xs.map a.eval) (by rw [hb]; exact st') hs (by rw [hb]; exact args_ok c hx)
  refine this.mono ?_
  rintro e w' ⟨v, M', rfl, st2, hv⟩
  obtain ⟨hle, st3⟩ := hback _ _ _ st2
  exact g v M' _ _ (c.put hle st3 (Nat.le_of_ble_eq_true hd) hv)
end

section
variable {P : Program} {I : DI} {F : Fr} {n : Nat} {E : Env} {L : List Res} {X : Act → World → Prop}
theorem r_nodisk {D : DiskS} {e : Int} (he : e ≠ 0) (g : Go F n E (Res.diskif P I NV D e :: L) X) : Go F n E L X := by
  have : Res.diskif P I NV D e = Res.fact (NV = NV) := by unfold Res.diskif; rw [if_neg he]
  rw [this] at g
  exact r_fact rfl g
theorem run_pnil {w : World} {tid e : TypeId} {a : Option Addr} (hu : P.underlying tid = some (.pointer e)) : (Op.equal tid (.pointer a) (.pointer none)).run P w = .ok a.isNone w := by
  show (Op.equalIn (9999 + 1) tid _ _).run P w = _
  rw [Op.equalIn, run_bind, run_underlying hu]
  cases a <;> rfl
/-- a pointer held against nil -/
theorem y_pnil {R : World → World → Prop} {x : Operand} {z v : Value} {tid w0 e : TypeId} {a : Option Addr} (hx : ev E x = some (.one (.raw z) v)) (hv : v = .pointer a) (hu : P.underlying tid = some (.pointer e)) : Yields R P F n E L (.binOp .eql tid x (.const (.pointer none)) w0) (.one .bool a.isNone) := fun o ho M a' w c => by
  have h1 := (holds_raw.1 (ev_ok c hx)).1
  refine ⟨_, holds_bool.2 rfl, fun w' _ => ?_⟩
  obtain ⟨dst, op', ty, pos, after, guard⟩ := o
  simp only at ho; subst ho
  refine run_val ?_
  have hg : (eqGuard .eql tid x (.const (.pointer none)) (a'.eval x) (.pointer none)).run P w' = .ok () w' := by rw [h1, hv]; unfold eqGuard; rfl
  have hq : (Op.equal tid (a'.eval x) (.pointer none)).run P w' = .ok a.isNone w' := by rw [h1, hv]; exact run_pnil hu
  show ((do eqGuard .eql tid x (.const (.pointer none)) (a'.eval x) (.pointer none); binOp .eql tid (a'.eval x) (.pointer none)) : Sem Value).run P w' = _
  rw [run_bind, hg]
  show (binOp .eql tid (a'.eval x) (.pointer none)).run P w' = _
  rw [h1, hv] at hq ⊢
  simp only [binOp, run_bind, hq]; rfl
theorem y_dnil {x : Operand} {z p : Value} {tid w0 e : TypeId} {D : DiskS} {f : Int} (i : Nat) (hx : ev E x = some (.one (.raw z) p)) (hi : L[i]? = some (Res.diskif P I p D f)) (hu : P.underlying tid = some (.pointer e)) : Yields Same P F n E L (.binOp .eql tid x (.const (.pointer none)) w0) (.one .bool (f != 0)) := fun o ho M a' w c => by
  obtain ⟨S, hs⟩ := c.st.res hi
  have : ∃ a, p = .pointer a ∧ a.isNone = (f != 0) := by
    by_cases hf : f = 0
    · unfold Res.diskif at hs
      rw [if_pos hf] at hs
      obtain ⟨g, A, B, ⟨h1, _⟩, _⟩ := hs
      exact ⟨_, h1, by simp [hf]⟩
    · unfold Res.diskif at hs
      rw [if_neg hf] at hs
      exact ⟨none, hs.1, by simp [hf]⟩
  obtain ⟨a, h1, h2⟩ := this
  have := y_pnil (R := Same) (P := P) (F := F) (n := n) (E := E) (L := L) (w0 := w0) hx h1 hu o ho M a' w c
  rwa [h2] at this
theorem y_dnot {x : Operand} {z p : Value} {tid w0 e : TypeId} {D : DiskS} (i : Nat) (hx : ev E x = some (.one (.raw z) p)) (hi : L[i]? = some (Res.disk P I p D)) (hu : P.underlying tid = some (.pointer e)) : Yields Same P F n E L (.binOp .eql tid x (.const (.pointer none)) w0) (.one .bool false) := fun o ho M a' w c => by
  obtain ⟨S, g, A, B, ⟨h1, _⟩, _⟩ := c.st.res hi
  exact y_pnil (R := Same) (P := P) (F := F) (n := n) (E := E) (L := L) (w0 := w0) hx h1 hu o ho M a' w c
theorem r_isdisk {p : Value} {D : DiskS} (g : Go F n E (Res.diskif P I p D 0 :: L) X) : Go F n E (Res.disk P I p D :: L) X := g
theorem r_nofiles {v : Value} (g : Go F n E (Res.dfiles P I v [] :: L) X) : Go F n E (Res.map P I.str .str (.raw NV) v [] :: L) X := fun M a w c =>
  dfiles_close (P := P) (I := I) (es := []) rfl g M a w { c with st := c.st.sep_to fun V ⟨S, V', r, s, d, e⟩ => ⟨S, V', r, ⟨fun _ => False, V', fun _ h => h, s, fun _ h => h.elim, fun k => ⟨.inr, fun h => h.elim False.elim id⟩⟩, d, e⟩ }
theorem diskif_free {p : Value} {D : DiskS} {e : Int} : (Res.diskif P I p D e).free := by
  unfold Res.diskif
  split
  · exact disk_free
  · exact Res.free_fact
end
end Sx
namespace Sx
open Go
def disk_Disk_List (a0 : DiskS) : Option (List (List Int)) := if a0.2.2.2.2.2.1 = true then some [] else if List.length a0.2.1 * 16 ≤ 140737488355328 then some (a0.2.1.map (·.1)) else none
/-- the numbers of the sectors that begin ahead of a size -/
def cutKeys (ks : List Int) (size : Int) : List Int := ks.filter fun s => decide (IntKind.wrap .i64 (s * 64) < size)
end Sx
namespace Sx
open Go Go.Maps

/-- a call by its values: of some of them nothing is told -/
theorem enterV {P : Program} {k : FuncId} {fn : Func} {body : Code} {L : List Res} {res : Value → TV} {L' : Value → List Res} (hf : P.funcs[k]? = some fn) (hb : fn.body = some body) (n : Nat) (hn : fn.ntmps = n) (E : Env) {F : Fr} {vs : List Value} (ha : vs.length ≤ n)
    (he : ∀ i t, E.get i = some t → ∃ v, vs[i]? = some v ∧ t.holds F.base v) (g : Go F n E L (body.wp P (bodyPost P fn (Post F res L')))) {w : World} (hst : St F F.base w L) : Calls P k vs.toArray w (Post F res L') := by
  refine calls_of_wp hf hb ?_
  refine g F.base _ _ ⟨hst, rfl, ?_, ?_⟩
  · simp [hn]; omega
  · intro i t h
    obtain ⟨v, hv, ht⟩ := he i t h
    refine ⟨v, ?_, ht⟩
    have hj : i < vs.length := by
      rcases Nat.lt_or_ge i vs.length with h | h
      · exact h
      · simp [List.getElem?_eq_none h] at hv
    have hv' : vs[i] = v := by simpa [hj] using hv
    simp [Array.getElem?_append, hj, hv']

/-- what a call that only reads leaves -/
theorem grown_of_lent {F : Fr} {M : Mem} {w w' : World} (ho : F.os = w.os) (ht : F.tape = w.tape) (hu : F.output = w.output) (hs : F.size = w.heap.size) (hm : F.mem = heapOf w) (h : St F M w' []) : w.grownBy w' none :=
  { os := h.os.trans ho, tape := h.tape.trans ht, output := h.output.trans hu, size := by rw [← hs]; exact h.size
    block := fun k hk _ => by
      have := h.frame k w.heap[k] (by rw [hm]; simp [heapOf, hk])
      rw [this]; simp [hk] }

/-- the closure that tells which sectors go -/
def CutOk (P : Program) (I : DI) (g : FuncId) : Prop := ∀ (bs : Nat) (s size : Int) (val : Value) (w : World), rng .i64 s → rng .i64 size → w.heap[bs]? = some (.cells #[.int .i64 size] I.int (0, 0)) →
  Calls P g #[.int .i64 s, val, .pointer (some ⟨bs, 0, none⟩)] w fun e w' => e = .returned (.bool (decide (size ≤ IntKind.wrap .i64 (s * 64)))) ∧ w.grownBy w' none

theorem cut_of {P : Program} {I : DI} {g : FuncId} {fn : Func} {body : Code} (hf : P.funcs[g]? = some fn) (hb : fn.body = some body) (n : Nat) (hn : fn.ntmps = n) (h3 : 3 ≤ n)
    (hg : ∀ F s size, Go F n [(0, .one (.int .i64) s), (2, .ref (.int .i64) size)] [] (body.wp P (bodyPost P fn (Post F (fun _ => .one .bool (decide (size ≤ IntKind.wrap .i64 (s * 64)))) (fun _ => []))))) : CutOk P I g := fun bs s size val w hs hz hbs => by
  have hst : St ⟨w.os, w.tape, w.output, heapOf w, heapOf w, w.heap.size⟩ (heapOf w) w [] :=
    { os := rfl, tape := rfl, output := rfl, size := Nat.le_refl _, elder := Mem.le.refl _, fresh := fun k o e => .inl e, frame := fun k o e => e, mem := fun k o e => e, sep := ⟨fun _ => False, fun _ h => h, fun _ h => h.elim⟩ }
  have := enterV (vs := [.int .i64 s, val, .pointer (some ⟨bs, 0, none⟩)]) (F := ⟨w.os, w.tape, w.output, heapOf w, heapOf w, w.heap.size⟩) hf hb n hn [(0, .one (.int .i64) s), (2, .ref (.int .i64) size)] (by simpa using h3) (fun i t h => by
    match i, h with
    | 0, h => cases h; exact ⟨_, rfl, holds_int.2 ⟨rfl, hs⟩⟩
    | 2, h => cases h; exact ⟨_, rfl, ⟨bs, 0, none⟩, rfl, rfl, _, _, _, hbs, by simp [T.size], by simpa [T.size] using ⟨rfl, hz⟩⟩) (hg _ s size) hst
  refine this.mono ?_
  rintro e w' ⟨v, M', rfl, st, hv⟩
  exact ⟨by rw [holds_bool.1 hv], grown_of_lent rfl rfl rfl rfl rfl st⟩

/-- maps.DeleteFunc with that closure -/
def DelOk (P : Program) (I : DI) (k g : FuncId) : Prop := ∀ (b bs n : Nat) (size : Int) (lv : List (Int × Value)) (w : World), rng .i64 size → w.heap[bs]? = some (.cells #[.int .i64 size] I.int (0, 0)) → bs ≠ b → koks (.int .i64) lv → w.ownsMap P I.int rawR b n (dat (.int .i64) lv) →
  Calls P k #[.map (some b), .func (.func g) #[] #[.pointer (some ⟨bs, 0, none⟩)]] w fun e w' => e = .returned (.tuple #[]) ∧ w'.ownsMap P I.int rawR b n (dat (.int .i64) (lv.filter fun p => decide (IntKind.wrap .i64 (p.1 * 64) < size))) ∧ w.grownBy w' (some b)

theorem del_of {P : Program} {ρ : Go.Shelf.Ren} {I : DI} {g : FuncId} (L : Go.Proofs.SlLaysDf.n5 P ρ) (ht : ρ.t 26 = I.int) (hu : P.underlying I.int = some (.int .i64)) (eg : ∀ args w, (callFunc g args).run P w = .ok (.enter g args) w) (hc : CutOk P I g) : DelOk P I (ρ.f 5) g :=
  fun b bs n size lv w hz hbs hne hok hown => by
  have K : Keyed P (ρ.t 26) := by rw [ht]; exact int_keyed hu
  have := Go.Proofs.AnyDf.maps_DeleteFunc (P := P) (ρ := ρ) L K rawR (fun kl _ => match kl with | .int _ s => decide (size ≤ IntKind.wrap .i64 (s * 64)) | _ => false) g #[.pointer (some ⟨bs, 0, none⟩)] b n (dat (.int .i64) lv) w eg (by rw [ht]; exact hown)
    (fun W key val kl yd yp hg hk hR => by
      rw [ht] at hk
      obtain ⟨x, rfl, rfl, hw⟩ := Maps.keyOf_int_inv hu hk
      have hr : rng .i64 x := by simpa [Lit.wf, rng, lo, Sx.hi, IntKind.min, IntKind.max, IntKind.signed, IntKind.bits] using hw
      have hW : W.heap[bs]? = some (.cells #[.int .i64 size] I.int (0, 0)) := by
        rw [hg.block bs (heap_lt hbs) (by simpa using hne)]; exact hbs
      exact hc bs x size val W hr hz hW)
  refine this.mono ?_
  rintro e w' ⟨rfl, h2, h3⟩
  refine ⟨rfl, ?_, h3⟩
  rw [ht] at h2
  have e1 : Lib.deleteFuncD (fun kl (_ : DataW Value) => match kl with | .int _ s => decide (size ≤ IntKind.wrap .i64 (s * 64)) | _ => false) (dat (.int .i64) lv) = dat (.int .i64) (lv.filter fun p => decide (IntKind.wrap .i64 (p.1 * 64) < size)) := by
    simp only [Lib.deleteFuncD, List.filter_map]
    congr 2
    apply List.filter_congr
    intro p _
    show (!decide (size ≤ IntKind.wrap .i64 (p.1 * 64))) = _
    rw [← decide_not]
    exact decide_eq_decide.2 Int.not_le
  rw [e1] at h2
  exact h2

theorem RelKV.filt {kt vt : T} {M : Mem} (f : kt.D → Bool) : ∀ {a : List (kt.D × Value)} {b : List (kt.D × vt.D)}, RelKV M a b → RelKV M (a.filter fun p => f p.1) (b.filter fun p => f p.1)
  | [], [], _ => trivial
  | p :: r, q :: s, ⟨h1, h2, h3⟩ => by
    have ih := RelKV.filt f h3
    simp only [List.filter_cons, h1] at ih ⊢
    split
    · exact ⟨h1, h2, ih⟩
    · exact ih
  | [], _ :: _, h => h.elim
  | _ :: _, [], h => h.elim

section
variable {P : Program} {I : DI} {F : Fr} {n : Nat} {E E' : Env} {L : List Res} {ops : Array Oper} {Q : Exit → Act → World → Prop} {rest : List Oper}

theorem run_makeFunc {a : Act} {w : World} {g : FuncId} {x : Operand} {d : Nat} {ty : TypeId} {pos : String} {after : Array Edge} : (execOp a.eval ⟨some d, .makeFunc (.func g) #[] #[x], ty, pos, after, none⟩).run P w = .ok (.value (.func (.func g) #[] #[a.eval x])) w := by
  simp [execOp, Instr.makeFunc, run_bind, run_pure]

theorem get_del_ne : ∀ {E : Env} {d i : Nat} {t : TV}, i ≠ d → E.get i = some t → (E.del d).get i = some t
  | [], _, _, _, _, h => by simp [Env.get] at h
  | (j, u) :: r, d, i, t, hn, h => by
    simp only [Env.get] at h
    simp only [Env.del]
    split at h
    · rename_i hb
      have hj := Nat.eq_of_beq_eq_true hb
      have hd : Nat.beq j d = false := by
        cases hjd : Nat.beq j d with
        | false => rfl
        | true => exact absurd (hj.symm.trans (Nat.eq_of_beq_eq_true hjd)) hn
      rw [hd]; simp only [Env.get, hb]; exact h
    · rename_i hb
      split
      · exact get_del_ne hn h
      · simp only [Env.get, hb]; exact get_del_ne hn h

theorem Sep.pick {M : Mem} {w : World} {R : Res} : ∀ {L : List Res} {i : Nat} {V : Nat → Prop}, Sep M w L V → L[i]? = some R → ∃ S, R.sat M S w ∧ ∀ k, S k → V k
  | [], _, _, _, h => by simp at h
  | R0 :: L, 0, V, ⟨S, V', r, s, d, e⟩, hi => by
    simp only [List.getElem?_cons_zero, Option.some.injEq] at hi; subst hi
    exact ⟨S, r, fun k h => (e k).2 (.inl h)⟩
  | R0 :: L, i + 1, V, ⟨S, V', r, s, d, e⟩, hi => by
    obtain ⟨S2, h2, h3⟩ := Sep.pick s (by simpa using hi)
    exact ⟨S2, h2, fun k h => (e k).2 (.inr (h3 k h))⟩
/-- two resources lie apart -/
theorem Sep.two {M : Mem} {w : World} {R1 R2 : Res} : ∀ {L : List Res} {i j : Nat} {V : Nat → Prop}, Sep M w L V → L[i]? = some R1 → L[j]? = some R2 → i ≠ j → ∃ S1 S2, R1.sat M S1 w ∧ R2.sat M S2 w ∧ ∀ k, S1 k → ¬ S2 k
  | [], _, _, _, _, h, _, _ => by simp at h
  | R :: L, 0, 0, _, _, _, _, h => absurd rfl h
  | R :: L, 0, j + 1, V, ⟨S, V', r, s, d, e⟩, hi, hj, _ => by
    simp only [List.getElem?_cons_zero, Option.some.injEq] at hi; subst hi
    obtain ⟨S2, h2, h3⟩ := Sep.pick s (by simpa using hj)
    exact ⟨S, S2, r, h2, fun k h h' => d k h (h3 k h')⟩
  | R :: L, i + 1, 0, V, ⟨S, V', r, s, d, e⟩, hi, hj, _ => by
    simp only [List.getElem?_cons_zero, Option.some.injEq] at hj; subst hj
    obtain ⟨S2, h2, h3⟩ := Sep.pick s (by simpa using hi)
    exact ⟨S2, S, h2, r, fun k h h' => d k h' (h3 k h)⟩
  | R :: L, i + 1, j + 1, V, ⟨S, V', r, s, d, e⟩, hi, hj, h => Sep.two s (by simpa using hi) (by simpa using hj) (by omega)

/-- a resource is turned, and new blocks may stand behind all -/
theorem St.turnG {M : Mem} {w w' : World} (h : St F M w L) {R R' : Res} {i : Nat} (hi : L[i]? = some R) {b : Nat} (hg : w.grownBy w' (some b)) (hR : ∀ S, R.sat M S w → R'.sat M S w') (hB : ∀ S, R.sat M S w → S b) : St F M w' (L.set i R') := by
  obtain ⟨V, s, d⟩ := h.sep
  have hV : V b := by
    obtain ⟨S, hS, h3⟩ := Sep.pick s hi
    exact h3 b (hB S hS)
  have hw : ∀ k, k < w.heap.size → k ≠ b → w'.heap[k]? = w.heap[k]? := fun k hk hne => hg.block k hk (fun e => hne (by cases e; rfl))
  exact {
    os := hg.os.trans h.os, tape := hg.tape.trans h.tape, output := hg.output.trans h.output, size := Nat.le_trans h.size hg.size, elder := h.elder, fresh := h.fresh
    frame := fun k o e => by
      rw [hw k (h.flt e) (fun hb => by have := (d b hV).2; rw [← hb] at this; rw [this] at e; cases e)]; exact h.frame k o e
    mem := fun k o e => by
      rw [hw k (h.lt e) (fun hb => by have := (d b hV).1; rw [← hb] at this; rw [this] at e; cases e)]; exact h.mem k o e
    sep := ⟨V, Sep.turn (B := fun k => k = b) (Mem.le.refl _) hR (fun S hS k hk => by subst hk; exact hB S hS) (fun k hk hv => hw k hv hk) s hi, d⟩ }

/-- the closure, and the call of maps.DeleteFunc behind it -/
theorem r_delmap {k g : FuncId} (hd : DelOk P I k g) (hk : callable P k = true) {m x : Operand} {z z' v : Value} {bs : Nat} {l : List (Int × Int)} {size : Int} {dc d : Nat} {ty ty' : TypeId} {tys : Array TypeId} {pos pos' : String} {after after' : Array Edge} (i j : Nat)
    (hm : ev E m = some (.one (.raw z) v)) (hx : ev E x = some (.one (.raw z') (.pointer (some ⟨bs, 0, none⟩)))) (hi : L[i]? = some (Res.map P I.int (.int .i64) (.int .i64) v l)) (hj : L[j]? = some (Res.var bs I.int (.int .i64) size)) (hij : i ≠ j) (hne : m ≠ .tmp dc) (hdc : Nat.ble (dc + 1) n = true) (hdd : Nat.ble (d + 1) n = true) (hE : E.get dc = none)
    (hg : Go F n ((d, .tup []) :: E) (L.set i (Res.map P I.int (.int .i64) (.int .i64) v (l.filter fun p => decide (IntKind.wrap .i64 (p.1 * 64) < size)))) (wpList P ops Q rest)) :
    Go F n E L (wpList P ops Q (⟨some dc, .makeFunc (.func g) #[] #[x], ty, pos, after, none⟩ :: ⟨some d, .call ⟨.value (.func k), #[m, .tmp dc], tys⟩, ty', pos', after', none⟩ :: rest)) := fun M a w c => by
  have hmf : (execOp a.eval ⟨some dc, .makeFunc (.func g) #[] #[x], ty, pos, after, none⟩).run P w = .ok (.value (.func (.func g) #[] #[.pointer (some ⟨bs, 0, none⟩)])) w := by
    rw [run_makeFunc, (holds_raw.1 (ev_ok c hx)).1]
  refine step_val (d := dc) rfl (by simp [Region.wanted]) hmf ?_
  have hmv : (a.put (some dc) (.func (.func g) #[] #[.pointer (some ⟨bs, 0, none⟩)])).eval m = v := by
    rw [← (holds_raw.1 (ev_ok c hm)).1]
    cases m with
    | tmp q =>
      have : dc ≠ q := fun e => hne (by rw [e])
      simp [Act.put, Act.eval, this]
    | _ => rfl
  have hcv : (a.put (some dc) (.func (.func g) #[] #[.pointer (some ⟨bs, 0, none⟩)])).eval (.tmp dc) = .func (.func g) #[] #[.pointer (some ⟨bs, 0, none⟩)] := by
    have : dc < a.tmps.size := by rw [c.size]; exact Nat.le_of_ble_eq_true hdc
    simp [Act.put, Act.eval, this]
  have c1 := c.void (some dc) (.func (.func g) #[] #[.pointer (some ⟨bs, 0, none⟩)])
  have c2 : Cfg F M n E L (a.put (some dc) (.func (.func g) #[] #[.pointer (some ⟨bs, 0, none⟩)])) w := c1.less (fun q t h => by
    have hq : q ≠ dc := fun e => by rw [e, hE] at h; cases h
    exact get_del_ne hq h)
  generalize a.put (some dc) (.func (.func g) #[] #[.pointer (some ⟨bs, 0, none⟩)]) = a2 at hmv hcv c2 ⊢
  unfold wpList
  rw [if_pos (by simp [Region.wanted])]
  left
  unfold Oper.wp
  have hrun : (execOp a2.eval ⟨some d, .call ⟨.value (.func k), #[m, .tmp dc], tys⟩, ty', pos', after', none⟩).run P w = .ok (.enter k #[v, .func (.func g) #[] #[.pointer (some ⟨bs, 0, none⟩)]]) w := by
    have : (Act.eval a2 (.tmp dc)) = .func (.func g) #[] #[.pointer (some ⟨bs, 0, none⟩)] := hcv
    simp only [execOp, resolve, run_bind, run_pure, Deferred.ofValue, invoke]
    have e1 : a2.eval (Operand.func k) = .func (.func k) #[] #[] := rfl
    rw [e1]
    simp only [run_bind, run_pure]
    simp [hmv, hcv, run_callFunc hk]
  rw [hrun, Oper.upon_enter]
  obtain ⟨b, lv, rfl, hown, hrel, hok⟩ := map_val c2.st hi
  obtain ⟨V, s, _⟩ := c2.st.sep
  obtain ⟨S1, S2, ⟨b', _, e1, hS1, _⟩, ⟨hS2, cs, hcs, hrep⟩, hdis⟩ := Sep.two s hi hj hij
  cases e1
  have hbb : bs ≠ b := fun e => hdis b ((hS1 b).2 rfl) ((hS2 b).2 e.symm)
  obtain ⟨rfl, hrg⟩ : cs = [.int .i64 size] ∧ rng .i64 size := hrep
  have := hd b bs l.length size lv w hrg (by simpa using hcs) hbb (hrel.koks hok) hown
  refine this.mono ?_
  rintro e w' ⟨rfl, hown', hgr⟩
  refine hg M _ _ (c2.put (Mem.le.refl _) (c2.st.turnG hi hgr ?_ ?_) (Nat.le_of_ble_eq_true hdd) ⟨[], rfl, .nil⟩)
  · rintro S ⟨b', lv', e1, hS, hown0, hrel0, hok0⟩
    cases e1
    have hrel2 := hrel.filt (fun s => decide (IntKind.wrap .i64 (s * 64) < size))
    refine ⟨b, _, rfl, hS, ?_, hrel2, fun p hp => hok p (List.mem_filter.1 hp).1⟩
    have := ownsMap_tight hown'
    rw [← hrel2.len]; exact this
  · rintro S ⟨b', _, e1, hS, _⟩
    cases e1; exact (hS _).2 rfl

theorem r_deldirtyK {k g : FuncId} (hd : DelOk P I k g) (hk : callable P k = true) {m x : Operand} {z z' v : Value} {bs : Nat} {keys : List Int} {size : Int} {dc d : Nat} {ty ty' : TypeId} {tys : Array TypeId} {pos pos' : String} {after after' : Array Edge} (i j : Nat)
    (hm : ev E m = some (.one (.raw z) v)) (hx : ev E x = some (.one (.raw z') (.pointer (some ⟨bs, 0, none⟩)))) (hi : L[i]? = some (Res.dirty P I v keys)) (hj : L[j]? = some (Res.var bs I.int (.int .i64) size)) (hij : i ≠ j) (hne : m ≠ .tmp dc) (hdc : Nat.ble (dc + 1) n = true) (hdd : Nat.ble (d + 1) n = true) (hE : E.get dc = none)
    (hg : Go F n ((d, .tup []) :: E) (L.set i (Res.dirty P I v (cutKeys keys size))) (wpList P ops Q rest)) :
    Go F n E L (wpList P ops Q (⟨some dc, .makeFunc (.func g) #[] #[x], ty, pos, after, none⟩ :: ⟨some d, .call ⟨.value (.func k), #[m, .tmp dc], tys⟩, ty', pos', after', none⟩ :: rest)) := by
  have hlt : i < L.length := by
    rcases Nat.lt_or_ge i L.length with h | h
    · exact h
    · simp [List.getElem?_eq_none h] at hi
  refine r_undirty (P := P) (I := I) i hi fun l hl => ?_
  refine r_delmap (l := l) hd hk i j hm hx (by simp [hlt]) (by rw [List.getElem?_set_ne hij]; exact hj) hij hne hdc hdd hE ?_
  refine r_redirty (P := P) (I := I) (v := v) (l := l.filter fun p => decide (IntKind.wrap .i64 (p.1 * 64) < size)) (keys := cutKeys keys size) i (by simp [hlt]) ?_ ?_
  · rw [← hl, cutKeys, List.filter_map]; rfl
  · rw [List.set_set, List.set_set]; exact hg
end
end Sx
namespace Sx
open Go Go.Maps Go.Sort Go.RowKit

abbrev byt (x : List Int) : List UInt8 := x.map fun c => UInt8.ofNat c.toNat

theorem before_lt : ∀ {a b : List UInt8}, bytesBefore a b = true → a < b
  | [], [], h => by simp [bytesBefore] at h
  | [], _ :: _, _ => List.Lex.nil
  | _ :: _, [], h => by simp [bytesBefore] at h
  | x :: a, y :: b, h => by
    simp only [bytesBefore, Bool.or_eq_true, Bool.and_eq_true, decide_eq_true_eq, beq_iff_eq] at h
    rcases h with h | ⟨rfl, h⟩
    · exact List.Lex.rel h
    · exact List.Lex.cons (before_lt h)

theorem sort_str {xs ys : List (List Int)} (hb : ∀ x ∈ xs, byteOk x) (hp : xs.Perm ys) (hs : ys.Pairwise (fun a b => sLt a b = true)) : (xs.map byt).mergeSort (fun x y => decide (x ≤ y)) = ys.map byt := by
  have h1 := mergeSort_of_perm (hp.map byt)
  have hby : ∀ y ∈ ys, byteOk y := fun y hy => hb y (hp.mem_iff.2 hy)
  have h2 : (ys.map byt).Pairwise (fun a b => leB a b = true) := by
    rw [List.pairwise_map]
    refine hs.imp_of_mem fun {a b} ha hb' h => ?_
    rw [← sLt_before (hby a ha) (hby b hb')] at h
    simp only [leB, decide_eq_true_eq]
    exact List.le_of_lt (before_lt h)
  have h3 := List.mergeSort_of_pairwise h2
  exact h1.trans h3
theorem sort_int {xs ys : List Int} (hp : xs.Perm ys) (hs : ys.Pairwise (fun a b => a < b)) : xs.mergeSort (fun x y => decide (x ≤ y)) = ys := by
  have h1 := mergeSort_of_perm_i hp
  have h2 : ys.Pairwise (fun a b => leI a b = true) := hs.imp fun h => by simp only [leI, decide_eq_true_eq]; omega
  exact h1.trans (List.mergeSort_of_pairwise h2)

theorem repL_str {M : Mem} : ∀ {cs : List Value} {xs : List (List Int)}, RepL (Rep .str M) cs xs → cs = xs.map (fun x => Go.Proofs.encStr (byt x)) ∧ ∀ x ∈ xs, byteOk x ∧ x.length ≤ most
  | _, [], h => ⟨h, fun _ h => by cases h⟩
  | _, x :: xs, ⟨c1, c2, e, ⟨h1, h2⟩, h3⟩ => by
    obtain ⟨e2, h4⟩ := repL_str h3
    refine ⟨by rw [e, h1, e2]; rfl, fun y hy => ?_⟩
    rcases List.mem_cons.1 hy with rfl | hy
    · exact h2
    · exact h4 y hy
theorem repL_str_of {M : Mem} : ∀ {xs : List (List Int)}, (∀ x ∈ xs, byteOk x ∧ x.length ≤ most) → RepL (Rep .str M) (xs.map (fun x => Go.Proofs.encStr (byt x))) xs
  | [], _ => rfl
  | x :: xs, h => ⟨[Go.Proofs.encStr (byt x)], _, rfl, ⟨rfl, h x (by simp)⟩, repL_str_of fun y hy => h y (by simp [hy])⟩
theorem repL_int {M : Mem} {k : IntKind} : ∀ {cs : List Value} {xs : List Int}, RepL (Rep (.int k) M) cs xs → cs = xs.map (Value.int k) ∧ ∀ x ∈ xs, rng k x
  | _, [], h => ⟨h, fun _ h => by cases h⟩
  | _, x :: xs, ⟨c1, c2, e, ⟨h1, h2⟩, h3⟩ => by
    obtain ⟨e2, h4⟩ := repL_int h3
    refine ⟨by rw [e, h1, e2]; rfl, fun y hy => ?_⟩
    rcases List.mem_cons.1 hy with rfl | hy
    · exact h2
    · exact h4 y hy
theorem repL_int_of {M : Mem} {k : IntKind} : ∀ {xs : List Int}, (∀ x ∈ xs, rng k x) → RepL (Rep (.int k) M) (xs.map (Value.int k)) xs
  | [], _ => rfl
  | x :: xs, h => ⟨[Value.int k x], _, rfl, ⟨rfl, h x (by simp)⟩, repL_int_of fun y hy => h y (by simp [hy])⟩

theorem holds_cells {α : Type} [Inhabited α] {enc : α → Value} {w : World} {g : Nat} {cur : Array Value} {e : TypeId} {fr : Nat × Nat} {ss : List α} (hb : w.heap[g]? = some (.cells cur e fr)) (hf : unfrozen fr cur.size) (ht : cur.toList.take ss.length = ss.map enc) : Go.Sort.Holds enc w g 0 ss.toArray := by
  intro j hj
  have hj' : j < ss.length := by simpa using hj
  have h1 : (cur.toList.take ss.length)[j]? = (ss.map enc)[j]? := by rw [ht]
  rw [List.getElem?_take_of_lt hj'] at h1
  have hlt : j < cur.size := by
    rcases Nat.lt_or_ge j cur.size with h | h
    · exact h
    · rw [List.getElem?_eq_none (by simpa using h)] at h1
      simp [hj'] at h1
  refine ⟨?_, ?_⟩
  · simp only [World.cell?, hb, Nat.zero_add]
    simp only [Option.isSome_none, Bool.false_eq_true, if_false]
    rw [← Array.getElem?_toList, h1]
    simp [hj']
  · simp only [World.frozen?, hb, Nat.zero_add]
    have := hf j hlt
    simpa using this

/-- slices.Sort: whatever row it is handed comes back sorted -/
def SortOk (P : Program) (k : FuncId) {α : Type} [Inhabited α] (enc : α → Value) (le : α → α → Bool) : Prop :=
  (∀ (blk cap : Nat) (ss : List α) (w : World), Go.Sort.Holds enc w blk 0 ss.toArray → blk < w.heap.size → ss.length < 4611686018427387904 →
    Calls P k #[.slice (some ⟨blk, 0, none⟩) ss.length cap] w fun e w' => e = .returned (.tuple #[]) ∧ ∃ n os, w' = grow (putRow enc (Sort.ahead w n) blk 0 (ss.mergeSort le).toArray) os) ∧
  ∀ (p : Option Addr) (cap : Nat) (w : World), Calls P k #[.slice p 0 cap] w fun e w' => e = .returned (.tuple #[]) ∧ w' = w

theorem grown_row {α : Type} [Inhabited α] {enc : α → Value} {w : World} {g n : Nat} {os : Array Obj} (d : Array α) : w.grownBy (grow (putRow enc (Sort.ahead w n) g 0 d) os) (some g) := by
  refine ⟨rfl, rfl, rfl, by simp, fun k hk hne => ?_⟩
  rw [heap_grow_old _ _ (by simpa using hk)]
  have : g ≠ k := fun e => hne (by rw [e])
  simp [putRow, mapBlock, Sort.ahead, Array.getElem?_modify, this]
theorem heap_row {α : Type} [Inhabited α] {enc : α → Value} {w : World} {g n : Nat} {os : Array Obj} {cur : Array Value} {e : TypeId} {fr : Nat × Nat} (d : Array α) (hb : w.heap[g]? = some (.cells cur e fr)) :
    (grow (putRow enc (Sort.ahead w n) g 0 d) os).heap[g]? = some (.cells (putCells enc 0 d cur) e fr) := by
  have hg : g < w.heap.size := (Array.getElem?_eq_some_iff.1 hb).1
  rw [heap_grow_old _ _ (by simpa using hg)]
  simp [putRow, mapBlock, Sort.ahead, Array.getElem?_modify, hb, onCells]
theorem take_row {α : Type} [Inhabited α] {enc : α → Value} (cur : Array Value) (ts : List α) (h : ts.length ≤ cur.size) : (putCells enc 0 ts.toArray cur).toList.take ts.length = ts.map enc := by
  apply List.ext_getElem?
  intro j
  by_cases hj : j < ts.length
  · rw [List.getElem?_take_of_lt hj, Array.getElem?_toList]
    simp [putCells, hj, show j < cur.size by omega]
  · rw [List.getElem?_take_eq_none (by omega), List.getElem?_eq_none (by simp; omega)]

/-- the sort as a contract over a slice of the call's own -/
theorem sort_fn {P : Program} {k : FuncId} {e : TypeId} {t : T} (ht : t.size = 1) {α : Type} [Inhabited α] {enc : α → Value} {le : α → α → Bool} (hk : SortOk P k enc le) (f : t.D → α) {xs ys : List t.D} (hsort : (xs.map f).mergeSort le = ys.map f) (hlen : ys.length = xs.length) (hl : xs.length < 4611686018427387904)
    (hx : ∀ M cs, RepL (Rep t M) cs xs → cs = (xs.map f).map enc ∧ RepL (Rep t M) ((ys.map f).map enc) ys) (v : Value) :
    Fn P k [.one (.raw (.slice none 0 0)) v] [Res.own v e t xs] (fun _ => .tup []) (fun _ => [Res.own v e t ys]) := fun F w vs hst hsz hargs => by
  cases hargs with
  | cons hv hr =>
    cases hr
    obtain ⟨hvv, _⟩ := holds_raw.1 hv
    rw [hvv]
    clear hv hvv
    obtain ⟨S, hS⟩ := hst.res (i := 0) rfl
    by_cases hne : xs = []
    · subst hne
      obtain rfl : ys = [] := List.eq_nil_of_length_eq_zero hlen
      obtain ⟨a, cap, rfl⟩ : ∃ a cap, v = .slice a 0 cap := by
        rcases hS with ⟨⟨a, rfl⟩, _⟩ | ⟨b, cap, rfl, _⟩
        · exact ⟨_, _, rfl⟩
        · exact ⟨_, _, rfl⟩
      refine (hk.2 a cap w).mono ?_
      rintro e' w' ⟨rfl, rfl⟩
      exact ⟨_, F.base, rfl, hst, [], rfl, .nil⟩
    · rcases hS with ⟨_, h, _⟩ | ⟨b, cap, rfl, hS, c, fr, hb, hrep, hcs, hle, hmost, hfr⟩
      · exact absurd h hne
      rw [ht, Nat.mul_one] at hrep hcs
      obtain ⟨hc, hy⟩ := hx _ _ hrep
      have hc' : c.toList.take (xs.map f).length = (xs.map f).map enc := by rw [List.length_map]; exact hc
      have hH := holds_cells (enc := enc) hb hfr hc'
      have hlt : b < w.heap.size := heap_lt hb
      have := hk.1 b cap (xs.map f) w hH hlt (by rw [List.length_map]; exact hl)
      rw [List.length_map] at this
      refine this.mono ?_
      rintro e' w' ⟨rfl, n, os, rfl⟩
      rw [hsort]
      refine ⟨_, F.base, rfl, hst.turnG (i := 0) (R' := Res.own (.slice (some ⟨b, 0, none⟩) xs.length cap) e t ys) rfl (grown_row _) ?_ ?_, [], rfl, .nil⟩
      · rintro S' h'
        right
        have hSS : ∀ k, S' k ↔ k = b := by
          rcases h' with ⟨_, h, _⟩ | ⟨b', cap', h, h2, _⟩
          · exact absurd h hne
          · cases h; exact h2
        refine ⟨b, cap, by rw [hlen], hSS, _, fr, heap_row _ hb, ?_, ?_, by rw [hlen]; exact hle, by rw [hlen]; exact hmost, ?_⟩
        · rw [ht, Nat.mul_one]
          have := take_row (enc := enc) c (ys.map f) (by rw [List.length_map, hlen, hcs]; exact hle)
          rw [List.length_map] at this
          rw [this]
          exact hy
        · simp [putCells, hcs, ht]
        · have : (putCells enc 0 (ys.map f).toArray c).size = c.size := by simp [putCells]
          rw [this]; exact hfr
      · rintro S' h'
        rcases h' with ⟨_, h, _⟩ | ⟨b', cap', h, h2, _⟩
        · exact absurd h hne
        · cases h; exact (h2 _).2 rfl

theorem sortS_of {P : Program} {ρ : Go.Shelf.Ren} (L : Go.Proofs.SlLaysN.n54 P ρ) : SortOk P (ρ.f 54) Go.Proofs.encStr (fun x y => decide (x ≤ y)) :=
  ⟨fun blk cap ss w h1 h2 h3 => Go.Proofs.AnyG.slices_Sort_string L blk 0 cap ss w h1 h2 h3, fun p cap w => Go.Proofs.AnyG.slices_Sort_string_none L p cap w⟩
theorem sortI_of {P : Program} {ρ : Go.Shelf.Ren} (L : Go.Proofs.SlLaysN.n53 P ρ) : SortOk P (ρ.f 53) (Value.int .i64) (fun x y => decide (x ≤ y)) :=
  ⟨fun blk cap ss w h1 h2 h3 => Go.Proofs.AnyG.slices_Sort_int L blk 0 cap ss w h1 h2 h3, fun p cap w => Go.Proofs.AnyG.slices_Sort_int_none L p cap w⟩

theorem sortS_fn {P : Program} {k : FuncId} {e : TypeId} (hk : SortOk P k Go.Proofs.encStr (fun x y => decide (x ≤ y))) {xs ys : List (List Int)} (hp : xs.Perm ys) (hs : ys.Pairwise (fun a b => sLt a b = true)) (hb : ∀ x ∈ xs, byteOk x) (hl : xs.length < 4611686018427387904) (v : Value) :
    Fn P k [.one (.raw (.slice none 0 0)) v] [Res.own v e .str xs] (fun _ => .tup []) (fun _ => [Res.own v e .str ys]) :=
  sort_fn (t := .str) rfl hk byt (sort_str hb hp hs) hp.length_eq.symm hl (fun M cs h => by
    obtain ⟨h1, h2⟩ := repL_str h
    refine ⟨by rw [h1, List.map_map]; rfl, ?_⟩
    rw [List.map_map]
    exact repL_str_of fun y hy => h2 y (hp.mem_iff.2 hy)) v
theorem sortI_fn {P : Program} {k : FuncId} {e : TypeId} (hk : SortOk P k (Value.int .i64) (fun x y => decide (x ≤ y))) {xs ys : List Int} (hp : xs.Perm ys) (hs : ys.Pairwise (fun a b => a < b)) (hl : xs.length < 4611686018427387904) (v : Value) :
    Fn P k [.one (.raw (.slice none 0 0)) v] [Res.own v e (.int .i64) xs] (fun _ => .tup []) (fun _ => [Res.own v e (.int .i64) ys]) :=
  sort_fn (t := .int .i64) rfl hk id (by simpa using sort_int hp hs) hp.length_eq.symm hl (fun M cs h => by
    obtain ⟨h1, h2⟩ := repL_int h
    refine ⟨by rw [h1]; simp, ?_⟩
    simpa using repL_int_of (M := M) (k := .i64) (xs := ys) fun y hy => h2 y (hp.mem_iff.2 hy)) v
end Sx
namespace Sx
open Go Go.Maps Go.Sort Go.RowKit Go.Proofs

theorem own_sorted {P : Program} {w : World} {kid : TypeId} {b n' : Nat} {kt vt : T} {M : Mem} {lv : List (kt.D × Value)} {l : List (kt.D × vt.D)} (hk : ktChk P kt kid = true) (h : w.ownsMap P kid rawR b n' (dat kt lv)) (hr : RelKV M lv l) (ho : koks kt l) : (l.map (·.1)).Pairwise (fun a b => klt kt a b = true) := by
  obtain ⟨es, he, hp, _⟩ := h.canon (keyed_of hk)
  simp only [DataW.map.injEq] at he
  subst he
  rw [List.pairwise_map] at hp
  have hkeys : lv.map (·.1) = l.map (·.1) := by
    have : ∀ {lv : List (kt.D × Value)} {l : List (kt.D × vt.D)}, RelKV M lv l → lv.map (·.1) = l.map (·.1) := by
      intro lv
      induction lv with
      | nil => intro l hr; cases l with
        | nil => rfl
        | cons _ _ => exact hr.elim
      | cons p r ih =>
        intro l hr
        cases l with
        | nil => exact hr.elim
        | cons q s => rw [List.map_cons, List.map_cons, hr.1, ih hr.2.2]
    exact this hr
  have hlo := hr.koks ho
  rw [← hkeys, List.pairwise_map]
  refine hp.imp_of_mem fun {p q} hp' hq' h => ?_
  rw [klit_before (hlo p hp') (hlo q hq')] at h
  exact h

section
variable {P : Program} {F : Fr} {M : Mem} {n : Nat} {E : Env} {L : List Res} {X : Act → World → Prop}
theorem r_psorted {v : Value} {kid : TypeId} {kt vt : T} {l : List (kt.D × vt.D)} (hk : ktChk P kt kid = true) (i : Nat) (hi : L[i]? = some (Res.map P kid kt vt v l)) (g : koks kt l → (l.map (·.1)).Pairwise (fun a b => klt kt a b = true) → Go F n E L X) : Go F n E L X := fun M a w c => by
  obtain ⟨b, lv, rfl, hown, hrel, hok⟩ := map_val c.st hi
  exact g hok (own_sorted hk hown hrel hok) M a w c

/-- new blocks behind all -/
theorem St.junk {w w' : World} (h : St F M w L) (hg : w.grownBy w' none) : St F M w' L := by
  obtain ⟨V, s, d⟩ := h.sep
  have hw : ∀ k, k < w.heap.size → w'.heap[k]? = w.heap[k]? := fun k hk => hg.block k hk (by simp)
  exact {
    os := hg.os.trans h.os, tape := hg.tape.trans h.tape, output := hg.output.trans h.output, size := Nat.le_trans h.size hg.size, elder := h.elder, fresh := h.fresh
    frame := fun k o e => by rw [hw k (h.flt e)]; exact h.frame k o e
    mem := fun k o e => by rw [hw k (h.lt e)]; exact h.mem k o e
    sep := ⟨V, Sep.loc (fun k hk => hw k (s.has k hk)) s, d⟩ }
/-- .. of which one is owned -/
theorem St.fresh' {w w' : World} (h : St F M w L) (hg : w.grownBy w' none) {R : Res} {S : Nat → Prop} (hR : R.sat M S w') (hS : ∀ k, S k → w.heap.size ≤ k) : St F M w' (R :: L) := by
  have h' := h.junk hg
  obtain ⟨V, s, d⟩ := h.sep
  have hw : ∀ k, k < w.heap.size → w'.heap[k]? = w.heap[k]? := fun k hk => hg.block k hk (by simp)
  refine { h' with sep := ⟨fun k => S k ∨ V k, ⟨S, V, hR, Sep.loc (fun k hk => hw k (s.has k hk)) s, fun k hk hv => ?_, fun _ => Iff.rfl⟩, fun k hk => ?_⟩ }
  · have := hS k hk; have := s.has k hv; omega
  · rcases hk with hk | hk
    · have h1 := hS k hk
      constructor
      · cases hm : M k with
        | none => rfl
        | some o => have := h.lt hm; omega
      · cases hm : F.mem k with
        | none => rfl
        | some o => have := h.flt hm; omega
    · exact d k hk
end

/-- maps.Keys -/
def KeysOk (P : Program) (k g : FuncId) (mt : TypeId) : Prop := ∀ (w : World) (b : Nat), Calls P k #[.map (some b)] w fun e w' => e = .returned (.func (.func g) #[] #[.pointer (some ⟨w.heap.size, 0, none⟩)]) ∧ w' = w.alloc (.cells #[.map (some b)] mt)
/-- slices.Sorted of it -/
def SortedOk (P : Program) (k g : FuncId) (mt it : TypeId) : Prop := ∀ (w : World) (b nn : Nat) (D0 : DataW Value), w.ownsMap P it rawR b nn D0 → Maps.size D0 ≤ maxLen → Maps.size D0 * 8 ≤ 140737488355328 →
  Calls P k #[.func (.func g) #[] #[.pointer (some ⟨w.heap.size, 0, none⟩)]] (w.alloc (.cells #[.map (some b)] mt)) fun e w' => ∃ (v : Value) (ss : List Int), e = .returned v ∧ ss.Perm (intKeys D0) ∧
    w'.ownsRow (w.heap.size + 1) it 1 v ss.length ((ss.mergeSort (fun x y => decide (x ≤ y))).map encZ) ∧ Below (w.heap.size + 1) (w.alloc (.cells #[.map (some b)] mt)) w'

theorem keys_of {P : Program} {ρ : Go.Shelf.Ren} (L : SlLaysZI.n7 P ρ) : KeysOk P (ρ.f 7) (ρ.f 10) (ρ.t 23) := fun w b =>
  (callsIn_wide (n := 5)).1 (AnyZI.keys_in L Fence.wide 5 trivial rfl (some b) w)

theorem sorted_of {P : Program} {ρ7 ρ6 ρs : Go.Shelf.Ren} (L7 : SlLaysZI.n7 P ρ7) (L6 : SlLaysZI.n6 P ρ6) (Ls : SlLaysN.n53 P ρs) (hs : ρs.f 53 = ρ6.f 9) (ht : ρ6.t 26 = ρ7.t 26)
    (e9 : ∀ args w, (callFunc (ρ6.f 9) args).run P w = .ok (.enter (ρ6.f 9) args) w) (eg : ∀ args w, (callFunc (ρ7.f 10) args).run P w = .ok (.enter (ρ7.f 10) args) w) : SortedOk P (ρ6.f 6) (ρ7.f 10) (ρ7.t 23) (ρ7.t 26) := fun w b nn D0 hown hmax hbytes => by
  refine (callsIn_wide (n := 5)).1 ?_
  have hbl := hown.lt
  have hsort : ∀ m, AnyZI.SortsIn P ρ6 Fence.wide m := fun m =>
    ⟨fun blk off cap ss W hH hblk hsz => by rw [← hs]; exact callsIn_wide.2 (AnyG.slices_Sort_int Ls blk off cap ss W hH hblk hsz), fun p cap W => by rw [← hs]; exact callsIn_wide.2 (AnyG.slices_Sort_int_none Ls p cap W)⟩
  have hseq : SeqGives Fence.wide 2 P (ρ7.f 10) #[.pointer (some ⟨w.heap.size, 0, none⟩)] encZ (fun ss => ss.Perm (intKeys D0)) (Maps.size D0) (w.alloc (.cells #[.map (some b)] (ρ7.t 23))) :=
    AnyZI.keys_gives (ρ := ρ7) (R := rawR) { L7 with } Fence.wide _ trivial rfl (by omega) w.heap.size b nn D0 _ (by simp) (by simp) (by
      obtain ⟨es, clock, hb, Ft, hs, hD⟩ := hown
      exact ⟨es, clock, (Below.heap_alloc _ _ b hbl).trans hb, Ft, hs, hD⟩)
  have cS := AnyZI.sorted_in L6 Fence.wide 5 trivial trivial trivial trivial rfl (by omega) (hsort _) e9 (ρ7.f 10) #[.pointer (some ⟨w.heap.size, 0, none⟩)] trivial eg _ _ hmax hbytes _ hseq
  refine cS.mono ?_
  rintro e w' ⟨v, ss, h1, h2, h3, h4, h5⟩
  rw [ht] at h3
  have e1 : (w.alloc (.cells #[.map (some b)] (ρ7.t 23))).heap.size = w.heap.size + 1 := by simp
  rw [e1] at h3 h5
  exact ⟨v, ss, h1, h2, h3, h5⟩

section
variable {P : Program} {I : DI} {F : Fr} {n : Nat} {E : Env} {L : List Res} {ops : Array Oper} {Q : Exit → Act → World → Prop} {rest : List Oper}

theorem dat_intKeys (l : List (Int × Value)) : intKeys (dat (.int .i64) l) = l.map (·.1) := by
  simp only [intKeys, dat, List.map_map]; rfl
theorem dat_size {kt : T} (l : List (kt.D × Value)) : Maps.size (dat kt l) = l.length := by
  simp [Maps.size, dat]

theorem r_sortedkeys {kk ks g : FuncId} {mt : TypeId} (hK : KeysOk P kk g mt) (hS : SortedOk P ks g mt I.int) (hk1 : callable P kk = true) (hk2 : callable P ks = true) (hkt : ktChk P (.int .i64) I.int = true) {m : Operand} {z v : Value} {keys : List Int} {d1 d2 : Nat} {ty ty' : TypeId} {tys tys' : Array TypeId} {pos pos' : String} {after after' : Array Edge} (i : Nat)
    (hm : ev E m = some (.one (.raw z) v)) (hi : L[i]? = some (Res.dirty P I v keys)) (hlen : keys.length * 8 ≤ 140737488355328) (hd1 : Nat.ble (d1 + 1) n = true) (hd2 : Nat.ble (d2 + 1) n = true) (hE : E.get d1 = none)
    (hg : ∀ v', Go F n ((d2, .one (.raw (.slice none 0 0)) v') :: E) (Res.own v' I.int (.int .i64) keys :: L) (wpList P ops Q rest)) :
    Go F n E L (wpList P ops Q (⟨some d1, .call ⟨.value (.func kk), #[m], tys⟩, ty, pos, after, none⟩ :: ⟨some d2, .call ⟨.value (.func ks), #[.tmp d1], tys'⟩, ty', pos', after', none⟩ :: rest)) := by
  have hlt : i < L.length := by
    rcases Nat.lt_or_ge i L.length with h | h
    · exact h
    · simp [List.getElem?_eq_none h] at hi
  refine r_undirty (P := P) (I := I) i hi fun l hl => ?_
  have hi' : (L.set i (Res.map P I.int (.int .i64) (.int .i64) v l))[i]? = some (Res.map P I.int (.int .i64) (.int .i64) v l) := by simp [hlt]
  have hback : ∀ v', Go F n ((d2, .one (.raw (.slice none 0 0)) v') :: E) (Res.own v' I.int (.int .i64) keys :: L.set i (Res.map P I.int (.int .i64) (.int .i64) v l)) (wpList P ops Q rest) := fun v' => by
    refine r_redirty (P := P) (I := I) (v := v) (l := l) (keys := keys) (i + 1) (by simp [hlt]) hl ?_
    rw [List.set_cons_succ, List.set_set]
    have : L.set i (Res.dirty P I v keys) = L := by
      apply List.ext_getElem?
      intro j
      rw [List.getElem?_set]
      split
      · rename_i h; subst h; exact hi.symm
      · rfl
    rw [this]; exact hg v'
  generalize L.set i (Res.map P I.int (.int .i64) (.int .i64) v l) = L2 at hi' hback
  intro M a w c
  obtain ⟨b, lv, rfl, hown, hrel, hok⟩ := map_val c.st hi'
  have hmv := (holds_raw.1 (ev_ok c hm)).1
  have hsorted := own_sorted hkt hown hrel hok
  have hkeys : lv.map (·.1) = keys := by
    have : ∀ {lv : List (Int × Value)} {l : List (Int × Int)}, RelKV (kt := .int .i64) (vt := .int .i64) M lv l → lv.map (·.1) = l.map (·.1) := by
      intro lv
      induction lv with
      | nil => intro l hr; cases l with
        | nil => rfl
        | cons _ _ => exact hr.elim
      | cons p r ih =>
        intro l hr
        cases l with
        | nil => exact hr.elim
        | cons q s => rw [List.map_cons, List.map_cons, hr.1, ih hr.2.2]
    rw [← hl]; exact this hrel
  have hll : lv.length = keys.length := by rw [← hkeys, List.length_map]
  -- maps.Keys
  unfold wpList
  rw [if_pos (by simp [Region.wanted])]
  left
  unfold Oper.wp
  have hrun : (execOp a.eval ⟨some d1, .call ⟨.value (.func kk), #[m], tys⟩, ty, pos, after, none⟩).run P w = .ok (.enter kk #[.map (some b)]) w := by
    simp only [execOp, resolve, run_bind, run_pure, Deferred.ofValue, invoke]
    have e1 : a.eval (Operand.func kk) = .func (.func kk) #[] #[] := rfl
    rw [e1]
    simp only [run_bind, run_pure]
    simp [hmv, run_callFunc hk1]
  rw [hrun, Oper.upon_enter]
  refine (hK w b).mono ?_
  rintro e w1 ⟨rfl, rfl⟩
  have hga : w.grownBy (w.alloc (.cells #[.map (some b)] mt)) none := ⟨rfl, rfl, rfl, by simp, fun k hk _ => Below.heap_alloc _ _ k hk⟩
  have c1 := c.void (some d1) (.func (.func g) #[] #[.pointer (some ⟨w.heap.size, 0, none⟩)])
  have hcv : (a.put (some d1) (.func (.func g) #[] #[.pointer (some ⟨w.heap.size, 0, none⟩)])).eval (.tmp d1) = .func (.func g) #[] #[.pointer (some ⟨w.heap.size, 0, none⟩)] := by
    have : d1 < a.tmps.size := by rw [c.size]; exact Nat.le_of_ble_eq_true hd1
    simp [Act.put, Act.eval, this]
  have c2 : Cfg F M n E L2 (a.put (some d1) (.func (.func g) #[] #[.pointer (some ⟨w.heap.size, 0, none⟩)])) w := c1.less (fun q t h => by
    have hq : q ≠ d1 := fun e => by rw [e, hE] at h; cases h
    exact get_del_ne hq h)
  show wpList P ops Q _ (a.put (some d1) (.func (.func g) #[] #[.pointer (some ⟨w.heap.size, 0, none⟩)])) _
  generalize a.put (some d1) (.func (.func g) #[] #[.pointer (some ⟨w.heap.size, 0, none⟩)]) = a2 at hcv c2 ⊢
  -- slices.Sorted
  unfold wpList
  rw [if_pos (by simp [Region.wanted])]
  left
  unfold Oper.wp
  have hrun2 : (execOp a2.eval ⟨some d2, .call ⟨.value (.func ks), #[.tmp d1], tys'⟩, ty', pos', after', none⟩).run P (w.alloc (.cells #[.map (some b)] mt)) = .ok (.enter ks #[.func (.func g) #[] #[.pointer (some ⟨w.heap.size, 0, none⟩)]]) (w.alloc (.cells #[.map (some b)] mt)) := by
    simp only [execOp, resolve, run_bind, run_pure, Deferred.ofValue, invoke]
    have e1 : a2.eval (Operand.func ks) = .func (.func ks) #[] #[] := rfl
    rw [e1]
    simp only [run_bind, run_pure]
    simp [hcv, run_callFunc hk2]
  rw [hrun2, Oper.upon_enter]
  refine (hS w b l.length (dat (.int .i64) lv) hown (by rw [dat_size, hll]; unfold maxLen; omega) (by rw [dat_size, hll]; exact hlen)).mono ?_
  rintro e w' ⟨v', ss, rfl, hperm, hrow, hbel⟩
  rw [dat_intKeys, hkeys] at hperm
  have hsrt : ss.mergeSort (fun x y => decide (x ≤ y)) = keys := sort_int hperm (by
    rw [hl] at hsorted
    exact hsorted.imp fun h => by simpa [klt] using h)
  rw [hsrt] at hrow
  have hgw : w.grownBy w' none := by
    refine ⟨hbel.os, hbel.tape, hbel.output, Nat.le_trans (by simp) hbel.size, fun k hk _ => ?_⟩
    rw [hbel.block k (by omega)]; exact Below.heap_alloc _ _ k hk
  have hint : ∀ x ∈ keys, rng .i64 x := fun x hx => by
    rw [← hl] at hx
    obtain ⟨p, hp, rfl⟩ := List.mem_map.1 hx
    exact hok p hp
  refine hback v' M _ _ (c2.put (Mem.le.refl _) ?_ (Nat.le_of_ble_eq_true hd2) ?_)
  · obtain ⟨hlen', hcase⟩ := hrow
    rcases hcase with ⟨rfl, h0⟩ | ⟨g', cap, cur, rfl, hbase, hgb, r1, r2, r3, r4⟩
    · have : keys = [] := by
        have := hperm.length_eq
        exact List.eq_nil_of_length_eq_zero (by omega)
      exact c2.st.fresh' hgw (S := fun _ => False) (.inl ⟨⟨none, rfl⟩, this, fun _ h => h⟩) (fun _ h => h.elim)
    · refine c2.st.fresh' hgw (S := fun k => k = g') (.inr ⟨g', cap, ?_⟩) (fun k hk => by omega)
      have hle := hperm.length_eq
      refine ⟨by rw [hle], fun k => Iff.rfl, cur, (0, 0), hgb, ?_, by rw [r3], by omega, by simp only [most]; unfold maxLen at r2; omega, fun i _ => by simp⟩
      have e2 : (T.int IntKind.i64).size = 1 := rfl
      rw [e2, ← hle, r4]
      exact repL_int_of hint
  · refine holds_raw.2 ⟨rfl, ?_⟩
    rcases hrow.2 with ⟨rfl, _⟩ | ⟨g', cap, cur, rfl, _⟩ <;> rfl

/-- the names of the files rise -/
theorem r_dsorted {X : Act → World → Prop} {mv : Value} {fs : List (List Int × FileS)} (hk : ktChk P .str I.str = true) (g : koks .str fs → (fs.map (·.1)).Pairwise (fun a b => sLt a b = true) → Go F n E (Res.dfiles P I mv fs :: L) X) : Go F n E (Res.dfiles P I mv fs :: L) X := fun M a w c => by
  obtain ⟨S, es, hs⟩ := c.st.res (i := 0) rfl
  obtain ⟨A, B, ⟨h1, _⟩, hs2, _, _⟩ := hs
  obtain ⟨A2, B2, ⟨b, lv, rfl, hA, hown, hrel, hok⟩, _⟩ := hs2
  have h2 := own_sorted hk hown hrel hok
  rw [pmap_keys] at h2
  refine g ?_ ?_ M a w c
  · rw [h1]; exact pmap_koks.2 (pmap_koks.1 hok)
  · rw [h1, pmap_keys]
    exact h2
end
end Sx
namespace Sx
open Go

theorem sLt_irr : ∀ a : List Int, sLt a a = false
  | [] => rfl
  | a :: r => by simp [sLt, sLt_irr r]
theorem sLt_tot : ∀ {a b : List Int}, sLt a b = false → sLt b a = false → a = b
  | [], [], _, _ => rfl
  | [], _ :: _, h, _ => by simp [sLt] at h
  | _ :: _, [], _, h => by simp [sLt] at h
  | a :: r, b :: s, h, g => by
    simp only [sLt, Bool.or_eq_false_iff, decide_eq_false_iff_not, Bool.and_eq_false_iff, beq_eq_false_iff_ne] at h g
    have e : a = b := by omega
    subst e
    rw [sLt_tot (h.2.resolve_left (fun h => h rfl)) (g.2.resolve_left (fun h => h rfl))]
theorem sLt_asym : ∀ {a b : List Int}, sLt a b = true → sLt b a = false
  | [], [], h => by simp [sLt] at h
  | [], _ :: _, _ => rfl
  | _ :: _, [], h => by simp [sLt] at h
  | a :: r, b :: s, h => by
    simp only [sLt, Bool.or_eq_true, Bool.and_eq_true, decide_eq_true_eq, beq_iff_eq] at h
    simp only [sLt, Bool.or_eq_false_iff, decide_eq_false_iff_not, Bool.and_eq_false_iff, beq_eq_false_iff_ne]
    rcases h with h | ⟨h, h2⟩
    · exact ⟨by omega, .inl (by omega)⟩
    · exact ⟨by omega, .inr (sLt_asym h2)⟩
theorem sLt_tr : ∀ {a b c : List Int}, sLt a b = true → sLt b c = true → sLt a c = true
  | [], _, [], _, h => by cases ‹List Int› <;> simp [sLt] at h
  | [], _, _ :: _, _, _ => rfl
  | _ :: _, [], _, h, _ => by simp [sLt] at h
  | _ :: _, _ :: _, [], _, h => by simp [sLt] at h
  | a :: r, b :: s, c :: t, h, g => by
    simp only [sLt, Bool.or_eq_true, Bool.and_eq_true, decide_eq_true_eq, beq_iff_eq] at h g ⊢
    rcases h with h | ⟨h, h2⟩
    · rcases g with g | ⟨g, _⟩
      · exact .inl (by omega)
      · exact .inl (by omega)
    · rcases g with g | ⟨g, g2⟩
      · exact .inl (by omega)
      · exact .inr ⟨by omega, sLt_tr h2 g2⟩
theorem klt_str (a b : List Int) : klt .str a b = sLt a b := rfl
theorem spins_comm {V : Type} {a b : List Int} (h : a ≠ b) (v w : V) : ∀ l : List (List Int × V), pins .str a v (pins .str b w l) = pins .str b w (pins .str a v l)
  | [] => by
    have hab : (sLt a b = true ∧ sLt b a = false) ∨ (sLt a b = false ∧ sLt b a = true) := by
      rcases Bool.eq_false_or_eq_true (sLt a b) with h1 | h1
      · exact .inl ⟨h1, sLt_asym h1⟩
      · rcases Bool.eq_false_or_eq_true (sLt b a) with h2 | h2
        · exact .inr ⟨h1, h2⟩
        · exact absurd (sLt_tot h1 h2) h
    rcases hab with ⟨h1, h2⟩ | ⟨h1, h2⟩ <;> simp [pins, klt_str, h1, h2]
  | y :: l => by
    have ih := spins_comm h v w l
    have hab : (sLt a b = true ∧ sLt b a = false) ∨ (sLt a b = false ∧ sLt b a = true) := by
      rcases Bool.eq_false_or_eq_true (sLt a b) with h1 | h1
      · exact .inl ⟨h1, sLt_asym h1⟩
      · rcases Bool.eq_false_or_eq_true (sLt b a) with h2 | h2
        · exact .inr ⟨h1, h2⟩
        · exact absurd (sLt_tot h1 h2) h
    rcases Bool.eq_false_or_eq_true (sLt a y.1) with ha | ha
    · rcases Bool.eq_false_or_eq_true (sLt b y.1) with hb | hb
      · rcases hab with ⟨h1, h2⟩ | ⟨h1, h2⟩ <;> simp [pins, klt_str, h1, h2, ha, hb]
      · have h2 : sLt b a = false := by
          rcases hab with ⟨_, h2⟩ | ⟨_, h2⟩
          · exact h2
          · rw [sLt_tr h2 ha] at hb; cases hb
        simp [pins, klt_str, ha, hb, h2]
    · rcases Bool.eq_false_or_eq_true (sLt b y.1) with hb | hb
      · have h2 : sLt a b = false := by
          rcases hab with ⟨h2, _⟩ | ⟨h2, _⟩
          · rw [sLt_tr h2 hb] at ha; cases ha
          · exact h2
        simp [pins, klt_str, ha, hb, h2]
      · simp [pins, klt_str, ha, hb, ih]
theorem spget_pins_ne {V : Type} {a b : List Int} (h : a ≠ b) (v : V) : ∀ l : List (List Int × V), pget .str b (pins .str a v l) = pget .str b l
  | [] => by simp [pins, pget, keq, h]
  | y :: l => by
    have ih := spget_pins_ne h v l
    simp only [pins]
    split
    · simp [pget, List.find?_cons, keq, h]
    · simp only [pget, List.find?_cons] at ih ⊢
      cases keq .str y.1 b with
      | true => rfl
      | false => exact ih
theorem spins_len {V : Type} {a : List Int} (v : V) : ∀ l : List (List Int × V), (pins .str a v l).length = l.length + 1
  | [] => rfl
  | y :: l => by
    simp only [pins]
    split
    · rfl
    · simp [spins_len v l]
theorem spput_new {V : Type} {a : List Int} {v : V} {l : List (List Int × V)} (h : pget .str a l = none) : pput .str a v l = pins .str a v l := by unfold pput; rw [pdel_none h]

/-- the names rise -/
def Srt {V : Type} (l : List (List Int × V)) : Prop := (l.map (·.1)).Pairwise (fun a b => sLt a b = true)
theorem srt_tail {V : Type} {p : List Int × V} {l : List (List Int × V)} (h : Srt (p :: l)) : Srt l := (List.pairwise_cons.1 h).2
theorem srt_head {V : Type} {p q : List Int × V} {l : List (List Int × V)} (h : Srt (p :: l)) (hq : q ∈ l) : sLt p.1 q.1 = true := (List.pairwise_cons.1 h).1 _ (List.mem_map.2 ⟨q, hq, rfl⟩)
theorem srt_cons {V : Type} {p : List Int × V} {l : List (List Int × V)} (h : Srt l) (hp : ∀ q ∈ l, sLt p.1 q.1 = true) : Srt (p :: l) := List.pairwise_cons.2 ⟨fun k hk => by
  obtain ⟨q, hq, rfl⟩ := List.mem_map.1 hk
  exact hp q hq, h⟩
theorem mem_pins {V : Type} {a : List Int} {v : V} {q : List Int × V} : ∀ {l : List (List Int × V)}, q ∈ pins .str a v l → q = (a, v) ∨ q ∈ l
  | [], h => by simp [pins] at h; exact .inl h
  | y :: l, h => by
    simp only [pins] at h
    split at h
    · rcases List.mem_cons.1 h with h | h
      · exact .inl h
      · exact .inr h
    · rcases List.mem_cons.1 h with h | h
      · exact .inr (by simp [h])
      · rcases mem_pins h with h | h
        · exact .inl h
        · exact .inr (by simp [h])
theorem srt_pins {V : Type} {a : List Int} {v : V} : ∀ {l : List (List Int × V)}, Srt l → (∀ q ∈ l, q.1 ≠ a) → Srt (pins .str a v l)
  | [], _, _ => by simp [Srt, pins]
  | y :: l, h, hn => by
    simp only [pins]
    by_cases hy : klt .str a y.1 = true
    · rw [if_pos hy]
      refine srt_cons h fun q hq => ?_
      rcases List.mem_cons.1 hq with rfl | hq
      · exact hy
      · exact sLt_tr hy (srt_head h hq)
    · rw [if_neg hy]
      have hya : sLt y.1 a = true := by
        rcases Bool.eq_false_or_eq_true (sLt y.1 a) with h1 | h1
        · exact h1
        · exact absurd (sLt_tot h1 (by rw [klt_str] at hy; simpa using hy)) (hn y (by simp))
      refine srt_cons (srt_pins (srt_tail h) fun q hq => hn q (by simp [hq])) fun q hq => ?_
      rcases mem_pins hq with rfl | hq
      · exact hya
      · exact srt_head h hq
theorem srt_filter {V : Type} {p : List Int × V → Bool} {l : List (List Int × V)} (h : Srt l) : Srt (l.filter p) := by
  unfold Srt at *
  rw [List.pairwise_map] at *
  exact h.filter _
theorem srt_del {V : Type} {a : List Int} {l : List (List Int × V)} (h : Srt l) : Srt (pdel .str a l) := srt_filter h
theorem srt_put {V : Type} {a : List Int} {v : V} {l : List (List Int × V)} (h : Srt l) : Srt (pput .str a v l) := by
  refine srt_pins (srt_del h) fun q hq => ?_
  have := (List.mem_filter.1 hq).2
  simpa [keq] using this
/-- behind all others -/
theorem pins_last {V : Type} {a : List Int} {v : V} : ∀ {l : List (List Int × V)}, (∀ q ∈ l, sLt q.1 a = true) → pins .str a v l = l ++ [(a, v)]
  | [], _ => rfl
  | y :: l, h => by
    simp only [pins]
    rw [if_neg (by rw [klt_str, sLt_asym (h y (by simp))]; decide), pins_last fun q hq => h q (by simp [hq])]
    rfl
end Sx
namespace Sx
open Go Go.Maps Go.RowKit

/-- a variable holds this -/
def VarIs (b : Nat) (e : TypeId) (t : T) (x : t.D) (w : World) : Prop := ∃ (cs : List Value) (M : Mem), w.heap[b]? = some (.cells cs.toArray e (0, 0)) ∧ Rep t M cs x
/-- two variables -/
def Two (b1 : Nat) (e1 : TypeId) (t1 : T) (x1 : t1.D) (b2 : Nat) (e2 : TypeId) (t2 : T) (x2 : t2.D) (w : World) : Prop := VarIs b1 e1 t1 x1 w ∧ VarIs b2 e2 t2 x2 w

theorem two_l {b1 b2 : Nat} {e1 e2 : TypeId} {t1 t2 : T} {x1 : t1.D} {x2 : t2.D} : ∀ w, Two b1 e1 t1 x1 b2 e2 t2 x2 w → VarIs b1 e1 t1 x1 w := fun _ h => h.1
theorem two_r {b1 b2 : Nat} {e1 e2 : TypeId} {t1 t2 : T} {x1 : t1.D} {x2 : t2.D} : ∀ w, Two b1 e1 t1 x1 b2 e2 t2 x2 w → VarIs b2 e2 t2 x2 w := fun _ h => h.2

section
variable {P : Program} {Tb : Tab} {F : Fr} {n : Nat} {E E' : Env} {L : List Res} {ops : Array Oper} {Q : Exit → Act → World → Prop} {S : World → Prop}

theorem two_st {b1 b2 : Nat} {e1 e2 : TypeId} {t1 t2 : T} {x1 : t1.D} {x2 : t2.D} (i j : Nat) (hi : L[i]? = some (Res.var b1 e1 t1 x1)) (hj : L[j]? = some (Res.var b2 e2 t2 x2)) : ∀ M w, St F M w L → Two b1 e1 t1 x1 b2 e2 t2 x2 w := fun M w st => by
  obtain ⟨cs, hb, hr⟩ := st.var hi
  obtain ⟨cs2, hb2, hr2⟩ := st.var hj
  exact ⟨⟨cs, M, hb, hr⟩, ⟨cs2, M, hb2, hr2⟩⟩

theorem h_start {id : Nat} {l : List Oper} (S : World → Prop) (hm : P.follows .mixedOrders = true) (g : Go F n E L (wpAnyH P .any l.toArray Q S l.toArray.size (Array.replicate l.toArray.size false))) : Go F n E L ((Code.region id l.toArray true).wp P Q) :=
  fun M a _ c => wp_region_held (S := S) hm (g M a _ { c with st := c.st.drew })

theorem h_take {fuel i : Nat} {op : Op} {d : Nat} {ty : TypeId} {pos : String} {after : Array Edge} {listed : Array Bool} {t : TV} (hQ : Blind Q) (hi : ops[i]? = some ⟨some d, op, ty, pos, after, none⟩) (hs : Region.noSelect ops = true)
    (hr : (Region.ready .any ops listed).contains i = true) (hf : Region.free .any ops listed i = true) (hS : ∀ M w, St F M w L → S w) (h : Yields (fun _ w' => S w') P F n E L op t) (hd : Nat.ble (d + 1) n = true)
    (g : Go F n ((d, t) :: E) L (wpAnyH P .any ops Q S fuel (listed.setIfInBounds i true))) : Go F n E L (wpAnyH P .any ops Q S (fuel + 1) listed) := fun M a w c => by
  obtain ⟨v, hv, hrun⟩ := h ⟨some d, op, ty, pos, after, none⟩ rfl M a w c
  refine wpAnyH_take (oi := ⟨some d, op, ty, pos, after, none⟩) (v := v) hi hs hf hr (fun ch a w h => hQ ch a _ _ w h) (.inl ⟨by simp [Region.wanted], fun w' hw' => hrun w' hw'⟩) (hS _ _ c.st) ?_
  exact g M _ w (c.put (Mem.le.refl _) c.st (Nat.le_of_ble_eq_true hd) hv)

theorem y_held {x : Operand} {z : Value} {b off : Nat} {e : TypeId} {t u : T} {xv : t.D} {tid : TypeId} (hV : ∀ w, S w → VarIs b e t xv w) (i : Nat) (p : Pth t u) (hfl : t.flat = true) (hx : ev E x = some (.one (.raw z) (.pointer (some ⟨b, off, none⟩)))) (hi : L[i]? = some (Res.var b e t xv))
    (hp : p.off = off) (hok : p.ok) (ht : tyChk P u tid = true) : Yields (fun _ w' => S w') P F n E L (.load tid x) (.one u (p.get xv)) := fun o ho M a w c => by
  obtain ⟨cs, hb, hr⟩ := c.st.var hi
  have hl := hr.size
  have hf := p.fits hok
  have hrep := Rep.get p hok hr
  rw [hp] at hrep hf
  refine ⟨mk u ((cs.drop off).take u.size), ⟨_, rfl, hrep⟩, fun w' hs => ?_⟩
  obtain ⟨cs', M', hb', hr'⟩ := hV w' hs
  obtain rfl : cs' = cs := Rep.unique hfl hr' hr
  have key := run_loadVar' (P := P) (w := w') ht hb' (by simp [hl]; exact hf) (M := M) (x := p.get xv) (by simpa using hrep)
  obtain ⟨dst, op, ty, pos, after, guard⟩ := o
  simp only at ho; subst ho
  have h1 := (holds_raw.1 (ev_ok c hx)).1
  exact run_val (by rw [h1]; simp only [Instr.loadAt, Instr.sureAddr, run_bind, run_pure]; simpa using key)

theorem h_one {fuel i : Nat} {o : Oper} {listed : Array Bool} (hr : Region.ready .any ops listed = [i]) (hi : ops[i]? = some o) (g : Go F n E L (wpList P ops (Exit.then (fun a w => S w ∧ wpAnyH P .any ops Q S fuel (listed.setIfInBounds i true) a w) Q) [o])) :
    Go F n E L (wpAnyH P .any ops Q S (fuel + 1) listed) := fun M a w c => by
  refine wpAnyH_all hr (by simp) fun j hj => ?_
  obtain rfl := List.mem_singleton.1 hj
  exact wpOp_of_list hi (g M a w c)
theorem h_in {fuel : Nat} {listed : Array Bool} (hS : ∀ M w, St F M w L → S w) (g : Go F n E L (wpAnyH P .any ops Q S fuel listed)) : Go F n E L (fun a w => S w ∧ wpAnyH P .any ops Q S fuel listed a w) := fun M a w c => ⟨hS _ _ c.st, g M a w c⟩
theorem h_end {listed : Array Bool} (hr : Region.ready .any ops listed = []) (g : Go F n E L (Q .normal)) : Go F n E L (wpAnyH P .any ops Q S 0 listed) := fun M a w c => ⟨hr, g M a w c⟩
end

/-! ### guards -/
section
variable {P : Program} {F : Fr} {n : Nat} {E : Env} {L : List Res} {ops : Array Oper} {Q : Exit → Act → World → Prop} {S : World → Prop}
theorem h_bcase {X : Act → World → Prop} {d : Nat} {b : Bool} (hE : E.get d = some (.one .bool b)) (g1 : b = true → Go F n ((d, .one .bool true) :: E) L X) (g2 : b = false → Go F n ((d, .one .bool false) :: E) L X) : Go F n E L X := fun M a w c => by
  have more : ∀ v : Bool, b = v → Cfg F M n ((d, .one .bool v) :: E) L a w := fun v hv => by
    have env : ∀ i t, Env.get ((d, TV.one T.bool v) :: E) i = some t → ∃ u, a.tmps[i]? = some u ∧ t.holds M u := fun i t h => by
      simp only [Env.get] at h
      split at h
      · rename_i hb
        obtain rfl := Nat.eq_of_beq_eq_true hb
        cases h
        rw [← hv]; exact c.env _ _ hE
      · exact c.env i t h
    exact ⟨c.st, c.defers, c.size, env⟩
  cases b with
  | true => exact g1 rfl M a w (more true rfl)
  | false => exact g2 rfl M a w (more false rfl)
/-- a guarded operation that is not wanted -/
theorem h_skip {fuel i j dj d : Nat} {want : Bool} {op : Op} {ty : TypeId} {pos : String} {after : Array Edge} {listed : Array Bool} (hQ : Blind Q) (hi : ops[i]? = some ⟨some d, op, ty, pos, after, some (j, want)⟩) (hs : Region.noSelect ops = true)
    (hr : (Region.ready .any ops listed).contains i = true) (hf : Region.free .any ops listed i = true) (hS : ∀ M w, St F M w L → S w) (hd : (ops[j]?).bind (·.dst) = some dj) (hE : E.get dj = some (.one .bool (!want))) (hn : E.get d = none)
    (g : Go F n E L (wpAnyH P .any ops Q S fuel (listed.setIfInBounds i true))) : Go F n E L (wpAnyH P .any ops Q S (fuel + 1) listed) := fun M a w c => by
  have hw : Region.wanted (⟨some d, op, ty, pos, after, some (j, want)⟩ : Oper) (yielded ops a.tmps) = false := by
    rw [wanted_of (o := ⟨some d, op, ty, pos, after, some (j, want)⟩) (ops := ops) c rfl hd hE]; cases want <;> rfl
  refine wpAnyH_take (oi := ⟨some d, op, ty, pos, after, some (j, want)⟩) (v := undef) hi hs hf hr (fun ch a w h => hQ ch a _ _ w h) (.inr ⟨hw, rfl⟩) (hS _ _ c.st) ?_
  refine g M _ w ((c.void (some d) undef).less fun q t h => ?_)
  exact get_del_ne (fun e => by rw [e, hn] at h; cases h) h
/-- .. and one that is -/
theorem h_takeg {fuel i j dj d : Nat} {want : Bool} {op : Op} {ty : TypeId} {pos : String} {after : Array Edge} {listed : Array Bool} {t : TV} (hQ : Blind Q) (hi : ops[i]? = some ⟨some d, op, ty, pos, after, some (j, want)⟩) (hs : Region.noSelect ops = true)
    (hr : (Region.ready .any ops listed).contains i = true) (hf : Region.free .any ops listed i = true) (hS : ∀ M w, St F M w L → S w) (hdj : (ops[j]?).bind (·.dst) = some dj) (hE : E.get dj = some (.one .bool want)) (h : Yields (fun _ w' => S w') P F n E L op t) (hd : Nat.ble (d + 1) n = true)
    (g : Go F n ((d, t) :: E) L (wpAnyH P .any ops Q S fuel (listed.setIfInBounds i true))) : Go F n E L (wpAnyH P .any ops Q S (fuel + 1) listed) := fun M a w c => by
  obtain ⟨v, hv, hrun⟩ := h ⟨some d, op, ty, pos, after, some (j, want)⟩ rfl M a w c
  have hw : Region.wanted (⟨some d, op, ty, pos, after, some (j, want)⟩ : Oper) (yielded ops a.tmps) = true := by
    rw [wanted_of (o := ⟨some d, op, ty, pos, after, some (j, want)⟩) (ops := ops) c rfl hdj hE]; cases want <;> rfl
  refine wpAnyH_take (oi := ⟨some d, op, ty, pos, after, some (j, want)⟩) (v := v) hi hs hf hr (fun ch a w h => hQ ch a _ _ w h) (.inl ⟨hw, fun w' hw' => hrun w' hw'⟩) (hS _ _ c.st) ?_
  exact g M _ w (c.put (Mem.le.refl _) c.st (Nat.le_of_ble_eq_true hd) hv)
end

/-! ### several things that are held -/
/-- an own slice holds this -/
def OwnIs (b : Nat) (e : TypeId) (t : T) (xs : List t.D) (w : World) : Prop := ∃ (cc : Array Value) (fr : Nat × Nat) (M : Mem), w.heap[b]? = some (.cells cc e fr) ∧ RepL (Rep t M) (cc.toList.take (xs.length * t.size)) xs ∧ xs.length * t.size ≤ cc.size
def AllIs (l : List (World → Prop)) (w : World) : Prop := ∀ p ∈ l, p w
theorem allis_at {l : List (World → Prop)} {p : World → Prop} (i : Nat) (h : l[i]? = some p) : ∀ w, AllIs l w → p w := fun _ hw => hw p (List.mem_of_getElem? h)
section
variable {P : Program} {F : Fr} {n : Nat} {E : Env} {L : List Res} {S : World → Prop}
theorem allis_nil : ∀ M w, St F M w L → AllIs [] w := fun _ _ _ p hp => by cases hp
theorem allis_cons {q : World → Prop} {l : List (World → Prop)} (h : ∀ M w, St F M w L → q w) (r : ∀ M w, St F M w L → AllIs l w) : ∀ M w, St F M w L → AllIs (q :: l) w := fun M w st p hp => by
  rcases List.mem_cons.1 hp with rfl | hp
  · exact h M w st
  · exact r M w st p hp
theorem var_is {b : Nat} {e : TypeId} {t : T} {x : t.D} (i : Nat) (hi : L[i]? = some (Res.var b e t x)) : ∀ M w, St F M w L → VarIs b e t x w := fun M w st => by
  obtain ⟨cs, hb, hr⟩ := st.var hi
  exact ⟨cs, M, hb, hr⟩
theorem own_is {b len cap : Nat} {e : TypeId} {t : T} {xs : List t.D} (i : Nat) (hi : L[i]? = some (Res.own (.slice (some ⟨b, 0, none⟩) len cap) e t xs)) (h0 : 0 < xs.length) : ∀ M w, St F M w L → OwnIs b e t xs w := fun M w st => by
  obtain ⟨S, hs⟩ := st.res hi
  rcases hs with ⟨_, h, _⟩ | ⟨b', cap', h, h2, cc, fr, h3, h4, h5, h6, h7, h8⟩
  · rw [h] at h0; simp at h0
  · cases h
    exact ⟨cc, fr, M, h3, h4, by rw [h5]; exact Nat.mul_le_mul_right _ h6⟩
theorem y_heldown {x : Operand} {z : Value} {b off len cap : Nat} {e : TypeId} {t u : T} {xs : List t.D} {tid : TypeId} (hV : ∀ w, S w → OwnIs b e t xs w) (i j : Nat) (p : Pth t u) (hfl : u.flat = true) (hx : ev E x = some (.one (.raw z) (.pointer (some ⟨b, off, none⟩)))) (hi : L[i]? = some (Res.own (.slice (some ⟨b, 0, none⟩) len cap) e t xs))
    (hj : j < xs.length) (hp : j * t.size + p.off = off) (hok : p.ok) (ht : tyChk P u tid = true) : Yields (fun _ w' => S w') P F n E L (.load tid x) (.one u (p.get (xs.getD j t.zero))) := fun o ho M a w c => by
  have one : ∀ w', OwnIs b e t xs w' → ∃ v, (∃ M', Holds u M' v (p.get (xs.getD j t.zero))) ∧ (loadVar tid ⟨b, off, none⟩).run P w' = .ok v w' := by
    rintro w' ⟨cc, fr, M', h3, h4, h5⟩
    have hget : xs[j]? = some (xs.getD j t.zero) := by simp [List.getD, hj]
    have hrep := RepL.get (s := t.size) (fun c x h => Rep.size h) h4 hget
    have hm : j * t.size + t.size ≤ xs.length * t.size := by rw [← Nat.succ_mul]; exact Nat.mul_le_mul_right _ hj
    have hf := p.fits hok
    have e1 : ((cc.toList.take (xs.length * t.size)).drop (j * t.size)).take t.size = (cc.toList.drop (j * t.size)).take t.size := by
      rw [List.drop_take, List.take_take, Nat.min_eq_left (by omega)]
    rw [e1] at hrep
    have hr2 := Rep.get p hok hrep
    rw [take_drop_take _ _ _ _ _ hf, hp] at hr2
    exact ⟨_, ⟨M', _, rfl, hr2⟩, run_loadVar' (P := P) (w := w') ht h3 (by omega) hr2⟩
  have hw : OwnIs b e t xs w := by
    obtain ⟨S', hs⟩ := c.st.res hi
    exact own_is i hi (by omega) M w c.st
  obtain ⟨v, ⟨M', hv⟩, _⟩ := one w hw
  refine ⟨v, hv.any hfl, fun w' hs => ?_⟩
  obtain ⟨v', ⟨M2, hv2⟩, hrun⟩ := one w' (hV w' hs)
  obtain rfl : v' = v := Holds.unique hfl hv2 hv
  obtain ⟨dst, op, ty, pos, after, guard⟩ := o
  simp only at ho; subst ho
  have h1 := (holds_raw.1 (ev_ok c hx)).1
  exact run_val (by rw [h1]; simp only [Instr.loadAt, Instr.sureAddr, run_bind, run_pure]; exact hrun)
end

theorem diskif_of {P : Program} {I : DI} {p : Value} {D : DiskS} {e : Int} (h : e = 0) : ∀ M S w, (Res.disk P I p D).sat M S w → (Res.diskif P I p D e).sat M S w := fun M S w g => by
  unfold Res.diskif
  rw [if_pos h]; exact g

/-! ### maps.Clone -/
def CloneOk (P : Program) (k : FuncId) (it : TypeId) : Prop := ∀ (b n : Nat) (D : DataW Value) (w : World), w.ownsMap P it rawR b n D → Calls P k #[.map (some b)] w fun e w' => e = .returned (.map (some w.heap.size)) ∧ w'.ownsMap P it rawR w.heap.size n D ∧ w'.ownsMap P it rawR b n D ∧ Below w.heap.size w w'
theorem clone_of {P : Program} {ρ : Go.Shelf.Ren} (L : Go.Proofs.SlLaysW.n5 P ρ) (it : TypeId) : CloneOk P (ρ.f 5) it := fun b n D w h => Go.Proofs.AnyW.maps_Clone_owns L it rawR b n D w h

theorem clone_fn {P : Program} {I : DI} {k : FuncId} (hk : CloneOk P k I.int) (v : Value) (keys : List Int) : Fn P k [.one (.raw (.map none)) v] [Res.dirty P I v keys] (fun v' => .one (.raw (.map none)) v') (fun v' => [Res.dirty P I v' keys, Res.dirty P I v keys]) := fun F w vs hst hsz hargs => by
  cases hargs with
  | cons hv hr =>
    cases hr
    obtain ⟨hvv, _⟩ := holds_raw.1 hv
    rw [hvv]
    clear hv hvv
    obtain ⟨S, l, A, B, ⟨hl, hA⟩, ⟨S2, B2, ⟨b, lv, rfl, hS2, hown, hrel, hok⟩, hB2, d2, e2⟩, d, e⟩ := hst.res (i := 0) rfl
    refine (hk b l.length (dat (.int .i64) lv) w hown).mono ?_
    rintro e' w' ⟨rfl, hnew, _, hbel⟩
    have hgw : w.grownBy w' none := ⟨hbel.os, hbel.tape, hbel.output, hbel.size, fun k hk _ => hbel.block k hk⟩
    refine ⟨_, F.base, rfl, hst.fresh' (R := Res.dirty P I (.map (some w.heap.size)) keys) (S := fun k => k = w.heap.size) hgw ⟨l, sep_fact hl (sep_one ⟨w.heap.size, lv, rfl, fun k => Iff.rfl, hnew, hrel.any rfl, hok⟩)⟩ (fun k hk => by omega), holds_raw.2 ⟨rfl, rfl⟩⟩
end Sx
namespace Sx
open Go

/-- a kind of thing: what it tells, what it hides, and the resources that it is -/
structure Kind where
  D : Type
  γ : Type
  R : Nat → γ → D → List Res
/-- such a thing -/
def Res.cls (K : Kind) (p : Value) (x : K.D) : Res := Res.ex fun (g : Nat × K.γ) => Res.all (Res.fact (p = .pointer (some ⟨g.1, 0, none⟩)) :: K.R g.1 g.2 x)
/-- such a thing, if there is one -/
def Res.clsif (K : Kind) (p : Value) (x : K.D) (e : Int) : Res := if e = 0 then Res.cls K p x else Res.fact (p = NV)

section
variable {K : Kind} {P : Program} {F : Fr} {n : Nat} {E : Env} {L : List Res} {X : Act → World → Prop}
theorem r_uncls {p : Value} {x : K.D} (g : ∀ b s, p = .pointer (some ⟨b, 0, none⟩) → Go F n E (K.R b s x ++ L) X) : Go F n E (Res.cls K p x :: L) X :=
  r_unex fun ⟨b, s⟩ => r_unall (r_unfact fun h => g b s h)
theorem r_unclsb {b0 : Nat} {x : K.D} (g : ∀ s, Go F n E (K.R b0 s x ++ L) X) : Go F n E (Res.cls K (.pointer (some ⟨b0, 0, none⟩)) x :: L) X :=
  r_uncls fun b s h => by
    have : b0 = b := by simpa using h
    subst this; exact g s
theorem r_cls {b : Nat} {s : K.γ} {x : K.D} (g : Go F n E (Res.cls K (.pointer (some ⟨b, 0, none⟩)) x :: L) X) : Go F n E (K.R b s x ++ L) X := fun M a w c => by
  refine g M a w { c with st := c.st.sep_to fun V hs => ?_ }
  obtain ⟨A, B, sa, sb, d, e⟩ := Sep.split hs
  exact ⟨A, B, ⟨(b, s), sep_fact rfl sa⟩, sb, d, e⟩
theorem clsif_cls {p : Value} {x : K.D} {e : Int} (h : e = 0) : ∀ M S w, (Res.clsif K p x e).sat M S w → (Res.cls K p x).sat M S w := fun M S w g => by
  unfold Res.clsif at g
  rwa [if_pos h] at g
theorem clsif_of {p : Value} {x : K.D} {e : Int} (h : e = 0) : ∀ M S w, (Res.cls K p x).sat M S w → (Res.clsif K p x e).sat M S w := fun M S w g => by
  unfold Res.clsif
  rw [if_pos h]; exact g
theorem r_nocls {x : K.D} {e : Int} (he : e ≠ 0) (g : Go F n E (Res.clsif K NV x e :: L) X) : Go F n E L X := by
  have : Res.clsif K NV x e = Res.fact (NV = NV) := by unfold Res.clsif; rw [if_neg he]
  rw [this] at g
  exact r_fact rfl g
theorem y_cnil {x : Operand} {z p : Value} {tid w0 e : TypeId} {D : K.D} {f : Int} (i : Nat) (hx : ev E x = some (.one (.raw z) p)) (hi : L[i]? = some (Res.clsif K p D f)) (hu : P.underlying tid = some (.pointer e)) : Yields Same P F n E L (.binOp .eql tid x (.const (.pointer none)) w0) (.one .bool (f != 0)) := fun o ho M a' w c => by
  obtain ⟨S, hs⟩ := c.st.res hi
  have : ∃ a, p = .pointer a ∧ a.isNone = (f != 0) := by
    by_cases hf : f = 0
    · unfold Res.clsif at hs
      rw [if_pos hf] at hs
      obtain ⟨g, A, B, ⟨h1, _⟩, _⟩ := hs
      exact ⟨_, h1, by simp [hf]⟩
    · unfold Res.clsif at hs
      rw [if_neg hf] at hs
      exact ⟨none, hs.1, by simp [hf]⟩
  obtain ⟨a, h1, h2⟩ := this
  have := y_pnil (R := Same) (P := P) (F := F) (n := n) (E := E) (L := L) (w0 := w0) hx h1 hu o ho M a' w c
  rwa [h2] at this
theorem y_cnot {x : Operand} {z p : Value} {tid w0 e : TypeId} {D : K.D} (i : Nat) (hx : ev E x = some (.one (.raw z) p)) (hi : L[i]? = some (Res.cls K p D)) (hu : P.underlying tid = some (.pointer e)) : Yields Same P F n E L (.binOp .eql tid x (.const (.pointer none)) w0) (.one .bool false) := fun o ho M a' w c => by
  obtain ⟨S, g, A, B, ⟨h1, _⟩, _⟩ := c.st.res hi
  exact y_pnil (R := Same) (P := P) (F := F) (n := n) (E := E) (L := L) (w0 := w0) hx h1 hu o ho M a' w c
theorem y_pnn {R : World → World → Prop} {x : Operand} {z v : Value} {tid w0 e : TypeId} {a : Option Addr} (hx : ev E x = some (.one (.raw z) v)) (hv : v = .pointer a) (hu : P.underlying tid = some (.pointer e)) : Yields R P F n E L (.binOp .neq tid x (.const (.pointer none)) w0) (.one .bool (!a.isNone)) := fun o ho M a' w c => by
  have h1 := (holds_raw.1 (ev_ok c hx)).1
  refine ⟨_, holds_bool.2 rfl, fun w' _ => ?_⟩
  obtain ⟨dst, op', ty, pos, after, guard⟩ := o
  simp only at ho; subst ho
  refine run_val ?_
  have hg : (eqGuard .neq tid x (.const (.pointer none)) (a'.eval x) (.pointer none)).run P w' = .ok () w' := by rw [h1, hv]; unfold eqGuard; rfl
  have hq : (Op.equal tid (a'.eval x) (.pointer none)).run P w' = .ok a.isNone w' := by rw [h1, hv]; exact run_pnil hu
  show ((do eqGuard .neq tid x (.const (.pointer none)) (a'.eval x) (.pointer none); binOp .neq tid (a'.eval x) (.pointer none)) : Sem Value).run P w' = _
  rw [run_bind, hg]
  show (binOp .neq tid (a'.eval x) (.pointer none)).run P w' = _
  rw [h1, hv] at hq ⊢
  simp only [binOp, run_bind, hq]; rfl
theorem y_cnnil {x : Operand} {z p : Value} {tid w0 e : TypeId} {D : K.D} {f : Int} (i : Nat) (hx : ev E x = some (.one (.raw z) p)) (hi : L[i]? = some (Res.clsif K p D f)) (hu : P.underlying tid = some (.pointer e)) : Yields Same P F n E L (.binOp .neq tid x (.const (.pointer none)) w0) (.one .bool (f == 0)) := fun o ho M a' w c => by
  obtain ⟨S, hs⟩ := c.st.res hi
  have : ∃ a, p = .pointer a ∧ (!a.isNone) = (f == 0) := by
    by_cases hf : f = 0
    · unfold Res.clsif at hs
      rw [if_pos hf] at hs
      obtain ⟨g, A, B, ⟨h1, _⟩, _⟩ := hs
      exact ⟨_, h1, by simp [hf]⟩
    · unfold Res.clsif at hs
      rw [if_neg hf] at hs
      exact ⟨none, hs.1, by simp [hf]⟩
  obtain ⟨a, h1, h2⟩ := this
  have := y_pnn (R := Same) (P := P) (F := F) (n := n) (E := E) (L := L) (w0 := w0) hx h1 hu o ho M a' w c
  rwa [h2] at this
theorem y_cnnot {x : Operand} {z p : Value} {tid w0 e : TypeId} {D : K.D} (i : Nat) (hx : ev E x = some (.one (.raw z) p)) (hi : L[i]? = some (Res.cls K p D)) (hu : P.underlying tid = some (.pointer e)) : Yields Same P F n E L (.binOp .neq tid x (.const (.pointer none)) w0) (.one .bool true) := fun o ho M a' w c => by
  obtain ⟨S, g, A, B, ⟨h1, _⟩, _⟩ := c.st.res hi
  exact y_pnn (R := Same) (P := P) (F := F) (n := n) (E := E) (L := L) (w0 := w0) hx h1 hu o ho M a' w c
theorem cls_free {p : Value} {x : K.D} (h : ∀ b s, ∀ R ∈ K.R b s x, R.free) : (Res.cls K p x).free := Res.free_ex fun g => Res.free_all fun R hR => by
  rcases List.mem_cons.1 hR with rfl | hR
  · exact Res.free_fact
  · exact h _ _ R hR
end

/-! ### regions whose operations may come in several orders -/
section
variable {P : Program} {Tb : Tab} {F : Fr} {n : Nat} {E : Env} {L : List Res} {ops : Array Oper} {Q : Exit → Act → World → Prop} {S : World → Prop}
theorem h_two {fuel i j : Nat} {o o2 : Oper} {listed : Array Bool} (hr : Region.ready .any ops listed = [i, j]) (hi : ops[i]? = some o) (hj : ops[j]? = some o2) (g : Go F n E L (wpList P ops (Exit.then (fun a w => S w ∧ wpAnyH P .any ops Q S fuel (listed.setIfInBounds i true) a w) Q) [o]))
    (g2 : Go F n E L (wpList P ops (Exit.then (fun a w => S w ∧ wpAnyH P .any ops Q S fuel (listed.setIfInBounds j true) a w) Q) [o2])) : Go F n E L (wpAnyH P .any ops Q S (fuel + 1) listed) := fun M a w c => by
  refine wpAnyH_all hr (by simp) fun k hk => ?_
  rcases List.mem_cons.1 hk with rfl | hk
  · exact wpOp_of_list hi (g M a w c)
  · obtain rfl := List.mem_singleton.1 hk
    exact wpOp_of_list hj (g2 M a w c)
theorem h_three {fuel i j l : Nat} {o o2 o3 : Oper} {listed : Array Bool} (hr : Region.ready .any ops listed = [i, j, l]) (hi : ops[i]? = some o) (hj : ops[j]? = some o2) (hl : ops[l]? = some o3) (g : Go F n E L (wpList P ops (Exit.then (fun a w => S w ∧ wpAnyH P .any ops Q S fuel (listed.setIfInBounds i true) a w) Q) [o]))
    (g2 : Go F n E L (wpList P ops (Exit.then (fun a w => S w ∧ wpAnyH P .any ops Q S fuel (listed.setIfInBounds j true) a w) Q) [o2]))
    (g3 : Go F n E L (wpList P ops (Exit.then (fun a w => S w ∧ wpAnyH P .any ops Q S fuel (listed.setIfInBounds l true) a w) Q) [o3])) : Go F n E L (wpAnyH P .any ops Q S (fuel + 1) listed) := fun M a w c => by
  refine wpAnyH_all hr (by simp) fun k hk => ?_
  rcases List.mem_cons.1 hk with rfl | hk
  · exact wpOp_of_list hi (g M a w c)
  · rcases List.mem_cons.1 hk with rfl | hk
    · exact wpOp_of_list hj (g2 M a w c)
    · obtain rfl := List.mem_singleton.1 hk
      exact wpOp_of_list hl (g3 M a w c)
/-- what follows is proved once -/
theorem h_meet {γ : Type} {fuel : Nat} {listed : Array Bool} (E' : γ → Env) (L' : γ → List Res) (g1 : ∀ x, Go F n (E' x) (L' x) (Q .normal)) (g2 : (∀ x, Go F n (E' x) (L' x) (Q .normal)) → Go F n E L (wpAnyH P .any ops Q S fuel listed)) : Go F n E L (wpAnyH P .any ops Q S fuel listed) := g2 g1
theorem y_heldtext (hT : Tb.chk P = true) {sT dT elem : TypeId} {x : Operand} {z : Value} {b len cap : Nat} {ys : List Int} (hV : ∀ w, S w → OwnIs b elem (.int .u8) ys w) (i : Nat) (hx : ev E x = some (.one (.raw z) (.slice (some ⟨b, 0, none⟩) len cap))) (hi : L[i]? = some (Res.own (.slice (some ⟨b, 0, none⟩) len cap) elem (.int .u8) ys)) (hs : lk Tb.slices sT = some elem) (hd : lk Tb.strs dT = some ()) (he : lk Tb.ints elem = some .u8) (h0 : 0 < ys.length) :
    Yields (fun _ w' => S w') P F n E L (.convert sT dT x) (.one .str ys) := fun o ho M a w c => by
  obtain ⟨S', hsat⟩ := c.st.res hi
  have hv := (holds_raw.1 (ev_ok c hx)).1
  have key : byteOk ys ∧ ys.length ≤ most ∧ ∀ w', S w' → (Conv.bytesToString (.slice (some ⟨b, 0, none⟩) len cap)).run P w' = .ok (.string (bs ys)) w' := by
    rcases hsat with ⟨_, hn, _⟩ | ⟨b', cap', h1, h2, cc, fr, h3, h4, h5, h6, h7, h8⟩
    · subst hn; simp at h0
    · simp only [Value.slice.injEq, Option.some.injEq, Addr.mk.injEq, and_true] at h1
      obtain ⟨rfl, rfl, rfl⟩ := h1
      obtain ⟨e1, hb⟩ := repL_u8 h4
      refine ⟨hb, h7, fun w' hw' => ?_⟩
      obtain ⟨cc', fr', M', q3, q4, q5⟩ := hV w' hw'
      obtain ⟨e2, _⟩ := repL_u8 q4
      simp only [T.size, Nat.mul_one] at e2 q5
      exact run_bytesToString q3 (by omega) (by simpa using e2)
  refine ⟨_, holds_str.2 ⟨rfl, key.1, key.2.1⟩, fun w' hsm => ?_⟩
  obtain ⟨dst, op, ty, pos, after, guard⟩ := o
  simp only at ho; subst ho
  refine run_val ?_
  rw [hv]
  have hk := key.2.2 w' hsm
  simp only [Go.convert, run_bind, run_underlying (Tab.slice hT hs), run_underlying (Tab.str hT hd), run_underlying (Tab.int hT he)]
  exact hk
end
end Sx
