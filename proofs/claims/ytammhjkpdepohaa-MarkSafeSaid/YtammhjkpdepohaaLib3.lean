/-
  Own work. Things behind a pointer as one resource: a struct, and the slices that it alone holds.
-/
import Derived.Test.YtammhjkpdepohaaLib2
namespace Sx
open Go

/-- a kind of thing: what it tells, what it hides, and the resources that it is -/
structure Kind where
  D : Type
  γ : Type
  R : Nat → γ → D → List Res
/-- such a thing -/
def Res.cls (K : Kind) (p : Value) (x : K.D) : Res := Res.ex fun (g : Nat × K.γ) => Res.all (Res.fact (p = .pointer (some ⟨g.1, 0, none⟩)) :: K.R g.1 g.2 x)
/-- such a thing, if there is one -/
def Res.clsif (K : Kind) (p : Value) (x : K.D) (e : Int) : Res := if e = 0 then Res.cls K p x else Res.fact (p = NV)

section
variable {K : Kind} {P : Program} {F : Fr} {n : Nat} {E : Env} {L : List Res} {X : Act → World → Prop}
theorem r_uncls {p : Value} {x : K.D} (g : ∀ b s, p = .pointer (some ⟨b, 0, none⟩) → Go F n E (K.R b s x ++ L) X) : Go F n E (Res.cls K p x :: L) X :=
  r_unex fun ⟨b, s⟩ => r_unall (r_unfact fun h => g b s h)
theorem r_unclsb {b0 : Nat} {x : K.D} (g : ∀ s, Go F n E (K.R b0 s x ++ L) X) : Go F n E (Res.cls K (.pointer (some ⟨b0, 0, none⟩)) x :: L) X :=
  r_uncls fun b s h => by
    have : b0 = b := by simpa using h
    subst this; exact g s
theorem r_cls {b : Nat} {s : K.γ} {x : K.D} (g : Go F n E (Res.cls K (.pointer (some ⟨b, 0, none⟩)) x :: L) X) : Go F n E (K.R b s x ++ L) X := fun M a w c => by
  refine g M a w { c with st := c.st.sep_to fun V hs => ?_ }
  obtain ⟨A, B, sa, sb, d, e⟩ := Sep.split hs
  exact ⟨A, B, ⟨(b, s), sep_fact rfl sa⟩, sb, d, e⟩
theorem clsif_cls {p : Value} {x : K.D} {e : Int} (h : e = 0) : ∀ M S w, (Res.clsif K p x e).sat M S w → (Res.cls K p x).sat M S w := fun M S w g => by
  unfold Res.clsif at g
  rwa [if_pos h] at g
theorem clsif_of {p : Value} {x : K.D} {e : Int} (h : e = 0) : ∀ M S w, (Res.cls K p x).sat M S w → (Res.clsif K p x e).sat M S w := fun M S w g => by
  unfold Res.clsif
  rw [if_pos h]; exact g
theorem r_nocls {x : K.D} {e : Int} (he : e ≠ 0) (g : Go F n E (Res.clsif K NV x e :: L) X) : Go F n E L X := by
  have : Res.clsif K NV x e = Res.fact (NV = NV) := by unfold Res.clsif; rw [if_neg he]
  rw [this] at g
  exact r_fact rfl g
theorem y_cnil {x : Operand} {z p : Value} {tid w0 e : TypeId} {D : K.D} {f : Int} (i : Nat) (hx : ev E x = some (.one (.raw z) p)) (hi : L[i]? = some (Res.clsif K p D f)) (hu : P.underlying tid = some (.pointer e)) : Yields Same P F n E L (.binOp .eql tid x (.const (.pointer none)) w0) (.one .bool (f != 0)) := fun o ho M a' w c => by
  obtain ⟨S, hs⟩ := c.st.res hi
  have : ∃ a, p = .pointer a ∧ a.isNone = (f != 0) := by
    by_cases hf : f = 0
    · unfold Res.clsif at hs
      rw [if_pos hf] at hs
      obtain ⟨g, A, B, ⟨h1, _⟩, _⟩ := hs
      exact ⟨_, h1, by simp [hf]⟩
    · unfold Res.clsif at hs
      rw [if_neg hf] at hs
      exact ⟨none, hs.1, by simp [hf]⟩
  obtain ⟨a, h1, h2⟩ := this
  have := y_pnil (R := Same) (P := P) (F := F) (n := n) (E := E) (L := L) (w0 := w0) hx h1 hu o ho M a' w c
  rwa [h2] at this
theorem y_pnn {R : World → World → Prop} {x : Operand} {z v : Value} {tid w0 e : TypeId} {a : Option Addr} (hx : ev E x = some (.one (.raw z) v)) (hv : v = .pointer a) (hu : P.underlying tid = some (.pointer e)) : Yields R P F n E L (.binOp .neq tid x (.const (.pointer none)) w0) (.one .bool (!a.isNone)) := fun o ho M a' w c => by
  have h1 := (holds_raw.1 (ev_ok c hx)).1
  refine ⟨_, holds_bool.2 rfl, fun w' _ => ?_⟩
  obtain ⟨dst, op', ty, pos, after, guard⟩ := o
  simp only at ho; subst ho
  refine run_val ?_
  have hg : (eqGuard .neq tid x (.const (.pointer none)) (a'.eval x) (.pointer none)).run P w' = .ok () w' := by rw [h1, hv]; unfold eqGuard; rfl
  have hq : (Op.equal tid (a'.eval x) (.pointer none)).run P w' = .ok a.isNone w' := by rw [h1, hv]; exact run_pnil hu
  show ((do eqGuard .neq tid x (.const (.pointer none)) (a'.eval x) (.pointer none); binOp .neq tid (a'.eval x) (.pointer none)) : Sem Value).run P w' = _
  rw [run_bind, hg]
  show (binOp .neq tid (a'.eval x) (.pointer none)).run P w' = _
  rw [h1, hv] at hq ⊢
  simp only [binOp, run_bind, hq]; rfl
theorem y_cnnil {x : Operand} {z p : Value} {tid w0 e : TypeId} {D : K.D} {f : Int} (i : Nat) (hx : ev E x = some (.one (.raw z) p)) (hi : L[i]? = some (Res.clsif K p D f)) (hu : P.underlying tid = some (.pointer e)) : Yields Same P F n E L (.binOp .neq tid x (.const (.pointer none)) w0) (.one .bool (f == 0)) := fun o ho M a' w c => by
  obtain ⟨S, hs⟩ := c.st.res hi
  have : ∃ a, p = .pointer a ∧ (!a.isNone) = (f == 0) := by
    by_cases hf : f = 0
    · unfold Res.clsif at hs
      rw [if_pos hf] at hs
      obtain ⟨g, A, B, ⟨h1, _⟩, _⟩ := hs
      exact ⟨_, h1, by simp [hf]⟩
    · unfold Res.clsif at hs
      rw [if_neg hf] at hs
      exact ⟨none, hs.1, by simp [hf]⟩
  obtain ⟨a, h1, h2⟩ := this
  have := y_pnn (R := Same) (P := P) (F := F) (n := n) (E := E) (L := L) (w0 := w0) hx h1 hu o ho M a' w c
  rwa [h2] at this
end

/-! ### regions whose operations may come in several orders -/
section
variable {P : Program} {Tb : Tab} {F : Fr} {n : Nat} {E : Env} {L : List Res} {ops : Array Oper} {Q : Exit → Act → World → Prop} {S : World → Prop}
end
end Sx
