/-
  Own work. Resources out of resources: several at once, some with something unknown, bare facts.
-/
import Derived.Test.YtpkjocjchkibaaaSxLend
namespace Sx
open Go

/-- several as one -/
def Res.all (L : List Res) : Res where
  sat M S w := Sep M w L S
  mono h := Sep.mono h
  loc h := Sep.loc h
  has := Sep.has
/-- one of many -/
def Res.ex {γ : Type} (f : γ → Res) : Res where
  sat M S w := ∃ g, (f g).sat M S w
  mono h := fun ⟨g, s⟩ => ⟨g, (f g).mono h s⟩
  loc h := fun ⟨g, s⟩ => ⟨g, (f g).loc h s⟩
  has := fun ⟨g, s⟩ => (f g).has s
/-- a fact -/
def Res.fact (p : Prop) : Res where
  sat _ S _ := p ∧ ∀ k, ¬ S k
  mono _ := id
  loc _ := id
  has := fun h k hk => absurd hk (h.2 k)

theorem Sep.all_to {M : Mem} {w : World} {L1 L2 : List Res} {V : Nat → Prop} : Sep M w (Res.all L1 :: L2) V → Sep M w (L1 ++ L2) V := fun ⟨_, _, a, b, d, e⟩ =>
  Sep.eqv (fun k => (e k).symm) (Sep.append a b d)
theorem Sep.all_of {M : Mem} {w : World} {L1 L2 : List Res} {V : Nat → Prop} (h : Sep M w (L1 ++ L2) V) : Sep M w (Res.all L1 :: L2) V := by
  obtain ⟨A, B, a, b, d, e⟩ := Sep.split h
  exact ⟨A, B, a, b, d, e⟩

theorem St.sep_to {F : Fr} {M : Mem} {w : World} {L L' : List Res} (h : St F M w L) (f : ∀ V, Sep M w L V → Sep M w L' V) : St F M w L' :=
  { h with sep := let ⟨V, s, d⟩ := h.sep; ⟨V, f V s, d⟩ }

section
variable {F : Fr} {n : Nat} {E : Env} {L L1 : List Res} {X : Act → World → Prop}
theorem r_unall (g : Go F n E (L1 ++ L) X) : Go F n E (Res.all L1 :: L) X := fun M a w c => g M a w { c with st := c.st.sep_to fun _ => Sep.all_to }
theorem r_all (g : Go F n E (Res.all L1 :: L) X) : Go F n E (L1 ++ L) X := fun M a w c => g M a w { c with st := c.st.sep_to fun _ => Sep.all_of }
theorem r_unex {γ : Type} {f : γ → Res} (g : ∀ x, Go F n E (f x :: L) X) : Go F n E (Res.ex f :: L) X := fun M a w c => by
  obtain ⟨V, ⟨S, V', ⟨x, r⟩, s, d, e⟩, dd⟩ := c.st.sep
  exact g x M a w { c with st := { c.st with sep := ⟨V, ⟨S, V', r, s, d, e⟩, dd⟩ } }
theorem r_ex {γ : Type} {f : γ → Res} (x : γ) (g : Go F n E (Res.ex f :: L) X) : Go F n E (f x :: L) X := fun M a w c =>
  g M a w { c with st := c.st.sep_to fun _ ⟨S, V', r, s, d, e⟩ => ⟨S, V', ⟨x, r⟩, s, d, e⟩ }
theorem r_unfact {p : Prop} (g : p → Go F n E L X) : Go F n E (Res.fact p :: L) X := fun M a w c => by
  obtain ⟨V, ⟨S, V', ⟨hp, hS⟩, s, d, e⟩, dd⟩ := c.st.sep
  refine g hp M a w { c with st := { c.st with sep := ⟨V, ?_, dd⟩ } }
  exact Sep.eqv (fun k => by rw [e k]; exact ⟨.inr, fun h => h.elim (fun x => absurd x (hS k)) id⟩) s
theorem r_fact {p : Prop} (hp : p) (g : Go F n E (Res.fact p :: L) X) : Go F n E L X := fun M a w c => g M a w { c with st := c.st.free ⟨hp, fun _ h => h⟩ }
/-- one resource is another one -/
theorem r_imp {R R' : Res} (h : ∀ M S w, R.sat M S w → R'.sat M S w) (g : Go F n E (R' :: L) X) : Go F n E (R :: L) X := fun M a w c =>
  g M a w { c with st := c.st.sep_to fun _ ⟨S, V', r, s, d, e⟩ => ⟨S, V', h _ _ _ r, s, d, e⟩ }
end

/-- what hangs on no memory that stays -/
def Res.free (R : Res) : Prop := ∀ M M' S w, R.sat M S w → R.sat M' S w
theorem Res.free_all {L : List Res} (h : ∀ R ∈ L, R.free) : (Res.all L).free := by
  intro M M' S w
  show Sep M w L S → Sep M' w L S
  induction L generalizing S with
  | nil => exact id
  | cons R L ih =>
    rintro ⟨A, B, a, b, d, e⟩
    exact ⟨A, B, h R (by simp) _ _ _ _ a, ih (fun R hR => h R (by simp [hR])) _ b, d, e⟩
theorem Res.free_ex {γ : Type} {f : γ → Res} (h : ∀ g, (f g).free) : (Res.ex f).free := fun _ _ _ _ ⟨g, s⟩ => ⟨g, h g _ _ _ _ s⟩
theorem Res.free_fact {p : Prop} : (Res.fact p).free := fun _ _ _ _ h => h
theorem Res.free_var {b e : Nat} {t : T} {x : t.D} (h : t.flat = true) : (Res.var b e t x).free := fun _ _ _ _ ⟨h1, cs, h2, h3⟩ => ⟨h1, cs, h2, h3.any h⟩
theorem Res.free_own {v : Value} {e : Nat} {t : T} {xs : List t.D} (h : t.flat = true) : (Res.own v e t xs).free := fun _ _ _ _ g =>
  g.elim .inl fun ⟨b, cap, h1, h2, c, fr, h3, h4, h5⟩ => .inr ⟨b, cap, h1, h2, c, fr, h3, RepL.mono (fun _ _ r => r.any h) h4, h5⟩
end Sx
