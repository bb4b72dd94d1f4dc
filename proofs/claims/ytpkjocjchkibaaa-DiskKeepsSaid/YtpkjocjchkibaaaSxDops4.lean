/-
  Own work. How many files there are.
-/
import Derived.Test.YtpkjocjchkibaaaSxDops3
import Derived.Test.YtpkjocjchkibaaaSxPref
import Derived.Test.YtpkjocjchkibaaaSxRow
namespace Sx
open Go
section
variable {P : Program} {I : DI} {Tb : Tab} {F : Fr} {n : Nat} {E E' : Env} {L : List Res} {ops : Array Oper} {Q : Exit → Act → World → Prop} {rest : List Oper} {X : Act → World → Prop}

theorem perm_at {R : Res} : ∀ {L : List Res} {i : Nat}, L[i]? = some R → ∃ L', L.Perm (R :: L')
  | [], i, h => by simp at h
  | S :: L, 0, h => by simp only [List.getElem?_cons_zero, Option.some.injEq] at h; subst h; exact ⟨L, .refl _⟩
  | S :: L, i + 1, h => by
    obtain ⟨L', p⟩ := perm_at (L := L) (i := i) (by simpa using h)
    exact ⟨S :: L', (p.cons S).trans (.swap _ _ _)⟩

theorem y_dlen {m : Operand} {z mv q : Value} {e mt : TypeId} {fs : List (List Int × FileS)} {name : List Int} (hk : ktChk P .str I.str = true) (i : Nat) (hm : ev E m = some (.one (.raw z) mv)) (hi : L[i]? = some (Res.dat P I mv fs name q)) (ht : P.underlying mt = some (.map I.str e)) (hl : fs.length ≤ most) :
    Yields Same P F n E L (.call ⟨.builtin .len, #[m], #[mt]⟩) (.one (.int .i64) fs.length) := fun o ho M a w c => by
  obtain ⟨L', p⟩ := perm_at hi
  have c' : Cfg F M n E (Res.dat P I mv fs name q :: L') a w := { c with st := c.st.perm p }
  have key : Go F n E (Res.dat P I mv fs name q :: L') (fun a w => ∀ o : Oper, o.op = .call ⟨.builtin .len, #[m], #[mt]⟩ → ∃ v, Holds (.int .i64) (fun _ => none) v (fs.length : Int) ∧ ∀ w', Same w w' → (execOp a.eval o).run P w' = .ok (.value v) w') := by
    refine dat_open hk fun es h1 h2 h3 h4 => ?_
    intro M a w c o ho
    have hlen : (pmap (fun y : Value × FileS => y.1) es).length = fs.length := by rw [h1]; simp [pmap]
    obtain ⟨v, hv, hr⟩ := y_maplen (vt := .raw NV) 0 hm rfl ht (by rw [hlen]; exact hl) o ho M a w c
    rw [hlen] at hv
    exact ⟨v, holds_int.2 (holds_int.1 hv), hr⟩
  obtain ⟨v, hv, hr⟩ := key M a w c' o ho
  exact ⟨v, holds_int.2 (holds_int.1 hv), hr⟩
theorem y_dlens {m : Operand} {z mv : Value} {e mt : TypeId} {fs : List (List Int × FileS)} (hk : ktChk P .str I.str = true) (i : Nat) (hm : ev E m = some (.one (.raw z) mv)) (hi : L[i]? = some (Res.dfiles P I mv fs)) (ht : P.underlying mt = some (.map I.str e)) (hl : fs.length ≤ most) :
    Yields Same P F n E L (.call ⟨.builtin .len, #[m], #[mt]⟩) (.one (.int .i64) fs.length) := fun o ho M a w c => by
  obtain ⟨L', p⟩ := perm_at hi
  have c' : Cfg F M n E (Res.dfiles P I mv fs :: L') a w := { c with st := c.st.perm p }
  have key : Go F n E (Res.dfiles P I mv fs :: L') (fun a w => ∀ o : Oper, o.op = .call ⟨.builtin .len, #[m], #[mt]⟩ → ∃ v, Holds (.int .i64) (fun _ => none) v (fs.length : Int) ∧ ∀ w', Same w w' → (execOp a.eval o).run P w' = .ok (.value v) w') := by
    refine dfiles_open hk fun es h1 h2 h3 => ?_
    intro M a w c o ho
    have hlen : (pmap (fun y : Value × FileS => y.1) es).length = fs.length := by rw [h1]; simp [pmap]
    obtain ⟨v, hv, hr⟩ := y_maplen (vt := .raw NV) 0 hm rfl ht (by rw [hlen]; exact hl) o ho M a w c
    rw [hlen] at hv
    exact ⟨v, holds_int.2 (holds_int.1 hv), hr⟩
  obtain ⟨v, hv, hr⟩ := key M a w c' o ho
  exact ⟨v, holds_int.2 (holds_int.1 hv), hr⟩
end
end Sx
