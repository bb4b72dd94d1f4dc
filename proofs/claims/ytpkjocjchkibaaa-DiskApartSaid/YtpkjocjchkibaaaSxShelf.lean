/-
  Own work. Contracts of Go's library, as the kit's shelf has them, in this library's form.
-/
import Derived.Test.YtpkjocjchkibaaaSxEq
import Derived.Lib.Repeat
import Derived.Scope
namespace Sx
open Go Go.RowKit

section
variable {P : Program} {F : Fr} {n : Nat} {E : Env} {L : List Res} {Q : Exit → Act → World → Prop} {c : Code}
theorem r_scope (g : Go F n E L (c.wp P (Exit.noGoto Q))) : Go F n E L ((Code.scope c).wp P Q) := fun M a w h => wp_scope_straight (g M a w h)
theorem r_label {l : Nat} (g : Go F n E L (Q .normal)) : Go F n E L ((Code.label l).wp P Q) := fun M a w h => wp_label (g M a w h)
theorem r_scoped (g : Go F n E L (Q .normal)) : Go F n E L (Exit.noGoto Q .normal) := g
theorem e_scope {id : Nat} (g : Go F n E L (Q (.exit id))) : Go F n E L (Exit.noGoto Q (.exit id)) := g
theorem t_scope (g : Go F n E L (Q .ret)) : Go F n E L (Exit.noGoto Q .ret) := g
end

theorem raw_eq {z v x : Value} {M : Mem} (h : Holds (.raw z) M v x) : v = x := (holds_raw.1 h).1
theorem raw_self {z v x : Value} {M : Mem} (h : Holds (.raw z) M v x) : Holds (.raw z) M v v := by
  obtain ⟨e, o⟩ := holds_raw.1 h
  exact holds_raw.2 ⟨rfl, by rw [e]; exact o⟩

theorem pure_of_below {P : Program} {k : FuncId} {args : List TV} {res : TV} (h : ∀ M vs, HoldAll M args vs → ∃ v, (∀ M, res.holds M v) ∧ ∀ w, Calls P k vs.toArray w fun e w' => e = .returned v ∧ Below w.heap.size w w') : Pure P k args res := by
  intro F w vs hst hsz hargs
  obtain ⟨v, hv, hc⟩ := h _ _ hargs
  refine (hc w).mono ?_
  rintro e w' ⟨rfl, hb⟩
  refine ⟨v, F.base, rfl, ?_, hv _⟩
  refine { os := hb.os.trans hst.os, tape := hb.tape.trans hst.tape, output := hb.output.trans hst.output, size := Nat.le_trans hst.size hb.size, elder := Mem.le.refl _, fresh := fun k o e => .inl e, frame := ?_, mem := ?_, sep := ⟨fun _ => False, fun _ h => h, fun _ h => h.elim⟩ }
  · intro k o e
    rw [hb.block k (hst.flt e)]; exact hst.frame k o e
  · intro k o e
    rw [hb.block k (hst.lt e)]; exact hst.mem k o e

def strings_Repeat (x : List Int) (c : Int) : Option (List Int) := if 0 ≤ c ∧ x.length * c.toNat ≤ 140737488355328 ∧ c ≤ 9223372036854775807 then some (List.replicate c.toNat x).flatten else none

theorem repeatL_eq (f : Int → UInt8) (x : List Int) : ∀ c, Lib.repeatL (x.map f) c = ((List.replicate c x).flatten).map f
  | 0 => rfl
  | c + 1 => by simp [Lib.repeatL, repeatL_eq f x c, List.replicate_succ]

theorem repeat_pure {P : Program} {k : FuncId} (h : ∀ (s : ByteArray) (c : Nat) (w : World), c ≤ 9223372036854775807 → s.size * c ≤ 140737488355328 → Calls P k #[.string s, .int .i64 c] w fun e w' => e = .returned (.string ⟨(Lib.repeatL s.data.toList c).toArray⟩) ∧ Below w.heap.size w w')
    (x : List Int) (c : Int) (r : List Int) (hr : strings_Repeat x c = some r) : Pure P k [.one .str x, .one (.int .i64) c] (.one .str r) := by
  unfold strings_Repeat at hr
  obtain ⟨⟨h0, h1, h2⟩, hr⟩ := ite_ex hr
  obtain rfl := Option.some.inj hr
  obtain ⟨n, rfl⟩ := Int.eq_ofNat_of_zero_le h0
  rw [Int.toNat_natCast] at *
  refine pure_of_below fun M vs hv => ?_
  cases hv with
  | cons a r =>
    cases r with
    | cons b r =>
      cases r
      obtain ⟨rfl, hb, hm⟩ := holds_str.1 a
      obtain ⟨rfl, _⟩ := holds_int.1 b
      refine ⟨.string (bs (List.replicate n x).flatten), fun M => holds_str.2 ⟨rfl, ?_, ?_⟩, fun w => ?_⟩
      · intro d hd
        obtain ⟨l, hl, hd⟩ := List.mem_flatten.1 hd
        rw [(List.mem_replicate.1 hl).2] at hd
        exact hb d hd
      · have : ((List.replicate n x).flatten).length = n * x.length := by simp
        rw [this, Nat.mul_comm]; simp only [most]; omega
      · have := h (bs x) n w (by omega) (by rw [bs_size]; exact h1)
        refine this.mono ?_
        rintro e w' ⟨rfl, hb⟩
        refine ⟨?_, hb⟩
        have e : (bs x).data.toList = x.map fun c => UInt8.ofNat c.toNat := by simp only [bs, List.toList_toArray]
        rw [e, repeatL_eq]
        rfl
end Sx
