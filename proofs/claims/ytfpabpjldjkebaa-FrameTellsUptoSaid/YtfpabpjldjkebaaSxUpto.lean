/-
  Own work. From a row with a bound of its own to the plain function.
-/
import Derived.Test.YtfpabpjldjkebaaSxRow
import Derived.Deep.CondSized
namespace Sx
open Go Go.RowKit

/-- the contract of a row with a bound -/
theorem law_upto {C : Checked} {os : Os} {f : FuncId} {fn : Func} {s : ChangeSpec} {S : OpenSpec} {kk : (H : Type) → List (DataW H) → Bool} {most : Nat} {bk : (H : Type) → DataW H → Nat} {bka : (H : Type) → List (DataW H) → Nat} {H : Type} {enc : TypeId × Value → H} {F : Stop.Interp} (ts : List T) {tids : List TypeId} {bt : TypeId}
    (hS : S = { OpenSpec.ofChange s with cond := some kk }) (hkk : ∀ H ds, kk H ds = decide (bka H ds ≤ most)) (hbk : BulkFn (bk H) (bka H))
    (own : ownKnob C.prog.godebug = none) (started : os.Started) (noInit : C.prog.inits.idxOf? f = none) (hfn : C.prog.funcs[f]? = some fn)
    (witness : ∃ (w : World) (tape : Tape) (i : Input), w.os = os ∧ (w.forCall tape i).Shaped C.prog ∧ i.vars = [] ∧ Input.okWide C.prog (w.forCall tape i) .any w.heap.size f i ∧
      S.pre6 enc C.prog fn [] false (w.forCall tape i).memory i.args ∧ Assume.holds {} C.prog (lone (Frame.enter C.prog f i.args .normal) [] (w.forCall tape i)))
    (hpar : fn.params = tids.toArray) (hres : fn.resultTypes = #[bt]) (hbt : C.prog.underlying bt = some .bool) (hvars : s.vars = []) (hcc : argsChk C.prog ts tids = true) (hlay : laidOutB C.prog = true)
    (hspec : ∀ ds : List (DataW H), ds.length = tids.length → s.fn H ds = { results := [.lit (.bool true)], args := ds })
    (law : ∀ xs : Vals ts, Smalls C.prog.bytesOf ts xs → Bulks ts xs ≤ most → Pure C.prog f (tvs ts xs) (.one .bool true)) :
    ReturnsInHanded {} C os f .any (S.pre6 enc C.prog fn [] false) ((S.at F).post enc C.prog fn false true false false) := by
  subst hS
  refine returnsInHanded_of_cond_sized (k := kk) rfl own started noInit hfn witness ?_
  intro W base args ds gs before hval hW _ hk hsz _
  have hW' := hW
  obtain ⟨p, q, hA, hV, rfl, hfz, hnd⟩ := hW
  rw [show ({ OpenSpec.ofChange s with cond := some kk } : OpenSpec).vars = s.vars from rfl, hvars] at hV
  obtain ⟨rfl, rfl⟩ := ChangeShapes.trodVars_none hV
  simp only [List.append_nil] at hW' hsz hk
  have hplain : ({ OpenSpec.ofChange s with cond := some kk } : OpenSpec).bare.plain.varTypes C.prog = [] := by
    show s.plain.varTypes C.prog = []
    simp [DataSpec.varTypes, ChangeSpec.plain, hvars]
  rw [hplain, List.append_nil, hpar] at hsz
  rw [hpar] at hA
  simp only at hA hsz
  have hlen := trod_len hA
  have hlt := hW'.lt
  obtain ⟨xs, hh, ss, hbu⟩ := open_all (enc := enc) trivial ts hcc hA (fun j t v hj hv => hval j t v (by rw [hpar]; simpa using hj) (by simpa using hv)) (fun n hn => by simpa using List.all_eq_true.1 hsz n hn)
  have hb1 := hbu _ _ hbk
  rw [hkk, decide_eq_true_eq] at hk
  have hrun := run_law (law xs ss (Nat.le_trans hb1 hk)) hh
  rw [Array.toArray_toList] at hrun
  refine hrun.mono ?_
  rintro e W' ⟨rfl, hb⟩
  have hsp := hspec ds hlen
  show ∃ v, _ ∧ s.post enc C.prog fn false true false false W args v W'
  refine ⟨_, rfl, ds, [], p, [], p, [], hW', ?_, ?_, ?_, World.keptBut_mono (fun x hx => ⟨hx, .inr (.inl hx)⟩) (hb.frame _), fun h => by cases h⟩
  · rw [hres]
    simp only [List.append_nil, hsp]
    exact ChangeShapes.trodAll_mk1 (shut_bool hbt _)
  · rw [hpar]
    simp only [List.append_nil, hsp]
    exact stays_all hlay hb ts hcc hA hlt _ (fun x hx => by simpa using hlt x hx)
  · rw [hvars]
    simp only [List.append_nil, hsp]
    rfl
end Sx
