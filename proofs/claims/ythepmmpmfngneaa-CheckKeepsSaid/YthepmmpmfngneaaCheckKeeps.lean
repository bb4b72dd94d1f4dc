/-
  Own work. Chapter 07: CheckKeeps, plainly.
-/
import Derived.Test.YthepmmpmfngneaaCheckPure
namespace Sx
open Go

abbrev TurnS := List Int × Int × Int × Int × List FateS × Bool × Unit
def nN : List Int := [110, 97, 109, 101]
def nB : List Int := [98, 101, 115, 105, 100, 101]
def tmp : List Int := [46, 116, 109, 112]
def allowed : List (List Int) := [nN, nN ++ tmp, nB, nB ++ tmp]

structure CInv (h : List Int) (is : Bool) (D : DiskS) (bes : Option FileS) : Prop where
  ok : FsOk D.2.1
  off : D.2.2.2.2.2.1 = false
  opn : D.2.2.2.2.2.2 = false
  cap : D.1 = 16777216
  only : ∀ k, k ∉ allowed → pget .str k D.2.1 = none
  name : pget .str nN D.2.1 = if is = true then some (cb h, cb h, []) else none
  nil : is = false → h = []
  whole : is = true → byteOk h ∧ h.length ≤ 1048448
  bes : pget .str nB D.2.1 = bes

theorem few {fs : List (List Int × FileS)} {al : List (List Int)} (hok : FsOk fs) (h : ∀ k, k ∉ al → pget .str k fs = none) : fs.length ≤ al.length := by
  have : (fs.map (·.1)).length ≤ al.length := List.Nodup.length_le_of_subset hok.2.1 (fun k hk => Classical.byContradiction fun hc => get_none.1 (h k hc) hk)
  simpa using this

theorem told_eq {h : List Int} {is : Bool} {D : DiskS} {bes : Option FileS} (c : CInv h is D bes) : escrowlaw07_told D nN = some (h, is, true) := by
  unfold escrowlaw07_told
  have hn : check_isName nN = some true := by decide +kernel
  cases hi : is with
  | false =>
    have hg := c.name
    rw [hi] at hg
    rw [Load_none c.ok c.off hn (by simpa using hg), c.nil hi]
    rfl
  | true =>
    have hg := c.name
    rw [hi, if_pos rfl] at hg
    obtain ⟨hb, hl⟩ := c.whole hi
    rw [Load_some c.ok c.off hn hg rfl hb hl]
    rfl
theorem CInv.arm {h : List Int} {is : Bool} {D : DiskS} {bes : Option FileS} (c : CInv h is D bes) (a w f : Int) : CInv h is (D.1, D.2.1, a, w, f, D.2.2.2.2.2.1, D.2.2.2.2.2.2) bes := ⟨c.ok, c.off, c.opn, c.cap, c.only, c.name, c.nil, c.whole, c.bes⟩

/-- a payload that is saved -/
theorem save_inv {h : List Int} {is : Bool} {D : DiskS} {bes : Option FileS} (c : CInv h is D bes) {p : List Int} (hb : byteOk p) : ∃ e D', check_Save D nN p = some (e, D') ∧ FsOk D'.2.1 ∧ ((e = 9 ∧ D'.2.2.2.2.2.1 = true ∧ D'.2.2.2.2.2.2 = true) ∨ (e ≠ 9 ∧ D'.2.2.2.2.2.1 = false ∧ D'.2.2.2.2.2.2 = false)) ∧
    ∀ D'' : DiskS, D''.1 = D'.1 → FsOk D''.2.1 → D''.2.2.2.2.2.1 = false → D''.2.2.2.2.2.2 = false → (∀ k, pget .str k D'.2.1 = none → pget .str k D''.2.1 = none) → (∀ k f, pget .str k D'.2.1 = some f → f.2.2 = [] → f.2.1 = f.1 → pget .str k D''.2.1 = some f) → (∀ f, bes = some f → f.2.2 = [] ∧ f.2.1 = f.1) →
      CInv (if e = 0 then p else h) (if e = 0 then true else is) D'' bes := by
  have hn : check_isName nN = some true := by decide +kernel
  have key : ∀ (e : Int) (D' : DiskS), D'.1 = D.1 → (∀ k, k ∉ allowed → pget .str k D'.2.1 = none) → (e = 0 → Stands D'.2.1 nN p ∧ p.length ≤ 1048448) → (e ≠ 0 → pget .str nN D'.2.1 = pget .str nN D.2.1) → pget .str nB D'.2.1 = pget .str nB D.2.1 →
      ∀ D'' : DiskS, D''.1 = D'.1 → FsOk D''.2.1 → D''.2.2.2.2.2.1 = false → D''.2.2.2.2.2.2 = false → (∀ k, pget .str k D'.2.1 = none → pget .str k D''.2.1 = none) → (∀ k f, pget .str k D'.2.1 = some f → f.2.2 = [] → f.2.1 = f.1 → pget .str k D''.2.1 = some f) → (∀ f, bes = some f → f.2.2 = [] ∧ f.2.1 = f.1) →
      CInv (if e = 0 then p else h) (if e = 0 then true else is) D'' bes := fun e D' hcap honly hz hnz hbes D'' g1 g2 g3 g4 g5 g6 g7 => by
    have hB : pget .str nB D''.2.1 = bes := by
      rw [c.bes] at hbes
      cases hbb : bes with
      | none => rw [hbb] at hbes; exact g5 _ hbes
      | some f => rw [hbb] at hbes; exact g6 _ _ hbes (g7 f hbb).1 (g7 f hbb).2
    by_cases he : e = 0
    · obtain ⟨hs, hl⟩ := hz he
      rw [if_pos he, if_pos he]
      exact ⟨g2, g3, g4, (by rw [g1, hcap, c.cap]), (fun k hk => g5 k (honly k hk)), (by rw [if_pos rfl]; exact g6 _ _ hs rfl rfl), (fun h => by cases h), (fun _ => ⟨hb, hl⟩), hB⟩
    · rw [if_neg he, if_neg he]
      refine ⟨g2, g3, g4, by rw [g1, hcap, c.cap], fun k hk => g5 k (honly k hk), ?_, c.nil, c.whole, hB⟩
      have := hnz he
      rw [c.name] at this
      cases hi : is with
      | false => rw [hi] at this; simp only [Bool.false_eq_true, if_false] at this ⊢; exact g5 _ this
      | true => rw [hi, if_pos rfl] at this; rw [if_pos rfl]; exact g6 _ _ this rfl rfl
  by_cases hl : p.length ≤ 1048448
  · obtain ⟨e, D', h1, h2, h3, h4, h5, h6, h7, _⟩ := Save_eq (a := nN) (t := nN ++ tmp) c.ok c.off c.opn hn rfl (by decide) (by decide +kernel) (by decide +kernel) hb hl (by have := few c.ok c.only; simp [allowed] at this; omega) (by rw [c.cap]; decide)
    refine ⟨e, D', h1, h3, h7, key e D' h2 (fun k hk => ?_) (fun he => ⟨h4 he, hl⟩) h5 (h6 nB (by decide) (by decide))⟩
    rw [h6 k (fun e => hk (by rw [← e]; decide)) (fun e => hk (by rw [← e]; decide))]
    exact c.only k hk
  · exact ⟨3, D, Save_long hn (by omega), c.ok, .inr ⟨by decide, c.off, c.opn⟩, key 3 D rfl c.only (fun h => by cases h) (fun _ => rfl) rfl⟩

def TurnOk (y : TurnS) : Prop := byteOk y.1 ∧ FatesOk y.2.2.2.2.1 ∧ y.2.2.2.2.1.length * 48 ≤ 140737488355328

theorem round_eq {a0 : List TurnS} {k10 : DiskS → Option Bool} {i j : Nat} (hl : a0.length < 4611686018427387904) (hi : i < a0.length) (hy : TurnOk (List.getD a0 i ([], 0, 0, 0, [], false, ()))) {h : List Int} {is : Bool} {D : DiskS} {bes : Option FileS} (c : CInv h is D bes) (hbs : ∀ f, bes = some f → f.2.2 = [] ∧ f.2.1 = f.1) :
    ∃ h' is' D', CInv h' is' D' bes ∧ escrowlaw07_CheckKeeps_l0 a0 k10 (j + 1) (h, is, (i : Int), D) = escrowlaw07_CheckKeeps_l0 a0 k10 j (h', is', ((i + 1 : Nat) : Int), D') := by
  conv => arg 1; ext h'; arg 1; ext is'; arg 1; ext D'; rhs; lhs; simp only [escrowlaw07_CheckKeeps_l0]
  rw [if_pos (by simp only [decide_eq_true_eq]; omega), if_pos (by omega)]
  simp only [Int.toNat_natCast]
  generalize List.getD a0 i ([], 0, 0, 0, [], false, ()) = y at hy ⊢
  obtain ⟨hb, hf, hf48⟩ := hy
  rw [Arm_eq]
  simp only [Option.bind_some]
  rw [Fall_eq]
  simp only [Option.bind_some]
  have c1 := c.arm (if y.2.1 < 1 ∨ y.2.2.1 < 0 ∨ y.2.2.1 > 2 then 0 else y.2.1) y.2.2.1 (max y.2.2.2.1 0)
  obtain ⟨e, D2, hs, hok2, h9, hinv⟩ := save_inv c1 (p := y.1) hb
  have hs' := hs
  simp only [nN] at hs'
  rw [hs']
  simp only [Option.bind_some, bnd_eq]
  -- behind the power
  have hpow : ∃ D4, (∀ k : DiskS → Option Bool, (if (e == 9 || y.2.2.2.2.2.1) = true then (if (List.length ([] : List FateS) + List.length y.2.2.2.2.1) * 48 ≤ 140737488355328 then ((disk_Disk_Crash D2 ([] ++ y.2.2.2.2.1)).bind fun (r52 : DiskS) => (disk_Disk_On r52).bind fun r53 => k r53) else none) else k D2) = k D4) ∧ CInv (if e = 0 then y.1 else h) (if e = 0 then true else is) D4 bes := by
    by_cases hc : (e == 9 || y.2.2.2.2.2.1) = true
    · obtain ⟨fs', k1, k2, k3, k4, k5⟩ := Crash_eq (D := D2) hf hok2 (fun ho => by
        rcases h9 with ⟨_, _, h'⟩ | ⟨_, h', _⟩
        · exact h'
        · rw [h'] at ho; cases ho)
      refine ⟨(D2.1, fs', 0, D2.2.2.2.1, 0, false, false), fun k => ?_, hinv _ rfl k2 rfl rfl (fun k hk => ?_) k4 hbs⟩
      · rw [if_pos hc, if_pos (by simp only [List.length_nil]; omega), List.nil_append, k1]
        simp only [Option.bind_some]
        rw [On_eq' rfl]
        rfl
      · rw [get_none] at hk ⊢
        rw [k3]; exact hk
    · refine ⟨D2, fun k => by rw [if_neg hc], ?_⟩
      rcases h9 with ⟨h', _⟩ | ⟨_, h', h''⟩
      · exact absurd (by simp [h']) hc
      · exact hinv D2 rfl hok2 h' h'' (fun _ h => h) (fun _ _ h _ _ => h) hbs
  obtain ⟨D4, hD4, c4⟩ := hpow
  refine ⟨if e = 0 then y.1 else h, if e = 0 then true else is, _, (c4.arm 0 0 0), ?_⟩
  have ht := told_eq (c4.arm 0 0 0)
  simp only [nN] at ht
  have hw : IntKind.wrap .i64 ((i : Int) + 1) = ((i + 1 : Nat) : Int) := wrap_i64 (by omega) (by omega)
  have hz : (if (0 : Int) < 1 ∨ (0 : Int) < 0 ∨ (0 : Int) > 2 then (0 : Int) else 0) = 0 := by decide
  have hm : max (0 : Int) 0 = 0 := by decide
  by_cases he : e = 0
  · subst he
    rw [if_pos (by rfl), hD4]
    simp only [Fall_eq, Arm_eq, Option.bind_some, hz, hm]
    simp only [if_true, beq_self_eq_true] at ht ⊢
    rw [ht]
    simp only [Option.bind_some, Bool.not_true, Bool.false_eq_true, if_false, hw]
    simp
  · have he' : ¬ (e == 0) = true := by simpa using he
    rw [if_neg he', hD4]
    simp only [Fall_eq, Arm_eq, Option.bind_some, hz, hm]
    simp only [if_neg he] at ht ⊢
    rw [ht]
    simp only [Option.bind_some, Bool.not_true, Bool.false_eq_true, if_false, hw]
    by_cases h9' : (e == 9) = true
    · simp [h9']
    · simp [h9']

theorem loop_eq {a0 : List TurnS} {k10 : DiskS → Option Bool} (hl : a0.length < 4611686018427387904) (hy : ∀ i, i < a0.length → TurnOk (List.getD a0 i ([], 0, 0, 0, [], false, ()))) {bes : Option FileS} (hbs : ∀ f, bes = some f → f.2.2 = [] ∧ f.2.1 = f.1) : ∀ (j i : Nat) (h : List Int) (is : Bool) (D : DiskS), i + j = a0.length → CInv h is D bes →
    ∃ h' is' D', CInv h' is' D' bes ∧ escrowlaw07_CheckKeeps_l0 a0 k10 (j + 1) (h, is, (i : Int), D) = k10 D'
  | 0, i, h, is, D, e, c => ⟨h, is, D, c, by simp only [escrowlaw07_CheckKeeps_l0]; rw [if_neg (by simp only [decide_eq_true_eq]; omega)]⟩
  | j + 1, i, h, is, D, e, c => by
    obtain ⟨h1, is1, D1, c1, e1⟩ := round_eq (k10 := k10) (j := j + 1) hl (i := i) (by omega) (hy i (by omega)) c hbs
    obtain ⟨h2, is2, D2, c2, e2⟩ := loop_eq (k10 := k10) hl hy hbs j (i + 1) h1 is1 D1 (by omega) c1
    exact ⟨h2, is2, D2, c2, e1.trans e2⟩

theorem escrowlaw07_CheckKeeps_true (a0 : List TurnS) (a1 : List Int) {q1 q2 q3 q5 q6 : TurnS → Prop} {r0 r1 r2 r4 : FateS → Prop}
    (h0 : List.length a0 * 72 ≤ 140737488351232 ∧ ∀ y ∈ a0, (byteOk y.1 ∧ List.length y.1 ≤ 140737488351232) ∧ q1 y ∧ q2 y ∧ q3 y ∧ (List.length y.2.2.2.2.1 * 48 ≤ 140737488351232 ∧ ∀ z ∈ y.2.2.2.2.1, r0 z ∧ r1 z ∧ r2 z ∧ (byteOk z.2.2.2.1 ∧ List.length z.2.2.2.1 ≤ 140737488351232) ∧ r4 z) ∧ q5 y ∧ q6 y)
    (h1 : byteOk a1 ∧ List.length a1 ≤ 140737488351232) : escrowlaw07_CheckKeeps a0 a1 = some true := by
  have hl : a0.length < 4611686018427387904 := by omega
  have hy : ∀ i, i < a0.length → TurnOk (List.getD a0 i ([], 0, 0, 0, [], false, ())) := fun i hi => by
    have hmem : List.getD a0 i ([], 0, 0, 0, [], false, ()) ∈ a0 := by
      rw [List.getD_eq_getElem?_getD, List.getElem?_eq_getElem hi, Option.getD_some]
      exact List.getElem_mem hi
    obtain ⟨⟨g1, _⟩, _, _, _, ⟨g2, g3⟩, _⟩ := h0.2 _ hmem
    exact ⟨g1, ⟨by omega, fun x hx => ⟨(g3 x hx).2.2.2.1.1, by have := (g3 x hx).2.2.2.1.2; omega⟩⟩, by omega⟩
  unfold escrowlaw07_CheckKeeps
  have hnew : disk_New 16777216 = some (0, (16777216, [], 0, 0, 0, false, false)) := by
    unfold disk_New
    simp only [bnd_eq]
    rw [if_neg (by decide)]
  simp only [hnew, Option.bind_some, bnd_eq, cfirst_eq]
  rw [if_neg (by decide), if_neg (by decide), if_pos (by decide)]
  have hnb : check_isName nB = some true := by decide +kernel
  have hok0 : FsOk ([] : List (List Int × FileS)) := ⟨(fun p hp => by cases hp), by simp, by simp⟩
  -- what stands beside
  have hbes : ∃ e D' bes, check_Save (16777216, [], 0, 0, 0, false, false) nB a1 = some (e, D') ∧ CInv [] false D' bes ∧ (∀ f, bes = some f → f.2.2 = [] ∧ f.2.1 = f.1) ∧ (if a1.length ≤ 1048448 then e = 0 ∧ bes = some (cb a1, cb a1, []) else e ≠ 0 ∧ bes = none) := by
    by_cases hla : a1.length ≤ 1048448
    · obtain ⟨e, D', g1, g2, g3, g4, g5, g6, g7, g8⟩ := Save_eq (D := (16777216, [], 0, 0, 0, false, false)) (a := nB) (t := nB ++ tmp) hok0 rfl rfl hnb rfl (by decide) (by decide +kernel) (by decide +kernel) h1.1 hla (by simp) (by decide)
      have he : e = 0 := g8 rfl rfl
      subst he
      have hof : D'.2.2.2.2.2.1 = false ∧ D'.2.2.2.2.2.2 = false := by
        rcases g7 with ⟨h, _⟩ | ⟨_, h⟩
        · cases h
        · exact h
      refine ⟨0, D', some (cb a1, cb a1, []), g1, ⟨g3, hof.1, hof.2, g2, (fun k hk => ?_), ?_, (fun _ => rfl), (fun h => by cases h), g4 rfl⟩, (fun f h => by cases h; exact ⟨rfl, rfl⟩), by rw [if_pos hla]; exact ⟨rfl, rfl⟩⟩
      · rw [g6 k (fun e => hk (by rw [← e]; decide)) (fun e => hk (by rw [← e]; decide))]; rfl
      · rw [g6 nN (by decide) (by decide)]; rfl
    · refine ⟨3, _, none, Save_long hnb (by omega), ⟨hok0, rfl, rfl, rfl, (fun _ _ => rfl), rfl, (fun _ => rfl), (fun h => by cases h), rfl⟩, (fun f h => by cases h), ?_⟩
      rw [if_neg hla]; exact ⟨by decide, rfl⟩
  obtain ⟨e, D', bes, g1, g2, g3, g4⟩ := hbes
  simp only [nB] at g1
  rw [g1]
  simp only [Option.bind_some]
  have hc : ¬ (e != 0 && decide ((a1.length : Int) ≤ 1048448)) = true := by
    by_cases hla : a1.length ≤ 1048448
    · rw [if_pos hla] at g4; simp [g4.1]
    · simp only [Bool.and_eq_true, decide_eq_true_eq]; omega
  rw [if_neg hc]
  have ef : Int.toNat ((a0.length : Int) - 0) + 1 = a0.length + 1 := by omega
  rw [ef]
  obtain ⟨h', is', D2, c2, e2⟩ := loop_eq (a0 := a0) (k10 := fun (o11 : DiskS) => (escrowlaw07_told o11 [98, 101, 115, 105, 100, 101]).bind fun (r12 : List Int × Bool × Bool) => if (r12.2.2 && ((decide ((List.length a1 : Int) > 1048448)) == (!r12.2.1))) = true then some (!r12.2.1 || (r12.1 == a1)) else some false) hl hy g3 a0.length 0 [] false D' (by omega) g2
  refine Eq.trans ?_ (e2.trans ?_)
  · rfl
  · show (escrowlaw07_told D2 nB).bind _ = _
    unfold escrowlaw07_told
    by_cases hla : a1.length ≤ 1048448
    · rw [if_pos hla] at g4
      have hb := c2.bes
      rw [g4.2] at hb
      rw [Load_some c2.ok c2.off hnb hb rfl h1.1 hla]
      have hd : decide ((List.length a1 : Int) > 1048448) = false := by simp only [decide_eq_false_iff_not]; omega
      simp [bnd_eq, hd]
    · rw [if_neg hla] at g4
      have hb := c2.bes
      rw [g4.2] at hb
      rw [Load_none c2.ok c2.off hnb hb]
      have hd : decide ((List.length a1 : Int) > 1048448) = true := by simp only [decide_eq_true_eq]; omega
      simp [bnd_eq, hd]
end Sx
