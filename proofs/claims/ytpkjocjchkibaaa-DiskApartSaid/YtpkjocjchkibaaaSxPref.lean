/-
  Own work. Regions that draw their order: of what only reads, and all else waits for, one order serves every order.
-/
import Derived.Test.YtpkjocjchkibaaaSxDraw
namespace Sx
open Go

section
variable {P : Program} {ops : Array Oper} {C : World → Prop} {K : Act → Prop} {is : List Nat} {fin : Array Bool}

def wpSub (P : Program) (ops : Array Oper) (C : World → Prop) (is : List Nat) (fin : Array Bool) (K : Act → Prop) : Nat → Array Bool → Act → Prop
  | 0, listed, a => listed = fin ∧ K a
  | m + 1, listed, a => (∃ i ∈ is, i ∈ Region.ready .any ops listed) ∧ ∀ i ∈ is, i ∈ Region.ready .any ops listed → qOp P ops C i (wpSub P ops C is fin K m (listed.setIfInBounds i true)) a

theorem sub_first {i : Nat} {oi : Oper} {v : Value} (hi : ops[i]? = some oi) (hsel : ∀ (j : Nat) (o : Oper) cs b, ops[j]? = some o → o.op ≠ .select cs b) (hfin : ∀ j ∈ is, j ∉ Region.ready .any ops fin) (hmem : i ∈ is) :
    ∀ (m : Nat) (listed : Array Bool) (a : Act),
      (∀ j oj, ops[j]? = some oj → j ≠ i → listed.getD j true = false → (∀ e ∈ oj.after, Region.binds .any e = true → e.on ≠ i) → oi.apart ops oj = true) →
      i ∈ Region.ready .any ops listed → YieldsIn P ops C oi v a →
      wpSub P ops C is fin K m (listed.setIfInBounds i true) (a.put oi.dst v) → wpSub P ops C is fin K (m + 1) listed a := by
  intro m
  induction m with
  | zero =>
    intro listed a _ hr hy H
    refine ⟨⟨i, hmem, hr⟩, fun j hj hjr => ?_⟩
    by_cases hji : j = i
    · subst hji; exact hy.qOp hi H
    · have := ready_mono hjr hji
      rw [H.1] at this
      exact absurd this (hfin j hj)
  | succ m ih =>
    intro listed a hfree hr hy H
    refine ⟨⟨i, hmem, hr⟩, fun j hj hjr => ?_⟩
    by_cases hji : j = i
    · subst hji; exact hy.qOp hi H
    · have h1 := H.2 j hj (ready_mono hjr hji)
      obtain ⟨hjun, oj, hoj, hall⟩ := mem_ready.1 hjr
      have hnot : ∀ e ∈ oj.after, Region.binds .any e = true → e.on ≠ i := fun e he hb heq => by
        have h1 := hall e he hb
        have h0 := (mem_ready.1 hr).1
        rw [heq] at h1
        rcases Nat.lt_or_ge i listed.size with h' | h'
        · simp [h'] at h0 h1; rw [h0] at h1; cases h1
        · simp [Array.getElem?_eq_none h'] at h1
      have h2 := qOp_put hoj (hfree j oj hoj hji hjun hnot) (fun cs b => hsel i oi cs b hi) (fun cs b => hsel j oj cs b hoj) hy h1
      have hfree' : ∀ k ok, ops[k]? = some ok → k ≠ i → (listed.setIfInBounds j true).getD k true = false →
          (∀ e ∈ ok.after, Region.binds .any e = true → e.on ≠ i) → oi.apart ops ok = true := fun k ok hk hki hun hno => by
        refine hfree k ok hk hki ?_ hno
        by_cases hjk : j = k
        · subst hjk; exact hjun
        · rw [getD_set_ne true hjk] at hun; exact hun
      refine qOp_mono (fun a' h3 => ih (listed.setIfInBounds j true) a' hfree' (ready_mono hr (Ne.symm hji)) h3.1 ?_) h2
      rw [Array.setIfInBounds_comm _ _ hji]
      exact h3.2

def lexOn (ops : Array Oper) (fin : Array Bool) : List Nat → Array Bool → Bool
  | [], listed => listed == fin
  | i :: is, listed => (Region.ready .any ops listed).contains i && Region.free .any ops listed i && lexOn ops fin is (listed.setIfInBounds i true)

theorem sub_lex (hs : Region.noSelect ops = true) (hfin : ∀ j ∈ is, j ∉ Region.ready .any ops fin) : ∀ (l : List Nat) (listed : Array Bool) (a : Act), (∀ i ∈ l, i ∈ is) → lexOn ops fin l listed = true →
    wpQuiet P ops C K (l.filterMap (ops[·]?)) a → wpSub P ops C is fin K l.length listed a
  | [], listed, a, _, hB, h => ⟨by simpa [lexOn] using hB, h⟩
  | i :: l, listed, a, hl, hB, h => by
    simp only [lexOn, Bool.and_eq_true] at hB
    obtain ⟨⟨hr, hf⟩, hB'⟩ := hB
    have hr' : i ∈ Region.ready .any ops listed := by simpa using hr
    obtain ⟨_, o, h0, _⟩ := mem_ready.1 hr'
    have h' : wpQuiet P ops C K (o :: l.filterMap (ops[·]?)) a := by simpa [List.filterMap_cons, h0] using h
    have hst : qOp P ops C i (wpQuiet P ops C K (l.filterMap (ops[·]?))) a := by unfold qOp; simp only [h0]; exact h'
    obtain ⟨v, hy, hK⟩ := yieldsIn_of_qOp h0 hst
    exact sub_first h0 (Region.noSelect_spec hs) hfin (hl i (by simp)) l.length listed a (Region.free_spec h0 hf) hr' hy
      (sub_lex hs hfin l _ _ (fun j hj => hl j (by simp [hj])) hB' hK)

def full (is : List Nat) (listed : Array Bool) : Array Bool := is.foldl (fun l i => l.setIfInBounds i true) listed
theorem full_set : ∀ (is : List Nat) (listed : Array Bool) (i : Nat), full is (listed.setIfInBounds i true) = (full is listed).setIfInBounds i true
  | [], _, _ => rfl
  | k :: is, listed, i => by
    show full is ((listed.setIfInBounds i true).setIfInBounds k true) = (full is (listed.setIfInBounds k true)).setIfInBounds i true
    rw [← full_set is]
    congr 1
    by_cases h : i = k
    · subst h; rfl
    · exact Array.setIfInBounds_comm _ _ h
theorem set_twice (l : Array Bool) (i : Nat) : (l.setIfInBounds i true).setIfInBounds i true = l.setIfInBounds i true := by simp
theorem full_mem : ∀ (is : List Nat) (listed : Array Bool) (i : Nat), i ∈ is → full is (listed.setIfInBounds i true) = full is listed
  | k :: is, listed, i, h => by
    by_cases hk : i = k
    · subst hk
      show full is ((listed.setIfInBounds i true).setIfInBounds i true) = full is (listed.setIfInBounds i true)
      rw [set_twice]
    · have : i ∈ is := (List.mem_cons.1 h).elim (fun h => absurd h hk) id
      show full is ((listed.setIfInBounds i true).setIfInBounds k true) = full is (listed.setIfInBounds k true)
      rw [Array.setIfInBounds_comm _ _ hk, full_mem is _ _ this]
theorem ready_full {j : Nat} : ∀ (is : List Nat) (listed : Array Bool), j ∉ is → j ∈ Region.ready .any ops listed → j ∈ Region.ready .any ops (full is listed)
  | [], _, _, h => h
  | k :: is, listed, hn, h => ready_full is _ (fun h' => hn (by simp [h'])) (ready_mono h (fun e => hn (by simp [e])))

theorem sub_any {Q' : Exit → Act → World → Prop} {fuel : Nat} {listed0 : Array Bool} (hbar : ∀ i ∈ is, ∀ j ∈ Region.ready .any ops (full (is.filter (· != i)) listed0), j ∈ is) (hQ : ∀ a w, C w → K a → wpAny P .any ops Q' fuel fin a w) :
    ∀ (m : Nat) (listed : Array Bool) (a : Act) (w : World), C w → (∀ i ∈ is, listed.getD i true = false → full (is.filter (· != i)) listed = full (is.filter (· != i)) listed0) →
    wpSub P ops C is fin K m listed a → wpAny P .any ops Q' (fuel + m) listed a w
  | 0, listed, a, w, hw, _, ⟨h1, h2⟩ => by subst h1; exact hQ a w hw h2
  | m + 1, listed, a, w, hw, hinv, ⟨⟨i, hi, hir⟩, h⟩ => by
    have hmem : ∀ j ∈ Region.ready .any ops listed, j ∈ is := fun j hj => by
      by_cases hji : j ∈ is
      · exact hji
      · have := ready_full (is.filter (· != i)) listed (fun h => hji (List.mem_filter.1 h).1) hj
        rw [hinv i hi (mem_ready.1 hir).1] at this
        exact hbar i hi j this
    refine ⟨fun h0 => (by rw [h0] at hir; cases hir), fun j hj => ?_⟩
    refine wpOp_of_qOp hw (fun a' w' hw' hs => sub_any hbar hQ m _ a' w' hw' (fun k hk hun => ?_) hs) (h j (hmem j hj) hj)
    have hkj : j ≠ k := fun e => by
      subst e
      have h0 := (mem_ready.1 hj).1
      rcases Nat.lt_or_ge j listed.size with h' | h'
      · simp [h'] at hun
      · simp [Array.getElem?_eq_none h'] at h0
    rw [full_mem _ _ _ (List.mem_filter.2 ⟨hmem j hj, by simp [hkj]⟩)]
    exact hinv k hk (by rwa [getD_set_ne true hkj] at hun)

/-- what the kernel looks at -/
def prefChk (ops : Array Oper) (is : List Nat) (listed fin : Array Bool) : Bool :=
  Region.noSelect ops && lexOn ops fin is listed && is.all (fun j => !(Region.ready .any ops fin).contains j) && is.all fun i => (Region.ready .any ops (full (is.filter (· != i)) listed)).all fun j => is.contains j
end

section
variable {P : Program} {Tb : Tab} {F : Fr} {n : Nat} {E E' : Env} {L : List Res} {ops : Array Oper} {Q : Exit → Act → World → Prop}

theorem a_pref {fuel : Nat} {listed : Array Bool} (is : List Nat) (fin : Array Bool) (hc : prefChk ops is listed fin = true) (g : QGo P ops F n E L (qEnd F L (wpAny P .any ops Q fuel fin)) (is.filterMap (ops[·]?))) : Go F n E L (wpAny P .any ops Q (fuel + is.length) listed) := fun M a w c => by
  simp only [prefChk, Bool.and_eq_true, List.all_eq_true, Bool.not_eq_true', List.contains_eq_mem, decide_eq_false_iff_not, decide_eq_true_eq] at hc
  obtain ⟨⟨⟨h1, h2⟩, h3⟩, h4⟩ := hc
  exact sub_any (C := Cls F M L w) (K := qEnd F L (wpAny P .any ops Q fuel fin) M w) h4 (fun a' w' hw' hk => hk w' hw') is.length listed a w ⟨c.st, fun _ _ => rfl⟩ (fun i hi _ => rfl)
    (sub_lex h1 h3 is listed a (fun i hi => hi) h2 (g M a w c))
end
end Sx
