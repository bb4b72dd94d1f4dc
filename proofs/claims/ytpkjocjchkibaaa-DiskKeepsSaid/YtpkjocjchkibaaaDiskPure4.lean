/-
  Own work. The disk's plain functions: a crash.
-/
import Derived.Test.YtpkjocjchkibaaaDiskPure3
namespace Sx
open Go

abbrev FateS := List Int × Int × Int × List Int × Unit
def FatesOk (l : List FateS) : Prop := l.length < 4611686018427387904 ∧ ∀ x ∈ l, byteOk x.2.2.2.1 ∧ x.2.2.2.1.length ≤ 140737488355328
def fate0 : FateS := ([], 0, 0, [], ())

theorem fateOf_l0 (l : List FateS) (hl : l.length < 4611686018427387904) (name : List Int) (s : Int) (k : Unit → Option FateS) : ∀ (j i : Nat), i + j = l.length → (∃ r ∈ l, disk_fateOf_l0 l name s k (j + 1) (i : Int) = some r) ∨ disk_fateOf_l0 l name s k (j + 1) (i : Int) = k ()
  | 0, i, h => .inr (by simp only [disk_fateOf_l0]; rw [if_neg (by simp only [decide_eq_true_eq]; omega)])
  | j + 1, i, h => by
    have e : disk_fateOf_l0 l name s k (j + 1 + 1) (i : Int) = if ((List.getD l i fate0).1 == name && (List.getD l i fate0).2.1 == s) = true then some (List.getD l i fate0) else disk_fateOf_l0 l name s k (j + 1) ((i + 1 : Nat) : Int) := by
      conv => lhs; simp only [disk_fateOf_l0]
      rw [if_pos (by simp only [decide_eq_true_eq]; omega), if_pos (by omega)]
      simp only [bnd_eq, Int.toNat_natCast]
      rw [wrap_i64 (by omega) (by omega)]
      rfl
    rw [e]
    split
    · left
      have hi : i < l.length := by omega
      refine ⟨_, ?_, rfl⟩
      rw [List.getD_eq_getElem?_getD, List.getElem?_eq_getElem hi, Option.getD_some]
      exact List.getElem_mem hi
    · exact fateOf_l0 l hl name s k j (i + 1) (by omega)
theorem fateOf_eq {l : List FateS} (hl : FatesOk l) (name : List Int) (s : Int) : ∃ r, disk_fateOf l name s = some r ∧ byteOk r.2.2.2.1 ∧ r.2.2.2.1.length ≤ 140737488355328 := by
  unfold disk_fateOf
  simp only [bnd_eq]
  have e : Int.toNat ((l.length : Int) - 0) + 1 = l.length + 1 := by omega
  rw [e]
  rcases fateOf_l0 l hl.1 name s (fun _ => some fate0) l.length 0 (by omega) with ⟨r, hr, h⟩ | h
  · exact ⟨r, h, hl.2 r hr⟩
  · exact ⟨fate0, h, (fun x hx => by cases hx), by simp [fate0]⟩

def MapOk (m : List (Int × FateS)) : Prop := ∀ p ∈ m, byteOk p.2.2.2.2.1 ∧ p.2.2.2.2.1.length ≤ 140737488355328
theorem ipins_mem {k : Int} {v : FateS} {q : Int × FateS} : ∀ {l : List (Int × FateS)}, q ∈ pins (.int .i64) k v l → q = (k, v) ∨ q ∈ l
  | [], h => by simp [pins] at h; exact .inl h
  | p :: l, h => by
    simp only [pins] at h
    split at h
    · rcases List.mem_cons.1 h with h | h
      · exact .inl h
      · exact .inr h
    · rcases List.mem_cons.1 h with h | h
      · exact .inr (by simp [h])
      · rcases ipins_mem h with h | h
        · exact .inl h
        · exact .inr (by simp [h])
theorem iput_ok {k : Int} {v : FateS} {m : List (Int × FateS)} (hm : MapOk m) (hv : byteOk v.2.2.2.1 ∧ v.2.2.2.1.length ≤ 140737488355328) : MapOk (pput (.int .i64) k v m) := fun p hp => by
  rcases ipins_mem hp with rfl | hp
  · exact hv
  · exact hm p (List.mem_filter.1 hp).1
theorem iput_len (k : Int) (v : FateS) (m : List (Int × FateS)) : (pput (.int .i64) k v m).length ≤ m.length + 1 := by
  unfold pput
  rw [pins_length]
  have : (pdel (.int .i64) k m).length ≤ m.length := List.length_filter_le _ _
  omega
theorem fall_fold {f : FileS} {name : List Int} {l : List FateS} (hl : FatesOk l) : ∀ (ks : List Int) (s : Int × List (Int × FateS)), 0 ≤ s.1 → s.1 ≤ f.1.length → s.2.length + ks.length < 4611686018427387904 → MapOk s.2 →
    ∃ s', foldK (disk_file_fall_l1 f name l) ks s = some s' ∧ 0 ≤ s'.1 ∧ s'.1 ≤ f.1.length ∧ MapOk s'.2
  | [], s, h0, h1, _, hm => ⟨s, rfl, h0, h1, hm⟩
  | k :: ks, s, h0, h1, hb, hm => by
    obtain ⟨r, hr, hrb⟩ := fateOf_eq hl name k
    simp only [List.length_cons] at hb
    have e : disk_file_fall_l1 f name l k s = some (if (r.2.2.1 == 1 || r.2.2.1 == 2) = true then max s.1 (min (IntKind.wrap .i64 (IntKind.wrap .i64 (k + 1) * 64)) (f.1.length : Int)) else s.1, pput (.int .i64) k r s.2) := by
      unfold disk_file_fall_l1
      simp only [hr, Option.bind_some, bnd_eq]
      rw [if_pos (by omega)]
      split <;> rfl
    have hlen := iput_len k r s.2
    have hmx : s.1 ≤ max s.1 (min (IntKind.wrap .i64 (IntKind.wrap .i64 (k + 1) * 64)) (f.1.length : Int)) := Int.le_max_left _ _
    have hmy : max s.1 (min (IntKind.wrap .i64 (IntKind.wrap .i64 (k + 1) * 64)) (f.1.length : Int)) ≤ (f.1.length : Int) := Int.max_le.2 ⟨h1, Int.min_le_right _ _⟩
    generalize max s.1 (min (IntKind.wrap .i64 (IntKind.wrap .i64 (k + 1) * 64)) (f.1.length : Int)) = mx at hmx hmy e
    obtain ⟨s', h2, h3, h4, h5⟩ := fall_fold (f := f) (name := name) hl ks (if (r.2.2.1 == 1 || r.2.2.1 == 2) = true then mx else s.1, pput (.int .i64) k r s.2)
      (by show (0 : Int) ≤ if _ then _ else _; split <;> omega) (by show (if _ then _ else _ : Int) ≤ _; split <;> omega) (by show (pput _ _ _ _).length + _ < _; omega) (iput_ok hm hrb)
    refine ⟨s', ?_, h3, h4, h5⟩
    show (disk_file_fall_l1 f name l k s).bind _ = _
    rw [e]; exact h2

theorem byteOk_set {l : List Int} {i : Nat} {c : Int} (h : byteOk l) (hc : 0 ≤ c ∧ c < 256) : byteOk (l.set i c) := fun x hx => by
  rcases List.mem_or_eq_of_mem_set hx with h' | rfl
  · exact h x h'
  · exact hc
theorem byteOk_getD {l : List Int} {i : Nat} (h : byteOk l) (hi : i < l.length) : 0 ≤ l.getD i 0 ∧ l.getD i 0 < 256 := by
  rw [List.getD_eq_getElem?_getD, List.getElem?_eq_getElem hi, Option.getD_some]; exact h _ (List.getElem_mem hi)
theorem mapOk_get {m : List (Int × FateS)} (h : MapOk m) (s : Int) : byteOk ((pget (.int .i64) s m).getD ([], 0, 0, [], ())).2.2.2.1 ∧ ((pget (.int .i64) s m).getD ([], 0, 0, [], ())).2.2.2.1.length ≤ 140737488355328 := by
  cases hg : pget (.int .i64) s m with
  | none => exact ⟨(fun x hx => by cases hx), by simp⟩
  | some r =>
    unfold pget at hg
    cases hf : m.find? (fun p => keq (.int .i64) p.1 s) with
    | none => rw [hf] at hg; cases hg
    | some p =>
      rw [hf] at hg
      simp only [Option.map_some, Option.some.injEq] at hg
      subst hg
      exact h p (List.mem_of_find?_eq_some hf)
theorem fall_out {f : FileS} (hf : byteOk f.2.1) (o8 : Int × List (Int × FateS)) (hm : MapOk o8.2) (r10 : List Int) (hr : r10.length ≤ 1048576) (k : List Int → Option FileS) : ∀ (j i : Nat) (out : List Int), i + j = r10.length → out.length = r10.length → byteOk out →
    ∃ out', disk_file_fall_l0 f o8 r10 k (j + 1) ((i : Int), out) = k out' ∧ out'.length = r10.length ∧ byteOk out' ∧ (o8.2 = [] → out' = out)
  | 0, i, out, h, hl, hb => ⟨out, by simp only [disk_file_fall_l0]; rw [if_neg (by simp only [decide_eq_true_eq]; omega)], hl, hb, fun _ => rfl⟩
  | j + 1, i, out, h, hl, hb => by
    have hi : i < r10.length := by omega
    have htd : IntKind.wrap .i64 (Int.tdiv (i : Int) 64) = ((i / 64 : Nat) : Int) := by
      rw [Int.tdiv_eq_ediv_of_nonneg (by omega)]; exact wrap_i64 (by omega) (by omega)
    have hnx : IntKind.wrap .i64 ((i : Int) + 1) = ((i + 1 : Nat) : Int) := wrap_i64 (by omega) (by omega)
    have hs64 : IntKind.wrap .i64 (((i / 64 : Nat) : Int) * 64) = ((i / 64 * 64 : Nat) : Int) := wrap_i64 (by omega) (by omega)
    have hi41 : IntKind.wrap .i64 ((i : Int) - ((i / 64 * 64 : Nat) : Int)) = ((i % 64 : Nat) : Int) := by
      rw [wrap_i64 (by omega) (by omega)]; omega
    obtain ⟨hx, hxl⟩ := mapOk_get hm ((i / 64 : Nat) : Int)
    -- the step
    have hstep : ∃ out1, disk_file_fall_l0 f o8 r10 k (j + 1 + 1) ((i : Int), out) = disk_file_fall_l0 f o8 r10 k (j + 1) (((i + 1 : Nat) : Int), out1) ∧ out1.length = r10.length ∧ byteOk out1 ∧ (o8.2 = [] → out1 = out) := by
      conv => arg 1; ext out1; lhs; lhs; simp only [disk_file_fall_l0]
      rw [if_pos (by simp only [decide_eq_true_eq]; omega)]
      simp only [bnd_eq, htd, hnx, hs64, hi41, Int.toNat_natCast]
      generalize hX : (pget (.int .i64) ((i / 64 : Nat) : Int) o8.2).getD ([], 0, 0, [], ()) = x at hx hxl ⊢
      by_cases c1 : (!(pget (.int .i64) ((i / 64 : Nat) : Int) o8.2).isSome || x.2.2.1 == 1) = true
      · rw [if_pos c1]
        exact ⟨out, rfl, hl, hb, fun _ => rfl⟩
      · rw [if_neg c1]
        have hne : o8.2 = [] → False := fun e => by
          rw [e] at c1
          exact c1 (by simp [pget])
        by_cases c2 : (x.2.2.1 == 2) = true
        · rw [if_pos c2, if_pos (by omega)]
          by_cases c3 : decide (((i % 64 : Nat) : Int) < (x.2.2.2.1.length : Int)) = true
          · have c3' : i % 64 < x.2.2.2.1.length := by simp only [decide_eq_true_eq] at c3; omega
            rw [if_pos c3, if_pos (by omega), if_pos (by rw [List.length_set]; omega)]
            exact ⟨_, rfl, by simp [hl], byteOk_set (byteOk_set hb (by decide)) (byteOk_getD hx c3'), fun e => (hne e).elim⟩
          · rw [if_neg c3]
            exact ⟨_, rfl, by simp [hl], byteOk_set hb (by decide), fun e => (hne e).elim⟩
        · rw [if_neg c2, if_pos (by omega)]
          by_cases c3 : decide ((i : Int) < (f.2.1.length : Int)) = true
          · have c3' : i < f.2.1.length := by simp only [decide_eq_true_eq] at c3; omega
            rw [if_pos c3, if_pos (by omega), if_pos (by rw [List.length_set]; omega)]
            exact ⟨_, rfl, by simp [hl], byteOk_set (byteOk_set hb (by decide)) (byteOk_getD hf c3'), fun e => (hne e).elim⟩
          · rw [if_neg c3]
            exact ⟨_, rfl, by simp [hl], byteOk_set hb (by decide), fun e => (hne e).elim⟩
    obtain ⟨out1, e1, l1, b1, s1⟩ := hstep
    obtain ⟨out', e2, l2, b2, s2⟩ := fall_out hf o8 hm r10 hr k j (i + 1) out1 (by omega) l1 b1
    exact ⟨out', e1.trans e2, l2, b2, fun e => (s2 e).trans (s1 e)⟩

theorem fall_eq {f : FileS} (hf : FOk f) (name : List Int) {l : List FateS} (hl : FatesOk l) : ∃ g, disk_file_fall f name l = some g ∧ FOk g ∧ g.2.1 = g.1 ∧ g.2.2 = [] ∧ (f.2.2 = [] → f.2.1 = f.1 → g = f) := by
  obtain ⟨hb1, hb2, hl1, hl2, hn, hd⟩ := hf
  have hdl := nodup_len hn hd
  obtain ⟨s', h1, h2, h3, h4⟩ := fall_fold (f := f) (name := name) hl f.2.2 ((f.2.1.length : Int), []) (by simp) (by simp; omega) (by simp; omega) (fun p hp => by cases hp)
  have hcl : slices_Clone__byte_byte (List.take (Int.toNat s'.1) f.1) = some (List.take (Int.toNat s'.1) f.1) := clone_eq (by simp; omega)
  have htl : (List.take (Int.toNat s'.1) f.1).length ≤ 1048576 := by simp; omega
  obtain ⟨out, e1, e2, e3, e4⟩ := fall_out (f := f) hb2 s' h4 (List.take (Int.toNat s'.1) f.1) htl (fun o13 => (slices_Clone__byte_byte o13).bind fun r17 => some (o13, r17, [])) (List.take (Int.toNat s'.1) f.1).length 0 (List.take (Int.toNat s'.1) f.1) (by omega) rfl (byteOk_of_subset (List.take_subset _ _) hb1)
  have hco : slices_Clone__byte_byte out = some out := clone_eq (by omega)
  refine ⟨(out, out, []), ?_, ⟨e3, e3, by show out.length ≤ _; omega, Nat.le_refl _, List.nodup_nil, fun s hs => by cases hs⟩, rfl, rfl, fun hd0 hs0 => ?_⟩
  · unfold disk_file_fall
    simp only [bnd_eq, h1, Option.bind_some]
    rw [if_pos (by omega), hcl]
    simp only [Option.bind_some]
    have ef : Int.toNat (((List.take (Int.toNat s'.1) f.1).length : Int) - 0) + 1 = (List.take (Int.toNat s'.1) f.1).length + 1 := by omega
    rw [ef]
    refine e1.trans ?_
    simp only [hco, Option.bind_some]
  · have hs' : s' = ((f.2.1.length : Int), []) := by
      rw [hd0] at h1
      exact (Option.some.inj h1).symm
    have := e4 (by rw [hs'])
    have ht : List.take (Int.toNat s'.1) f.1 = f.1 := by rw [hs', hs0]; simp
    rw [ht] at this
    rw [this]
    obtain ⟨a, b, c⟩ := f
    simp only at hd0 hs0 ⊢
    rw [hd0, hs0]
end Sx
