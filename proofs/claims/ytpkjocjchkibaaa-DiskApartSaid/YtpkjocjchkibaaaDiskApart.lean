/-
  Own work. Chapter 04: the lists that are told are the caller's own.
-/
import Derived.Test.YtpkjocjchkibaaaDiskStep
namespace Sx
open Go

theorem sameInts_l0 (l : List Int) (hl : l.length < 4611686018427387904) (k : Unit → Option Bool) : ∀ (j i : Nat), i + j = l.length → escrowlaw04_sameInts_l0 l l k (j + 1) (i : Int) = k ()
  | 0, i, h => by
    unfold escrowlaw04_sameInts_l0
    rw [if_neg (by simp only [decide_eq_true_eq]; omega)]
  | j + 1, i, h => by
    have ew : IntKind.wrap .i64 ((i : Int) + 1) = ((i + 1 : Nat) : Int) := wrap_i64 (by omega) (by omega)
    unfold escrowlaw04_sameInts_l0
    simp only [bnd_eq, ew]
    rw [if_pos (by simp only [decide_eq_true_eq]; omega), if_pos (by omega), if_pos (by omega), if_neg (by simp)]
    exact sameInts_l0 l hl k j (i + 1) (by omega)
theorem sameInts_eq {l : List Int} (hl : l.length < 4611686018427387904) : escrowlaw04_sameInts l l = some true := by
  unfold escrowlaw04_sameInts
  simp only [bnd_eq]
  have ef : Int.toNat ((l.length : Int) - 0) + 1 = l.length + 1 := by omega
  rw [if_neg (by simp), ef]
  exact sameInts_l0 l hl _ l.length 0 (by omega)

theorem apart_l1 (k : List Int → Option Bool) (n : Nat) (hn : n < 4611686018427387904) : ∀ (j i : Nat) (l : List Int), i + j = n → l.length = n → (0 < i → l.getD 0 0 = -1) → ∃ l', l'.length = n ∧ (0 < n → l'.getD 0 0 = -1) ∧ escrowlaw04_DiskApart_l1 k (j + 1) ((i : Int), l) = k l'
  | 0, i, l, h, hl, h0 => by
    refine ⟨l, hl, fun hp => h0 (by omega), ?_⟩
    unfold escrowlaw04_DiskApart_l1
    rw [if_neg (by simp only [decide_eq_true_eq]; omega)]
  | j + 1, i, l, h, hl, h0 => by
    have ew : IntKind.wrap .i64 ((i : Int) + 1) = ((i + 1 : Nat) : Int) := wrap_i64 (by omega) (by omega)
    obtain ⟨l', h1, h2, h3⟩ := apart_l1 k n hn j (i + 1) (l.set i (-1)) (by omega) (by rw [List.length_set]; exact hl) (fun _ => by
      rcases Nat.eq_zero_or_pos i with hz | hp
      · subst hz
        rw [List.getD_eq_getElem?_getD, List.getElem?_set_self (by omega)]; rfl
      · rw [List.getD_eq_getElem?_getD, List.getElem?_set_ne (by omega), ← List.getD_eq_getElem?_getD]; exact h0 hp)
    refine ⟨l', h1, h2, ?_⟩
    unfold escrowlaw04_DiskApart_l1
    simp only [bnd_eq, ew, Int.toNat_natCast]
    rw [if_pos (by simp only [decide_eq_true_eq]; omega), if_pos (by omega)]
    exact h3

theorem getD_app_last {α : Type} (l : List α) (x d : α) : List.getD (l ++ [x]) l.length d = x := by
  rw [List.getD_eq_getElem?_getD, List.getElem?_append_right (Nat.le_refl _)]; simp
theorem getD_app_first {α : Type} (l : List α) (x d : α) (h : 0 < l.length) : List.getD (l ++ [x]) 0 d = List.getD l 0 d := by
  rw [List.getD_eq_getElem?_getD, List.getElem?_append_left h, List.getD_eq_getElem?_getD]

theorem apart_l0 {D : DiskS} (hok : FsOk D.2.1) (ho : D.2.2.2.2.2.1 = false) (names : List (List Int)) (hn : names.length ≤ 16) (k : List (List Int) → Option Bool) : ∀ (j i : Nat) (l : List (List Int)), i + j = names.length → l.length = names.length → (0 < i → l.getD 0 [] = [119, 114, 105, 116, 116, 101, 110]) →
    ∃ l', l'.length = names.length ∧ (0 < names.length → l'.getD 0 [] = [119, 114, 105, 116, 116, 101, 110]) ∧ escrowlaw04_DiskApart_l0 (0, D) names k (j + 1) ((i : Int), l) = k l'
  | 0, i, l, h, hl, h0 => by
    refine ⟨l, hl, fun hp => h0 (by omega), ?_⟩
    unfold escrowlaw04_DiskApart_l0
    simp only [List.nil_append]
    rw [if_neg (by simp only [decide_eq_true_eq]; omega)]
  | j + 1, i, l, h, hl, h0 => by
    have ew : IntKind.wrap .i64 ((i : Int) + 1) = ((i + 1 : Nat) : Int) := wrap_i64 (by omega) (by omega)
    obtain ⟨l', h1, h2, h3⟩ := apart_l0 hok ho names hn k j (i + 1) (l.set i [119, 114, 105, 116, 116, 101, 110]) (by omega) (by rw [List.length_set]; exact hl) (fun _ => by
      rcases Nat.eq_zero_or_pos i with hz | hp
      · subst hz
        rw [List.getD_eq_getElem?_getD, List.getElem?_set_self (by omega)]; rfl
      · rw [List.getD_eq_getElem?_getD, List.getElem?_set_ne (by omega), ← List.getD_eq_getElem?_getD]; exact h0 hp)
    refine ⟨l', h1, h2, ?_⟩
    rw [← h3]
    -- the sectors of one name
    obtain ⟨ds, hds, hdl⟩ : ∃ ds, disk_Disk_Dirty D (List.getD names i []) = some ds ∧ ds.length ≤ 16384 := by
      rw [Dirty_eq hok ho]
      cases hg : pget .str (List.getD names i []) D.2.1 with
      | none => exact ⟨_, rfl, by simp⟩
      | some f =>
        have hf := hok.get hg
        exact ⟨_, rfl, nodup_len hf.2.2.2.2.1 hf.2.2.2.2.2⟩
    have hin : (0 : Int) ≤ (i : Int) ∧ (i : Int) < (names.length : Int) := by omega
    have hin2 : (0 : Int) ≤ (i : Int) ∧ (i : Int) < (l.length : Int) := by omega
    have hsame := sameInts_eq (l := ds) (by omega)
    have ef : Int.toNat ((ds.length : Int) - 0) + 1 = ds.length + 1 := by omega
    conv => lhs; unfold escrowlaw04_DiskApart_l0
    simp only [bnd_eq, List.nil_append, Int.toNat_natCast, hds, Option.bind_some, if_pos hin, hsame, ef]
    rw [if_pos (by simp only [decide_eq_true_eq]; omega), if_pos (by simp only [List.length_nil]; omega)]
    obtain ⟨m, hm1, hm2, hm3⟩ := apart_l1 (fun (o61 : List Int) => if (List.length o61 + List.length [(-2 : Int)]) * 8 ≤ 140737488355328 then
        (if (!true) = true then (if true = true then some false else if (0 : Int) ≤ (i : Int) ∧ (i : Int) < (l.length : Int) then escrowlaw04_DiskApart_l0 (0, D) names k (j + 1) (IntKind.wrap .i64 ((i : Int) + 1), List.set l i [119, 114, 105, 116, 116, 101, 110]) else none) else
          if (!true) = true then (if true = true then some false else if (0 : Int) ≤ (i : Int) ∧ (i : Int) < (l.length : Int) then escrowlaw04_DiskApart_l0 (0, D) names k (j + 1) (IntKind.wrap .i64 ((i : Int) + 1), List.set l i [119, 114, 105, 116, 116, 101, 110]) else none) else
          if (0 : Int) ≤ IntKind.wrap .i64 ((List.length (o61 ++ [(-2 : Int)]) : Int) - 1) ∧ IntKind.wrap .i64 ((List.length (o61 ++ [(-2 : Int)]) : Int) - 1) < (List.length (o61 ++ [(-2 : Int)]) : Int) then
            (if (List.getD (o61 ++ [(-2 : Int)]) (Int.toNat (IntKind.wrap .i64 ((List.length (o61 ++ [(-2 : Int)]) : Int) - 1))) 0 != -2) = true then (if true = true then some false else if (0 : Int) ≤ (i : Int) ∧ (i : Int) < (l.length : Int) then escrowlaw04_DiskApart_l0 (0, D) names k (j + 1) (IntKind.wrap .i64 ((i : Int) + 1), List.set l i [119, 114, 105, 116, 116, 101, 110]) else none) else
              if decide ((ds.length : Int) > 0) = true then (if (0 : Int) ≤ 0 ∧ 0 < (List.length (o61 ++ [(-2 : Int)]) : Int) then (if (List.getD (o61 ++ [(-2 : Int)]) 0 0 != -1) = true then some false else if (0 : Int) ≤ (i : Int) ∧ (i : Int) < (l.length : Int) then escrowlaw04_DiskApart_l0 (0, D) names k (j + 1) (IntKind.wrap .i64 ((i : Int) + 1), List.set l i [119, 114, 105, 116, 116, 101, 110]) else none) else none) else
                (if false = true then some false else if (0 : Int) ≤ (i : Int) ∧ (i : Int) < (l.length : Int) then escrowlaw04_DiskApart_l0 (0, D) names k (j + 1) (IntKind.wrap .i64 ((i : Int) + 1), List.set l i [119, 114, 105, 116, 116, 101, 110]) else none)) else none) else none) ds.length (by omega) ds.length 0 ds (by omega) rfl (fun h => absurd h (by omega))
    refine Eq.trans ?_ (hm3.trans ?_)
    · rfl
    · have hlen : ((m ++ [(-2 : Int)]).length : Int) = (ds.length : Int) + 1 := by simp only [List.length_append, List.length_cons, List.length_nil, hm1]; omega
      have hw1 : IntKind.wrap .i64 ((ds.length : Int) + 1 - 1) = (ds.length : Int) := by rw [wrap_i64 (by omega) (by omega)]; omega
      have hlast : List.getD (m ++ [(-2 : Int)]) ds.length 0 = -2 := by rw [← hm1]; exact getD_app_last m (-2) 0
      simp only [hlen, hw1, Int.toNat_natCast, hlast, ew]
      rw [if_pos (by simp only [hm1, List.length_cons, List.length_nil]; omega), if_neg (by decide), if_neg (by decide), if_pos (by omega), if_neg (by decide)]
      by_cases hz : 0 < ds.length
      · have hfirst : List.getD (m ++ [(-2 : Int)]) 0 0 = -1 := by rw [getD_app_first m _ _ (by omega)]; exact hm2 hz
        rw [if_pos (by simp only [decide_eq_true_eq]; omega), if_pos (by omega), hfirst, if_neg (by decide), if_pos hin2]
      · rw [if_neg (by simp only [decide_eq_true_eq]; omega), if_neg (by decide), if_pos hin2]

theorem escrowlaw04_DiskApart_true (a0 : List OpS) {q0 q1 q5 q8 : OpS → Prop} {r0 r1 r2 r4 : FateS → Prop} (h0 : List.length a0 * 104 ≤ 140737488351232 ∧ ∀ y ∈ a0, @OpSmall q0 q1 q5 q8 r0 r1 r2 r4 y) : escrowlaw04_DiskApart a0 = some true := by
  have ha := opsOk_of h0
  obtain ⟨D, h1, hok, ho, _⟩ := made_eq ha
  have hlen := hok.2.2
  have hli := List_eq hok ho
  have hkl : (D.2.1.map (·.1)).length = D.2.1.length := by simp
  generalize hnm : D.2.1.map (·.1) = names at hli hkl
  unfold escrowlaw04_DiskApart
  simp only [h1, Option.bind_some, bnd_eq, dfirst_eq, hli, List.nil_append]
  rw [if_neg (by decide), if_neg (by decide), if_pos trivial, if_pos (by simp only [List.length_nil]; omega)]
  have ef : Int.toNat ((names.length : Int) - 0) + 1 = names.length + 1 := by omega
  rw [ef]
  have hsame := sameTexts_eq (l := names) (by omega)
  simp only [hsame, Option.bind_some]
  obtain ⟨m, hm1, hm2, hm3⟩ := apart_l0 hok ho names (by omega) (fun (o13 : List (List Int)) => if (List.length o13 + List.length ([[109, 111, 114, 101]] : List (List Int))) * 16 ≤ 140737488355328 then
      (if true = true then (if true = true then (if (0 : Int) ≤ IntKind.wrap .i64 ((List.length (o13 ++ ([[109, 111, 114, 101]])) : Int) - 1) ∧ IntKind.wrap .i64 ((List.length (o13 ++ ([[109, 111, 114, 101]])) : Int) - 1) < (List.length (o13 ++ ([[109, 111, 114, 101]])) : Int) then
        (if (List.getD (o13 ++ ([[109, 111, 114, 101]])) (Int.toNat (IntKind.wrap .i64 ((List.length (o13 ++ ([[109, 111, 114, 101]])) : Int) - 1))) [] == [109, 111, 114, 101]) = true then (if ((names.length : Int) == 0) = true then some true else if (0 : Int) ≤ 0 ∧ 0 < (List.length (o13 ++ ([[109, 111, 114, 101]])) : Int) then some (List.getD (o13 ++ ([[109, 111, 114, 101]])) 0 [] == [119, 114, 105, 116, 116, 101, 110]) else none) else some false) else none) else some false) else if false = true then none else some false) else none) names.length 0 names (by omega) rfl (fun h => absurd h (by omega))
  refine Eq.trans ?_ (hm3.trans ?_)
  · rfl
  · have hl2 : ((m ++ ([[109, 111, 114, 101]] : List (List Int))).length : Int) = (names.length : Int) + 1 := by simp only [List.length_append, List.length_cons, List.length_nil, hm1]; omega
    have hw1 : IntKind.wrap .i64 ((names.length : Int) + 1 - 1) = (names.length : Int) := by rw [wrap_i64 (by omega) (by omega)]; omega
    have hlast : List.getD (m ++ ([[109, 111, 114, 101]] : List (List Int))) names.length [] = [109, 111, 114, 101] := by rw [← hm1]; exact getD_app_last m _ []
    simp only [hl2, hw1, Int.toNat_natCast, hlast]
    rw [if_pos (by simp only [hm1, List.length_cons, List.length_nil]; omega), if_pos trivial, if_pos trivial, if_pos (by omega), if_pos (by decide)]
    by_cases hz : 0 < names.length
    · have hfirst : List.getD (m ++ ([[109, 111, 114, 101]] : List (List Int))) 0 [] = [119, 114, 105, 116, 116, 101, 110] := by rw [getD_app_first m _ _ (by omega)]; exact hm2 hz
      rw [if_neg (by simp only [beq_iff_eq]; omega), if_pos (by omega), hfirst]
      rfl
    · rw [if_pos (by simp only [beq_iff_eq]; omega)]
end Sx
