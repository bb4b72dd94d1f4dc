/-
  Own work. slices.Sort of strings and of ints, as the kit's shelf has it, in this library's form.
-/
import Derived.Test.YtpkjocjchkibaaaSxShelfD
import Derived.Shelf.SortG.Plain
import Derived.Shelf.SortG.SortNone
import Derived.Lib.SlKeysI
namespace Sx
open Go Go.Maps Go.Sort Go.RowKit

abbrev byt (x : List Int) : List UInt8 := x.map fun c => UInt8.ofNat c.toNat

theorem before_lt : ∀ {a b : List UInt8}, bytesBefore a b = true → a < b
  | [], [], h => by simp [bytesBefore] at h
  | [], _ :: _, _ => List.Lex.nil
  | _ :: _, [], h => by simp [bytesBefore] at h
  | x :: a, y :: b, h => by
    simp only [bytesBefore, Bool.or_eq_true, Bool.and_eq_true, decide_eq_true_eq, beq_iff_eq] at h
    rcases h with h | ⟨rfl, h⟩
    · exact List.Lex.rel h
    · exact List.Lex.cons (before_lt h)

theorem sort_str {xs ys : List (List Int)} (hb : ∀ x ∈ xs, byteOk x) (hp : xs.Perm ys) (hs : ys.Pairwise (fun a b => sLt a b = true)) : (xs.map byt).mergeSort (fun x y => decide (x ≤ y)) = ys.map byt := by
  have h1 := mergeSort_of_perm (hp.map byt)
  have hby : ∀ y ∈ ys, byteOk y := fun y hy => hb y (hp.mem_iff.2 hy)
  have h2 : (ys.map byt).Pairwise (fun a b => leB a b = true) := by
    rw [List.pairwise_map]
    refine hs.imp_of_mem fun {a b} ha hb' h => ?_
    rw [← sLt_before (hby a ha) (hby b hb')] at h
    simp only [leB, decide_eq_true_eq]
    exact List.le_of_lt (before_lt h)
  have h3 := List.mergeSort_of_pairwise h2
  exact h1.trans h3
theorem sort_int {xs ys : List Int} (hp : xs.Perm ys) (hs : ys.Pairwise (fun a b => a < b)) : xs.mergeSort (fun x y => decide (x ≤ y)) = ys := by
  have h1 := mergeSort_of_perm_i hp
  have h2 : ys.Pairwise (fun a b => leI a b = true) := hs.imp fun h => by simp only [leI, decide_eq_true_eq]; omega
  exact h1.trans (List.mergeSort_of_pairwise h2)

theorem repL_str {M : Mem} : ∀ {cs : List Value} {xs : List (List Int)}, RepL (Rep .str M) cs xs → cs = xs.map (fun x => Go.Proofs.encStr (byt x)) ∧ ∀ x ∈ xs, byteOk x ∧ x.length ≤ most
  | _, [], h => ⟨h, fun _ h => by cases h⟩
  | _, x :: xs, ⟨c1, c2, e, ⟨h1, h2⟩, h3⟩ => by
    obtain ⟨e2, h4⟩ := repL_str h3
    refine ⟨by rw [e, h1, e2]; rfl, fun y hy => ?_⟩
    rcases List.mem_cons.1 hy with rfl | hy
    · exact h2
    · exact h4 y hy
theorem repL_str_of {M : Mem} : ∀ {xs : List (List Int)}, (∀ x ∈ xs, byteOk x ∧ x.length ≤ most) → RepL (Rep .str M) (xs.map (fun x => Go.Proofs.encStr (byt x))) xs
  | [], _ => rfl
  | x :: xs, h => ⟨[Go.Proofs.encStr (byt x)], _, rfl, ⟨rfl, h x (by simp)⟩, repL_str_of fun y hy => h y (by simp [hy])⟩
theorem repL_int {M : Mem} {k : IntKind} : ∀ {cs : List Value} {xs : List Int}, RepL (Rep (.int k) M) cs xs → cs = xs.map (Value.int k) ∧ ∀ x ∈ xs, rng k x
  | _, [], h => ⟨h, fun _ h => by cases h⟩
  | _, x :: xs, ⟨c1, c2, e, ⟨h1, h2⟩, h3⟩ => by
    obtain ⟨e2, h4⟩ := repL_int h3
    refine ⟨by rw [e, h1, e2]; rfl, fun y hy => ?_⟩
    rcases List.mem_cons.1 hy with rfl | hy
    · exact h2
    · exact h4 y hy
theorem repL_int_of {M : Mem} {k : IntKind} : ∀ {xs : List Int}, (∀ x ∈ xs, rng k x) → RepL (Rep (.int k) M) (xs.map (Value.int k)) xs
  | [], _ => rfl
  | x :: xs, h => ⟨[Value.int k x], _, rfl, ⟨rfl, h x (by simp)⟩, repL_int_of fun y hy => h y (by simp [hy])⟩

theorem holds_cells {α : Type} [Inhabited α] {enc : α → Value} {w : World} {g : Nat} {cur : Array Value} {e : TypeId} {fr : Nat × Nat} {ss : List α} (hb : w.heap[g]? = some (.cells cur e fr)) (hf : unfrozen fr cur.size) (ht : cur.toList.take ss.length = ss.map enc) : Go.Sort.Holds enc w g 0 ss.toArray := by
  intro j hj
  have hj' : j < ss.length := by simpa using hj
  have h1 : (cur.toList.take ss.length)[j]? = (ss.map enc)[j]? := by rw [ht]
  rw [List.getElem?_take_of_lt hj'] at h1
  have hlt : j < cur.size := by
    rcases Nat.lt_or_ge j cur.size with h | h
    · exact h
    · rw [List.getElem?_eq_none (by simpa using h)] at h1
      simp [hj'] at h1
  refine ⟨?_, ?_⟩
  · simp only [World.cell?, hb, Nat.zero_add]
    simp only [Option.isSome_none, Bool.false_eq_true, if_false]
    rw [← Array.getElem?_toList, h1]
    simp [hj']
  · simp only [World.frozen?, hb, Nat.zero_add]
    have := hf j hlt
    simpa using this

/-- slices.Sort: whatever row it is handed comes back sorted -/
def SortOk (P : Program) (k : FuncId) {α : Type} [Inhabited α] (enc : α → Value) (le : α → α → Bool) : Prop :=
  (∀ (blk cap : Nat) (ss : List α) (w : World), Go.Sort.Holds enc w blk 0 ss.toArray → blk < w.heap.size → ss.length < 4611686018427387904 →
    Calls P k #[.slice (some ⟨blk, 0, none⟩) ss.length cap] w fun e w' => e = .returned (.tuple #[]) ∧ ∃ n os, w' = grow (putRow enc (Sort.ahead w n) blk 0 (ss.mergeSort le).toArray) os) ∧
  ∀ (p : Option Addr) (cap : Nat) (w : World), Calls P k #[.slice p 0 cap] w fun e w' => e = .returned (.tuple #[]) ∧ w' = w

theorem grown_row {α : Type} [Inhabited α] {enc : α → Value} {w : World} {g n : Nat} {os : Array Obj} (d : Array α) : w.grownBy (grow (putRow enc (Sort.ahead w n) g 0 d) os) (some g) := by
  refine ⟨rfl, rfl, rfl, by simp, fun k hk hne => ?_⟩
  rw [heap_grow_old _ _ (by simpa using hk)]
  have : g ≠ k := fun e => hne (by rw [e])
  simp [putRow, mapBlock, Sort.ahead, Array.getElem?_modify, this]
theorem heap_row {α : Type} [Inhabited α] {enc : α → Value} {w : World} {g n : Nat} {os : Array Obj} {cur : Array Value} {e : TypeId} {fr : Nat × Nat} (d : Array α) (hb : w.heap[g]? = some (.cells cur e fr)) :
    (grow (putRow enc (Sort.ahead w n) g 0 d) os).heap[g]? = some (.cells (putCells enc 0 d cur) e fr) := by
  have hg : g < w.heap.size := (Array.getElem?_eq_some_iff.1 hb).1
  rw [heap_grow_old _ _ (by simpa using hg)]
  simp [putRow, mapBlock, Sort.ahead, Array.getElem?_modify, hb, onCells]
theorem take_row {α : Type} [Inhabited α] {enc : α → Value} (cur : Array Value) (ts : List α) (h : ts.length ≤ cur.size) : (putCells enc 0 ts.toArray cur).toList.take ts.length = ts.map enc := by
  apply List.ext_getElem?
  intro j
  by_cases hj : j < ts.length
  · rw [List.getElem?_take_of_lt hj, Array.getElem?_toList]
    simp [putCells, hj, show j < cur.size by omega]
  · rw [List.getElem?_take_eq_none (by omega), List.getElem?_eq_none (by simp; omega)]

/-- the sort as a contract over a slice of the call's own -/
theorem sort_fn {P : Program} {k : FuncId} {e : TypeId} {t : T} (ht : t.size = 1) {α : Type} [Inhabited α] {enc : α → Value} {le : α → α → Bool} (hk : SortOk P k enc le) (f : t.D → α) {xs ys : List t.D} (hsort : (xs.map f).mergeSort le = ys.map f) (hlen : ys.length = xs.length) (hl : xs.length < 4611686018427387904)
    (hx : ∀ M cs, RepL (Rep t M) cs xs → cs = (xs.map f).map enc ∧ RepL (Rep t M) ((ys.map f).map enc) ys) (v : Value) :
    Fn P k [.one (.raw (.slice none 0 0)) v] [Res.own v e t xs] (fun _ => .tup []) (fun _ => [Res.own v e t ys]) := fun F w vs hst hsz hargs => by
  cases hargs with
  | cons hv hr =>
    cases hr
    obtain ⟨hvv, _⟩ := holds_raw.1 hv
    rw [hvv]
    clear hv hvv
    obtain ⟨S, hS⟩ := hst.res (i := 0) rfl
    by_cases hne : xs = []
    · subst hne
      obtain rfl : ys = [] := List.eq_nil_of_length_eq_zero hlen
      obtain ⟨a, cap, rfl⟩ : ∃ a cap, v = .slice a 0 cap := by
        rcases hS with ⟨⟨a, rfl⟩, _⟩ | ⟨b, cap, rfl, _⟩
        · exact ⟨_, _, rfl⟩
        · exact ⟨_, _, rfl⟩
      refine (hk.2 a cap w).mono ?_
      rintro e' w' ⟨rfl, rfl⟩
      exact ⟨_, F.base, rfl, hst, [], rfl, .nil⟩
    · rcases hS with ⟨_, h, _⟩ | ⟨b, cap, rfl, hS, c, fr, hb, hrep, hcs, hle, hmost, hfr⟩
      · exact absurd h hne
      rw [ht, Nat.mul_one] at hrep hcs
      obtain ⟨hc, hy⟩ := hx _ _ hrep
      have hc' : c.toList.take (xs.map f).length = (xs.map f).map enc := by rw [List.length_map]; exact hc
      have hH := holds_cells (enc := enc) hb hfr hc'
      have hlt : b < w.heap.size := heap_lt hb
      have := hk.1 b cap (xs.map f) w hH hlt (by rw [List.length_map]; exact hl)
      rw [List.length_map] at this
      refine this.mono ?_
      rintro e' w' ⟨rfl, n, os, rfl⟩
      rw [hsort]
      refine ⟨_, F.base, rfl, hst.turnG (i := 0) (R' := Res.own (.slice (some ⟨b, 0, none⟩) xs.length cap) e t ys) rfl (grown_row _) ?_ ?_, [], rfl, .nil⟩
      · rintro S' h'
        right
        have hSS : ∀ k, S' k ↔ k = b := by
          rcases h' with ⟨_, h, _⟩ | ⟨b', cap', h, h2, _⟩
          · exact absurd h hne
          · cases h; exact h2
        refine ⟨b, cap, by rw [hlen], hSS, _, fr, heap_row _ hb, ?_, ?_, by rw [hlen]; exact hle, by rw [hlen]; exact hmost, ?_⟩
        · rw [ht, Nat.mul_one]
          have := take_row (enc := enc) c (ys.map f) (by rw [List.length_map, hlen, hcs]; exact hle)
          rw [List.length_map] at this
          rw [this]
          exact hy
        · simp [putCells, hcs, ht]
        · have : (putCells enc 0 (ys.map f).toArray c).size = c.size := by simp [putCells]
          rw [this]; exact hfr
      · rintro S' h'
        rcases h' with ⟨_, h, _⟩ | ⟨b', cap', h, h2, _⟩
        · exact absurd h hne
        · cases h; exact (h2 _).2 rfl

theorem sortS_of {P : Program} {ρ : Go.Shelf.Ren} (L : Go.Proofs.SlLaysN.n54 P ρ) : SortOk P (ρ.f 54) Go.Proofs.encStr (fun x y => decide (x ≤ y)) :=
  ⟨fun blk cap ss w h1 h2 h3 => Go.Proofs.AnyG.slices_Sort_string L blk 0 cap ss w h1 h2 h3, fun p cap w => Go.Proofs.AnyG.slices_Sort_string_none L p cap w⟩
theorem sortI_of {P : Program} {ρ : Go.Shelf.Ren} (L : Go.Proofs.SlLaysN.n53 P ρ) : SortOk P (ρ.f 53) (Value.int .i64) (fun x y => decide (x ≤ y)) :=
  ⟨fun blk cap ss w h1 h2 h3 => Go.Proofs.AnyG.slices_Sort_int L blk 0 cap ss w h1 h2 h3, fun p cap w => Go.Proofs.AnyG.slices_Sort_int_none L p cap w⟩

theorem sortS_fn {P : Program} {k : FuncId} {e : TypeId} (hk : SortOk P k Go.Proofs.encStr (fun x y => decide (x ≤ y))) {xs ys : List (List Int)} (hp : xs.Perm ys) (hs : ys.Pairwise (fun a b => sLt a b = true)) (hb : ∀ x ∈ xs, byteOk x) (hl : xs.length < 4611686018427387904) (v : Value) :
    Fn P k [.one (.raw (.slice none 0 0)) v] [Res.own v e .str xs] (fun _ => .tup []) (fun _ => [Res.own v e .str ys]) :=
  sort_fn (t := .str) rfl hk byt (sort_str hb hp hs) hp.length_eq.symm hl (fun M cs h => by
    obtain ⟨h1, h2⟩ := repL_str h
    refine ⟨by rw [h1, List.map_map]; rfl, ?_⟩
    rw [List.map_map]
    exact repL_str_of fun y hy => h2 y (hp.mem_iff.2 hy)) v
theorem sortI_fn {P : Program} {k : FuncId} {e : TypeId} (hk : SortOk P k (Value.int .i64) (fun x y => decide (x ≤ y))) {xs ys : List Int} (hp : xs.Perm ys) (hs : ys.Pairwise (fun a b => a < b)) (hl : xs.length < 4611686018427387904) (v : Value) :
    Fn P k [.one (.raw (.slice none 0 0)) v] [Res.own v e (.int .i64) xs] (fun _ => .tup []) (fun _ => [Res.own v e (.int .i64) ys]) :=
  sort_fn (t := .int .i64) rfl hk id (by simpa using sort_int hp hs) hp.length_eq.symm hl (fun M cs h => by
    obtain ⟨h1, h2⟩ := repL_int h
    refine ⟨by rw [h1]; simp, ?_⟩
    simpa using repL_int_of (M := M) (k := .i64) (xs := ys) fun y hy => h2 y (hp.mem_iff.2 hy)) v
end Sx
