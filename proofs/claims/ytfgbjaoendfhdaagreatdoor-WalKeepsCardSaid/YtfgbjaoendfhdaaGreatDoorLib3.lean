/-
  Own work, of several texts. slices.Sort of strings and of ints, as the kit's shelf has it, in this library's form.
  slices.Sorted(maps.Keys(m)) at keys that are ints, as the kit's shelf has it, in this library's form.
  The order of names, and rows of entries that rise by it.
  Regions that draw their order and write: what is loaded from variables that nobody writes meanwhile is taken first (the kit's 'wpAnyH'); maps.Clone.
  Things behind a pointer as one resource: a struct, and the slices that it alone holds.
  A text that is built up: strings.Builder, of the call's own.
  The sort of any list of ints; a number's text.
  Lending own slices to a call that wants the tables.
  A function with one deferred closure that catches its panics: two results, both in memory.
  A range over a function: rounds in the caller's frame; the iterator's contract; marks at the return.
  'for i, c := range s' over a string.
  From a row with a bound of its own to the plain function.
  From a row that lists tables to the plain function.
-/
import Derived.Test.YtfgbjaoendfhdaaGreatDoorLib2
import Derived.Shelf.SortG.Plain
import Derived.Shelf.SortG.SortNone
import Derived.Lib.SlKeysI
import Derived.Shelf.SlIterI.Nil
import Derived.Maps.Ext
import Derived.OrdersHeld
import Derived.Shelf.SlMaps.Clone
import Derived.Test.YtfgbjaoendfhdaaGreatDoorLib1
import Derived.Lib.UnsafeStr
import Derived.Recover
import Derived.RangeFuncNested
import Derived.RangeFuncCalls
import Derived.RangeFuncLeaves
import Derived.TacticsInMore
import Derived.Laws.RangeString
import Derived.Deep.CondSized
import Derived.Deep.DeepHandedRow
import Derived.Stop.LaidErr
import Derived.JoinedOf
import Derived.JoinedCond
namespace Sx
open Go Go.Maps Go.Sort Go.RowKit
abbrev byt (x : List Int) : List UInt8 := x.map fun c => UInt8.ofNat c.toNat
theorem ujj : ∀ {a b : List UInt8}, bytesBefore a b = true → a < b
  | [], [], h => by simp [bytesBefore] at h
  | [], _ :: _, _ => List.Lex.nil
  | _ :: _, [], h => by simp [bytesBefore] at h
  | x :: a, y :: b, h => by
    simp only [bytesBefore, Bool.or_eq_true, Bool.and_eq_true, decide_eq_true_eq, beq_iff_eq] at h
    rcases h with h | ⟨rfl, h⟩
    · exact List.Lex.rel h
    · exact List.Lex.cons (ujj h)
theorem un6 {xs ys : List (List Int)} (hb : ∀ x ∈ xs, uan x) (hp : xs.Perm ys) (hs : ys.Pairwise (fun a b => sLt a b = true)) : (xs.map byt).mergeSort (fun x y => decide (x ≤ y)) = ys.map byt := by
  have h1 := mergeSort_of_perm (hp.map byt)
  have hby : ∀ y ∈ ys, uan y := fun y hy => hb y (hp.mem_iff.2 hy)
  have h2 : (ys.map byt).Pairwise (fun a b => leB a b = true) := by
    rw [List.pairwise_map]
    refine hs.imp_of_mem fun {a b} ha hb' h => ?_
    rw [← ugj (hby a ha) (hby b hb')] at h
    simp only [leB, decide_eq_true_eq]
    exact List.le_of_lt (ujj h)
  have h3 := List.mergeSort_of_pairwise h2
  exact h1.trans h3
theorem uko {M : Mem} : ∀ {cs : List Value} {xs : List (List Int)}, RepL (Rep .str M) cs xs → cs = xs.map (fun x => Go.Proofs.encStr (byt x)) ∧ ∀ x ∈ xs, uan x ∧ x.length ≤ most
  | _, [], h => ⟨h, fun _ h => by cases h⟩
  | _, x :: xs, ⟨c1, c2, e, ⟨h1, h2⟩, h3⟩ => by
    obtain ⟨e2, h4⟩ := uko h3
    refine ⟨by rw [e, h1, e2]; rfl, fun y hy => ?_⟩
    rcases List.mem_cons.1 hy with rfl | hy
    · exact h2
    · exact h4 y hy
theorem uhv {M : Mem} : ∀ {xs : List (List Int)}, (∀ x ∈ xs, uan x ∧ x.length ≤ most) → RepL (Rep .str M) (xs.map (fun x => Go.Proofs.encStr (byt x))) xs
  | [], _ => rfl
  | x :: xs, h => ⟨[Go.Proofs.encStr (byt x)], _, rfl, ⟨rfl, h x (by simp)⟩, uhv fun y hy => h y (by simp [hy])⟩
theorem ukp {M : Mem} {k : IntKind} : ∀ {cs : List Value} {xs : List Int}, RepL (Rep (.int k) M) cs xs → cs = xs.map (Value.int k) ∧ ∀ x ∈ xs, rng k x
  | _, [], h => ⟨h, fun _ h => by cases h⟩
  | _, x :: xs, ⟨c1, c2, e, ⟨h1, h2⟩, h3⟩ => by
    obtain ⟨e2, h4⟩ := ukp h3
    refine ⟨by rw [e, h1, e2]; rfl, fun y hy => ?_⟩
    rcases List.mem_cons.1 hy with rfl | hy
    · exact h2
    · exact h4 y hy
theorem uhw {M : Mem} {k : IntKind} : ∀ {xs : List Int}, (∀ x ∈ xs, rng k x) → RepL (Rep (.int k) M) (xs.map (Value.int k)) xs
  | [], _ => rfl
  | x :: xs, h => ⟨[Value.int k x], _, rfl, ⟨rfl, h x (by simp)⟩, uhw fun y hy => h y (by simp [hy])⟩
theorem ulc {α : Type} [Inhabited α] {enc : α → Value} {w : World} {g o : Nat} {cur : Array Value} {e : TypeId} {fr : Nat × Nat} {ss : List α} (hb : w.heap[g]? = some (.cells cur e fr)) (hf : ufx fr cur.size) (ht : (cur.toList.drop o).take ss.length = ss.map enc) : Go.Sort.Holds enc w g o ss.toArray := by
  intro j hj
  have hj' : j < ss.length := by simpa using hj
  have h1 : ((cur.toList.drop o).take ss.length)[j]? = (ss.map enc)[j]? := by rw [ht]
  rw [List.getElem?_take_of_lt hj', List.getElem?_drop] at h1
  have hlt : o + j < cur.size := by
    rcases Nat.lt_or_ge (o + j) cur.size with h | h
    · exact h
    · rw [List.getElem?_eq_none (by simpa using h)] at h1
      simp [hj'] at h1
  refine ⟨?_, ?_⟩
  · simp only [World.cell?, hb]
    simp only [Option.isSome_none, Bool.false_eq_true, if_false]
    rw [← Array.getElem?_toList, h1]
    simp [hj']
  · simp only [World.frozen?, hb]
    have := hf (o + j) hlt
    simpa using this
def ufB (P : Program) (k : FuncId) {α : Type} [Inhabited α] (enc : α → Value) (le : α → α → Bool) : Prop :=
  (∀ (blk off cap : Nat) (ss : List α) (w : World), Go.Sort.Holds enc w blk off ss.toArray → blk < w.heap.size → ss.length < 4611686018427387904 →
    Calls P k #[.slice (some ⟨blk, off, none⟩) ss.length cap] w fun e w' => e = .returned (.tuple #[]) ∧ ∃ n os, w' = grow (putRow enc (Sort.ahead w n) blk off (ss.mergeSort le).toArray) os) ∧
  ∀ (p : Option Addr) (cap : Nat) (w : World), Calls P k #[.slice p 0 cap] w fun e w' => e = .returned (.tuple #[]) ∧ w' = w
theorem unc {α : Type} [Inhabited α] {enc : α → Value} {w : World} {g o n : Nat} {os : Array Obj} (d : Array α) : w.grownBy (grow (putRow enc (Sort.ahead w n) g o d) os) (some g) := by
  refine ⟨rfl, rfl, rfl, by simp, fun k hk hne => ?_⟩
  rw [heap_grow_old _ _ (by simpa using hk)]
  have : g ≠ k := fun e => hne (by rw [e])
  simp [putRow, mapBlock, Sort.ahead, Array.getElem?_modify, this]
theorem un7 {α : Type} [Inhabited α] {enc : α → Value} {w : World} {g o n : Nat} {os : Array Obj} {cur : Array Value} {e : TypeId} {fr : Nat × Nat} (d : Array α) (hb : w.heap[g]? = some (.cells cur e fr)) :
    (grow (putRow enc (Sort.ahead w n) g o d) os).heap[g]? = some (.cells (putCells enc o d cur) e fr) := by
  have hg : g < w.heap.size := (Array.getElem?_eq_some_iff.1 hb).1
  rw [heap_grow_old _ _ (by simpa using hg)]
  simp [putRow, mapBlock, Sort.ahead, Array.getElem?_modify, hb, onCells]
theorem un8 {α : Type} [Inhabited α] {enc : α → Value} (cur : Array Value) (o : Nat) (ts : List α) (h : o + ts.length ≤ cur.size) : ((putCells enc o ts.toArray cur).toList.drop o).take ts.length = ts.map enc := by
  apply List.ext_getElem?
  intro j
  by_cases hj : j < ts.length
  · rw [List.getElem?_take_of_lt hj, List.getElem?_drop, Array.getElem?_toList]
    simp [putCells, hj, show o + j < cur.size by omega]
  · rw [List.getElem?_take_eq_none (by omega), List.getElem?_eq_none (by simp; omega)]
theorem ulN {P : Program} {k : FuncId} {e : TypeId} {t : T} (ht : t.size = 1) {α : Type} [Inhabited α] {enc : α → Value} {le : α → α → Bool} (hk : ufB P k enc le) (f : t.D → α) {xs ys : List t.D} (hsort : (xs.map f).mergeSort le = ys.map f) (hlen : ys.length = xs.length) (hl : xs.length < 4611686018427387904)
    (hx : ∀ M cs, RepL (Rep t M) cs xs → cs = (xs.map f).map enc ∧ RepL (Rep t M) ((ys.map f).map enc) ys) (v : Value) :
    Fn P k [.one (.raw (.slice none 0 0)) v] [Res.own v e t xs] (fun _ => .tup []) (fun _ => [Res.own v e t ys]) := fun F w vs hst hsz hargs => by
  cases hargs with
  | cons hv hr =>
    cases hr
    obtain ⟨hvv, _⟩ := holds_raw.1 hv
    rw [hvv]
    clear hv hvv
    obtain ⟨S, hS⟩ := hst.res (i := 0) rfl
    by_cases hne : xs = []
    · subst hne
      obtain rfl : ys = [] := List.eq_nil_of_length_eq_zero hlen
      obtain ⟨a, cap, rfl⟩ : ∃ a cap, v = .slice a 0 cap := by
        rcases hS with ⟨⟨a, rfl⟩, _⟩ | ⟨b, o, cap, rfl, _⟩
        · exact ⟨_, _, rfl⟩
        · exact ⟨_, _, rfl⟩
      refine (hk.2 a cap w).mono ?_
      rintro e' w' ⟨rfl, rfl⟩
      exact ⟨_, F.base, rfl, hst, [], rfl, .nil⟩
    · rcases hS with ⟨_, h, _⟩ | ⟨b, o, cap, rfl, hS, c, fr, hb, hrep, hcs, hle, hmost, hfr⟩
      · exact absurd h hne
      rw [ht, Nat.mul_one] at hrep hcs
      obtain ⟨hc, hy⟩ := hx _ _ hrep
      have hc' : (c.toList.drop o).take (xs.map f).length = (xs.map f).map enc := by rw [List.length_map]; exact hc
      have hH := ulc (enc := enc) hb hfr hc'
      have hlt : b < w.heap.size := ubC hb
      have := hk.1 b o cap (xs.map f) w hH hlt (by rw [List.length_map]; exact hl)
      rw [List.length_map] at this
      refine this.mono ?_
      rintro e' w' ⟨rfl, n, os, rfl⟩
      rw [hsort]
      refine ⟨_, F.base, rfl, hst.turnG (i := 0) (R' := Res.own (.slice (some ⟨b, o, none⟩) xs.length cap) e t ys) rfl (unc _) ?_ ?_, [], rfl, .nil⟩
      · rintro S' h'
        right
        have hSS : ∀ k, S' k ↔ k = b := by
          rcases h' with ⟨_, h, _⟩ | ⟨b', o', cap', h, h2, _⟩
          · exact absurd h hne
          · cases h; exact h2
        refine ⟨b, o, cap, by rw [hlen], hSS, _, fr, un7 _ hb, ?_, ?_, by rw [hlen]; exact hle, by rw [hlen]; exact hmost, ?_⟩
        · rw [ht, Nat.mul_one]
          have := un8 (enc := enc) c o (ys.map f) (by rw [List.length_map, hlen, hcs]; exact Nat.add_le_add_left hle _)
          rw [List.length_map] at this
          rw [this]
          exact hy
        · simp [putCells, hcs, ht]
        · have : (putCells enc o (ys.map f).toArray c).size = c.size := by simp [putCells]
          rw [this]; exact hfr
      · rintro S' h'
        rcases h' with ⟨_, h, _⟩ | ⟨b', o', cap', h, h2, _⟩
        · exact absurd h hne
        · cases h; exact (h2 _).2 rfl
theorem un9 {P : Program} {ρ : Go.Shelf.Ren} (L : Go.Proofs.SlLaysN.n54 P ρ) : ufB P (ρ.f 54) Go.Proofs.encStr (fun x y => decide (x ≤ y)) :=
  ⟨fun blk off cap ss w h1 h2 h3 => Go.Proofs.AnyG.slices_Sort_string L blk off cap ss w h1 h2 h3, fun p cap w => Go.Proofs.AnyG.slices_Sort_string_none L p cap w⟩
theorem uoa {P : Program} {ρ : Go.Shelf.Ren} (L : Go.Proofs.SlLaysN.n53 P ρ) : ufB P (ρ.f 53) (Value.int .i64) (fun x y => decide (x ≤ y)) :=
  ⟨fun blk off cap ss w h1 h2 h3 => Go.Proofs.AnyG.slices_Sort_int L blk off cap ss w h1 h2 h3, fun p cap w => Go.Proofs.AnyG.slices_Sort_int_none L p cap w⟩
theorem uob {P : Program} {k : FuncId} {e : TypeId} (hk : ufB P k Go.Proofs.encStr (fun x y => decide (x ≤ y))) {xs ys : List (List Int)} (hp : xs.Perm ys) (hs : ys.Pairwise (fun a b => sLt a b = true)) (hb : ∀ x ∈ xs, uan x) (hl : xs.length < 4611686018427387904) (v : Value) :
    Fn P k [.one (.raw (.slice none 0 0)) v] [Res.own v e .str xs] (fun _ => .tup []) (fun _ => [Res.own v e .str ys]) :=
  ulN (t := .str) rfl hk byt (un6 hb hp hs) hp.length_eq.symm hl (fun M cs h => by
    obtain ⟨h1, h2⟩ := uko h
    refine ⟨by rw [h1, List.map_map]; rfl, ?_⟩
    rw [List.map_map]
    exact uhv fun y hy => h2 y (hp.mem_iff.2 hy)) v
end Sx
namespace Sx
open Go Go.Maps Go.Sort Go.RowKit Go.Proofs
theorem umc {P : Program} {w : World} {kid : TypeId} {b n' : Nat} {kt vt : T} {M : Mem} {lv : List (kt.D × Value)} {l : List (kt.D × vt.D)} (hk : ktChk P kt kid = true) (h : w.ownsMap P kid rawR b n' (dat kt lv)) (hr : RelKV M lv l) (ho : koks kt l) : (l.map (·.1)).Pairwise (fun a b => klt kt a b = true) := by
  obtain ⟨es, he, hp, _⟩ := h.canon (ucJ hk)
  simp only [DataW.map.injEq] at he
  subst he
  rw [List.pairwise_map] at hp
  have hkeys : lv.map (·.1) = l.map (·.1) := by
    have : ∀ {lv : List (kt.D × Value)} {l : List (kt.D × vt.D)}, RelKV M lv l → lv.map (·.1) = l.map (·.1) := by
      intro lv
      induction lv with
      | nil => intro l hr; cases l with
        | nil => rfl
        | cons _ _ => exact hr.elim
      | cons p r ih =>
        intro l hr
        cases l with
        | nil => exact hr.elim
        | cons q s => rw [List.map_cons, List.map_cons, hr.1, ih hr.2.2]
    exact this hr
  have hlo := hr.koks ho
  rw [← hkeys, List.pairwise_map]
  refine hp.imp_of_mem fun {p q} hp' hq' h => ?_
  rw [uhs (hlo p hp') (hlo q hq')] at h
  exact h
section
variable {P : Program} {F : Fr} {M : Mem} {n : Nat} {E : Env} {L : List Res} {X : Act → World → Prop}
end
section
variable {P : Program} {I : DI} {F : Fr} {n : Nat} {E : Env} {L : List Res} {ops : Array Oper} {Q : Exit → Act → World → Prop} {rest : List Oper}
theorem und {X : Act → World → Prop} {mv : Value} {fs : List (List Int × FileS)} (hk : ktChk P .str I.str = true) (g : koks .str fs → (fs.map (·.1)).Pairwise (fun a b => sLt a b = true) → Go F n E (Res.dfiles P I mv fs :: L) X) : Go F n E (Res.dfiles P I mv fs :: L) X := fun M a w c => by
  obtain ⟨S, es, hs⟩ := c.st.res (i := 0) rfl
  obtain ⟨A, B, ⟨h1, _⟩, hs2, _, _⟩ := hs
  obtain ⟨A2, B2, ⟨b, lv, rfl, hA, hown, hrel, hok⟩, _⟩ := hs2
  have h2 := umc hk hown hrel hok
  rw [uc2] at h2
  refine g ?_ ?_ M a w c
  · rw [h1]; exact pmap_koks.2 (pmap_koks.1 hok)
  · rw [h1, uc2]
    exact h2
end
end Sx
namespace Sx
open Go
end Sx
namespace Sx
open Go Go.Maps Go.RowKit
def VarIs (b : Nat) (e : TypeId) (t : T) (x : t.D) (w : World) : Prop := ∃ (cs : List Value) (M : Mem), w.heap[b]? = some (.cells cs.toArray e (0, 0)) ∧ Rep t M cs x
section
variable {P : Program} {Tb : Tab} {F : Fr} {n : Nat} {E E' : Env} {L : List Res} {ops : Array Oper} {Q : Exit → Act → World → Prop} {S : World → Prop}
theorem ud3 {id : Nat} {l : List Oper} (S : World → Prop) (hm : P.follows .mixedOrders = true) (g : Go F n E L (wpAnyH P .any l.toArray Q S l.toArray.size (Array.replicate l.toArray.size false))) : Go F n E L ((Code.region id l.toArray true).wp P Q) :=
  fun M a _ c => wp_region_held (S := S) hm (g M a _ { c with st := c.st.drew })
theorem uap {fuel i : Nat} {op : Op} {d : Nat} {ty : TypeId} {pos : String} {after : Array Edge} {listed : Array Bool} {t : TV} (hQ : Blind Q) (hi : ops[i]? = some ⟨some d, op, ty, pos, after, none⟩) (hs : Region.noSelect ops = true)
    (hr : (Region.ready .any ops listed).contains i = true) (hf : Region.free .any ops listed i = true) (hS : ∀ M w, St F M w L → S w) (h : Yields (fun _ w' => S w') P F n E L op t) (hd : Nat.ble (d + 1) n = true)
    (g : Go F n ((d, t) :: E) L (wpAnyH P .any ops Q S fuel (listed.setIfInBounds i true))) : Go F n E L (wpAnyH P .any ops Q S (fuel + 1) listed) := fun M a w c => by
  obtain ⟨v, hv, hrun⟩ := h ⟨some d, op, ty, pos, after, none⟩ rfl M a w c
  refine wpAnyH_take (oi := ⟨some d, op, ty, pos, after, none⟩) (v := v) hi hs hf hr (fun ch a w h => hQ ch a _ _ w h) (.inl ⟨by simp [Region.wanted], fun w' hw' => hrun w' hw'⟩) (hS _ _ c.st) ?_
  exact g M _ w (c.put (Mem.le.refl _) c.st (Nat.le_of_ble_eq_true hd) hv)
theorem ubQ {x : Operand} {z : Value} {b off : Nat} {e : TypeId} {t u : T} {xv : t.D} {tid : TypeId} (hV : ∀ w, S w → VarIs b e t xv w) (i : Nat) (p : Pth t u) (hfl : u.flat = true) (hx : ev E x = some (.one (.raw z) (.pointer (some ⟨b, off, none⟩)))) (hi : L[i]? = some (Res.var b e t xv))
    (hp : p.off = off) (hok : p.ok) (ht : tyChk P u tid = true) : Yields (fun _ w' => S w') P F n E L (.load tid x) (.one u (p.get xv)) := fun o ho M a w c => by
  obtain ⟨cs, hb, hr⟩ := c.st.var hi
  have hf := p.fits hok
  have hrep := Rep.get p hok hr
  rw [hp] at hrep hf
  refine ⟨mk u ((cs.drop off).take u.size), ⟨_, rfl, hrep⟩, fun w' hs => ?_⟩
  obtain ⟨cs', M', hb', hr'⟩ := hV w' hs
  have hl := hr'.size
  have hrep' := Rep.get p hok hr'
  rw [hp] at hrep'
  have hq : (cs'.drop off).take u.size = (cs.drop off).take u.size := Rep.unique hfl hrep' hrep
  have key := udT (P := P) (w := w') ht hb' (by simp [hl]; exact hf) (M := M') (x := p.get xv) (by simpa using hrep')
  obtain ⟨dst, op, ty, pos, after, guard⟩ := o
  simp only at ho; subst ho
  have h1 := (holds_raw.1 (ev_ok c hx)).1
  exact uaP (by rw [h1, ← hq]; simp only [Instr.loadAt, Instr.sureAddr, uak, uaz]; simpa using key)
theorem h_one {fuel i : Nat} {o : Oper} {listed : Array Bool} (hr : Region.ready .any ops listed = [i]) (hi : ops[i]? = some o) (g : Go F n E L (wpList P ops (Exit.then (fun a w => S w ∧ wpAnyH P .any ops Q S fuel (listed.setIfInBounds i true) a w) Q) [o])) :
    Go F n E L (wpAnyH P .any ops Q S (fuel + 1) listed) := fun M a w c => by
  refine wpAnyH_all hr (by simp) fun j hj => ?_
  obtain rfl := List.mem_singleton.1 hj
  exact ueD hi (g M a w c)
theorem h_in {fuel : Nat} {listed : Array Bool} (hS : ∀ M w, St F M w L → S w) (g : Go F n E L (wpAnyH P .any ops Q S fuel listed)) : Go F n E L (fun a w => S w ∧ wpAnyH P .any ops Q S fuel listed a w) := fun M a w c => ⟨hS _ _ c.st, g M a w c⟩
theorem h_end {listed : Array Bool} (hr : Region.ready .any ops listed = []) (g : Go F n E L (Q .normal)) : Go F n E L (wpAnyH P .any ops Q S 0 listed) := fun M a w c => ⟨hr, g M a w c⟩
end
section
variable {P : Program} {F : Fr} {n : Nat} {E : Env} {L : List Res} {ops : Array Oper} {Q : Exit → Act → World → Prop} {S : World → Prop}
theorem ulO {X : Act → World → Prop} {d : Nat} {b : Bool} (hE : E.get d = some (.one .bool b)) (g1 : b = true → Go F n ((d, .one .bool true) :: E) L X) (g2 : b = false → Go F n ((d, .one .bool false) :: E) L X) : Go F n E L X := fun M a w c => by
  have more : ∀ v : Bool, b = v → Cfg F M n ((d, .one .bool v) :: E) L a w := fun v hv => by
    have env : ∀ i t, Env.get ((d, TV.one T.bool v) :: E) i = some t → ∃ u, a.tmps[i]? = some u ∧ t.holds M u := fun i t h => by
      simp only [Env.get] at h
      split at h
      · rename_i hb
        obtain rfl := Nat.eq_of_beq_eq_true hb
        cases h
        rw [← hv]; exact c.env _ _ hE
      · exact c.env i t h
    exact ⟨c.st, c.defers, c.size, env⟩
  cases b with
  | true => exact g1 rfl M a w (more true rfl)
  | false => exact g2 rfl M a w (more false rfl)
theorem ucc {fuel i j dj d : Nat} {want : Bool} {op : Op} {ty : TypeId} {pos : String} {after : Array Edge} {listed : Array Bool} (hQ : Blind Q) (hi : ops[i]? = some ⟨some d, op, ty, pos, after, some (j, want)⟩) (hs : Region.noSelect ops = true)
    (hr : (Region.ready .any ops listed).contains i = true) (hf : Region.free .any ops listed i = true) (hS : ∀ M w, St F M w L → S w) (hd : (ops[j]?).bind (·.dst) = some dj) (hE : E.get dj = some (.one .bool (!want))) (hn : E.get d = none)
    (g : Go F n E L (wpAnyH P .any ops Q S fuel (listed.setIfInBounds i true))) : Go F n E L (wpAnyH P .any ops Q S (fuel + 1) listed) := fun M a w c => by
  have hw : Region.wanted (⟨some d, op, ty, pos, after, some (j, want)⟩ : Oper) (yielded ops a.tmps) = false := by
    rw [uen (o := ⟨some d, op, ty, pos, after, some (j, want)⟩) (ops := ops) c rfl hd hE]; cases want <;> rfl
  refine wpAnyH_take (oi := ⟨some d, op, ty, pos, after, some (j, want)⟩) (v := undef) hi hs hf hr (fun ch a w h => hQ ch a _ _ w h) (.inr ⟨hw, rfl⟩) (hS _ _ c.st) ?_
  refine g M _ w ((c.void (some d) undef).less fun q t h => ?_)
  exact ufn (fun e => by rw [e, hn] at h; cases h) h
theorem ucg {fuel i j dj d : Nat} {want : Bool} {op : Op} {ty : TypeId} {pos : String} {after : Array Edge} {listed : Array Bool} {t : TV} (hQ : Blind Q) (hi : ops[i]? = some ⟨some d, op, ty, pos, after, some (j, want)⟩) (hs : Region.noSelect ops = true)
    (hr : (Region.ready .any ops listed).contains i = true) (hf : Region.free .any ops listed i = true) (hS : ∀ M w, St F M w L → S w) (hdj : (ops[j]?).bind (·.dst) = some dj) (hE : E.get dj = some (.one .bool want)) (h : Yields (fun _ w' => S w') P F n E L op t) (hd : Nat.ble (d + 1) n = true)
    (g : Go F n ((d, t) :: E) L (wpAnyH P .any ops Q S fuel (listed.setIfInBounds i true))) : Go F n E L (wpAnyH P .any ops Q S (fuel + 1) listed) := fun M a w c => by
  obtain ⟨v, hv, hrun⟩ := h ⟨some d, op, ty, pos, after, some (j, want)⟩ rfl M a w c
  have hw : Region.wanted (⟨some d, op, ty, pos, after, some (j, want)⟩ : Oper) (yielded ops a.tmps) = true := by
    rw [uen (o := ⟨some d, op, ty, pos, after, some (j, want)⟩) (ops := ops) c rfl hdj hE]; cases want <;> rfl
  refine wpAnyH_take (oi := ⟨some d, op, ty, pos, after, some (j, want)⟩) (v := v) hi hs hf hr (fun ch a w h => hQ ch a _ _ w h) (.inl ⟨hw, fun w' hw' => hrun w' hw'⟩) (hS _ _ c.st) ?_
  exact g M _ w (c.put (Mem.le.refl _) c.st (Nat.le_of_ble_eq_true hd) hv)
end
def OwnIs (b o : Nat) (e : TypeId) (t : T) (xs : List t.D) (w : World) : Prop := ∃ (cc : Array Value) (fr : Nat × Nat) (M : Mem), w.heap[b]? = some (.cells cc e fr) ∧ RepL (Rep t M) ((cc.toList.drop o).take (xs.length * t.size)) xs ∧ o + xs.length * t.size ≤ cc.size
def AllIs (l : List (World → Prop)) (w : World) : Prop := ∀ p ∈ l, p w
theorem uba {l : List (World → Prop)} {p : World → Prop} (i : Nat) (h : l[i]? = some p) : ∀ w, AllIs l w → p w := fun _ hw => hw p (List.mem_of_getElem? h)
section
variable {P : Program} {F : Fr} {n : Nat} {E : Env} {L : List Res} {S : World → Prop}
theorem uag : ∀ M w, St F M w L → AllIs [] w := fun _ _ _ p hp => by cases hp
theorem uae {q : World → Prop} {l : List (World → Prop)} (h : ∀ M w, St F M w L → q w) (r : ∀ M w, St F M w L → AllIs l w) : ∀ M w, St F M w L → AllIs (q :: l) w := fun M w st p hp => by
  rcases List.mem_cons.1 hp with rfl | hp
  · exact h M w st
  · exact r M w st p hp
theorem uaj {b : Nat} {e : TypeId} {t : T} {x : t.D} (i : Nat) (hi : L[i]? = some (Res.var b e t x)) : ∀ M w, St F M w L → VarIs b e t x w := fun M w st => by
  obtain ⟨cs, hb, hr⟩ := st.var hi
  exact ⟨cs, M, hb, hr⟩
theorem ubs {b o len cap : Nat} {e : TypeId} {t : T} {xs : List t.D} (i : Nat) (hi : L[i]? = some (Res.own (.slice (some ⟨b, o, none⟩) len cap) e t xs)) (h0 : 0 < xs.length) : ∀ M w, St F M w L → OwnIs b o e t xs w := fun M w st => by
  obtain ⟨S, hs⟩ := st.res hi
  rcases hs with ⟨_, h, _⟩ | ⟨b', o', cap', h, h2, cc, fr, h3, h4, h5, h6, h7, h8⟩
  · rw [h] at h0; simp at h0
  · cases h
    exact ⟨cc, fr, M, h3, h4, by rw [h5]; exact Nat.add_le_add_left (Nat.mul_le_mul_right _ h6) _⟩
theorem ujk {x : Operand} {z : Value} {b o0 off len cap : Nat} {e : TypeId} {t u : T} {xs : List t.D} {tid : TypeId} (hV : ∀ w, S w → OwnIs b o0 e t xs w) (i j : Nat) (p : Pth t u) (hfl : u.flat = true) (hx : ev E x = some (.one (.raw z) (.pointer (some ⟨b, off, none⟩)))) (hi : L[i]? = some (Res.own (.slice (some ⟨b, o0, none⟩) len cap) e t xs))
    (hj : j < xs.length) (hp : o0 + j * t.size + p.off = off) (hok : p.ok) (ht : tyChk P u tid = true) : Yields (fun _ w' => S w') P F n E L (.load tid x) (.one u (p.get (xs.getD j t.zero))) := fun o ho M a w c => by
  have one : ∀ w', OwnIs b o0 e t xs w' → ∃ v, (∃ M', Holds u M' v (p.get (xs.getD j t.zero))) ∧ (loadVar tid ⟨b, off, none⟩).run P w' = .ok v w' := by
    rintro w' ⟨cc, fr, M', h3, h4, h5⟩
    have hget : xs[j]? = some (xs.getD j t.zero) := by simp [List.getD, hj]
    have hrep := RepL.get (s := t.size) (fun c x h => Rep.size h) h4 hget
    have hm : j * t.size + t.size ≤ xs.length * t.size := by rw [← Nat.succ_mul]; exact Nat.mul_le_mul_right _ hj
    have hf := p.fits hok
    have e1 : (((cc.toList.drop o0).take (xs.length * t.size)).drop (j * t.size)).take t.size = (cc.toList.drop (o0 + j * t.size)).take t.size := by
      rw [List.drop_take, List.take_take, Nat.min_eq_left (by omega), List.drop_drop]
    rw [e1] at hrep
    have hr2 := Rep.get p hok hrep
    rw [uc9 _ _ _ _ _ hf, hp] at hr2
    exact ⟨_, ⟨M', _, rfl, hr2⟩, udT (P := P) (w := w') ht h3 (by omega) hr2⟩
  have hw : OwnIs b o0 e t xs w := by
    obtain ⟨S', hs⟩ := c.st.res hi
    exact ubs i hi (by omega) M w c.st
  obtain ⟨v, ⟨M', hv⟩, _⟩ := one w hw
  refine ⟨v, hv.any hfl, fun w' hs => ?_⟩
  obtain ⟨v', ⟨M2, hv2⟩, hrun⟩ := one w' (hV w' hs)
  obtain rfl : v' = v := Holds.unique hfl hv2 hv
  obtain ⟨dst, op, ty, pos, after, guard⟩ := o
  simp only at ho; subst ho
  have h1 := (holds_raw.1 (ev_ok c hx)).1
  exact uaP (by rw [h1]; simp only [Instr.loadAt, Instr.sureAddr, uak, uaz]; exact hrun)
end
end Sx
namespace Sx
open Go
structure Kind where
  D : Type
  γ : Type
  R : Nat → γ → D → List Res
def Res.cls (K : Kind) (p : Value) (x : K.D) : Res := Res.ex fun (g : Nat × K.γ) => Res.all (Res.fact (p = .pointer (some ⟨g.1, 0, none⟩)) :: K.R g.1 g.2 x)
def Res.clsif (K : Kind) (p : Value) (x : K.D) (e : Int) : Res := if e = 0 then Res.cls K p x else Res.fact (p = NV)
section
variable {K : Kind} {P : Program} {F : Fr} {n : Nat} {E : Env} {L : List Res} {X : Act → World → Prop}
theorem uhg {p : Value} {x : K.D} (g : ∀ b s, p = .pointer (some ⟨b, 0, none⟩) → Go F n E (K.R b s x ++ L) X) : Go F n E (Res.cls K p x :: L) X :=
  ucp fun ⟨b, s⟩ => ubW (ubu fun h => g b s h)
theorem uhV {b0 : Nat} {x : K.D} (g : ∀ s, Go F n E (K.R b0 s x ++ L) X) : Go F n E (Res.cls K (.pointer (some ⟨b0, 0, none⟩)) x :: L) X :=
  uhg fun b s h => by
    have : b0 = b := by simpa using h
    subst this; exact g s
theorem r_cls {b : Nat} {s : K.γ} {x : K.D} (g : Go F n E (Res.cls K (.pointer (some ⟨b, 0, none⟩)) x :: L) X) : Go F n E (K.R b s x ++ L) X := fun M a w c => by
  refine g M a w { c with st := c.st.sep_to fun V hs => ?_ }
  obtain ⟨A, B, sa, sb, d, e⟩ := Sep.split hs
  exact ⟨A, B, ⟨(b, s), ucT rfl sa⟩, sb, d, e⟩
theorem udn {p : Value} {x : K.D} {e : Int} (h : e = 0) : ∀ M S w, (Res.clsif K p x e).sat M S w → (Res.cls K p x).sat M S w := fun M S w g => by
  unfold Res.clsif at g
  rwa [if_pos h] at g
theorem ucB {p : Value} {x : K.D} {e : Int} (h : e = 0) : ∀ M S w, (Res.cls K p x).sat M S w → (Res.clsif K p x e).sat M S w := fun M S w g => by
  unfold Res.clsif
  rw [if_pos h]; exact g
theorem ueu {x : K.D} {e : Int} (he : e ≠ 0) (g : Go F n E (Res.clsif K NV x e :: L) X) : Go F n E L X := by
  have : Res.clsif K NV x e = Res.fact (NV = NV) := by unfold Res.clsif; rw [if_neg he]
  rw [this] at g
  exact ugN rfl g
theorem uiq {x : Operand} {z p : Value} {tid w0 e : TypeId} {D : K.D} {f : Int} (i : Nat) (hx : ev E x = some (.one (.raw z) p)) (hi : L[i]? = some (Res.clsif K p D f)) (hu : P.underlying tid = some (.pointer e)) : Yields Same P F n E L (.binOp .eql tid x (.const (.pointer none)) w0) (.one .bool (f != 0)) := fun o ho M a' w c => by
  obtain ⟨S, hs⟩ := c.st.res hi
  have : ∃ a, p = .pointer a ∧ a.isNone = (f != 0) := by
    by_cases hf : f = 0
    · unfold Res.clsif at hs
      rw [if_pos hf] at hs
      obtain ⟨g, A, B, ⟨h1, _⟩, _⟩ := hs
      exact ⟨_, h1, by simp [hf]⟩
    · unfold Res.clsif at hs
      rw [if_neg hf] at hs
      exact ⟨none, hs.1, by simp [hf]⟩
  obtain ⟨a, h1, h2⟩ := this
  have := um8 (R := Same) (P := P) (F := F) (n := n) (E := E) (L := L) (w0 := w0) hx h1 hu o ho M a' w c
  rwa [h2] at this
end
section
variable {P : Program} {Tb : Tab} {F : Fr} {n : Nat} {E : Env} {L : List Res} {ops : Array Oper} {Q : Exit → Act → World → Prop} {S : World → Prop}
end
end Sx
namespace Sx
open Go Go.RowKit
section
variable {P : Program} {T e : Nat} {F : Fr} {n : Nat} {E : Env} {L : List Res} {X : Act → World → Prop}
end
end Sx
namespace Sx
open Go Go.RowKit
def insI (x : Int) : List Int → List Int
  | [] => [x]
  | y :: r => if x ≤ y then x :: y :: r else y :: insI x r
def ubj : List Int → List Int
  | [] => []
  | x :: r => insI x (ubj r)
theorem ugU (x : Int) : ∀ l : List Int, (insI x l).Perm (x :: l)
  | [] => List.Perm.refl _
  | y :: r => by
    unfold insI
    split
    · exact List.Perm.refl _
    · exact ((ugU x r).cons y).trans (List.Perm.swap x y r)
theorem udP : ∀ l : List Int, (ubj l).Perm l
  | [] => List.Perm.refl _
  | x :: r => (ugU x _).trans ((udP r).cons x)
theorem uhx (x : Int) : ∀ {l : List Int}, l.Pairwise (fun a b => a ≤ b) → (insI x l).Pairwise (fun a b => a ≤ b)
  | [], _ => by simp [insI]
  | y :: r, h => by
    unfold insI
    have hc := List.pairwise_cons.1 h
    split
    · rename_i hx
      refine List.pairwise_cons.2 ⟨fun z hz => ?_, h⟩
      rcases List.mem_cons.1 hz with rfl | hz
      · exact hx
      · have := hc.1 z hz; omega
    · rename_i hx
      refine List.pairwise_cons.2 ⟨fun z hz => ?_, uhx x hc.2⟩
      rcases List.mem_cons.1 ((ugU x r).mem_iff.1 hz) with rfl | hz
      · omega
      · exact hc.1 z hz
theorem uff : ∀ l : List Int, (ubj l).Pairwise (fun a b => a ≤ b)
  | [] => List.Pairwise.nil
  | x :: r => uhx x (uff r)
theorem uoc {P : Program} {k : FuncId} {e : TypeId} (hk : ufB P k (Value.int .i64) (fun x y => decide (x ≤ y))) {xs : List Int} (hl : xs.length < 4611686018427387904) (v : Value) :
    Fn P k [.one (.raw (.slice none 0 0)) v] [Res.own v e (.int .i64) xs] (fun _ => .tup []) (fun _ => [Res.own v e (.int .i64) (ubj xs)]) := by
  have hp := (udP xs).symm
  have hs : xs.mergeSort (fun x y => decide (x ≤ y)) = ubj xs := by
    have h1 := mergeSort_of_perm_i hp
    have h2 : (ubj xs).Pairwise (fun a b => leI a b = true) := (uff xs).imp fun {a b} (h : a ≤ b) => by simpa only [leI, decide_eq_true_eq] using h
    exact h1.trans (List.mergeSort_of_pairwise h2)
  refine ulN (t := .int .i64) rfl hk id (by simpa using hs) hp.length_eq.symm hl (fun M cs h => by
    obtain ⟨h1, h2⟩ := ukp h
    refine ⟨by rw [h1]; simp, ?_⟩
    simpa using uhw (M := M) (k := .i64) (xs := ubj xs) fun y hy => h2 y (hp.mem_iff.2 hy)) v
theorem une {P : Program} {tabs : List (String × IntKind × List Int)} {k : FuncId} (hp : pow10 ∈ tabs) (h : ∀ (n : Int), -9223372036854775808 ≤ n → n ≤ 9223372036854775807 → ∀ (w : World), Lib.TabIs P w "internal/strconv.uint64pow10" .u64 Lib.pow10Tab → Calls P k #[.int .i64 n] w fun e w' => e = .returned (.string ⟨(Lib.itoa n).toArray⟩) ∧ ∃ k os, w' = Go.Sort.grow (w.drewN k) os)
    (n : Int) (r : List Int) (hr : strconv_Itoa n = some r) : FnT P tabs k [.one (.int .i64) n] [] (fun _ => .one .str r) (fun _ => []) := by
  unfold strconv_Itoa at hr
  obtain rfl := Option.some.inj hr
  refine un4 fun M vs hv => ?_
  cases hv with
  | cons a r =>
    cases r
    obtain ⟨rfl, hn⟩ := holds_int.1 a
    have hl := ukm hn
    simp only [rng, lo, Sx.hi] at hn
    refine ⟨_, fun M => ulb (by simp only [most]; omega), fun w hs ht => ?_⟩
    refine (h n (by omega) (by omega) w (ht _ hp)).mono ?_
    rintro e w' ⟨rfl, k, os, rfl⟩
    exact ⟨rfl, Lib.below_grow _ _ (Nat.le_refl _) _ _⟩
section
variable {P : Program} {tabs : List (String × IntKind × List Int)} {F : Fr} {n : Nat} {E : Env} {L : List Res} {ops : Array Oper} {rest : List Oper} {K : Mem → World → Act → Prop}
theorem uod {k : FuncId} {args : List TV} {res : TV} {xs : List Operand} {tys : Array TypeId} {d : Nat} {ty : TypeId} {pos : String} {after : Array Edge} {G : Fr} (hT : TabM P tabs G.base) (hG : G.base = F.base) (hc : FnT P tabs k args [] (fun _ => res) (fun _ => [])) (hk : ubL P k = true) (hf : res.flat = true)
    (hx : evs E xs = some args) (hd : Nat.ble (d + 1) n = true) (g : QGo P ops F n ((d, res) :: E) L K rest) :
    QGo P ops F n E L K (⟨some d, .call ⟨.value (.func k), xs.toArray, tys⟩, ty, pos, after, none⟩ :: rest) := fun M a w c => by
  rw [hG] at hT
  have key : ∀ w', Cls F M L w w' → Calls P k (xs.map a.eval).toArray w' fun e w'' => ∃ v M', e = .returned v ∧ res.holds M' v ∧ Cls F M L w w'' := by
    intro w' hC
    obtain ⟨F', hb, hs, st', hback⟩ := hC.1.alone
    have := hc F' w' (xs.map a.eval) (by rw [hb]; exact hT.mono c.st.elder) (by rw [hb]; exact st') hs (by rw [hb]; exact uf6 c hx)
    refine this.mono ?_
    rintro e w'' ⟨v, M', rfl, st2, hv⟩
    obtain ⟨st3, sm⟩ := hback _ _ st2
    refine ⟨v, M', rfl, hv, st3, fun k hk => ?_⟩
    rw [sm k (Nat.lt_of_lt_of_le hk ?_), hC.2 k hk]
    rcases Nat.lt_or_ge w'.heap.size w.heap.size with h | h
    · have h1 := hC.2 w'.heap.size h
      rw [Array.getElem?_eq_none (Nat.le_refl _), Array.getElem?_eq_getElem h] at h1
      cases h1
    · exact h
  obtain ⟨e0, w0, _, ⟨v, M0, rfl, hv, _⟩, _⟩ := key w ⟨c.st, Same.refl w⟩ []
  unfold wpQuiet
  rw [if_pos (by simp [Region.wanted])]
  refine ⟨v, fun w' hC => ?_, g M _ w (c.put (Mem.le.refl _) c.st (Nat.le_of_ble_eq_true hd) (TV.any hf hv))⟩
  unfold Oper.quietAt
  rw [ufN hk]
  refine ⟨rfl, (key w' hC).mono ?_⟩
  rintro e w'' ⟨v', M', rfl, hv', hC'⟩
  rw [TV.unique hf hv' hv]
  exact ⟨rfl, hC'⟩
end
section
variable {P : Program} {tabs : List (String × IntKind × List Int)} {F : Fr} {n : Nat} {E : Env} {L : List Res} {ops : Array Oper} {rest : List Oper} {K : Mem → World → Act → Prop}
end
theorem ujN {X : List Int} {i : Nat} (h : i < X.length) : ∃ x rest, X.drop i = x :: rest ∧ X.getD i 0 = x ∧ X.drop (i + 1) = rest :=
  ⟨X[i], X.drop (i + 1), List.drop_eq_getElem_cons h, by simp [List.getD, h], rfl⟩
theorem unf {i m : Nat} (h : i < m) (hm : m < 4611686018427387904) : IntKind.wrap .i64 ((i : Int) + 1) = ((i + 1 : Nat) : Int) := by
  rw [uaN (by simp only [rng, lo, Sx.hi]; omega)]
  omega
open Classical in
theorem uld {F : Fr} {n : Nat} {E : Env} {L : List Res} {X : Act → World → Prop} {v z : Value} {e : TypeId} {t : T} {xs : List t.D} {b : Nat} {e0 : TypeId} {T0 : T} {x0 : T0.D} (p : Pth T0 (.raw z)) (hok : p.fields = true) (hv : p.get x0 = v)
    (g : Go F n E (Res.var b e0 (p.sub (.sl e t)) (p.put (.sl e t) x0 xs) :: L) X) : Go F n E (Res.own v e t xs :: Res.var b e0 T0 x0 :: L) X := fun M a w c => by
  obtain ⟨V, ⟨S, V', r, ⟨S2, V2, r2, s2, d2, e2⟩, dj, ev⟩, d⟩ := c.st.sep
  let M' : Mem := fun k => if S k then w.heap[k]? else M k
  have hle : M.le M' := fun k o e => by
    have : ¬ S k := fun h => by have := (d k ((ev k).2 (.inl h))).1; rw [this] at e; cases e
    show (if S k then _ else _) = _
    rw [if_neg this]; exact e
  have hold : Rep (.sl e t) M' [v] xs := by
    rcases r with ⟨⟨a0, rfl⟩, rfl, _⟩ | ⟨b, o, cap, rfl, h2, cc, fr, h3, h4, h5, h6, h7, h8⟩
    · exact udI
    · refine ⟨some ⟨b, o, none⟩, cap, rfl, h7, h6, .inr ⟨rfl, cc, e, fr, ?_, ?_, ?_⟩⟩
      · show (if S b then _ else _) = _
        rw [if_pos ((h2 b).2 rfl)]; exact h3
      · have := Nat.mul_le_mul_right t.size h6
        simp only; omega
      · exact RepL.mono (fun _ _ r => Rep.mono hle r) h4
  obtain ⟨hS2, cs, hb, hr⟩ := r2
  have hsz := hr.size
  have hf := p.fits (Pth.fields_ok hok)
  have hg := Rep.get p (Pth.fields_ok hok) hr
  have hg1 : (cs.drop p.off).take 1 = [v] := by rw [← hv]; exact hg.1
  have hput := Rep.put p hok (hr.mono hle) hold
  have hcs : cs.take p.off ++ [v] ++ cs.drop (p.off + (T.raw z).size) = cs := by
    rw [← hg1]
    show cs.take p.off ++ (cs.drop p.off).take 1 ++ cs.drop (p.off + 1) = cs
    rw [List.append_assoc, ← List.drop_drop, List.take_append_drop, List.take_append_drop]
  rw [hcs] at hput
  refine g M' a w ⟨?_, c.defers, c.size, fun i t h => (c.env i t h).elim fun x hx => ⟨x, hx.1, TV.mono hle hx.2⟩⟩
  refine { c.st with elder := c.st.elder.trans hle, fresh := ?_, mem := ?_, sep := ⟨V', ⟨S2, V2, ⟨hS2, cs, hb, hput⟩, Sep.mono hle s2, d2, e2⟩, ?_⟩ }
  · intro k o e
    by_cases hS : S k
    · exact .inr (d k ((ev k).2 (.inl hS))).2
    · have e' : M k = some o := by simpa [M', hS] using e
      exact c.st.fresh k o e'
  · intro k o e
    by_cases hS : S k
    · simpa [M', hS] using e
    · exact c.st.mem k o (by simpa [M', hS] using e)
  · intro k hk
    have hS : ¬ S k := fun h => dj k h hk
    have := d k ((ev k).2 (.inr hk))
    refine ⟨?_, this.2⟩
    show (if S k then _ else _) = _
    rw [if_neg hS]; exact this.1
theorem Cfg.setb {F : Fr} {M : Mem} {n : Nat} {E : Env} {L : List Res} {a : Act} {w : World} (c : Cfg F M n E L a w) {b val : Bool} (k : Nat) (hh : b = val) (he : E.get k = some (.one .bool b)) : Cfg F M n ((k, .one .bool val) :: E) L a w := by
  refine ⟨c.st, c.defers, c.size, fun i t h => ?_⟩
  simp only [Env.get] at h
  split at h
  · rename_i hb
    obtain rfl := Nat.eq_of_beq_eq_true hb
    cases h
    rw [← hh]; exact c.env _ _ he
  · exact c.env i t h
theorem uga {F : Fr} {n : Nat} {E : Env} {L : List Res} {X : Act → World → Prop} {b val : Bool} (k : Nat) (hh : b = val) (he : E.get k = some (.one .bool b)) (g : Go F n ((k, .one .bool val) :: E) L X) : Go F n E L X := fun M a w c => g M a w (c.setb k hh he)
end Sx
namespace Sx
open Go Go.RowKit
section
variable {P : Program} {tabs : List (String × IntKind × List Int)} {G : Fr} {n : Nat} {E : Env} {L : List Res} {ops : Array Oper} {Q : Exit → Act → World → Prop} {rest : List Oper}
theorem uoe (hT : TabM P tabs G.base) {k : FuncId} {args : List TV} {Lc Lo : List Res} {res : Value → TV} {L' : Value → List Res} (hc : FnT P tabs k args Lc res L') (hk : ubL P k = true) (hp : L.Perm (Lc ++ Lo)) {xs : List Operand} {tys : Array TypeId} {d : Nat} {ty : TypeId} {pos : String} {after : Array Edge}
    (hx : Args E xs args) (hd : Nat.ble (d + 1) n = true) (g : ∀ v, Go (Fr.nd G) n ((d, res v) :: E) (L' v ++ Lo) (wpList P ops Q rest)) :
    Go (Fr.nd G) n E L (wpList P ops Q (⟨some d, .call ⟨.value (.func k), xs.toArray, tys⟩, ty, pos, after, none⟩ :: rest)) := fun M a w c => by
  unfold wpList
  rw [if_pos (by simp [Region.wanted])]
  left
  unfold Oper.wp
  have hrun : (execOp a.eval ⟨some d, .call ⟨.value (.func k), xs.toArray, tys⟩, ty, pos, after, none⟩).run P w = .ok (.enter k (xs.map a.eval).toArray) w := by
    simp only [execOp, resolve, uak, uaz, Act.eval, Deferred.ofValue, invoke]
    rw [ucw hk]
    simp
  rw [hrun, Oper.upon_enter]
  have st := c.st.perm hp
  have hT' : TabM P tabs M := hT.mono c.st.elder
  obtain ⟨F', hb, hs, st', hback⟩ := st.part
  have := hc F' w (xs.map a.eval) (by rw [hb]; exact hT') (by rw [hb]; exact st') hs (by rw [hb]; exact uhf c hx)
  refine this.mono ?_
  rintro e w' ⟨v, M', rfl, st2, hv⟩
  obtain ⟨hle, st3⟩ := hback _ _ _ st2
  exact g v M' _ _ (c.put hle st3 (Nat.le_of_ble_eq_true hd) hv)
end
end Sx
namespace Sx
open Go Go.RowKit
abbrev adr (b : Nat) : Value := .pointer (some ⟨b, 0, none⟩)
class Catch (P : Program) (k : FuncId) (ch : outParam Value) (tn e1 e2 : outParam TypeId) (v1 v2 : outParam Value) : Prop where
  call : ubL P k = true
  idle : ∀ p q w, CallsD P k #[p, q] .returning w fun e u' w' => e = .returned (.tuple #[]) ∧ u' = .returning ∧ w' = w
  take : ∀ a b x y (w : World), a ≠ b → w.heap[a]? = some (.cells #[x] e1 (0, 0)) → w.heap[b]? = some (.cells #[y] e2 (0, 0)) →
    CallsD P k #[adr a, adr b] (.panicking [{ v := ch, recovered := false }]) w fun e u' w' => e = .returned (.tuple #[]) ∧ u' = .panicking [{ v := ch, recovered := true }] ∧
      w' = ((w.alloc (.cells #[] tn (0, 0))).setCell ⟨a, 0, none⟩ v1).setCell ⟨b, 0, none⟩ v2
structure KC (i j : Nat) (e1 e2 : TypeId) (a b : Nat) (E : Env) (L : List Res) : Prop where
  x : E.get i = some (ptr a 0)
  y : E.get j = some (ptr b 0)
  r : ∃ (p q : Nat) (t u : T) (x : t.D) (y : u.D), p ≠ q ∧ L[p]? = some (Res.var a e1 t x) ∧ t.size = 1 ∧ L[q]? = some (Res.var b e2 u y) ∧ u.size = 1
theorem KC.of {E : Env} {L : List Res} (i j : Nat) (e1 e2 : TypeId) (a b p q : Nat) {t u : T} {x : t.D} {y : u.D} (h1 : E.get i = some (ptr a 0)) (h2 : E.get j = some (ptr b 0)) (hpq : Nat.beq p q = false) (h3 : L[p]? = some (Res.var a e1 t x)) (h4 : t.size = 1) (h5 : L[q]? = some (Res.var b e2 u y)) (h6 : u.size = 1) : KC i j e1 e2 a b E L :=
  ⟨h1, h2, p, q, t, u, x, y, fun h => by subst h; simp at hpq, h3, h4, h5, h6⟩
class BrkK (F : Fr) (n : Nat) (Q : Exit → Act → World → Prop) (ch : Value) (c : Prop) (K : outParam (Env → List Res → Prop)) : Prop where
  ok : c → ∀ E L, K E L → Go F n E L (Q (.panic [{ v := ch, recovered := false }]))
section
variable {P : Program} {Tb : Tab} {F : Fr} {n : Nat} {E : Env} {L : List Res} {ops : Array Oper} {Q : Exit → Act → World → Prop} {rest : List Oper} {X : Act → World → Prop} {ch : Value} {c : Prop} {K : Env → List Res → Prop}
instance [h : BrkK F n Q ch c K] : BrkK F n (Exit.then X Q) ch c K := ⟨fun hc E L hK => h.ok hc E L hK⟩
instance {id : Nat} [h : BrkK F n Q ch c K] : BrkK F n (Exit.inBlock id Q) ch c K := ⟨fun hc E L hK => h.ok hc E L hK⟩
variable {tabs : List (String × IntKind × List Int)} {G : Fr}
end
end Sx
namespace Sx
open Go Go.RowKit
abbrev RF (l : Nat) : Fence := Fence.wide.inRound l
class NoOut (Q : Exit → Act → World → Prop) : Prop where
  ok : ¬ LetsOut Q
instance {K : Act → World → Prop} {Q : Exit → Act → World → Prop} [h : NoOut Q] : NoOut (Exit.then K Q) := ⟨fun ⟨a, w, g⟩ => h.ok ⟨a, w, g⟩⟩
instance {id : Nat} {Q : Exit → Act → World → Prop} [h : NoOut Q] : NoOut (Exit.inBlock id Q) := ⟨fun ⟨a, w, g⟩ => h.ok ⟨a, w, g⟩⟩
def uhh (o : Oper) : Bool := match o.op with
  | .defer _ => false
  | _ => true
theorem ukq {o : Oper} (h : uhh o = true) (c : Call) : o.op ≠ .defer c := fun e => by simp [uhh, e] at h
section
variable {P : Program} {ops : Array Oper} {Q : Exit → Act → World → Prop} {l m : Nat}
theorem uof {f : FuncId} {args : Array Value} {w : World} {R : Ending → World → Prop} (h : Calls P f args w R) : CallsIn (RF l) m P f args w R := CallsIn.inRound l (callsIn_wide.2 h)
theorem uoN {row : String} {args : Array Value} {w : World} {R : Value → World → Prop} (h : Rows P row args w R) : RowsIn (RF l) m P row args w R := fun c cs _ =>
  let ⟨v, w', r, s⟩ := h c cs; ⟨v, w', r, stepsIn_wide.2 s⟩
theorem uoO {o : Oper} {a : Act} {nx nx' : Act → World → Prop} (hn : ∀ a w, nx a w → nx' a w) : ∀ {r : Result Next}, o.upon P a nx Q r → o.uponIn (RF l) m P a nx' Q r
  | .ok (.value _) _, h => hn _ _ h
  | .ok .skip _, h => hn _ _ h
  | .ok (.defer _) _, h => hn _ _ h
  | .ok (.enter _ _) _, h => ⟨fun e => by simp [Fence.wide] at e, uof (Calls.mono h fun e w' r => by
      cases e with
      | returned v => exact hn _ _ r
      | panicked c => exact r
      | outgrown => exact r)⟩
  | .ok (.row _ _) _, h => ⟨fun e => by simp [Fence.wide] at e, uoN (Rows.mono h fun _ _ r => hn _ _ r)⟩
  | .halt (.panic _) _, h => h
theorem uiW [hQ : NoOut Q] : ∀ {L : List Oper} {a : Act} {w : World}, L.all uhh = true → wpList P ops Q L a w → wpListIn (RF l) m P ops Q L a w
  | [], _, _, _, h => h
  | o :: rest, a, w, hd, h => by
    simp only [List.all_cons, Bool.and_eq_true] at hd
    unfold wpList at h
    unfold wpListIn
    split
    · rename_i hw
      rw [if_pos hw] at h
      rcases h with h | ⟨_, h⟩
      · refine ⟨fun _ _ => trivial, ?_⟩
        rw [Oper.semAt_eq _ _ _ (ukq hd.1)]
        exact uoO (fun a w g => uiW hd.2 g) h
      · exact absurd h hQ.ok
    · rename_i hw
      rw [if_neg hw] at h
      exact ⟨fun _ _ => trivial, uiW hd.2 h⟩
end
section
variable {P : Program} {F : Fr} {n l m : Nat} {E : Env} {L : List Res} {c1 c2 : Code} {Q : Exit → Act → World → Prop} {K : Act → World → Prop}
theorem ueG (g : Go F n E L (c1.wpIn (RF l) m P (Exit.then (c2.wpIn (RF l) m P Q) Q))) : Go F n E L ((Code.seq c1 c2).wpIn (RF l) m P Q) := fun M a w c => wpIn_seq (g M a w c)
theorem uiX (g : Go F n E L (Q .normal)) : Go F n E L (Code.skip.wpIn (RF l) m P Q) := fun M a w c => wpIn_skip (g M a w c)
theorem udz [NoOut Q] {id : Nat} {os : List Oper} (hd : os.all uhh = true) (g : Go F n E L (wpList P os.toArray Q os)) : Go F n E L ((Code.region id os.toArray false).wpIn (RF l) m P Q) := fun M a w c => wpIn_region_lit (uiW hd (g M a w c))
theorem ukr {id : Nat} (g : Go F n E L (c1.wpIn (RF l) m P (Exit.inBlock id Q))) : Go F n E L ((Code.block id c1).wpIn (RF l) m P Q) := fun M a w c => wpIn_block (g M a w c)
theorem uoP {id : Nat} (g : Go F n E L (Q (.exit id))) : Go F n E L ((Code.exit id).wpIn (RF l) m P Q) := fun M a w c => wpIn_exit (g M a w c)
theorem ung (g : Go F n E L (Q .ret)) : Go F n E L (Code.ret.wpIn (RF l) m P Q) := fun M a w c => wpIn_ret (g M a w c)
theorem ri_if {i : Nat} {b : Bool} (he : E.get i = some (.one .bool b)) (hT : b = true → Go F n E L (c1.wpIn (RF l) m P Q)) (hF : b = false → Go F n E L (c2.wpIn (RF l) m P Q)) :
    Go F n E L ((Code.cond (.tmp i) c1 c2).wpIn (RF l) m P Q) := fun M a w c => by
  obtain ⟨v, e, hv⟩ := c.get? he
  exact wpIn_cond (t := b) (e.trans (holds_bool.1 hv)) (by
    cases b with
    | true => exact hT rfl M a w c
    | false => exact hF rfl M a w c)
end
abbrev Res.dfr (D : Nat) : Res := Res.block D (.deferred (some []))
abbrev mark (D : Nat) : Deferred := { target := .collected D, args := #[] }
theorem St.flip {F : Fr} {M : Mem} {w : World} {L : List Res} {b : Nat} {o : Obj} (o' : Obj) {i : Nat} (h : St F M w L) (hi : L[i]? = some (Res.block b o)) : St F M (w.putObj b o') (L.set i (Res.block b o')) := by
  have hb : w.heap[b]? = some o := (h.res hi).elim fun S hS => hS.2
  refine h.turn hi (B := fun k => k = b) (fun S hS => ⟨hS.1, World.putObj_heap_same (ubC hb)⟩) (fun S hS k hk => (hS.1 k).2 hk) (fun k hk => World.putObj_heap_other hk) rfl rfl rfl (by simp)
def uks (P : Program) (B0 : Mem) (l : Nat) (x : Int) (L : List Res) (A B : List Res → Prop) : Prop :=
  ∀ (F : Fr) (w : World), B0.le F.base → St F F.base w L → F.size = w.heap.size →
    ∃ fn tmps assign body, (Instr.yield l #[.int .i64 x]).run P w = .ok (.round l fn tmps assign body) w ∧ RoundIn Fence.wide 0 P l fn tmps assign body w (fun e w' =>
      (e = .returned (.bool true) ∧ ∃ M' L', A L' ∧ St F M' w' L') ∨ (e = .returned (.bool false) ∧ ∃ M' L', B L' ∧ St F M' w' L'))
def IterOk (P : Program) (T : Mem → Prop) (gf : FuncId) (lb : List Value) (L0 : List Res) (xs : List Int) : Prop :=
  ∀ (F : Fr) (w : World) (l : Nat) (K : List Int → List Res → Prop) (B : List Res → Prop) (Lo : List Res), T F.base →
    (∀ x rest L, rng .i64 x → K (x :: rest) L → uks P F.base l x L (K rest) B) → K xs (L0 ++ Lo) → (∀ xs L L', L.Perm L' → K xs L → K xs L') → St F F.base w (L0 ++ Lo) → F.size = w.heap.size →
    Calls P gf (.func (.yield l) #[] #[] :: lb).toArray w (fun e w' => (∃ v, e = .returned v) ∧ ∃ M' L', (K [] L' ∨ B L') ∧ St F M' w' L')
def RPost (F F1 : Fr) (n : Nat) (E : Env) (D : Nat) (Q : Exit → Act → World → Prop) (K : List Res → Prop) : Exit → Act → World → Prop
  | .normal, _, w => ∃ M L, K L ∧ St F1 M w L
  | .ret, _, w => ∃ M L, Go (F.df (mark D)) n E (L ++ [Res.dfr D]) (Q .ret) ∧ St F1 M w L
  | .exit id, _, w => ∃ M L, Go (F.df (mark D)) n E (L ++ [Res.dfr D]) (Q (.exit id)) ∧ St F1 M w L
  | _, _, _ => False
instance {F F1 : Fr} {n : Nat} {E : Env} {D : Nat} {Q : Exit → Act → World → Prop} {K : List Res → Prop} : NoOut (RPost F F1 n E D Q K) := ⟨fun ⟨_, _, g⟩ => g⟩
section
variable {P : Program} {F F1 : Fr} {n : Nat} {E E' : Env} {L L2 : List Res} {D : Nat} {Q : Exit → Act → World → Prop} {K : List Res → Prop}
theorem ulP {σ γ ρ : Type} {f : σ → Option ρ} {out : ρ} {R : σ → γ → List Res} (s : σ) (g : γ) (hf : f s = some out) (hL : L = R s g) : Go F1 n E' L (RPost F F1 n E D Q (fun L => ∃ o g, f o = some out ∧ L = R o g) .normal) := fun M a w c => ⟨M, L, ⟨s, g, hf, hL⟩, c.st⟩
theorem unh (hL : L ++ [Res.dfr D] = L2) (g : Go (F.df (mark D)) n E L2 (Q .ret)) : Go F1 n E' L (RPost F F1 n E D Q K .ret) := fun M a w c => ⟨M, L, by rw [hL]; exact g, c.st⟩
theorem uoQ {id : Nat} (hL : L ++ [Res.dfr D] = L2) (g : Go (F.df (mark D)) n E L2 (Q (.exit id))) : Go F1 n E' L (RPost F F1 n E D Q K (.exit id)) := fun M a w c => ⟨M, L, by rw [hL]; exact g, c.st⟩
end
section
variable {P : Program} {F : Fr} {n : Nat} {E : Env} {L : List Res} {Q : Exit → Act → World → Prop}
theorem ukt {T : Mem → Prop} {σ γ ρ : Type} {out : ρ} {xs : List Int} {gt p q gf : Nat} {lb : List Value} {z : Value} {L0 Lo : List Res} {id : Nat} {ty : TypeId} {pos : String} {after : Array Edge} {body : Code} (Rs : σ → γ → List Res) (f : List Int → σ → Option ρ) (s0 : σ) (g0 : γ) (is : List Nat) {G : Fr} (hT' : T G.base) (hG : G.base = F.base) (hTm : ∀ A B : Mem, A.le B → T A → T B)
    (it : IterOk P T gf lb L0 xs) (hk : ubL P gf = true) (hf : f xs s0 = some out) (hL : L = Rs s0 g0) (hp : takeR L is = some (L0, Lo)) (hg : E.get gt = some (.one (.raw z) (.func (.func gf) #[] lb.toArray)))
    (hpn : Nat.ble (p + 1) n = true) (hqn : Nat.ble (q + 1) n = true)
    (hb : ∀ l F1 D x m s g, T (Fr.nd F1).base → f (x :: m) s = some out → Go (Fr.nd F1) n ((q, .one (.int .i64) x) :: (p, .one (.int .i64) x) :: E) (Rs s g) (body.wpIn (RF l) 0 P (RPost F (Fr.nd F1) n E D Q (fun L => ∃ o g, f m o = some out ∧ L = Rs o g))))
    (hd : ∀ D s g, f [] s = some out → Go (F.df (mark D)) n E (Rs s g ++ [Res.dfr D]) (Q .normal)) :
    Go F n E L ((Code.rangeFunc (.tmp gt) #[p] (.region id #[⟨some q, .assign (.tmp p), ty, pos, after, none⟩] false) body).wp P Q) := fun M a w c => by
  have hT : T F.base := by rw [← hG]; exact hT'
  obtain ⟨gv, hgv, hgh⟩ := c.get? hg
  have hgv' : a.eval (.tmp gt) = .func (.func gf) #[] lb.toArray := hgv.trans (holds_raw.1 hgh).1
  refine wpIn_wide (n := 0).1 (wpIn_rangeFunc ?_)
  intro fn _
  obtain ⟨rec, hrec⟩ : ∃ rec : LoopState → Option Code → Loop, rec = fun st pe => { state := st, pending := pe, fn, tmps := a.tmps, params := #[p], assign := .region id #[⟨some q, .assign (.tmp p), ty, pos, after, none⟩] false, body, defers := w.heap.size } := ⟨_, rfl⟩
  obtain ⟨l, hl⟩ : ∃ l, l = w.heap.size + 1 := ⟨_, rfl⟩
  obtain ⟨D, hD⟩ : ∃ D, D = w.heap.size := ⟨_, rfl⟩
  obtain ⟨W1, hW1⟩ : ∃ W1, (w.alloc (.deferred (some []))).alloc (.loop (rec .ready none)) = W1 := ⟨_, rfl⟩
  have st1 : St F M W1 (Res.block l (.loop (rec .ready none)) :: Res.dfr D :: L) := by
    have h1 : St F M (w.alloc (.deferred (some []))) (Res.dfr D :: L) := c.st.new ⟨fun k => by rw [hD], by simp [hD]⟩
    have h2 := h1.new (o := .loop (rec .ready none)) (R := Res.block l (.loop (rec .ready none))) ⟨fun k => by rw [hl]; simp, by rw [hl]; have := World.alloc_heap_new (w.alloc (.deferred (some []))) (.loop (rec .ready none)); rw [World.size_alloc] at this; exact this⟩
    rw [← hW1]; exact h2
  have hent := run_enterLoop_outer (P := P) (w := w) fn a.tmps #[p] (.region id #[⟨some q, .assign (.tmp p), ty, pos, after, none⟩] false) body
  refine ⟨l, [mark D], W1, { target := .fn (.func gf) lb.toArray, args := #[.func (.yield l) #[] #[]] }, W1, gf, (.func (.yield l) #[] #[] :: lb).toArray, W1, ?_, ?_, fun _ _ => trivial, ?_, fun e => by simp [Fence.wide] at e, ?_⟩
  · rw [← hW1, hrec, hl, hD]; exact hent
  · simp only [resolve, hgv']
    simp [go_sem]
  · simp [invoke, ucw hk]
  · have st2 : St F M W1 ((L0 ++ (Lo ++ [Res.block l (.loop (rec .ready none)), Res.dfr D])) ++ []) := by
      refine st1.perm ?_
      have hp' := ucA hp
      simp only [List.append_nil, ← List.append_assoc]
      exact (List.perm_append_comm (l₁ := [Res.block l (.loop (rec .ready none)), Res.dfr D]) (l₂ := L)).trans (hp'.append_right _)
    obtain ⟨F', hbs, hsz, st', back⟩ := st2.part
    refine callsIn_wide.2 ((it F' W1 l (fun rest L => ∃ o g, f rest o = some out ∧ L.Perm (Res.block l (.loop (rec .ready none)) :: Res.dfr D :: Rs o g))
      (fun L => ∃ jump L', (∀ a' w', (∃ M, Cfg (F.df (mark D)) M n E (L' ++ [Res.dfr D]) a' w') → jump.wpIn Fence.wide 0 P Q a' w') ∧ L = Res.block l (.loop (rec .done (some jump))) :: Res.dfr D :: L') _ (by rw [hbs]; exact hTm _ _ c.st.elder hT) ?_ ?_ ?_ (by rw [hbs]; exact st') hsz).mono ?_)
    ·
      rintro x rest LK hrx ⟨o, g, hfo, hperm⟩ Fc W hB0 hst hsize
      have hst2 := hst.perm hperm
      have hlk : W.heap[l]? = some (.loop (rec .ready none)) := (hst2.res (i := 0) rfl).elim fun S hS => hS.2
      have hy : (Instr.yield l #[.int .i64 x]).run P W = .ok (.round l fn (a.tmps.setIfInBounds p (.int .i64 x)) (.region id #[⟨some q, .assign (.tmp p), ty, pos, after, none⟩] false) body) W := by
        have := run_yield (P := P) (args := #[.int .i64 x]) hlk (by rw [hrec]; rfl)
        rw [hrec] at this
        simpa using this
      refine ⟨fn, _, _, body, hy, roundIn_of_wpIn trivial ?_⟩
      refine wpIn_region_lit (l := [_]) (wpListIn_plain rfl fun K hK => ⟨fun _ _ => trivial, ?_⟩)
      rw [Oper.semAt_eq _ _ _ (ukq rfl)]
      have hT0 : T F'.base := by rw [hbs]; exact hTm _ _ c.st.elder hT
      have hst3 := hst2.flip (.loop { rec .ready none with state := .busy }) (i := 0) rfl
      have hst4 : St Fc Fc.base (W.putObj l (.loop { rec .ready none with state := .busy })) (Rs o g ++ [Res.block l (.loop { rec .ready none with state := .busy }), Res.dfr D]) := hst3.perm (List.perm_append_comm (l₁ := [_, _]))
      obtain ⟨F2, hb2, hs2, st2, back2⟩ := hst4.part
      have hle2 : M.le F2.base := by rw [hb2, ← hbs]; exact hB0
      have hx : Holds (.int .i64) F2.base (.int .i64 x) x := holds_int.2 ⟨rfl, hrx⟩
      have c2 : Cfg (Fr.nd F2) F2.base n E (Rs o g) { tmps := a.tmps, defers := [] } (W.putObj l (.loop { rec .ready none with state := .busy })) :=
        ⟨by have := st2.nd; rw [← hb2] at this; exact this, rfl, c.size, fun i t h => (c.env i t h).elim fun v hv => ⟨v, hv.1, TV.mono hle2 hv.2⟩⟩
      have c3 := c2.put (Mem.le.refl _) c2.st (Nat.le_of_ble_eq_true hpn) (t := .one (.int .i64) x) hx
      have c4 := c3.put (Mem.le.refl _) c3.st (Nat.le_of_ble_eq_true hqn) (t := .one (.int .i64) x) hx
      have hrun : (execOp (Act.eval { tmps := a.tmps.setIfInBounds p (.int .i64 x), defers := [] }) ⟨some q, .assign (.tmp p), ty, pos, after, none⟩).run P W = .ok (.value (.int .i64 x)) W := by
        obtain ⟨v, hv, hh⟩ := c3.get? (i := p) (t := .one (.int .i64) x) (by simp [Env.get])
        have := (holds_int.1 hh).1; subst this
        have hv2 : Act.eval { tmps := a.tmps.setIfInBounds p (.int .i64 x), defers := [] } (.tmp p) = .int .i64 x := hv
        simp only [execOp, hv2]
        rfl
      show Oper.uponIn _ _ _ _ _ _ _ ((execOp (Act.eval { tmps := a.tmps.setIfInBounds p (.int .i64 x), defers := [] }) ⟨some q, .assign (.tmp p), ty, pos, after, none⟩).run P W)
      rw [hrun]
      refine hK _ _ ⟨_, run_beginRound hlk (by rw [hrec]), ?_⟩
      refine wpIn_mono (hb l F2 D x rest o g (hTm _ _ (by show F'.base.le F2.base; rw [hb2]; exact hB0) hT0) hfo F2.base _ _ c4) ?_
      have fin : ∀ (jump : Option Code) (M3 : Mem) (W3 : World) (L3 : List Res), St (Fr.nd F2) M3 W3 L3 →
          (Instr.endRound l jump).run P W3 = .ok (.bool jump.isNone) (W3.putObj l (.loop (rec (if jump.isNone then .ready else .done) jump))) ∧ St Fc M3 (W3.putObj l (.loop (rec (if jump.isNone then .ready else .done) jump))) (Res.block l (.loop (rec (if jump.isNone then .ready else .done) jump)) :: Res.dfr D :: L3) := fun jump M3 W3 L3 h3 => by
        obtain ⟨_, h4⟩ := back2 M3 W3 L3 h3.un
        have h5 : St Fc M3 W3 (Res.block l (.loop { rec .ready none with state := .busy }) :: Res.dfr D :: L3) := h4.perm (List.perm_append_comm (l₂ := [_, _]))
        have hl5 : W3.heap[l]? = some (.loop { rec .ready none with state := .busy }) := (h5.res (i := 0) rfl).elim fun S hS => hS.2
        have h6 := h5.flip (.loop (rec (if jump.isNone then .ready else .done) jump)) (i := 0) rfl
        refine ⟨?_, h6⟩
        have := run_endRound (P := P) jump hl5
        rw [hrec] at this ⊢
        exact this
      rintro e a3 W3 hp3
      cases e with
      | normal =>
        obtain ⟨M3, L3, ⟨o', g', hf3, rfl⟩, st3⟩ := hp3
        obtain ⟨h1, h2⟩ := fin none M3 W3 _ st3
        exact ⟨_, _, h1, .inl ⟨rfl, M3, _, ⟨o', g', hf3, List.Perm.refl _⟩, h2⟩⟩
      | ret =>
        obtain ⟨M3, L3, hgo, st3⟩ := hp3
        obtain ⟨h1, h2⟩ := fin (some .ret) M3 W3 _ st3
        exact ⟨_, _, h1, .inr ⟨rfl, M3, _, ⟨.ret, L3, fun a' w' ⟨M', c'⟩ => wpIn_ret (hgo M' a' w' c'), rfl⟩, h2⟩⟩
      | exit id =>
        obtain ⟨M3, L3, hgo, st3⟩ := hp3
        obtain ⟨h1, h2⟩ := fin (some (.exit id)) M3 W3 _ st3
        exact ⟨_, _, h1, .inr ⟨rfl, M3, _, ⟨.exit id, L3, fun a' w' ⟨M', c'⟩ => wpIn_exit (hgo M' a' w' c'), rfl⟩, h2⟩⟩
      | goto t => exact hp3.elim
      | panic ch => exact hp3.elim
      | outgrown => exact hp3.elim
    · refine ⟨s0, g0, hf, ?_⟩
      have hp' := ucA hp
      rw [← hL, ← List.append_assoc]
      exact (hp'.symm.append_right _).trans (List.perm_append_comm (l₂ := [_, _]))
    · rintro ys A B' hAB ⟨o, g, h1, h2⟩
      exact ⟨o, g, h1, hAB.symm.trans h2⟩
    · rintro e W2 ⟨⟨v, rfl⟩, M', L', hK, st3⟩
      obtain ⟨hle, st4⟩ := back M' W2 L' st3
      rw [List.append_nil] at st4
      have cf : ∀ (L2 : List Res) (r : Loop) (w4 : World), St F M' W2 (Res.block l (.loop r) :: Res.dfr D :: L2) → w4 = W2.putObj l (.loop { r with state := .exhausted }) → Cfg (F.df (mark D)) M' n E (L2 ++ [Res.dfr D]) { a with defers := [mark D] ++ a.defers } w4 := fun L2 r w4 h hw => by
        have h1 := h.flip (.loop { r with state := .exhausted }) (i := 0) rfl
        have h2 := (h1.lose (L' := Res.dfr D :: L2) (List.sublist_cons_self _ _)).perm (List.perm_append_comm (l₁ := [_]))
        rw [hw]
        exact ⟨⟨h2.os, h2.tape, h2.output, h2.size, h2.elder, h2.fresh, h2.frame, h2.mem, h2.sep⟩, by show _ :: a.defers = _; rw [c.defers]; rfl, c.size, fun i t h => (c.env i t h).elim fun v hv => ⟨v, hv.1, TV.mono hle hv.2⟩⟩
      rcases hK with ⟨o, g, hfo, hperm⟩ | ⟨jump, L3, hgo, rfl⟩
      · have st5 := st4.perm hperm
        have hl5 : W2.heap[l]? = some (.loop (rec .ready none)) := (st5.res (i := 0) rfl).elim fun S hS => hS.2
        have he := run_endLoop (P := P) hl5 (by rw [hrec]; simp)
        exact ⟨none, _, he.trans (by rw [hrec]), hd D o g hfo M' _ _ (cf _ _ _ st5 rfl)⟩
      · have hl5 : W2.heap[l]? = some (.loop (rec .done (some jump))) := (st4.res (i := 0) rfl).elim fun S hS => hS.2
        have he := run_endLoop (P := P) hl5 (by rw [hrec]; simp)
        exact ⟨some jump, _, he.trans (by rw [hrec]), hgo _ _ ⟨M', cf _ _ _ st4 rfl⟩⟩
end
section
variable {P : Program} {tabs : List (String × IntKind × List Int)} {F G : Fr} {n : Nat} {E : Env} {L L2 : List Res} {R : Ending → World → Prop} {fn : Func}
def postM (P : Program) (fn : Func) (R : Ending → World → Prop) : Exit → Act → World → Prop := fun e a w => (∀ d ∈ a.defers, ∃ D, d = mark D) ∧ bodyPostM Fence.wide 0 P fn R e a w
theorem ugV {t1 t2 : Array Value} {ch : List PanicEntry} : ∀ {ds : List Deferred}, (∀ d ∈ ds, ∃ D, d = mark D) → ∀ {w : World}, LeavesInM Fence.wide 0 P fn t1 R ds (.panicking ch) w → LeavesInM Fence.wide 0 P fn t2 R ds (.panicking ch) w
  | [], _, _, h => h
  | d :: ds, hm, w, ⟨hne, h⟩ => by
    rcases h with ⟨r, w', ht, hk, hr⟩ | ⟨_, fv, cap, f, args, ht, _⟩
    · exact ⟨hne, .inl ⟨r, w', ht, hk, ugV (fun d hd => hm d (List.mem_cons_of_mem _ hd)) hr⟩⟩
    · obtain ⟨D, rfl⟩ := hm d (List.mem_cons_self ..)
      cases ht
theorem ua6 : Blind (postM P fn R) := fun ch a d v w h => by
  have hd : (Act.put a d v).defers = a.defers := by cases d <;> rfl
  obtain ⟨hm, h⟩ := h
  rw [hd] at hm
  refine ⟨hm, ?_⟩
  have h' : LeavesInM Fence.wide 0 P fn (Act.put a d v).tmps R (Act.put a d v).defers (.panicking ch) w := h
  rw [hd] at h'
  exact ugV hm h'
theorem ua7 {Q : Exit → Act → World → Prop} (h : Blind Q) : Blind (Exit.noGoto Q) := fun ch a d v w g => h ch a d v w g
theorem uoR {k : FuncId} {body : Code} {args : List TV} (hf : P.funcs[k]? = some fn) (hb : fn.body = some body) (n : Nat) (hn : fn.ntmps = n)
    (ha : Nat.ble args.length n = true) (g : Go (Fr.nd F) n (ue4 0 args) L (body.wp P (postM P fn R))) {w : World} {vs : List Value} (hst : St F F.base w L) (hargs : HoldAll F.base args vs) : Calls P k vs.toArray w R := by
  have c : Cfg (Fr.nd F) F.base n (ue4 0 args) L { tmps := vs.toArray ++ Array.replicate (fn.ntmps - vs.toArray.size) undef, defers := [] } w := by
    refine ⟨hst.nd, rfl, ?_, ?_⟩
    · have := hargs.length
      have := Nat.le_of_ble_eq_true ha
      simp [hn]; omega
    · intro i t h
      obtain ⟨j, v, e, hv, ht⟩ := ufj hargs h
      refine ⟨v, ?_, ht⟩
      have hj : j < vs.length := by
        rcases Nat.lt_or_ge j vs.length with h | h
        · exact h
        · simp [List.getElem?_eq_none h] at hv
      simp only [Nat.zero_add] at e; subst e
      have hv' : vs[i] = v := by simpa [hj] using hv
      simp [Array.getElem?_append, hj, hv']
  exact callsIn_wide.1 (callsIn_of_wp_marks (n := 0) hf hb trivial (wpIn_wide.2 (wp_mono (g _ _ _ c) fun _ _ _ h => h.2)))
theorem uoS {k : FuncId} {body : Code} {args : List TV} {res : Value → TV} {L' : Value → List Res} (hf : P.funcs[k]? = some fn) (hb : fn.body = some body) (n : Nat) (hn : fn.ntmps = n)
    (ha : Nat.ble args.length n = true) (g : ∀ F, TabM P tabs F.base → Go (Fr.nd F) n (ue4 0 args) L (body.wp P (postM P fn (Post F res L')))) : FnT P tabs k args L res L' := fun F _ _ hT hst _ hargs => uoR hf hb n hn ha (g F hT) hst hargs
theorem m_ret (g : Go (Fr.nd F) n E L (bodyPost P fn R .ret)) : Go (Fr.nd F) n E L (postM P fn R .ret) := fun M a w c => by
  have hd := c.defers
  obtain ⟨_, v, h1, h2⟩ := g M a w c
  refine ⟨fun d h => (by rw [hd] at h; cases h), ?_⟩
  show LeavesInM Fence.wide 0 P fn a.tmps R a.defers .returning w
  rw [hd]
  exact ⟨v, h1, h2⟩
theorem m_pop {D : Nat} (is : List Nat) (hp : takeR L is = some ([Res.dfr D], L2)) (g : Go F n E L2 (postM P fn R .ret)) : Go (F.df (mark D)) n E L (postM P fn R .ret) := fun M a w c => by
  have hd := c.defers
  have st := c.st.perm (ucA hp)
  have hD : w.heap[D]? = some (.deferred (some [])) := (st.res (i := 0) rfl).elim fun S hS => hS.2
  have st2 := (st.flip (.deferred none) (i := 0) rfl).lose (L' := L2) (List.sublist_cons_self _ _)
  have hg : postM P fn R .ret { a with defers := F.dfs } (w.putObj D (.deferred none)) := g M _ _ ⟨⟨st2.os, st2.tape, st2.output, st2.size, st2.elder, st2.fresh, st2.frame, st2.mem, st2.sep⟩, rfl, c.size, c.env⟩
  refine ⟨fun d h => ?_, ?_⟩
  · rw [hd] at h
    rcases List.mem_cons.1 h with rfl | h
    · exact ⟨D, rfl⟩
    · exact hg.1 d h
  show LeavesInM Fence.wide 0 P fn a.tmps R a.defers .returning w
  rw [hd]
  exact ⟨by simp, .inl ⟨D, _, rfl, run_takeDeferred hD, hg.2⟩⟩
variable {ops : Array Oper} {Q : Exit → Act → World → Prop} {rest : List Oper}
theorem rcTM {k : FuncId} {args : List TV} {Lc Lo : List Res} {res : Value → TV} {L' : Value → List Res} {xs : List Operand} {tys : Array TypeId} {d : Nat} {ty : TypeId} {pos : String} {after : Array Edge} (hT : TabM P tabs G.base) (hG : G.base = F.base) (is : List Nat) (hc : FnT P tabs k args Lc res L') (hk : ubL P k = true) (hp : takeR L is = some (Lc, Lo))
    (hx : evs E xs = some args) (hd : Nat.ble (d + 1) n = true) (g : ∀ v, Go F n ((d, res v) :: E) (L' v ++ Lo) (wpList P ops Q rest)) :
    Go F n E L (wpList P ops Q (⟨some d, .call ⟨.value (.func k), xs.toArray, tys⟩, ty, pos, after, none⟩ :: rest)) := fun M a w c => by
  unfold wpList
  rw [if_pos (by simp [Region.wanted])]
  left
  unfold Oper.wp
  have hrun : (execOp a.eval ⟨some d, .call ⟨.value (.func k), xs.toArray, tys⟩, ty, pos, after, none⟩).run P w = .ok (.enter k (xs.map a.eval).toArray) w := by
    simp only [execOp, resolve, uak, uaz, Act.eval, Deferred.ofValue, invoke]
    rw [ucw hk]
    simp
  rw [hrun, Oper.upon_enter]
  have st := c.st.perm (ucA hp)
  rw [hG] at hT
  have hT' : TabM P tabs M := hT.mono c.st.elder
  obtain ⟨F', hb, hs, st', hback⟩ := st.part
  have := hc F' w (xs.map a.eval) (by rw [hb]; exact hT') (by rw [hb]; exact st') hs (by rw [hb]; exact uf6 c hx)
  refine this.mono ?_
  rintro e w' ⟨v, M', rfl, st2, hv⟩
  obtain ⟨hle, st3⟩ := hback _ _ _ st2
  exact g v M' _ _ (c.put hle st3 (Nat.le_of_ble_eq_true hd) hv)
end
def IterR (F : Fr) (K : List Int → List Res → Prop) (B : List Res → Prop) : Ending → World → Prop := fun e w' => (∃ v, e = .returned v) ∧ ∃ M' L', (K [] L' ∨ B L') ∧ St F M' w' L'
section
variable {P : Program} {F F1 : Fr} {n : Nat} {E E' : Env} {L Lc Lo : List Res} {Q : Exit → Act → World → Prop} {c : Code}
theorem uog (g : ∀ F1, F.base.le F1.base → (∀ M n E L' a w, Cfg F1 M n E L' a w → Cfg F M n E (L' ++ Lo) a w) → Go F1 n E Lc (c.wp P Q)) : Go F n E (Lc ++ Lo) (c.wp P Q) := fun M a w cf => by
  obtain ⟨F', hb, _, st', back⟩ := cf.st.part
  refine g { F' with dfs := F.dfs } (by show F.base.le F'.base; rw [hb]; exact cf.st.elder) ?_ M a w ⟨⟨st'.os, st'.tape, st'.output, st'.size, st'.elder, st'.fresh, st'.frame, st'.mem, st'.sep⟩, cf.defers, cf.size, cf.env⟩
  intro M' n' E' L' a' w' c'
  obtain ⟨_, h⟩ := back M' w' L' ⟨c'.st.os, c'.st.tape, c'.st.output, c'.st.size, c'.st.elder, c'.st.fresh, c'.st.frame, c'.st.mem, c'.st.sep⟩
  exact ⟨h, c'.defers, c'.size, c'.env⟩
theorem umd {X : Act → World → Prop} (back : ∀ M n E L' a w, Cfg F1 M n E L' a w → Cfg F M n E (L' ++ Lo) a w) (g : Go F n E (L ++ Lo) X) : Go F1 n E L X := fun M a w c => g M a w (back _ _ _ _ _ _ c)
def LoopJ (F : Fr) (n : Nat) {σ : Type} (I : Nat → σ → Prop) (S : σ → Env) (R : σ → List Res) (m : Nat) (a : Act) (w : World) : Prop := ∃ m' s', m' < m ∧ I m' s' ∧ ∃ M, Cfg F M n (S s') (R s') a w
theorem uoT {σ : Type} (I : Nat → σ → Prop) (S : σ → Env) (R : σ → List Res) (m0 : Nat) (s0 : σ) (h0 : I m0 s0) (hE : E = S s0) (hL : L = R s0) (hb : ∀ m s, I m s → Go F n (S s) (R s) (c.wp P (Exit.then (LoopJ F n I S R m) Q))) : Go F n E L ((Code.loop c).wp P Q) := fun M a w cf => by
  refine ueA (fun m a w => ∃ s, I m s ∧ ∃ M, Cfg F M n (S s) (R s) a w) ?_ (m := m0) ⟨s0, h0, M, by subst hE; subst hL; exact cf⟩
  rintro m a w ⟨s, hI, M, cf⟩
  refine wp_mono (hb m s hI M a w cf) ?_
  intro e a' w' q
  cases e <;> first | exact q | (obtain ⟨m', s', h1, h2, h3⟩ := q; exact ⟨m', h1, s', h2, h3⟩)
theorem uoU {σ : Type} {I : Nat → σ → Prop} {S : σ → Env} {R : σ → List Res} {m : Nat} (m' : Nat) (s' : σ) (hlt : m' < m) (hI : I m' s') (hE : E = S s') (hL : L = R s') : Go F n E L (LoopJ F n I S R m) := fun M a w cf => ⟨m', s', hlt, hI, M, by subst hE; subst hL; exact cf⟩
theorem uku {ops : Array Oper} {o : Oper} {rest : List Oper} {a : Act} {w : World} {v : Value} (hg : o.guard = none) (hrun : (execOp a.eval o).run P w = .ok (.value v) w) (h : wpListIn Fence.wide 0 P ops Q rest (a.put o.dst v) w) : wpListIn Fence.wide 0 P ops Q (o :: rest) a w := by
  refine wpListIn_plain hg fun K hK => ⟨fun _ _ => trivial, ?_⟩
  show o.uponIn _ _ _ _ _ _ ((Oper.semAt none _ o).run P w)
  rw [Oper.semAt_none, hrun]
  exact hK _ _ h
theorem uni {y xi a1 a2 a3 a4 l : Nat} {z : Value} {x : Int} {A B : List Res → Prop} {id : Nat} {t1 t2 t3 t4 tb : TypeId} {p1 p2 p3 p4 : String} {f1 f2 f3 f4 : Array Edge} {tys : Array TypeId} (hy : E.get y = some (.one (.raw z) (.func (.yield l) #[] #[]))) (hx : E.get xi = some (.one (.int .i64) x)) (h1 : Nat.ble (a1 + 1) n = true) (h2 : Nat.ble (a2 + 1) n = true) (h3 : Nat.ble (a3 + 1) n = true) (h4 : Nat.ble (a4 + 1) n = true) (hne : Nat.beq a1 xi = false) (hne2 : Nat.beq a2 a1 = false)
    (hR : rng .i64 x → uks P F.base l x L A B)
    (hA : ∀ L', A L' → Go F n ((a4, .one .bool false) :: (a3, .one .bool true) :: (a2, .one (.int .i64) x) :: (a1, .one (.raw z) (.func (.yield l) #[] #[])) :: E) L' (Q .normal))
    (hB : ∀ L', B L' → Go F n ((a4, .one .bool true) :: (a3, .one .bool false) :: (a2, .one (.int .i64) x) :: (a1, .one (.raw z) (.func (.yield l) #[] #[])) :: E) L' (Q .normal)) :
    Go F n E L ((Code.region id #[⟨some a1, .move (.tmp y), t1, p1, f1, none⟩, ⟨some a2, .move (.tmp xi), t2, p2, f2, none⟩, ⟨some a3, .call ⟨.value (.tmp a1), #[.tmp a2], tys⟩, t3, p3, f3, none⟩, ⟨some a4, .unOp .not tb (.tmp a3), t4, p4, f4, none⟩] false).wp P Q) := fun M a w c => by
  have hvy : TV.holds M (.func (.yield l) #[] #[]) (.one (.raw z) (.func (.yield l) #[] #[])) := by
    obtain ⟨v, _, hh⟩ := c.get hy
    obtain ⟨rfl, _⟩ := holds_raw.1 hh
    exact hh
  have hvx : TV.holds M (.int .i64 x) (.one (.int .i64) x) := by
    obtain ⟨v, _, hh⟩ := c.get hx
    obtain ⟨rfl, _⟩ := holds_int.1 hh
    exact hh
  have ev1 : a.eval (.tmp y) = .func (.yield l) #[] #[] := by
    obtain ⟨v, e, hh⟩ := c.get? hy
    exact e.trans (holds_raw.1 hh).1
  refine wpIn_wide.1 (wpIn_region_lit (n := 0) (l := [_, _, _, _]) ?_)
  refine uku (v := .func (.yield l) #[] #[]) rfl (by simp only [execOp, ev1]; rfl) ?_
  have c1 := c.put (Mem.le.refl _) c.st (Nat.le_of_ble_eq_true h1) (t := .one (.raw z) (.func (.yield l) #[] #[])) hvy
  have ev2 : (a.put (some a1) (.func (.yield l) #[] #[])).eval (.tmp xi) = .int .i64 x := by
    obtain ⟨v, e, hh⟩ := c1.get? (i := xi) (t := .one (.int .i64) x) (by simp only [Env.get, hne]; exact hx)
    exact e.trans (holds_int.1 hh).1
  refine uku (v := .int .i64 x) rfl (by simp only [execOp, ev2]; rfl) ?_
  have c2 := c1.put (Mem.le.refl _) c1.st (Nat.le_of_ble_eq_true h2) (t := .one (.int .i64) x) hvx
  have ev3 : ((a.put (some a1) (.func (.yield l) #[] #[])).put (some a2) (.int .i64 x)).eval (.tmp a1) = .func (.yield l) #[] #[] := by
    obtain ⟨v, e, hh⟩ := c2.get? (i := a1) (t := .one (.raw z) (.func (.yield l) #[] #[])) (by simp [Env.get, hne2])
    exact e.trans (holds_raw.1 hh).1
  have ev4 : ((a.put (some a1) (.func (.yield l) #[] #[])).put (some a2) (.int .i64 x)).eval (.tmp a2) = .int .i64 x := by
    obtain ⟨v, e, hh⟩ := c2.get? (i := a2) (t := .one (.int .i64) x) (by simp [Env.get])
    exact e.trans (holds_int.1 hh).1
  have hst : St F M w (L ++ []) := by rw [List.append_nil]; exact c.st
  obtain ⟨F', hb, hsz, st', back⟩ := hst.part
  obtain ⟨fn, tmps, assign, body, hyl, hrd⟩ := hR (holds_int.1 hvx).2 F' w (by rw [hb]; exact c.st.elder) (by rw [hb]; exact st') hsz
  refine wpListIn_plain rfl fun K hK => ⟨fun _ _ => trivial, ?_⟩
  show Oper.uponIn _ _ _ _ _ _ _ ((Oper.semAt none _ _).run P w)
  rw [Oper.semAt_none]
  have hrun : (execOp ((a.put (some a1) (.func (.yield l) #[] #[])).put (some a2) (.int .i64 x)).eval ⟨some a3, .call ⟨.value (.tmp a1), #[.tmp a2], tys⟩, t3, p3, f3, none⟩).run P w = .ok (.round l fn tmps assign body) w := by
    simp only [execOp, resolve, uak, uaz, ev3, ev4, Deferred.ofValue, invoke, List.map_toArray, List.map_cons, List.map_nil]
    exact hyl
  show Oper.uponIn _ _ _ _ _ _ _ ((execOp ((a.put (some a1) (.func (.yield l) #[] #[])).put (some a2) (.int .i64 x)).eval ⟨some a3, .call ⟨.value (.tmp a1), #[.tmp a2], tys⟩, t3, p3, f3, none⟩).run P w)
  rw [hrun]
  refine ⟨fun e => by simp [Fence.wide] at e, hrd.mono ?_⟩
  have fin : ∀ (b : Bool) (M' : Mem) (L' : List Res) (w' : World), St F' M' w' L' → Go F n ((a4, .one .bool (!b)) :: (a3, .one .bool b) :: (a2, .one (.int .i64) x) :: (a1, .one (.raw z) (.func (.yield l) #[] #[])) :: E) L' (Q .normal) →
      wpListIn Fence.wide 0 P [(⟨some a1, .move (.tmp y), t1, p1, f1, none⟩ : Oper), ⟨some a2, .move (.tmp xi), t2, p2, f2, none⟩, ⟨some a3, .call ⟨.value (.tmp a1), #[.tmp a2], tys⟩, t3, p3, f3, none⟩, ⟨some a4, .unOp .not tb (.tmp a3), t4, p4, f4, none⟩].toArray Q [⟨some a4, .unOp .not tb (.tmp a3), t4, p4, f4, none⟩] (((a.put (some a1) (.func (.yield l) #[] #[])).put (some a2) (.int .i64 x)).put (some a3) (.bool b)) w' := fun b M' L' w' h hg => by
    obtain ⟨hle, h2⟩ := back M' w' L' h
    rw [List.append_nil] at h2
    have c3 := c2.put hle h2 (Nat.le_of_ble_eq_true h3) (v := .bool b) (t := .one .bool b) (holds_bool.2 rfl)
    have ev5 : (((a.put (some a1) (.func (.yield l) #[] #[])).put (some a2) (.int .i64 x)).put (some a3) (.bool b)).eval (.tmp a3) = .bool b := by
      obtain ⟨v, e, hh⟩ := c3.get? (i := a3) (t := .one .bool b) (by simp [Env.get])
      exact e.trans (holds_bool.1 hh)
    have c4 := c3.put (Mem.le.refl _) c3.st (Nat.le_of_ble_eq_true h4) (v := .bool (!b)) (t := .one .bool (!b)) (holds_bool.2 rfl)
    refine uku (v := .bool (!b)) rfl ?_ (wpListIn_nil (hg M' _ _ c4))
    simp only [execOp, ev5]
    rfl
  rintro e w' (⟨rfl, M', L', hA', hs'⟩ | ⟨rfl, M', L', hB', hs'⟩)
  · exact hK _ _ (fin true M' L' w' hs' (hA L' hA'))
  · exact hK _ _ (fin false M' L' w' hs' (hB L' hB'))
end
section
variable {P : Program} {F F1 : Fr} {n : Nat} {E E' : Env} {L : List Res} {Q : Exit → Act → World → Prop} {c1 c2 : Code} {fn : Func}
theorem IterOk.of {T : Mem → Prop} {gf : FuncId} {lb : List Value} {L0 : List Res} {xs : List Int}
    (h : ∀ (F : Fr) (w : World) (l : Nat) (K : List Int → List Res → Prop) (B : List Res → Prop) (Lo : List Res), T F.base → (∀ x rest L, rng .i64 x → K (x :: rest) L → uks P F.base l x L (K rest) B) → K xs (L0 ++ Lo) → (∀ xs L L', L.Perm L' → K xs L → K xs L') → St F F.base w (L0 ++ Lo) → Calls P gf (.func (.yield l) #[] #[] :: lb).toArray w (IterR F K B)) : IterOk P T gf lb L0 xs :=
  fun F w l K B Lo h1 h2 h3 h4 h5 _ => h F w l K B Lo h1 h2 h3 h4 h5
theorem unj {K : List Int → List Res → Prop} {B : List Res → Prop} (hr : fn.results = #[]) (h : K [] L ∨ B L) : Go (Fr.nd F) n E L (bodyPost P fn (IterR F K B) .normal) := fun M a w c =>
  ⟨c.defers, .tuple #[], by simp [results, hr, uaz], ⟨_, rfl⟩, M, L, h, c.st.un⟩
theorem uoV {K : List Int → List Res → Prop} {B : List Res → Prop} (hr : fn.results = #[]) (h : K [] L ∨ B L) : Go (Fr.nd F) n E L (bodyPost P fn (IterR F K B) .ret) := unj hr h
def unk (F : Fr) (n : Nat) {σ γ ρ : Type} (E' : σ → γ → Env) (L' : Nat → σ → γ → List Res) (k : σ → Option ρ) (r : ρ) (a : Act) (w : World) : Prop := ∃ D s g, k s = some r ∧ Meet (F.df (mark D)) n (E' s g) (L' D s g) a w
theorem ukv {σ γ ρ : Type} (E' : σ → γ → Env) (L' : Nat → σ → γ → List Res) (k : σ → Option ρ) (r : ρ) (h1 : Go F n E L (c1.wp P (Exit.then (unk F n E' L' k r) Q))) (h2 : ∀ D s g, k s = some r → Go (F.df (mark D)) n (E' s g) (L' D s g) (c2.wp P Q)) :
    Go F n E L ((Code.seq c1 c2).wp P Q) := by
  intro M a w c
  refine wp_seq (wp_mono (h1 M a w c) ?_)
  intro e a w q
  cases e with
  | normal =>
    obtain ⟨D, s, g, hk, M', c'⟩ := q
    exact h2 D s g hk M' a w c'
  | _ => exact q
theorem uhW {σ γ ρ : Type} {E' : σ → γ → Env} {L' : Nat → σ → γ → List Res} {k : σ → Option ρ} {r : ρ} {D : Nat} (s : σ) (g : γ) (hk : k s = some r) (hE : E = E' s g) (hL : L = L' D s g) : Go (F.df (mark D)) n E L (unk F n E' L' k r) := fun M a w c => ⟨D, s, g, hk, M, by subst hE; subst hL; exact c⟩
theorem r_asL {L2 : List Res} {X : Act → World → Prop} (h : L = L2) (g : Go F n E L2 X) : Go F n E L X := by subst h; exact g
end
def Res.seqv (g : FuncId) (t : TypeId) (v p : Value) : Res := Res.ex fun (b : Nat) => Res.all [Res.fact (v = .func (.func g) #[] #[adr b]), Res.var b t (.raw NV) p]
theorem Res.seqv_of {g : FuncId} {t : TypeId} {p : Value} {F : Fr} {n : Nat} {E : Env} {L : List Res} {X : Act → World → Prop} {b : Nat} (h : Go F n E (Res.seqv g t (.func (.func g) #[] #[adr b]) p :: L) X) : Go F n E (Res.var b t (.raw NV) p :: L) X :=
  ugN (p := Value.func (.func g) #[] #[adr b] = .func (.func g) #[] #[adr b]) rfl (r_all (L1 := [Res.fact _, Res.var b t (.raw NV) p]) (r_ex (f := fun (b' : Nat) => Res.all [Res.fact (Value.func (.func g) #[] #[adr b] = .func (.func g) #[] #[adr b']), Res.var b' t (.raw NV) p]) b h))
section
variable {P : Program} {F : Fr} {n : Nat} {E : Env} {L : List Res} {ops : Array Oper} {Q : Exit → Act → World → Prop} {rest : List Oper}
theorem uoW {R : World → World → Prop} {x : Operand} {a : Nat} {k : FuncId} (hx : ev E x = some (ptr a 0)) : Yields R P F n E L (.makeFunc (.func k) #[] #[x]) (.one (.raw .nilFunc) (.func (.func k) #[] #[adr a])) := fun o ho M s w c => by
  refine ⟨_, holds_raw.2 ⟨rfl, rfl⟩, fun w' _ => ?_⟩
  have h1 := (holds_raw.1 (ev_ok c hx)).1
  obtain ⟨dst, op, ty, pos, after, guard⟩ := o
  simp only at ho; subst ho
  refine uaP ?_
  simp [h1]
  rfl
theorem ujl {k g : FuncId} {t : TypeId} {p : Value} (hc : Fn P k [.one (.raw NV) p] [] (fun v => .one (.raw .nilFunc) v) (fun v => [Res.seqv g t v p])) (hk : ubL P k = true) {xs : List Operand} {tys : Array TypeId} {d : Nat} {ty : TypeId} {pos : String} {after : Array Edge}
    (hx : evs E xs = some [.one (.raw NV) p]) (hd : Nat.ble (d + 1) n = true) (h : ∀ b, Go F n ((d, .one (.raw .nilFunc) (.func (.func g) #[] #[adr b])) :: E) (Res.var b t (.raw NV) p :: L) (wpList P ops Q rest)) :
    Go F n E L (wpList P ops Q (⟨some d, .call ⟨.value (.func k), xs.toArray, tys⟩, ty, pos, after, none⟩ :: rest)) :=
  ucI (Lo := L) hc hk (List.Perm.refl _) hx hd fun v => ucp fun b => ubW (ubu fun e => by subst e; exact h b)
end
end Sx
namespace Sx
open Go
section
variable {P : Program} {F : Fr} {n : Nat} {E : Env} {L : List Res} {ops : Array Oper} {Q : Exit → Act → World → Prop} {rest : List Oper}
end
end Sx
namespace Sx
open Go Go.RowKit
end Sx
namespace Sx
open Go Go.RowKit
section
variable {P : Program} {W : World} {tabs : List (String × IntKind × List Int)}
theorem uoh {k : FuncId} {args : List TV} (hT : TabM P tabs (memOf W)) (hp : FnT P tabs k args [] (fun _ => .one .bool true) (fun _ => [])) {vs : List Value} (hv : HoldAll (memOf W) args vs) : Calls P k vs.toArray W fun e w' => e = .returned (.bool true) ∧ Below W.heap.size W w' := by
  have := hp { os := W.os, tape := W.tape, output := W.output, mem := memOf W, base := memOf W, size := W.heap.size } W vs hT
    { os := rfl, tape := rfl, output := rfl, size := Nat.le_refl _, elder := Mem.le.refl _, fresh := fun k o e => .inl e, frame := fun k o e => e, mem := fun k o e => e, sep := ⟨fun _ => False, fun _ h => h, fun _ h => h.elim⟩ } rfl hv
  refine this.mono ?_
  rintro e w' ⟨v, M', rfl, st, hh⟩
  obtain rfl := holds_bool.1 hh
  refine ⟨rfl, st.os, st.tape, st.output, st.size, fun k hk => ?_⟩
  have : memOf W k = some W.heap[k] := by simp [memOf, hk]
  rw [st.frame k _ this]; simp [hk]
theorem uoX (hsh : W.ShapedOpen P) (hbig : P.globals.size < (begin P (fun _ _ => 0) default).world.heap.size) (ht : ∀ x ∈ tabs, Lib.TabIs P W x.1 x.2.1 x.2.2) : TabM P tabs (memOf W) := by
  have h1 : (begin P (fun _ _ => 0) default).world.heap.size ≤ W.heap.size := by
    obtain ⟨_, h2⟩ := hsh
    obtain ⟨o, _, ho, _⟩ := h2 ((begin P (fun _ _ => 0) default).world.heap.size - 1) (by omega) (by omega)
    have := ubC ho
    omega
  exact ⟨W, hsh, ht, h1, by omega, fun k o h => h⟩
end
theorem uoi {C : Checked} {os : Os} {f : FuncId} {fn : Func} {s : ChangeSpec} {H : Type} {enc : TypeId × Value → H} {F : Stop.Interp} (tabs : List (String × IntKind × List Int)) (laid : List (String × DataW Unit)) (ts : List T) {tids : List TypeId} {bt : TypeId}
    (own : ownKnob C.prog.godebug = none) (started : os.Started) (noInit : C.prog.inits.idxOf? f = none) (hfn : C.prog.funcs[f]? = some fn)
    (witness : ∃ (w : World) (tape : Tape) (i : Input), w.os = os ∧ (w.forCall tape i).Shaped C.prog ∧ i.vars = [] ∧ Input.okWide C.prog (w.forCall tape i) .any w.heap.size f i ∧
      (OpenSpec.ofChange s).preRow enc C.prog fn [] false laid (w.forCall tape i).memory i.args ∧ Assume.holds {} C.prog (lone (Frame.enter C.prog f i.args .normal) [] (w.forCall tape i)))
    (hpar : fn.params = tids.toArray) (hres : fn.resultTypes = #[bt]) (hbt : C.prog.underlying bt = some .bool) (hvars : s.vars = []) (hcc : udO C.prog ts tids = true) (hlay : laidOutB C.prog = true)
    (hspec : ∀ ds : List (DataW H), ds.length = tids.length → s.fn H ds = { results := [.lit (.bool true)], args := ds })
    (hbig : Nat.blt C.prog.globals.size (begin C.prog (fun _ _ => 0) default).world.heap.size = true) (htabs : ∀ W : World, laidMetH C.prog laid W → ∀ x ∈ tabs, Lib.TabIs C.prog W x.1 x.2.1 x.2.2)
    (law : ∀ xs : Vals ts, uim C.prog.bytesOf ts xs → FnT C.prog tabs f (tvs ts xs) [] (fun _ => .one .bool true) (fun _ => [])) :
    ReturnsInHanded {} C os f .any ((OpenSpec.ofChange s).preRow enc C.prog fn [] false laid) (((OpenSpec.ofChange s).at F).post enc C.prog fn false true false false) := by
  refine returnsInHanded_of_row (s := OpenSpec.ofChange s) own started noInit hfn witness ?_
  intro W base args ds gs before hval hW _ _ hsz hL hsh _
  have hW' := hW
  obtain ⟨p, q, hA, hV, rfl, hfz, hnd⟩ := hW
  rw [show (OpenSpec.ofChange s).vars = s.vars from rfl, hvars] at hV
  obtain ⟨rfl, rfl⟩ := ChangeShapes.trodVars_none hV
  simp only [List.append_nil] at hW' hsz
  have hplain : (OpenSpec.ofChange s).bare.plain.varTypes C.prog = [] := by
    show s.plain.varTypes C.prog = []
    simp [DataSpec.varTypes, ChangeSpec.plain, hvars]
  rw [hplain, List.append_nil, hpar] at hsz
  rw [hpar] at hA
  simp only at hA hsz
  have hlen := uki hA
  have hlt := hW'.lt
  obtain ⟨xs, hh, ss, _⟩ := ukh (enc := enc) trivial ts hcc hA (fun j t v hj hv => hval j t v (by rw [hpar]; simpa using hj) (by simpa using hv)) (fun n hn => by simpa using List.all_eq_true.1 hsz n hn)
  have hT : TabM C.prog tabs (memOf W) := uoX hsh (Nat.le_of_ble_eq_true hbig) (htabs W hL)
  have hrun := uoh hT (law xs ss) hh
  rw [Array.toArray_toList] at hrun
  refine hrun.mono ?_
  rintro e W' ⟨rfl, hb⟩
  have hsp := hspec ds hlen
  show ∃ v, _ ∧ s.post enc C.prog fn false true false false W args v W'
  refine ⟨_, rfl, ds, [], p, [], p, [], hW', ?_, ?_, ?_, World.keptBut_mono (fun x hx => ⟨hx, .inr (.inl hx)⟩) (hb.frame _), fun h => by cases h⟩
  · rw [hres]
    simp only [List.append_nil, hsp]
    exact ChangeShapes.trodAll_mk1 (shut_bool hbt _)
  · rw [hpar]
    simp only [List.append_nil, hsp]
    exact ujg hlay hb ts hcc hA hlt _ (fun x hx => by simpa using hlt x hx)
  · rw [hvars]
    simp only [List.append_nil, hsp]
    rfl
def flatF : Nat → DataW Unit → List Value
  | 0, _ => []
  | _ + 1, .lit (.int k z) => [.int k z]
  | n + 1, .agg l => l.flatMap (flatF n)
  | _, _ => []
def unl (P : Program) (h : Array Obj) : List (String × DataW Unit) → Array Obj
  | [] => h
  | (nm, d) :: r => unl P (h.modify ((P.globalNamed nm).getD 0) fun | .cells _ t fz => .cells (flatF 8 d).toArray t fz | o => o) r
noncomputable def laidW (P : Program) (os : Os) (l : List (String × DataW Unit)) : World :=
  { World.holding P os ⟨#[], #[], []⟩ with heap := unl P (World.holding P os ⟨#[], #[], []⟩).heap l }
end Sx
