/-
  Own work. From a statement's row to the plain function: what an argument reads as is typed data in memory.
-/
import Derived.Test.YtpkjocjchkibaaaSxJoin
import Derived.ProofKit
import Derived.OpenShut
import Derived.SizedLaws
import Derived.Carry
import Derived.RowKit3
namespace Sx
open Go Go.RowKit

/-- what is known of data that came in; 'B': an element's bytes -/
def Small (B : TypeId → Nat) : (t : T) → t.D → Prop
  | .int k, x => rng k x
  | .str, x => byteOk x ∧ List.length x ≤ 140737488351232
  | .pair a b, x => Small B a x.1 ∧ Small B b x.2
  | .arr n t, x => List.length x = n ∧ ∀ y ∈ (show List t.D from x), Small B t y
  | .sl e t, x => List.length x * B e ≤ 140737488351232 ∧ ∀ y ∈ (show List t.D from x), Small B t y
  | .bool, _ => True
  | .unit, _ => True
  | .raw _, _ => True

/-- how many values and letters -/
def Bulk : (t : T) → t.D → Nat
  | .str, x => List.length x + 1
  | .pair a b, x => Bulk a x.1 + Bulk b x.2
  | .arr _ t, x => ((show List t.D from x).map (Bulk t)).sum
  | .sl _ t, x => ((show List t.D from x).map (Bulk t)).sum + 1
  | .int _, _ => 1
  | .bool, _ => 1
  | .unit, _ => 0
  | .raw _, _ => 0
/-- a count of values and letters, as the rows with a bound have it -/
structure BulkFn {H : Type} (bk : DataW H → Nat) (bka : List (DataW H) → Nat) : Prop where
  one : ∀ d, 1 ≤ bk d
  str : ∀ l, bk (.lit (.string l)) = l.length + 1
  sl : ∀ e s, bka e + 1 ≤ bk (.slice e s)
  agg : ∀ p, bka p ≤ bk (.agg p)
  nil : bka [] = 0
  cons : ∀ d l, bka (d :: l) = bk d + bka l
theorem BulkFn.sum_le {H α : Type} {bk : DataW H → Nat} {bka : List (DataW H) → Nat} (h : BulkFn bk bka) {B : α → Nat} : ∀ {ys : List α} {xs : List (DataW H × List MemPlace)}, ys.length = xs.length →
    (∀ (i : Nat) y x, ys[i]? = some y → xs[i]? = some x → B y ≤ bk x.1) → (ys.map B).sum ≤ bka (xs.map (·.1))
  | [], [], _, _ => by simp
  | y :: ys, x :: xs, hl, hh => by
    simp only [List.map_cons, List.sum_cons, h.cons]
    have h0 := hh 0 y x rfl rfl
    have h1 := h.sum_le (B := B) (ys := ys) (xs := xs) (by simpa using hl) (fun i a b ha hb => hh (i + 1) a b (by simpa using ha) (by simpa using hb))
    omega
  | [], _ :: _, hl, _ => by simp at hl
  | _ :: _, [], hl, _ => by simp at hl

def rdChk (P : Program) : T → Bool
  | .raw _ => false
  | .pair a b => rdChk P a && rdChk P b
  | .arr _ t => rdChk P t
  | .sl e t => Nat.ble 1 (P.bytesOf e) && Nat.ble 1 t.size && rdChk P t
  | .int _ => true
  | .bool => true
  | .str => true
  | .unit => true

def memOf (W : World) : Mem := fun k => W.heap[k]?

theorem bs_data (b : ByteArray) : bs (b.data.toList.map fun c => (c.toNat : Int)) = b ∧ byteOk (b.data.toList.map fun c => (c.toNat : Int)) := by
  constructor
  · unfold bs
    simp
    have : (b.data.toList.map ((fun c : Int => UInt8.ofNat c.toNat) ∘ fun c : UInt8 => (c.toNat : Int))) = b.data.toList := by
      conv => rhs; rw [← List.map_id b.data.toList]
      apply List.map_congr_left
      intro c _
      simp
    first | rw [this] | skip
  · intro c hc
    simp only [List.mem_map] at hc
    obtain ⟨d, _, rfl⟩ := hc
    have := d.toNat_lt
    omega

theorem gather {α : Type} {R : List Value → α → Prop} {S : Nat → α → Prop} {s : Nat} : ∀ (n : Nat) {L : List Value}, L.length = n * s → ∀ k, (∀ i, i < n → ∃ v, R ((L.drop (i * s)).take s) v ∧ S (k + i) v) →
    ∃ xs : List α, xs.length = n ∧ RepL R L xs ∧ ∀ (i : Nat) y, xs[i]? = some y → S (k + i) y
  | 0, L, hL, _, _ => ⟨[], rfl, by simpa [RepL] using hL, by simp⟩
  | n + 1, L, hL, k, h => by
    obtain ⟨v, hv, sv⟩ := h 0 (by omega)
    have hL' : L.length = n * s + s := by rw [hL, Nat.add_mul]; omega
    obtain ⟨xs, h1, h2, h3⟩ := gather (R := R) (S := S) (s := s) n (L := L.drop s) (by simp; omega) (k + 1) (fun i hi => by
      obtain ⟨u, hu, su⟩ := h (i + 1) (by omega)
      refine ⟨u, ?_, by rw [Nat.add_right_comm, Nat.add_assoc]; exact su⟩
      rw [List.drop_drop]
      have : s + i * s = (i + 1) * s := by rw [Nat.add_mul]; omega
      rw [this]; exact hu)
    refine ⟨v :: xs, by simp [h1], ⟨L.take s, L.drop s, (List.take_append_drop s L).symm, by simpa using hv, h2⟩, ?_⟩
    intro i y hy
    cases i with
    | zero => simp at hy; subst hy; exact sv
    | succ i =>
      have := h3 i y (by simpa using hy)
      rw [Nat.add_right_comm, Nat.add_assoc] at this; exact this
theorem all_of_get {α : Type} {xs : List α} {p : α → Prop} (h : ∀ (i : Nat) y, xs[i]? = some y → p y) : ∀ y ∈ xs, p y := fun y hy => by
  obtain ⟨i, hi⟩ := List.getElem?_of_mem hy
  exact h i y hi

theorem cells?_some {w : World} {a : Addr} {n : Nat} {cs : List Value} (h : w.cells? 0 a n = some cs) (hn : 1 ≤ n) :
    a.spot = none ∧ ∃ c el fr, w.heap[a.block]? = some (.cells c el fr) ∧ a.off + n ≤ c.size ∧ cs = (c.toList.drop a.off).take n := by
  unfold World.cells? at h
  rw [if_pos (Nat.zero_le _)] at h
  have hl := mapM_some_length h
  have hg : ∀ i, i < n → w.cell? (a.add i) = cs[i]? := fun i hi => mapM_some_get h i i (by simp [hi])
  have hlen : cs.length = n := by simpa using hl
  have h0 := hg 0 (by omega)
  have hcs0 : cs[0]? = some cs[0] := by simp [hlen, show 0 < n by omega]
  rw [hcs0] at h0
  have ha : a.add 0 = a := by simp [Addr.add]
  rw [ha] at h0
  unfold World.cell? at h0
  split at h0
  · rename_i c el fr hm
    split at h0
    · cases h0
    · rename_i hs
      have hs : a.spot = none := by simpa using hs
      have each : ∀ i, i < n → c[a.off + i]? = cs[i]? := by
        intro i hi
        have := hg i hi
        by_cases h0 : i = 0
        · subst h0
          rw [ha] at this
          unfold World.cell? at this
          rw [hm] at this
          simp only [hs] at this
          simpa using this
        · simp only [Addr.add, if_neg h0, World.cell?, hm] at this
          simpa using this
      refine ⟨hs, c, el, fr, hm, ?_, ?_⟩
      · have h1 := each (n - 1) (by omega)
        have h2 : cs[n - 1]? = some cs[n - 1] := by simp [hlen, show n - 1 < n by omega]
        rw [h2] at h1
        have := (Array.getElem?_eq_some_iff.1 h1).1
        omega
      · apply List.ext_getElem?
        intro i
        by_cases hi : i < n
        · rw [← each i hi, List.getElem?_take, if_pos hi, List.getElem?_drop]
          simp
        · rw [List.getElem?_eq_none (by omega), List.getElem?_eq_none (by simp; omega)]
  · cases h0

theorem cellsOf_ty {P : Program} {t : T} {tid : TypeId} (h : tyChk P t tid = true) : P.cellsOf tid = t.size := by
  obtain ⟨i, _, hi, hs, _⟩ := tyChk_info h
  simp [Program.cellsOf, hi, hs]

theorem mem_weightsAll {H : Type} {P : Program} {e : TypeId} {n : Nat} : ∀ {l : List (DataW H)} {d : DataW H}, d ∈ l → n ∈ d.weights P e → n ∈ DataW.weightsAll P e l
  | a :: l, d, hd, hn => by
    simp only [DataW.weightsAll, List.mem_append]
    rcases List.mem_cons.1 hd with rfl | hd
    · exact .inl hn
    · exact .inr (mem_weightsAll hd hn)

theorem wf_rng {k : IntKind} {n : Int} (h : (Lit.int k n).wf = true) : rng k n := by
  cases k <;> simp [Lit.wf, IntKind.min, IntKind.max, IntKind.signed, IntKind.bits] at h <;> simp only [rng, lo, hi] <;> omega

section
variable {H : Type} {enc : TypeId × Value → H} {P : Program} {W : World} {sp : Nat → Bool} {held : Bool}

def CameT (enc : TypeId × Value → H) (P : Program) (W : World) (sp : Nat → Bool) (held : Bool) (t : T) : Prop := ∀ {tid : TypeId}, tyChk P t tid = true → rdChk P t = true → ∀ {fuel : Nat} {cs : List Value} {x : DataW H × List MemPlace},
  DataW.trod enc P W 0 sp held fuel tid cs = some x → (∀ n ∈ x.1.weights P tid, n ≤ reachBytes) → ∃ v : t.D, Rep t (memOf W) cs v ∧ Small P.bytesOf t v ∧ ∀ bk bka, BulkFn (H := H) bk bka → Bulk t v ≤ bk x.1

def CameF (enc : TypeId × Value → H) (P : Program) (W : World) (sp : Nat → Bool) (held : Bool) (t : T) : Prop := ∀ {r : List Field} {off : Nat}, stChk P t r off = true → rdChk P t = true → ∀ {fuel : Nat} {cs : List Value} {xs : List (DataW H × List MemPlace)},
  cs.length = t.size → xs.length = r.length → (∀ (i : Nat) (f : Field), r[i]? = some f → off ≤ f.offset ∧ DataW.trod enc P W 0 sp held fuel f.type ((cs.drop (f.offset - off)).take (P.cellsOf f.type)) = xs[i]?) →
  (∀ n ∈ DataW.weightsEach P (r.map (·.type)) (xs.map (·.1)), n ≤ reachBytes) → ∃ v : t.D, Rep t (memOf W) cs v ∧ Small P.bytesOf t v ∧ ∀ bk bka, BulkFn (H := H) bk bka → Bulk t v ≤ bka (xs.map (·.1))

theorem st_offs : ∀ {t : T} {r : List Field} {off : Nat}, stChk P t r off = true → ∀ (i : Nat) (f : Field), r[i]? = some f → off ≤ f.offset
  | .pair a b, f :: r, off, h, i, g, hg => by
    simp only [stChk, Bool.and_eq_true] at h
    have := Nat.eq_of_beq_eq_true h.1.1
    cases i with
    | zero => simp at hg; subst hg; omega
    | succ i => have := st_offs h.2 i g (by simpa using hg); omega
  | .unit, [], _, _, _, _, hg => by simp at hg
  | .pair _ _, [], _, h, _, _, _ => by simp [stChk] at h
  | .unit, _ :: _, _, h, _, _, _ => by simp [stChk] at h
  | .int _, _, _, h, _, _, _ => by simp [stChk] at h
  | .bool, _, _, h, _, _, _ => by simp [stChk] at h
  | .str, _, _, h, _, _, _ => by simp [stChk] at h
  | .raw _, _, _, h, _, _, _ => by simp [stChk] at h
  | .arr _ _, _, _, h, _, _, _ => by simp [stChk] at h
  | .sl _ _, _, _, h, _, _, _ => by simp [stChk] at h

theorem came : ∀ t : T, CameT enc P W sp held t ∧ CameF enc P W sp held t
  | .int k => ⟨fun {tid} hc hr {fuel cs x} h hw => by
      obtain ⟨i, d, hi, _, hu, hd⟩ := tyBase_info hc
      split at hd
      · rename_i k'
        obtain rfl := kindEq_eq hd
        obtain ⟨n, rfl, _, hwf⟩ := DataW.trod_int hu h
        exact ⟨n, ⟨rfl, wf_rng hwf⟩, wf_rng hwf, fun bk bka hb => hb.one _⟩
      · exact Bool.noConfusion hd, fun h => by simp [stChk] at h⟩
  | .bool => ⟨fun {tid} hc hr {fuel cs x} h hw => by
      obtain ⟨i, d, hi, _, hu, hd⟩ := tyBase_info hc
      split at hd
      · obtain ⟨b, rfl, _⟩ := DataW.trod_bool hu h
        exact ⟨b, rfl, trivial, fun bk bka hb => hb.one _⟩
      · exact Bool.noConfusion hd, fun h => by simp [stChk] at h⟩
  | .str => ⟨fun {tid} hc hr {fuel cs x} h hw => by
      obtain ⟨i, d, hi, _, hu, hd⟩ := tyBase_info hc
      split at hd
      · obtain ⟨s, rfl, rfl, _⟩ := DataW.trod_string hu h
        obtain ⟨h1, h2⟩ := bs_data s
        have := hw s.data.toList.length (by simp [DataW.weights])
        have hl : (s.data.toList.map fun c => (c.toNat : Int)).length ≤ 140737488351232 := by simpa [reachBytes] using this
        exact ⟨_, ⟨by rw [h1], h2, by simp only [most]; omega⟩, ⟨h2, hl⟩, fun bk bka hb => by rw [hb.str]; simp [Bulk]⟩
      · exact Bool.noConfusion hd, fun h => by simp [stChk] at h⟩
  | .raw _ => ⟨fun _ hr => by simp [rdChk] at hr, fun h => by simp [stChk] at h⟩
  | .unit => ⟨fun {tid} hc hr {fuel cs x} h hw => by
      obtain ⟨i, d, hi, hs, hu, hd⟩ := tyBase_info hc
      split at hd
      · rename_i fs
        obtain ⟨xs, n, _, _, hl, _⟩ := DataW.trod_struct hu h
        have : P.cellsOf tid = 0 := by simp [Program.cellsOf, hi, hs]
        rw [this] at hl
        exact ⟨(), by simpa [Rep] using hl, trivial, fun bk bka hb => Nat.zero_le _⟩
      · exact Bool.noConfusion hd, fun {r off} h hr {fuel cs xs} hl _ _ _ => ⟨(), by simpa [Rep, T.size] using hl, trivial, fun bk bka hb => Nat.zero_le _⟩⟩
  | .arr m u => ⟨fun {tid} hc hr {fuel cs x} h hw => by
      have hcells := cellsOf_ty hc
      obtain ⟨i, d, hi, hs, hu, hd⟩ := tyBase_info hc
      split at hd
      · rename_i m' e
        simp only [Bool.and_eq_true] at hd
        obtain rfl := Nat.eq_of_beq_eq_true hd.1
        have hce := cellsOf_ty hd.2
        obtain ⟨xs, n, _, rfl, hl, hxl, hx⟩ := DataW.trod_array hu h
        rw [hcells] at hl
        have := gather (R := Rep u (memOf W)) (S := fun i v => Small P.bytesOf u v ∧ ∀ x, xs[i]? = some x → ∀ bk bka, BulkFn (H := H) bk bka → Bulk u v ≤ bk x.1) (s := u.size) m hl 0 (fun i hi => by
          have h1 := hx i hi
          rw [hce] at h1
          have hlt : i < xs.length := by omega
          rw [List.getElem?_eq_getElem hlt] at h1
          obtain ⟨v, q1, q2, q3⟩ := (came u).1 hd.2 (by simpa [rdChk] using hr) h1 (fun n hn => hw n (by
            simp only [DataW.weights, hu]
            exact mem_weightsAll (List.mem_map.2 ⟨xs[i], List.getElem_mem _, rfl⟩) hn))
          exact ⟨v, q1, q2, fun x hx => by rw [Nat.zero_add, List.getElem?_eq_getElem hlt] at hx; cases hx; exact q3⟩)
        obtain ⟨ys, h1, h2, h3⟩ := this
        exact ⟨ys, ⟨h1, h2⟩, ⟨h1, all_of_get fun i y hy => (h3 i y hy).1⟩, fun bk bka hb => Nat.le_trans (hb.sum_le (by rw [h1, hxl]) fun i y x hy hx => (h3 i y hy).2 x (by rw [Nat.zero_add]; exact hx) bk bka hb) (hb.agg _)⟩
      · exact Bool.noConfusion hd, fun h => by simp [stChk] at h⟩
  | .sl e u => ⟨fun {tid} hc hr {fuel cs x} h hw => by
      simp only [tyChk, Bool.and_eq_true] at hc
      obtain ⟨hc1, hcu⟩ := hc
      obtain ⟨i, d, hi, hs, hu, hd⟩ := tyBase_info hc1
      simp only [rdChk, Bool.and_eq_true] at hr
      obtain ⟨⟨hB, hS⟩, hru⟩ := hr
      have hB := Nat.le_of_ble_eq_true hB
      have hS := Nat.le_of_ble_eq_true hS
      split at hd
      · rename_i e'
        obtain rfl := Nat.eq_of_beq_eq_true hd
        have hce := cellsOf_ty hcu
        rcases DataW.trod_slice hu h with ⟨rfl, rfl⟩ | ⟨a, len, cap, elems, rest, n, _, rfl, rfl, _, hlc, hcm, hel, hx, _⟩
        · exact ⟨[], ⟨none, 0, rfl, by simp, by simp, rfl⟩, ⟨by simp, by simp⟩, fun bk bka hb => by simpa [Bulk] using hb.one _⟩
        · have hbytes : (elems.length + rest.length) * P.bytesOf e ≤ reachBytes := by
            have := hw ((elems.length + rest.length) * P.bytesOf e) (by simp [DataW.weights, hu])
            exact this
          have hlb : len * P.bytesOf e ≤ 140737488351232 := by
            refine Nat.le_trans ?_ hbytes
            rw [← hel, Nat.add_mul]; omega
          have hlm : len ≤ 140737488351232 := Nat.le_trans (by simpa using Nat.mul_le_mul_left len hB) hlb
          rw [hce] at hx
          have each : ∀ i, i < len → ∃ ci, W.cells? 0 (a.add (i * u.size)) u.size = some ci ∧ ∃ v : u.D, Rep u (memOf W) ci v ∧ Small P.bytesOf u v ∧ ∀ x, elems[i]? = some x → ∀ bk bka, BulkFn (H := H) bk bka → Bulk u v ≤ bk x.1 := by
            intro i hi
            have h1 := hx i hi
            have hlt : i < elems.length := by omega
            rw [List.getElem?_eq_getElem hlt] at h1
            obtain ⟨ci, h2, h3⟩ := Option.bind_eq_some_iff.1 h1
            obtain ⟨v, q1, q2, q3⟩ := (came u).1 hcu hru h3 (fun n hn => hw n (by
              simp only [DataW.weights, hu, List.mem_cons, List.mem_append]
              exact .inr (.inl (mem_weightsAll (List.mem_map.2 ⟨elems[i], List.getElem_mem _, rfl⟩) hn))))
            exact ⟨ci, h2, v, q1, q2, fun x hx => by rw [List.getElem?_eq_getElem hlt] at hx; cases hx; exact q3⟩
          rcases Nat.eq_zero_or_pos len with h0 | h0
          · exact ⟨[], ⟨some a, cap, by simp [h0], by simp, by simp, .inl rfl⟩, ⟨by simp, by simp⟩, fun bk bka hb => by simpa [Bulk] using hb.one _⟩
          · obtain ⟨c0, hc0, _⟩ := each 0 h0
            have ha0 : a.add (0 * u.size) = a := by simp [Addr.add]
            rw [ha0] at hc0
            obtain ⟨hsp, c, el, fr, hm, _, _⟩ := cells?_some hc0 hS
            have place : ∀ i, i < len → a.off + i * u.size + u.size ≤ c.size ∧ ∃ v : u.D, Rep u (memOf W) ((c.toList.drop (a.off + i * u.size)).take u.size) v ∧ Small P.bytesOf u v ∧ ∀ x, elems[i]? = some x → ∀ bk bka, BulkFn (H := H) bk bka → Bulk u v ≤ bk x.1 := by
              intro i hi
              obtain ⟨ci, h1, h2⟩ := each i hi
              obtain ⟨_, c', el', fr', hm', hs', hcs⟩ := cells?_some h1 hS
              have hblk : (a.add (i * u.size)).block = a.block := by unfold Addr.add; split <;> rfl
              have hoff : (a.add (i * u.size)).off = a.off + i * u.size := by
                unfold Addr.add; split
                · rename_i hz; omega
                · rfl
              rw [hblk, hm] at hm'
              cases hm'
              rw [hoff] at hs' hcs
              rw [hcs] at h2
              exact ⟨hs', h2⟩
            have htot : a.off + len * u.size ≤ c.size := by
              have := (place (len - 1) (by omega)).1
              have e2 : (len - 1) * u.size + u.size = len * u.size := by
                rw [← Nat.succ_mul]; congr 1; omega
              omega
            obtain ⟨ys, h1, h2, h3⟩ := gather (R := Rep u (memOf W)) (S := fun i v => Small P.bytesOf u v ∧ ∀ x, elems[i]? = some x → ∀ bk bka, BulkFn (H := H) bk bka → Bulk u v ≤ bk x.1) (s := u.size) len (L := (c.toList.drop a.off).take (len * u.size)) (by simp; omega) 0 (fun i hi => by
              obtain ⟨_, v, hv, sv⟩ := place i hi
              refine ⟨v, ?_, by rw [Nat.zero_add]; exact sv⟩
              have hle : i * u.size + u.size ≤ len * u.size := by rw [← Nat.succ_mul]; exact Nat.mul_le_mul_right _ hi
              have e := take_drop_take (c.toList.drop a.off) 0 (len * u.size) (i * u.size) u.size hle
              rw [List.drop_zero, List.drop_drop, Nat.zero_add] at e
              rw [e]; exact hv)
            exact ⟨ys, ⟨some a, cap, by rw [h1], by rw [h1]; simp only [most]; omega, by rw [h1]; exact hlc, .inr ⟨hsp, c, el, fr, hm, by rw [h1]; exact htot, by rw [h1]; exact h2⟩⟩, ⟨by rw [h1]; exact hlb, all_of_get fun i y hy => (h3 i y hy).1⟩,
              fun bk bka hb => by
                have hs := hb.sum_le (B := Bulk u) (ys := ys) (xs := elems) (by rw [h1, hel]) fun i y x hy hx => (h3 i y hy).2 x (by rw [Nat.zero_add]; exact hx) bk bka hb
                have hs2 := hb.sl (elems.map (·.1)) (rest.map (·.1))
                simp only [Bulk]
                exact Nat.le_trans (Nat.succ_le_succ hs) hs2⟩
      · exact Bool.noConfusion hd, fun h => by simp [stChk] at h⟩
  | .pair a b => by
    have hF : CameF enc P W sp held (.pair a b) := fun {r off} h hr {fuel cs xs} hl hxl hx hw => by
      cases r with
      | nil => simp [stChk] at h
      | cons f r =>
        have hoffs := st_offs h
        simp only [stChk, Bool.and_eq_true] at h
        obtain ⟨⟨h1, h2⟩, h3⟩ := h
        have h1 := Nat.eq_of_beq_eq_true h1
        simp only [rdChk, Bool.and_eq_true] at hr
        cases xs with
        | nil => simp at hxl
        | cons x xs =>
          have hca := cellsOf_ty h2
          simp only [T.size] at hl
          have e0 := (hx 0 f rfl).2
          rw [h1, Nat.sub_self, List.drop_zero, hca] at e0
          simp only [List.map_cons, DataW.weightsEach, List.mem_append] at hw
          obtain ⟨va, ra, sa, ba⟩ := (came a).1 h2 hr.1 (by simpa using e0) (fun n hn => hw n (.inl hn))
          obtain ⟨vb, rb, sb, bb⟩ := (came b).2 h3 hr.2 (fuel := fuel) (cs := cs.drop a.size) (xs := xs) (by simp; omega) (by simpa using hxl) (fun i g hg => by
            have hge := st_offs h3 i g hg
            have := (hx (i + 1) g (by simpa using hg)).2
            refine ⟨hge, ?_⟩
            rw [List.drop_drop]
            have e : a.size + (g.offset - (off + a.size)) = g.offset - off := by omega
            rw [e]; simpa using this) (fun n hn => hw n (.inr hn))
          exact ⟨(va, vb), ⟨cs.take a.size, cs.drop a.size, (List.take_append_drop _ _).symm, ra, rb⟩, ⟨sa, sb⟩, fun bk bka hb => by
            have q1 := ba bk bka hb
            have q2 := bb bk bka hb
            simp only [Bulk, List.map_cons, hb.cons]; omega⟩
    refine ⟨fun {tid} hc hr {fuel cs x} h hw => ?_, hF⟩
    have hcells := cellsOf_ty hc
    obtain ⟨i, d, hi, hs, hu, hd⟩ := tyBase_info hc
    split at hd
    · rename_i fs
      split at hd
      · rename_i f r hfs
        have hst : stChk P (.pair a b) (f :: r) 0 = true := by
          simp only [stChk, Nat.zero_add]; exact hd
        obtain ⟨xs, n, _, rfl, hl, hxl, hx⟩ := DataW.trod_struct hu h
        rw [hcells] at hl
        obtain ⟨v, q1, q2, q3⟩ := hF hst hr (fuel := n) hl (by rw [hxl, ← hfs]; simp) (fun i g hg => ⟨Nat.zero_le _, by
          rw [Nat.sub_zero]
          exact hx i g (by rw [← hfs] at hg; simpa using hg)⟩) (fun n hn => hw n (by
          simp only [DataW.weights, hu]
          rw [hfs]; exact hn))
        exact ⟨v, q1, q2, fun bk bka hb => Nat.le_trans (q3 bk bka hb) (hb.agg _)⟩
      · cases hd
    · cases hd

/-! ### Arguments -/
@[reducible] def Vals : List T → Type
  | [] => Unit
  | t :: r => t.D × Vals r
@[reducible] def tvs : (ts : List T) → Vals ts → List TV
  | [], _ => []
  | t :: r, x => .one t x.1 :: tvs r x.2
@[reducible] def Smalls (B : TypeId → Nat) : (ts : List T) → Vals ts → Prop
  | [], _ => True
  | t :: r, x => Small B t x.1 ∧ Smalls B r x.2
@[reducible] def Bulks : (ts : List T) → Vals ts → Nat
  | [], _ => 0
  | t :: r, x => Bulk t x.1 + Bulks r x.2
def argsChk (P : Program) : List T → List TypeId → Bool
  | [], [] => true
  | t :: r, i :: is => tyChk P t i && rdChk P t && P.readableRec i && Nat.ble (i + 1) P.types.size && argsChk P r is
  | _, _ => false

theorem holds_of {t : T} {tid : TypeId} (hc : tyChk P t tid = true) (hr : rdChk P t = true) {v : Value} {base : Nat} (hv : Value.okWide P W .any base tid v) {x : t.D} (h : Rep t (memOf W) v.cells.toList x) : Holds t (memOf W) v x := by
  refine ⟨_, ?_, h⟩
  have agg : t.isAgg = true → v = mk t v.cells.toList := by
    intro ha
    obtain ⟨i, d, hi, hs, hu, hd⟩ := tyChk_info hc
    rw [ha] at hd
    unfold Value.okWide at hv
    rw [hu] at hv
    cases d <;> simp [aggD] at hd
    all_goals
      obtain ⟨cs, rfl, _, _⟩ := hv
      simp [mk, ha, Value.cells]
  by_cases ha : t.isAgg = true
  · exact agg ha
  · have ha : t.isAgg = false := by simpa using ha
    obtain ⟨u, e, ho⟩ := rep_one ha h
    have hna : ∀ cs, v ≠ .agg cs := by
      rintro cs rfl
      cases t <;> simp [T.isAgg] at ha <;> simp only [tyChk, Bool.and_eq_true] at hc
      case raw => simp [rdChk] at hr
      case sl =>
        obtain ⟨_, d, _, _, hu, hd⟩ := tyBase_info hc.1
        unfold Value.okWide at hv; rw [hu] at hv
        cases d <;> simp at hd <;> simp [Cell.okWide, Cell.ok, hu] at hv
      all_goals
        obtain ⟨_, d, _, _, hu, hd⟩ := tyBase_info hc
        unfold Value.okWide at hv; rw [hu] at hv
        cases d <;> simp at hd <;> simp [Cell.okWide, Cell.ok, hu] at hv
    have : v.cells.toList = [v] := by
      cases v <;> first | rfl | exact absurd rfl (hna _)
    rw [this]; simp [mk, ha]

theorem open_all (hl : True) : ∀ (ts : List T) {tids : List TypeId} {vs : List Value} {ds : List (DataW H)} {ps : List MemPlace} {base : Nat}, argsChk P ts tids = true → DataW.TrodAll enc P W 0 sp held tids vs ds ps →
    (∀ (j : Nat) t v, tids[j]? = some t → vs[j]? = some v → Value.okWide P W .any base t v) → (∀ n ∈ DataW.weightsEach P tids ds, n ≤ reachBytes) → ∃ xs : Vals ts, HoldAll (memOf W) (tvs ts xs) vs ∧ Smalls P.bytesOf ts xs ∧ ∀ bk bka, BulkFn (H := H) bk bka → Bulks ts xs ≤ bka ds
  | [], [], [], [], _, _, _, _, _, _ => ⟨(), .nil, trivial, fun _ _ _ => Nat.zero_le _⟩
  | t :: r, i :: is, v :: vs, d :: ds, ps, base, hc, h, hv, hw => by
    simp only [argsChk, Bool.and_eq_true] at hc
    obtain ⟨⟨⟨⟨h1, h2⟩, _⟩, _⟩, h3⟩ := hc
    obtain ⟨p, q, ⟨fuel, ht⟩, hr, _⟩ := h
    simp only [DataW.weightsEach, List.mem_append] at hw
    obtain ⟨x, rx, sx, bx⟩ := (came (sp := sp) (held := held) t).1 h1 h2 ht (fun n hn => hw n (.inl hn))
    obtain ⟨xs, hh, ss, bs⟩ := open_all hl r h3 hr (fun j t' v' hj hv' => hv (j + 1) t' v' (by simpa using hj) (by simpa using hv')) (fun n hn => hw n (.inr hn))
    exact ⟨(x, xs), .cons (holds_of h1 h2 (hv 0 i v rfl rfl) rx) hh, ⟨sx, ss⟩, fun bk bka hb => by
      have q1 : Bulk t x ≤ bk d := bx bk bka hb
      have q2 := bs bk bka hb
      simp only [Bulks, hb.cons]; omega⟩
  | [], [], _ :: _, _, _, _, _, h, _, _ => h.elim
  | [], [], [], _ :: _, _, _, _, h, _, _ => h.elim
  | [], _ :: _, _, _, _, _, h, _, _, _ => by simp [argsChk] at h
  | _ :: _, [], _, _, _, _, h, _, _, _ => by simp [argsChk] at h
  | _ :: _, _ :: _, [], _, _, _, _, h, _, _ => h.elim
  | _ :: _, _ :: _, _ :: _, [], _, _, _, h, _, _ => h.elim

/-- the law's code, run in a world -/
theorem run_law {k : FuncId} {args : List TV} (hp : Pure P k args (.one .bool true)) {vs : List Value} (hv : HoldAll (memOf W) args vs) : Calls P k vs.toArray W fun e w' => e = .returned (.bool true) ∧ Below W.heap.size W w' := by
  have := hp { os := W.os, tape := W.tape, output := W.output, mem := memOf W, base := memOf W, size := W.heap.size } W vs
    { os := rfl, tape := rfl, output := rfl, size := Nat.le_refl _, elder := Mem.le.refl _, fresh := fun k o e => .inl e, frame := fun k o e => e, mem := fun k o e => e, sep := ⟨fun _ => False, fun _ h => h, fun _ h => h.elim⟩ } rfl hv
  refine this.mono ?_
  rintro e w' ⟨v, M', rfl, st, hh⟩
  obtain rfl := holds_bool.1 hh
  refine ⟨rfl, st.os, st.tape, st.output, st.size, fun k hk => ?_⟩
  have : memOf W k = some W.heap[k] := by simp [memOf, hk]
  rw [st.frame k _ this]; simp [hk]

theorem stays_all (hl : laidOutB P = true) {W' : World} (hb : Below W.heap.size W W') : ∀ (ts : List T) {tids : List TypeId} {vs : List Value} {ds : List (DataW H)} {ps : List MemPlace}, argsChk P ts tids = true →
    DataW.TrodAll enc P W 0 (fun _ => true) true tids vs ds ps → (∀ x ∈ ps, x.block < W.heap.size) → ∀ sp' : Nat → Bool, (∀ x ∈ ps, sp' x.block = true) → DataW.TrodAll enc P W' 0 sp' true tids vs ds ps
  | [], [], [], [], _, _, h, _, _, _ => h
  | t :: r, i :: is, v :: vs, d :: ds, ps, hc, h, hlt, sp', hs => by
    simp only [argsChk, Bool.and_eq_true] at hc
    obtain ⟨⟨⟨_, h2⟩, h4⟩, h3⟩ := hc
    obtain ⟨p, q, ht, hr, rfl⟩ := h
    exact ⟨p, q, WideElems.Trod_stays hl h2 (Nat.le_of_ble_eq_true h4) ht (fun x hx => hb.same (hlt x (by simp [hx]))) (fun x hx => hs x (by simp [hx])),
      stays_all hl hb r h3 hr (fun x hx => hlt x (by simp [hx])) sp' (fun x hx => hs x (by simp [hx])), rfl⟩
  | [], [], _ :: _, _, _, _, h, _, _, _ => h.elim
  | [], [], [], _ :: _, _, _, h, _, _, _ => h.elim
  | [], _ :: _, _, _, _, h, _, _, _, _ => by simp [argsChk] at h
  | _ :: _, [], _, _, _, h, _, _, _, _ => by simp [argsChk] at h
  | _ :: _, _ :: _, [], _, _, _, h, _, _, _ => h.elim
  | _ :: _, _ :: _, _ :: _, [], _, _, h, _, _, _ => h.elim
end

theorem trod_len {H : Type} {enc : TypeId × Value → H} {P : Program} {w : World} {base : Nat} {sp : Nat → Bool} {held : Bool} : ∀ {ts : List TypeId} {vs : List Value} {ds : List (DataW H)} {ps : List MemPlace}, DataW.TrodAll enc P w base sp held ts vs ds ps → ds.length = ts.length
  | [], [], [], _, _ => rfl
  | _ :: _, _ :: _, _ :: _, _, ⟨_, _, _, h, _⟩ => by simp [trod_len h]
  | [], _ :: _, _, _, h => h.elim
  | [], [], _ :: _, _, h => h.elim
  | _ :: _, [], _, _, h => h.elim
  | _ :: _, _ :: _, [], _, h => h.elim

/-- the row's contract -/
theorem law_lifted {C : Checked} {os : Os} {f : FuncId} {fn : Func} {s : ChangeSpec} {H : Type} {enc : TypeId × Value → H} (ts : List T) {tids : List TypeId} {bt : TypeId}
    (own : ownKnob C.prog.godebug = none) (started : os.Started) (noInit : C.prog.inits.idxOf? f = none) (hfn : C.prog.funcs[f]? = some fn)
    (witness : ∃ (w : World) (tape : Tape) (i : Input), w.os = os ∧ (w.forCall tape i).Shaped C.prog ∧ i.vars = [] ∧ Input.okWide C.prog (w.forCall tape i) .any w.heap.size f i ∧
      s.pre6 enc C.prog fn [] false (w.forCall tape i).memory i.args ∧ Assume.holds {} C.prog (lone (Frame.enter C.prog f i.args .normal) [] (w.forCall tape i)))
    (hpar : fn.params = tids.toArray) (hres : fn.resultTypes = #[bt]) (hbt : C.prog.underlying bt = some .bool) (hvars : s.vars = []) (hcc : argsChk C.prog ts tids = true) (hlay : laidOutB C.prog = true)
    (hspec : ∀ ds : List (DataW H), ds.length = tids.length → s.fn H ds = { results := [.lit (.bool true)], args := ds })
    (law : ∀ xs : Vals ts, Smalls C.prog.bytesOf ts xs → Pure C.prog f (tvs ts xs) (.one .bool true)) :
    ReturnsInHanded {} C os f .any (s.pre6 enc C.prog fn [] false) (s.post enc C.prog fn false true false false) := by
  refine returnsInHanded_of_change_sized own started noInit hfn witness ?_
  intro W base args ds gs before hval hW _ hsz _
  have hW' := hW
  obtain ⟨p, q, hA, hV, rfl, hfz, hnd⟩ := hW
  rw [hvars] at hV
  obtain ⟨rfl, rfl⟩ := ChangeShapes.trodVars_none hV
  simp only [List.append_nil] at hW' hsz
  have hplain : s.plain.varTypes C.prog = [] := by simp [DataSpec.varTypes, ChangeSpec.plain, hvars]
  rw [hplain, List.append_nil, hpar] at hsz
  rw [hpar] at hA
  simp only at hA hsz
  have hlen := trod_len hA
  have hlt := hW'.lt
  obtain ⟨xs, hh, ss, _⟩ := open_all (enc := enc) trivial ts hcc hA (fun j t v hj hv => hval j t v (by rw [hpar]; simpa using hj) (by simpa using hv)) (fun n hn => by simpa using List.all_eq_true.1 hsz n hn)
  have hrun := run_law (law xs ss) hh
  rw [Array.toArray_toList] at hrun
  refine hrun.mono ?_
  rintro e W' ⟨rfl, hb⟩
  have hsp := hspec ds hlen
  refine ⟨_, rfl, ds, [], p, [], p, [], hW', ?_, ?_, ?_, World.keptBut_mono (fun x hx => ⟨hx, .inr (.inl hx)⟩) (hb.frame _), fun h => by cases h⟩
  · rw [hres]
    simp only [List.append_nil, hsp]
    exact ChangeShapes.trodAll_mk1 (shut_bool hbt _)
  · rw [hpar]
    simp only [List.append_nil, hsp]
    exact stays_all hlay hb ts hcc hA hlt _ (fun x hx => by simpa using hlt x hx)
  · rw [hvars]
    simp only [List.append_nil, hsp]
    rfl
end Sx
