/-
  Own work. Maps of the call's own: what they hold as a sorted list of keys and data; lookup, store, delete.
-/
import Derived.Test.YtpkjocjchkibaaaSxObj
import Derived.Maps.Own
import Derived.Maps.OwnSet
import Derived.Maps.Range
namespace Sx
open Go Go.Maps

/-! ### Keys -/
def klit : (kt : T) → kt.D → Lit
  | .int k, n => .int k n
  | .str, s => .string ((show List Int from s).map fun c => UInt8.ofNat c.toNat)
  | .bool, _ => .bool false | .unit, _ => .bool false | .raw _, _ => .bool false | .pair _ _, _ => .bool false | .arr _ _, _ => .bool false | .sl _ _, _ => .bool false
def kok : (kt : T) → kt.D → Prop
  | .int k, n => rng k n
  | .str, s => byteOk s ∧ List.length s ≤ most
  | .bool, _ => False | .unit, _ => False | .raw _, _ => False | .pair _ _, _ => False | .arr _ _, _ => False | .sl _ _, _ => False
def sLt : List Int → List Int → Bool
  | [], [] => false
  | [], _ :: _ => true
  | _ :: _, [] => false
  | a :: r, b :: s => decide (a < b) || (a == b && sLt r s)
def klt : (kt : T) → kt.D → kt.D → Bool
  | .int _, a, b => decide ((show Int from a) < b)
  | .str, a, b => sLt a b
  | .bool, _, _ => false | .unit, _, _ => false | .raw _, _, _ => false | .pair _ _, _, _ => false | .arr _ _, _, _ => false | .sl _ _, _, _ => false
def keq : (kt : T) → kt.D → kt.D → Bool
  | .int _, a, b => (show Int from a) == b
  | .str, a, b => (show List Int from a) == b
  | .bool, _, _ => false | .unit, _, _ => false | .raw _, _, _ => false | .pair _ _, _, _ => false | .arr _ _, _, _ => false | .sl _ _, _, _ => false

theorem sLt_before : ∀ {a b : List Int}, byteOk a → byteOk b → bytesBefore (a.map fun c => UInt8.ofNat c.toNat) (b.map fun c => UInt8.ofNat c.toNat) = sLt a b
  | [], [], _, _ => rfl
  | [], _ :: _, _, _ => rfl
  | _ :: _, [], _, _ => rfl
  | x :: a, y :: b, ha, hb => by
    have hx := ha x (by simp)
    have hy := hb y (by simp)
    simp only [List.map_cons, bytesBefore, sLt]
    rw [sLt_before (a := a) (b := b) (fun c hc => ha c (by simp [hc])) (fun c hc => hb c (by simp [hc]))]
    have e1 : decide (UInt8.ofNat x.toNat < UInt8.ofNat y.toNat) = decide (x < y) := by
      rw [decide_eq_decide, UInt8.lt_iff_toNat_lt]
      simp only [UInt8.toNat_ofNat']
      omega
    have e2 : (UInt8.ofNat x.toNat == UInt8.ofNat y.toNat) = (x == y) := by
      rw [Bool.eq_iff_iff]; simp only [beq_iff_eq]
      exact ⟨byte_inj hx hy, fun h => by rw [h]⟩
    rw [e1, e2]
theorem klit_before : ∀ {kt : T} {a b : kt.D}, kok kt a → kok kt b → (klit kt a).before (klit kt b) = klt kt a b
  | .int k, _, _, _, _ => rfl
  | .str, a, b, ha, hb => sLt_before ha.1 hb.1
  | .bool, _, _, h, _ => h.elim
  | .unit, _, _, h, _ => h.elim
  | .raw _, _, _, h, _ => h.elim
  | .pair _ _, _, _, h, _ => h.elim
  | .arr _ _, _, _, h, _ => h.elim
  | .sl _ _, _, _, h, _ => h.elim

theorem klit_same : ∀ {kt : T} {a b : kt.D}, kok kt a → kok kt b → (klit kt a).sameKey (klit kt b) = keq kt a b
  | .int k, a, b, _, _ => by
    show decide (k = k ∧ (show Int from a) = b) = ((show Int from a) == b)
    rw [Bool.eq_iff_iff, decide_eq_true_iff, beq_iff_eq]; simp
  | .str, a, b, ha, hb => by
    show (_ == _) = ((show List Int from a) == b)
    rw [Bool.eq_iff_iff]; simp only [beq_iff_eq]
    exact ⟨bs_inj ha.1 hb.1, fun h => by rw [h]⟩
  | .bool, _, _, h, _ => h.elim
  | .unit, _, _, h, _ => h.elim
  | .raw _, _, _, h, _ => h.elim
  | .pair _ _, _, _, h, _ => h.elim
  | .arr _ _, _, _, h, _ => h.elim
  | .sl _ _, _, _, h, _ => h.elim

theorem keq_iff : ∀ {kt : T} {a b : kt.D}, kok kt a → (keq kt a b = true ↔ a = b)
  | .int _, a, b, _ => beq_iff_eq (a := (show Int from a)) (b := b)
  | .str, a, b, _ => beq_iff_eq (a := (show List Int from a)) (b := b)
  | .bool, _, _, h => h.elim
  | .unit, _, _, h => h.elim
  | .raw _, _, _, h => h.elim
  | .pair _ _, _, _, h => h.elim
  | .arr _ _, _, _, h => h.elim
  | .sl _ _, _, _, h => h.elim

def ktChk (P : Program) (kt : T) (kid : TypeId) : Bool := match kt with
  | .int _ => tyChk P kt kid
  | .str => tyChk P kt kid
  | _ => false

theorem keyed_of {P : Program} {kt : T} {kid : TypeId} (h : ktChk P kt kid = true) : Keyed P kid := by
  cases kt <;> simp only [ktChk] at h <;> try cases h
  case int k =>
    obtain ⟨i, d, _, _, hu, hd⟩ := tyBase_info h
    cases d <;> simp at hd
    obtain rfl := kindEq_eq hd
    exact int_keyed hu
  case str =>
    obtain ⟨i, d, _, _, hu, hd⟩ := tyBase_info h
    cases d <;> simp at hd
    exact string_keyed hu

theorem keyOf_of {P : Program} {kt : T} {kid : TypeId} (h : ktChk P kt kid = true) {M : Mem} {v : Value} {x : kt.D} (hv : Holds kt M v x) : kok kt x ∧ keyOf P kid v = some (klit kt x) := by
  cases kt <;> simp only [ktChk] at h <;> try cases h
  case int k =>
    obtain ⟨i, d, _, _, hu, hd⟩ := tyBase_info h
    cases d <;> simp at hd
    obtain rfl := kindEq_eq hd
    obtain ⟨rfl, hr⟩ := holds_int.1 hv
    refine ⟨hr, keyOf_int_mk hu ?_⟩
    simp only [rng] at hr
    cases k <;> simp [Lit.wf, IntKind.min, IntKind.max, IntKind.signed, IntKind.bits, lo, Sx.hi] at hr ⊢ <;> omega
  case str =>
    obtain ⟨i, d, _, _, hu, hd⟩ := tyBase_info h
    cases d <;> simp at hd
    obtain ⟨rfl, hb, hm⟩ := holds_str.1 hv
    refine ⟨⟨hb, hm⟩, ?_⟩
    have := Go.WideMaps.keyOf_string_mk (P := P) (k := kid) hu (s := bs x) (by rw [bs_size]; simp only [most] at hm; unfold maxLen; omega)
    rw [this]
    simp only [klit, bs, List.toList_toArray]

/-! ### Plain maps: sorted lists -/
def pins (kt : T) {V : Type} (k : kt.D) (v : V) : List (kt.D × V) → List (kt.D × V)
  | [] => [(k, v)]
  | y :: r => if klt kt k y.1 then (k, v) :: y :: r else y :: pins kt k v r
def pdel (kt : T) {V : Type} (k : kt.D) (l : List (kt.D × V)) : List (kt.D × V) := l.filter fun p => !keq kt p.1 k
def pput (kt : T) {V : Type} (k : kt.D) (v : V) (l : List (kt.D × V)) : List (kt.D × V) := pins kt k v (pdel kt k l)
def pget (kt : T) {V : Type} (k : kt.D) (l : List (kt.D × V)) : Option V := (l.find? fun p => keq kt p.1 k).map (·.2)

abbrev dat (kt : T) (l : List (kt.D × Value)) : DataW Value := .map (l.map fun p => (klit kt p.1, .held p.2))
def koks (kt : T) {V : Type} (l : List (kt.D × V)) : Prop := ∀ p ∈ l, kok kt p.1

theorem dat_ins {kt : T} {k : kt.D} {v : Value} (hk : kok kt k) : ∀ {l : List (kt.D × Value)}, koks kt l → DataW.insert (klit kt k, .held v) (l.map fun p => (klit kt p.1, DataW.held p.2)) = (pins kt k v l).map fun p => (klit kt p.1, .held p.2)
  | [], _ => rfl
  | y :: r, h => by
    simp only [List.map_cons, DataW.insert, pins, klit_before hk (h y (by simp))]
    split
    · rfl
    · rw [dat_ins hk (fun p hp => h p (by simp [hp]))]; rfl
theorem dat_del {kt : T} {k : kt.D} (hk : kok kt k) {l : List (kt.D × Value)} (h : koks kt l) : (dat kt l).del (klit kt k) = dat kt (pdel kt k l) := by
  simp only [DataW.del, pdel, List.filter_map]
  congr 2
  apply List.filter_congr
  intro p hp
  simp only [Function.comp, klit_same (h p hp) hk]
theorem koks_del {kt : T} {V : Type} {k : kt.D} {l : List (kt.D × V)} (h : koks kt l) : koks kt (pdel kt k l) := fun p hp => h p (List.mem_filter.1 hp).1
theorem koks_ins {kt : T} {V : Type} {k : kt.D} {v : V} (hk : kok kt k) : ∀ {l : List (kt.D × V)}, koks kt l → koks kt (pins kt k v l)
  | [], _, p, hp => by simp [pins] at hp; subst hp; exact hk
  | y :: r, h, p, hp => by
    simp only [pins] at hp
    split at hp
    · rcases List.mem_cons.1 hp with rfl | hp
      · exact hk
      · exact h p hp
    · rcases List.mem_cons.1 hp with rfl | hp
      · exact h _ (by simp)
      · exact koks_ins hk (fun q hq => h q (by simp [hq])) p hp
theorem dat_put {kt : T} {k : kt.D} {v : Value} (hk : kok kt k) {l : List (kt.D × Value)} (h : koks kt l) : (dat kt l).put (klit kt k) (.held v) = dat kt (pput kt k v l) := by
  have := dat_del hk h
  simp only [DataW.del, DataW.map.injEq] at this
  simp only [DataW.put, this, dat_ins hk (koks_del h), pput]
theorem dat_at {kt : T} {k : kt.D} {z : Value} (hk : kok kt k) : ∀ {l : List (kt.D × Value)}, koks kt l → (dat kt l).atKey (klit kt k) (.held z) = .held ((pget kt k l).getD z)
  | [], _ => rfl
  | y :: r, h => by
    have ih := dat_at (z := z) hk (l := r) (fun p hp => h p (by simp [hp]))
    simp only [DataW.atKey, pget, List.map_cons, List.find?_cons, klit_same (h y (by simp)) hk] at ih ⊢
    cases keq kt y.1 k with
    | true => rfl
    | false => exact ih
theorem dat_has {kt : T} {k : kt.D} (hk : kok kt k) : ∀ {l : List (kt.D × Value)}, koks kt l → Maps.has (dat kt l) (klit kt k) = (pget kt k l).isSome
  | [], _ => rfl
  | y :: r, h => by
    have ih := dat_has hk (l := r) (fun p hp => h p (by simp [hp]))
    simp only [Maps.has, pget, List.map_cons, List.any_cons, List.find?_cons, klit_same (h y (by simp)) hk] at ih ⊢
    cases keq kt y.1 k with
    | true => rfl
    | false => simpa using ih

/-! ### Held as values -/
def RelKV {kt vt : T} (M : Mem) : List (kt.D × Value) → List (kt.D × vt.D) → Prop
  | [], [] => True
  | p :: r, q :: s => p.1 = q.1 ∧ Holds vt M p.2 q.2 ∧ RelKV M r s
  | _, _ => False
theorem RelKV.mono {kt vt : T} {M M' : Mem} (h : M.le M') : ∀ {a : List (kt.D × Value)} {b : List (kt.D × vt.D)}, RelKV M a b → RelKV M' a b
  | [], [], _ => trivial
  | _ :: _, _ :: _, ⟨h1, h2, h3⟩ => ⟨h1, h2.mono h, RelKV.mono h h3⟩
  | [], _ :: _, h => h.elim
  | _ :: _, [], h => h.elim
theorem RelKV.any {kt vt : T} {M M' : Mem} (hf : vt.flat = true) : ∀ {a : List (kt.D × Value)} {b : List (kt.D × vt.D)}, RelKV M a b → RelKV M' a b
  | [], [], _ => trivial
  | _ :: _, _ :: _, ⟨h1, h2, h3⟩ => ⟨h1, h2.any hf, RelKV.any hf h3⟩
  | [], _ :: _, h => h.elim
  | _ :: _, [], h => h.elim
theorem RelKV.len {kt vt : T} {M : Mem} : ∀ {a : List (kt.D × Value)} {b : List (kt.D × vt.D)}, RelKV M a b → a.length = b.length
  | [], [], _ => rfl
  | _ :: _, _ :: _, ⟨_, _, h3⟩ => by simp [RelKV.len h3]
  | [], _ :: _, h => h.elim
  | _ :: _, [], h => h.elim
theorem RelKV.koks {kt vt : T} {M : Mem} : ∀ {a : List (kt.D × Value)} {b : List (kt.D × vt.D)}, RelKV M a b → koks kt b → koks kt a
  | [], [], _, _ => fun p hp => by cases hp
  | p :: r, q :: s, ⟨h1, _, h3⟩, h => fun x hx => by
    rcases List.mem_cons.1 hx with rfl | hx
    · rw [h1]; exact h q (by simp)
    · exact RelKV.koks h3 (fun y hy => h y (by simp [hy])) x hx
  | [], _ :: _, h, _ => h.elim
  | _ :: _, [], h, _ => h.elim
theorem RelKV.del {kt vt : T} {M : Mem} (k : kt.D) : ∀ {a : List (kt.D × Value)} {b : List (kt.D × vt.D)}, RelKV M a b → RelKV M (pdel kt k a) (pdel kt k b)
  | [], [], _ => trivial
  | p :: r, q :: s, ⟨h1, h2, h3⟩ => by
    have ih := RelKV.del k h3
    simp only [pdel, List.filter_cons, h1] at ih ⊢
    split
    · exact ⟨h1, h2, ih⟩
    · exact ih
  | [], _ :: _, h => h.elim
  | _ :: _, [], h => h.elim
theorem RelKV.ins {kt vt : T} {M : Mem} (k : kt.D) {v : Value} {x : vt.D} (hv : Holds vt M v x) : ∀ {a : List (kt.D × Value)} {b : List (kt.D × vt.D)}, RelKV M a b → RelKV M (pins kt k v a) (pins kt k x b)
  | [], [], _ => ⟨rfl, hv, trivial⟩
  | p :: r, q :: s, ⟨h1, h2, h3⟩ => by
    have ih := RelKV.ins k hv h3
    simp only [pins, h1]
    split
    · exact ⟨rfl, hv, h1, h2, h3⟩
    · exact ⟨h1, h2, ih⟩
  | [], _ :: _, h => h.elim
  | _ :: _, [], h => h.elim
theorem RelKV.put {kt vt : T} {M : Mem} (k : kt.D) {v : Value} {x : vt.D} (hv : Holds vt M v x) {a : List (kt.D × Value)} {b : List (kt.D × vt.D)} (h : RelKV M a b) : RelKV M (pput kt k v a) (pput kt k x b) := (h.del k).ins k hv
theorem RelKV.get {kt vt : T} {M : Mem} (k : kt.D) : ∀ {a : List (kt.D × Value)} {b : List (kt.D × vt.D)}, RelKV M a b → (pget kt k a = none ∧ pget kt k b = none) ∨ ∃ v x, pget kt k a = some v ∧ pget kt k b = some x ∧ Holds vt M v x
  | [], [], _ => .inl ⟨rfl, rfl⟩
  | p :: r, q :: s, ⟨h1, h2, h3⟩ => by
    have ih := RelKV.get k h3
    simp only [pget, List.find?_cons, h1] at ih ⊢
    cases keq kt q.1 k with
    | true => exact .inr ⟨p.2, q.2, rfl, rfl, h2⟩
    | false => exact ih
  | [], _ :: _, h => h.elim
  | _ :: _, [], h => h.elim

def rawR (v : Value) : Option (DataW Value × List MemPlace) := some (.held v, [])

/-- a map of the call's own -/
def Res.map (P : Program) (kid : TypeId) (kt vt : T) (v : Value) (l : List (kt.D × vt.D)) : Res where
  sat M S w := ∃ b lv, v = .map (some b) ∧ (∀ k, S k ↔ k = b) ∧ w.ownsMap P kid rawR b l.length (dat kt lv) ∧ RelKV M lv l ∧ koks kt l
  mono h := fun ⟨b, lv, h1, h2, h3, h4, h5⟩ => ⟨b, lv, h1, h2, h3, h4.mono h, h5⟩
  loc h := fun ⟨b, lv, h1, h2, ⟨es, clock, g1, g2⟩, h4⟩ => ⟨b, lv, h1, h2, ⟨es, clock, by rw [h b ((h2 b).2 rfl)]; exact g1, g2⟩, h4⟩
  has := fun ⟨b, lv, _, h2, h3, _⟩ k hk => by obtain rfl := (h2 k).1 hk; exact h3.lt
theorem Res.free_map {P : Program} {kid : TypeId} {kt vt : T} {v : Value} {l : List (kt.D × vt.D)} (h : vt.flat = true) : (Res.map P kid kt vt v l).free := fun _ _ _ _ ⟨b, lv, h1, h2, h3, h4, h5⟩ => ⟨b, lv, h1, h2, h3, h4.any h, h5⟩
end Sx
