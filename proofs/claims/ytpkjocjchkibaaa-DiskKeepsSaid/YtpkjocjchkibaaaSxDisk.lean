/-
  Own work. The stand-in for a disk: its plain state, and how it lies in memory.
-/
import Derived.Test.YtpkjocjchkibaaaSxRange
namespace Sx
open Go

/-! ### Plain maps, whatever they hold -/
def pmap {K V W : Type} (f : V → W) (l : List (K × V)) : List (K × W) := l.map fun e => (e.1, f e.2)
theorem pmap_ins {kt : T} {V W : Type} (f : V → W) (k : kt.D) (v : V) : ∀ (l : List (kt.D × V)), pmap f (pins kt k v l) = pins kt k (f v) (pmap f l)
  | [] => rfl
  | y :: r => by
    have ih := pmap_ins f k v r
    simp only [pmap, pins, List.map_cons] at ih ⊢
    split
    · rfl
    · rw [List.map_cons, ih]
theorem pmap_del {kt : T} {V W : Type} (f : V → W) (k : kt.D) (l : List (kt.D × V)) : pmap f (pdel kt k l) = pdel kt k (pmap f l) := by
  simp only [pmap, pdel, List.filter_map]; rfl
theorem pmap_put {kt : T} {V W : Type} (f : V → W) (k : kt.D) (v : V) (l : List (kt.D × V)) : pmap f (pput kt k v l) = pput kt k (f v) (pmap f l) := by
  rw [pput, pput, pmap_ins, pmap_del]
theorem pmap_get {kt : T} {V W : Type} (f : V → W) (k : kt.D) : ∀ (l : List (kt.D × V)), pget kt k (pmap f l) = (pget kt k l).map f
  | [] => rfl
  | y :: r => by
    have ih := pmap_get f k r
    simp only [pmap, pget, List.map_cons, List.find?_cons] at ih ⊢
    cases keq kt y.1 k with
    | true => rfl
    | false => exact ih
theorem pmap_keys {K V W : Type} (f : V → W) (l : List (K × V)) : (pmap f l).map (·.1) = l.map (·.1) := by simp [pmap]
theorem pmap_koks {kt : T} {V W : Type} {f : V → W} {l : List (kt.D × V)} : koks kt (pmap f l) ↔ koks kt l := by
  simp only [koks, pmap, List.mem_map]
  exact ⟨fun h p hp => h _ ⟨p, hp, rfl⟩, fun h p ⟨q, hq, e⟩ => by rw [← e]; exact h q hq⟩

/-- the one entry at a key -/
theorem pget_split {kt : T} {V : Type} {k : kt.D} {y : V} : ∀ {l : List (kt.D × V)}, koks kt l → (l.map (·.1)).Nodup → pget kt k l = some y → ∃ A B, l = A ++ (k, y) :: B ∧ pdel kt k l = A ++ B
  | [], _, _, h => by simp [pget] at h
  | p :: r, ho, hn, h => by
    have hp := ho p (by simp)
    rw [List.map_cons, List.nodup_cons] at hn
    simp only [pget, List.find?_cons] at h
    cases hq : keq kt p.1 k with
    | true =>
      rw [hq] at h
      simp only [Option.map_some, Option.some.injEq] at h
      have e := (keq_iff hp).1 hq
      refine ⟨[], r, by rw [← e, ← h]; rfl, ?_⟩
      have : pdel kt k r = r := by
        simp only [pdel, List.filter_eq_self]
        intro q hq2
        cases hk : keq kt q.1 k with
        | false => rfl
        | true =>
          have := (keq_iff (ho q (by simp [hq2]))).1 hk
          exact absurd (List.mem_map.2 ⟨q, hq2, this.trans e.symm⟩) hn.1
      simp only [pdel, List.filter_cons, hq, Bool.not_true, Bool.false_eq_true, if_false, List.nil_append] at this ⊢
      exact this
    | false =>
      rw [hq] at h
      obtain ⟨A, B, e1, e2⟩ := pget_split (k := k) (l := r) (fun q hq => ho q (by simp [hq])) hn.2 h
      refine ⟨p :: A, B, by rw [e1]; rfl, ?_⟩
      simp only [pdel, List.filter_cons, hq, Bool.not_false, if_true] at e2 ⊢
      rw [e2]; rfl
/-- the value at a key that is there is another one -/
def pset (kt : T) {V : Type} (k : kt.D) (v : V) (l : List (kt.D × V)) : List (kt.D × V) := l.map fun p => if keq kt p.1 k = true then (p.1, v) else p
theorem pmap_set {kt : T} {V W : Type} (f : V → W) (k : kt.D) (v : V) (l : List (kt.D × V)) : pmap f (pset kt k v l) = pset kt k (f v) (pmap f l) := by
  simp only [pmap, pset, List.map_map]
  apply List.map_congr_left
  intro p _
  simp only [Function.comp]
  split <;> rfl
theorem apart_mid {kt : T} {V : Type} {k : kt.D} {y : V} {A B l : List (kt.D × V)} (ho : koks kt l) (hn : (l.map (·.1)).Nodup) (h : l = A ++ (k, y) :: B) : (∀ p ∈ A, keq kt p.1 k = false) ∧ ∀ p ∈ B, keq kt p.1 k = false := by
  subst h
  rw [List.map_append, List.map_cons] at hn
  have hn' := (List.perm_middle.nodup_iff).1 hn
  rw [List.nodup_cons, ← List.map_append] at hn'
  have key : ∀ p ∈ A ++ B, keq kt p.1 k = false := fun p hp => by
    cases hk : keq kt p.1 k with
    | false => rfl
    | true =>
      have hpo : kok kt p.1 := ho p (by rcases List.mem_append.1 hp with h | h <;> simp [h])
      exact absurd (List.mem_map.2 ⟨p, hp, (keq_iff hpo).1 hk⟩) hn'.1
  exact ⟨fun p hp => key p (by simp [hp]), fun p hp => key p (by simp [hp])⟩
theorem keq_self {kt : T} {k : kt.D} (h : kok kt k) : keq kt k k = true := (keq_iff h).2 rfl
theorem pset_split {kt : T} {V : Type} {k : kt.D} {y v : V} {A B l : List (kt.D × V)} (ho : koks kt l) (hn : (l.map (·.1)).Nodup) (h : l = A ++ (k, y) :: B) : pset kt k v l = A ++ (k, v) :: B := by
  obtain ⟨h1, h2⟩ := apart_mid ho hn h
  have hk : kok kt k := ho (k, y) (by rw [h]; simp)
  subst h
  simp only [pset, List.map_append, List.map_cons, keq_self hk, if_true]
  congr 1
  · conv => rhs; rw [← List.map_id A]
    exact List.map_congr_left fun p hp => by simp [h1 p hp]
  · congr 1
    conv => rhs; rw [← List.map_id B]
    exact List.map_congr_left fun p hp => by simp [h2 p hp]
theorem pget_mid {kt : T} {V : Type} {k : kt.D} {y v : V} {A B l : List (kt.D × V)} (ho : koks kt l) (hn : (l.map (·.1)).Nodup) (h : l = A ++ (k, y) :: B) : pget kt k (A ++ (k, v) :: B) = some v := by
  obtain ⟨h1, h2⟩ := apart_mid ho hn h
  have hk : kok kt k := ho (k, y) (by rw [h]; simp)
  unfold pget
  rw [List.find?_append, List.find?_eq_none.2 (fun p hp => by simp [h1 p hp]), Option.none_or, List.find?_cons, keq_self hk]
  rfl
theorem pins_perm {kt : T} {V : Type} (k : kt.D) (v : V) : ∀ (l : List (kt.D × V)), (pins kt k v l).Perm ((k, v) :: l)
  | [] => .refl _
  | y :: r => by
    simp only [pins]
    split
    · exact .refl _
    · exact ((pins_perm k v r).cons y).trans (.swap _ _ _)
theorem pput_perm {kt : T} {V : Type} (k : kt.D) (v : V) (l : List (kt.D × V)) : (pput kt k v l).Perm ((k, v) :: pdel kt k l) := pins_perm k v _
theorem pget_ins {kt : T} {V : Type} {k : kt.D} {v : V} (hk : kok kt k) : ∀ {l : List (kt.D × V)}, koks kt l → pget kt k l = none → pget kt k (pins kt k v l) = some v
  | [], _, _ => by simp [pget, pins, keq_self hk]
  | p :: r, ho, h => by
    have hp : keq kt p.1 k = false := by
      cases hq : keq kt p.1 k with
      | false => rfl
      | true => simp [pget, List.find?_cons, hq] at h
    have h2 : pget kt k r = none := by simpa [pget, List.find?_cons, hp] using h
    simp only [pins]
    split
    · simp [pget, keq_self hk]
    · have := pget_ins (v := v) hk (l := r) (fun q hq => ho q (by simp [hq])) h2
      simpa [pget, List.find?_cons, hp] using this
theorem pget_del_self {kt : T} {V : Type} {k : kt.D} (l : List (kt.D × V)) : pget kt k (pdel kt k l) = none := by
  unfold pget pdel
  rw [List.find?_eq_none.2 (fun p hp => by simpa using (List.mem_filter.1 hp).2)]; rfl
theorem pget_put {kt : T} {V : Type} {k : kt.D} {v : V} {l : List (kt.D × V)} (hk : kok kt k) (ho : koks kt (pdel kt k l)) : pget kt k (pput kt k v l) = some v := pget_ins hk ho (pget_del_self l)
theorem pdel_none {kt : T} {V : Type} {k : kt.D} : ∀ {l : List (kt.D × V)}, pget kt k l = none → pdel kt k l = l
  | [], _ => rfl
  | p :: r, h => by
    simp only [pget, List.find?_cons] at h
    cases hq : keq kt p.1 k with
    | true => rw [hq] at h; simp at h
    | false =>
      rw [hq] at h
      have := pdel_none (k := k) (l := r) h
      simp only [pdel, List.filter_cons, hq, Bool.not_false, if_true] at this ⊢
      rw [this]

/-! ### The disk -/
/-- seen, safe, dirty sectors -/
abbrev FileS := List Int × List Int × List Int
/-- capacity, files, armed, what, falls, off, open -/
abbrev DiskS := Int × List (List Int × FileS) × Int × Int × Int × Bool × Bool

/-- the numbers of the types -/
structure DI where
  disk : TypeId
  file : TypeId
  str : TypeId
  int : TypeId
  byte : TypeId

@[reducible] def FT : T := .pair (.raw (.slice none 0 0)) (.pair (.raw (.slice none 0 0)) (.pair (.raw (.map none)) .unit))
@[reducible] def DT : T := .pair (.int .i64) (.pair (.raw (.map none)) (.pair (.int .i64) (.pair (.int .i64) (.pair (.int .i64) (.pair .bool (.pair .bool .unit))))))
abbrev NV : Value := .pointer none

section
variable (P : Program) (I : DI)
def Res.dirty (v : Value) (keys : List Int) : Res := Res.ex fun (l : List (Int × Int)) => Res.all [Res.fact (l.map (·.1) = keys), Res.map P I.int (.int .i64) (.int .i64) v l]
/-- a file whose parts are told -/
def Res.file (p : Value) (f : FileS) : Res := Res.ex fun (g : Nat × Value × Value × Value) => Res.all [Res.fact (p = .pointer (some ⟨g.1, 0, none⟩)), Res.var g.1 I.file FT (g.2.1, g.2.2.1, g.2.2.2, ()),
  Res.own g.2.1 I.byte (.int .u8) f.1, Res.own g.2.2.1 I.byte (.int .u8) f.2.1, Res.dirty P I g.2.2.2 f.2.2]
def Res.files (es : List (List Int × Value × FileS)) : Res := Res.all (es.map fun e => Res.file P I e.2.1 e.2.2)
def Res.dmap (mv : Value) (es : List (List Int × Value × FileS)) : Res := Res.map P I.str .str (.raw NV) mv (pmap (fun y => y.1) es)
end

section
variable {P : Program} {I : DI} {F : Fr} {n : Nat} {E : Env} {L : List Res} {X : Act → World → Prop}

/-- what the map of the files is known to be -/
theorem r_dmap {mv : Value} {es : List (List Int × Value × FileS)} (hk : ktChk P .str I.str = true) (i : Nat) (hi : L[i]? = some (Res.dmap P I mv es)) (g : koks .str es → (es.map (·.1)).Nodup → Go F n E L X) : Go F n E L X := fun M a w c => by
  obtain ⟨b, lv, rfl, hown, hrel, hok⟩ := map_val c.st hi
  have hnd := own_nodup hk hown hrel hok
  rw [pmap_keys] at hnd
  exact g (pmap_koks.1 hok) hnd M a w c

theorem Sep.all_perm {M : Mem} {w : World} {A B : List Res} (p : A.Perm B) {S : Nat → Prop} (h : (Res.all A).sat M S w) : (Res.all B).sat M S w := Sep.perm p h

/-- one file, and the others -/
theorem r_focus {es : List (List Int × Value × FileS)} {name : List Int} {p : Value} {f : FileS} (ho : koks .str es) (hn : (es.map (·.1)).Nodup) (hg : pget .str name es = some (p, f))
    (g : Go F n E (Res.file P I p f :: Res.files P I (pdel .str name es) :: L) X) : Go F n E (Res.files P I es :: L) X := by
  obtain ⟨A, B, e1, e2⟩ := pget_split ho hn hg
  refine r_imp (R' := Res.all (Res.file P I p f :: (pdel .str name es).map fun e => Res.file P I e.2.1 e.2.2)) (fun M S w h => ?_) ?_
  · have h' : (Res.all (es.map fun e => Res.file P I e.2.1 e.2.2)).sat M S w := h
    refine Sep.all_perm ?_ h'
    rw [e2]
    rw [e1]
    simp only [List.map_append, List.map_cons]
    exact List.perm_middle
  · refine r_unall ?_
    show Go F n E (Res.file P I p f :: ((pdel .str name es).map (fun e => Res.file P I e.2.1 e.2.2) ++ L)) X
    intro M a w c
    refine g M a w { c with st := c.st.sep_to fun V ⟨S, V', r, s, d, e⟩ => ⟨S, V', r, Sep.all_of s, d, e⟩ }
/-- the files with one that is turned, or new -/
theorem r_unfocus {es : List (List Int × Value × FileS)} {name : List Int} {p : Value} {f : FileS} (g : Go F n E (Res.files P I (pput .str name (p, f) es) :: L) X) : Go F n E (Res.file P I p f :: Res.files P I (pdel .str name es) :: L) X := fun M a w c => by
  refine g M a w { c with st := c.st.sep_to fun V hs => ?_ }
  obtain ⟨S, V', r, ⟨S2, V2, r2, s2, d2, e2⟩, d, e⟩ := hs
  refine ⟨fun k => S k ∨ S2 k, V2, ?_, s2, ?_, ?_⟩
  · have : Sep M w (Res.file P I p f :: (pdel .str name es).map fun e => Res.file P I e.2.1 e.2.2) (fun k => S k ∨ S2 k) := ⟨S, S2, r, r2, fun k hk h2 => d k hk ((e2 k).2 (.inl h2)), fun k => Iff.rfl⟩
    exact Sep.perm (((pput_perm (kt := .str) name (p, f) es).map (fun e => Res.file P I e.2.1 e.2.2)).symm) this
  · rintro k (h | h)
    · exact fun hv => d k h ((e2 k).2 (.inr hv))
    · exact d2 k h
  · intro k; rw [e k, e2 k]; exact or_assoc.symm
end
end Sx
