/-
  Own work. What each operation of the disk leaves as it was, whatever its arguments.
-/
import Derived.Test.YtpkjocjchkibaaaDiskPure6
namespace Sx
open Go

/-- what stays: clean files under other names, and that a name is not there -/
structure Kept (x y : List Int) (D D' : DiskS) : Prop where
  ok : FsOk D'.2.1
  clean : ∀ b f, b ≠ x → b ≠ y → pget .str b D.2.1 = some f → f.2.2 = [] → f.2.1 = f.1 → pget .str b D'.2.1 = some f
  gone : ∀ b, b ≠ x → b ≠ y → pget .str b D.2.1 = none → pget .str b D'.2.1 = none

theorem Kept.same {x y : List Int} {D D' : DiskS} (hok : FsOk D.2.1) (h : D'.2.1 = D.2.1) : Kept x y D D' := ⟨by rw [h]; exact hok, fun b f _ _ g _ _ => by rw [h]; exact g, fun b _ _ g => by rw [h]; exact g⟩
theorem Kept.trans {x y : List Int} {A B C : DiskS} (h : Kept x y A B) (g : Kept x y B C) : Kept x y A C :=
  ⟨g.ok, fun b f h1 h2 h3 h4 h5 => g.clean b f h1 h2 (h.clean b f h1 h2 h3 h4 h5) h4 h5, fun b h1 h2 h3 => g.gone b h1 h2 (h.gone b h1 h2 h3)⟩

theorem Write_kept {D : DiskS} {name text : List Int} {at0 : Int} (hok : FsOk D.2.1) (hat : rng .i64 at0) (ht : byteOk text) (htl : text.length ≤ 140737488355328) (hnl : name.length < 4611686018427387904) (y : List Int) : ∃ e D', disk_Disk_Write D name at0 text = some (e, D') ∧ Kept name y D D' := by
  rcases Write_any hok hat ht htl hnl with ⟨e, _, h⟩ | ⟨_, _, _, _, _, e, a, fl, o, p, fs', _, hw, hok', _, hne, _⟩
  · exact ⟨e, D, h, Kept.same hok rfl⟩
  · by_cases he : e = 0
    · rw [if_pos he] at hw
      exact ⟨_, _, hw, hok', fun b f h1 _ g _ _ => by show pget .str b fs' = _; rw [hne b (fun e => h1 e.symm), g], fun b h1 _ g => by show pget .str b fs' = _; rw [hne b (fun e => h1 e.symm), g]⟩
    · rw [if_neg he] at hw
      exact ⟨_, _, hw, Kept.same hok rfl⟩
theorem Sync_kept {D : DiskS} {name : List Int} (hok : FsOk D.2.1) (y : List Int) : ∃ e D', disk_Disk_Sync D name = some (e, D') ∧ Kept name y D D' := by
  rcases Bool.eq_false_or_eq_true D.2.2.2.2.2.1 with ho | ho
  · exact ⟨9, D, by unfold disk_Disk_Sync; rw [found_off name ho]; rfl, Kept.same hok rfl⟩
  · cases hg : pget .str name D.2.1 with
    | none => exact ⟨5, D, by unfold disk_Disk_Sync; rw [found_eq name ho, hg]; rfl, Kept.same hok rfl⟩
    | some f =>
      obtain ⟨e, a, fl, o, p, _, hs⟩ := Sync_eq hok ho hg
      by_cases he : e = 0
      · rw [if_pos he] at hs
        have hf := hok.get hg
        refine ⟨_, _, hs, hok.set ⟨hf.1, hf.1, hf.2.2.1, Nat.le_refl _, List.nodup_nil, fun s hs => by cases hs⟩, fun b g h1 _ hb _ _ => ?_, fun b h1 _ hb => ?_⟩
        · show pget .str b (pset .str name _ D.2.1) = _
          rw [pget_pset_ne (fun e => h1 e.symm), hb]
        · show pget .str b (pset .str name _ D.2.1) = _
          rw [pget_pset_ne (fun e => h1 e.symm), hb]
      · rw [if_neg he] at hs
        exact ⟨_, _, hs, Kept.same hok rfl⟩
theorem Truncate_kept {D : DiskS} {name : List Int} {n : Int} (hok : FsOk D.2.1) (y : List Int) : ∃ e D', disk_Disk_Truncate D name n = some (e, D') ∧ Kept name y D D' := by
  rcases Truncate_any (D := D) (name := name) (n := n) hok with ⟨e, _, h⟩ | ⟨_, f, hg, _, _, h, hf⟩
  · exact ⟨e, D, h, Kept.same hok rfl⟩
  · refine ⟨_, _, h, hok.set hf, fun b g h1 _ hb _ _ => ?_, fun b h1 _ hb => ?_⟩
    · show pget .str b (pset .str name _ D.2.1) = _
      rw [pget_pset_ne (fun e => h1 e.symm), hb]
    · show pget .str b (pset .str name _ D.2.1) = _
      rw [pget_pset_ne (fun e => h1 e.symm), hb]
/-- a Rename does nothing, or what it is to do -/
theorem Rename_any {D : DiskS} {a b : List Int} (hok : FsOk D.2.1) (hbl : b.length < 4611686018427387904) :
    (∃ e, e ≠ 0 ∧ disk_Disk_Rename D a b = some (e, D)) ∨
    (D.2.2.2.2.2.1 = false ∧ ∃ f, pget .str a D.2.1 = some f ∧ disk_Disk_Rename D a b = some (0, (D.1, pput .str b f (pdel .str a D.2.1), D.2.2.1, D.2.2.2.1, D.2.2.2.2.1, D.2.2.2.2.2.1, D.2.2.2.2.2.2)) ∧ FsOk (pput .str b f (pdel .str a D.2.1))) := by
  rcases Bool.eq_false_or_eq_true D.2.2.2.2.2.1 with ho | ho
  · exact .inl ⟨9, by decide, by unfold disk_Disk_Rename; rw [found_off a ho]; rfl⟩
  · cases hg : pget .str a D.2.1 with
    | none => exact .inl ⟨5, by decide, by unfold disk_Disk_Rename; rw [found_eq a ho, hg]; rfl⟩
    | some f =>
      obtain ⟨q, hq⟩ := isName_any b hbl
      cases q with
      | false => exact .inl ⟨1, by decide, by unfold disk_Disk_Rename; rw [found_eq a ho, hg, hq]; rfl⟩
      | true =>
        refine .inr ⟨ho, f, rfl, Rename_eq hok ho hg hq, (hok.del a).put (hok.get hg) fun _ => ?_⟩
        have := pdel_length_lt hg
        have := hok.2.2
        omega
theorem Rename_kept {D : DiskS} {a b : List Int} (hok : FsOk D.2.1) (hbl : b.length < 4611686018427387904) : ∃ e D', disk_Disk_Rename D a b = some (e, D') ∧ Kept a b D D' := by
  rcases Rename_any (a := a) hok hbl with ⟨e, _, h⟩ | ⟨_, f, hg, h, hok'⟩
  · exact ⟨e, D, h, Kept.same hok rfl⟩
  · refine ⟨_, _, h, hok', fun k g h1 h2 hk _ _ => ?_, fun k h1 h2 hk => ?_⟩
    · show pget .str k (pput .str b f (pdel .str a D.2.1)) = _
      rw [get_pput_ne (fun e => h2 e.symm), get_pdel_ne (fun e => h1 e.symm), hk]
    · show pget .str k (pput .str b f (pdel .str a D.2.1)) = _
      rw [get_pput_ne (fun e => h2 e.symm), get_pdel_ne (fun e => h1 e.symm), hk]
theorem Remove_kept {D : DiskS} {a : List Int} (hok : FsOk D.2.1) (y : List Int) : ∃ e D', disk_Disk_Remove D a = some (e, D') ∧ Kept a y D D' := by
  rcases Bool.eq_false_or_eq_true D.2.2.2.2.2.1 with ho | ho
  · exact ⟨9, D, by unfold disk_Disk_Remove; rw [found_off a ho]; rfl, Kept.same hok rfl⟩
  · rw [Remove_eq ho]
    by_cases hg : (pget .str a D.2.1).isSome = true
    · rw [if_pos hg]
      refine ⟨_, _, rfl, hok.del a, fun k g h1 h2 hk _ _ => ?_, fun k h1 h2 hk => ?_⟩
      · show pget .str k (pdel .str a D.2.1) = _
        rw [get_pdel_ne (fun e => h1 e.symm), hk]
      · show pget .str k (pdel .str a D.2.1) = _
        rw [get_pdel_ne (fun e => h1 e.symm), hk]
    · rw [if_neg hg]
      exact ⟨_, _, rfl, Kept.same hok rfl⟩

/-- what a crash leaves, and going on -/
structure KeptAll (D D' : DiskS) : Prop where
  ok : FsOk D'.2.1
  clean : ∀ b f, pget .str b D.2.1 = some f → f.2.2 = [] → f.2.1 = f.1 → pget .str b D'.2.1 = some f
  keys : D'.2.1.map (·.1) = D.2.1.map (·.1)
theorem KeptAll.gone {D D' : DiskS} (h : KeptAll D D') {b : List Int} (g : pget .str b D.2.1 = none) : pget .str b D'.2.1 = none := by
  rw [get_none] at g ⊢
  rw [h.keys]; exact g
theorem KeptAll.kept {D D' : DiskS} (h : KeptAll D D') (x y : List Int) : Kept x y D D' := ⟨h.ok, fun b f _ _ => h.clean b f, fun _ _ _ => h.gone⟩
theorem Crash_kept {D : DiskS} {l : List FateS} (hl : FatesOk l) (hok : FsOk D.2.1) : ∃ D', disk_Disk_Crash D l = some D' ∧ KeptAll D D' ∧ D'.1 = D.1 ∧ D'.2.2.2.2.2.1 = true ∧ D'.2.2.2.2.2.2 = false := by
  by_cases h : D.2.2.2.2.2.1 = true ∧ D.2.2.2.2.2.2 = false
  · exact ⟨D, by unfold disk_Disk_Crash; rw [if_pos (by simp [h.1, h.2])], ⟨hok, fun _ _ g _ _ => g, rfl⟩, rfl, h.1, h.2⟩
  · obtain ⟨fs', h1, h2, h3, h4, _⟩ := Crash_eq (D := D) hl hok (fun ho => by
      cases hp : D.2.2.2.2.2.2 with
      | true => rfl
      | false => exact absurd ⟨ho, hp⟩ h)
    exact ⟨_, h1, ⟨h2, h4, h3⟩, rfl, rfl, rfl⟩
theorem FatesOk.nil : FatesOk [] := ⟨by simp, fun x hx => by cases hx⟩
theorem On_kept {D : DiskS} (hok : FsOk D.2.1) : ∃ D', disk_Disk_On D = some D' ∧ KeptAll D D' ∧ D'.1 = D.1 ∧ D'.2.2.2.2.2.1 = false ∧ D'.2.2.2.2.2.2 = false := by
  rcases Bool.eq_false_or_eq_true D.2.2.2.2.2.2 with hp | hp
  · obtain ⟨D1, h1, h2, h3, _, h5⟩ := Crash_kept FatesOk.nil hok
    refine ⟨(D1.1, D1.2.1, D1.2.2.1, D1.2.2.2.1, D1.2.2.2.2.1, false, D1.2.2.2.2.2.2), ?_, ⟨h2.ok, h2.clean, h2.keys⟩, h3, rfl, h5⟩
    unfold disk_Disk_On
    simp only [bnd_eq]
    rw [if_pos hp, h1]
    rfl
  · exact ⟨_, On_eq' hp, ⟨hok, fun _ _ g _ _ => g, rfl⟩, rfl, rfl, rfl⟩
end Sx
