/-
  Own work. The disk's plain functions: the power.
-/
import Derived.Test.YtpkjocjchkibaaaDiskPure4
namespace Sx
open Go

theorem crash_fold {l : List FateS} (hl : FatesOk l) : ∀ (ks : List (List Int)) (fs : List (List Int × FileS)), FsOk fs → (∀ k ∈ ks, (pget .str k fs).isSome) →
    ∃ fs', foldK (disk_Disk_Crash_l0 l) ks fs = some fs' ∧ FsOk fs' ∧ fs'.map (·.1) = fs.map (·.1) ∧ (∀ k f, pget .str k fs = some f → f.2.2 = [] → f.2.1 = f.1 → pget .str k fs' = some f) ∧ (∀ k g, (k ∈ ks ∨ ∀ f, pget .str k fs = some f → f.2.1 = f.1 ∧ f.2.2 = []) → pget .str k fs' = some g → g.2.1 = g.1 ∧ g.2.2 = [])
  | [], fs, hok, _ => ⟨fs, rfl, hok, rfl, fun _ _ h _ _ => h, fun k g h hg => by
      rcases h with h | h
      · cases h
      · exact h g hg⟩
  | k :: ks, fs, hok, hk => by
    obtain ⟨f, hf⟩ := Option.isSome_iff_exists.1 (hk k (by simp))
    obtain ⟨g, hg, hgo, hg1, hg2, hg3⟩ := fall_eq (hok.get hf) k hl
    have e : disk_Disk_Crash_l0 l k fs = some (pset .str k g fs) := by
      unfold disk_Disk_Crash_l0
      simp only [hf, Option.bind_some, hg]
    have hks : ∀ k' ∈ ks, (pget .str k' (pset .str k g fs)).isSome := fun k' hk' => by
      by_cases h : k = k'
      · subst h; rw [get_pset hf]; rfl
      · rw [pget_pset_ne h]; exact hk k' (by simp [hk'])
    obtain ⟨fs', h1, h2, h3, h4, h5⟩ := crash_fold hl ks (pset .str k g fs) (hok.set hgo) hks
    refine ⟨fs', ?_, h2, by rw [h3, pset_keys], fun k' f' hf' hd hs => ?_, fun k' g' hor hg' => ?_⟩
    · show (disk_Disk_Crash_l0 l k fs).bind _ = _
      rw [e]; exact h1
    · refine h4 k' f' ?_ hd hs
      by_cases h : k = k'
      · subst h
        rw [hf] at hf'
        obtain rfl := Option.some.inj hf'
        rw [get_pset hf, hg3 hd hs]
      · rw [pget_pset_ne h]; exact hf'
    · refine h5 k' g' ?_ hg'
      by_cases h : k' ∈ ks
      · exact .inl h
      · right
        intro f' hf'
        by_cases hkk : k = k'
        · subst hkk
          rw [get_pset hf] at hf'
          obtain rfl := Option.some.inj hf'
          exact ⟨hg1, hg2⟩
        · rw [pget_pset_ne hkk] at hf'
          rcases hor with hor | hor
          · rcases List.mem_cons.1 hor with h' | h'
            · exact absurd h'.symm hkk
            · exact absurd h' h
          · exact hor f' hf'

theorem Crash_eq {D : DiskS} {l : List FateS} (hl : FatesOk l) (hok : FsOk D.2.1) (hop : D.2.2.2.2.2.1 = true → D.2.2.2.2.2.2 = true) : ∃ fs', disk_Disk_Crash D l = some (D.1, fs', 0, D.2.2.2.1, 0, true, false) ∧ FsOk fs' ∧ fs'.map (·.1) = D.2.1.map (·.1) ∧
    (∀ k f, pget .str k D.2.1 = some f → f.2.2 = [] → f.2.1 = f.1 → pget .str k fs' = some f) ∧ (∀ k g, pget .str k fs' = some g → g.2.1 = g.1 ∧ g.2.2 = []) := by
  obtain ⟨fs', h1, h2, h3, h4, h5⟩ := crash_fold hl (D.2.1.map (·.1)) D.2.1 hok (fun k hk => by
    cases hg : pget .str k D.2.1 with
    | none => exact absurd hk (get_none.1 hg)
    | some f => rfl)
  refine ⟨fs', ?_, h2, h3, h4, fun k g hg => h5 k g (.inl ?_) hg⟩
  · unfold disk_Disk_Crash
    rw [if_neg]
    · simp only [bnd_eq, h1, Option.bind_some]
    · cases ho : D.2.2.2.2.2.1 with
      | false => simp
      | true => simp [hop ho]
  · rw [← h3]
    refine Classical.byContradiction fun hc => ?_
    have := get_none.2 hc
    rw [hg] at this; cases this
theorem On_eq' {D : DiskS} (hp : D.2.2.2.2.2.2 = false) : disk_Disk_On D = some (D.1, D.2.1, D.2.2.1, D.2.2.2.1, D.2.2.2.2.1, false, false) := by
  unfold disk_Disk_On
  simp only [bnd_eq, hp]
  rw [if_neg (by decide)]
theorem Fall_eq (D : DiskS) (n : Int) : disk_Disk_Fall D n = some (D.1, D.2.1, D.2.2.1, D.2.2.2.1, max n 0, D.2.2.2.2.2.1, D.2.2.2.2.2.2) := rfl
end Sx
