/-
  Own work. Chapter 04: what was synced stands behind any crash.
-/
import Derived.Test.YtpkjocjchkibaaaDiskStep
namespace Sx
open Go

theorem has_l0 (l : List (List Int)) (n : List Int) (hl : l.length < 4611686018427387904) (k : Unit → Option Bool) (hk : k () = some false) : ∀ (j i : Nat), i + j = l.length → escrowlaw04_has_l0 l n k (j + 1) (i : Int) = some (decide (n ∈ l.drop i))
  | 0, i, h => by
    unfold escrowlaw04_has_l0
    rw [if_neg (by simp only [decide_eq_true_eq]; omega), hk, List.drop_eq_nil_of_le (by omega)]
    simp
  | j + 1, i, h => by
    have ew : IntKind.wrap .i64 ((i : Int) + 1) = ((i + 1 : Nat) : Int) := wrap_i64 (by omega) (by omega)
    have hi : i < l.length := by omega
    unfold escrowlaw04_has_l0
    simp only [bnd_eq, ew, Int.toNat_natCast]
    rw [if_pos (by simp only [decide_eq_true_eq]; omega), if_pos (by omega), List.drop_eq_getElem_cons hi, List.getD_eq_getElem?_getD, List.getElem?_eq_getElem hi, Option.getD_some]
    by_cases he : l[i] = n
    · rw [if_pos (by simpa using he)]
      simp [he]
    · rw [if_neg (by simpa using he), has_l0 l n hl k hk j (i + 1) (by omega)]
      congr 1
      rw [decide_eq_decide, List.mem_cons]
      exact ⟨.inr, fun h => h.elim (fun e => absurd e.symm he) id⟩
theorem has_eq {l : List (List Int)} {n : List Int} (hl : l.length < 4611686018427387904) : escrowlaw04_has l n = some (decide (n ∈ l)) := by
  unfold escrowlaw04_has
  simp only [bnd_eq]
  have ef : Int.toNat ((l.length : Int) - 0) + 1 = l.length + 1 := by omega
  rw [ef]
  exact has_l0 l n hl _ rfl l.length 0 (by omega)

theorem wrote_l0 (a : List OpS) (n : List Int) (ha : a.length < 4611686018427387904) (k : Unit → Option Bool) (hk : k () = some false) : ∀ (j i : Nat), i + j = a.length → ∃ b, escrowlaw04_wrote_l0 a n k (j + 1) (i : Int) = some b ∧ (b = false → ∀ q, i ≤ q → q < a.length → n ≠ (List.getD a q op0).2.2.1 ∧ n ≠ (List.getD a q op0).2.2.2.1)
  | 0, i, h => by
    refine ⟨false, ?_, fun _ q h1 h2 => absurd h1 (by omega)⟩
    unfold escrowlaw04_wrote_l0
    rw [if_neg (by simp only [decide_eq_true_eq]; omega), hk]
  | j + 1, i, h => by
    have ew : IntKind.wrap .i64 ((i : Int) + 1) = ((i + 1 : Nat) : Int) := wrap_i64 (by omega) (by omega)
    have hi : i < a.length := by omega
    obtain ⟨b, hb, hb2⟩ := wrote_l0 a n ha k hk j (i + 1) (by omega)
    have hin : (0 : Int) ≤ (i : Int) ∧ (i : Int) < (a.length : Int) := by omega
    have hop : (0, false, [], [], 0, 0, [], [], ()) = op0 := rfl
    unfold escrowlaw04_wrote_l0
    simp only [bnd_eq, ew, Int.toNat_natCast, if_pos hin, hb, hop]
    rw [if_pos (by simp only [decide_eq_true_eq]; omega)]
    by_cases h1 : (List.getD a i op0).2.2.1 = n
    · exact ⟨true, by rw [if_pos (by simpa using h1)]; rfl, fun h => by cases h⟩
    · rw [if_neg (by simpa using h1)]
      by_cases h2 : (List.getD a i op0).2.2.2.1 = n
      · exact ⟨true, by rw [if_pos (by simpa using h2)], fun h => by cases h⟩
      · refine ⟨b, by rw [if_neg (by simpa using h2)], fun he q hq hl => ?_⟩
        rcases Nat.lt_or_ge i q with hlt | hge
        · exact hb2 he q hlt hl
        · obtain rfl : q = i := by omega
          exact ⟨fun e => h1 e.symm, fun e => h2 e.symm⟩
theorem wrote_eq {a : List OpS} {n : List Int} (ha : a.length < 4611686018427387904) : ∃ b, escrowlaw04_wrote a n = some b ∧ (b = false → ∀ q, q < a.length → n ≠ (List.getD a q op0).2.2.1 ∧ n ≠ (List.getD a q op0).2.2.2.1) := by
  unfold escrowlaw04_wrote
  simp only [bnd_eq]
  have ef : Int.toNat ((a.length : Int) - 0) + 1 = a.length + 1 := by omega
  rw [ef]
  obtain ⟨b, h1, h2⟩ := wrote_l0 a n ha (fun (_ : Unit) => some false) rfl a.length 0 (by omega)
  exact ⟨b, h1, fun h q hq => h2 h q (by omega) hq⟩

theorem all_eq {D : DiskS} {name : List Int} (hok : FsOk D.2.1) (ho : D.2.2.2.2.2.1 = false) : escrowlaw04_all D name = some (match pget .str name D.2.1 with | none => [] | some f => f.1) := by
  unfold escrowlaw04_all
  rw [Read_all hok ho]
  cases pget .str name D.2.1 <;> rfl

theorem keeps_l0 {a3 : List OpS} (ha : OpsOk a3) (at0 name want : List Int) (D0 : DiskS) (k : DiskS → Option Bool) : ∀ (j i : Nat) (D : DiskS), i + j = a3.length → FsOk D.2.1 → pget .str at0 D.2.1 = some (want, want, []) →
    ((∀ q, q < i → name ≠ (List.getD a3 q op0).2.2.1 ∧ name ≠ (List.getD a3 q op0).2.2.2.1) → pget .str name D0.2.1 = none → pget .str name D.2.1 = none) →
    ∃ D', FsOk D'.2.1 ∧ pget .str at0 D'.2.1 = some (want, want, []) ∧ ((∀ q, q < a3.length → name ≠ (List.getD a3 q op0).2.2.1 ∧ name ≠ (List.getD a3 q op0).2.2.2.1) → pget .str name D0.2.1 = none → pget .str name D'.2.1 = none) ∧ escrowlaw04_DiskKeeps_l0 a3 (at0, D0) k (j + 1) ((i : Int), D) = k D'
  | 0, i, D, h, hok, hf, hg => by
    have hi : i = a3.length := by omega
    refine ⟨D, hok, hf, by rw [← hi]; exact hg, ?_⟩
    unfold escrowlaw04_DiskKeeps_l0
    rw [if_neg (by simp only [decide_eq_true_eq]; omega)]
  | j + 1, i, D, h, hok, hf, hg => by
    have hl := ha.1
    have ew : IntKind.wrap .i64 ((i : Int) + 1) = ((i + 1 : Nat) : Int) := wrap_i64 (by omega) (by omega)
    have hop : (0, false, [], [], 0, 0, [], [], ()) = op0 := rfl
    -- what the round does to the disk
    obtain ⟨D1, h1, hok1, hf1, hg1⟩ : ∃ D1, (if ((List.getD a3 i op0).2.2.1 != at0 && (List.getD a3 i op0).2.2.2.1 != at0) = true then (escrowlaw04_step D (List.getD a3 i op0)).bind fun r => (disk_Disk_Read r.2 at0 (i : Int) 9).bind fun _ => escrowlaw04_DiskKeeps_l0 a3 (at0, D0) k (j + 1) (((i + 1 : Nat) : Int), r.2)
        else (disk_Disk_Read D at0 (i : Int) 9).bind fun _ => escrowlaw04_DiskKeeps_l0 a3 (at0, D0) k (j + 1) (((i + 1 : Nat) : Int), D)) = escrowlaw04_DiskKeeps_l0 a3 (at0, D0) k (j + 1) (((i + 1 : Nat) : Int), D1) ∧ FsOk D1.2.1 ∧ pget .str at0 D1.2.1 = some (want, want, []) ∧
        ((∀ q, q < i + 1 → name ≠ (List.getD a3 q op0).2.2.1 ∧ name ≠ (List.getD a3 q op0).2.2.2.1) → pget .str name D0.2.1 = none → pget .str name D1.2.1 = none) := by
      by_cases hc : ((List.getD a3 i op0).2.2.1 != at0 && (List.getD a3 i op0).2.2.2.1 != at0) = true
      · obtain ⟨e, D1, h1, h2⟩ := step_any hok (ha.2 i (by omega))
        obtain ⟨r, hr⟩ := Read_any (D := D1) (name := at0) (at0 := (i : Int)) (n := 9) h2.ok
        simp only [Bool.and_eq_true, bne_iff_ne, ne_eq] at hc
        refine ⟨D1, ?_, h2.ok, h2.clean at0 _ (fun e => hc.1 e.symm) (fun e => hc.2 e.symm) hf rfl rfl, fun hq hz => ?_⟩
        · rw [if_pos (by simpa using hc), h1]
          simp only [Option.bind_some, hr]
        · have hh := hq i (by omega)
          exact h2.gone name hh.1 hh.2 (hg (fun q hq' => hq q (by omega)) hz)
      · obtain ⟨r, hr⟩ := Read_any (D := D) (name := at0) (at0 := (i : Int)) (n := 9) hok
        refine ⟨D, ?_, hok, hf, fun hq hz => hg (fun q hq' => hq q (by omega)) hz⟩
        rw [if_neg hc, hr]
        rfl
    obtain ⟨D', h2, h3, h4, h5⟩ := keeps_l0 ha at0 name want D0 k j (i + 1) D1 (by omega) hok1 hf1 hg1
    refine ⟨D', h2, h3, h4, ?_⟩
    rw [← h5, ← h1]
    conv => lhs; unfold escrowlaw04_DiskKeeps_l0
    simp only [bnd_eq, ew, Int.toNat_natCast, hop]
    rw [if_pos (by simp only [decide_eq_true_eq]; omega), if_pos (by omega)]

theorem escrowlaw04_DiskKeeps_true (a0 : List OpS) (a1 a2 : List Int) (a3 : List OpS) (a4 : List FateS) (a5 : Int) {q0 q1 q5 q8 : OpS → Prop} {r0 r1 r2 r4 : FateS → Prop} {p0 p1 p5 p8 : OpS → Prop} {s0 s1 s2 s4 : FateS → Prop} {t0 t1 t2 t4 : FateS → Prop}
    (h0 : List.length a0 * 104 ≤ 140737488351232 ∧ ∀ y ∈ a0, @OpSmall q0 q1 q5 q8 r0 r1 r2 r4 y) (h1 : byteOk a1 ∧ List.length a1 ≤ 140737488351232) (h2 : byteOk a2 ∧ List.length a2 ≤ 140737488351232)
    (h3 : List.length a3 * 104 ≤ 140737488351232 ∧ ∀ y ∈ a3, @OpSmall p0 p1 p5 p8 s0 s1 s2 s4 y)
    (h4 : List.length a4 * 48 ≤ 140737488351232 ∧ ∀ z ∈ a4, t0 z ∧ t1 z ∧ t2 z ∧ (byteOk z.2.2.2.1 ∧ List.length z.2.2.2.1 ≤ 140737488351232) ∧ t4 z) (_h5 : rng .i64 a5) : escrowlaw04_DiskKeeps a0 a1 a2 a3 a4 a5 = some true := by
  have ha0 := opsOk_of h0
  have ha3 := opsOk_of h3
  have hfa : FatesOk a4 := ⟨by omega, fun x hx => ⟨(h4.2 x hx).2.2.2.1.1, by have := (h4.2 x hx).2.2.2.1.2; omega⟩⟩
  obtain ⟨D, hm, hok, ho, hop, harm, hfall⟩ := made_eq ha0
  have hlen := hok.2.2
  have hkl : (D.2.1.map (·.1)).length = D.2.1.length := by simp
  unfold escrowlaw04_DiskKeeps
  simp only [hm, Option.bind_some, bnd_eq, dfirst_eq, List_eq hok ho, has_eq (l := D.2.1.map (·.1)) (n := a1) (by omega)]
  rw [if_neg (by decide), if_neg (by decide), if_pos trivial]
  cases hg : pget .str a1 D.2.1 with
  | none =>
    have hn : decide (a1 ∈ D.2.1.map (·.1)) = false := decide_eq_false (get_none.1 hg)
    rw [hn, if_pos (by decide)]
    have : disk_Disk_Sync D a1 = some (5, D) := by unfold disk_Disk_Sync; rw [found_eq a1 ho, hg]; rfl
    rw [this]; rfl
  | some f =>
    have hn : decide (a1 ∈ D.2.1.map (·.1)) = true := decide_eq_true (by
      refine Classical.byContradiction fun hc => ?_
      have := get_none.2 hc
      rw [hg] at this; cases this)
    have hf := hok.get hg
    have hfl := hf.2.2.1
    rw [hn, if_neg (by decide)]
    -- Sync
    obtain ⟨e, a, fl, o, p, hc, hs⟩ := Sync_eq hok ho hg
    rw [counted_calm 2 harm hfall] at hc
    have hc' := Option.some.inj hc
    have e0 : e = 0 := (congrArg (·.1) hc').symm
    have ea : a = 0 := by have := congrArg (fun z : Int × DiskS => z.2.2.2.1) hc'; simp only [harm] at this; exact this.symm
    have ef : fl = 0 := by have := congrArg (fun z : Int × DiskS => z.2.2.2.2.2.1) hc'; simp only [hfall] at this; exact this.symm
    have eo : o = false := by have := congrArg (fun z : Int × DiskS => z.2.2.2.2.2.2.1) hc'; simp only [ho] at this; exact this.symm
    subst e0 ea ef eo
    rw [if_pos rfl] at hs
    have hok2 : FsOk (pset .str a1 (f.1, f.1, []) D.2.1) := hok.set ⟨hf.1, hf.1, hfl, Nat.le_refl _, List.nodup_nil, fun s hs => by cases hs⟩
    have hg2 : pget .str a1 (pset .str a1 (f.1, f.1, []) D.2.1) = some (f.1, f.1, []) := get_pset hg
    generalize hfs2 : pset .str a1 (f.1, f.1, []) D.2.1 = fs2 at hs hok2 hg2
    rw [hs]
    simp only [Option.bind_some]
    obtain ⟨D2, hD2⟩ : ∃ D2 : DiskS, D2 = (D.1, fs2, 0, D.2.2.2.1, 0, false, p) := ⟨_, rfl⟩
    rw [← hD2]
    have hokD2 : FsOk D2.2.1 := by rw [hD2]; exact hok2
    have hoD2 : D2.2.2.2.2.2.1 = false := by rw [hD2]
    have hgD2 : pget .str a1 D2.2.1 = some (f.1, f.1, []) := by rw [hD2]; exact hg2
    -- the size
    obtain ⟨t, ht, htl⟩ : ∃ t : Nat, IntKind.wrap .i64 (Int.tmod (IntKind.wrap .u64 a5) ((f.1.length : Int) + 1)) = (t : Int) ∧ t ≤ f.1.length := by
      have h5 : 0 ≤ IntKind.wrap .u64 a5 := by
        have e : IntKind.wrap .u64 a5 = a5 % 18446744073709551616 := by simp [IntKind.wrap, IntKind.bits, IntKind.signed]
        rw [e]; omega
      have h6 : 0 ≤ Int.tmod (IntKind.wrap .u64 a5) ((f.1.length : Int) + 1) := Int.tmod_nonneg _ h5
      have h7 : Int.tmod (IntKind.wrap .u64 a5) ((f.1.length : Int) + 1) < (f.1.length : Int) + 1 := Int.tmod_lt_of_pos _ (by omega)
      refine ⟨(Int.tmod (IntKind.wrap .u64 a5) ((f.1.length : Int) + 1)).toNat, ?_, by omega⟩
      rw [wrap_i64 (by omega) (by omega)]; omega
    have hw1 : IntKind.wrap .i64 ((f.1.length : Int) + 1) = (f.1.length : Int) + 1 := wrap_i64 (by omega) (by omega)
    have hu1 : IntKind.wrap .u64 ((f.1.length : Int) + 1) = (f.1.length : Int) + 1 := by
      have e : IntKind.wrap .u64 ((f.1.length : Int) + 1) = ((f.1.length : Int) + 1) % 18446744073709551616 := by simp [IntKind.wrap, IntKind.bits, IntKind.signed]
      rw [e]; omega
    have hne : (f.1.length : Int) + 1 ≠ 0 := by omega
    have hall2 : escrowlaw04_all D2 a1 = some f.1 := by rw [all_eq hokD2 hoD2, hgD2]
    have hdy2 : disk_Disk_Dirty D2 a1 = some [] := by rw [Dirty_eq hokD2 hoD2, hgD2]
    have hsz2 : disk_Disk_Size D2 a1 = some ((f.1.length : Int), 0) := by rw [Size_eq hoD2, hgD2]
    simp only [hdy2, hsz2, hall2, Option.bind_some, hw1, hu1, ht, if_pos hne, List.drop_zero, Int.toNat_natCast]
    rw [if_neg (by decide), if_neg (by decide), if_pos (by omega)]
    -- Truncate
    obtain ⟨D3, hD3, hok3, ho3, hg3⟩ : ∃ D3, disk_Disk_Truncate D2 a1 (t : Int) = some (0, D3) ∧ FsOk D3.2.1 ∧ D3.2.2.2.2.2.1 = false ∧ pget .str a1 D3.2.1 = some (f.1.take t, f.1.take t, []) := by
      have hh : disk_Disk_Truncate D2 a1 (t : Int) = some (0, (D2.1, pset .str a1 (f.1.take t, f.1.take t, cutKeys [] t) D2.2.1, D2.2.2.1, D2.2.2.2.1, D2.2.2.2.2.1, D2.2.2.2.2.2.1, D2.2.2.2.2.2.2)) := by
        unfold disk_Disk_Truncate
        rw [found_eq a1 hoD2, hgD2]
        simp only [Option.isSome_some, if_true, Option.bind_some, bnd_eq]
        rw [if_neg (by decide), if_neg (by simp only [Bool.or_eq_true, decide_eq_true_eq]; omega), if_pos (by omega), Int.toNat_natCast, clone_eq (by simp only [List.length_take]; omega)]
        simp only [Option.bind_some]
        have em : min (t : Int) (f.1.length : Int) = (t : Int) := by omega
        rw [if_pos (by omega), em, Int.toNat_natCast]
      refine ⟨_, hh, hokD2.set ⟨fun x hx => hf.1 x (List.mem_of_mem_take hx), fun x hx => hf.1 x (List.mem_of_mem_take hx), by simp only [List.length_take]; omega, Nat.le_refl _, List.nodup_nil, fun s hs => by cases hs⟩, hoD2, get_pset hgD2⟩
    simp only [hD3, Option.bind_some]
    rw [if_neg (by decide)]
    generalize hwant : f.1.take t = want at hg3
    have hwl : want.length = t := by rw [← hwant, List.length_take]; omega
    -- the other steps
    have efu : Int.toNat ((a3.length : Int) - 0) + 1 = a3.length + 1 := by omega
    have tail : ∀ (at0 : List Int) (D4 : DiskS) (k : DiskS → Option Bool), FsOk D4.2.1 → pget .str at0 D4.2.1 = some (want, want, []) → (∀ D5 : DiskS, FsOk D5.2.1 → pget .str at0 D5.2.1 = some (want, want, []) →
        ((∀ q, q < a3.length → a1 ≠ (List.getD a3 q op0).2.2.1 ∧ a1 ≠ (List.getD a3 q op0).2.2.2.1) → pget .str a1 D4.2.1 = none → pget .str a1 D5.2.1 = none) → k D5 = some true) → escrowlaw04_DiskKeeps_l0 a3 (at0, D4) k (a3.length + 1) (0, D4) = some true := fun at0 D4 k hok4 hg4 hk => by
      obtain ⟨D5, hok5, hg5, hgone5, heq⟩ := keeps_l0 ha3 at0 a1 want D4 k a3.length 0 D4 (by omega) hok4 hg4 (fun _ h => h)
      exact heq.trans (hk D5 hok5 hg5 hgone5)
    -- Rename
    rcases Rename_any (D := D3) (a := a1) (b := a2) hok3 (by omega) with ⟨e, he, hr⟩ | ⟨_, g, hgg, hr, hokr⟩
    · rw [hr]
      simp only [Option.bind_some]
      rw [if_neg (by simpa using he), efu]
      refine tail a1 D3 _ hok3 hg3 fun D5 hok5 hg5 _ => ?_
      obtain ⟨D6, hon, hk6, _, ho6, _⟩ := On_kept hok5
      have hg6 := hk6.clean a1 _ hg5 rfl rfl
      have hall6 : escrowlaw04_all D6 a1 = some want := by rw [all_eq hk6.ok ho6, hg6]
      have hdy6 : disk_Disk_Dirty D6 a1 = some [] := by rw [Dirty_eq hk6.ok ho6, hg6]
      obtain ⟨D7, hcr, hk7, _, ho7, _⟩ := Crash_kept hfa hk6.ok
      have hsz7 : disk_Disk_Size D7 a1 = some (0, 9) := by unfold disk_Disk_Size; rw [found_off a1 ho7]; rfl
      obtain ⟨D8, hon8, hk8, _, ho8, _⟩ := On_kept hk7.ok
      have hg8 := hk8.clean a1 _ (hk7.clean a1 _ hg6 rfl rfl) rfl rfl
      have hsz8 : disk_Disk_Size D8 a1 = some ((t : Int), 0) := by rw [Size_eq ho8, hg8]; simp only [hwl]
      have hall8 : escrowlaw04_all D8 a1 = some want := by rw [all_eq hk8.ok ho8, hg8]
      have hkl8 : (D8.2.1.map (·.1)).length ≤ 16 := by rw [List.length_map]; exact hk8.ok.2.2
      have hhas : decide (a1 ∈ D8.2.1.map (·.1)) = true := decide_eq_true (by
        refine Classical.byContradiction fun hc => ?_
        have := get_none.2 hc
        rw [hg8] at this; cases this)
      simp only [hon, Option.bind_some, hall6, hdy6, hcr, hsz7, hon8, hsz8, hall8, List_eq hk8.ok ho8, has_eq (l := D8.2.1.map (·.1)) (n := a1) (by omega), hhas]
      rw [if_neg (by simp), if_neg (by decide), if_pos (by simp), if_pos (by simp), if_pos trivial]
      rw [if_pos (by simp)]
      rfl
    · rw [hg3] at hgg
      obtain rfl := Option.some.inj hgg
      rw [hr]
      simp only [Option.bind_some]
      rw [if_pos (by decide), efu]
      refine tail a2 _ _ hokr (get_pput_self _ _ _) fun D5 hok5 hg5 hgone5 => ?_
      obtain ⟨D6, hon, hk6, _, ho6, _⟩ := On_kept hok5
      have hg6 := hk6.clean a2 _ hg5 rfl rfl
      have hall6 : escrowlaw04_all D6 a2 = some want := by rw [all_eq hk6.ok ho6, hg6]
      have hdy6 : disk_Disk_Dirty D6 a2 = some [] := by rw [Dirty_eq hk6.ok ho6, hg6]
      obtain ⟨D7, hcr, hk7, _, ho7, _⟩ := Crash_kept hfa hk6.ok
      have hsz7 : disk_Disk_Size D7 a2 = some (0, 9) := by unfold disk_Disk_Size; rw [found_off a2 ho7]; rfl
      obtain ⟨D8, hon8, hk8, _, ho8, _⟩ := On_kept hk7.ok
      have hg8 := hk8.clean a2 _ (hk7.clean a2 _ hg6 rfl rfl) rfl rfl
      have hsz8 : disk_Disk_Size D8 a2 = some ((t : Int), 0) := by rw [Size_eq ho8, hg8]; simp only [hwl]
      have hall8 : escrowlaw04_all D8 a2 = some want := by rw [all_eq hk8.ok ho8, hg8]
      have hkl8 : (D8.2.1.map (·.1)).length ≤ 16 := by rw [List.length_map]; exact hk8.ok.2.2
      have hhas : decide (a2 ∈ D8.2.1.map (·.1)) = true := decide_eq_true (by
        refine Classical.byContradiction fun hc => ?_
        have := get_none.2 hc
        rw [hg8] at this; cases this)
      simp only [hon, Option.bind_some, hall6, hdy6, hcr, hsz7, hon8, hsz8, hall8, List_eq hk8.ok ho8, has_eq (l := D8.2.1.map (·.1)) (n := a2) (by omega), hhas]
      rw [if_neg (by simp), if_neg (by decide), if_pos (by simp), if_pos (by simp), if_pos trivial]
      by_cases hta : a2 = a1
      · rw [if_pos (by simpa using hta)]
        rfl
      · rw [if_neg (by simpa using hta)]
        obtain ⟨b, hb, hb2⟩ := wrote_eq (a := a3) (n := a1) ha3.1
        simp only [has_eq (l := D8.2.1.map (·.1)) (n := a1) (by omega), hb, Option.bind_some]
        cases b with
        | true => split <;> rfl
        | false =>
          have h5 : pget .str a1 D5.2.1 = none := hgone5 (hb2 rfl) (by
            show pget .str a1 (pput .str a2 _ (pdel .str a1 D3.2.1)) = none
            rw [get_pput_ne hta]
            exact pget_del_self (kt := .str) _)
          have h8 : pget .str a1 D8.2.1 = none := hk8.gone (hk7.gone (hk6.gone h5))
          rw [if_pos (by simp only [Bool.not_eq_true', decide_eq_false_iff_not]; exact get_none.1 h8)]
end Sx
