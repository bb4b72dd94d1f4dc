/-
  Own work. The disk's plain functions: Write.
-/
import Derived.Test.YtpkjocjchkibaaaDiskPure2
namespace Sx
open Go

/-- a text laid into another one, which it may make longer -/
def over (seen : List Int) (i : Nat) (text : List Int) : List Int := seen.take i ++ text ++ seen.drop (i + text.length)
theorem over_length {seen text : List Int} {i : Nat} (h : i ≤ seen.length) : (over seen i text).length = max seen.length (i + text.length) := by
  unfold over
  simp only [List.length_append, List.length_take, List.length_drop]
  omega
theorem laid_over {xs ys : List Int} {i : Nat} (h : i + ys.length ≤ xs.length) : laidOver xs i ys = over xs i ys := by
  unfold laidOver over
  rw [List.take_of_length_le (l := ys) (by omega)]
theorem over_zeros {seen text : List Int} {i : Nat} (h : i ≤ seen.length) (h2 : seen.length < i + text.length) (m : Nat) (hm : m = i + text.length - seen.length) : over (seen ++ List.replicate m 0) i text = over seen i text := by
  unfold over
  rw [List.take_append_of_le_length h, List.drop_of_length_le (by simp; omega), List.drop_of_length_le (by omega)]
theorem byteOk_app2 {a b : List Int} (ha : byteOk a) (hb : byteOk b) : byteOk (a ++ b) := fun x hx => (List.mem_append.1 hx).elim (ha x) (hb x)
theorem byteOk_of_subset {a b : List Int} (hs : a ⊆ b) (hb : byteOk b) : byteOk a := fun x hx => hb x (hs hx)
theorem over_bytes {seen text : List Int} {i : Nat} (hs : byteOk seen) (ht : byteOk text) : byteOk (over seen i text) :=
  byteOk_app2 (byteOk_app2 (byteOk_of_subset (List.take_subset _ _) hs) ht) (byteOk_of_subset (List.drop_subset _ _) hs)

def seenOf (fs : List (List Int × FileS)) (name : List Int) : List Int := ((pget .str name fs).map (·.1)).getD []
def safeOf (fs : List (List Int × FileS)) (name : List Int) : List Int := ((pget .str name fs).map (·.2.1)).getD []

theorem Write_core {D : DiskS} {name text : List Int} {at0 : Int} (hok : FsOk D.2.1) (ho : D.2.2.2.2.2.1 = false) (hn : disk_isName name = some true) (ht : byteOk text) (h0 : 0 ≤ at0) (h1 : at0 ≤ (seenOf D.2.1 name).length) (hb : at0 + text.length ≤ 1048576)
    (hroom : pget .str name D.2.1 = none → D.2.1.length < 16) (hcap : ∀ u, disk_Disk_Used D = some u → u + max 0 (at0 + text.length - (seenOf D.2.1 name).length) ≤ D.1) :
    ∃ e a fl o p fs', disk_Disk_counted D 1 = some (e, (D.1, D.2.1, a, D.2.2.2.1, fl, o, p)) ∧ disk_Disk_Write D name at0 text = some (if e = 0 then (0, (D.1, fs', a, D.2.2.2.1, fl, o, p)) else (e, (D.1, D.2.1, a, D.2.2.2.1, fl, o, p))) ∧
      FsOk fs' ∧ (∃ ds, pget .str name fs' = some (over (seenOf D.2.1 name) at0.toNat text, safeOf D.2.1 name, ds)) ∧ (∀ b, name ≠ b → pget .str b fs' = pget .str b D.2.1) ∧ fs'.map (·.1) = (if (pget .str name D.2.1).isSome then D.2.1 else pput .str name ([], [], []) D.2.1).map (·.1) := by
  obtain ⟨e, a, fl, o, p, hc, _⟩ := counted_eq D 1
  obtain ⟨u, hu, hu0, hu1⟩ := Used_eq hok
  have hlen := hok.2.2
  replace hcap := hcap u hu
  -- the file as it is ahead of the writing
  have hbase : ∃ fs1 f1, fs1 = (if (pget .str name D.2.1).isSome then D.2.1 else pput .str name ([], [], []) D.2.1) ∧ pget .str name fs1 = some f1 ∧ f1.1 = seenOf D.2.1 name ∧ f1.2.1 = safeOf D.2.1 name ∧ FsOk fs1 ∧ FOk f1 ∧ ∀ b, name ≠ b → pget .str b fs1 = pget .str b D.2.1 := by
    cases hg : pget .str name D.2.1 with
    | some f => exact ⟨_, f, by simp, hg, by simp [seenOf, hg], by simp [safeOf, hg], hok, hok.get hg, fun _ _ => rfl⟩
    | none =>
      have hf0 : FOk ([], [], []) := ⟨(fun x hx => by cases hx), (fun x hx => by cases hx), by simp, by simp, by simp, (fun x hx => by cases hx)⟩
      exact ⟨_, ([], [], []), by simp, get_pput_self _ _ _, by simp [seenOf, hg], by simp [safeOf, hg], hok.put hf0 hroom, hf0, fun b hb => get_pput_ne hb _ _⟩
  obtain ⟨fs1, f1, hfs1, hg1, hs1, hsf, hok1, hfo, hne1⟩ := hbase
  have hsl : f1.1.length ≤ 1048576 := hfo.2.2.1
  rw [← hs1] at h1 hcap
  -- .. made longer
  have hlong : ∃ fs2 z, (fs2 = if at0 + (text.length : Int) > f1.1.length then pset .str name (f1.1 ++ List.replicate z 0, f1.2.1, f1.2.2) fs1 else fs1) ∧ z = Int.toNat (at0 + text.length - f1.1.length) := ⟨_, _, rfl, rfl⟩
  obtain ⟨fs2, z, hfs2, hz⟩ := hlong
  let f2s : List Int := if at0 + (text.length : Int) > f1.1.length then f1.1 ++ List.replicate z 0 else f1.1
  have hg2 : pget .str name fs2 = some (f2s, f1.2.1, f1.2.2) := by
    rw [hfs2]
    show _ = some ((if _ then _ else _), _, _)
    split
    · exact get_pset hg1
    · exact hg1
  have hne2 : ∀ b, name ≠ b → pget .str b fs2 = pget .str b D.2.1 := fun b hb => by
    rw [hfs2]
    split
    · rw [pget_pset_ne hb, hne1 b hb]
    · exact hne1 b hb
  have hk2 : fs2.map (·.1) = fs1.map (·.1) := by
    rw [hfs2]
    split
    · rw [pset_keys]
    · rfl
  have hf2l : (f2s.length : Int) = max (f1.1.length : Int) (at0 + text.length) := by
    show ((if _ then _ else _ : List Int).length : Int) = _
    split
    · rename_i hgt
      simp only [List.length_append, List.length_replicate, hz]; omega
    · omega
  have hf2b : byteOk f2s := by
    show byteOk (if _ then _ else _)
    split
    · exact byteOk_app2 hfo.1 (fun x hx => by rw [(List.mem_replicate.1 hx).2]; decide)
    · exact hfo.1
  have hov : laidOver f2s (Int.toNat at0) text = over f1.1 (Int.toNat at0) text := by
    rw [laid_over (by omega)]
    show over (if _ then _ else _) _ _ = _
    split
    · rename_i hgt
      exact over_zeros (by omega) (by omega) z (by rw [hz]; omega)
    · rfl
  have hok2 : FsOk fs2 := by
    rw [hfs2]
    split
    · rename_i hgt
      refine hok1.set ⟨byteOk_app2 hfo.1 (fun x hx => by rw [(List.mem_replicate.1 hx).2]; decide), hfo.2.1, ?_, ?_, hfo.2.2.2.2⟩
      · simp only [List.length_append, List.length_replicate, hz]; omega
      · have := hfo.2.2.2.1
        simp only [List.length_append, List.length_replicate]; omega
    · exact hok1
  -- the dirty sectors
  obtain ⟨ds, hds, hdn, hdb⟩ := write_l0 at0 text (fun o30 => some ((0 : Int), (D.1, pset .str name (laidOver f2s (Int.toNat at0) text, f1.2.1, o30) fs2, a, D.2.2.2.1, fl, o, p))) h0 hb (text.length + 2) (at0 / 64) f1.2.2 (by omega) (by omega) (by omega) (by omega) hfo.2.2.2.2.1 hfo.2.2.2.2.2
  refine ⟨e, a, fl, o, p, pset .str name (laidOver f2s (Int.toNat at0) text, f1.2.1, ds) fs2, hc, ?_, ?_, ⟨ds, ?_⟩, fun b hb => by rw [pget_pset_ne hb, hne2 b hb], by rw [pset_keys, hk2, hfs1]⟩
  · have hsz : (0 : Int) ≤ (f1.1.length : Int) := by omega
    have hw1 : IntKind.wrap .i64 (at0 + (text.length : Int)) = at0 + text.length := wrap_i64 (by omega) (by omega)
    have hw2 : IntKind.wrap .i64 (at0 + (text.length : Int) - f1.1.length) = at0 + text.length - f1.1.length := wrap_i64 (by omega) (by omega)
    have hw3 : IntKind.wrap .i64 (u + max 0 (at0 + (text.length : Int) - f1.1.length)) = u + max 0 (at0 + (text.length : Int) - f1.1.length) := wrap_i64 (by omega) (by omega)
    have htd : IntKind.wrap .i64 (Int.tdiv at0 64) = at0 / 64 := by rw [Int.tdiv_eq_ediv_of_nonneg h0]; exact wrap_i64 (by omega) (by omega)
    -- what follows the checks
    have tail : ∀ (n0 : Int), n0 = f1.1.length → ∀ k16fs : List (List Int × FileS), k16fs = fs1 → (fun (o17 : List (List Int × FileS)) => if (decide (at0 + (text.length : Int) > n0)) = true then ((pget .str name o17).bind fun (f41 : FileS) => if 0 ≤ at0 + (text.length : Int) - n0 ∧ (List.length f41.1 + Int.toNat (at0 + (text.length : Int) - n0)) * 1 ≤ 140737488355328 then
        ((pget .str name (pset .str name ((f41.1 ++ List.replicate (Int.toNat (at0 + (text.length : Int) - n0)) 0), f41.2.1, f41.2.2) o17)).bind fun (f22 : FileS) => if (0 : Int) ≤ at0 ∧ at0 ≤ (List.length f22.1 : Int) ∧ (List.length f22.1 : Int) ≤ (List.length f22.1 : Int) then disk_Disk_Write_l0 at0 text (fun o30 => some ((0 : Int), (D.1, (pset .str name ((laidOver f22.1 (Int.toNat at0) text), f22.2.1, o30) (pset .str name ((f41.1 ++ List.replicate (Int.toNat (at0 + (text.length : Int) - n0)) 0), f41.2.1, f41.2.2) o17)), a, D.2.2.2.1, fl, o, p))) (text.length + 2) (at0 / 64, f22.2.2) else none) else none) else
        ((pget .str name o17).bind fun (f22 : FileS) => if (0 : Int) ≤ at0 ∧ at0 ≤ (List.length f22.1 : Int) ∧ (List.length f22.1 : Int) ≤ (List.length f22.1 : Int) then disk_Disk_Write_l0 at0 text (fun o30 => some ((0 : Int), (D.1, (pset .str name ((laidOver f22.1 (Int.toNat at0) text), f22.2.1, o30) o17), a, D.2.2.2.1, fl, o, p))) (text.length + 2) (at0 / 64, f22.2.2) else none)) k16fs = some (0, (D.1, pset .str name (laidOver f2s (Int.toNat at0) text, f1.2.1, ds) fs2, a, D.2.2.2.1, fl, o, p)) := by
      rintro n0 hn0 k16fs rfl
      subst hn0
      rw [← hds]
      show (if _ then _ else _) = _
      by_cases hgt : at0 + (text.length : Int) > f1.1.length
      · have e1 : f2s = f1.1 ++ List.replicate z 0 := if_pos hgt
        have e2 : fs2 = pset .str name (f1.1 ++ List.replicate z 0, f1.2.1, f1.2.2) k16fs := by rw [hfs2, if_pos hgt]
        rw [if_pos (by simpa using hgt), hg1]
        simp only [Option.bind_some]
        rw [if_pos (by omega), ← hz, ← e2, hg2]
        simp only [Option.bind_some]
        rw [if_pos (by omega)]
      · have e1 : f2s = f1.1 := if_neg hgt
        have e2 : fs2 = k16fs := by rw [hfs2, if_neg hgt]
        rw [if_neg (by simpa using hgt)]
        rw [e2] at hg2
        rw [hg2]
        simp only [Option.bind_some]
        rw [if_pos (by omega), e2]
    unfold disk_Disk_Write
    rw [if_neg (by simp [ho])]
    simp only [bnd_eq, hn, hu, hc, Option.bind_some]
    have hne : ∀ n0 : Int, n0 = f1.1.length → (if (decide (at0 < 0) || decide (at0 > n0)) = true then some (1, D)
    else
      if decide (IntKind.i64.wrap (at0 + ↑text.length) > 1048576) = true then some (3, D)
      else
        if decide (IntKind.i64.wrap (u + max 0 (IntKind.i64.wrap (IntKind.i64.wrap (at0 + ↑text.length) - n0))) > D.fst) = true then some (41, D)
        else if (e != 0) = true then some (e, D.fst, D.snd.fst, a, D.snd.snd.snd.fst, fl, o, p) else some (0, (D.1, pset .str name (laidOver f2s (Int.toNat at0) text, f1.2.1, ds) fs2, a, D.2.2.2.1, fl, o, p))) = some (if e = 0 then (0, (D.1, pset .str name (laidOver f2s (Int.toNat at0) text, f1.2.1, ds) fs2, a, D.2.2.2.1, fl, o, p)) else (e, (D.1, D.2.1, a, D.2.2.2.1, fl, o, p))) := by
      rintro n0 rfl
      rw [hw1, hw2, hw3, if_neg (by simp only [Bool.or_eq_true, decide_eq_true_eq]; omega), if_neg (by simp only [decide_eq_true_eq]; omega), if_neg (by simp only [decide_eq_true_eq]; omega)]
      by_cases he : e = 0
      · rw [if_neg (by simp [he]), if_pos he]
      · rw [if_pos (by simpa using he), if_neg he]
    cases hg : pget .str name D.2.1 with
    | none =>
      rw [hg] at hfs1
      simp only [Option.isSome_none, Bool.false_eq_true, if_false] at hfs1
      have hfe : f1 = ([], [], []) := by rw [hfs1, get_pput_self] at hg1; exact (Option.some.inj hg1).symm
      have hl0 : (0 : Int) = (f1.1.length : Int) := by rw [hfe]; rfl
      have hr := hroom hg
      rw [← hne 0 hl0, ← tail 0 hl0 _ hfs1.symm]
      simp only [Option.isSome_none, Bool.false_eq_true, if_false, Bool.not_true, Bool.false_or, Bool.not_false, if_true]
      have hm : D.2.1.length ≤ most := by simp only [most]; omega
      have h16 : ¬ decide ((D.2.1.length : Int) ≥ 16) = true := by simp only [decide_eq_true_eq]; omega
      have h62 : D.2.1.length < 4611686018427387904 := by omega
      simp only [if_pos hm, if_neg h16, if_pos h62, htd, hw1]
      have hw2' : IntKind.wrap .i64 (at0 + (text.length : Int) - 0) = at0 + text.length - 0 := wrap_i64 (by omega) (by omega)
      simp only [hw2']
    | some f =>
      rw [hg] at hfs1
      simp only [Option.isSome_some, if_true] at hfs1
      have hff : f1 = f := by rw [hfs1, hg] at hg1; exact (Option.some.inj hg1).symm
      have hl0 : (f.1.length : Int) = (f1.1.length : Int) := by rw [hff]
      rw [← hne _ hl0, ← tail _ hl0 _ hfs1.symm]
      simp only [Option.isSome_some, if_true, Option.bind_some, Bool.not_true, Bool.false_or, Bool.false_eq_true, if_false]
      have hw2' : IntKind.wrap .i64 (at0 + (text.length : Int) - f.1.length) = at0 + text.length - f.1.length := by rw [hl0]; exact hw2
      simp only [htd, hw1, hw2', hg, Option.bind_some]
  · refine hok2.set ⟨?_, hfo.2.1, ?_, ?_, hdn, hdb⟩
    · show byteOk (laidOver _ _ _)
      rw [hov]; exact over_bytes hfo.1 ht
    · show (laidOver _ _ _).length ≤ _
      rw [hov, over_length (by omega)]; omega
    · show f1.2.1.length ≤ (laidOver _ _ _).length
      have := hfo.2.2.2.1
      rw [hov, over_length (by omega)]; omega
  · rw [get_pset hg2, hov, hs1, hsf]
theorem Write_eq {D : DiskS} {name text : List Int} {at0 : Int} (hok : FsOk D.2.1) (ho : D.2.2.2.2.2.1 = false) (hn : disk_isName name = some true) (ht : byteOk text) (h0 : 0 ≤ at0) (h1 : at0 ≤ (seenOf D.2.1 name).length) (hb : at0 + text.length ≤ 1048576)
    (hroom : pget .str name D.2.1 = none → D.2.1.length < 16) (hcap : (D.2.1.length + 1 : Int) * 1048576 ≤ D.1) :
    ∃ e a fl o p fs', disk_Disk_counted D 1 = some (e, (D.1, D.2.1, a, D.2.2.2.1, fl, o, p)) ∧ disk_Disk_Write D name at0 text = some (if e = 0 then (0, (D.1, fs', a, D.2.2.2.1, fl, o, p)) else (e, (D.1, D.2.1, a, D.2.2.2.1, fl, o, p))) ∧
      FsOk fs' ∧ (∃ ds, pget .str name fs' = some (over (seenOf D.2.1 name) at0.toNat text, safeOf D.2.1 name, ds)) ∧ (∀ b, name ≠ b → pget .str b fs' = pget .str b D.2.1) ∧ fs'.map (·.1) = (if (pget .str name D.2.1).isSome then D.2.1 else pput .str name ([], [], []) D.2.1).map (·.1) :=
  Write_core hok ho hn ht h0 h1 hb hroom fun u hu => by
    obtain ⟨u', hu', hu0, hu1⟩ := Used_eq hok
    rw [hu] at hu'
    cases hu'
    omega
end Sx
