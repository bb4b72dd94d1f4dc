/-
  Own work. Chapter 07's plain functions: Save and Load.
-/
import Derived.Test.YthepmmpmfngneaaDiskPure5
namespace Sx
open Go

theorem cfirst_eq : escrowlaw07_first = some true := by decide +kernel
theorem four_eq (a : Int) : ∃ l, check_four a = some l ∧ l.length = 4 ∧ byteOk l := by
  refine ⟨_, rfl, rfl, fun c hc => ?_⟩
  have hw : ∀ n : Int, 0 ≤ IntKind.wrap .u8 n ∧ IntKind.wrap .u8 n < 256 := fun n => by
    have e : IntKind.wrap .u8 n = n % 256 := by simp [IntKind.wrap, IntKind.bits, IntKind.signed]
    rw [e]; omega
  simp only [List.mem_cons, List.not_mem_nil, or_false] at hc
  rcases hc with rfl | rfl | rfl | rfl <;> exact hw _
theorem bytes_eq {p : List Int} (hb : byteOk p) (hl : p.length ≤ 1048568) : ∃ h, check_bytes p = some (h ++ p) ∧ h.length = 8 ∧ byteOk h := by
  obtain ⟨l1, e1, n1, b1⟩ := four_eq (IntKind.wrap .u32 (p.length : Int))
  obtain ⟨l2, e2, n2, b2⟩ := four_eq (u (on (on 0#32 l1) p))
  refine ⟨l1 ++ l2, ?_, by simp [n1, n2], byteOk_app2 b1 b2⟩
  unfold check_bytes
  simp only [e1, Option.bind_some, Sum_eq l1 b1 (by omega), On_eq _ p hb (by omega), e2]
  rw [if_pos (by simp only [most]; omega), if_pos (by simp only [most, List.length_append]; omega)]
/-- a payload's bytes -/
def cb (p : List Int) : List Int := (check_bytes p).getD []
theorem cb_eq {p : List Int} (hb : byteOk p) (hl : p.length ≤ 1048568) : check_bytes p = some (cb p) ∧ (cb p).length = p.length + 8 ∧ byteOk (cb p) ∧ (cb p).drop 8 = p := by
  obtain ⟨h, e, n, b⟩ := bytes_eq hb hl
  have : cb p = h ++ p := by unfold cb; rw [e]; rfl
  rw [this]
  refine ⟨e, by simp [n]; omega, byteOk_app2 b hb, ?_⟩
  rw [← n, List.drop_left]

/-- where a payload stands whole -/
def Stands (fs : List (List Int × FileS)) (a : List Int) (p : List Int) : Prop := pget .str a fs = some (cb p, cb p, [])

theorem Load_none {D : DiskS} {a : List Int} (hok : FsOk D.2.1) (ho : D.2.2.2.2.2.1 = false) (hn : check_isName a = some true) (h : pget .str a D.2.1 = none) : check_Load D a = some ([], 5) := by
  unfold check_Load
  simp only [hn, Option.bind_some, Read_all hok ho, h]
  rfl
theorem Load_some {D : DiskS} {a p : List Int} {f : FileS} (hok : FsOk D.2.1) (ho : D.2.2.2.2.2.1 = false) (hn : check_isName a = some true) (h : pget .str a D.2.1 = some f) (hf : f.1 = cb p) (hb : byteOk p) (hl : p.length ≤ 1048448) : check_Load D a = some (p, 0) := by
  obtain ⟨e, n, _, d⟩ := cb_eq hb (by omega)
  unfold check_Load
  simp only [hn, Option.bind_some, Read_all hok ho, h, bnd_eq, hf]
  have ht : List.drop 8 (List.take (Int.toNat ((cb p).length : Int)) (cb p)) = p := by rw [Int.toNat_natCast, List.take_length, d]
  rw [if_neg (by decide), if_neg (by decide), if_neg (by
    rw [wrap_i64 (by omega) (by omega)]
    simp only [Bool.or_eq_true, decide_eq_true_eq]; omega), if_pos (by omega), ht, e]
  simp only [Option.bind_some]
  rw [if_neg (by simp), if_pos (by omega)]

theorem Save_long {D : DiskS} {a p : List Int} (hn : check_isName a = some true) (hl : 1048448 < p.length) : check_Save D a p = some (3, D) := by
  unfold check_Save
  simp only [hn, Option.bind_some]
  rw [if_neg (by decide), if_pos (by simp only [decide_eq_true_eq]; omega)]

theorem Save_eq {D : DiskS} {a t p : List Int} (hok : FsOk D.2.1) (ho : D.2.2.2.2.2.1 = false) (hop : D.2.2.2.2.2.2 = false) (hn : check_isName a = some true) (ht : t = a ++ [46, 116, 109, 112]) (hal : a.length ≤ 28) (hdt : disk_isName t = some true) (hda : disk_isName a = some true)
    (hb : byteOk p) (hl : p.length ≤ 1048448) (hlen : D.2.1.length ≤ 8) (hcap : 10485760 ≤ D.1) :
    ∃ e D', check_Save D a p = some (e, D') ∧ D'.1 = D.1 ∧ FsOk D'.2.1 ∧ (e = 0 → Stands D'.2.1 a p) ∧ (e ≠ 0 → pget .str a D'.2.1 = pget .str a D.2.1) ∧ (∀ b, a ≠ b → t ≠ b → pget .str b D'.2.1 = pget .str b D.2.1) ∧
      ((e = 9 ∧ D'.2.2.2.2.2.1 = true ∧ D'.2.2.2.2.2.2 = true) ∨ (e ≠ 9 ∧ D'.2.2.2.2.2.1 = false ∧ D'.2.2.2.2.2.2 = false)) ∧ (D.2.2.1 = 0 → D.2.2.2.2.1 = 0 → e = 0) ∧ (e = 0 → pget .str t D'.2.1 = none) ∧ (D.2.2.1 = 0 → D.2.2.2.2.1 = 0 → D'.2.2.1 = 0 ∧ D'.2.2.2.2.1 = 0) := by
  have hta : t ≠ a := fun e => by
    have := congrArg List.length (ht.symm.trans e)
    simp at this
  obtain ⟨ec, nc, bc, dc⟩ := cb_eq hb (by omega : p.length ≤ 1048568)
  -- without the draft
  have hrem : ∃ e1 D1, disk_Disk_Remove D t = some (e1, D1) ∧ (e1 = 0 ∨ e1 = 5) ∧ D1 = (D.1, pdel .str t D.2.1, D.2.2.1, D.2.2.2.1, D.2.2.2.2.1, D.2.2.2.2.2.1, D.2.2.2.2.2.2) := by
    rw [Remove_eq ho]
    cases h : pget .str t D.2.1 with
    | none =>
      refine ⟨5, D, rfl, .inr rfl, ?_⟩
      rw [pdel_none h]
    | some f => exact ⟨0, _, rfl, .inl rfl, rfl⟩
  obtain ⟨e1, D1, h1, he1, hD1⟩ := hrem
  have hok1 : FsOk D1.2.1 := by rw [hD1]; exact hok.del t
  have hl1 : D1.2.1.length ≤ 8 := by rw [hD1]; exact Nat.le_trans (pdel_length _ _) hlen
  have hg1 : pget .str t D1.2.1 = none := by rw [hD1]; exact pget_del_self (kt := .str) _
  have hne1 : ∀ b, t ≠ b → pget .str b D1.2.1 = pget .str b D.2.1 := fun b hb => by rw [hD1]; exact get_pdel_ne hb _
  have hs1 : seenOf D1.2.1 t = [] := by simp [seenOf, hg1]
  have hf1 : safeOf D1.2.1 t = [] := by simp [safeOf, hg1]
  obtain ⟨e2, a2, fl2, o2, p2, fs2, hc2, hw2, hok2, ⟨ds, hgt2⟩, hne2, _⟩ := Write_eq (D := D1) (name := t) (text := cb p) (at0 := 0) hok1 (by rw [hD1]; exact ho) hdt bc (by omega) (by simp) (by omega) (fun _ => by omega) (by rw [hD1] at *; simp only at *; omega)
  have hov : over (seenOf D1.2.1 t) (Int.toNat 0) (cb p) = cb p := by rw [hs1]; simp [over]
  rw [hov, hf1] at hgt2
  obtain ⟨x1, x2, x3, x4, x5, hcx, hx⟩ := counted_eq D1 1
  rw [hcx] at hc2
  simp only [Option.some.injEq, Prod.mk.injEq, true_and] at hc2
  obtain ⟨rfl, rfl, rfl, rfl, rfl⟩ := hc2
  have hsave : check_Save D a p = (disk_Disk_Write D1 t 0 (cb p)).bind fun (r6 : Int × DiskS) => if (r6.1 != 0) = true then (some (r6.1, r6.2)) else ((disk_Disk_Sync r6.2 t).bind fun (r7 : Int × DiskS) => if (r7.1 != 0) = true then ((disk_Disk_Remove r7.2 t).bind fun (r8 : Int × DiskS) => some (r7.1, r8.2)) else ((disk_Disk_Rename r7.2 t a).bind fun (r9 : Int × DiskS) => some (r9.1, r9.2))) := by
    unfold check_Save
    simp only [hn, Option.bind_some]
    rw [if_neg (by decide), if_neg (by simp only [decide_eq_true_eq]; omega), if_pos (by simp only [most, List.length_cons, List.length_nil]; omega)]
    simp only [bnd_eq, ← ht, h1, Option.bind_some, ec]
    rw [if_neg (by rcases he1 with rfl | rfl <;> decide)]
  have hoD1 : D1.2.2.2.2.2.1 = false := by rw [hD1]; exact ho
  have hopD1 : D1.2.2.2.2.2.2 = false := by rw [hD1]; exact hop
  have calm1 : D.2.2.1 = 0 → D.2.2.2.2.1 = 0 → x1 = 0 ∧ x2 = 0 ∧ x3 = 0 := fun ha hf => by
    have h1' : D1.2.2.1 = 0 := by rw [hD1]; exact ha
    have h2' : D1.2.2.2.2.1 = 0 := by rw [hD1]; exact hf
    have := counted_calm (D := D1) 1 h1' h2'
    rw [hcx] at this
    have h3' := Option.some.inj this
    refine ⟨congrArg (·.1) h3', ?_, ?_⟩
    · have := congrArg (fun z : Int × DiskS => z.2.2.2.1) h3'; simpa [h1'] using this
    · have := congrArg (fun z : Int × DiskS => z.2.2.2.2.2.1) h3'; simpa [h2'] using this
  by_cases hz : x1 = 0
  · -- written
    subst hz
    rw [if_pos rfl] at hw2
    have ho2 : x4 = false ∧ x5 = false := by
      rcases hx with ⟨h, _⟩ | ⟨_, h, h'⟩
      · cases h
      · exact ⟨h.trans hoD1, h'.trans hopD1⟩
    obtain ⟨rfl, rfl⟩ := ho2
    obtain ⟨e3, a3, fl3, o3, p3, hc3, hs3⟩ := Sync_eq (D := (D1.1, fs2, x2, D1.2.2.2.1, x3, false, false)) (name := t) hok2 rfl hgt2
    obtain ⟨y1, y2, y3, y4, y5, hcy, hy⟩ := counted_eq (D1.1, fs2, x2, D1.2.2.2.1, x3, false, false) 2
    rw [hcy] at hc3
    simp only [Option.some.injEq, Prod.mk.injEq, true_and] at hc3
    obtain ⟨rfl, rfl, rfl, rfl, rfl⟩ := hc3
    by_cases hz3 : y1 = 0
    · subst hz3
      rw [if_pos rfl] at hs3
      have ho3 : y4 = false ∧ y5 = false := by
        rcases hy with ⟨h, _⟩ | ⟨_, h, h'⟩
        · cases h
        · exact ⟨h, h'⟩
      obtain ⟨rfl, rfl⟩ := ho3
      have hfo : FOk (cb p, cb p, []) := ⟨bc, bc, by show (cb p).length ≤ _; omega, Nat.le_refl _, List.nodup_nil, fun s hs => by cases hs⟩
      have hok3 : FsOk (pset .str t (cb p, cb p, []) fs2) := hok2.set hfo
      have hg3 : pget .str t (pset .str t (cb p, cb p, []) fs2) = some (cb p, cb p, []) := get_pset hgt2
      have hr := Rename_eq (D := (D1.1, pset .str t (cb p, cb p, []) fs2, y2, D1.2.2.2.1, y3, false, false)) (a := t) (b := a) hok3 rfl hg3 hda
      refine ⟨0, (D1.1, pput .str a (cb p, cb p, []) (pdel .str t (pset .str t (cb p, cb p, []) fs2)), y2, D1.2.2.2.1, y3, false, false), ?_, ?_, ?_, fun _ => ?_, fun h => absurd rfl h, fun b hab htb => ?_, ?_, fun _ _ => rfl, fun _ => ?_, fun ha hf => ?_⟩
      · rw [hsave, hw2]
        simp only [Option.bind_some]
        rw [if_neg (by decide), hs3]
        simp only [Option.bind_some]
        rw [if_neg (by decide), hr]
        rfl
      · show D1.1 = D.1
        rw [hD1]
      · refine (hok3.del t).put hfo (fun _ => ?_)
        have := pdel_length_lt hg3
        have := hok3.2.2
        omega
      · exact get_pput_self _ _ _
      · show pget .str b (pput .str a _ (pdel .str t (pset .str t _ fs2))) = _
        rw [get_pput_ne hab, get_pdel_ne htb, pget_pset_ne htb, hne2 b htb, hne1 b htb]
      · exact .inr ⟨by decide, rfl, rfl⟩
      · show pget .str t (pput .str a _ (pdel .str t (pset .str t _ fs2))) = none
        rw [get_pput_ne (fun e => hta e.symm)]
        exact pget_del_self (kt := .str) _
      · obtain ⟨_, rfl, rfl⟩ := calm1 ha hf
        have := counted_calm (D := (D1.1, fs2, 0, D1.2.2.2.1, 0, false, false)) 2 rfl rfl
        rw [hcy] at this
        have h3' := Option.some.inj this
        exact ⟨congrArg (fun z : Int × DiskS => z.2.2.2.1) h3', congrArg (fun z : Int × DiskS => z.2.2.2.2.2.1) h3'⟩
    · rw [if_neg hz3] at hs3
      have h9 : (y1 = 9 ∧ y4 = true ∧ y5 = true) ∨ (y1 ≠ 9 ∧ y4 = false ∧ y5 = false) := by
        rcases hy with h | ⟨h, h', h''⟩
        · exact .inl h
        · exact .inr ⟨by rcases h with h | h <;> rw [h] <;> decide, h', h''⟩
      have hrm : ∃ fs4, (disk_Disk_Remove (D1.1, fs2, y2, D1.2.2.2.1, y3, y4, y5) t).bind (fun (r8 : Int × DiskS) => some (y1, r8.2)) = some (y1, (D1.1, fs4, y2, D1.2.2.2.1, y3, y4, y5)) ∧ FsOk fs4 ∧ ∀ b, t ≠ b → pget .str b fs4 = pget .str b fs2 := by
        rcases h9 with ⟨_, rfl, rfl⟩ | ⟨_, rfl, rfl⟩
        · refine ⟨fs2, ?_, hok2, fun _ _ => rfl⟩
          unfold disk_Disk_Remove disk_Disk_found
          rfl
        · refine ⟨pdel .str t fs2, ?_, hok2.del t, fun b hb => get_pdel_ne hb _⟩
          rw [Remove_eq rfl]
          simp only [hgt2, Option.isSome_some, if_true, Option.bind_some]
      obtain ⟨fs4, hr4, hok4, hne4⟩ := hrm
      refine ⟨y1, (D1.1, fs4, y2, D1.2.2.2.1, y3, y4, y5), ?_, ?_, ?_, fun h => absurd h hz3, fun _ => ?_, fun b hab htb => ?_, ?_, fun ha hf => ?_, fun h => absurd h hz3, fun ha hf => absurd ?_ hz3⟩
      · rw [hsave, hw2]
        simp only [Option.bind_some]
        rw [if_neg (by decide), hs3]
        simp only [Option.bind_some]
        rw [if_pos (by simpa using hz3)]
        exact hr4
      · show D1.1 = D.1
        rw [hD1]
      · exact hok4
      · show pget .str a fs4 = _
        rw [hne4 a hta, hne2 a hta, hne1 a hta]
      · show pget .str b fs4 = _
        rw [hne4 b htb, hne2 b htb, hne1 b htb]
      · exact h9
      · obtain ⟨_, rfl, rfl⟩ := calm1 ha hf
        have := counted_calm (D := (D1.1, fs2, 0, D1.2.2.2.1, 0, false, false)) 2 rfl rfl
        rw [hcy] at this
        exact congrArg (·.1) (Option.some.inj this)
      · obtain ⟨_, rfl, rfl⟩ := calm1 ha hf
        have := counted_calm (D := (D1.1, fs2, 0, D1.2.2.2.1, 0, false, false)) 2 rfl rfl
        rw [hcy] at this
        exact congrArg (·.1) (Option.some.inj this)
  · rw [if_neg hz] at hw2
    have h9 : (x1 = 9 ∧ x4 = true ∧ x5 = true) ∨ (x1 ≠ 9 ∧ x4 = false ∧ x5 = false) := by
      rcases hx with h | ⟨h, h', h''⟩
      · exact .inl h
      · exact .inr ⟨by rcases h with h | h <;> rw [h] <;> decide, h'.trans hoD1, h''.trans hopD1⟩
    refine ⟨x1, (D1.1, D1.2.1, x2, D1.2.2.2.1, x3, x4, x5), ?_, ?_, ?_, fun h => absurd h hz, fun _ => ?_, fun b hab htb => ?_, ?_, fun ha hf => (calm1 ha hf).1, fun h => absurd h hz, fun ha hf => absurd (calm1 ha hf).1 hz⟩
    · rw [hsave, hw2]
      simp only [Option.bind_some]
      rw [if_pos (by simpa using hz)]
    · show D1.1 = D.1
      rw [hD1]
    · exact hok1
    · exact hne1 a hta
    · exact hne1 b htb
    · exact h9
end Sx
