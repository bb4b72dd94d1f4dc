/-
  Own work, printed by a program of the same hand. Each function of the code answers what its plain twin reckons.
-/
import Derived.Test.YtpkjocjchkibaaaWalk1
namespace Sx
open Go Go.Proofs
set_option maxRecDepth 10000

theorem disk_file_fall_ok (p0 : Value) (a0 : FileS) (a1 : List Int) (a2 : List (List Int × Int × Int × List Int × Unit)) (r : FileS) (h : disk_file_fall a0 a1 a2 = some r) : Fn Try.prog 47 [.one (.raw (.pointer none)) p0, .one .str a1, .one (.sl 67 Y67) a2] [Res.file Try.prog dI p0 a0] (fun _ => .tup []) (fun _ => [Res.file Try.prog dI p0 r]) := by
  unfold disk_file_fall at h
  refine enter Try.func47 rfl 142 rfl rfl fun F => ?_
  refine r_unfile fun b4 sv1 tv2 dv3 hp => ?_
  subst hp
  refine r_seq ?_
  refine r_region ?_
  refine r_pure tabOk 3 [0, 1, 2, 18] (E' := [(0, ptr b4 0), (1, .one .str a1), (2, .one (.sl 67 Y67) a2), (18, ptr b4 1)]) rfl ?_
  refine y (y_load 0 ((.snd (.fst .here))) rfl rfl (by first | rfl | (simp only [Pth.off, T.size]; omega)) (ok_snd (ok_fst ok_here)) tx0) rfl ?_
  refine y (y_lenown tabOk 2 rfl rfl rfl) rfl ?_
  refine r_pure tabOk 1 [0, 1, 2, 6] (E' := [(0, ptr b4 0), (1, .one .str a1), (2, .one (.sl 67 Y67) a2), (6, .one (.int .i64) (List.length a0.2.1 : Int))]) rfl ?_
  obtain ⟨size5, hsize5, h⟩ := bnd_ex h
  rw [hsize5]
  refine r_nil ?_
  refine r_then ?_
  refine r_seq ?_
  refine r_region ?_
  refine r_makeMap 3 (.int .i64) Y67 rfl fun v6 => ?_
  refine r_pure tabOk 1 [0, 1, 2, 6, 7] (E' := [(0, ptr b4 0), (1, .one .str a1), (2, .one (.sl 67 Y67) a2), (6, .one (.int .i64) size5), (7, .one (.raw (.map none)) v6)]) rfl ?_
  refine r_nil ?_
  refine r_then ?_
  obtain ⟨k7, hk7, h⟩ := bnd_ex h
  refine r_joink (γ := Unit) (fun (o8 : Int × (List (Int × (List Int × Int × Int × List Int × Unit)))) _ => [(0, ptr b4 0), (6, .one (.int .i64) o8.1), (7, .one (.raw (.map none)) v6)]) (fun (o8 : Int × (List (Int × (List Int × Int × Int × List Int × Unit)))) _ => [Res.dirty Try.prog dI dv3 a0.2.2, Res.map Try.prog 3 (.int .i64) Y67 v6 o8.2, Res.var b4 81 FT (sv1, tv2, dv3, ()), Res.own sv1 5 (.int .u8) a0.1, Res.own tv2 5 (.int .u8) a0.2.1]) k7 r ?_ ?_
  · refine r_seq ?_
    refine r_region ?_
    refine r_pure tabOk 3 [0, 1, 2, 6, 7, 24] (E' := [(0, ptr b4 0), (1, .one .str a1), (2, .one (.sl 67 Y67) a2), (6, .one (.int .i64) size5), (7, .one (.raw (.map none)) v6), (24, ptr b4 2)]) rfl ?_
    refine y (y_load 1 ((.snd (.snd (.fst .here)))) rfl rfl (by first | rfl | (simp only [Pth.off, T.size]; omega)) (ok_snd (ok_snd (ok_fst ok_here))) ty79) rfl ?_
    refine r_perm (L' := [Res.dirty Try.prog dI dv3 a0.2.2, Res.map Try.prog 3 (.int .i64) Y67 v6 [], Res.var b4 81 FT (sv1, tv2, dv3, ()), Res.own sv1 5 (.int .u8) a0.1, Res.own tv2 5 (.int .u8) a0.2.1]) ((List.perm_middle (a := Res.dirty Try.prog dI dv3 a0.2.2) (l₁ := [Res.map Try.prog 3 (.int .i64) Y67 v6 [], Res.var b4 81 FT (sv1, tv2, dv3, ()), Res.own sv1 5 (.int .u8) a0.1, Res.own tv2 5 (.int .u8) a0.2.1]) (l₂ := [])).trans (.cons _ (List.Perm.refl _))) ?_
    refine r_krange (P := Try.prog) (I := dI) kint rfl Try.underlying79 rfl fun it51 hn52 => ?_
    refine r_nil ?_
    refine r_then ?_
    refine r_block ?_
    obtain ⟨rr, hall, h⟩ := bind_ex h
    refine r_less [0, 1, 2, 6, 7, 26] rfl ?_
    refine r_rangeloop (step := disk_file_fall_l1 a0 a1 a2) (fun s l => l.Nodup ∧ ∀ k ∈ l, pget (.int .i64) k s.2 = none) (comm_disk_file_fall_l1 a0 a1 a2) hn52 ⟨hn52, fun _ _ => rfl⟩ hall (γ := Unit) (fun (s55 : Int × (List (Int × (List Int × Int × Int × List Int × Unit)))) _ => [(0, ptr b4 0), (1, .one .str a1), (2, .one (.sl 67 Y67) a2), (6, .one (.int .i64) s55.1), (7, .one (.raw (.map none)) v6), (26, .one (.raw (.pointer none)) it51)]) (fun todo57 (s55 : Int × (List (Int × (List Int × Int × Int × List Int × Unit)))) _ => [Res.kiter Try.prog dI dv3 it51 a0.2.2 todo57 none, Res.map Try.prog 3 (.int .i64) Y67 v6 s55.2, Res.var b4 81 FT (sv1, tv2, dv3, ()), Res.own sv1 5 (.int .u8) a0.1, Res.own tv2 5 (.int .u8) a0.2.1]) () rfl rfl fun todo57 s55 gg hend hone => ?_
    refine r_seq ?_
    refine r_region ?_
    refine r_knext (P := Try.prog) (I := dI) kint rfl rfl (fun ht => ?_) (fun A58 k59 B60 c62 htk59 hk => ?_)
    · obtain rfl := hend ht
      refine r_kunrange ?_
      refine r_pure tabOk 1 [0, 1, 2, 6, 7, 28] (E' := [(0, ptr b4 0), (1, .one .str a1), (2, .one (.sl 67 Y67) a2), (6, .one (.int .i64) s55.1), (7, .one (.raw (.map none)) v6), (28, .one .bool false)]) rfl ?_
      refine r_nil ?_
      refine r_then ?_
      refine r_seq ?_
      refine r_if (b := false) rfl (fun hc => ?_) (fun hc => ?_)
      · cases hc
      · refine r_exit ?_
        refine e_then ?_
        refine e_then ?_
        refine e_eq ?_
        refine r_then ?_
        refine r_less [0, 6, 7] rfl ?_
        exact r_meetk (s55.1, s55.2) () h rfl rfl
    · obtain ⟨sk59, hsk59⟩ := hone A58 k59 B60 htk59
      clear h
      have h := hsk59
      unfold disk_file_fall_l1 at h
      refine r_pure tabOk 1 [0, 1, 2, 6, 7, 26, 28] (E' := [(0, ptr b4 0), (1, .one .str a1), (2, .one (.sl 67 Y67) a2), (6, .one (.int .i64) s55.1), (7, .one (.raw (.map none)) v6), (26, .one (.raw (.pointer none)) it51), (28, .one .bool true)]) rfl ?_
      refine r_nil ?_
      refine r_then ?_
      refine r_seq ?_
      refine r_if (b := true) rfl (fun hc => ?_) (fun hc => ?_)
      · refine r_skip ?_
        refine r_then ?_
        refine r_block ?_
        refine r_seq ?_
        refine r_region ?_
        refine y_kentry (P := Try.prog) (I := dI) rfl 0 rfl rfl fun c63 => ?_
        refine r_pure tabOk 2 [0, 1, 2, 6, 7, 8, 26] (E' := [(0, ptr b4 0), (1, .one .str a1), (2, .one (.sl 67 Y67) a2), (6, .one (.int .i64) s55.1), (7, .one (.raw (.map none)) v6), (8, .one (.int .i64) k59), (26, .one (.raw (.pointer none)) it51)]) rfl ?_
        refine r_nil ?_
        refine r_then ?_
        refine r_seq ?_
        refine r_region ?_
        refine r_pure tabOk 3 [0, 1, 2, 6, 7, 8, 26, 31, 32, 33] (E' := [(0, ptr b4 0), (1, .one .str a1), (2, .one (.sl 67 Y67) a2), (6, .one (.int .i64) s55.1), (7, .one (.raw (.map none)) v6), (8, .one (.int .i64) k59), (26, .one (.raw (.pointer none)) it51), (31, .one (.sl 67 Y67) a2), (32, .one .str a1), (33, .one (.int .i64) k59)]) rfl ?_
        obtain ⟨r64, hr64, h⟩ := bind_ex h
        refine r_calls (disk_fateOf_ok a2 a1 k59 _ hr64) (by kernel_rfl) rfl rfl ?_
        refine r_alloc (t := Y67) rfl zf67 rfl fun b65 => ?_
        refine r_store 0 .here rfl rfl rfl (by first | rfl | (simp only [Pth.off, T.size]; omega)) ok_here ty67 ?_
        refine r_nil ?_
        refine r_then ?_
        refine r_seq ?_
        refine r_region ?_
        refine r_pure tabOk 2 [0, 1, 2, 6, 7, 8, 9, 26, 35, 36] (E' := [(0, ptr b4 0), (1, .one .str a1), (2, .one (.sl 67 Y67) a2), (6, .one (.int .i64) s55.1), (7, .one (.raw (.map none)) v6), (8, .one (.int .i64) k59), (9, ptr b65 0), (26, .one (.raw (.pointer none)) it51), (35, .one (.raw (.map none)) v6), (36, .one (.int .i64) k59)]) rfl ?_
        refine y (y_load 0 .here rfl rfl (by first | rfl | (simp only [Pth.off, T.size]; omega)) ok_here ty67) rfl ?_
        obtain ⟨hc, h⟩ := ite_ex h
        refine r_mapUpdate 2 rfl rfl rfl rfl ktc3 Try.underlying96 hc ?_
        refine r_nil ?_
        refine r_then ?_
        refine r_seq ?_
        refine r_region ?_
        refine r_pure tabOk 1 [0, 1, 2, 6, 7, 8, 9, 26, 38] (E' := [(0, ptr b4 0), (1, .one .str a1), (2, .one (.sl 67 Y67) a2), (6, .one (.int .i64) s55.1), (7, .one (.raw (.map none)) v6), (8, .one (.int .i64) k59), (9, ptr b65 0), (26, .one (.raw (.pointer none)) it51), (38, ptr b65 2)]) rfl ?_
        refine y (y_load 0 ((.snd (.snd (.fst .here)))) rfl rfl (by first | rfl | (simp only [Pth.off, T.size]; omega)) (ok_snd (ok_snd (ok_fst ok_here))) ty3) rfl ?_
        refine r_pure tabOk 2 [0, 1, 2, 6, 7, 8, 9, 26, 41] (E' := [(0, ptr b4 0), (1, .one .str a1), (2, .one (.sl 67 Y67) a2), (6, .one (.int .i64) s55.1), (7, .one (.raw (.map none)) v6), (8, .one (.int .i64) k59), (9, ptr b65 0), (26, .one (.raw (.pointer none)) it51), (41, .one .bool (r64.2.2.1 == 1))]) rfl ?_
        obtain ⟨b66, hbb66, h⟩ := bnd_ex h
        rw [hbb66]
        refine r_lsplit (γ := Unit) 4 (fun _ => [(0, ptr b4 0), (1, .one .str a1), (2, .one (.sl 67 Y67) a2), (6, .one (.int .i64) s55.1), (7, .one (.raw (.map none)) v6), (8, .one (.int .i64) k59), (26, .one (.raw (.pointer none)) it51), (45, .one .bool (b66 || (r64.2.2.1 == 2)))]) (fun _ => [Res.var b65 67 Y67 r64, Res.kiter Try.prog dI dv3 it51 a0.2.2 (A58 ++ B60) (some k59), Res.map Try.prog 3 (.int .i64) Y67 v6 (pput (.int .i64) k59 r64 s55.2), Res.var b4 81 FT (sv1, tv2, dv3, ()), Res.own sv1 5 (.int .u8) a0.1, Res.own tv2 5 (.int .u8) a0.2.1]) ?_ (fun _ => ?_)
        · clear h
          cases b66 with
          | true =>
          refine r_pure tabOk 4 [0, 1, 2, 6, 7, 8, 26, 45] (E' := [(0, ptr b4 0), (1, .one .str a1), (2, .one (.sl 67 Y67) a2), (6, .one (.int .i64) s55.1), (7, .one (.raw (.map none)) v6), (8, .one (.int .i64) k59), (26, .one (.raw (.pointer none)) it51), (45, .one .bool true)]) rfl ?_
          refine r_nil ?_
          refine r_then ?_
          exact r_meetg () rfl rfl
          | false =>
          refine r_pure tabOk 1 [0, 1, 2, 6, 7, 8, 26, 41, 42] (E' := [(0, ptr b4 0), (1, .one .str a1), (2, .one (.sl 67 Y67) a2), (6, .one (.int .i64) s55.1), (7, .one (.raw (.map none)) v6), (8, .one (.int .i64) k59), (26, .one (.raw (.pointer none)) it51), (41, .one .bool false), (42, ptr b65 2)]) rfl ?_
          refine r_guard (by rfl) rfl ?_
          refine y (y_load 0 ((.snd (.snd (.fst .here)))) rfl rfl (by first | rfl | (simp only [Pth.off, T.size]; omega)) (ok_snd (ok_snd (ok_fst ok_here))) ty3) rfl ?_
          refine r_pure tabOk 2 [0, 1, 2, 6, 7, 8, 26, 45] (E' := [(0, ptr b4 0), (1, .one .str a1), (2, .one (.sl 67 Y67) a2), (6, .one (.int .i64) s55.1), (7, .one (.raw (.map none)) v6), (8, .one (.int .i64) k59), (26, .one (.raw (.pointer none)) it51), (45, .one .bool (r64.2.2.1 == 2))]) rfl ?_
          refine r_nil ?_
          refine r_then ?_
          exact r_meetg () rfl rfl
        refine r_nil ?_
        refine r_then ?_
        refine r_if (b := (b66 || (r64.2.2.1 == 2))) rfl (fun hc => ?_) (fun hc => ?_)
        · rw [if_pos hc] at h
          refine r_region ?_
          refine r_pure tabOk 7 [0, 1, 2, 7, 26, 46, 49, 52] (E' := [(0, ptr b4 0), (1, .one .str a1), (2, .one (.sl 67 Y67) a2), (7, .one (.raw (.map none)) v6), (26, .one (.raw (.pointer none)) it51), (46, .one (.int .i64) s55.1), (49, .one (.int .i64) (IntKind.wrap .i64 ((IntKind.wrap .i64 (k59 + 1)) * 64))), (52, ptr b4 0)]) rfl ?_
          refine y (y_load 3 ((.fst .here)) rfl rfl (by first | rfl | (simp only [Pth.off, T.size]; omega)) (ok_fst ok_here) tx0) rfl ?_
          refine y (y_lenown tabOk 4 rfl rfl rfl) rfl ?_
          refine y (y_min rfl rfl) rfl ?_
          refine y (y_max rfl rfl) rfl ?_
          refine r_pure tabOk 1 [0, 1, 2, 6, 7, 26] (E' := [(0, ptr b4 0), (1, .one .str a1), (2, .one (.sl 67 Y67) a2), (6, .one (.int .i64) (max s55.1 (min (IntKind.wrap .i64 ((IntKind.wrap .i64 (k59 + 1)) * 64)) (List.length a0.1 : Int)))), (7, .one (.raw (.map none)) v6), (26, .one (.raw (.pointer none)) it51)]) rfl ?_
          obtain ⟨size67, hsize67, h⟩ := bnd_ex h
          rw [hsize67]
          refine r_nil ?_
          refine r_inblock ?_
          refine r_then ?_
          refine r_lose (L' := [Res.kiter Try.prog dI dv3 it51 a0.2.2 (A58 ++ B60) (some k59), Res.map Try.prog 3 (.int .i64) Y67 v6 (pput (.int .i64) k59 r64 s55.2), Res.var b4 81 FT (sv1, tv2, dv3, ()), Res.own sv1 5 (.int .u8) a0.1, Res.own tv2 5 (.int .u8) a0.2.1]) (.cons _ (.cons_cons _ (.cons_cons _ (.cons_cons _ (.cons_cons _ (.cons_cons _ .slnil)))))) ?_
          refine r_imp_at (R' := Res.kiter Try.prog dI dv3 it51 a0.2.2 (A58 ++ B60) none) 0 rfl kiter_none ?_
          refine r_less [0, 1, 2, 6, 7, 26] rfl ?_
          obtain rfl := Option.some.inj h
          exact r_backR () htk59 hsk59 rfl rfl
        · rw [if_neg (ne_true_of_eq_false hc)] at h
          refine r_skip ?_
          refine r_inblock ?_
          refine r_then ?_
          refine r_lose (L' := [Res.kiter Try.prog dI dv3 it51 a0.2.2 (A58 ++ B60) (some k59), Res.map Try.prog 3 (.int .i64) Y67 v6 (pput (.int .i64) k59 r64 s55.2), Res.var b4 81 FT (sv1, tv2, dv3, ()), Res.own sv1 5 (.int .u8) a0.1, Res.own tv2 5 (.int .u8) a0.2.1]) (.cons _ (.cons_cons _ (.cons_cons _ (.cons_cons _ (.cons_cons _ (.cons_cons _ .slnil)))))) ?_
          refine r_imp_at (R' := Res.kiter Try.prog dI dv3 it51 a0.2.2 (A58 ++ B60) none) 0 rfl kiter_none ?_
          refine r_less [0, 1, 2, 6, 7, 26] rfl ?_
          obtain rfl := Option.some.inj h
          exact r_backR () htk59 hsk59 rfl rfl
      · cases hc
  · intro o8 gg h
    rw [← hk7] at h
    try dsimp only at h
    refine r_seq ?_
    refine r_region ?_
    refine r_pure tabOk 3 [0, 6, 7, 59] (E' := [(0, ptr b4 0), (6, .one (.int .i64) o8.1), (7, .one (.raw (.map none)) v6), (59, ptr b4 0)]) rfl ?_
    refine y (y_load 2 ((.fst .here)) rfl rfl (by first | rfl | (simp only [Pth.off, T.size]; omega)) (ok_fst ok_here) tx0) rfl ?_
    refine r_pure tabOk 1 [0, 7, 60, 61] (E' := [(0, ptr b4 0), (7, .one (.raw (.map none)) v6), (60, .one (.raw (.slice none 0 0)) sv1), (61, .one (.int .i64) o8.1)]) rfl ?_
    obtain ⟨hs9, h⟩ := ite_ex h
    refine y (y_osub tabOk (i := (0 : Int)) (j := o8.1) rfl (sub_own 3 rfl) rfl rfl hs9.1 hs9.2.1 hs9.2.2 rfl ty5) rfl ?_
    obtain ⟨r10, hr10, h⟩ := bind_ex h
    refine r_callwo (slices_Clone__byte_byte_ok (List.take (Int.toNat o8.1) a0.1) _ hr10) (by kernel_rfl) (fun _ => rfl) (fun _ r hr => by rcases List.mem_singleton.1 hr with rfl; exact Res.free_own rfl) (.sub rfl (sub_sub (sub_own 3 rfl) hs9.1 hs9.2.1 hs9.2.2) .nil) rfl fun v11 => ?_
    refine r_pure tabOk 1 [0, 7, 10] (E' := [(0, ptr b4 0), (7, .one (.raw (.map none)) v6), (10, .one (.raw (.slice none 0 0)) v11)]) rfl ?_
    refine r_nil ?_
    refine r_then ?_
    obtain ⟨k12, hk12, h⟩ := bnd_ex h
    refine r_joink (γ := Value × Value) (fun (o13 : List (Int)) g16 => [(0, ptr b4 0), (10, .one (.raw (.slice none 0 0)) g16.1)]) (fun (o13 : List (Int)) g16 => [Res.own g16.1 5 (.int .u8) o13, Res.dirty Try.prog dI dv3 a0.2.2, Res.map Try.prog 3 (.int .i64) Y67 v6 o8.2, Res.var b4 81 FT (sv1, g16.2, dv3, ()), Res.own sv1 5 (.int .u8) a0.1, Res.own g16.2 5 (.int .u8) a0.2.1]) k12 r ?_ ?_
    · refine r_seq ?_
      refine r_region ?_
      refine r_pure tabOk 1 [0, 7, 10, 64] (E' := [(0, ptr b4 0), (7, .one (.raw (.map none)) v6), (10, .one (.raw (.slice none 0 0)) v11), (64, .one (.raw (.slice none 0 0)) v11)]) rfl ?_
      refine y (y_lenown tabOk 0 rfl rfl rfl) rfl ?_
      refine r_pure tabOk 1 [0, 7, 10, 65, 66] (E' := [(0, ptr b4 0), (7, .one (.raw (.map none)) v6), (10, .one (.raw (.slice none 0 0)) v11), (65, .one (.int .i64) (List.length r10 : Int)), (66, .one (.int .i64) 0)]) rfl ?_
      refine r_nil ?_
      refine r_then ?_
      refine r_block ?_
      refine r_less [0, 7, 10, 65, 66] rfl ?_
      refine r_loopg (γ := Value × Value) (fun (s25 : Int × List (Int)) g28 => [(0, ptr b4 0), (7, .one (.raw (.map none)) v6), (10, .one (.raw (.slice none 0 0)) g28.1), (65, .one (.int .i64) (List.length r10 : Int)), (66, .one (.int .i64) s25.1)]) (fun (s25 : Int × List (Int)) g28 => [Res.own g28.1 5 (.int .u8) s25.2, Res.dirty Try.prog dI dv3 a0.2.2, Res.map Try.prog 3 (.int .i64) Y67 v6 o8.2, Res.var b4 81 FT (sv1, g28.2, dv3, ()), Res.own sv1 5 (.int .u8) a0.1, Res.own g28.2 5 (.int .u8) a0.2.1]) (disk_file_fall_l0 a0 o8 r10 k12) (0, r10) (v11, tv2) h rfl rfl ?_
      clear h
      intro m29 s25 g28 h
      cases m29 with
      | zero => cases h
      | succ m29 =>
      simp only [disk_file_fall_l0] at h
      refine r_seq ?_
      refine r_region ?_
      refine r_pure tabOk 1 [0, 7, 10, 65, 66, 67] (E' := [(0, ptr b4 0), (7, .one (.raw (.map none)) v6), (10, .one (.raw (.slice none 0 0)) g28.1), (65, .one (.int .i64) (List.length r10 : Int)), (66, .one (.int .i64) s25.1), (67, .one .bool (decide (s25.1 < (List.length r10 : Int))))]) rfl ?_
      refine r_nil ?_
      refine r_then ?_
      refine r_seq ?_
      refine r_if (b := (decide (s25.1 < (List.length r10 : Int)))) rfl (fun hc => ?_) (fun hc => ?_)
      · rw [if_pos hc] at h
        refine r_skip ?_
        refine r_then ?_
        obtain ⟨k30, hk30, h⟩ := bnd_ex h
        refine r_joink (γ := Value × Value) (fun (o31 : List (Int)) g34 => [(0, ptr b4 0), (7, .one (.raw (.map none)) v6), (10, .one (.raw (.slice none 0 0)) g34.1), (65, .one (.int .i64) (List.length r10 : Int)), (66, .one (.int .i64) s25.1)]) (fun (o31 : List (Int)) g34 => [Res.own g34.1 5 (.int .u8) o31, Res.dirty Try.prog dI dv3 a0.2.2, Res.map Try.prog 3 (.int .i64) Y67 v6 o8.2, Res.var b4 81 FT (sv1, g34.2, dv3, ()), Res.own sv1 5 (.int .u8) a0.1, Res.own g34.2 5 (.int .u8) a0.2.1]) k30 r ?_ ?_
        · refine r_block ?_
          refine r_seq ?_
          refine r_region ?_
          refine r_pure tabOk 2 [0, 7, 10, 11, 65, 66] (E' := [(0, ptr b4 0), (7, .one (.raw (.map none)) v6), (10, .one (.raw (.slice none 0 0)) g28.1), (11, .one (.int .i64) s25.1), (65, .one (.int .i64) (List.length r10 : Int)), (66, .one (.int .i64) s25.1)]) rfl ?_
          refine r_nil ?_
          refine r_then ?_
          refine r_seq ?_
          refine r_region ?_
          refine r_pure tabOk 3 [0, 7, 10, 11, 12, 65, 66] (E' := [(0, ptr b4 0), (7, .one (.raw (.map none)) v6), (10, .one (.raw (.slice none 0 0)) g28.1), (11, .one (.int .i64) s25.1), (12, .one (.int .i64) (IntKind.wrap .i64 (Int.tdiv s25.1 64))), (65, .one (.int .i64) (List.length r10 : Int)), (66, .one (.int .i64) s25.1)]) rfl ?_
          obtain ⟨s35, hs35, h⟩ := bnd_ex h
          rw [hs35]
          refine r_nil ?_
          refine r_then ?_
          refine r_seq ?_
          refine r_region ?_
          refine r_pure tabOk 2 [0, 7, 10, 11, 12, 65, 66, 72, 73] (E' := [(0, ptr b4 0), (7, .one (.raw (.map none)) v6), (10, .one (.raw (.slice none 0 0)) g28.1), (11, .one (.int .i64) s25.1), (12, .one (.int .i64) s35), (65, .one (.int .i64) (List.length r10 : Int)), (66, .one (.int .i64) s25.1), (72, .one (.raw (.map none)) v6), (73, .one (.int .i64) s35)]) rfl ?_
          refine y (y_lookok 2 rfl rfl rfl ktc3 Try.underlying96 zf67 rfl) rfl ?_
          refine r_pure tabOk 3 [0, 7, 10, 11, 12, 65, 66, 75, 76] (E' := [(0, ptr b4 0), (7, .one (.raw (.map none)) v6), (10, .one (.raw (.slice none 0 0)) g28.1), (11, .one (.int .i64) s25.1), (12, .one (.int .i64) s35), (65, .one (.int .i64) (List.length r10 : Int)), (66, .one (.int .i64) s25.1), (75, .one Y67 (Option.getD (pget (.int .i64) s35 o8.2) ([], 0, 0, [], ()))), (76, .one .bool (Option.isSome (pget (.int .i64) s35 o8.2)))]) rfl ?_
          refine r_alloc (t := Y67) rfl zf67 rfl fun b36 => ?_
          refine r_store 0 .here rfl rfl rfl (by first | rfl | (simp only [Pth.off, T.size]; omega)) ok_here ty67 ?_
          refine r_pure tabOk 1 [0, 7, 10, 11, 12, 13, 14, 65, 66] (E' := [(0, ptr b4 0), (7, .one (.raw (.map none)) v6), (10, .one (.raw (.slice none 0 0)) g28.1), (11, .one (.int .i64) s25.1), (12, .one (.int .i64) s35), (13, ptr b36 0), (14, .one .bool (Option.isSome (pget (.int .i64) s35 o8.2))), (65, .one (.int .i64) (List.length r10 : Int)), (66, .one (.int .i64) s25.1)]) rfl ?_
          obtain ⟨dirty37, hdirty37, h⟩ := bnd_ex h
          rw [hdirty37]
          refine r_nil ?_
          refine r_then ?_
          refine r_block ?_
          refine r_seq ?_
          refine r_region ?_
          refine r_pure tabOk 3 [0, 7, 10, 11, 12, 13, 65, 66, 100] (E' := [(0, ptr b4 0), (7, .one (.raw (.map none)) v6), (10, .one (.raw (.slice none 0 0)) g28.1), (11, .one (.int .i64) s25.1), (12, .one (.int .i64) s35), (13, ptr b36 0), (65, .one (.int .i64) (List.length r10 : Int)), (66, .one (.int .i64) s25.1), (100, .one .bool (!dirty37))]) rfl ?_
          obtain ⟨b38, hbb38, h⟩ := bnd_ex h
          rw [hbb38]
          refine r_lsplit (γ := Unit) 4 (fun _ => [(0, ptr b4 0), (7, .one (.raw (.map none)) v6), (10, .one (.raw (.slice none 0 0)) g28.1), (11, .one (.int .i64) s25.1), (12, .one (.int .i64) s35), (13, ptr b36 0), (65, .one (.int .i64) (List.length r10 : Int)), (66, .one (.int .i64) s25.1), (104, .one .bool (b38 || (((Option.getD (pget (.int .i64) s35 o8.2) ([], 0, 0, [], ())).2.2.1) == 1)))]) (fun _ => [Res.var b36 67 Y67 (Option.getD (pget (.int .i64) s35 o8.2) ([], 0, 0, [], ())), Res.own g28.1 5 (.int .u8) s25.2, Res.dirty Try.prog dI dv3 a0.2.2, Res.map Try.prog 3 (.int .i64) Y67 v6 o8.2, Res.var b4 81 FT (sv1, g28.2, dv3, ()), Res.own sv1 5 (.int .u8) a0.1, Res.own g28.2 5 (.int .u8) a0.2.1]) ?_ (fun _ => ?_)
          · clear h
            cases b38 with
            | true =>
            refine r_pure tabOk 4 [0, 7, 10, 11, 12, 13, 65, 66, 104] (E' := [(0, ptr b4 0), (7, .one (.raw (.map none)) v6), (10, .one (.raw (.slice none 0 0)) g28.1), (11, .one (.int .i64) s25.1), (12, .one (.int .i64) s35), (13, ptr b36 0), (65, .one (.int .i64) (List.length r10 : Int)), (66, .one (.int .i64) s25.1), (104, .one .bool true)]) rfl ?_
            refine r_nil ?_
            refine r_then ?_
            exact r_meetg () rfl rfl
            | false =>
            refine r_pure tabOk 1 [0, 7, 10, 11, 12, 13, 65, 66, 100, 101] (E' := [(0, ptr b4 0), (7, .one (.raw (.map none)) v6), (10, .one (.raw (.slice none 0 0)) g28.1), (11, .one (.int .i64) s25.1), (12, .one (.int .i64) s35), (13, ptr b36 0), (65, .one (.int .i64) (List.length r10 : Int)), (66, .one (.int .i64) s25.1), (100, .one .bool false), (101, ptr b36 2)]) rfl ?_
            refine r_guard (by rfl) rfl ?_
            refine y (y_load 0 ((.snd (.snd (.fst .here)))) rfl rfl (by first | rfl | (simp only [Pth.off, T.size]; omega)) (ok_snd (ok_snd (ok_fst ok_here))) ty3) rfl ?_
            refine r_pure tabOk 2 [0, 7, 10, 11, 12, 13, 65, 66, 104] (E' := [(0, ptr b4 0), (7, .one (.raw (.map none)) v6), (10, .one (.raw (.slice none 0 0)) g28.1), (11, .one (.int .i64) s25.1), (12, .one (.int .i64) s35), (13, ptr b36 0), (65, .one (.int .i64) (List.length r10 : Int)), (66, .one (.int .i64) s25.1), (104, .one .bool (((Option.getD (pget (.int .i64) s35 o8.2) ([], 0, 0, [], ())).2.2.1) == 1))]) rfl ?_
            refine r_nil ?_
            refine r_then ?_
            exact r_meetg () rfl rfl
          refine r_pure tabOk 1 [0, 7, 10, 11, 12, 13, 65, 66, 97] (E' := [(0, ptr b4 0), (7, .one (.raw (.map none)) v6), (10, .one (.raw (.slice none 0 0)) g28.1), (11, .one (.int .i64) s25.1), (12, .one (.int .i64) s35), (13, ptr b36 0), (65, .one (.int .i64) (List.length r10 : Int)), (66, .one (.int .i64) s25.1), (97, .one .bool (b38 || (((Option.getD (pget (.int .i64) s35 o8.2) ([], 0, 0, [], ())).2.2.1) == 1)))]) rfl ?_
          refine r_nil ?_
          refine r_then ?_
          refine r_if (b := (b38 || (((Option.getD (pget (.int .i64) s35 o8.2) ([], 0, 0, [], ())).2.2.1) == 1))) rfl (fun hc => ?_) (fun hc => ?_)
          · rw [if_pos hc] at h
            refine r_skip ?_
            refine r_inblock ?_
            refine r_inblock ?_
            refine r_then ?_
            refine r_lose (L' := [Res.own g28.1 5 (.int .u8) s25.2, Res.dirty Try.prog dI dv3 a0.2.2, Res.map Try.prog 3 (.int .i64) Y67 v6 o8.2, Res.var b4 81 FT (sv1, g28.2, dv3, ()), Res.own sv1 5 (.int .u8) a0.1, Res.own g28.2 5 (.int .u8) a0.2.1]) (.cons _ (.cons_cons _ (.cons_cons _ (.cons_cons _ (.cons_cons _ (.cons_cons _ (.cons_cons _ .slnil))))))) ?_
            refine r_less [0, 7, 10, 65, 66] rfl ?_
            exact r_meetk s25.2 (g28.1, g28.2) h rfl rfl
          · rw [if_neg (ne_true_of_eq_false hc)] at h
            refine r_seq ?_
            refine r_region ?_
            refine r_pure tabOk 1 [0, 7, 10, 11, 12, 13, 65, 66, 106] (E' := [(0, ptr b4 0), (7, .one (.raw (.map none)) v6), (10, .one (.raw (.slice none 0 0)) g28.1), (11, .one (.int .i64) s25.1), (12, .one (.int .i64) s35), (13, ptr b36 0), (65, .one (.int .i64) (List.length r10 : Int)), (66, .one (.int .i64) s25.1), (106, ptr b36 2)]) rfl ?_
            refine y (y_load 0 ((.snd (.snd (.fst .here)))) rfl rfl (by first | rfl | (simp only [Pth.off, T.size]; omega)) (ok_snd (ok_snd (ok_fst ok_here))) ty3) rfl ?_
            refine r_pure tabOk 2 [0, 7, 10, 11, 12, 13, 65, 66, 105] (E' := [(0, ptr b4 0), (7, .one (.raw (.map none)) v6), (10, .one (.raw (.slice none 0 0)) g28.1), (11, .one (.int .i64) s25.1), (12, .one (.int .i64) s35), (13, ptr b36 0), (65, .one (.int .i64) (List.length r10 : Int)), (66, .one (.int .i64) s25.1), (105, .one .bool (((Option.getD (pget (.int .i64) s35 o8.2) ([], 0, 0, [], ())).2.2.1) == 2))]) rfl ?_
            refine r_nil ?_
            refine r_then ?_
            refine r_if (b := (((Option.getD (pget (.int .i64) s35 o8.2) ([], 0, 0, [], ())).2.2.1) == 2)) rfl (fun hc => ?_) (fun hc => ?_)
            · rw [if_pos hc] at h
              refine r_seq ?_
              refine r_region ?_
              refine r_pure tabOk 2 [0, 7, 10, 11, 12, 13, 65, 66, 109, 110] (E' := [(0, ptr b4 0), (7, .one (.raw (.map none)) v6), (10, .one (.raw (.slice none 0 0)) g28.1), (11, .one (.int .i64) s25.1), (12, .one (.int .i64) s35), (13, ptr b36 0), (65, .one (.int .i64) (List.length r10 : Int)), (66, .one (.int .i64) s25.1), (109, .one (.raw (.slice none 0 0)) g28.1), (110, .one (.int .i64) s25.1)]) rfl ?_
              obtain ⟨hc, h⟩ := ite_ex h
              refine r_expose 1 rfl (by first | omega | (simp only [List.length_set] at hc ⊢; omega)) fun b39 c40 hv => ?_
              rw [hv]
              try clear hv
              refine y (y_iraw tabOk rfl rfl hc.1 (by first | exact hc.2 | simpa using hc.2) rfl ty5) rfl ?_
              refine r_sown 1 (Int.toNat s25.1) .here rfl rfl rfl (by first | omega | (simp only [List.length_set] at hc ⊢; omega)) (by first | rfl | (simp only [Pth.off, T.size]; omega)) ok_here ty5 ?_
              refine r_nil ?_
              refine r_then ?_
              refine r_seq ?_
              refine r_region ?_
              refine r_pure tabOk 5 [0, 7, 10, 11, 13, 15, 65, 66] (E' := [(0, ptr b4 0), (7, .one (.raw (.map none)) v6), (10, .one (.raw (.slice none 0 0)) (.slice (some ⟨b39, 0, none⟩) (List.length s25.2) c40)), (11, .one (.int .i64) s25.1), (13, ptr b36 0), (15, .one (.int .i64) (IntKind.wrap .i64 (s25.1 - (IntKind.wrap .i64 (s35 * 64))))), (65, .one (.int .i64) (List.length r10 : Int)), (66, .one (.int .i64) s25.1)]) rfl ?_
              obtain ⟨i41, hi41, h⟩ := bnd_ex h
              rw [hi41]
              refine r_nil ?_
              refine r_then ?_
              refine r_seq ?_
              refine r_region ?_
              refine r_pure tabOk 2 [0, 7, 10, 11, 13, 15, 65, 66, 116, 117] (E' := [(0, ptr b4 0), (7, .one (.raw (.map none)) v6), (10, .one (.raw (.slice none 0 0)) (.slice (some ⟨b39, 0, none⟩) (List.length s25.2) c40)), (11, .one (.int .i64) s25.1), (13, ptr b36 0), (15, .one (.int .i64) i41), (65, .one (.int .i64) (List.length r10 : Int)), (66, .one (.int .i64) s25.1), (116, .one (.int .i64) i41), (117, ptr b36 3)]) rfl ?_
              refine y (y_load 0 ((.snd (.snd (.snd (.fst .here))))) rfl rfl (by first | rfl | (simp only [Pth.off, T.size]; omega)) (ok_snd (ok_snd (ok_snd (ok_fst ok_here)))) ty9) rfl ?_
              refine r_pure tabOk 2 [0, 7, 10, 11, 13, 15, 65, 66, 120] (E' := [(0, ptr b4 0), (7, .one (.raw (.map none)) v6), (10, .one (.raw (.slice none 0 0)) (.slice (some ⟨b39, 0, none⟩) (List.length s25.2) c40)), (11, .one (.int .i64) s25.1), (13, ptr b36 0), (15, .one (.int .i64) i41), (65, .one (.int .i64) (List.length r10 : Int)), (66, .one (.int .i64) s25.1), (120, .one .bool (decide (i41 < (List.length ((Option.getD (pget (.int .i64) s35 o8.2) ([], 0, 0, [], ())).2.2.2.1) : Int))))]) rfl ?_
              obtain ⟨t42, ht42, h⟩ := bnd_ex h
              rw [ht42]
              refine r_nil ?_
              refine r_then ?_
              refine r_if (b := t42) rfl (fun hc => ?_) (fun hc => ?_)
              · rw [if_pos hc] at h
                refine r_region ?_
                refine r_pure tabOk 3 [0, 7, 10, 15, 65, 66, 121, 122, 123] (E' := [(0, ptr b4 0), (7, .one (.raw (.map none)) v6), (10, .one (.raw (.slice none 0 0)) (.slice (some ⟨b39, 0, none⟩) (List.length s25.2) c40)), (15, .one (.int .i64) i41), (65, .one (.int .i64) (List.length r10 : Int)), (66, .one (.int .i64) s25.1), (121, .one (.raw (.slice none 0 0)) (.slice (some ⟨b39, 0, none⟩) (List.length s25.2) c40)), (122, .one (.int .i64) s25.1), (123, ptr b36 3)]) rfl ?_
                refine y (y_load 0 ((.snd (.snd (.snd (.fst .here))))) rfl rfl (by first | rfl | (simp only [Pth.off, T.size]; omega)) (ok_snd (ok_snd (ok_snd (ok_fst ok_here)))) ty9) rfl ?_
                refine r_pure tabOk 1 [0, 7, 10, 65, 66, 121, 122, 124, 125] (E' := [(0, ptr b4 0), (7, .one (.raw (.map none)) v6), (10, .one (.raw (.slice none 0 0)) (.slice (some ⟨b39, 0, none⟩) (List.length s25.2) c40)), (65, .one (.int .i64) (List.length r10 : Int)), (66, .one (.int .i64) s25.1), (121, .one (.raw (.slice none 0 0)) (.slice (some ⟨b39, 0, none⟩) (List.length s25.2) c40)), (122, .one (.int .i64) s25.1), (124, .one .str ((Option.getD (pget (.int .i64) s35 o8.2) ([], 0, 0, [], ())).2.2.2.1)), (125, .one (.int .i64) i41)]) rfl ?_
                obtain ⟨hc, h⟩ := ite_ex h
                refine y (y_byte tabOk rfl rfl hc.1 hc.2 rfl) rfl ?_
                obtain ⟨hc, h⟩ := ite_ex h
                refine y (y_iraw tabOk rfl rfl hc.1 (by first | exact hc.2 | simpa using hc.2) rfl ty5) rfl ?_
                refine r_sown 1 (Int.toNat s25.1) .here rfl rfl rfl (by first | omega | (simp only [List.length_set] at hc ⊢; omega)) (by first | rfl | (simp only [Pth.off, T.size]; omega)) ok_here ty5 ?_
                refine r_nil ?_
                refine r_inblock ?_
                refine r_inblock ?_
                refine r_then ?_
                refine r_lose (L' := [Res.own (.slice (some ⟨b39, 0, none⟩) (List.length s25.2) c40) 5 (.int .u8) (List.set (List.set s25.2 (Int.toNat s25.1) 0) (Int.toNat s25.1) (List.getD ((Option.getD (pget (.int .i64) s35 o8.2) ([], 0, 0, [], ())).2.2.2.1) (Int.toNat i41) 0)), Res.dirty Try.prog dI dv3 a0.2.2, Res.map Try.prog 3 (.int .i64) Y67 v6 o8.2, Res.var b4 81 FT (sv1, g28.2, dv3, ()), Res.own sv1 5 (.int .u8) a0.1, Res.own g28.2 5 (.int .u8) a0.2.1]) (.cons _ (.cons_cons _ (.cons_cons _ (.cons_cons _ (.cons_cons _ (.cons_cons _ (.cons_cons _ .slnil))))))) ?_
                refine r_less [0, 7, 10, 65, 66] rfl ?_
                exact r_meetk (List.set (List.set s25.2 (Int.toNat s25.1) 0) (Int.toNat s25.1) (List.getD ((Option.getD (pget (.int .i64) s35 o8.2) ([], 0, 0, [], ())).2.2.2.1) (Int.toNat i41) 0)) ((.slice (some ⟨b39, 0, none⟩) (List.length s25.2) c40), g28.2) h rfl rfl
              · rw [if_neg (ne_true_of_eq_false hc)] at h
                refine r_skip ?_
                refine r_inblock ?_
                refine r_inblock ?_
                refine r_then ?_
                refine r_lose (L' := [Res.own (.slice (some ⟨b39, 0, none⟩) (List.length s25.2) c40) 5 (.int .u8) (List.set s25.2 (Int.toNat s25.1) 0), Res.dirty Try.prog dI dv3 a0.2.2, Res.map Try.prog 3 (.int .i64) Y67 v6 o8.2, Res.var b4 81 FT (sv1, g28.2, dv3, ()), Res.own sv1 5 (.int .u8) a0.1, Res.own g28.2 5 (.int .u8) a0.2.1]) (.cons _ (.cons_cons _ (.cons_cons _ (.cons_cons _ (.cons_cons _ (.cons_cons _ (.cons_cons _ .slnil))))))) ?_
                refine r_less [0, 7, 10, 65, 66] rfl ?_
                exact r_meetk (List.set s25.2 (Int.toNat s25.1) 0) ((.slice (some ⟨b39, 0, none⟩) (List.length s25.2) c40), g28.2) h rfl rfl
            · rw [if_neg (ne_true_of_eq_false hc)] at h
              refine r_seq ?_
              refine r_region ?_
              refine r_pure tabOk 2 [0, 7, 10, 11, 65, 66, 77, 78] (E' := [(0, ptr b4 0), (7, .one (.raw (.map none)) v6), (10, .one (.raw (.slice none 0 0)) g28.1), (11, .one (.int .i64) s25.1), (65, .one (.int .i64) (List.length r10 : Int)), (66, .one (.int .i64) s25.1), (77, .one (.raw (.slice none 0 0)) g28.1), (78, .one (.int .i64) s25.1)]) rfl ?_
              obtain ⟨hc, h⟩ := ite_ex h
              refine r_expose 1 rfl (by first | omega | (simp only [List.length_set] at hc ⊢; omega)) fun b45 c46 hv => ?_
              rw [hv]
              try clear hv
              refine y (y_iraw tabOk rfl rfl hc.1 (by first | exact hc.2 | simpa using hc.2) rfl ty5) rfl ?_
              refine r_sown 1 (Int.toNat s25.1) .here rfl rfl rfl (by first | omega | (simp only [List.length_set] at hc ⊢; omega)) (by first | rfl | (simp only [Pth.off, T.size]; omega)) ok_here ty5 ?_
              refine r_nil ?_
              refine r_then ?_
              refine r_seq ?_
              refine r_region ?_
              refine r_pure tabOk 4 [0, 7, 10, 11, 65, 66, 80, 83] (E' := [(0, ptr b4 0), (7, .one (.raw (.map none)) v6), (10, .one (.raw (.slice none 0 0)) (.slice (some ⟨b45, 0, none⟩) (List.length s25.2) c46)), (11, .one (.int .i64) s25.1), (65, .one (.int .i64) (List.length r10 : Int)), (66, .one (.int .i64) s25.1), (80, .one (.int .i64) s25.1), (83, ptr b4 1)]) rfl ?_
              refine y (y_load 4 ((.snd (.fst .here))) rfl rfl (by first | rfl | (simp only [Pth.off, T.size]; omega)) (ok_snd (ok_fst ok_here)) tx0) rfl ?_
              refine y (y_lenown tabOk 6 rfl rfl rfl) rfl ?_
              refine r_pure tabOk 1 [0, 7, 10, 11, 65, 66, 86] (E' := [(0, ptr b4 0), (7, .one (.raw (.map none)) v6), (10, .one (.raw (.slice none 0 0)) (.slice (some ⟨b45, 0, none⟩) (List.length s25.2) c46)), (11, .one (.int .i64) s25.1), (65, .one (.int .i64) (List.length r10 : Int)), (66, .one (.int .i64) s25.1), (86, .one .bool (decide (s25.1 < (List.length a0.2.1 : Int))))]) rfl ?_
              refine r_nil ?_
              refine r_then ?_
              refine r_if (b := (decide (s25.1 < (List.length a0.2.1 : Int)))) rfl (fun hc => ?_) (fun hc => ?_)
              · rw [if_pos hc] at h
                refine r_region ?_
                refine r_pure tabOk 5 [0, 7, 10, 11, 65, 66, 87, 88, 91] (E' := [(0, ptr b4 0), (7, .one (.raw (.map none)) v6), (10, .one (.raw (.slice none 0 0)) (.slice (some ⟨b45, 0, none⟩) (List.length s25.2) c46)), (11, .one (.int .i64) s25.1), (65, .one (.int .i64) (List.length r10 : Int)), (66, .one (.int .i64) s25.1), (87, .one (.raw (.slice none 0 0)) (.slice (some ⟨b45, 0, none⟩) (List.length s25.2) c46)), (88, .one (.int .i64) s25.1), (91, ptr b4 1)]) rfl ?_
                refine y (y_load 4 ((.snd (.fst .here))) rfl rfl (by first | rfl | (simp only [Pth.off, T.size]; omega)) (ok_snd (ok_fst ok_here)) tx0) rfl ?_
                refine r_pure tabOk 1 [0, 7, 10, 65, 66, 87, 88, 92, 93] (E' := [(0, ptr b4 0), (7, .one (.raw (.map none)) v6), (10, .one (.raw (.slice none 0 0)) (.slice (some ⟨b45, 0, none⟩) (List.length s25.2) c46)), (65, .one (.int .i64) (List.length r10 : Int)), (66, .one (.int .i64) s25.1), (87, .one (.raw (.slice none 0 0)) (.slice (some ⟨b45, 0, none⟩) (List.length s25.2) c46)), (88, .one (.int .i64) s25.1), (92, .one (.raw (.slice none 0 0)) g28.2), (93, .one (.int .i64) s25.1)]) rfl ?_
                obtain ⟨hc, h⟩ := ite_ex h
                refine r_expose 6 rfl (by first | omega | (simp only [List.length_set] at hc ⊢; omega)) fun b47 c48 hv => ?_
                rw [hv]
                try clear hv
                refine y (y_iraw tabOk rfl rfl hc.1 (by first | exact hc.2 | simpa using hc.2) rfl ty5) rfl ?_
                refine y (y_lown 6 (Int.toNat s25.1) .here rfl rfl (by first | omega | (simp only [List.length_set] at hc ⊢; omega)) (by first | rfl | (simp only [Pth.off, T.size]; omega)) ok_here ty5) rfl ?_
                obtain ⟨hc, h⟩ := ite_ex h
                refine y (y_iraw tabOk rfl rfl hc.1 (by first | exact hc.2 | simpa using hc.2) rfl ty5) rfl ?_
                refine r_sown 1 (Int.toNat s25.1) .here rfl rfl rfl (by first | omega | (simp only [List.length_set] at hc ⊢; omega)) (by first | rfl | (simp only [Pth.off, T.size]; omega)) ok_here ty5 ?_
                refine r_nil ?_
                refine r_inblock ?_
                refine r_inblock ?_
                refine r_then ?_
                refine r_lose (L' := [Res.own (.slice (some ⟨b45, 0, none⟩) (List.length s25.2) c46) 5 (.int .u8) (List.set (List.set s25.2 (Int.toNat s25.1) 0) (Int.toNat s25.1) (List.getD a0.2.1 (Int.toNat s25.1) 0)), Res.dirty Try.prog dI dv3 a0.2.2, Res.map Try.prog 3 (.int .i64) Y67 v6 o8.2, Res.var b4 81 FT (sv1, (.slice (some ⟨b47, 0, none⟩) (List.length a0.2.1) c48), dv3, ()), Res.own sv1 5 (.int .u8) a0.1, Res.own (.slice (some ⟨b47, 0, none⟩) (List.length a0.2.1) c48) 5 (.int .u8) a0.2.1]) (.cons _ (.cons_cons _ (.cons_cons _ (.cons_cons _ (.cons_cons _ (.cons_cons _ (.cons_cons _ .slnil))))))) ?_
                refine r_less [0, 7, 10, 65, 66] rfl ?_
                exact r_meetk (List.set (List.set s25.2 (Int.toNat s25.1) 0) (Int.toNat s25.1) (List.getD a0.2.1 (Int.toNat s25.1) 0)) ((.slice (some ⟨b45, 0, none⟩) (List.length s25.2) c46), (.slice (some ⟨b47, 0, none⟩) (List.length a0.2.1) c48)) h rfl rfl
              · rw [if_neg (ne_true_of_eq_false hc)] at h
                refine r_skip ?_
                refine r_inblock ?_
                refine r_inblock ?_
                refine r_then ?_
                refine r_lose (L' := [Res.own (.slice (some ⟨b45, 0, none⟩) (List.length s25.2) c46) 5 (.int .u8) (List.set s25.2 (Int.toNat s25.1) 0), Res.dirty Try.prog dI dv3 a0.2.2, Res.map Try.prog 3 (.int .i64) Y67 v6 o8.2, Res.var b4 81 FT (sv1, g28.2, dv3, ()), Res.own sv1 5 (.int .u8) a0.1, Res.own g28.2 5 (.int .u8) a0.2.1]) (.cons _ (.cons_cons _ (.cons_cons _ (.cons_cons _ (.cons_cons _ (.cons_cons _ (.cons_cons _ .slnil))))))) ?_
                refine r_less [0, 7, 10, 65, 66] rfl ?_
                exact r_meetk (List.set s25.2 (Int.toNat s25.1) 0) ((.slice (some ⟨b45, 0, none⟩) (List.length s25.2) c46), g28.2) h rfl rfl
        · intro o31 g34 h
          rw [← hk30] at h
          try dsimp only at h
          refine r_region ?_
          refine r_pure tabOk 2 [0, 7, 10, 65, 66] (E' := [(0, ptr b4 0), (7, .one (.raw (.map none)) v6), (10, .one (.raw (.slice none 0 0)) g34.1), (65, .one (.int .i64) (List.length r10 : Int)), (66, .one (.int .i64) (IntKind.wrap .i64 (s25.1 + 1)))]) rfl ?_
          refine r_nil ?_
          refine r_then ?_
          refine r_less [0, 7, 10, 65, 66] rfl ?_
          exact r_backg ((IntKind.wrap .i64 (s25.1 + 1)), o31) (g34.1, g34.2) (Nat.lt_succ_self _) h rfl rfl
      · rw [if_neg (ne_true_of_eq_false hc)] at h
        refine r_exit ?_
        refine e_then ?_
        refine e_then ?_
        refine e_eq ?_
        refine r_then ?_
        refine r_less [0, 10] rfl ?_
        exact r_meetk s25.2 (g28.1, g28.2) h rfl rfl
    · intro o13 g16 h
      rw [← hk12] at h
      try dsimp only at h
      refine r_seq ?_
      refine r_region ?_
      refine r_pure tabOk 4 [0, 129, 130, 131, 132] (E' := [(0, ptr b4 0), (129, ptr b4 0), (130, ptr b4 0), (131, .one (.raw (.slice none 0 0)) g16.1), (132, .one (.raw (.slice none 0 0)) g16.1)]) rfl ?_
      obtain ⟨r17, hr17, h⟩ := bind_ex h
      refine r_callwo (slices_Clone__byte_byte_ok o13 _ hr17) (by kernel_rfl) (fun _ => rfl) (fun _ r hr => by rcases List.mem_singleton.1 hr with rfl; exact Res.free_own rfl) (.sub rfl (sub_own 0 rfl) .nil) rfl fun v18 => ?_
      refine r_pure tabOk 2 [0, 130, 131, 133, 135] (E' := [(0, ptr b4 0), (130, ptr b4 0), (131, .one (.raw (.slice none 0 0)) g16.1), (133, .one (.raw (.slice none 0 0)) v18), (135, ptr b4 0)]) rfl ?_
      refine r_store 4 ((.fst .here)) rfl rfl rfl (by first | rfl | (simp only [Pth.off, T.size]; omega)) (ok_fst ok_here) tx0 ?_
      refine r_lose (L' := [Res.own v18 5 (.int .u8) r17, Res.own g16.1 5 (.int .u8) o13, Res.dirty Try.prog dI dv3 a0.2.2, Res.map Try.prog 3 (.int .i64) Y67 v6 o8.2, Res.var b4 81 FT (g16.1, g16.2, dv3, ()), Res.own g16.2 5 (.int .u8) a0.2.1]) (.cons_cons _ (.cons_cons _ (.cons_cons _ (.cons_cons _ (.cons_cons _ (.cons _ (.cons_cons _ .slnil))))))) ?_
      refine r_pure tabOk 2 [0, 133, 137] (E' := [(0, ptr b4 0), (133, .one (.raw (.slice none 0 0)) v18), (137, ptr b4 1)]) rfl ?_
      refine r_store 4 ((.snd (.fst .here))) rfl rfl rfl (by first | rfl | (simp only [Pth.off, T.size]; omega)) (ok_snd (ok_fst ok_here)) tx0 ?_
      refine r_lose (L' := [Res.own v18 5 (.int .u8) r17, Res.own g16.1 5 (.int .u8) o13, Res.dirty Try.prog dI dv3 a0.2.2, Res.map Try.prog 3 (.int .i64) Y67 v6 o8.2, Res.var b4 81 FT (g16.1, v18, dv3, ())]) (.cons_cons _ (.cons_cons _ (.cons_cons _ (.cons_cons _ (.cons_cons _ (.cons _ .slnil)))))) ?_
      refine r_nil ?_
      refine r_then ?_
      refine r_region ?_
      refine r_pure tabOk 3 [140] (E' := [(140, ptr b4 2)]) rfl ?_
      refine y (y_load 4 ((.snd (.snd (.fst .here)))) rfl rfl (by first | rfl | (simp only [Pth.off, T.size]; omega)) (ok_snd (ok_snd (ok_fst ok_here))) ty79) rfl ?_
      refine r_undirty 2 rfl fun l19 hl19 => ?_
      refine r_clear 2 rfl rfl Try.underlying79 ?_
      refine r_redirty (P := Try.prog) (I := dI) (keys := []) 2 rfl rfl ?_
      refine r_nil ?_
      refine r_perm (L' := [Res.var b4 81 FT (g16.1, v18, dv3, ()), Res.own g16.1 5 (.int .u8) o13, Res.own v18 5 (.int .u8) r17, Res.dirty Try.prog dI dv3 [], Res.map Try.prog 3 (.int .i64) Y67 v6 o8.2]) ((List.perm_middle (a := Res.var b4 81 FT (g16.1, v18, dv3, ())) (l₁ := [Res.own v18 5 (.int .u8) r17, Res.own g16.1 5 (.int .u8) o13, Res.dirty Try.prog dI dv3 [], Res.map Try.prog 3 (.int .i64) Y67 v6 o8.2]) (l₂ := [])).trans (.cons _ ((List.perm_middle (a := Res.own g16.1 5 (.int .u8) o13) (l₁ := [Res.own v18 5 (.int .u8) r17]) (l₂ := [Res.dirty Try.prog dI dv3 [], Res.map Try.prog 3 (.int .i64) Y67 v6 o8.2])).trans (.cons _ (List.Perm.refl _))))) ?_
      refine r_file (P := Try.prog) (I := dI) ?_
      obtain rfl := Option.some.inj h
      exact r_end0 rfl (fun _ => tup_ok [] .nil) ((.cons_cons _ (.cons _ .slnil)))

theorem disk_Disk_Crash_ok (p0 : Value) (a0 : DiskS) (a1 : List (List Int × Int × Int × List Int × Unit)) (r : DiskS) (h : disk_Disk_Crash a0 a1 = some r) : Fn Try.prog 20 [.one (.raw (.pointer none)) p0, .one (.sl 67 Y67) a1] [Res.disk Try.prog dI p0 a0] (fun _ => .tup []) (fun _ => [Res.disk Try.prog dI p0 r]) := by
  unfold disk_Disk_Crash at h
  refine enter Try.func20 rfl 43 rfl rfl fun F => ?_
  refine r_undisk fun b2 mv1 hp => ?_
  subst hp
  refine r_seq ?_
  refine r_seq ?_
  refine r_region ?_
  refine r_pure tabOk 3 [0, 1, 8] (E' := [(0, ptr b2 0), (1, .one (.sl 67 Y67) a1), (8, ptr b2 5)]) rfl ?_
  refine y (y_load 0 ((.snd (.snd (.snd (.snd (.snd (.fst .here))))))) rfl rfl (by first | rfl | (simp only [Pth.off, T.size]; omega)) (ok_snd (ok_snd (ok_snd (ok_snd (ok_snd (ok_fst ok_here)))))) ty4) rfl ?_
  refine r_pure tabOk 1 [0, 1, 10] (E' := [(0, ptr b2 0), (1, .one (.sl 67 Y67) a1), (10, .one .bool a0.2.2.2.2.2.1)]) rfl ?_
  refine r_lsplit (γ := Unit) 6 (fun _ => [(0, ptr b2 0), (1, .one (.sl 67 Y67) a1), (16, .one .bool (a0.2.2.2.2.2.1 && (!a0.2.2.2.2.2.2)))]) (fun _ => [Res.var b2 71 DT (a0.1, mv1, a0.2.2.1, a0.2.2.2.1, a0.2.2.2.2.1, a0.2.2.2.2.2.1, a0.2.2.2.2.2.2, ()), Res.dfiles Try.prog dI mv1 a0.2.1]) ?_ (fun _ => ?_)
  · clear h
    rcases Bool.eq_false_or_eq_true a0.2.2.2.2.2.1 with hh | hh
    · rw [hh]
      refine r_pure tabOk 3 [0, 1, 10, 13] (E' := [(0, ptr b2 0), (1, .one (.sl 67 Y67) a1), (10, .one .bool true), (13, ptr b2 6)]) rfl ?_
      refine r_guard (by rfl) rfl ?_
      refine y (y_load 0 ((.snd (.snd (.snd (.snd (.snd (.snd (.fst .here)))))))) rfl rfl (by first | rfl | (simp only [Pth.off, T.size]; omega)) (ok_snd (ok_snd (ok_snd (ok_snd (ok_snd (ok_snd (ok_fst ok_here))))))) ty4) rfl ?_
      refine r_pure tabOk 2 [0, 1, 16] (E' := [(0, ptr b2 0), (1, .one (.sl 67 Y67) a1), (16, .one .bool (!a0.2.2.2.2.2.2))]) rfl ?_
      refine r_nil ?_
      refine r_then ?_
      exact r_meetg () rfl rfl
    · rw [hh]
      refine r_pure tabOk 6 [0, 1, 16] (E' := [(0, ptr b2 0), (1, .one (.sl 67 Y67) a1), (16, .one .bool false)]) rfl ?_
      refine r_nil ?_
      refine r_then ?_
      exact r_meetg () rfl rfl
  refine r_nil ?_
  refine r_then ?_
  refine r_if (b := (a0.2.2.2.2.2.1 && (!a0.2.2.2.2.2.2))) rfl (fun hc => ?_) (fun hc => ?_)
  · rw [if_pos hc] at h
    refine r_ret ?_
    refine t_then ?_
    refine r_disk (P := Try.prog) (I := dI) (D := a0) ?_
    obtain rfl := Option.some.inj h
    exact r_ret0 rfl (fun _ => tup_ok [] .nil) ((.cons_cons _ .slnil))
  · rw [if_neg (ne_true_of_eq_false hc)] at h
    refine r_skip ?_
    refine r_then ?_
    obtain ⟨k4, hk4, h⟩ := bnd_ex h
    refine r_joink (γ := Unit) (fun (o5 : (List (List Int × FileS))) _ => [(0, ptr b2 0)]) (fun (o5 : (List (List Int × FileS))) _ => [Res.dfiles Try.prog dI mv1 o5, Res.var b2 71 DT (a0.1, mv1, a0.2.2.1, a0.2.2.2.1, a0.2.2.2.2.1, a0.2.2.2.2.2.1, a0.2.2.2.2.2.2, ())]) k4 r ?_ ?_
    · refine r_seq ?_
      refine r_region ?_
      refine r_pure tabOk 3 [0, 1, 19] (E' := [(0, ptr b2 0), (1, .one (.sl 67 Y67) a1), (19, ptr b2 1)]) rfl ?_
      refine y (y_load 0 ((.snd (.fst .here))) rfl rfl (by first | rfl | (simp only [Pth.off, T.size]; omega)) (ok_snd (ok_fst ok_here)) ty69) rfl ?_
      refine r_perm (L' := [Res.dfiles Try.prog dI mv1 a0.2.1, Res.var b2 71 DT (a0.1, mv1, a0.2.2.1, a0.2.2.2.1, a0.2.2.2.2.1, a0.2.2.2.2.2.1, a0.2.2.2.2.2.2, ())]) ((List.perm_middle (a := Res.dfiles Try.prog dI mv1 a0.2.1) (l₁ := [Res.var b2 71 DT (a0.1, mv1, a0.2.2.1, a0.2.2.2.1, a0.2.2.2.2.1, a0.2.2.2.2.2.1, a0.2.2.2.2.2.2, ())]) (l₂ := [])).trans (.cons _ (List.Perm.refl _))) ?_
      refine r_drange kstr rfl Try.underlying69 rfl fun it6 hn7 => ?_
      refine r_nil ?_
      refine r_then ?_
      refine r_block ?_
      obtain ⟨rr, hall, h⟩ := bind_ex h
      refine r_less [0, 1, 21] rfl ?_
      refine r_rangeloop (step := disk_Disk_Crash_l0 a1) (fun _ _ => True) (comm_disk_Disk_Crash_l0 a1) hn7 trivial hall (γ := Unit) (fun (s10 : (List (List Int × FileS))) _ => [(0, ptr b2 0), (1, .one (.sl 67 Y67) a1), (21, .one (.raw (.pointer none)) it6)]) (fun todo12 (s10 : (List (List Int × FileS))) _ => [Res.diter Try.prog dI mv1 it6 s10 todo12 none none, Res.var b2 71 DT (a0.1, mv1, a0.2.2.1, a0.2.2.2.1, a0.2.2.2.2.1, a0.2.2.2.2.2.1, a0.2.2.2.2.2.2, ())]) () rfl rfl fun todo12 s10 gg hend hone => ?_
      refine r_seq ?_
      refine r_region ?_
      refine r_dnext kstr rfl rfl (fun ht => ?_) (fun A13 k14 B15 q16 htk14 hk => ?_)
      · obtain rfl := hend ht
        refine r_dunrange ?_
        refine r_pure tabOk 1 [0, 1, 23] (E' := [(0, ptr b2 0), (1, .one (.sl 67 Y67) a1), (23, .one .bool false)]) rfl ?_
        refine r_nil ?_
        refine r_then ?_
        refine r_seq ?_
        refine r_if (b := false) rfl (fun hc => ?_) (fun hc => ?_)
        · cases hc
        · refine r_exit ?_
          refine e_then ?_
          refine e_then ?_
          refine e_eq ?_
          refine r_then ?_
          refine r_less [0] rfl ?_
          exact r_meetk s10 () h rfl rfl
      · obtain ⟨sk14, hsk14⟩ := hone A13 k14 B15 htk14
        clear h
        have h := hsk14
        unfold disk_Disk_Crash_l0 at h
        refine r_pure tabOk 1 [0, 1, 21, 23] (E' := [(0, ptr b2 0), (1, .one (.sl 67 Y67) a1), (21, .one (.raw (.pointer none)) it6), (23, .one .bool true)]) rfl ?_
        refine r_nil ?_
        refine r_then ?_
        refine r_seq ?_
        refine r_if (b := true) rfl (fun hc => ?_) (fun hc => ?_)
        · refine r_skip ?_
          refine r_then ?_
          refine r_block ?_
          refine r_seq ?_
          refine r_region ?_
          refine y (y_dentry rfl 0 rfl) rfl ?_
          refine r_pure tabOk 4 [0, 1, 4, 5, 21] (E' := [(0, ptr b2 0), (1, .one (.sl 67 Y67) a1), (4, .one .str k14), (5, .one (.raw (.pointer none)) q16), (21, .one (.raw (.pointer none)) it6)]) rfl ?_
          refine r_nil ?_
          refine r_then ?_
          refine r_region ?_
          refine r_pure tabOk 3 [0, 1, 21, 27, 28, 29] (E' := [(0, ptr b2 0), (1, .one (.sl 67 Y67) a1), (21, .one (.raw (.pointer none)) it6), (27, .one (.raw (.pointer none)) q16), (28, .one .str k14), (29, .one (.sl 67 Y67) a1)]) rfl ?_
          obtain ⟨f18, hf18, h⟩ := bind_ex h
          refine r_difocus hf18 fun fb19 sv20 tv21 dv22 hq => ?_
          rw [hq]
          clear hq
          refine r_file (P := Try.prog) (I := dI) ?_
          obtain ⟨r23, hr23, h⟩ := bind_ex h
          refine r_call (Lo := [Res.dihole Try.prog dI mv1 it6 s10 (A13 ++ B15) k14 (.pointer (some ⟨fb19, 0, none⟩)) none, Res.var b2 71 DT (a0.1, mv1, a0.2.2.1, a0.2.2.2.1, a0.2.2.2.2.1, a0.2.2.2.2.2.1, a0.2.2.2.2.2.2, ())]) (disk_file_fall_ok (.pointer (some ⟨fb19, 0, none⟩)) f18 k14 a1 _ hr23) (by kernel_rfl) (List.Perm.refl _) rfl rfl fun _ => ?_
          refine r_nil ?_
          refine r_inblock ?_
          refine r_then ?_
          refine r_unfileb fun sv24 tv25 dv26 => ?_
          refine r_diunfocus (P := Try.prog) (I := dI) ?_
          refine r_imp_at (R' := Res.diter Try.prog dI mv1 it6 (pset .str k14 r23 s10) (A13 ++ B15) none none) 0 rfl diter_none ?_
          refine r_less [0, 1, 21] rfl ?_
          obtain rfl := Option.some.inj h
          exact r_backR () htk14 hsk14 rfl rfl
        · cases hc
    · intro o5 gg h
      rw [← hk4] at h
      try dsimp only at h
      refine r_region ?_
      refine r_pure tabOk 6 [32, 33, 34, 36] (E' := [(32, ptr b2 0), (33, ptr b2 0), (34, ptr b2 0), (36, ptr b2 5)]) rfl ?_
      refine r_store 1 ((.snd (.snd (.snd (.snd (.snd (.fst .here))))))) rfl rfl rfl (by first | rfl | (simp only [Pth.off, T.size]; omega)) (ok_snd (ok_snd (ok_snd (ok_snd (ok_snd (ok_fst ok_here)))))) ty4 ?_
      refine r_pure tabOk 2 [33, 34, 38] (E' := [(33, ptr b2 0), (34, ptr b2 0), (38, ptr b2 6)]) rfl ?_
      refine r_store 1 ((.snd (.snd (.snd (.snd (.snd (.snd (.fst .here)))))))) rfl rfl rfl (by first | rfl | (simp only [Pth.off, T.size]; omega)) (ok_snd (ok_snd (ok_snd (ok_snd (ok_snd (ok_snd (ok_fst ok_here))))))) ty4 ?_
      refine r_pure tabOk 2 [34, 40] (E' := [(34, ptr b2 0), (40, ptr b2 2)]) rfl ?_
      refine r_store 1 ((.snd (.snd (.fst .here)))) rfl rfl rfl (by first | rfl | (simp only [Pth.off, T.size]; omega)) (ok_snd (ok_snd (ok_fst ok_here))) ty3 ?_
      refine r_pure tabOk 2 [42] (E' := [(42, ptr b2 4)]) rfl ?_
      refine r_store 1 ((.snd (.snd (.snd (.snd (.fst .here)))))) rfl rfl rfl (by first | rfl | (simp only [Pth.off, T.size]; omega)) (ok_snd (ok_snd (ok_snd (ok_snd (ok_fst ok_here))))) ty3 ?_
      refine r_nil ?_
      refine r_perm (L' := [Res.var b2 71 DT (a0.1, mv1, 0, a0.2.2.2.1, 0, true, false, ()), Res.dfiles Try.prog dI mv1 o5]) ((List.perm_middle (a := Res.var b2 71 DT (a0.1, mv1, 0, a0.2.2.2.1, 0, true, false, ())) (l₁ := [Res.dfiles Try.prog dI mv1 o5]) (l₂ := [])).trans (.cons _ (List.Perm.refl _))) ?_
      refine r_disk (P := Try.prog) (I := dI) (D := (a0.1, o5, 0, a0.2.2.2.1, 0, true, false)) ?_
      obtain rfl := Option.some.inj h
      exact r_end0 rfl (fun _ => tup_ok [] .nil) ((.cons_cons _ .slnil))

theorem disk_Disk_On_ok (p0 : Value) (a0 : DiskS) (r : DiskS) (h : disk_Disk_On a0 = some r) : Fn Try.prog 19 [.one (.raw (.pointer none)) p0] [Res.disk Try.prog dI p0 a0] (fun _ => .tup []) (fun _ => [Res.disk Try.prog dI p0 r]) := by
  unfold disk_Disk_On at h
  refine enter Try.func19 rfl 11 rfl rfl fun F => ?_
  refine r_undisk fun b2 mv1 hp => ?_
  subst hp
  obtain ⟨k3, hk3, h⟩ := bnd_ex h
  refine r_joink (γ := Unit) (fun (o4 : DiskS) _ => [(0, ptr b2 0)]) (fun (o4 : DiskS) _ => [Res.disk Try.prog dI (.pointer (some ⟨b2, 0, none⟩)) o4]) k3 r ?_ ?_
  · refine r_seq ?_
    refine r_region ?_
    refine r_pure tabOk 3 [0, 4] (E' := [(0, ptr b2 0), (4, ptr b2 6)]) rfl ?_
    refine y (y_load 0 ((.snd (.snd (.snd (.snd (.snd (.snd (.fst .here)))))))) rfl rfl (by first | rfl | (simp only [Pth.off, T.size]; omega)) (ok_snd (ok_snd (ok_snd (ok_snd (ok_snd (ok_snd (ok_fst ok_here))))))) ty4) rfl ?_
    refine r_nil ?_
    refine r_then ?_
    refine r_if (b := a0.2.2.2.2.2.2) rfl (fun hc => ?_) (fun hc => ?_)
    · rw [if_pos hc] at h
      refine r_region ?_
      refine r_pure tabOk 1 [0, 6] (E' := [(0, ptr b2 0), (6, ptr b2 0)]) rfl ?_
      refine r_disk (P := Try.prog) (I := dI) (D := a0) ?_
      obtain ⟨r6, hr6, h⟩ := bind_ex h
      refine r_calla (Lo := []) (disk_Disk_Crash_ok (.pointer (some ⟨b2, 0, none⟩)) a0 [] _ hr6) (by kernel_rfl) (List.Perm.refl _) (.val rfl (.nilsl .nil)) rfl fun _ => ?_
      refine r_nil ?_
      refine r_then ?_
      refine r_less [0] rfl ?_
      exact r_meetk r6 () h rfl rfl
    · rw [if_neg (ne_true_of_eq_false hc)] at h
      refine r_skip ?_
      refine r_then ?_
      refine r_disk (P := Try.prog) (I := dI) (D := a0) ?_
      refine r_less [0] rfl ?_
      exact r_meetk a0 () h rfl rfl
  · intro o4 gg h
    rw [← hk3] at h
    try dsimp only at h
    refine r_undiskb fun mv5 => ?_
    refine r_region ?_
    refine r_pure tabOk 3 [10] (E' := [(10, ptr b2 5)]) rfl ?_
    refine r_store 0 ((.snd (.snd (.snd (.snd (.snd (.fst .here))))))) rfl rfl rfl (by first | rfl | (simp only [Pth.off, T.size]; omega)) (ok_snd (ok_snd (ok_snd (ok_snd (ok_snd (ok_fst ok_here)))))) ty4 ?_
    refine r_nil ?_
    refine r_disk (P := Try.prog) (I := dI) (D := (o4.1, o4.2.1, o4.2.2.1, o4.2.2.2.1, o4.2.2.2.2.1, false, o4.2.2.2.2.2.2)) ?_
    obtain rfl := Option.some.inj h
    exact r_end0 rfl (fun _ => tup_ok [] .nil) ((.cons_cons _ .slnil))

theorem escrowlaw04_step_ok (p0 : Value) (a0 : DiskS) (a1 : Int × Bool × List Int × List Int × Int × Int × List Int × (List (List Int × Int × Int × List Int × Unit)) × Unit) (r : Int × DiskS) (h : escrowlaw04_step a0 a1 = some r) : Fn Try.prog 17 [.one (.raw (.pointer none)) p0, .one Y41 a1] [Res.disk Try.prog dI p0 a0] (fun _ => .one (.int .i64) r.1) (fun _ => [Res.disk Try.prog dI p0 r.2]) := by
  unfold escrowlaw04_step at h
  refine enter Try.func17 rfl 69 rfl rfl fun F => ?_
  refine r_seq ?_
  refine r_region ?_
  refine r_box rfl rfl fun b1 => ?_
  refine r_pure tabOk 1 [0, 3] (E' := [(0, .one (.raw (.pointer none)) p0), (3, ptr b1 0)]) rfl ?_
  refine r_nil ?_
  refine r_then ?_
  obtain ⟨k2, hk2, h⟩ := bnd_ex h
  refine r_joink (γ := Unit) (fun (o3 : DiskS) _ => []) (fun (o3 : DiskS) _ => [Res.disk Try.prog dI p0 o3, Res.var b1 41 Y41 a1]) k2 r ?_ ?_
  · refine r_seq ?_
    refine r_region ?_
    refine r_pure tabOk 1 [0, 3, 5] (E' := [(0, .one (.raw (.pointer none)) p0), (3, ptr b1 0), (5, ptr b1 0)]) rfl ?_
    refine y (y_load 0 ((.fst .here)) rfl rfl (by first | rfl | (simp only [Pth.off, T.size]; omega)) (ok_fst ok_here) ty3) rfl ?_
    refine r_nil ?_
    refine r_then ?_
    refine r_block ?_
    refine r_seq ?_
    refine r_region ?_
    refine r_pure tabOk 2 [0, 3, 6, 7] (E' := [(0, .one (.raw (.pointer none)) p0), (3, ptr b1 0), (6, .one (.int .i64) a1.1), (7, .one .bool (a1.1 == 1))]) rfl ?_
    refine r_nil ?_
    refine r_then ?_
    refine r_if (b := (a1.1 == 1)) rfl (fun hc => ?_) (fun hc => ?_)
    · rw [if_pos hc] at h
      refine r_seq ?_
      refine r_region ?_
      refine r_pure tabOk 2 [3, 9, 10] (E' := [(3, ptr b1 0), (9, .one (.raw (.pointer none)) p0), (10, ptr b1 2)]) rfl ?_
      refine y (y_load 0 ((.snd (.snd (.fst .here)))) rfl rfl (by first | rfl | (simp only [Pth.off, T.size]; omega)) (ok_snd (ok_snd (ok_fst ok_here))) ty9) rfl ?_
      refine r_pure tabOk 1 [3, 9, 11, 12] (E' := [(3, ptr b1 0), (9, .one (.raw (.pointer none)) p0), (11, .one .str a1.2.2.1), (12, ptr b1 4)]) rfl ?_
      refine y (y_load 0 ((.snd (.snd (.snd (.snd (.fst .here)))))) rfl rfl (by first | rfl | (simp only [Pth.off, T.size]; omega)) (ok_snd (ok_snd (ok_snd (ok_snd (ok_fst ok_here))))) ty3) rfl ?_
      refine r_pure tabOk 1 [9, 11, 13, 14] (E' := [(9, .one (.raw (.pointer none)) p0), (11, .one .str a1.2.2.1), (13, .one (.int .i64) a1.2.2.2.2.1), (14, ptr b1 6)]) rfl ?_
      refine y (y_load 0 ((.snd (.snd (.snd (.snd (.snd (.snd (.fst .here)))))))) rfl rfl (by first | rfl | (simp only [Pth.off, T.size]; omega)) (ok_snd (ok_snd (ok_snd (ok_snd (ok_snd (ok_snd (ok_fst ok_here))))))) ty9) rfl ?_
      obtain ⟨r4, hr4, h⟩ := bind_ex h
      refine r_call (Lo := [Res.var b1 41 Y41 a1]) (disk_Disk_Write_ok p0 a0 a1.2.2.1 a1.2.2.2.2.1 a1.2.2.2.2.2.2.1 _ hr4) (by kernel_rfl) ((List.perm_middle (a := Res.disk Try.prog dI p0 a0) (l₁ := [Res.var b1 41 Y41 a1]) (l₂ := [])).trans (.cons _ (List.Perm.refl _))) rfl rfl fun _ => ?_
      refine r_pure tabOk 1 [4] (E' := [(4, .one (.int .i64) r4.1)]) rfl ?_
      refine r_nil ?_
      refine r_then ?_
      refine r_ret ?_
      refine t_block ?_
      refine t_then ?_
      obtain rfl := Option.some.inj h
      exact r_ret1 rfl (.tmp rfl) (fun _ _ g => g) (fun _ _ _ => (.cons_cons _ (.cons _ .slnil)))
    · rw [if_neg (ne_true_of_eq_false hc)] at h
      refine r_seq ?_
      refine r_region ?_
      refine r_pure tabOk 2 [0, 3, 6, 17] (E' := [(0, .one (.raw (.pointer none)) p0), (3, ptr b1 0), (6, .one (.int .i64) a1.1), (17, .one .bool (a1.1 == 2))]) rfl ?_
      refine r_nil ?_
      refine r_then ?_
      refine r_if (b := (a1.1 == 2)) rfl (fun hc => ?_) (fun hc => ?_)
      · rw [if_pos hc] at h
        refine r_seq ?_
        refine r_region ?_
        refine r_pure tabOk 2 [19, 20] (E' := [(19, .one (.raw (.pointer none)) p0), (20, ptr b1 2)]) rfl ?_
        refine y (y_load 0 ((.snd (.snd (.fst .here)))) rfl rfl (by first | rfl | (simp only [Pth.off, T.size]; omega)) (ok_snd (ok_snd (ok_fst ok_here))) ty9) rfl ?_
        obtain ⟨r5, hr5, h⟩ := bind_ex h
        refine r_call (Lo := [Res.var b1 41 Y41 a1]) (disk_Disk_Sync_ok p0 a0 a1.2.2.1 _ hr5) (by kernel_rfl) ((List.perm_middle (a := Res.disk Try.prog dI p0 a0) (l₁ := [Res.var b1 41 Y41 a1]) (l₂ := [])).trans (.cons _ (List.Perm.refl _))) rfl rfl fun _ => ?_
        refine r_pure tabOk 1 [4] (E' := [(4, .one (.int .i64) r5.1)]) rfl ?_
        refine r_nil ?_
        refine r_then ?_
        refine r_ret ?_
        refine t_block ?_
        refine t_then ?_
        obtain rfl := Option.some.inj h
        exact r_ret1 rfl (.tmp rfl) (fun _ _ g => g) (fun _ _ _ => (.cons_cons _ (.cons _ .slnil)))
      · rw [if_neg (ne_true_of_eq_false hc)] at h
        refine r_seq ?_
        refine r_region ?_
        refine r_pure tabOk 2 [0, 3, 6, 23] (E' := [(0, .one (.raw (.pointer none)) p0), (3, ptr b1 0), (6, .one (.int .i64) a1.1), (23, .one .bool (a1.1 == 3))]) rfl ?_
        refine r_nil ?_
        refine r_then ?_
        refine r_if (b := (a1.1 == 3)) rfl (fun hc => ?_) (fun hc => ?_)
        · rw [if_pos hc] at h
          refine r_seq ?_
          refine r_region ?_
          refine r_pure tabOk 2 [3, 25, 26] (E' := [(3, ptr b1 0), (25, .one (.raw (.pointer none)) p0), (26, ptr b1 2)]) rfl ?_
          refine y (y_load 0 ((.snd (.snd (.fst .here)))) rfl rfl (by first | rfl | (simp only [Pth.off, T.size]; omega)) (ok_snd (ok_snd (ok_fst ok_here))) ty9) rfl ?_
          refine r_pure tabOk 1 [25, 27, 28] (E' := [(25, .one (.raw (.pointer none)) p0), (27, .one .str a1.2.2.1), (28, ptr b1 5)]) rfl ?_
          refine y (y_load 0 ((.snd (.snd (.snd (.snd (.snd (.fst .here))))))) rfl rfl (by first | rfl | (simp only [Pth.off, T.size]; omega)) (ok_snd (ok_snd (ok_snd (ok_snd (ok_snd (ok_fst ok_here)))))) ty3) rfl ?_
          obtain ⟨r6, hr6, h⟩ := bind_ex h
          refine r_call (Lo := [Res.var b1 41 Y41 a1]) (disk_Disk_Truncate_ok p0 a0 a1.2.2.1 a1.2.2.2.2.2.1 _ hr6) (by kernel_rfl) ((List.perm_middle (a := Res.disk Try.prog dI p0 a0) (l₁ := [Res.var b1 41 Y41 a1]) (l₂ := [])).trans (.cons _ (List.Perm.refl _))) rfl rfl fun _ => ?_
          refine r_pure tabOk 1 [4] (E' := [(4, .one (.int .i64) r6.1)]) rfl ?_
          refine r_nil ?_
          refine r_then ?_
          refine r_ret ?_
          refine t_block ?_
          refine t_then ?_
          obtain rfl := Option.some.inj h
          exact r_ret1 rfl (.tmp rfl) (fun _ _ g => g) (fun _ _ _ => (.cons_cons _ (.cons _ .slnil)))
        · rw [if_neg (ne_true_of_eq_false hc)] at h
          refine r_seq ?_
          refine r_region ?_
          refine r_pure tabOk 2 [0, 3, 6, 31] (E' := [(0, .one (.raw (.pointer none)) p0), (3, ptr b1 0), (6, .one (.int .i64) a1.1), (31, .one .bool (a1.1 == 4))]) rfl ?_
          refine r_nil ?_
          refine r_then ?_
          refine r_if (b := (a1.1 == 4)) rfl (fun hc => ?_) (fun hc => ?_)
          · rw [if_pos hc] at h
            refine r_seq ?_
            refine r_region ?_
            refine r_pure tabOk 2 [3, 33, 34] (E' := [(3, ptr b1 0), (33, .one (.raw (.pointer none)) p0), (34, ptr b1 2)]) rfl ?_
            refine y (y_load 0 ((.snd (.snd (.fst .here)))) rfl rfl (by first | rfl | (simp only [Pth.off, T.size]; omega)) (ok_snd (ok_snd (ok_fst ok_here))) ty9) rfl ?_
            refine r_pure tabOk 1 [33, 35, 36] (E' := [(33, .one (.raw (.pointer none)) p0), (35, .one .str a1.2.2.1), (36, ptr b1 3)]) rfl ?_
            refine y (y_load 0 ((.snd (.snd (.snd (.fst .here))))) rfl rfl (by first | rfl | (simp only [Pth.off, T.size]; omega)) (ok_snd (ok_snd (ok_snd (ok_fst ok_here)))) ty9) rfl ?_
            obtain ⟨r7, hr7, h⟩ := bind_ex h
            refine r_call (Lo := [Res.var b1 41 Y41 a1]) (disk_Disk_Rename_ok p0 a0 a1.2.2.1 a1.2.2.2.1 _ hr7) (by kernel_rfl) ((List.perm_middle (a := Res.disk Try.prog dI p0 a0) (l₁ := [Res.var b1 41 Y41 a1]) (l₂ := [])).trans (.cons _ (List.Perm.refl _))) rfl rfl fun _ => ?_
            refine r_pure tabOk 1 [4] (E' := [(4, .one (.int .i64) r7.1)]) rfl ?_
            refine r_nil ?_
            refine r_then ?_
            refine r_ret ?_
            refine t_block ?_
            refine t_then ?_
            obtain rfl := Option.some.inj h
            exact r_ret1 rfl (.tmp rfl) (fun _ _ g => g) (fun _ _ _ => (.cons_cons _ (.cons _ .slnil)))
          · rw [if_neg (ne_true_of_eq_false hc)] at h
            refine r_seq ?_
            refine r_region ?_
            refine r_pure tabOk 2 [0, 3, 6, 39] (E' := [(0, .one (.raw (.pointer none)) p0), (3, ptr b1 0), (6, .one (.int .i64) a1.1), (39, .one .bool (a1.1 == 5))]) rfl ?_
            refine r_nil ?_
            refine r_then ?_
            refine r_if (b := (a1.1 == 5)) rfl (fun hc => ?_) (fun hc => ?_)
            · rw [if_pos hc] at h
              refine r_seq ?_
              refine r_region ?_
              refine r_pure tabOk 2 [41, 42] (E' := [(41, .one (.raw (.pointer none)) p0), (42, ptr b1 2)]) rfl ?_
              refine y (y_load 0 ((.snd (.snd (.fst .here)))) rfl rfl (by first | rfl | (simp only [Pth.off, T.size]; omega)) (ok_snd (ok_snd (ok_fst ok_here))) ty9) rfl ?_
              obtain ⟨r8, hr8, h⟩ := bind_ex h
              refine r_call (Lo := [Res.var b1 41 Y41 a1]) (disk_Disk_Remove_ok p0 a0 a1.2.2.1 _ hr8) (by kernel_rfl) ((List.perm_middle (a := Res.disk Try.prog dI p0 a0) (l₁ := [Res.var b1 41 Y41 a1]) (l₂ := [])).trans (.cons _ (List.Perm.refl _))) rfl rfl fun _ => ?_
              refine r_pure tabOk 1 [4] (E' := [(4, .one (.int .i64) r8.1)]) rfl ?_
              refine r_nil ?_
              refine r_then ?_
              refine r_ret ?_
              refine t_block ?_
              refine t_then ?_
              obtain rfl := Option.some.inj h
              exact r_ret1 rfl (.tmp rfl) (fun _ _ g => g) (fun _ _ _ => (.cons_cons _ (.cons _ .slnil)))
            · rw [if_neg (ne_true_of_eq_false hc)] at h
              refine r_seq ?_
              refine r_region ?_
              refine r_pure tabOk 2 [0, 3, 6, 45] (E' := [(0, .one (.raw (.pointer none)) p0), (3, ptr b1 0), (6, .one (.int .i64) a1.1), (45, .one .bool (a1.1 == 7))]) rfl ?_
              refine r_nil ?_
              refine r_then ?_
              refine r_if (b := (a1.1 == 7)) rfl (fun hc => ?_) (fun hc => ?_)
              · rw [if_pos hc] at h
                refine r_region ?_
                refine r_pure tabOk 2 [3, 47, 48] (E' := [(3, ptr b1 0), (47, .one (.raw (.pointer none)) p0), (48, ptr b1 5)]) rfl ?_
                refine y (y_load 0 ((.snd (.snd (.snd (.snd (.snd (.fst .here))))))) rfl rfl (by first | rfl | (simp only [Pth.off, T.size]; omega)) (ok_snd (ok_snd (ok_snd (ok_snd (ok_snd (ok_fst ok_here)))))) ty3) rfl ?_
                refine r_pure tabOk 1 [47, 49, 50] (E' := [(47, .one (.raw (.pointer none)) p0), (49, .one (.int .i64) a1.2.2.2.2.2.1), (50, ptr b1 4)]) rfl ?_
                refine y (y_load 0 ((.snd (.snd (.snd (.snd (.fst .here)))))) rfl rfl (by first | rfl | (simp only [Pth.off, T.size]; omega)) (ok_snd (ok_snd (ok_snd (ok_snd (ok_fst ok_here))))) ty3) rfl ?_
                obtain ⟨r9, hr9, h⟩ := bind_ex h
                refine r_call (Lo := [Res.var b1 41 Y41 a1]) (disk_Disk_Arm_ok p0 a0 a1.2.2.2.2.2.1 a1.2.2.2.2.1 _ hr9) (by kernel_rfl) ((List.perm_middle (a := Res.disk Try.prog dI p0 a0) (l₁ := [Res.var b1 41 Y41 a1]) (l₂ := [])).trans (.cons _ (List.Perm.refl _))) rfl rfl fun _ => ?_
                refine r_nil ?_
                refine r_inblock ?_
                refine r_then ?_
                refine r_less [] rfl ?_
                exact r_meetk r9 () h rfl rfl
              · rw [if_neg (ne_true_of_eq_false hc)] at h
                refine r_seq ?_
                refine r_region ?_
                refine r_pure tabOk 2 [0, 3, 6, 53] (E' := [(0, .one (.raw (.pointer none)) p0), (3, ptr b1 0), (6, .one (.int .i64) a1.1), (53, .one .bool (a1.1 == 11))]) rfl ?_
                refine r_nil ?_
                refine r_then ?_
                refine r_if (b := (a1.1 == 11)) rfl (fun hc => ?_) (fun hc => ?_)
                · rw [if_pos hc] at h
                  refine r_region ?_
                  refine r_pure tabOk 2 [55, 56] (E' := [(55, .one (.raw (.pointer none)) p0), (56, ptr b1 5)]) rfl ?_
                  refine y (y_load 0 ((.snd (.snd (.snd (.snd (.snd (.fst .here))))))) rfl rfl (by first | rfl | (simp only [Pth.off, T.size]; omega)) (ok_snd (ok_snd (ok_snd (ok_snd (ok_snd (ok_fst ok_here)))))) ty3) rfl ?_
                  obtain ⟨r10, hr10, h⟩ := bind_ex h
                  refine r_call (Lo := [Res.var b1 41 Y41 a1]) (disk_Disk_Fall_ok p0 a0 a1.2.2.2.2.2.1 _ hr10) (by kernel_rfl) ((List.perm_middle (a := Res.disk Try.prog dI p0 a0) (l₁ := [Res.var b1 41 Y41 a1]) (l₂ := [])).trans (.cons _ (List.Perm.refl _))) rfl rfl fun _ => ?_
                  refine r_nil ?_
                  refine r_inblock ?_
                  refine r_then ?_
                  refine r_less [] rfl ?_
                  exact r_meetk r10 () h rfl rfl
                · rw [if_neg (ne_true_of_eq_false hc)] at h
                  refine r_seq ?_
                  refine r_region ?_
                  refine r_pure tabOk 2 [0, 3, 6, 59] (E' := [(0, .one (.raw (.pointer none)) p0), (3, ptr b1 0), (6, .one (.int .i64) a1.1), (59, .one .bool (a1.1 == 8))]) rfl ?_
                  refine r_nil ?_
                  refine r_then ?_
                  refine r_if (b := (a1.1 == 8)) rfl (fun hc => ?_) (fun hc => ?_)
                  · rw [if_pos hc] at h
                    refine r_region ?_
                    refine r_pure tabOk 2 [61, 62] (E' := [(61, .one (.raw (.pointer none)) p0), (62, ptr b1 7)]) rfl ?_
                    refine y (y_load 0 ((.snd (.snd (.snd (.snd (.snd (.snd (.snd (.fst .here))))))))) rfl rfl (by first | rfl | (simp only [Pth.off, T.size]; omega)) (ok_snd (ok_snd (ok_snd (ok_snd (ok_snd (ok_snd (ok_snd (ok_fst ok_here)))))))) ty23) rfl ?_
                    obtain ⟨r11, hr11, h⟩ := bind_ex h
                    refine r_call (Lo := [Res.var b1 41 Y41 a1]) (disk_Disk_Crash_ok p0 a0 a1.2.2.2.2.2.2.2.1 _ hr11) (by kernel_rfl) ((List.perm_middle (a := Res.disk Try.prog dI p0 a0) (l₁ := [Res.var b1 41 Y41 a1]) (l₂ := [])).trans (.cons _ (List.Perm.refl _))) rfl rfl fun _ => ?_
                    refine r_nil ?_
                    refine r_inblock ?_
                    refine r_then ?_
                    refine r_less [] rfl ?_
                    exact r_meetk r11 () h rfl rfl
                  · rw [if_neg (ne_true_of_eq_false hc)] at h
                    refine r_seq ?_
                    refine r_region ?_
                    refine r_pure tabOk 2 [0, 65] (E' := [(0, .one (.raw (.pointer none)) p0), (65, .one .bool (a1.1 == 9))]) rfl ?_
                    refine r_nil ?_
                    refine r_then ?_
                    refine r_if (b := (a1.1 == 9)) rfl (fun hc => ?_) (fun hc => ?_)
                    · rw [if_pos hc] at h
                      refine r_region ?_
                      refine r_pure tabOk 1 [67] (E' := [(67, .one (.raw (.pointer none)) p0)]) rfl ?_
                      obtain ⟨r12, hr12, h⟩ := bind_ex h
                      refine r_call (Lo := [Res.var b1 41 Y41 a1]) (disk_Disk_On_ok p0 a0 _ hr12) (by kernel_rfl) ((List.perm_middle (a := Res.disk Try.prog dI p0 a0) (l₁ := [Res.var b1 41 Y41 a1]) (l₂ := [])).trans (.cons _ (List.Perm.refl _))) rfl rfl fun _ => ?_
                      refine r_nil ?_
                      refine r_inblock ?_
                      refine r_then ?_
                      refine r_less [] rfl ?_
                      exact r_meetk r12 () h rfl rfl
                    · rw [if_neg (ne_true_of_eq_false hc)] at h
                      refine r_skip ?_
                      refine r_inblock ?_
                      refine r_then ?_
                      refine r_less [] rfl ?_
                      refine r_perm (L' := [Res.disk Try.prog dI p0 a0, Res.var b1 41 Y41 a1]) ((List.perm_middle (a := Res.disk Try.prog dI p0 a0) (l₁ := [Res.var b1 41 Y41 a1]) (l₂ := [])).trans (.cons _ (List.Perm.refl _))) ?_
                      exact r_meetk a0 () h rfl rfl
  · intro o3 gg h
    rw [← hk2] at h
    try dsimp only at h
    refine r_seq ?_
    refine r_region ?_
    refine r_pure tabOk 1 [4] (E' := [(4, .one (.int .i64) 0)]) rfl ?_
    refine r_nil ?_
    refine r_then ?_
    refine r_ret ?_
    obtain rfl := Option.some.inj h
    exact r_ret1 rfl (.tmp rfl) (fun _ _ g => g) (fun _ _ _ => (.cons_cons _ (.cons _ .slnil)))

theorem escrowlaw04_made_ok (a0 : List (Int × Bool × List Int × List Int × Int × Int × List Int × (List (List Int × Int × Int × List Int × Unit)) × Unit)) (r : Int × DiskS) (h : escrowlaw04_made a0 = some r) : Fn Try.prog 7 [.one (.sl 41 Y41) a0] [] (fun v => .one (.raw NV) v) (fun v => [Res.diskif Try.prog dI v r.2 r.1]) := by
  unfold escrowlaw04_made at h
  refine enter Try.func7 rfl 35 rfl rfl fun F => ?_
  refine r_seq ?_
  refine r_region ?_
  refine r_pure tabOk 1 [0] (E' := [(0, .one (.sl 41 Y41) a0)]) rfl ?_
  refine r_nil ?_
  refine r_then ?_
  refine r_seq ?_
  refine r_region ?_
  obtain ⟨r1, hr1, h⟩ := bind_ex h
  refine r_call (Lo := []) (disk_New_ok 100000 _ hr1) (by kernel_rfl) (List.Perm.refl _) rfl rfl fun v2 => ?_
  refine r_pure tabOk 5 [0, 3, 4] (E' := [(0, .one (.sl 41 Y41) a0), (3, .one (.raw (.pointer none)) (tupv v2 0)), (4, .one (.int .i64) r1.1)]) rfl ?_
  refine r_nil ?_
  refine r_then ?_
  refine r_seq ?_
  refine r_seq ?_
  refine r_region ?_
  refine r_pure tabOk 3 [0, 3, 12] (E' := [(0, .one (.sl 41 Y41) a0), (3, .one (.raw (.pointer none)) (tupv v2 0)), (12, .one .bool (r1.1 != 0))]) rfl ?_
  obtain ⟨b3, hbb3, h⟩ := bnd_ex h
  rw [hbb3]
  refine r_lsplit (γ := Unit) 3 (fun _ => [(0, .one (.sl 41 Y41) a0), (3, .one (.raw (.pointer none)) (tupv v2 0)), (15, .one .bool (b3 || (r1.1 != 0)))]) (fun _ => [Res.diskif Try.prog dI (tupv v2 0) r1.2 r1.1]) ?_ (fun _ => ?_)
  · clear h
    cases b3 with
    | true =>
    refine r_pure tabOk 3 [0, 3, 15] (E' := [(0, .one (.sl 41 Y41) a0), (3, .one (.raw (.pointer none)) (tupv v2 0)), (15, .one .bool true)]) rfl ?_
    refine r_nil ?_
    refine r_then ?_
    exact r_meetg () rfl rfl
    | false =>
    refine r_pure tabOk 1 [0, 3, 12, 13] (E' := [(0, .one (.sl 41 Y41) a0), (3, .one (.raw (.pointer none)) (tupv v2 0)), (12, .one .bool false), (13, .one (.raw (.pointer none)) (tupv v2 0))]) rfl ?_
    refine r_guard (by rfl) rfl ?_
    refine y (y_dnil 0 rfl rfl Try.underlying24) rfl ?_
    refine r_pure tabOk 1 [0, 3, 15] (E' := [(0, .one (.sl 41 Y41) a0), (3, .one (.raw (.pointer none)) (tupv v2 0)), (15, .one .bool (r1.1 != 0))]) rfl ?_
    refine r_nil ?_
    refine r_then ?_
    exact r_meetg () rfl rfl
  refine r_nil ?_
  refine r_then ?_
  refine r_if (b := (b3 || (r1.1 != 0))) rfl (fun hc => ?_) (fun hc => ?_)
  · rw [if_pos hc] at h
    refine r_seq ?_
    refine r_region ?_
    refine r_pure tabOk 1 [2] (E' := [(2, .one (.raw (.pointer none)) (.pointer none))]) rfl ?_
    refine r_nil ?_
    refine r_then ?_
    refine r_ret ?_
    refine t_then ?_
    refine r_nodisk (P := Try.prog) (I := dI) (D := (0, [], 0, 0, 0, false, false)) (e := 1) (by decide) ?_
    obtain rfl := Option.some.inj h
    exact r_ret1 rfl (.tmp rfl) (fun _ _ g => holds_raw.2 ⟨rfl, by rw [(holds_raw.1 g).1]; exact (holds_raw.1 g).2⟩) (fun _ _ g => by obtain ⟨rfl, _⟩ := holds_raw.1 g; exact (.cons_cons _ (.cons _ .slnil)))
  · rw [if_neg (ne_true_of_eq_false hc)] at h
    refine r_skip ?_
    refine r_then ?_
    obtain ⟨k4, hk4, h⟩ := bnd_ex h
    refine r_joink (γ := Unit) (fun (o5 : DiskS) _ => [(3, .one (.raw (.pointer none)) (tupv v2 0))]) (fun (o5 : DiskS) _ => [Res.disk Try.prog dI (tupv v2 0) o5]) k4 r ?_ ?_
    · refine r_seq ?_
      refine r_region ?_
      refine r_pure tabOk 1 [0, 3, 5] (E' := [(0, .one (.sl 41 Y41) a0), (3, .one (.raw (.pointer none)) (tupv v2 0)), (5, .one (.int .i64) 0)]) rfl ?_
      refine r_nil ?_
      refine r_then ?_
      refine r_block ?_
      obtain ⟨he10, h⟩ := ite_ex h
      refine r_imp_at (R' := Res.disk Try.prog dI (tupv v2 0) r1.2) 0 rfl (diskif_disk he10) ?_
      refine r_less [0, 3, 5] rfl ?_
      refine r_loopg (γ := Unit) (fun (s13 : Int × DiskS) _ => [(0, .one (.sl 41 Y41) a0), (3, .one (.raw (.pointer none)) (tupv v2 0)), (5, .one (.int .i64) s13.1)]) (fun (s13 : Int × DiskS) _ => [Res.disk Try.prog dI (tupv v2 0) s13.2]) (escrowlaw04_made_l0 a0 k4) (0, r1.2) () h rfl rfl ?_
      clear h
      intro m14 s13 gg h
      cases m14 with
      | zero => cases h
      | succ m14 =>
      simp only [escrowlaw04_made_l0] at h
      refine r_seq ?_
      refine r_seq ?_
      refine r_region ?_
      refine r_pure tabOk 4 [0, 3, 5, 19] (E' := [(0, .one (.sl 41 Y41) a0), (3, .one (.raw (.pointer none)) (tupv v2 0)), (5, .one (.int .i64) s13.1), (19, .one .bool (decide (s13.1 < (List.length a0 : Int))))]) rfl ?_
      refine r_nil ?_
      refine r_then ?_
      refine r_if (b := (decide (s13.1 < (List.length a0 : Int)))) rfl (fun hc => ?_) (fun hc => ?_)
      · rw [if_pos hc] at h
        refine r_skip ?_
        refine r_then ?_
        refine r_seq ?_
        refine r_block ?_
        refine r_region ?_
        refine r_pure tabOk 3 [0, 3, 5, 22, 23, 24] (E' := [(0, .one (.sl 41 Y41) a0), (3, .one (.raw (.pointer none)) (tupv v2 0)), (5, .one (.int .i64) s13.1), (22, .one (.raw (.pointer none)) (tupv v2 0)), (23, .one (.sl 41 Y41) a0), (24, .one (.int .i64) s13.1)]) rfl ?_
        obtain ⟨hc, h⟩ := ite_ex h
        refine y (y_iref tabOk rfl rfl hc.1 hc.2 rfl ty41) rfl ?_
        refine y (y_ref rfl ty41) rfl ?_
        obtain ⟨r15, hr15, h⟩ := bind_ex h
        refine r_call (Lo := []) (escrowlaw04_step_ok (tupv v2 0) s13.2 (List.getD a0 (Int.toNat s13.1) (0, false, [], [], 0, 0, [], [], ())) _ hr15) (by kernel_rfl) (List.Perm.refl _) rfl rfl fun _ => ?_
        refine r_nil ?_
        refine r_inblock ?_
        refine r_then ?_
        refine r_region ?_
        refine r_pure tabOk 3 [0, 3, 5] (E' := [(0, .one (.sl 41 Y41) a0), (3, .one (.raw (.pointer none)) (tupv v2 0)), (5, .one (.int .i64) (IntKind.wrap .i64 (s13.1 + 1)))]) rfl ?_
        obtain ⟨i16, hi16, h⟩ := bnd_ex h
        rw [hi16]
        refine r_nil ?_
        refine r_then ?_
        refine r_less [0, 3, 5] rfl ?_
        exact r_backg (i16, r15.2) () (Nat.lt_succ_self _) h rfl rfl
      · rw [if_neg (ne_true_of_eq_false hc)] at h
        refine r_exit ?_
        refine e_then ?_
        refine e_then ?_
        refine e_eq ?_
        refine r_then ?_
        refine r_less [3] rfl ?_
        exact r_meetk s13.2 () h rfl rfl
    · intro o5 gg h
      rw [← hk4] at h
      try dsimp only at h
      refine r_seq ?_
      refine r_region ?_
      refine r_pure tabOk 1 [3, 28] (E' := [(3, .one (.raw (.pointer none)) (tupv v2 0)), (28, .one (.raw (.pointer none)) (tupv v2 0))]) rfl ?_
      obtain ⟨r6, hr6, h⟩ := bind_ex h
      refine r_call (Lo := []) (disk_Disk_On_ok (tupv v2 0) o5 _ hr6) (by kernel_rfl) (List.Perm.refl _) rfl rfl fun _ => ?_
      refine r_nil ?_
      refine r_then ?_
      refine r_seq ?_
      refine r_region ?_
      refine r_pure tabOk 1 [3, 30] (E' := [(3, .one (.raw (.pointer none)) (tupv v2 0)), (30, .one (.raw (.pointer none)) (tupv v2 0))]) rfl ?_
      obtain ⟨r7, hr7, h⟩ := bind_ex h
      refine r_call (Lo := []) (disk_Disk_Arm_ok (tupv v2 0) r6 0 0 _ hr7) (by kernel_rfl) (List.Perm.refl _) rfl rfl fun _ => ?_
      refine r_nil ?_
      refine r_then ?_
      refine r_seq ?_
      refine r_region ?_
      refine r_pure tabOk 1 [3, 32] (E' := [(3, .one (.raw (.pointer none)) (tupv v2 0)), (32, .one (.raw (.pointer none)) (tupv v2 0))]) rfl ?_
      obtain ⟨r8, hr8, h⟩ := bind_ex h
      refine r_call (Lo := []) (disk_Disk_Fall_ok (tupv v2 0) r7 0 _ hr8) (by kernel_rfl) (List.Perm.refl _) rfl rfl fun _ => ?_
      refine r_nil ?_
      refine r_then ?_
      refine r_seq ?_
      refine r_region ?_
      refine r_pure tabOk 2 [2] (E' := [(2, .one (.raw (.pointer none)) (tupv v2 0))]) rfl ?_
      refine r_nil ?_
      refine r_then ?_
      refine r_ret ?_
      refine r_isdisk ?_
      obtain rfl := Option.some.inj h
      exact r_ret1 rfl (.tmp rfl) (fun _ _ g => holds_raw.2 ⟨rfl, by rw [(holds_raw.1 g).1]; exact (holds_raw.1 g).2⟩) (fun _ _ g => by obtain ⟨rfl, _⟩ := holds_raw.1 g; exact (.cons_cons _ .slnil))

theorem escrowlaw04_text_ok (a0 : Int) (a1 : Int) (r : List Int) (h : escrowlaw04_text a0 a1 = some r) : Pure Try.prog 34 [.one (.int .u8) a0, .one (.int .i64) a1] (.one .str r) := by
  unfold escrowlaw04_text at h
  refine enter Try.func34 rfl 20 rfl rfl fun F => ?_
  refine r_seq ?_
  refine r_region ?_
  refine r_pure tabOk 1 [0, 1] (E' := [(0, .one (.int .u8) a0), (1, .one (.int .i64) a1)]) rfl ?_
  refine r_nil ?_
  refine r_then ?_
  refine r_seq ?_
  refine r_region ?_
  refine r_pure tabOk 1 [0, 1, 7] (E' := [(0, .one (.int .u8) a0), (1, .one (.int .i64) a1), (7, .one (.int .i64) a1)]) rfl ?_
  obtain ⟨hc, h⟩ := ite_ex h
  refine r_make (B := 1) tabOk rfl el5 rfl zf5 rfl rfl rfl hc.1 hc.2 rfl fun v1 => ?_
  refine r_pure tabOk 1 [0, 1, 5] (E' := [(0, .one (.int .u8) a0), (1, .one (.int .i64) a1), (5, .one (.raw (.slice none 0 0)) v1)]) rfl ?_
  refine r_nil ?_
  refine r_then ?_
  obtain ⟨k2, hk2, h⟩ := bnd_ex h
  refine r_joink (γ := Value) (fun (o3 : List (Int)) g4 => [(5, .one (.raw (.slice none 0 0)) g4)]) (fun (o3 : List (Int)) g4 => [Res.own g4 5 (.int .u8) o3]) k2 r ?_ ?_
  · refine r_seq ?_
    refine r_region ?_
    refine r_pure tabOk 1 [0, 1, 5, 6] (E' := [(0, .one (.int .u8) a0), (1, .one (.int .i64) a1), (5, .one (.raw (.slice none 0 0)) v1), (6, .one (.int .i64) 0)]) rfl ?_
    refine r_nil ?_
    refine r_then ?_
    refine r_block ?_
    refine r_less [0, 1, 5, 6] rfl ?_
    refine r_loopg (γ := Value) (fun (s8 : Int × List (Int)) g9 => [(0, .one (.int .u8) a0), (1, .one (.int .i64) a1), (5, .one (.raw (.slice none 0 0)) g9), (6, .one (.int .i64) s8.1)]) (fun (s8 : Int × List (Int)) g9 => [Res.own g9 5 (.int .u8) s8.2]) (escrowlaw04_text_l0 a0 a1 k2) (0, (List.replicate (Int.toNat a1) (0 : Int))) v1 h rfl rfl ?_
    clear h
    intro m10 s8 g9 h
    cases m10 with
    | zero => cases h
    | succ m10 =>
    simp only [escrowlaw04_text_l0] at h
    refine r_seq ?_
    refine r_seq ?_
    refine r_region ?_
    refine r_pure tabOk 3 [0, 1, 5, 6, 11] (E' := [(0, .one (.int .u8) a0), (1, .one (.int .i64) a1), (5, .one (.raw (.slice none 0 0)) g9), (6, .one (.int .i64) s8.1), (11, .one .bool (decide (s8.1 < a1)))]) rfl ?_
    refine r_nil ?_
    refine r_then ?_
    refine r_if (b := (decide (s8.1 < a1))) rfl (fun hc => ?_) (fun hc => ?_)
    · rw [if_pos hc] at h
      refine r_skip ?_
      refine r_then ?_
      refine r_seq ?_
      refine r_block ?_
      refine r_region ?_
      refine r_pure tabOk 3 [0, 1, 5, 6, 14, 15, 16] (E' := [(0, .one (.int .u8) a0), (1, .one (.int .i64) a1), (5, .one (.raw (.slice none 0 0)) g9), (6, .one (.int .i64) s8.1), (14, .one (.raw (.slice none 0 0)) g9), (15, .one (.int .i64) s8.1), (16, .one (.int .u8) a0)]) rfl ?_
      obtain ⟨hc, h⟩ := ite_ex h
      refine r_expose 0 rfl (by first | omega | (simp only [List.length_set] at hc ⊢; omega)) fun b11 c12 hv => ?_
      rw [hv]
      try clear hv
      refine y (y_iraw tabOk rfl rfl hc.1 (by first | exact hc.2 | simpa using hc.2) rfl ty5) rfl ?_
      refine r_sown 0 (Int.toNat s8.1) .here rfl rfl rfl (by first | omega | (simp only [List.length_set] at hc ⊢; omega)) (by first | rfl | (simp only [Pth.off, T.size]; omega)) ok_here ty5 ?_
      refine r_nil ?_
      refine r_inblock ?_
      refine r_then ?_
      refine r_region ?_
      refine r_pure tabOk 3 [0, 1, 5, 6] (E' := [(0, .one (.int .u8) a0), (1, .one (.int .i64) a1), (5, .one (.raw (.slice none 0 0)) (.slice (some ⟨b11, 0, none⟩) (List.length s8.2) c12)), (6, .one (.int .i64) (IntKind.wrap .i64 (s8.1 + 1)))]) rfl ?_
      obtain ⟨i13, hi13, h⟩ := bnd_ex h
      rw [hi13]
      refine r_nil ?_
      refine r_then ?_
      refine r_less [0, 1, 5, 6] rfl ?_
      exact r_backg (i13, (List.set s8.2 (Int.toNat s8.1) a0)) (.slice (some ⟨b11, 0, none⟩) (List.length s8.2) c12) (Nat.lt_succ_self _) h rfl rfl
    · rw [if_neg (ne_true_of_eq_false hc)] at h
      refine r_exit ?_
      refine e_then ?_
      refine e_then ?_
      refine e_eq ?_
      refine r_then ?_
      refine r_less [5] rfl ?_
      exact r_meetk s8.2 g9 h rfl rfl
  · intro o3 g4 h
    rw [← hk2] at h
    try dsimp only at h
    refine r_seq ?_
    refine r_region ?_
    refine r_pure tabOk 1 [18] (E' := [(18, .one (.raw (.slice none 0 0)) g4)]) rfl ?_
    refine y (y_text tabOk 0 rfl rfl rfl rfl rfl) rfl ?_
    refine r_pure tabOk 1 [4] (E' := [(4, .one .str o3)]) rfl ?_
    refine r_nil ?_
    refine r_then ?_
    refine r_ret ?_
    obtain rfl := Option.some.inj h
    exact r_ret1 rfl (.tmp rfl) (fun _ _ g => g) (fun _ _ _ => List.nil_sublist _)

theorem disk_Disk_Read_ok (p0 : Value) (a0 : DiskS) (a1 : List Int) (a2 : Int) (a3 : Int) (r : List Int × Int) (h : disk_Disk_Read a0 a1 a2 a3 = some r) : Fn Try.prog 18 [.one (.raw (.pointer none)) p0, .one .str a1, .one (.int .i64) a2, .one (.int .i64) a3] [Res.disk Try.prog dI p0 a0] (fun _ => .tup [⟨.str, r.1⟩, ⟨(.int .i64), r.2⟩]) (fun _ => [Res.disk Try.prog dI p0 a0]) := by
  unfold disk_Disk_Read at h
  refine enter Try.func18 rfl 48 rfl rfl fun F => ?_
  refine r_undisk fun b2 mv1 hp => ?_
  subst hp
  refine r_seq ?_
  refine r_region ?_
  refine r_pure tabOk 2 [0, 1, 2, 3] (E' := [(0, ptr b2 0), (1, .one .str a1), (2, .one (.int .i64) a2), (3, .one (.int .i64) a3)]) rfl ?_
  refine r_nil ?_
  refine r_then ?_
  refine r_seq ?_
  refine r_region ?_
  refine r_pure tabOk 2 [2, 3, 14, 15] (E' := [(2, .one (.int .i64) a2), (3, .one (.int .i64) a3), (14, ptr b2 0), (15, .one .str a1)]) rfl ?_
  obtain ⟨r3, hr3, h⟩ := bind_ex h
  refine r_call (Lo := []) (disk_Disk_found_ok b2 mv1 a0 a1 _ hr3) (by kernel_rfl) (List.Perm.refl _) rfl rfl fun v4 => ?_
  refine r_pure tabOk 5 [2, 3, 10, 11] (E' := [(2, .one (.int .i64) a2), (3, .one (.int .i64) a3), (10, .one (.raw (.pointer none)) (tupv v4 0)), (11, .one (.int .i64) r3)]) rfl ?_
  refine r_nil ?_
  refine r_then ?_
  refine r_seq ?_
  refine r_seq ?_
  refine r_region ?_
  refine r_pure tabOk 2 [2, 3, 10, 11, 20] (E' := [(2, .one (.int .i64) a2), (3, .one (.int .i64) a3), (10, .one (.raw (.pointer none)) (tupv v4 0)), (11, .one (.int .i64) r3), (20, .one .bool (r3 != 0))]) rfl ?_
  refine r_nil ?_
  refine r_then ?_
  refine r_if (b := (r3 != 0)) rfl (fun hc => ?_) (fun hc => ?_)
  · rw [if_pos hc] at h
    refine r_seq ?_
    refine r_region ?_
    refine r_pure tabOk 3 [8, 9] (E' := [(8, .one .str []), (9, .one (.int .i64) r3)]) rfl ?_
    refine r_nil ?_
    refine r_then ?_
    refine r_ret ?_
    refine t_then ?_
    refine r_imp_at (R' := Res.dfiles Try.prog dI mv1 a0.2.1) 1 rfl dfound_dfiles ?_
    refine r_disk (P := Try.prog) (I := dI) (D := a0) ?_
    obtain rfl := Option.some.inj h
    exact r_rets (rs := [.tmp 8, .tmp 9]) rfl (.cons (.tmp rfl) (.cons (.tmp rfl) (.nil))) rfl (fun _ vs g => tup_ok vs g) (fun _ _ _ => (.cons_cons _ .slnil))
  · rw [if_neg (ne_true_of_eq_false hc)] at h
    refine r_skip ?_
    refine r_then ?_
    refine r_seq ?_
    refine r_seq ?_
    refine r_region ?_
    refine r_pure tabOk 3 [2, 3, 10, 24] (E' := [(2, .one (.int .i64) a2), (3, .one (.int .i64) a3), (10, .one (.raw (.pointer none)) (tupv v4 0)), (24, .one .bool (decide (a2 < 0)))]) rfl ?_
    obtain ⟨b5, hbb5, h⟩ := bnd_ex h
    rw [hbb5]
    refine r_lsplit (γ := Unit) 3 (fun _ => [(2, .one (.int .i64) a2), (3, .one (.int .i64) a3), (10, .one (.raw (.pointer none)) (tupv v4 0)), (27, .one .bool (b5 || (decide (a3 < 0))))]) (fun _ => [Res.var b2 71 DT (a0.1, mv1, a0.2.2.1, a0.2.2.2.1, a0.2.2.2.2.1, a0.2.2.2.2.2.1, a0.2.2.2.2.2.2, ()), Res.dfound Try.prog dI mv1 a0.2.1 a1 (tupv v4 0) r3]) ?_ (fun _ => ?_)
    · clear h
      cases b5 with
      | true =>
      refine r_pure tabOk 3 [2, 3, 10, 27] (E' := [(2, .one (.int .i64) a2), (3, .one (.int .i64) a3), (10, .one (.raw (.pointer none)) (tupv v4 0)), (27, .one .bool true)]) rfl ?_
      refine r_nil ?_
      refine r_then ?_
      exact r_meetg () rfl rfl
      | false =>
      refine r_pure tabOk 3 [2, 3, 10, 27] (E' := [(2, .one (.int .i64) a2), (3, .one (.int .i64) a3), (10, .one (.raw (.pointer none)) (tupv v4 0)), (27, .one .bool (decide (a3 < 0)))]) rfl ?_
      refine r_nil ?_
      refine r_then ?_
      exact r_meetg () rfl rfl
    refine r_nil ?_
    refine r_then ?_
    refine r_if (b := (b5 || (decide (a3 < 0)))) rfl (fun hc => ?_) (fun hc => ?_)
    · rw [if_pos hc] at h
      refine r_seq ?_
      refine r_region ?_
      refine r_pure tabOk 2 [8, 9] (E' := [(8, .one .str []), (9, .one (.int .i64) 1)]) rfl ?_
      refine r_nil ?_
      refine r_then ?_
      refine r_ret ?_
      refine t_then ?_
      refine r_imp_at (R' := Res.dfiles Try.prog dI mv1 a0.2.1) 1 rfl dfound_dfiles ?_
      refine r_disk (P := Try.prog) (I := dI) (D := a0) ?_
      obtain rfl := Option.some.inj h
      exact r_rets (rs := [.tmp 8, .tmp 9]) rfl (.cons (.tmp rfl) (.cons (.tmp rfl) (.nil))) rfl (fun _ vs g => tup_ok vs g) (fun _ _ _ => (.cons_cons _ .slnil))
    · rw [if_neg (ne_true_of_eq_false hc)] at h
      refine r_skip ?_
      refine r_then ?_
      refine r_seq ?_
      refine r_seq ?_
      obtain ⟨hc, h⟩ := ite_ex h
      refine r_imp_at (R' := Res.dat Try.prog dI mv1 a0.2.1 a1 (tupv v4 0)) 1 rfl (dfound_dat hc) ?_
      obtain ⟨f6, hf6, h⟩ := bind_ex h
      refine r_perm (L' := [Res.dat Try.prog dI mv1 a0.2.1 a1 (tupv v4 0), Res.var b2 71 DT (a0.1, mv1, a0.2.2.1, a0.2.2.2.1, a0.2.2.2.2.1, a0.2.2.2.2.2.1, a0.2.2.2.2.2.2, ())]) ((List.perm_middle (a := Res.dat Try.prog dI mv1 a0.2.1 a1 (tupv v4 0)) (l₁ := [Res.var b2 71 DT (a0.1, mv1, a0.2.2.1, a0.2.2.2.1, a0.2.2.2.2.1, a0.2.2.2.2.2.1, a0.2.2.2.2.2.2, ())]) (l₂ := [])).trans (.cons _ (List.Perm.refl _))) ?_
      refine r_dfocus kstr hf6 fun fb7 sv8 tv9 dv10 hq => ?_
      rw [hq]
      clear hq
      refine r_region ?_
      refine r_pure tabOk 4 [2, 3, 10, 28, 31] (E' := [(2, .one (.int .i64) a2), (3, .one (.int .i64) a3), (10, ptr fb7 0), (28, .one (.int .i64) a2), (31, ptr fb7 0)]) rfl ?_
      refine y (y_load 0 ((.fst .here)) rfl rfl (by first | rfl | (simp only [Pth.off, T.size]; omega)) (ok_fst ok_here) tx0) rfl ?_
      refine y (y_lenown tabOk 1 rfl rfl rfl) rfl ?_
      refine r_pure tabOk 1 [2, 3, 10, 34] (E' := [(2, .one (.int .i64) a2), (3, .one (.int .i64) a3), (10, ptr fb7 0), (34, .one .bool (decide (a2 ≥ (List.length f6.1 : Int))))]) rfl ?_
      refine r_nil ?_
      refine r_then ?_
      refine r_if (b := (decide (a2 ≥ (List.length f6.1 : Int)))) rfl (fun hc => ?_) (fun hc => ?_)
      · rw [if_pos hc] at h
        refine r_seq ?_
        refine r_region ?_
        refine r_pure tabOk 2 [8, 9] (E' := [(8, .one .str []), (9, .one (.int .i64) 0)]) rfl ?_
        refine r_nil ?_
        refine r_then ?_
        refine r_ret ?_
        refine t_then ?_
        refine r_dunfocus_same (P := Try.prog) (I := dI) kstr hf6 ?_
        refine r_imp_at (R' := Res.dfiles Try.prog dI mv1 a0.2.1) 0 rfl dat_dfiles ?_
        refine r_perm (L' := [Res.var b2 71 DT (a0.1, mv1, a0.2.2.1, a0.2.2.2.1, a0.2.2.2.2.1, a0.2.2.2.2.2.1, a0.2.2.2.2.2.2, ()), Res.dfiles Try.prog dI mv1 a0.2.1]) ((List.perm_middle (a := Res.var b2 71 DT (a0.1, mv1, a0.2.2.1, a0.2.2.2.1, a0.2.2.2.2.1, a0.2.2.2.2.2.1, a0.2.2.2.2.2.2, ())) (l₁ := [Res.dfiles Try.prog dI mv1 a0.2.1]) (l₂ := [])).trans (.cons _ (List.Perm.refl _))) ?_
        refine r_disk (P := Try.prog) (I := dI) (D := a0) ?_
        obtain rfl := Option.some.inj h
        exact r_rets (rs := [.tmp 8, .tmp 9]) rfl (.cons (.tmp rfl) (.cons (.tmp rfl) (.nil))) rfl (fun _ vs g => tup_ok vs g) (fun _ _ _ => (.cons_cons _ .slnil))
      · rw [if_neg (ne_true_of_eq_false hc)] at h
        refine r_skip ?_
        refine r_then ?_
        refine r_seq ?_
        refine r_region ?_
        refine r_pure tabOk 3 [2, 3, 37] (E' := [(2, .one (.int .i64) a2), (3, .one (.int .i64) a3), (37, ptr fb7 0)]) rfl ?_
        refine y (y_load 0 ((.fst .here)) rfl rfl (by first | rfl | (simp only [Pth.off, T.size]; omega)) (ok_fst ok_here) tx0) rfl ?_
        refine r_pure tabOk 1 [3, 38, 39] (E' := [(3, .one (.int .i64) a3), (38, .one (.raw (.slice none 0 0)) sv8), (39, .one (.int .i64) a2)]) rfl ?_
        obtain ⟨hs11, h⟩ := ite_ex h
        refine y (y_osub tabOk (i := a2) (j := (List.length f6.1 : Int)) rfl (sub_own 1 rfl) rfl rfl hs11.1 hs11.2.1 hs11.2.2 rfl ty5) rfl ?_
        refine r_pure tabOk 1 [3, 12] (E' := [(3, .one (.int .i64) a3), (12, .one (.raw (.slice none 0 0)) (subv (T.size (.int .u8)) sv8 (Int.toNat a2) (Int.toNat (List.length f6.1 : Int))))]) rfl ?_
        refine r_nil ?_
        refine r_then ?_
        refine r_seq ?_
        refine r_region ?_
        refine r_pure tabOk 3 [41, 42, 43] (E' := [(41, .one (.raw (.slice none 0 0)) (subv (T.size (.int .u8)) sv8 (Int.toNat a2) (Int.toNat (List.length f6.1 : Int)))), (42, .one (.int .i64) a3), (43, .one (.raw (.slice none 0 0)) (subv (T.size (.int .u8)) sv8 (Int.toNat a2) (Int.toNat (List.length f6.1 : Int))))]) rfl ?_
        refine y (y_lensub tabOk rfl (sub_sub (sub_own 1 rfl) hs11.1 hs11.2.1 hs11.2.2) rfl) rfl ?_
        refine y (y_min rfl rfl) rfl ?_
        obtain ⟨hs12, h⟩ := ite_ex h
        refine y (y_osub tabOk (i := (0 : Int)) (j := (min a3 (List.length (List.drop (Int.toNat a2) (List.take (Int.toNat (List.length f6.1 : Int)) f6.1)) : Int))) rfl (sub_sub (sub_own 1 rfl) hs11.1 hs11.2.1 hs11.2.2) rfl rfl hs12.1 hs12.2.1 hs12.2.2 rfl ty5) rfl ?_
        refine y (y_textsub tabOk rfl (sub_sub (sub_sub (sub_own 1 rfl) hs11.1 hs11.2.1 hs11.2.2) hs12.1 hs12.2.1 hs12.2.2) rfl rfl rfl) rfl ?_
        refine r_pure tabOk 1 [8] (E' := [(8, .one .str (List.take (Int.toNat (min a3 (List.length (List.drop (Int.toNat a2) (List.take (Int.toNat (List.length f6.1 : Int)) f6.1)) : Int))) (List.drop (Int.toNat a2) (List.take (Int.toNat (List.length f6.1 : Int)) f6.1))))]) rfl ?_
        obtain ⟨t13, ht13, h⟩ := bnd_ex h
        rw [ht13]
        refine r_pure tabOk 1 [8, 9] (E' := [(8, .one .str t13), (9, .one (.int .i64) 0)]) rfl ?_
        refine r_nil ?_
        refine r_then ?_
        refine r_ret ?_
        refine r_dunfocus_same (P := Try.prog) (I := dI) kstr hf6 ?_
        refine r_imp_at (R' := Res.dfiles Try.prog dI mv1 a0.2.1) 0 rfl dat_dfiles ?_
        refine r_perm (L' := [Res.var b2 71 DT (a0.1, mv1, a0.2.2.1, a0.2.2.2.1, a0.2.2.2.2.1, a0.2.2.2.2.2.1, a0.2.2.2.2.2.2, ()), Res.dfiles Try.prog dI mv1 a0.2.1]) ((List.perm_middle (a := Res.var b2 71 DT (a0.1, mv1, a0.2.2.1, a0.2.2.2.1, a0.2.2.2.2.1, a0.2.2.2.2.2.1, a0.2.2.2.2.2.2, ())) (l₁ := [Res.dfiles Try.prog dI mv1 a0.2.1]) (l₂ := [])).trans (.cons _ (List.Perm.refl _))) ?_
        refine r_disk (P := Try.prog) (I := dI) (D := a0) ?_
        obtain rfl := Option.some.inj h
        exact r_rets (rs := [.tmp 8, .tmp 9]) rfl (.cons (.tmp rfl) (.cons (.tmp rfl) (.nil))) rfl (fun _ vs g => tup_ok vs g) (fun _ _ _ => (.cons_cons _ .slnil))

theorem disk_Disk_Off_ok (p0 : Value) (a0 : DiskS) (r : Bool) (h : disk_Disk_Off a0 = some r) : Fn Try.prog 35 [.one (.raw (.pointer none)) p0] [Res.disk Try.prog dI p0 a0] (fun _ => .one .bool r) (fun _ => [Res.disk Try.prog dI p0 a0]) := by
  unfold disk_Disk_Off at h
  refine enter Try.func35 rfl 7 rfl rfl fun F => ?_
  refine r_undisk fun b2 mv1 hp => ?_
  subst hp
  refine r_seq ?_
  refine r_region ?_
  refine r_pure tabOk 1 [0] (E' := [(0, ptr b2 0)]) rfl ?_
  refine r_nil ?_
  refine r_then ?_
  refine r_seq ?_
  refine r_region ?_
  refine r_pure tabOk 3 [5] (E' := [(5, ptr b2 5)]) rfl ?_
  refine y (y_load 0 ((.snd (.snd (.snd (.snd (.snd (.fst .here))))))) rfl rfl (by first | rfl | (simp only [Pth.off, T.size]; omega)) (ok_snd (ok_snd (ok_snd (ok_snd (ok_snd (ok_fst ok_here)))))) ty4) rfl ?_
  refine r_pure tabOk 1 [2] (E' := [(2, .one .bool a0.2.2.2.2.2.1)]) rfl ?_
  refine r_nil ?_
  refine r_then ?_
  refine r_ret ?_
  refine r_disk (P := Try.prog) (I := dI) (D := a0) ?_
  obtain rfl := Option.some.inj h
  exact r_ret1 rfl (.tmp rfl) (fun _ _ g => g) (fun _ _ _ => (.cons_cons _ .slnil))

theorem disk_Disk_Size_ok (p0 : Value) (a0 : DiskS) (a1 : List Int) (r : Int × Int) (h : disk_Disk_Size a0 a1 = some r) : Fn Try.prog 13 [.one (.raw (.pointer none)) p0, .one .str a1] [Res.disk Try.prog dI p0 a0] (fun _ => .tup [⟨(.int .i64), r.1⟩, ⟨(.int .i64), r.2⟩]) (fun _ => [Res.disk Try.prog dI p0 a0]) := by
  unfold disk_Disk_Size at h
  refine enter Try.func13 rfl 22 rfl rfl fun F => ?_
  refine r_undisk fun b2 mv1 hp => ?_
  subst hp
  refine r_seq ?_
  refine r_region ?_
  refine r_pure tabOk 2 [0, 1] (E' := [(0, ptr b2 0), (1, .one .str a1)]) rfl ?_
  refine r_nil ?_
  refine r_then ?_
  refine r_seq ?_
  refine r_region ?_
  refine r_pure tabOk 2 [9, 10] (E' := [(9, ptr b2 0), (10, .one .str a1)]) rfl ?_
  obtain ⟨r3, hr3, h⟩ := bind_ex h
  refine r_call (Lo := []) (disk_Disk_found_ok b2 mv1 a0 a1 _ hr3) (by kernel_rfl) (List.Perm.refl _) rfl rfl fun v4 => ?_
  refine r_pure tabOk 5 [6, 7] (E' := [(6, .one (.raw (.pointer none)) (tupv v4 0)), (7, .one (.int .i64) r3)]) rfl ?_
  refine r_nil ?_
  refine r_then ?_
  refine r_seq ?_
  refine r_seq ?_
  refine r_region ?_
  refine r_pure tabOk 2 [6, 7, 15] (E' := [(6, .one (.raw (.pointer none)) (tupv v4 0)), (7, .one (.int .i64) r3), (15, .one .bool (r3 != 0))]) rfl ?_
  refine r_nil ?_
  refine r_then ?_
  refine r_if (b := (r3 != 0)) rfl (fun hc => ?_) (fun hc => ?_)
  · rw [if_pos hc] at h
    refine r_seq ?_
    refine r_region ?_
    refine r_pure tabOk 3 [4, 5] (E' := [(4, .one (.int .i64) 0), (5, .one (.int .i64) r3)]) rfl ?_
    refine r_nil ?_
    refine r_then ?_
    refine r_ret ?_
    refine t_then ?_
    refine r_imp_at (R' := Res.dfiles Try.prog dI mv1 a0.2.1) 1 rfl dfound_dfiles ?_
    refine r_disk (P := Try.prog) (I := dI) (D := a0) ?_
    obtain rfl := Option.some.inj h
    exact r_rets (rs := [.tmp 4, .tmp 5]) rfl (.cons (.tmp rfl) (.cons (.tmp rfl) (.nil))) rfl (fun _ vs g => tup_ok vs g) (fun _ _ _ => (.cons_cons _ .slnil))
  · rw [if_neg (ne_true_of_eq_false hc)] at h
    refine r_skip ?_
    refine r_then ?_
    refine r_seq ?_
    obtain ⟨hc, h⟩ := ite_ex h
    refine r_imp_at (R' := Res.dat Try.prog dI mv1 a0.2.1 a1 (tupv v4 0)) 1 rfl (dfound_dat hc) ?_
    obtain ⟨f5, hf5, h⟩ := bind_ex h
    refine r_perm (L' := [Res.dat Try.prog dI mv1 a0.2.1 a1 (tupv v4 0), Res.var b2 71 DT (a0.1, mv1, a0.2.2.1, a0.2.2.2.1, a0.2.2.2.2.1, a0.2.2.2.2.2.1, a0.2.2.2.2.2.2, ())]) ((List.perm_middle (a := Res.dat Try.prog dI mv1 a0.2.1 a1 (tupv v4 0)) (l₁ := [Res.var b2 71 DT (a0.1, mv1, a0.2.2.1, a0.2.2.2.1, a0.2.2.2.2.1, a0.2.2.2.2.2.1, a0.2.2.2.2.2.2, ())]) (l₂ := [])).trans (.cons _ (List.Perm.refl _))) ?_
    refine r_dfocus kstr hf5 fun fb6 sv7 tv8 dv9 hq => ?_
    rw [hq]
    clear hq
    refine r_region ?_
    refine r_pure tabOk 3 [19] (E' := [(19, ptr fb6 0)]) rfl ?_
    refine y (y_load 0 ((.fst .here)) rfl rfl (by first | rfl | (simp only [Pth.off, T.size]; omega)) (ok_fst ok_here) tx0) rfl ?_
    refine y (y_lenown tabOk 1 rfl rfl rfl) rfl ?_
    refine r_pure tabOk 2 [4, 5] (E' := [(4, .one (.int .i64) (List.length f5.1 : Int)), (5, .one (.int .i64) 0)]) rfl ?_
    refine r_nil ?_
    refine r_then ?_
    refine r_ret ?_
    refine r_dunfocus_same (P := Try.prog) (I := dI) kstr hf5 ?_
    refine r_imp_at (R' := Res.dfiles Try.prog dI mv1 a0.2.1) 0 rfl dat_dfiles ?_
    refine r_perm (L' := [Res.var b2 71 DT (a0.1, mv1, a0.2.2.1, a0.2.2.2.1, a0.2.2.2.2.1, a0.2.2.2.2.2.1, a0.2.2.2.2.2.2, ()), Res.dfiles Try.prog dI mv1 a0.2.1]) ((List.perm_middle (a := Res.var b2 71 DT (a0.1, mv1, a0.2.2.1, a0.2.2.2.1, a0.2.2.2.2.1, a0.2.2.2.2.2.1, a0.2.2.2.2.2.2, ())) (l₁ := [Res.dfiles Try.prog dI mv1 a0.2.1]) (l₂ := [])).trans (.cons _ (List.Perm.refl _))) ?_
    refine r_disk (P := Try.prog) (I := dI) (D := a0) ?_
    obtain rfl := Option.some.inj h
    exact r_rets (rs := [.tmp 4, .tmp 5]) rfl (.cons (.tmp rfl) (.cons (.tmp rfl) (.nil))) rfl (fun _ vs g => tup_ok vs g) (fun _ _ _ => (.cons_cons _ .slnil))

theorem sortS : SortOk Try.prog 37 Go.Proofs.encStr (fun x y => decide (x ≤ y)) := sortS_of Try.laysSortS

theorem disk_Disk_List_ok (p0 : Value) (a0 : DiskS) (r : List (List Int)) (h : disk_Disk_List a0 = some r) : Fn Try.prog 10 [.one (.raw NV) p0] [Res.disk Try.prog dI p0 a0] (fun v => .one (.raw (.slice none 0 0)) v) (fun v => [Res.disk Try.prog dI p0 a0, Res.own v 9 .str r]) := by
  unfold disk_Disk_List at h
  refine enter Try.func10 rfl 25 rfl rfl fun F => ?_
  refine r_undisk fun b2 mv1 hp => ?_
  subst hp
  refine r_seq ?_
  refine r_region ?_
  refine r_pure tabOk 1 [0] (E' := [(0, ptr b2 0)]) rfl ?_
  refine r_nil ?_
  refine r_then ?_
  refine r_seq ?_
  refine r_seq ?_
  refine r_region ?_
  refine r_pure tabOk 3 [0, 7] (E' := [(0, ptr b2 0), (7, ptr b2 5)]) rfl ?_
  refine y (y_load 0 (.snd (.snd (.snd (.snd (.snd (.fst .here)))))) rfl rfl (by first | rfl | (simp only [Pth.off, T.size]; omega)) (ok_snd (ok_snd (ok_snd (ok_snd (ok_snd (ok_fst ok_here)))))) ty4) rfl ?_
  refine r_nil ?_
  refine r_then ?_
  refine r_if (b := a0.2.2.2.2.2.1) rfl (fun hc => ?_) (fun hc => ?_)
  · rw [if_pos hc] at h
    refine r_seq ?_
    refine r_region ?_
    refine r_pure tabOk 1 [2] (E' := [(2, .one (.raw (.slice none 0 0)) (.slice none 0 0))]) rfl ?_
    refine r_nil ?_
    refine r_then ?_
    refine r_ret ?_
    refine t_then ?_
    refine r_disk (P := Try.prog) (I := dI) (D := a0) ?_
    refine r_nilown (.slice none 0 0) rfl 9 .str ?_
    refine r_swap ?_
    obtain rfl := Option.some.inj h
    exact r_ret1 rfl (.tmp rfl) (fun _ _ g => raw_self g) (fun _ _ g => by obtain ⟨rfl, _⟩ := holds_raw.1 g; exact List.Sublist.refl _)
  · rw [if_neg (ne_true_of_eq_false hc)] at h
    obtain ⟨hlen, h⟩ := ite_ex h
    obtain rfl := Option.some.inj h
    refine r_skip ?_
    refine r_then ?_
    refine r_seq ?_
    refine r_region ?_
    refine r_pure tabOk 1 [0, 3] (E' := [(0, ptr b2 0), (3, .one (.raw (.slice none 0 0)) (.slice none 0 0))]) rfl ?_
    refine r_nil ?_
    refine r_then ?_
    repeat refine r_seq ?_
    refine r_region ?_
    refine r_pure tabOk 3 [0, 3, 11] (E' := [(0, ptr b2 0), (3, .one (.raw (.slice none 0 0)) (.slice none 0 0)), (11, ptr b2 1)]) rfl ?_
    refine y (y_load 0 (.snd (.fst .here)) rfl rfl (by first | rfl | (simp only [Pth.off, T.size]; omega)) (ok_snd (ok_fst ok_here)) ty69) rfl ?_
    refine r_swap ?_
    refine r_drange kstr rfl Try.underlying69 rfl fun it6 hn7 => ?_
    refine r_nil ?_
    refine r_then ?_
    refine r_block ?_
    refine r_nilown (.slice none 0 0) rfl 9 .str ?_
    refine r_less [0, 3, 13] rfl ?_
    refine r_fact (p := (([] : List (List Int)) ++ a0.2.1.map (·.1)).Perm (a0.2.1.map (·.1))) (List.Perm.refl _) ?_
    refine r_loopI (σ := List (List Int) × Value × List (List Int)) (fun s => [(0, ptr b2 0), (3, .one (.raw (.slice none 0 0)) s.2.1), (13, .one (.raw (.pointer none)) it6)]) (fun s => [Res.fact ((s.2.2 ++ s.1).Perm (a0.2.1.map (·.1))), Res.own s.2.1 9 .str s.2.2, Res.diter Try.prog dI mv1 it6 a0.2.1 s.1 none none, Res.var b2 71 DT (a0.1, mv1, a0.2.2.1, a0.2.2.2.1, a0.2.2.2.2.1, a0.2.2.2.2.2.1, a0.2.2.2.2.2.2, ())]) (fun s => s.1.length) (a0.2.1.map (·.1), .slice none 0 0, []) rfl rfl ?_
    rintro ⟨todo, v8, xs⟩
    refine r_unfact fun hperm => ?_
    refine r_swap ?_
    refine r_seq ?_
    refine r_region ?_
    refine r_dnext kstr rfl rfl (fun ht => ?_) (fun A k B q htk hk => ?_)
    · have hperm2 : xs.Perm (a0.2.1.map (·.1)) := by have hp := hperm; simp only at ht hp; rw [ht, List.append_nil] at hp; exact hp
      refine r_dunrange ?_
      refine r_pure tabOk 1 [0, 3, 15] (E' := [(0, ptr b2 0), (3, .one (.raw (.slice none 0 0)) v8), (15, .one .bool false)]) rfl ?_
      refine r_nil ?_
      refine r_then ?_
      refine r_seq ?_
      refine r_if (b := false) rfl (fun hc => ?_) (fun hc => ?_)
      · cases hc
      · refine r_exit ?_
        refine e_then ?_
        refine e_then ?_
        refine e_eq ?_
        refine r_then ?_
        refine r_dsorted kstr fun hko hso => ?_
        refine r_swap ?_
        refine r_seq ?_
        refine r_region ?_
        refine r_pure tabOk 1 [3, 22] (E' := [(3, .one (.raw (.slice none 0 0)) v8), (22, .one (.raw (.slice none 0 0)) v8)]) rfl ?_
        refine r_call (Lo := [Res.dfiles Try.prog dI mv1 a0.2.1, Res.var b2 71 DT (a0.1, mv1, a0.2.2.1, a0.2.2.2.1, a0.2.2.2.2.1, a0.2.2.2.2.2.1, a0.2.2.2.2.2.2, ())]) (sortS_fn sortS hperm2 hso (fun x hx => by obtain ⟨p, hp, rfl⟩ := List.mem_map.1 (hperm2.mem_iff.1 hx); exact (hko p hp).1) (by rw [hperm2.length_eq, List.length_map]; omega) v8) (by kernel_rfl) (List.Perm.refl _) rfl rfl fun _ => ?_
        refine r_nil ?_
        refine r_then ?_
        refine r_seq ?_
        refine r_region ?_
        refine r_pure tabOk 2 [2] (E' := [(2, .one (.raw (.slice none 0 0)) v8)]) rfl ?_
        refine r_nil ?_
        refine r_then ?_
        refine r_ret ?_
        refine r_perm (L' := [Res.var b2 71 DT (a0.1, mv1, a0.2.2.1, a0.2.2.2.1, a0.2.2.2.2.1, a0.2.2.2.2.2.1, a0.2.2.2.2.2.2, ()), Res.dfiles Try.prog dI mv1 a0.2.1, Res.own v8 9 .str (a0.2.1.map (·.1))]) ((List.Perm.swap _ _ _).trans ((List.Perm.cons _ (List.Perm.swap _ _ _)).trans (List.Perm.swap _ _ _))) ?_
        refine r_disk (P := Try.prog) (I := dI) (D := a0) ?_
        exact r_ret1 rfl (.tmp rfl) (fun _ _ g => raw_self g) (fun _ _ g => by obtain ⟨rfl, _⟩ := holds_raw.1 g; exact List.Sublist.refl _)
    · refine r_pure tabOk 1 [0, 3, 13, 15] (E' := [(0, ptr b2 0), (3, .one (.raw (.slice none 0 0)) v8), (13, .one (.raw (.pointer none)) it6), (15, .one .bool true)]) rfl ?_
      refine r_nil ?_
      refine r_then ?_
      refine r_seq ?_
      refine r_if (b := true) rfl (fun hc => ?_) (fun hc => ?_)
      · refine r_skip ?_
        refine r_then ?_
        refine r_block ?_
        refine r_seq ?_
        refine r_region ?_
        refine y (y_dentry rfl 0 rfl) rfl ?_
        refine r_pure tabOk 2 [0, 3, 4, 13] (E' := [(0, ptr b2 0), (3, .one (.raw (.slice none 0 0)) v8), (4, .one .str k), (13, .one (.raw (.pointer none)) it6)]) rfl ?_
        refine r_nil ?_
        refine r_then ?_
        refine r_region ?_
        refine r_pure tabOk 2 [0, 13, 18, 19] (E' := [(0, ptr b2 0), (13, .one (.raw (.pointer none)) it6), (18, .one (.raw (.slice none 0 0)) v8), (19, .one .str k)]) rfl ?_
        refine r_lits (B := 16) tabOk rfl el9 rfl rfl rfl (.cons rfl .nil) rfl fun v9 => ?_
        have hroom : (List.length xs + List.length [k]) * 16 ≤ 140737488355328 := by
          have e1 := hperm.length_eq
          simp only at htk e1
          rw [htk] at e1
          simp only [List.length_append, List.length_cons, List.length_nil, List.length_map] at e1 ⊢
          omega
        refine r_append (B := 16) tabOk 2 rfl rfl (src_own 0 rfl rfl) rfl el9 rfl rfl hroom rfl fun v10 => ?_
        refine r_pure tabOk 1 [0, 3, 13] (E' := [(0, ptr b2 0), (3, .one (.raw (.slice none 0 0)) v10), (13, .one (.raw (.pointer none)) it6)]) rfl ?_
        refine r_nil ?_
        refine r_inblock ?_
        refine r_then ?_
        refine r_lose (L' := [Res.diter Try.prog dI mv1 it6 a0.2.1 (A ++ B) (some (k, q)) none, Res.own v10 9 .str (xs ++ [k]), Res.var b2 71 DT (a0.1, mv1, a0.2.2.1, a0.2.2.2.1, a0.2.2.2.2.1, a0.2.2.2.2.2.1, a0.2.2.2.2.2.2, ())]) (.cons _ (List.Sublist.refl _)) ?_
        refine r_imp_at (R' := Res.diter Try.prog dI mv1 it6 a0.2.1 (A ++ B) none none) 0 rfl diter_none ?_
        refine r_swap ?_
        refine r_fact (p := ((xs ++ [k]) ++ (A ++ B)).Perm (a0.2.1.map (·.1))) (by
          have hp := hperm
          simp only at htk hp
          rw [htk] at hp
          refine List.Perm.trans ?_ hp
          rw [List.append_assoc]
          exact List.Perm.append_left _ (List.perm_middle (a := k) (l₁ := A) (l₂ := B)).symm) ?_
        exact r_backI (A ++ B, v10, xs ++ [k]) (by simp only at htk ⊢; rw [htk]; simp) rfl rfl
      · cases hc

theorem escrowlaw04_sameTexts_ok (a0 : List (List Int)) (a1 : List (List Int)) (r : Bool) (h : escrowlaw04_sameTexts a0 a1 = some r) : Pure Try.prog 23 [.one (.sl 9 .str) a0, .one (.sl 9 .str) a1] (.one .bool r) := by
  unfold escrowlaw04_sameTexts at h
  refine enter Try.func23 rfl 26 rfl rfl fun F => ?_
  refine r_seq ?_
  refine r_region ?_
  refine r_pure tabOk 1 [0, 1] (E' := [(0, .one (.sl 9 .str) a0), (1, .one (.sl 9 .str) a1)]) rfl ?_
  refine r_nil ?_
  refine r_then ?_
  refine r_seq ?_
  refine r_seq ?_
  refine r_region ?_
  refine r_pure tabOk 5 [0, 1, 10] (E' := [(0, .one (.sl 9 .str) a0), (1, .one (.sl 9 .str) a1), (10, .one .bool ((List.length a0 : Int) != (List.length a1 : Int)))]) rfl ?_
  refine r_nil ?_
  refine r_then ?_
  refine r_if (b := ((List.length a0 : Int) != (List.length a1 : Int))) rfl (fun hc => ?_) (fun hc => ?_)
  · rw [if_pos hc] at h
    refine r_seq ?_
    refine r_region ?_
    refine r_pure tabOk 1 [4] (E' := [(4, .one .bool false)]) rfl ?_
    refine r_nil ?_
    refine r_then ?_
    refine r_ret ?_
    refine t_then ?_
    obtain rfl := Option.some.inj h
    exact r_ret1 rfl (.tmp rfl) (fun _ _ g => g) (fun _ _ _ => List.nil_sublist _)
  · rw [if_neg (ne_true_of_eq_false hc)] at h
    refine r_skip ?_
    refine r_then ?_
    obtain ⟨k1, hk1, h⟩ := bnd_ex h
    refine r_joink (γ := Unit) (fun (o2 : Unit) _ => []) (fun (o2 : Unit) _ => []) k1 r ?_ ?_
    · refine r_seq ?_
      refine r_region ?_
      refine r_pure tabOk 1 [0, 1, 5] (E' := [(0, .one (.sl 9 .str) a0), (1, .one (.sl 9 .str) a1), (5, .one (.int .i64) 0)]) rfl ?_
      refine r_nil ?_
      refine r_then ?_
      refine r_block ?_
      refine r_less [0, 1, 5] rfl ?_
      refine r_loopg (γ := Unit) (fun (s4 : Int) _ => [(0, .one (.sl 9 .str) a0), (1, .one (.sl 9 .str) a1), (5, .one (.int .i64) s4)]) (fun (s4 : Int) _ => []) (escrowlaw04_sameTexts_l0 a0 a1 k1) 0 () h rfl rfl ?_
      clear h
      intro m5 s4 gg h
      cases m5 with
      | zero => cases h
      | succ m5 =>
      simp only [escrowlaw04_sameTexts_l0] at h
      refine r_seq ?_
      refine r_seq ?_
      refine r_region ?_
      refine r_pure tabOk 4 [0, 1, 5, 14] (E' := [(0, .one (.sl 9 .str) a0), (1, .one (.sl 9 .str) a1), (5, .one (.int .i64) s4), (14, .one .bool (decide (s4 < (List.length a0 : Int))))]) rfl ?_
      refine r_nil ?_
      refine r_then ?_
      refine r_if (b := (decide (s4 < (List.length a0 : Int)))) rfl (fun hc => ?_) (fun hc => ?_)
      · rw [if_pos hc] at h
        refine r_skip ?_
        refine r_then ?_
        refine r_seq ?_
        refine r_block ?_
        refine r_seq ?_
        refine r_drawn (by kernel_rfl) (by kernel_rfl) ?_
        refine q_pure tabOk 2 [0, 1, 5, 17, 18] (E' := [(0, .one (.sl 9 .str) a0), (1, .one (.sl 9 .str) a1), (5, .one (.int .i64) s4), (17, .one (.sl 9 .str) a0), (18, .one (.int .i64) s4)]) rfl ?_
        obtain ⟨hc, h⟩ := ite_ex h
        refine q_y (y_iref tabOk rfl rfl hc.1 hc.2 rfl ty9) rfl ?_
        refine q_y (y_ref rfl ty9) rfl ?_
        refine q_pure tabOk 2 [0, 1, 5, 20, 21, 22] (E' := [(0, .one (.sl 9 .str) a0), (1, .one (.sl 9 .str) a1), (5, .one (.int .i64) s4), (20, .one .str (List.getD a0 (Int.toNat s4) [])), (21, .one (.sl 9 .str) a1), (22, .one (.int .i64) s4)]) rfl ?_
        obtain ⟨hc, h⟩ := ite_ex h
        refine q_y (y_iref tabOk rfl rfl hc.1 hc.2 rfl ty9) rfl ?_
        refine q_y (y_ref rfl ty9) rfl ?_
        refine q_pure tabOk 1 [0, 1, 5, 25] (E' := [(0, .one (.sl 9 .str) a0), (1, .one (.sl 9 .str) a1), (5, .one (.int .i64) s4), (25, .one .bool ((List.getD a0 (Int.toNat s4) []) != (List.getD a1 (Int.toNat s4) [])))]) rfl ?_
        refine q_nil ?_
        refine r_then ?_
        refine r_if (b := ((List.getD a0 (Int.toNat s4) []) != (List.getD a1 (Int.toNat s4) []))) rfl (fun hc => ?_) (fun hc => ?_)
        · rw [if_pos hc] at h
          refine r_seq ?_
          refine r_region ?_
          refine r_pure tabOk 1 [4] (E' := [(4, .one .bool false)]) rfl ?_
          refine r_nil ?_
          refine r_then ?_
          refine r_ret ?_
          refine t_block ?_
          refine t_then ?_
          refine t_then ?_
          refine t_block ?_
          refine t_then ?_
          obtain rfl := Option.some.inj h
          exact r_ret1 rfl (.tmp rfl) (fun _ _ g => g) (fun _ _ _ => List.nil_sublist _)
        · rw [if_neg (ne_true_of_eq_false hc)] at h
          refine r_skip ?_
          refine r_inblock ?_
          refine r_then ?_
          refine r_region ?_
          refine r_pure tabOk 3 [0, 1, 5] (E' := [(0, .one (.sl 9 .str) a0), (1, .one (.sl 9 .str) a1), (5, .one (.int .i64) (IntKind.wrap .i64 (s4 + 1)))]) rfl ?_
          obtain ⟨i6, hi6, h⟩ := bnd_ex h
          rw [hi6]
          refine r_nil ?_
          refine r_then ?_
          refine r_less [0, 1, 5] rfl ?_
          exact r_backg i6 () (Nat.lt_succ_self _) h rfl rfl
      · rw [if_neg (ne_true_of_eq_false hc)] at h
        refine r_exit ?_
        refine e_then ?_
        refine e_then ?_
        refine e_eq ?_
        refine r_then ?_
        refine r_less [] rfl ?_
        exact r_meetk () () h rfl rfl
    · intro o2 gg h
      rw [← hk1] at h
      try dsimp only at h
      refine r_seq ?_
      refine r_region ?_
      refine r_pure tabOk 1 [4] (E' := [(4, .one .bool true)]) rfl ?_
      refine r_nil ?_
      refine r_then ?_
      refine r_ret ?_
      obtain rfl := Option.some.inj h
      exact r_ret1 rfl (.tmp rfl) (fun _ _ g => g) (fun _ _ _ => List.nil_sublist _)

theorem keysOk : KeysOk Try.prog 42 (Try.laysKeys_ren.f 10) (Try.laysKeys_ren.t 23) := keys_of Try.laysKeys

theorem sortedOk : SortedOk Try.prog 41 (Try.laysKeys_ren.f 10) (Try.laysKeys_ren.t 23) dI.int := sorted_of Try.laysKeys Try.laysSorted Try.laysSortI rfl rfl (fun _ _ => run_callFunc (by kernel_rfl)) (fun _ _ => run_callFunc (by kernel_rfl))

theorem disk_Disk_Dirty_ok (p0 : Value) (a0 : DiskS) (a1 : List Int) (r : List (Int)) (h : disk_Disk_Dirty a0 a1 = some r) : Fn Try.prog 12 [.one (.raw (.pointer none)) p0, .one .str a1] [Res.disk Try.prog dI p0 a0] (fun v => .one (.raw (.slice none 0 0)) v) (fun v => [Res.disk Try.prog dI p0 a0, Res.own v 3 (.int .i64) r]) := by
  unfold disk_Disk_Dirty at h
  refine enter Try.func12 rfl 21 rfl rfl fun F => ?_
  refine r_undisk fun b2 mv1 hp => ?_
  subst hp
  refine r_seq ?_
  refine r_region ?_
  refine r_pure tabOk 1 [0, 1] (E' := [(0, ptr b2 0), (1, .one .str a1)]) rfl ?_
  refine r_nil ?_
  refine r_then ?_
  refine r_seq ?_
  refine r_region ?_
  refine r_pure tabOk 2 [8, 9] (E' := [(8, ptr b2 0), (9, .one .str a1)]) rfl ?_
  obtain ⟨r3, hr3, h⟩ := bind_ex h
  refine r_call (Lo := []) (disk_Disk_found_ok b2 mv1 a0 a1 _ hr3) (by kernel_rfl) (List.Perm.refl _) rfl rfl fun v4 => ?_
  refine r_pure tabOk 5 [5, 6] (E' := [(5, .one (.raw (.pointer none)) (tupv v4 0)), (6, .one (.int .i64) r3)]) rfl ?_
  refine r_nil ?_
  refine r_then ?_
  refine r_seq ?_
  refine r_seq ?_
  refine r_region ?_
  refine r_pure tabOk 2 [5, 14] (E' := [(5, .one (.raw (.pointer none)) (tupv v4 0)), (14, .one .bool (r3 != 0))]) rfl ?_
  refine r_nil ?_
  refine r_then ?_
  refine r_if (b := (r3 != 0)) rfl (fun hc => ?_) (fun hc => ?_)
  · rw [if_pos hc] at h
    refine r_seq ?_
    refine r_region ?_
    refine r_pure tabOk 1 [4] (E' := [(4, .one (.raw (.slice none 0 0)) (.slice none 0 0))]) rfl ?_
    refine r_nil ?_
    refine r_then ?_
    refine r_ret ?_
    refine t_then ?_
    refine r_imp_at (R' := Res.dfiles Try.prog dI mv1 a0.2.1) 1 rfl dfound_dfiles ?_
    refine r_disk (P := Try.prog) (I := dI) (D := a0) ?_
    refine r_nilown (.slice none 0 0) rfl 3 (.int .i64) ?_
    obtain rfl := Option.some.inj h
    refine r_perm (L' := [Res.disk Try.prog dI (.pointer (some ⟨b2, 0, none⟩)) a0, Res.own (.slice none 0 0) 3 (.int .i64) []]) ((List.perm_middle (a := Res.disk Try.prog dI (.pointer (some ⟨b2, 0, none⟩)) a0) (l₁ := [Res.own (.slice none 0 0) 3 (.int .i64) []]) (l₂ := [])).trans (.cons _ (List.Perm.refl _))) ?_
    exact r_ret1 rfl (.tmp rfl) (fun _ _ g => holds_raw.2 ⟨rfl, by rw [(holds_raw.1 g).1]; exact (holds_raw.1 g).2⟩) (fun _ _ g => by obtain ⟨rfl, _⟩ := holds_raw.1 g; exact List.Sublist.refl _)
  · rw [if_neg (ne_true_of_eq_false hc)] at h
    refine r_skip ?_
    refine r_then ?_
    refine r_seq ?_
    obtain ⟨hc, h⟩ := ite_ex h
    refine r_imp_at (R' := Res.dat Try.prog dI mv1 a0.2.1 a1 (tupv v4 0)) 1 rfl (dfound_dat hc) ?_
    obtain ⟨f5, hf5, h⟩ := bind_ex h
    refine r_perm (L' := [Res.dat Try.prog dI mv1 a0.2.1 a1 (tupv v4 0), Res.var b2 71 DT (a0.1, mv1, a0.2.2.1, a0.2.2.2.1, a0.2.2.2.2.1, a0.2.2.2.2.2.1, a0.2.2.2.2.2.2, ())]) ((List.perm_middle (a := Res.dat Try.prog dI mv1 a0.2.1 a1 (tupv v4 0)) (l₁ := [Res.var b2 71 DT (a0.1, mv1, a0.2.2.1, a0.2.2.2.1, a0.2.2.2.2.1, a0.2.2.2.2.2.1, a0.2.2.2.2.2.2, ())]) (l₂ := [])).trans (.cons _ (List.Perm.refl _))) ?_
    refine r_dfocus kstr hf5 fun fb6 sv7 tv8 dv9 hq => ?_
    rw [hq]
    clear hq
    refine r_region ?_
    refine r_pure tabOk 3 [17] (E' := [(17, ptr fb6 2)]) rfl ?_
    refine y (y_load 0 ((.snd (.snd (.fst .here)))) rfl rfl (by first | rfl | (simp only [Pth.off, T.size]; omega)) (ok_snd (ok_snd (ok_fst ok_here))) ty79) rfl ?_
    obtain ⟨hc, h⟩ := ite_ex h
    refine r_sortedkeys keysOk sortedOk (by kernel_rfl) (by kernel_rfl) kint 3 rfl rfl hc rfl rfl rfl fun v10 => ?_
    refine r_pure tabOk 1 [4] (E' := [(4, .one (.raw (.slice none 0 0)) v10)]) rfl ?_
    refine r_nil ?_
    refine r_then ?_
    refine r_ret ?_
    refine r_perm (L' := [Res.var fb6 81 FT (sv7, tv8, dv9, ()), Res.own sv7 5 (.int .u8) f5.1, Res.own tv8 5 (.int .u8) f5.2.1, Res.dirty Try.prog dI dv9 f5.2.2, Res.dhole Try.prog dI mv1 a0.2.1 a1 (.pointer (some ⟨fb6, 0, none⟩)), Res.own v10 3 (.int .i64) f5.2.2, Res.var b2 71 DT (a0.1, mv1, a0.2.2.1, a0.2.2.2.1, a0.2.2.2.2.1, a0.2.2.2.2.2.1, a0.2.2.2.2.2.2, ())]) ((List.perm_middle (a := Res.var fb6 81 FT (sv7, tv8, dv9, ())) (l₁ := [Res.own v10 3 (.int .i64) f5.2.2]) (l₂ := [Res.own sv7 5 (.int .u8) f5.1, Res.own tv8 5 (.int .u8) f5.2.1, Res.dirty Try.prog dI dv9 f5.2.2, Res.dhole Try.prog dI mv1 a0.2.1 a1 (.pointer (some ⟨fb6, 0, none⟩)), Res.var b2 71 DT (a0.1, mv1, a0.2.2.1, a0.2.2.2.1, a0.2.2.2.2.1, a0.2.2.2.2.2.1, a0.2.2.2.2.2.2, ())])).trans (.cons _ ((List.perm_middle (a := Res.own sv7 5 (.int .u8) f5.1) (l₁ := [Res.own v10 3 (.int .i64) f5.2.2]) (l₂ := [Res.own tv8 5 (.int .u8) f5.2.1, Res.dirty Try.prog dI dv9 f5.2.2, Res.dhole Try.prog dI mv1 a0.2.1 a1 (.pointer (some ⟨fb6, 0, none⟩)), Res.var b2 71 DT (a0.1, mv1, a0.2.2.1, a0.2.2.2.1, a0.2.2.2.2.1, a0.2.2.2.2.2.1, a0.2.2.2.2.2.2, ())])).trans (.cons _ ((List.perm_middle (a := Res.own tv8 5 (.int .u8) f5.2.1) (l₁ := [Res.own v10 3 (.int .i64) f5.2.2]) (l₂ := [Res.dirty Try.prog dI dv9 f5.2.2, Res.dhole Try.prog dI mv1 a0.2.1 a1 (.pointer (some ⟨fb6, 0, none⟩)), Res.var b2 71 DT (a0.1, mv1, a0.2.2.1, a0.2.2.2.1, a0.2.2.2.2.1, a0.2.2.2.2.2.1, a0.2.2.2.2.2.2, ())])).trans (.cons _ ((List.perm_middle (a := Res.dirty Try.prog dI dv9 f5.2.2) (l₁ := [Res.own v10 3 (.int .i64) f5.2.2]) (l₂ := [Res.dhole Try.prog dI mv1 a0.2.1 a1 (.pointer (some ⟨fb6, 0, none⟩)), Res.var b2 71 DT (a0.1, mv1, a0.2.2.1, a0.2.2.2.1, a0.2.2.2.2.1, a0.2.2.2.2.2.1, a0.2.2.2.2.2.2, ())])).trans (.cons _ ((List.perm_middle (a := Res.dhole Try.prog dI mv1 a0.2.1 a1 (.pointer (some ⟨fb6, 0, none⟩))) (l₁ := [Res.own v10 3 (.int .i64) f5.2.2]) (l₂ := [Res.var b2 71 DT (a0.1, mv1, a0.2.2.1, a0.2.2.2.1, a0.2.2.2.2.1, a0.2.2.2.2.2.1, a0.2.2.2.2.2.2, ())])).trans (.cons _ (List.Perm.refl _))))))))))) ?_
    refine r_dunfocus_same (P := Try.prog) (I := dI) kstr hf5 ?_
    refine r_imp_at (R' := Res.dfiles Try.prog dI mv1 a0.2.1) 0 rfl dat_dfiles ?_
    refine r_perm (L' := [Res.var b2 71 DT (a0.1, mv1, a0.2.2.1, a0.2.2.2.1, a0.2.2.2.2.1, a0.2.2.2.2.2.1, a0.2.2.2.2.2.2, ()), Res.dfiles Try.prog dI mv1 a0.2.1, Res.own v10 3 (.int .i64) f5.2.2]) ((List.perm_middle (a := Res.var b2 71 DT (a0.1, mv1, a0.2.2.1, a0.2.2.2.1, a0.2.2.2.2.1, a0.2.2.2.2.2.1, a0.2.2.2.2.2.2, ())) (l₁ := [Res.dfiles Try.prog dI mv1 a0.2.1, Res.own v10 3 (.int .i64) f5.2.2]) (l₂ := [])).trans (.cons _ (List.Perm.refl _))) ?_
    refine r_disk (P := Try.prog) (I := dI) (D := a0) ?_
    obtain rfl := Option.some.inj h
    refine r_perm (L' := [Res.disk Try.prog dI (.pointer (some ⟨b2, 0, none⟩)) a0, Res.own v10 3 (.int .i64) f5.2.2]) (List.Perm.refl _) ?_
    exact r_ret1 rfl (.tmp rfl) (fun _ _ g => holds_raw.2 ⟨rfl, by rw [(holds_raw.1 g).1]; exact (holds_raw.1 g).2⟩) (fun _ _ g => by obtain ⟨rfl, _⟩ := holds_raw.1 g; exact List.Sublist.refl _)

theorem escrowlaw04_first_ok  (r : Bool) (h : escrowlaw04_first  = some r) : Pure Try.prog 8 [] (.one .bool r) := by
  unfold escrowlaw04_first at h
  refine enter Try.func8 rfl 129 rfl rfl fun F => ?_
  refine r_seq ?_
  refine r_region ?_
  refine r_pure tabOk 1 [] (E' := []) rfl ?_
  refine r_nil ?_
  refine r_then ?_
  refine r_seq ?_
  refine r_region ?_
  obtain ⟨r1, hr1, h⟩ := bind_ex h
  refine r_call (Lo := []) (disk_New_ok 1000 _ hr1) (by kernel_rfl) (List.Perm.refl _) rfl rfl fun v2 => ?_
  refine r_pure tabOk 5 [1, 2] (E' := [(1, .one (.raw (.pointer none)) (tupv v2 0)), (2, .one (.int .i64) r1.1)]) rfl ?_
  refine r_nil ?_
  refine r_then ?_
  refine r_seq ?_
  refine r_seq ?_
  refine r_region ?_
  refine r_pure tabOk 1 [1, 2, 20] (E' := [(1, .one (.raw (.pointer none)) (tupv v2 0)), (2, .one (.int .i64) r1.1), (20, .one (.raw (.pointer none)) (tupv v2 0))]) rfl ?_
  refine y (y_dnil 0 rfl rfl Try.underlying24) rfl ?_
  refine r_pure tabOk 1 [1, 2, 22] (E' := [(1, .one (.raw (.pointer none)) (tupv v2 0)), (2, .one (.int .i64) r1.1), (22, .one .bool (r1.1 != 0))]) rfl ?_
  obtain ⟨b3, hbb3, h⟩ := bnd_ex h
  rw [hbb3]
  refine r_lsplit (γ := Unit) 3 (fun _ => [(1, .one (.raw (.pointer none)) (tupv v2 0)), (25, .one .bool (b3 || (r1.1 != 0)))]) (fun _ => [Res.diskif Try.prog dI (tupv v2 0) r1.2 r1.1]) ?_ (fun _ => ?_)
  · clear h
    cases b3 with
    | true =>
    refine r_pure tabOk 3 [1, 25] (E' := [(1, .one (.raw (.pointer none)) (tupv v2 0)), (25, .one .bool true)]) rfl ?_
    refine r_nil ?_
    refine r_then ?_
    exact r_meetg () rfl rfl
    | false =>
    refine r_pure tabOk 3 [1, 25] (E' := [(1, .one (.raw (.pointer none)) (tupv v2 0)), (25, .one .bool (r1.1 != 0))]) rfl ?_
    refine r_nil ?_
    refine r_then ?_
    exact r_meetg () rfl rfl
  refine r_nil ?_
  refine r_then ?_
  refine r_if (b := (b3 || (r1.1 != 0))) rfl (fun hc => ?_) (fun hc => ?_)
  · rw [if_pos hc] at h
    refine r_seq ?_
    refine r_region ?_
    refine r_pure tabOk 1 [0] (E' := [(0, .one .bool false)]) rfl ?_
    refine r_nil ?_
    refine r_then ?_
    refine r_ret ?_
    refine t_then ?_
    obtain rfl := Option.some.inj h
    exact r_ret1 rfl (.tmp rfl) (fun _ _ g => g) (fun _ _ _ => List.nil_sublist _)
  · rw [if_neg (ne_true_of_eq_false hc)] at h
    refine r_skip ?_
    refine r_then ?_
    refine r_seq ?_
    refine r_region ?_
    refine r_pure tabOk 1 [1, 26] (E' := [(1, .one (.raw (.pointer none)) (tupv v2 0)), (26, .one (.raw (.pointer none)) (tupv v2 0))]) rfl ?_
    obtain ⟨he4, h⟩ := ite_ex h
    refine r_imp_at (R' := Res.disk Try.prog dI (tupv v2 0) r1.2) 0 rfl (diskif_disk he4) ?_
    obtain ⟨r5, hr5, h⟩ := bind_ex h
    refine r_call (Lo := []) (disk_Disk_Write_ok (tupv v2 0) r1.2 [97] 0 [104, 101, 108, 108, 111] _ hr5) (by kernel_rfl) (List.Perm.refl _) rfl rfl fun _ => ?_
    refine r_pure tabOk 1 [1, 3] (E' := [(1, .one (.raw (.pointer none)) (tupv v2 0)), (3, .one (.int .i64) r5.1)]) rfl ?_
    refine r_nil ?_
    refine r_then ?_
    refine r_seq ?_
    refine r_region ?_
    refine r_pure tabOk 1 [1, 3, 28] (E' := [(1, .one (.raw (.pointer none)) (tupv v2 0)), (3, .one (.int .i64) r5.1), (28, .one (.raw (.pointer none)) (tupv v2 0))]) rfl ?_
    obtain ⟨r6, hr6, h⟩ := bind_ex h
    refine r_call (Lo := []) (disk_Disk_Sync_ok (tupv v2 0) r5.2 [97] _ hr6) (by kernel_rfl) (List.Perm.refl _) rfl rfl fun _ => ?_
    refine r_pure tabOk 1 [1, 3, 4] (E' := [(1, .one (.raw (.pointer none)) (tupv v2 0)), (3, .one (.int .i64) r5.1), (4, .one (.int .i64) r6.1)]) rfl ?_
    refine r_nil ?_
    refine r_then ?_
    refine r_seq ?_
    refine r_region ?_
    refine r_pure tabOk 1 [1, 3, 4, 30] (E' := [(1, .one (.raw (.pointer none)) (tupv v2 0)), (3, .one (.int .i64) r5.1), (4, .one (.int .i64) r6.1), (30, .one (.raw (.pointer none)) (tupv v2 0))]) rfl ?_
    obtain ⟨r7, hr7, h⟩ := bind_ex h
    refine r_call (Lo := []) (disk_Disk_Write_ok (tupv v2 0) r6.2 [97] 5 [32, 121, 111, 117] _ hr7) (by kernel_rfl) (List.Perm.refl _) rfl rfl fun _ => ?_
    refine r_pure tabOk 1 [1, 3, 4, 5] (E' := [(1, .one (.raw (.pointer none)) (tupv v2 0)), (3, .one (.int .i64) r5.1), (4, .one (.int .i64) r6.1), (5, .one (.int .i64) r7.1)]) rfl ?_
    refine r_nil ?_
    refine r_then ?_
    refine r_seq ?_
    refine r_region ?_
    refine r_pure tabOk 1 [1, 3, 4, 5, 32] (E' := [(1, .one (.raw (.pointer none)) (tupv v2 0)), (3, .one (.int .i64) r5.1), (4, .one (.int .i64) r6.1), (5, .one (.int .i64) r7.1), (32, .one (.raw (.pointer none)) (tupv v2 0))]) rfl ?_
    obtain ⟨r8, hr8, h⟩ := bind_ex h
    refine r_calls (escrowlaw04_text_ok 120 200 _ hr8) (by kernel_rfl) rfl rfl ?_
    obtain ⟨r9, hr9, h⟩ := bind_ex h
    refine r_call (Lo := []) (disk_Disk_Write_ok (tupv v2 0) r7.2 [98] 0 r8 _ hr9) (by kernel_rfl) (List.Perm.refl _) rfl rfl fun _ => ?_
    refine r_pure tabOk 1 [1, 3, 4, 5, 6] (E' := [(1, .one (.raw (.pointer none)) (tupv v2 0)), (3, .one (.int .i64) r5.1), (4, .one (.int .i64) r6.1), (5, .one (.int .i64) r7.1), (6, .one (.int .i64) r9.1)]) rfl ?_
    refine r_nil ?_
    refine r_then ?_
    refine r_seq ?_
    refine r_region ?_
    refine r_pure tabOk 1 [1, 3, 4, 5, 6, 35] (E' := [(1, .one (.raw (.pointer none)) (tupv v2 0)), (3, .one (.int .i64) r5.1), (4, .one (.int .i64) r6.1), (5, .one (.int .i64) r7.1), (6, .one (.int .i64) r9.1), (35, .one (.raw (.pointer none)) (tupv v2 0))]) rfl ?_
    refine y (y_build rfl zf67 rfl rfl (.cons ((.fst .here)) rfl rfl ok_here (.cons ((.snd (.fst .here))) rfl rfl ok_here (.cons ((.snd (.snd (.fst .here)))) rfl rfl ok_here .nil)))) rfl ?_
    refine y (y_build rfl zf67 rfl rfl (.cons ((.fst .here)) rfl rfl ok_here (.cons ((.snd (.fst .here))) rfl rfl ok_here (.cons ((.snd (.snd (.fst .here)))) rfl rfl ok_here (.cons ((.snd (.snd (.snd (.fst .here))))) rfl rfl ok_here .nil))))) rfl ?_
    refine r_lits (B := 48) tabOk rfl el67 rfl rfl rfl (.cons rfl (.cons rfl .nil)) rfl fun v10 => ?_
    refine r_freeze (i := 0) (k := 38) rfl rfl ?_
    obtain ⟨r11, hr11, h⟩ := bind_ex h
    refine r_call (Lo := []) (disk_Disk_Crash_ok (tupv v2 0) r9.2 ([([98], 1, 1, [], ()), ([98], 2, 2, [121, 121], ())]) _ hr11) (by kernel_rfl) (List.Perm.refl _) rfl rfl fun _ => ?_
    refine r_nil ?_
    refine r_then ?_
    refine r_seq ?_
    refine r_region ?_
    refine r_pure tabOk 1 [1, 3, 4, 5, 6, 41] (E' := [(1, .one (.raw (.pointer none)) (tupv v2 0)), (3, .one (.int .i64) r5.1), (4, .one (.int .i64) r6.1), (5, .one (.int .i64) r7.1), (6, .one (.int .i64) r9.1), (41, .one (.raw (.pointer none)) (tupv v2 0))]) rfl ?_
    obtain ⟨r12, hr12, h⟩ := bind_ex h
    refine r_call (Lo := []) (disk_Disk_Read_ok (tupv v2 0) r11 [97] 0 9 _ hr12) (by kernel_rfl) (List.Perm.refl _) rfl rfl fun _ => ?_
    refine r_pure tabOk 5 [1, 3, 4, 5, 6, 8] (E' := [(1, .one (.raw (.pointer none)) (tupv v2 0)), (3, .one (.int .i64) r5.1), (4, .one (.int .i64) r6.1), (5, .one (.int .i64) r7.1), (6, .one (.int .i64) r9.1), (8, .one (.int .i64) r12.2)]) rfl ?_
    refine r_nil ?_
    refine r_then ?_
    refine r_seq ?_
    refine r_region ?_
    refine r_pure tabOk 1 [1, 3, 4, 5, 6, 8, 45] (E' := [(1, .one (.raw (.pointer none)) (tupv v2 0)), (3, .one (.int .i64) r5.1), (4, .one (.int .i64) r6.1), (5, .one (.int .i64) r7.1), (6, .one (.int .i64) r9.1), (8, .one (.int .i64) r12.2), (45, .one (.raw (.pointer none)) (tupv v2 0))]) rfl ?_
    obtain ⟨r13, hr13, h⟩ := bind_ex h
    refine r_call (Lo := []) (disk_Disk_Off_ok (tupv v2 0) r11 _ hr13) (by kernel_rfl) (List.Perm.refl _) rfl rfl fun _ => ?_
    refine r_pure tabOk 1 [1, 3, 4, 5, 6, 8, 9] (E' := [(1, .one (.raw (.pointer none)) (tupv v2 0)), (3, .one (.int .i64) r5.1), (4, .one (.int .i64) r6.1), (5, .one (.int .i64) r7.1), (6, .one (.int .i64) r9.1), (8, .one (.int .i64) r12.2), (9, .one .bool r13)]) rfl ?_
    refine r_nil ?_
    refine r_then ?_
    refine r_seq ?_
    refine r_region ?_
    refine r_pure tabOk 1 [1, 3, 4, 5, 6, 8, 9, 47] (E' := [(1, .one (.raw (.pointer none)) (tupv v2 0)), (3, .one (.int .i64) r5.1), (4, .one (.int .i64) r6.1), (5, .one (.int .i64) r7.1), (6, .one (.int .i64) r9.1), (8, .one (.int .i64) r12.2), (9, .one .bool r13), (47, .one (.raw (.pointer none)) (tupv v2 0))]) rfl ?_
    obtain ⟨r14, hr14, h⟩ := bind_ex h
    refine r_call (Lo := []) (disk_Disk_On_ok (tupv v2 0) r11 _ hr14) (by kernel_rfl) (List.Perm.refl _) rfl rfl fun _ => ?_
    refine r_nil ?_
    refine r_then ?_
    refine r_seq ?_
    refine r_region ?_
    refine r_pure tabOk 1 [1, 3, 4, 5, 6, 8, 9, 50] (E' := [(1, .one (.raw (.pointer none)) (tupv v2 0)), (3, .one (.int .i64) r5.1), (4, .one (.int .i64) r6.1), (5, .one (.int .i64) r7.1), (6, .one (.int .i64) r9.1), (8, .one (.int .i64) r12.2), (9, .one .bool r13), (50, .one (.raw (.pointer none)) (tupv v2 0))]) rfl ?_
    obtain ⟨r15, hr15, h⟩ := bind_ex h
    refine r_call (Lo := []) (disk_Disk_Read_ok (tupv v2 0) r14 [97] 0 9 _ hr15) (by kernel_rfl) (List.Perm.refl _) rfl rfl fun _ => ?_
    refine r_pure tabOk 5 [1, 3, 4, 5, 6, 8, 9, 10, 11] (E' := [(1, .one (.raw (.pointer none)) (tupv v2 0)), (3, .one (.int .i64) r5.1), (4, .one (.int .i64) r6.1), (5, .one (.int .i64) r7.1), (6, .one (.int .i64) r9.1), (8, .one (.int .i64) r12.2), (9, .one .bool r13), (10, .one .str r15.1), (11, .one (.int .i64) r15.2)]) rfl ?_
    refine r_nil ?_
    refine r_then ?_
    refine r_seq ?_
    refine r_region ?_
    refine r_pure tabOk 1 [1, 3, 4, 5, 6, 8, 9, 10, 11, 55] (E' := [(1, .one (.raw (.pointer none)) (tupv v2 0)), (3, .one (.int .i64) r5.1), (4, .one (.int .i64) r6.1), (5, .one (.int .i64) r7.1), (6, .one (.int .i64) r9.1), (8, .one (.int .i64) r12.2), (9, .one .bool r13), (10, .one .str r15.1), (11, .one (.int .i64) r15.2), (55, .one (.raw (.pointer none)) (tupv v2 0))]) rfl ?_
    obtain ⟨r16, hr16, h⟩ := bind_ex h
    refine r_call (Lo := []) (disk_Disk_Size_ok (tupv v2 0) r14 [98] _ hr16) (by kernel_rfl) (List.Perm.refl _) rfl rfl fun _ => ?_
    refine r_pure tabOk 5 [1, 3, 4, 5, 6, 8, 9, 10, 11, 12, 13] (E' := [(1, .one (.raw (.pointer none)) (tupv v2 0)), (3, .one (.int .i64) r5.1), (4, .one (.int .i64) r6.1), (5, .one (.int .i64) r7.1), (6, .one (.int .i64) r9.1), (8, .one (.int .i64) r12.2), (9, .one .bool r13), (10, .one .str r15.1), (11, .one (.int .i64) r15.2), (12, .one (.int .i64) r16.1), (13, .one (.int .i64) r16.2)]) rfl ?_
    refine r_nil ?_
    refine r_then ?_
    refine r_seq ?_
    refine r_region ?_
    refine r_pure tabOk 1 [1, 3, 4, 5, 6, 8, 9, 10, 11, 12, 13, 60] (E' := [(1, .one (.raw (.pointer none)) (tupv v2 0)), (3, .one (.int .i64) r5.1), (4, .one (.int .i64) r6.1), (5, .one (.int .i64) r7.1), (6, .one (.int .i64) r9.1), (8, .one (.int .i64) r12.2), (9, .one .bool r13), (10, .one .str r15.1), (11, .one (.int .i64) r15.2), (12, .one (.int .i64) r16.1), (13, .one (.int .i64) r16.2), (60, .one (.raw (.pointer none)) (tupv v2 0))]) rfl ?_
    obtain ⟨r17, hr17, h⟩ := bind_ex h
    refine r_call (Lo := []) (disk_Disk_Read_ok (tupv v2 0) r14 [98] 63 68 _ hr17) (by kernel_rfl) (List.Perm.refl _) rfl rfl fun _ => ?_
    refine r_pure tabOk 5 [1, 3, 4, 5, 6, 8, 9, 10, 11, 12, 13, 14, 15] (E' := [(1, .one (.raw (.pointer none)) (tupv v2 0)), (3, .one (.int .i64) r5.1), (4, .one (.int .i64) r6.1), (5, .one (.int .i64) r7.1), (6, .one (.int .i64) r9.1), (8, .one (.int .i64) r12.2), (9, .one .bool r13), (10, .one .str r15.1), (11, .one (.int .i64) r15.2), (12, .one (.int .i64) r16.1), (13, .one (.int .i64) r16.2), (14, .one .str r17.1), (15, .one (.int .i64) r17.2)]) rfl ?_
    refine r_nil ?_
    refine r_then ?_
    refine r_seq ?_
    refine r_region ?_
    refine r_pure tabOk 3 [1, 4, 5, 6, 8, 9, 10, 11, 12, 13, 14, 15, 66] (E' := [(1, .one (.raw (.pointer none)) (tupv v2 0)), (4, .one (.int .i64) r6.1), (5, .one (.int .i64) r7.1), (6, .one (.int .i64) r9.1), (8, .one (.int .i64) r12.2), (9, .one .bool r13), (10, .one .str r15.1), (11, .one (.int .i64) r15.2), (12, .one (.int .i64) r16.1), (13, .one (.int .i64) r16.2), (14, .one .str r17.1), (15, .one (.int .i64) r17.2), (66, .one .bool (r5.1 == 0))]) rfl ?_
    obtain ⟨b18, hbb18, h⟩ := bnd_ex h
    rw [hbb18]
    refine r_lsplit (γ := Unit) 3 (fun _ => [(1, .one (.raw (.pointer none)) (tupv v2 0)), (5, .one (.int .i64) r7.1), (6, .one (.int .i64) r9.1), (8, .one (.int .i64) r12.2), (9, .one .bool r13), (10, .one .str r15.1), (11, .one (.int .i64) r15.2), (12, .one (.int .i64) r16.1), (13, .one (.int .i64) r16.2), (14, .one .str r17.1), (15, .one (.int .i64) r17.2), (69, .one .bool (b18 && (r6.1 == 0)))]) (fun _ => [Res.disk Try.prog dI (tupv v2 0) r14]) ?_ (fun _ => ?_)
    · clear h
      cases b18 with
      | true =>
      refine r_pure tabOk 3 [1, 5, 6, 8, 9, 10, 11, 12, 13, 14, 15, 69] (E' := [(1, .one (.raw (.pointer none)) (tupv v2 0)), (5, .one (.int .i64) r7.1), (6, .one (.int .i64) r9.1), (8, .one (.int .i64) r12.2), (9, .one .bool r13), (10, .one .str r15.1), (11, .one (.int .i64) r15.2), (12, .one (.int .i64) r16.1), (13, .one (.int .i64) r16.2), (14, .one .str r17.1), (15, .one (.int .i64) r17.2), (69, .one .bool (r6.1 == 0))]) rfl ?_
      refine r_nil ?_
      refine r_then ?_
      exact r_meetg () rfl rfl
      | false =>
      refine r_pure tabOk 3 [1, 5, 6, 8, 9, 10, 11, 12, 13, 14, 15, 69] (E' := [(1, .one (.raw (.pointer none)) (tupv v2 0)), (5, .one (.int .i64) r7.1), (6, .one (.int .i64) r9.1), (8, .one (.int .i64) r12.2), (9, .one .bool r13), (10, .one .str r15.1), (11, .one (.int .i64) r15.2), (12, .one (.int .i64) r16.1), (13, .one (.int .i64) r16.2), (14, .one .str r17.1), (15, .one (.int .i64) r17.2), (69, .one .bool false)]) rfl ?_
      refine r_nil ?_
      refine r_then ?_
      exact r_meetg () rfl rfl
    refine r_pure tabOk 1 [1, 5, 6, 8, 9, 10, 11, 12, 13, 14, 15, 70] (E' := [(1, .one (.raw (.pointer none)) (tupv v2 0)), (5, .one (.int .i64) r7.1), (6, .one (.int .i64) r9.1), (8, .one (.int .i64) r12.2), (9, .one .bool r13), (10, .one .str r15.1), (11, .one (.int .i64) r15.2), (12, .one (.int .i64) r16.1), (13, .one (.int .i64) r16.2), (14, .one .str r17.1), (15, .one (.int .i64) r17.2), (70, .one .bool (b18 && (r6.1 == 0)))]) rfl ?_
    obtain ⟨b19, hbb19, h⟩ := bnd_ex h
    rw [hbb19]
    refine r_lsplit (γ := Unit) 3 (fun _ => [(1, .one (.raw (.pointer none)) (tupv v2 0)), (6, .one (.int .i64) r9.1), (8, .one (.int .i64) r12.2), (9, .one .bool r13), (10, .one .str r15.1), (11, .one (.int .i64) r15.2), (12, .one (.int .i64) r16.1), (13, .one (.int .i64) r16.2), (14, .one .str r17.1), (15, .one (.int .i64) r17.2), (73, .one .bool (b19 && (r7.1 == 0)))]) (fun _ => [Res.disk Try.prog dI (tupv v2 0) r14]) ?_ (fun _ => ?_)
    · clear h
      cases b19 with
      | true =>
      refine r_pure tabOk 3 [1, 6, 8, 9, 10, 11, 12, 13, 14, 15, 73] (E' := [(1, .one (.raw (.pointer none)) (tupv v2 0)), (6, .one (.int .i64) r9.1), (8, .one (.int .i64) r12.2), (9, .one .bool r13), (10, .one .str r15.1), (11, .one (.int .i64) r15.2), (12, .one (.int .i64) r16.1), (13, .one (.int .i64) r16.2), (14, .one .str r17.1), (15, .one (.int .i64) r17.2), (73, .one .bool (r7.1 == 0))]) rfl ?_
      refine r_nil ?_
      refine r_then ?_
      exact r_meetg () rfl rfl
      | false =>
      refine r_pure tabOk 3 [1, 6, 8, 9, 10, 11, 12, 13, 14, 15, 73] (E' := [(1, .one (.raw (.pointer none)) (tupv v2 0)), (6, .one (.int .i64) r9.1), (8, .one (.int .i64) r12.2), (9, .one .bool r13), (10, .one .str r15.1), (11, .one (.int .i64) r15.2), (12, .one (.int .i64) r16.1), (13, .one (.int .i64) r16.2), (14, .one .str r17.1), (15, .one (.int .i64) r17.2), (73, .one .bool false)]) rfl ?_
      refine r_nil ?_
      refine r_then ?_
      exact r_meetg () rfl rfl
    refine r_pure tabOk 1 [1, 6, 8, 9, 10, 11, 12, 13, 14, 15, 74] (E' := [(1, .one (.raw (.pointer none)) (tupv v2 0)), (6, .one (.int .i64) r9.1), (8, .one (.int .i64) r12.2), (9, .one .bool r13), (10, .one .str r15.1), (11, .one (.int .i64) r15.2), (12, .one (.int .i64) r16.1), (13, .one (.int .i64) r16.2), (14, .one .str r17.1), (15, .one (.int .i64) r17.2), (74, .one .bool (b19 && (r7.1 == 0)))]) rfl ?_
    obtain ⟨b20, hbb20, h⟩ := bnd_ex h
    rw [hbb20]
    refine r_lsplit (γ := Unit) 3 (fun _ => [(1, .one (.raw (.pointer none)) (tupv v2 0)), (8, .one (.int .i64) r12.2), (9, .one .bool r13), (10, .one .str r15.1), (11, .one (.int .i64) r15.2), (12, .one (.int .i64) r16.1), (13, .one (.int .i64) r16.2), (14, .one .str r17.1), (15, .one (.int .i64) r17.2), (77, .one .bool (b20 && (r9.1 == 0)))]) (fun _ => [Res.disk Try.prog dI (tupv v2 0) r14]) ?_ (fun _ => ?_)
    · clear h
      cases b20 with
      | true =>
      refine r_pure tabOk 3 [1, 8, 9, 10, 11, 12, 13, 14, 15, 77] (E' := [(1, .one (.raw (.pointer none)) (tupv v2 0)), (8, .one (.int .i64) r12.2), (9, .one .bool r13), (10, .one .str r15.1), (11, .one (.int .i64) r15.2), (12, .one (.int .i64) r16.1), (13, .one (.int .i64) r16.2), (14, .one .str r17.1), (15, .one (.int .i64) r17.2), (77, .one .bool (r9.1 == 0))]) rfl ?_
      refine r_nil ?_
      refine r_then ?_
      exact r_meetg () rfl rfl
      | false =>
      refine r_pure tabOk 3 [1, 8, 9, 10, 11, 12, 13, 14, 15, 77] (E' := [(1, .one (.raw (.pointer none)) (tupv v2 0)), (8, .one (.int .i64) r12.2), (9, .one .bool r13), (10, .one .str r15.1), (11, .one (.int .i64) r15.2), (12, .one (.int .i64) r16.1), (13, .one (.int .i64) r16.2), (14, .one .str r17.1), (15, .one (.int .i64) r17.2), (77, .one .bool false)]) rfl ?_
      refine r_nil ?_
      refine r_then ?_
      exact r_meetg () rfl rfl
    refine r_pure tabOk 1 [1, 8, 9, 10, 11, 12, 13, 14, 15, 78] (E' := [(1, .one (.raw (.pointer none)) (tupv v2 0)), (8, .one (.int .i64) r12.2), (9, .one .bool r13), (10, .one .str r15.1), (11, .one (.int .i64) r15.2), (12, .one (.int .i64) r16.1), (13, .one (.int .i64) r16.2), (14, .one .str r17.1), (15, .one (.int .i64) r17.2), (78, .one .bool (b20 && (r9.1 == 0)))]) rfl ?_
    obtain ⟨b21, hbb21, h⟩ := bnd_ex h
    rw [hbb21]
    refine r_lsplit (γ := Unit) 3 (fun _ => [(1, .one (.raw (.pointer none)) (tupv v2 0)), (9, .one .bool r13), (10, .one .str r15.1), (11, .one (.int .i64) r15.2), (12, .one (.int .i64) r16.1), (13, .one (.int .i64) r16.2), (14, .one .str r17.1), (15, .one (.int .i64) r17.2), (81, .one .bool (b21 && (r12.2 == 9)))]) (fun _ => [Res.disk Try.prog dI (tupv v2 0) r14]) ?_ (fun _ => ?_)
    · clear h
      cases b21 with
      | true =>
      refine r_pure tabOk 3 [1, 9, 10, 11, 12, 13, 14, 15, 81] (E' := [(1, .one (.raw (.pointer none)) (tupv v2 0)), (9, .one .bool r13), (10, .one .str r15.1), (11, .one (.int .i64) r15.2), (12, .one (.int .i64) r16.1), (13, .one (.int .i64) r16.2), (14, .one .str r17.1), (15, .one (.int .i64) r17.2), (81, .one .bool (r12.2 == 9))]) rfl ?_
      refine r_nil ?_
      refine r_then ?_
      exact r_meetg () rfl rfl
      | false =>
      refine r_pure tabOk 3 [1, 9, 10, 11, 12, 13, 14, 15, 81] (E' := [(1, .one (.raw (.pointer none)) (tupv v2 0)), (9, .one .bool r13), (10, .one .str r15.1), (11, .one (.int .i64) r15.2), (12, .one (.int .i64) r16.1), (13, .one (.int .i64) r16.2), (14, .one .str r17.1), (15, .one (.int .i64) r17.2), (81, .one .bool false)]) rfl ?_
      refine r_nil ?_
      refine r_then ?_
      exact r_meetg () rfl rfl
    refine r_pure tabOk 1 [1, 9, 10, 11, 12, 13, 14, 15, 82] (E' := [(1, .one (.raw (.pointer none)) (tupv v2 0)), (9, .one .bool r13), (10, .one .str r15.1), (11, .one (.int .i64) r15.2), (12, .one (.int .i64) r16.1), (13, .one (.int .i64) r16.2), (14, .one .str r17.1), (15, .one (.int .i64) r17.2), (82, .one .bool (b21 && (r12.2 == 9)))]) rfl ?_
    obtain ⟨b22, hbb22, h⟩ := bnd_ex h
    rw [hbb22]
    refine r_lsplit (γ := Unit) 2 (fun _ => [(1, .one (.raw (.pointer none)) (tupv v2 0)), (10, .one .str r15.1), (11, .one (.int .i64) r15.2), (12, .one (.int .i64) r16.1), (13, .one (.int .i64) r16.2), (14, .one .str r17.1), (15, .one (.int .i64) r17.2), (84, .one .bool (b22 && r13))]) (fun _ => [Res.disk Try.prog dI (tupv v2 0) r14]) ?_ (fun _ => ?_)
    · clear h
      cases b22 with
      | true =>
      refine r_pure tabOk 2 [1, 10, 11, 12, 13, 14, 15, 84] (E' := [(1, .one (.raw (.pointer none)) (tupv v2 0)), (10, .one .str r15.1), (11, .one (.int .i64) r15.2), (12, .one (.int .i64) r16.1), (13, .one (.int .i64) r16.2), (14, .one .str r17.1), (15, .one (.int .i64) r17.2), (84, .one .bool r13)]) rfl ?_
      refine r_nil ?_
      refine r_then ?_
      exact r_meetg () rfl rfl
      | false =>
      refine r_pure tabOk 2 [1, 10, 11, 12, 13, 14, 15, 84] (E' := [(1, .one (.raw (.pointer none)) (tupv v2 0)), (10, .one .str r15.1), (11, .one (.int .i64) r15.2), (12, .one (.int .i64) r16.1), (13, .one (.int .i64) r16.2), (14, .one .str r17.1), (15, .one (.int .i64) r17.2), (84, .one .bool false)]) rfl ?_
      refine r_nil ?_
      refine r_then ?_
      exact r_meetg () rfl rfl
    refine r_pure tabOk 1 [1, 10, 11, 12, 13, 14, 15, 85] (E' := [(1, .one (.raw (.pointer none)) (tupv v2 0)), (10, .one .str r15.1), (11, .one (.int .i64) r15.2), (12, .one (.int .i64) r16.1), (13, .one (.int .i64) r16.2), (14, .one .str r17.1), (15, .one (.int .i64) r17.2), (85, .one .bool (b22 && r13))]) rfl ?_
    obtain ⟨b23, hbb23, h⟩ := bnd_ex h
    rw [hbb23]
    refine r_lsplit (γ := Unit) 3 (fun _ => [(1, .one (.raw (.pointer none)) (tupv v2 0)), (11, .one (.int .i64) r15.2), (12, .one (.int .i64) r16.1), (13, .one (.int .i64) r16.2), (14, .one .str r17.1), (15, .one (.int .i64) r17.2), (88, .one .bool (b23 && (r15.1 == [104, 101, 108, 108, 111])))]) (fun _ => [Res.disk Try.prog dI (tupv v2 0) r14]) ?_ (fun _ => ?_)
    · clear h
      cases b23 with
      | true =>
      refine r_pure tabOk 3 [1, 11, 12, 13, 14, 15, 88] (E' := [(1, .one (.raw (.pointer none)) (tupv v2 0)), (11, .one (.int .i64) r15.2), (12, .one (.int .i64) r16.1), (13, .one (.int .i64) r16.2), (14, .one .str r17.1), (15, .one (.int .i64) r17.2), (88, .one .bool (r15.1 == [104, 101, 108, 108, 111]))]) rfl ?_
      refine r_nil ?_
      refine r_then ?_
      exact r_meetg () rfl rfl
      | false =>
      refine r_pure tabOk 3 [1, 11, 12, 13, 14, 15, 88] (E' := [(1, .one (.raw (.pointer none)) (tupv v2 0)), (11, .one (.int .i64) r15.2), (12, .one (.int .i64) r16.1), (13, .one (.int .i64) r16.2), (14, .one .str r17.1), (15, .one (.int .i64) r17.2), (88, .one .bool false)]) rfl ?_
      refine r_nil ?_
      refine r_then ?_
      exact r_meetg () rfl rfl
    refine r_pure tabOk 1 [1, 11, 12, 13, 14, 15, 89] (E' := [(1, .one (.raw (.pointer none)) (tupv v2 0)), (11, .one (.int .i64) r15.2), (12, .one (.int .i64) r16.1), (13, .one (.int .i64) r16.2), (14, .one .str r17.1), (15, .one (.int .i64) r17.2), (89, .one .bool (b23 && (r15.1 == [104, 101, 108, 108, 111])))]) rfl ?_
    obtain ⟨b24, hbb24, h⟩ := bnd_ex h
    rw [hbb24]
    refine r_lsplit (γ := Unit) 3 (fun _ => [(1, .one (.raw (.pointer none)) (tupv v2 0)), (12, .one (.int .i64) r16.1), (13, .one (.int .i64) r16.2), (14, .one .str r17.1), (15, .one (.int .i64) r17.2), (92, .one .bool (b24 && (r15.2 == 0)))]) (fun _ => [Res.disk Try.prog dI (tupv v2 0) r14]) ?_ (fun _ => ?_)
    · clear h
      cases b24 with
      | true =>
      refine r_pure tabOk 3 [1, 12, 13, 14, 15, 92] (E' := [(1, .one (.raw (.pointer none)) (tupv v2 0)), (12, .one (.int .i64) r16.1), (13, .one (.int .i64) r16.2), (14, .one .str r17.1), (15, .one (.int .i64) r17.2), (92, .one .bool (r15.2 == 0))]) rfl ?_
      refine r_nil ?_
      refine r_then ?_
      exact r_meetg () rfl rfl
      | false =>
      refine r_pure tabOk 3 [1, 12, 13, 14, 15, 92] (E' := [(1, .one (.raw (.pointer none)) (tupv v2 0)), (12, .one (.int .i64) r16.1), (13, .one (.int .i64) r16.2), (14, .one .str r17.1), (15, .one (.int .i64) r17.2), (92, .one .bool false)]) rfl ?_
      refine r_nil ?_
      refine r_then ?_
      exact r_meetg () rfl rfl
    refine r_pure tabOk 1 [1, 12, 13, 14, 15, 93] (E' := [(1, .one (.raw (.pointer none)) (tupv v2 0)), (12, .one (.int .i64) r16.1), (13, .one (.int .i64) r16.2), (14, .one .str r17.1), (15, .one (.int .i64) r17.2), (93, .one .bool (b24 && (r15.2 == 0)))]) rfl ?_
    obtain ⟨b25, hbb25, h⟩ := bnd_ex h
    rw [hbb25]
    refine r_lsplit (γ := Unit) 3 (fun _ => [(1, .one (.raw (.pointer none)) (tupv v2 0)), (13, .one (.int .i64) r16.2), (14, .one .str r17.1), (15, .one (.int .i64) r17.2), (96, .one .bool (b25 && (r16.1 == 192)))]) (fun _ => [Res.disk Try.prog dI (tupv v2 0) r14]) ?_ (fun _ => ?_)
    · clear h
      cases b25 with
      | true =>
      refine r_pure tabOk 3 [1, 13, 14, 15, 96] (E' := [(1, .one (.raw (.pointer none)) (tupv v2 0)), (13, .one (.int .i64) r16.2), (14, .one .str r17.1), (15, .one (.int .i64) r17.2), (96, .one .bool (r16.1 == 192))]) rfl ?_
      refine r_nil ?_
      refine r_then ?_
      exact r_meetg () rfl rfl
      | false =>
      refine r_pure tabOk 3 [1, 13, 14, 15, 96] (E' := [(1, .one (.raw (.pointer none)) (tupv v2 0)), (13, .one (.int .i64) r16.2), (14, .one .str r17.1), (15, .one (.int .i64) r17.2), (96, .one .bool false)]) rfl ?_
      refine r_nil ?_
      refine r_then ?_
      exact r_meetg () rfl rfl
    refine r_pure tabOk 1 [1, 13, 14, 15, 97] (E' := [(1, .one (.raw (.pointer none)) (tupv v2 0)), (13, .one (.int .i64) r16.2), (14, .one .str r17.1), (15, .one (.int .i64) r17.2), (97, .one .bool (b25 && (r16.1 == 192)))]) rfl ?_
    obtain ⟨b26, hbb26, h⟩ := bnd_ex h
    rw [hbb26]
    refine r_lsplit (γ := Unit) 3 (fun _ => [(1, .one (.raw (.pointer none)) (tupv v2 0)), (14, .one .str r17.1), (15, .one (.int .i64) r17.2), (100, .one .bool (b26 && (r16.2 == 0)))]) (fun _ => [Res.disk Try.prog dI (tupv v2 0) r14]) ?_ (fun _ => ?_)
    · clear h
      cases b26 with
      | true =>
      refine r_pure tabOk 3 [1, 14, 15, 100] (E' := [(1, .one (.raw (.pointer none)) (tupv v2 0)), (14, .one .str r17.1), (15, .one (.int .i64) r17.2), (100, .one .bool (r16.2 == 0))]) rfl ?_
      refine r_nil ?_
      refine r_then ?_
      exact r_meetg () rfl rfl
      | false =>
      refine r_pure tabOk 3 [1, 14, 15, 100] (E' := [(1, .one (.raw (.pointer none)) (tupv v2 0)), (14, .one .str r17.1), (15, .one (.int .i64) r17.2), (100, .one .bool false)]) rfl ?_
      refine r_nil ?_
      refine r_then ?_
      exact r_meetg () rfl rfl
    refine r_pure tabOk 1 [1, 14, 15, 101] (E' := [(1, .one (.raw (.pointer none)) (tupv v2 0)), (14, .one .str r17.1), (15, .one (.int .i64) r17.2), (101, .one .bool (b26 && (r16.2 == 0)))]) rfl ?_
    obtain ⟨b27, hbb27, h⟩ := bnd_ex h
    rw [hbb27]
    obtain ⟨k28, hk28, h⟩ := bnd_ex h
    refine r_lsplitk (γ := Unit) 6 (fun (o29 : Bool) _ => [(1, .one (.raw (.pointer none)) (tupv v2 0)), (15, .one (.int .i64) r17.2), (107, .one .bool o29)]) (fun _ _ => [Res.disk Try.prog dI (tupv v2 0) r14]) k28 r ?_ ?_
    · rcases Bool.eq_false_or_eq_true b27 with hh | hh
      · rw [hh] at h ⊢
        rw [if_pos rfl] at h
        refine r_pure tabOk 1 [1, 15, 101, 102] (E' := [(1, .one (.raw (.pointer none)) (tupv v2 0)), (15, .one (.int .i64) r17.2), (101, .one .bool true), (102, .one .str r17.1)]) rfl ?_
        refine r_guard (by rfl) rfl ?_
        obtain ⟨r30, hr30, h⟩ := bind_ex h
        refine r_calls (escrowlaw04_text_ok 120 64 _ hr30) (by kernel_rfl) rfl rfl ?_
        refine r_guard (by rfl) rfl ?_
        obtain ⟨hc, h⟩ := ite_ex h
        refine y (y_cat rfl rfl hc) rfl ?_
        refine r_guard (by rfl) rfl ?_
        obtain ⟨hc, h⟩ := ite_ex h
        refine y (y_cat rfl rfl hc) rfl ?_
        refine r_pure tabOk 2 [1, 15, 107] (E' := [(1, .one (.raw (.pointer none)) (tupv v2 0)), (15, .one (.int .i64) r17.2), (107, .one .bool (r17.1 == (([0] ++ r30) ++ [121, 121, 0])))]) rfl ?_
        refine r_nil ?_
        refine r_less [1, 15, 107] rfl ?_
        refine r_then ?_
        exact r_meetk (r17.1 == (([0] ++ r30) ++ [121, 121, 0])) () h rfl rfl
      · rw [hh] at h ⊢
        rw [if_neg (by decide)] at h
        refine r_pure tabOk 6 [1, 15, 107] (E' := [(1, .one (.raw (.pointer none)) (tupv v2 0)), (15, .one (.int .i64) r17.2), (107, .one .bool false)]) rfl ?_
        refine r_nil ?_
        refine r_less [1, 15, 107] rfl ?_
        refine r_then ?_
        exact r_meetk false () h rfl rfl
    · intro o29 _ h
      rw [← hk28] at h
      try dsimp only at h
      refine r_pure tabOk 1 [1, 15, 108] (E' := [(1, .one (.raw (.pointer none)) (tupv v2 0)), (15, .one (.int .i64) r17.2), (108, .one .bool o29)]) rfl ?_
      refine r_lsplit (γ := Unit) 3 (fun _ => [(1, .one (.raw (.pointer none)) (tupv v2 0)), (111, .one .bool (o29 && (r17.2 == 0)))]) (fun _ => [Res.disk Try.prog dI (tupv v2 0) r14]) ?_ (fun _ => ?_)
      · clear h
        rcases Bool.eq_false_or_eq_true o29 with hh | hh
        · rw [hh]
          refine r_pure tabOk 3 [1, 111] (E' := [(1, .one (.raw (.pointer none)) (tupv v2 0)), (111, .one .bool (r17.2 == 0))]) rfl ?_
          refine r_nil ?_
          refine r_then ?_
          exact r_meetg () rfl rfl
        · rw [hh]
          refine r_pure tabOk 3 [1, 111] (E' := [(1, .one (.raw (.pointer none)) (tupv v2 0)), (111, .one .bool false)]) rfl ?_
          refine r_nil ?_
          refine r_then ?_
          exact r_meetg () rfl rfl
      refine r_pure tabOk 1 [1, 112] (E' := [(1, .one (.raw (.pointer none)) (tupv v2 0)), (112, .one .bool (o29 && (r17.2 == 0)))]) rfl ?_
      obtain ⟨b32, hbb32, h⟩ := bnd_ex h
      rw [hbb32]
      obtain ⟨k33, hk33, h⟩ := bnd_ex h
      refine r_lsplitk (γ := Unit) 5 (fun (o34 : Bool) _ => [(1, .one (.raw (.pointer none)) (tupv v2 0)), (117, .one .bool o34)]) (fun _ _ => [Res.disk Try.prog dI (tupv v2 0) r14]) k33 r ?_ ?_
      · rcases Bool.eq_false_or_eq_true b32 with hh | hh
        · rw [hh] at h ⊢
          rw [if_pos rfl] at h
          refine r_pure tabOk 1 [1, 112, 113] (E' := [(1, .one (.raw (.pointer none)) (tupv v2 0)), (112, .one .bool true), (113, .one (.raw (.pointer none)) (tupv v2 0))]) rfl ?_
          refine r_guard (by rfl) rfl ?_
          obtain ⟨r35, hr35, h⟩ := bind_ex h
          refine r_call (Lo := []) (disk_Disk_List_ok (tupv v2 0) r14 _ hr35) (by kernel_rfl) (List.Perm.refl _) rfl rfl fun v36 => ?_
          refine r_guard (by rfl) rfl ?_
          refine r_lits (B := 16) tabOk rfl el9 rfl rfl rfl (.cons rfl (.cons rfl .nil)) rfl fun v37 => ?_
          refine r_guard (by rfl) rfl ?_
          refine r_freeze (i := 2) (k := 114) rfl rfl ?_
          refine r_freeze (i := 0) (k := 115) rfl rfl ?_
          obtain ⟨r38, hr38, h⟩ := bind_ex h
          refine r_calls (escrowlaw04_sameTexts_ok r35 ([[97], [98]]) _ hr38) (by kernel_rfl) rfl rfl ?_
          refine r_pure tabOk 1 [1, 117] (E' := [(1, .one (.raw (.pointer none)) (tupv v2 0)), (117, .one .bool r38)]) rfl ?_
          refine r_nil ?_
          refine r_less [1, 117] rfl ?_
          refine r_then ?_
          exact r_meetk r38 () h rfl rfl
        · rw [hh] at h ⊢
          rw [if_neg (by decide)] at h
          refine r_pure tabOk 5 [1, 117] (E' := [(1, .one (.raw (.pointer none)) (tupv v2 0)), (117, .one .bool false)]) rfl ?_
          refine r_nil ?_
          refine r_less [1, 117] rfl ?_
          refine r_then ?_
          exact r_meetk false () h rfl rfl
      · intro o34 _ h
        rw [← hk33] at h
        try dsimp only at h
        refine r_pure tabOk 1 [1, 118] (E' := [(1, .one (.raw (.pointer none)) (tupv v2 0)), (118, .one .bool o34)]) rfl ?_
        obtain ⟨k40, hk40, h⟩ := bnd_ex h
        refine r_lsplitk (γ := Unit) 5 (fun (o41 : Bool) _ => [(1, .one (.raw (.pointer none)) (tupv v2 0)), (123, .one .bool o41)]) (fun _ _ => [Res.disk Try.prog dI (tupv v2 0) r14]) k40 r ?_ ?_
        · rcases Bool.eq_false_or_eq_true o34 with hh | hh
          · rw [hh] at h ⊢
            rw [if_pos rfl] at h
            refine r_pure tabOk 1 [1, 118, 119] (E' := [(1, .one (.raw (.pointer none)) (tupv v2 0)), (118, .one .bool true), (119, .one (.raw (.pointer none)) (tupv v2 0))]) rfl ?_
            refine r_guard (by rfl) rfl ?_
            obtain ⟨r42, hr42, h⟩ := bind_ex h
            refine r_call (Lo := []) (disk_Disk_Dirty_ok (tupv v2 0) r14 [98] _ hr42) (by kernel_rfl) (List.Perm.refl _) rfl rfl fun v43 => ?_
            refine r_guard (by rfl) rfl ?_
            refine y (y_lenown tabOk 1 rfl rfl rfl) rfl ?_
            refine r_pure tabOk 2 [1, 123] (E' := [(1, .one (.raw (.pointer none)) (tupv v2 0)), (123, .one .bool ((List.length r42 : Int) == 0))]) rfl ?_
            refine r_nil ?_
            refine r_less [1, 123] rfl ?_
            refine r_lose (L' := [Res.disk Try.prog dI (tupv v2 0) r14]) (.cons_cons _ (.cons _ .slnil)) ?_
            refine r_then ?_
            exact r_meetk ((List.length r42 : Int) == 0) () h rfl rfl
          · rw [hh] at h ⊢
            rw [if_neg (by decide)] at h
            refine r_pure tabOk 5 [1, 123] (E' := [(1, .one (.raw (.pointer none)) (tupv v2 0)), (123, .one .bool false)]) rfl ?_
            refine r_nil ?_
            refine r_less [1, 123] rfl ?_
            refine r_then ?_
            exact r_meetk false () h rfl rfl
        · intro o41 _ h
          rw [← hk40] at h
          try dsimp only at h
          refine r_pure tabOk 1 [1, 124] (E' := [(1, .one (.raw (.pointer none)) (tupv v2 0)), (124, .one .bool o41)]) rfl ?_
          obtain ⟨k45, hk45, h⟩ := bnd_ex h
          refine r_lsplitk (γ := Unit) 4 (fun (o46 : Bool) _ => [(128, .one .bool o46)]) (fun _ _ => [Res.disk Try.prog dI (tupv v2 0) r14]) k45 r ?_ ?_
          · rcases Bool.eq_false_or_eq_true o41 with hh | hh
            · rw [hh] at h ⊢
              rw [if_pos rfl] at h
              refine r_pure tabOk 1 [124, 125] (E' := [(124, .one .bool true), (125, .one (.raw (.pointer none)) (tupv v2 0))]) rfl ?_
              refine r_guard (by rfl) rfl ?_
              refine r_undisk fun b48 mv47 hp => ?_
              rw [hp]
              clear hp
              refine r_perm (L' := [Res.dfiles Try.prog dI mv47 r14.2.1, Res.var b48 71 DT (r14.1, mv47, r14.2.2.1, r14.2.2.2.1, r14.2.2.2.2.1, r14.2.2.2.2.2.1, r14.2.2.2.2.2.2, ())]) ((List.perm_middle (a := Res.dfiles Try.prog dI mv47 r14.2.1) (l₁ := [Res.var b48 71 DT (r14.1, mv47, r14.2.2.1, r14.2.2.2.1, r14.2.2.2.2.1, r14.2.2.2.2.2.1, r14.2.2.2.2.2.2, ())]) (l₂ := [])).trans (.cons _ (List.Perm.refl _))) ?_
              refine r_somedat fun q50 => ?_
              refine r_perm (L' := [Res.var b48 71 DT (r14.1, mv47, r14.2.2.1, r14.2.2.2.1, r14.2.2.2.2.1, r14.2.2.2.2.2.1, r14.2.2.2.2.2.2, ()), Res.dat Try.prog dI mv47 r14.2.1 [] q50]) ((List.perm_middle (a := Res.var b48 71 DT (r14.1, mv47, r14.2.2.1, r14.2.2.2.1, r14.2.2.2.2.1, r14.2.2.2.2.2.1, r14.2.2.2.2.2.2, ())) (l₁ := [Res.dat Try.prog dI mv47 r14.2.1 [] q50]) (l₂ := [])).trans (.cons _ (List.Perm.refl _))) ?_
              obtain ⟨r49, hr49, h⟩ := bind_ex h
              refine r_call (Lo := []) (disk_Disk_Used_ok b48 mv47 [] q50 r14 _ hr49) (by kernel_rfl) (List.Perm.refl _) rfl rfl fun _ => ?_
              refine r_imp_at (R' := Res.dfiles Try.prog dI mv47 r14.2.1) 1 rfl dat_dfiles ?_
              refine r_disk (P := Try.prog) (I := dI) (D := r14) ?_
              refine r_pure tabOk 2 [128] (E' := [(128, .one .bool (r49 == 197))]) rfl ?_
              refine r_nil ?_
              refine r_less [128] rfl ?_
              refine r_then ?_
              exact r_meetk (r49 == 197) () h rfl rfl
            · rw [hh] at h ⊢
              rw [if_neg (by decide)] at h
              refine r_pure tabOk 4 [128] (E' := [(128, .one .bool false)]) rfl ?_
              refine r_nil ?_
              refine r_less [128] rfl ?_
              refine r_then ?_
              exact r_meetk false () h rfl rfl
          · intro o46 _ h
            rw [← hk45] at h
            try dsimp only at h
            refine r_pure tabOk 1 [0] (E' := [(0, .one .bool o46)]) rfl ?_
            refine r_nil ?_
            refine r_then ?_
            refine r_ret ?_
            obtain rfl := Option.some.inj h
            exact r_ret1 rfl (.tmp rfl) (fun _ _ g => g) (fun _ _ _ => List.nil_sublist _)

theorem comm_disk_Disk_Copy_l0 (a0 : DiskS) : CommG (disk_Disk_Copy_l0 a0) (fun s l => l.Nodup ∧ ∀ k ∈ l, pget .str k s = none) := by
  have step : ∀ (k : List Int) (s s' : List (List Int × FileS)), disk_Disk_Copy_l0 a0 k s = some s' → ∃ g : FileS, s' = pput .str k g s := fun k s s' h => by
    unfold disk_Disk_Copy_l0 at h
    obtain ⟨f, _, h⟩ := bind_ex h
    obtain ⟨r1, _, h⟩ := bind_ex h
    obtain ⟨r2, _, h⟩ := bind_ex h
    obtain ⟨_, h⟩ := ite_ex h
    exact ⟨_, (Option.some.inj h).symm⟩
  refine ⟨fun s a l s' ⟨hn, hg⟩ h => ?_, fun s l l' p ⟨hn, hg⟩ => ⟨p.nodup_iff.1 hn, fun k hk => hg k (p.mem_iff.2 hk)⟩, fun s a b l hab ⟨hn, hg⟩ => ?_⟩
  · obtain ⟨g, rfl⟩ := step a s s' h
    rw [List.nodup_cons] at hn
    refine ⟨hn.2, fun k hk => ?_⟩
    have hak : a ≠ k := fun e => hn.1 (e ▸ hk)
    rw [spput_new (hg a (by simp)), spget_pins_ne hak]
    exact hg k (by simp [hk])
  · have ha := hg a (by simp)
    have hb := hg b (by simp)
    have e1 : ∀ g : FileS, pget .str b (pput .str a g s) = none := fun g => by rw [spput_new ha, spget_pins_ne hab]; exact hb
    have e2 : ∀ g : FileS, pget .str a (pput .str b g s) = none := fun g => by rw [spput_new hb, spget_pins_ne (fun e => hab e.symm)]; exact ha
    unfold disk_Disk_Copy_l0
    cases hfa : pget .str a a0.2.1 with
    | none =>
      cases hfb : pget .str b a0.2.1 with
      | none => rfl
      | some fb =>
        simp only [Option.bind_none, Option.bind_some]
        generalize _root_.Sx.slices_Clone__byte_byte fb.1 = x1
        generalize _root_.Sx.slices_Clone__byte_byte fb.2.1 = x2
        cases x1 with
        | none => rfl
        | some y1 =>
          cases x2 with
          | none => rfl
          | some y2 => simp only [Option.bind_some]; split <;> rfl
    | some fa =>
      cases hfb : pget .str b a0.2.1 with
      | none =>
        simp only [Option.bind_none, Option.bind_some]
        generalize _root_.Sx.slices_Clone__byte_byte fa.1 = x1
        generalize _root_.Sx.slices_Clone__byte_byte fa.2.1 = x2
        cases x1 with
        | none => rfl
        | some y1 =>
          cases x2 with
          | none => rfl
          | some y2 => simp only [Option.bind_some]; split <;> rfl
      | some fb =>
        simp only [Option.bind_some]
        generalize _root_.Sx.slices_Clone__byte_byte fa.1 = x1
        generalize _root_.Sx.slices_Clone__byte_byte fa.2.1 = x2
        generalize _root_.Sx.slices_Clone__byte_byte fb.1 = z1
        generalize _root_.Sx.slices_Clone__byte_byte fb.2.1 = z2
        cases x1 <;> cases x2 <;> cases z1 <;> cases z2 <;> simp only [Option.bind_some, Option.bind_none] <;> try (split <;> rfl)
        rename_i y1 y2 u1 u2
        by_cases hl : s.length < 4611686018427387904
        · rw [if_pos hl, if_pos hl]
          simp only [Option.bind_some]
          rw [spput_new (e1 _), spput_new (e2 _), spput_new ha, spput_new hb, spins_len, spins_len, spins_comm hab]
        · rw [if_neg hl, if_neg hl]
          rfl

theorem cloneOk : CloneOk Try.prog 48 dI.int := clone_of Try.laysClone dI.int

theorem disk_Disk_Copy_ok (p0 : Value) (a0 : DiskS) (r : Int × DiskS × DiskS) (h : disk_Disk_Copy a0 = some r) : Fn Try.prog 24 [.one (.raw NV) p0] [Res.disk Try.prog dI p0 a0] (fun v => .one (.raw NV) v) (fun v => [Res.disk Try.prog dI p0 r.2.2, Res.diskif Try.prog dI v r.2.1 r.1]) := by
  unfold disk_Disk_Copy at h
  refine enter Try.func24 rfl 41 rfl rfl fun F => ?_
  refine r_undisk fun b2 mv1 hp => ?_
  subst hp
  refine r_seq ?_
  refine r_region ?_
  refine r_pure tabOk 1 [0] (E' := [(0, ptr b2 0)]) rfl ?_
  refine r_nil ?_
  refine r_then ?_
  refine r_seq ?_
  refine r_region ?_
  refine r_pure tabOk 2 [0, 7] (E' := [(0, ptr b2 0), (7, ptr b2 0)]) rfl ?_
  refine y (y_load 0 .here rfl rfl (by first | rfl | (simp only [Pth.off, T.size]; omega)) ok_here ty71) rfl ?_
  refine r_alloc rfl zf71 rfl fun b3 => ?_
  refine r_store 0 .here rfl rfl rfl (by first | rfl | (simp only [Pth.off, T.size]; omega)) ok_here ty71 ?_
  refine r_nil ?_
  refine r_then ?_
  refine r_less [0, 3] rfl ?_
  refine r_seq ?_
  refine r_region ?_
  refine r_makeMap 9 .str (.raw NV) rfl fun mv4 => ?_
  refine r_nofiles (P := Try.prog) (I := dI) ?_
  refine r_pure tabOk 1 [0, 3, 9, 10] (E' := [(0, ptr b2 0), (3, ptr b3 0), (9, .one (.raw (.map none)) mv4), (10, ptr b3 1)]) rfl ?_
  refine r_store 1 (.snd (.fst .here)) rfl rfl rfl (by first | rfl | (simp only [Pth.off, T.size]; omega)) (ok_snd (ok_fst ok_here)) ty69 ?_
  refine r_nil ?_
  refine r_then ?_
  repeat refine r_seq ?_
  refine r_region ?_
  refine r_pure tabOk 3 [0, 3, 13] (E' := [(0, ptr b2 0), (3, ptr b3 0), (13, ptr b2 1)]) rfl ?_
  refine y (y_load 2 (.snd (.fst .here)) rfl rfl (by first | rfl | (simp only [Pth.off, T.size]; omega)) (ok_snd (ok_fst ok_here)) ty69) rfl ?_
  refine r_perm (L' := [Res.dfiles Try.prog dI mv1 a0.2.1, Res.dfiles Try.prog dI mv4 [], Res.var b3 71 DT (a0.1, mv4, a0.2.2.1, a0.2.2.2.1, a0.2.2.2.2.1, a0.2.2.2.2.2.1, a0.2.2.2.2.2.2, ()), Res.var b2 71 DT (a0.1, mv1, a0.2.2.1, a0.2.2.2.1, a0.2.2.2.2.1, a0.2.2.2.2.2.1, a0.2.2.2.2.2.2, ())]) ((List.perm_middle (a := Res.dfiles Try.prog dI mv1 a0.2.1) (l₁ := [Res.dfiles Try.prog dI mv4 [], Res.var b3 71 DT (a0.1, mv4, a0.2.2.1, a0.2.2.2.1, a0.2.2.2.2.1, a0.2.2.2.2.2.1, a0.2.2.2.2.2.2, ()), Res.var b2 71 DT (a0.1, mv1, a0.2.2.1, a0.2.2.2.1, a0.2.2.2.2.1, a0.2.2.2.2.2.1, a0.2.2.2.2.2.2, ())]) (l₂ := [])).trans (.cons _ (List.Perm.refl _))) ?_
  refine r_drange kstr rfl Try.underlying69 rfl fun it6 hn7 => ?_
  refine r_nil ?_
  refine r_then ?_
  refine r_block ?_
  obtain ⟨rr, hall, h⟩ := bind_ex h
  obtain rfl := Option.some.inj h
  refine r_less [3, 15] rfl ?_
  refine r_rangeloop (step := disk_Disk_Copy_l0 a0) (fun s l => l.Nodup ∧ ∀ k ∈ l, pget .str k s = none) (comm_disk_Disk_Copy_l0 a0) hn7 ⟨hn7, fun _ _ => rfl⟩ hall (γ := Unit) (fun (s : List (List Int × FileS)) _ => [(3, ptr b3 0), (15, .one (.raw (.pointer none)) it6)]) (fun todo (s : List (List Int × FileS)) _ => [Res.diter Try.prog dI mv1 it6 a0.2.1 todo none none, Res.dfiles Try.prog dI mv4 s, Res.var b3 71 DT (a0.1, mv4, a0.2.2.1, a0.2.2.2.1, a0.2.2.2.2.1, a0.2.2.2.2.2.1, a0.2.2.2.2.2.2, ()), Res.var b2 71 DT (a0.1, mv1, a0.2.2.1, a0.2.2.2.1, a0.2.2.2.2.1, a0.2.2.2.2.2.1, a0.2.2.2.2.2.2, ())]) () rfl rfl fun todo s gg hend hone => ?_
  refine r_seq ?_
  refine r_region ?_
  refine r_dnext kstr rfl rfl (fun ht => ?_) (fun A k B q htk hk => ?_)
  · obtain rfl := hend ht
    refine r_dunrange ?_
    refine r_pure tabOk 1 [3, 17] (E' := [(3, ptr b3 0), (17, .one .bool false)]) rfl ?_
    refine r_nil ?_
    refine r_then ?_
    refine r_seq ?_
    refine r_if (b := false) rfl (fun hc => ?_) (fun hc => ?_)
    · cases hc
    · refine r_exit ?_
      refine e_then ?_
      refine e_then ?_
      refine e_eq ?_
      refine r_then ?_
      repeat refine r_seq ?_
      refine r_region ?_
      refine r_pure tabOk 1 [2] (E' := [(2, ptr b3 0)]) rfl ?_
      refine r_nil ?_
      refine r_then ?_
      refine r_ret ?_
      refine r_perm (L' := [Res.var b3 71 DT (a0.1, mv4, a0.2.2.1, a0.2.2.2.1, a0.2.2.2.2.1, a0.2.2.2.2.2.1, a0.2.2.2.2.2.2, ()), Res.dfiles Try.prog dI mv4 s, Res.var b2 71 DT (a0.1, mv1, a0.2.2.1, a0.2.2.2.1, a0.2.2.2.2.1, a0.2.2.2.2.2.1, a0.2.2.2.2.2.2, ()), Res.dfiles Try.prog dI mv1 a0.2.1]) ((List.perm_middle (a := Res.var b3 71 DT (a0.1, mv4, a0.2.2.1, a0.2.2.2.1, a0.2.2.2.2.1, a0.2.2.2.2.2.1, a0.2.2.2.2.2.2, ())) (l₁ := [Res.dfiles Try.prog dI mv1 a0.2.1, Res.dfiles Try.prog dI mv4 s]) (l₂ := [Res.var b2 71 DT (a0.1, mv1, a0.2.2.1, a0.2.2.2.1, a0.2.2.2.2.1, a0.2.2.2.2.2.1, a0.2.2.2.2.2.2, ())])).trans (.cons _ ((List.perm_middle (a := Res.dfiles Try.prog dI mv4 s) (l₁ := [Res.dfiles Try.prog dI mv1 a0.2.1]) (l₂ := [Res.var b2 71 DT (a0.1, mv1, a0.2.2.1, a0.2.2.2.1, a0.2.2.2.2.1, a0.2.2.2.2.2.1, a0.2.2.2.2.2.2, ())])).trans (.cons _ ((List.perm_middle (a := Res.var b2 71 DT (a0.1, mv1, a0.2.2.1, a0.2.2.2.1, a0.2.2.2.2.1, a0.2.2.2.2.2.1, a0.2.2.2.2.2.2, ())) (l₁ := [Res.dfiles Try.prog dI mv1 a0.2.1]) (l₂ := [])).trans (.cons _ (List.Perm.refl _))))))) ?_
      refine r_disk (P := Try.prog) (I := dI) (D := (a0.1, s, a0.2.2.1, a0.2.2.2.1, a0.2.2.2.2.1, a0.2.2.2.2.2.1, a0.2.2.2.2.2.2)) ?_
      refine r_perm (L' := [Res.var b2 71 DT (a0.1, mv1, a0.2.2.1, a0.2.2.2.1, a0.2.2.2.2.1, a0.2.2.2.2.2.1, a0.2.2.2.2.2.2, ()), Res.dfiles Try.prog dI mv1 a0.2.1, Res.disk Try.prog dI (.pointer (some ⟨b3, 0, none⟩)) (a0.1, s, a0.2.2.1, a0.2.2.2.1, a0.2.2.2.2.1, a0.2.2.2.2.2.1, a0.2.2.2.2.2.2)]) ((List.perm_middle (a := Res.var b2 71 DT (a0.1, mv1, a0.2.2.1, a0.2.2.2.1, a0.2.2.2.2.1, a0.2.2.2.2.2.1, a0.2.2.2.2.2.2, ())) (l₁ := [Res.disk Try.prog dI (.pointer (some ⟨b3, 0, none⟩)) (a0.1, s, a0.2.2.1, a0.2.2.2.1, a0.2.2.2.2.1, a0.2.2.2.2.2.1, a0.2.2.2.2.2.2)]) (l₂ := [Res.dfiles Try.prog dI mv1 a0.2.1])).trans (.cons _ ((List.perm_middle (a := Res.dfiles Try.prog dI mv1 a0.2.1) (l₁ := [Res.disk Try.prog dI (.pointer (some ⟨b3, 0, none⟩)) (a0.1, s, a0.2.2.1, a0.2.2.2.1, a0.2.2.2.2.1, a0.2.2.2.2.2.1, a0.2.2.2.2.2.2)]) (l₂ := [])).trans (.cons _ (List.Perm.refl _))))) ?_
      refine r_disk (P := Try.prog) (I := dI) (D := a0) ?_
      refine r_swap ?_
      refine r_isdisk ?_
      refine r_swap ?_
      exact r_ret1 rfl (.tmp rfl) (fun _ _ g => raw_self g) (fun _ _ g => by obtain ⟨rfl, _⟩ := holds_raw.1 g; exact List.Sublist.refl _)
  · obtain ⟨sk, hsk⟩ := hone A k B htk
    have h := hsk
    unfold disk_Disk_Copy_l0 at h
    obtain ⟨f, hf, h⟩ := bind_ex h
    obtain ⟨r1, hr1, h⟩ := bind_ex h
    obtain ⟨r2, hr2, h⟩ := bind_ex h
    obtain ⟨hc6, h⟩ := ite_ex h
    refine r_pure tabOk 1 [3, 15, 17] (E' := [(3, ptr b3 0), (15, .one (.raw (.pointer none)) it6), (17, .one .bool true)]) rfl ?_
    refine r_nil ?_
    refine r_then ?_
    refine r_seq ?_
    refine r_if (b := true) rfl (fun hc => ?_) (fun hc => ?_)
    · refine r_skip ?_
      refine r_then ?_
      refine r_block ?_
      refine r_seq ?_
      refine r_region ?_
      refine y (y_dentry rfl 0 rfl) rfl ?_
      refine r_pure tabOk 4 [3, 4, 5, 15] (E' := [(3, ptr b3 0), (4, .one .str k), (5, .one (.raw (.pointer none)) q), (15, .one (.raw (.pointer none)) it6)]) rfl ?_
      refine r_nil ?_
      refine r_then ?_
      refine r_difocus hf fun fb sv tv dv hq => ?_
      rw [hq]
      clear hq
      refine h_start (S := Two fb 81 FT (sv, tv, dv, ()) b3 71 DT (a0.1, mv4, a0.2.2.1, a0.2.2.2.1, a0.2.2.2.2.1, a0.2.2.2.2.2.1, a0.2.2.2.2.2.2, ())) (by kernel_rfl) ?_
      refine h_take (i := 0) (t := ptr b3 1) (blind_block (blind_then (blind_block (blind_then blind_body)))) rfl (by kernel_rfl) (by kernel_rfl) (by kernel_rfl) (two_st 0 6 rfl rfl) (y_pure tabOk rfl) rfl ?_
      refine h_take (i := 1) (t := .one (.raw (.map none)) mv4) (blind_block (blind_then (blind_block (blind_then blind_body)))) rfl (by kernel_rfl) (by kernel_rfl) (by kernel_rfl) (two_st 0 6 rfl rfl) (y_held (S := fun w => Two fb 81 FT (sv, tv, dv, ()) b3 71 DT (a0.1, mv4, a0.2.2.1, a0.2.2.2.1, a0.2.2.2.2.1, a0.2.2.2.2.2.1, a0.2.2.2.2.2.2, ()) w) two_r 6 (.snd (.fst .here)) rfl rfl rfl (by first | rfl | (simp only [Pth.off, T.size]; omega)) (ok_snd (ok_fst ok_here)) ty69) rfl ?_
      refine h_take (i := 2) (t := .one .str k) (blind_block (blind_then (blind_block (blind_then blind_body)))) rfl (by kernel_rfl) (by kernel_rfl) (by kernel_rfl) (two_st 0 6 rfl rfl) (y_pure tabOk rfl) rfl ?_
      refine h_take (i := 3) (t := ptr fb 0) (blind_block (blind_then (blind_block (blind_then blind_body)))) rfl (by kernel_rfl) (by kernel_rfl) (by kernel_rfl) (two_st 0 6 rfl rfl) (y_pure tabOk rfl) rfl ?_
      refine h_take (i := 4) (t := ptr fb 0) (blind_block (blind_then (blind_block (blind_then blind_body)))) rfl (by kernel_rfl) (by kernel_rfl) (by kernel_rfl) (two_st 0 6 rfl rfl) (y_pure tabOk rfl) rfl ?_
      refine h_take (i := 5) (t := ptr fb 0) (blind_block (blind_then (blind_block (blind_then blind_body)))) rfl (by kernel_rfl) (by kernel_rfl) (by kernel_rfl) (two_st 0 6 rfl rfl) (y_pure tabOk rfl) rfl ?_
      refine h_take (i := 6) (t := .one (.raw (.slice none 0 0)) sv) (blind_block (blind_then (blind_block (blind_then blind_body)))) rfl (by kernel_rfl) (by kernel_rfl) (by kernel_rfl) (two_st 0 6 rfl rfl) (y_held (S := fun w => Two fb 81 FT (sv, tv, dv, ()) b3 71 DT (a0.1, mv4, a0.2.2.1, a0.2.2.2.1, a0.2.2.2.2.1, a0.2.2.2.2.2.1, a0.2.2.2.2.2.2, ()) w) two_l 0 (.fst .here) rfl rfl rfl (by first | rfl | (simp only [Pth.off, T.size]; omega)) (ok_fst ok_here) ty77) rfl ?_
      refine h_take (i := 8) (t := ptr fb 0) (blind_block (blind_then (blind_block (blind_then blind_body)))) rfl (by kernel_rfl) (by kernel_rfl) (by kernel_rfl) (two_st 0 6 rfl rfl) (y_pure tabOk rfl) rfl ?_
      refine h_take (i := 9) (t := ptr fb 0) (blind_block (blind_then (blind_block (blind_then blind_body)))) rfl (by kernel_rfl) (by kernel_rfl) (by kernel_rfl) (two_st 0 6 rfl rfl) (y_pure tabOk rfl) rfl ?_
      refine h_take (i := 10) (t := ptr fb 1) (blind_block (blind_then (blind_block (blind_then blind_body)))) rfl (by kernel_rfl) (by kernel_rfl) (by kernel_rfl) (two_st 0 6 rfl rfl) (y_pure tabOk rfl) rfl ?_
      refine h_take (i := 11) (t := .one (.raw (.slice none 0 0)) tv) (blind_block (blind_then (blind_block (blind_then blind_body)))) rfl (by kernel_rfl) (by kernel_rfl) (by kernel_rfl) (two_st 0 6 rfl rfl) (y_held (S := fun w => Two fb 81 FT (sv, tv, dv, ()) b3 71 DT (a0.1, mv4, a0.2.2.1, a0.2.2.2.1, a0.2.2.2.2.1, a0.2.2.2.2.2.1, a0.2.2.2.2.2.2, ()) w) two_l 0 (.snd (.fst .here)) rfl rfl rfl (by first | rfl | (simp only [Pth.off, T.size]; omega)) (ok_snd (ok_fst ok_here)) ty77) rfl ?_
      refine h_take (i := 13) (t := ptr fb 0) (blind_block (blind_then (blind_block (blind_then blind_body)))) rfl (by kernel_rfl) (by kernel_rfl) (by kernel_rfl) (two_st 0 6 rfl rfl) (y_pure tabOk rfl) rfl ?_
      refine h_take (i := 14) (t := ptr fb 0) (blind_block (blind_then (blind_block (blind_then blind_body)))) rfl (by kernel_rfl) (by kernel_rfl) (by kernel_rfl) (two_st 0 6 rfl rfl) (y_pure tabOk rfl) rfl ?_
      refine h_take (i := 15) (t := ptr fb 2) (blind_block (blind_then (blind_block (blind_then blind_body)))) rfl (by kernel_rfl) (by kernel_rfl) (by kernel_rfl) (two_st 0 6 rfl rfl) (y_pure tabOk rfl) rfl ?_
      refine h_take (i := 16) (t := .one (.raw (.map none)) dv) (blind_block (blind_then (blind_block (blind_then blind_body)))) rfl (by kernel_rfl) (by kernel_rfl) (by kernel_rfl) (two_st 0 6 rfl rfl) (y_held (S := fun w => Two fb 81 FT (sv, tv, dv, ()) b3 71 DT (a0.1, mv4, a0.2.2.1, a0.2.2.2.1, a0.2.2.2.2.1, a0.2.2.2.2.2.1, a0.2.2.2.2.2.2, ()) w) two_l 0 (.snd (.snd (.fst .here))) rfl rfl rfl (by first | rfl | (simp only [Pth.off, T.size]; omega)) (ok_snd (ok_snd (ok_fst ok_here))) ty79) rfl ?_
      refine r_less [3, 15, 22, 23, 27, 32, 37] rfl ?_
      refine h_one (i := 7) (by kernel_rfl) rfl ?_
      refine r_callwo (slices_Clone__byte_byte_ok f.1 _ hr1) (by kernel_rfl) (fun _ => rfl) (fun _ r hr => by rcases List.mem_singleton.1 hr with rfl; exact Res.free_own rfl) (.sub rfl (sub_own 1 rfl) .nil) rfl fun v28 => ?_
      refine r_nil ?_
      refine r_then ?_
      refine h_in (two_st 1 7 rfl rfl) ?_
      refine h_one (i := 12) (by kernel_rfl) rfl ?_
      refine r_callwo (slices_Clone__byte_byte_ok f.2.1 _ hr2) (by kernel_rfl) (fun _ => rfl) (fun _ r hr => by rcases List.mem_singleton.1 hr with rfl; exact Res.free_own rfl) (.sub rfl (sub_own 3 rfl) .nil) rfl fun v33 => ?_
      refine r_nil ?_
      refine r_then ?_
      refine h_in (two_st 2 8 rfl rfl) ?_
      refine h_one (i := 17) (by kernel_rfl) rfl ?_
      refine r_call (Lo := [Res.own v33 5 (.int .u8) r2, Res.own v28 5 (.int .u8) r1, Res.var fb 81 FT (sv, tv, dv, ()), Res.own sv 5 (.int .u8) f.1, Res.own tv 5 (.int .u8) f.2.1, Res.dihole Try.prog dI mv1 it6 a0.2.1 (A ++ B) k (.pointer (some ⟨fb, 0, none⟩)) none, Res.dfiles Try.prog dI mv4 s, Res.var b3 71 DT (a0.1, mv4, a0.2.2.1, a0.2.2.2.1, a0.2.2.2.2.1, a0.2.2.2.2.2.1, a0.2.2.2.2.2.2, ()), Res.var b2 71 DT (a0.1, mv1, a0.2.2.1, a0.2.2.2.1, a0.2.2.2.2.1, a0.2.2.2.2.2.1, a0.2.2.2.2.2.2, ())]) (clone_fn cloneOk dv f.2.2) (by kernel_rfl) (List.perm_middle (a := Res.dirty Try.prog dI dv f.2.2) (l₁ := [Res.own v33 5 (.int .u8) r2, Res.own v28 5 (.int .u8) r1, Res.var fb 81 FT (sv, tv, dv, ()), Res.own sv 5 (.int .u8) f.1, Res.own tv 5 (.int .u8) f.2.1]) (l₂ := [Res.dihole Try.prog dI mv1 it6 a0.2.1 (A ++ B) k (.pointer (some ⟨fb, 0, none⟩)) none, Res.dfiles Try.prog dI mv4 s, Res.var b3 71 DT (a0.1, mv4, a0.2.2.1, a0.2.2.2.1, a0.2.2.2.2.1, a0.2.2.2.2.2.1, a0.2.2.2.2.2.2, ()), Res.var b2 71 DT (a0.1, mv1, a0.2.2.1, a0.2.2.2.1, a0.2.2.2.2.1, a0.2.2.2.2.2.1, a0.2.2.2.2.2.2, ())])) rfl rfl fun v38 => ?_
      refine r_nil ?_
      refine r_then ?_
      refine h_in (two_st 4 9 rfl rfl) ?_
      refine h_one (i := 18) (by kernel_rfl) rfl ?_
      refine y (y_build rfl zf81 rfl rfl (.cons (.fst .here) rfl rfl (ok_fst ok_here) (.cons (.snd (.fst .here)) rfl rfl (ok_snd (ok_fst ok_here)) (.cons (.snd (.snd (.fst .here))) rfl rfl (ok_snd (ok_snd (ok_fst ok_here))) .nil)))) rfl ?_
      refine r_nil ?_
      refine r_then ?_
      refine h_in (two_st 4 9 rfl rfl) ?_
      refine h_one (i := 19) (by kernel_rfl) rfl ?_
      refine r_box rfl rfl fun b40 => ?_
      refine r_nil ?_
      refine r_then ?_
      refine h_in (two_st 5 10 rfl rfl) ?_
      refine r_less [3, 15, 22, 23, 40] rfl ?_
      refine h_one (i := 20) (by kernel_rfl) rfl ?_
      refine r_perm (L' := [Res.var b40 81 FT (v28, v33, v38, ()), Res.own v28 5 (.int .u8) r1, Res.own v33 5 (.int .u8) r2, Res.dirty Try.prog dI v38 f.2.2, Res.dfiles Try.prog dI mv4 s, Res.dirty Try.prog dI dv f.2.2, Res.var fb 81 FT (sv, tv, dv, ()), Res.own sv 5 (.int .u8) f.1, Res.own tv 5 (.int .u8) f.2.1, Res.dihole Try.prog dI mv1 it6 a0.2.1 (A ++ B) k (.pointer (some ⟨fb, 0, none⟩)) none, Res.var b3 71 DT (a0.1, mv4, a0.2.2.1, a0.2.2.2.1, a0.2.2.2.2.1, a0.2.2.2.2.2.1, a0.2.2.2.2.2.2, ()), Res.var b2 71 DT (a0.1, mv1, a0.2.2.1, a0.2.2.2.1, a0.2.2.2.2.1, a0.2.2.2.2.2.1, a0.2.2.2.2.2.2, ())]) ((List.perm_middle (a := Res.var b40 81 FT (v28, v33, v38, ())) (l₁ := []) (l₂ := [Res.dirty Try.prog dI v38 f.2.2, Res.dirty Try.prog dI dv f.2.2, Res.own v33 5 (.int .u8) r2, Res.own v28 5 (.int .u8) r1, Res.var fb 81 FT (sv, tv, dv, ()), Res.own sv 5 (.int .u8) f.1, Res.own tv 5 (.int .u8) f.2.1, Res.dihole Try.prog dI mv1 it6 a0.2.1 (A ++ B) k (.pointer (some ⟨fb, 0, none⟩)) none, Res.dfiles Try.prog dI mv4 s, Res.var b3 71 DT (a0.1, mv4, a0.2.2.1, a0.2.2.2.1, a0.2.2.2.2.1, a0.2.2.2.2.2.1, a0.2.2.2.2.2.2, ()), Res.var b2 71 DT (a0.1, mv1, a0.2.2.1, a0.2.2.2.1, a0.2.2.2.2.1, a0.2.2.2.2.2.1, a0.2.2.2.2.2.2, ())])).trans (.cons _ ((List.perm_middle (a := Res.own v28 5 (.int .u8) r1) (l₁ := [Res.dirty Try.prog dI v38 f.2.2, Res.dirty Try.prog dI dv f.2.2, Res.own v33 5 (.int .u8) r2]) (l₂ := [Res.var fb 81 FT (sv, tv, dv, ()), Res.own sv 5 (.int .u8) f.1, Res.own tv 5 (.int .u8) f.2.1, Res.dihole Try.prog dI mv1 it6 a0.2.1 (A ++ B) k (.pointer (some ⟨fb, 0, none⟩)) none, Res.dfiles Try.prog dI mv4 s, Res.var b3 71 DT (a0.1, mv4, a0.2.2.1, a0.2.2.2.1, a0.2.2.2.2.1, a0.2.2.2.2.2.1, a0.2.2.2.2.2.2, ()), Res.var b2 71 DT (a0.1, mv1, a0.2.2.1, a0.2.2.2.1, a0.2.2.2.2.1, a0.2.2.2.2.2.1, a0.2.2.2.2.2.2, ())])).trans (.cons _ ((List.perm_middle (a := Res.own v33 5 (.int .u8) r2) (l₁ := [Res.dirty Try.prog dI v38 f.2.2, Res.dirty Try.prog dI dv f.2.2]) (l₂ := [Res.var fb 81 FT (sv, tv, dv, ()), Res.own sv 5 (.int .u8) f.1, Res.own tv 5 (.int .u8) f.2.1, Res.dihole Try.prog dI mv1 it6 a0.2.1 (A ++ B) k (.pointer (some ⟨fb, 0, none⟩)) none, Res.dfiles Try.prog dI mv4 s, Res.var b3 71 DT (a0.1, mv4, a0.2.2.1, a0.2.2.2.1, a0.2.2.2.2.1, a0.2.2.2.2.2.1, a0.2.2.2.2.2.2, ()), Res.var b2 71 DT (a0.1, mv1, a0.2.2.1, a0.2.2.2.1, a0.2.2.2.2.1, a0.2.2.2.2.2.1, a0.2.2.2.2.2.2, ())])).trans (.cons _ ((List.perm_middle (a := Res.dirty Try.prog dI v38 f.2.2) (l₁ := []) (l₂ := [Res.dirty Try.prog dI dv f.2.2, Res.var fb 81 FT (sv, tv, dv, ()), Res.own sv 5 (.int .u8) f.1, Res.own tv 5 (.int .u8) f.2.1, Res.dihole Try.prog dI mv1 it6 a0.2.1 (A ++ B) k (.pointer (some ⟨fb, 0, none⟩)) none, Res.dfiles Try.prog dI mv4 s, Res.var b3 71 DT (a0.1, mv4, a0.2.2.1, a0.2.2.2.1, a0.2.2.2.2.1, a0.2.2.2.2.2.1, a0.2.2.2.2.2.2, ()), Res.var b2 71 DT (a0.1, mv1, a0.2.2.1, a0.2.2.2.1, a0.2.2.2.2.1, a0.2.2.2.2.2.1, a0.2.2.2.2.2.2, ())])).trans (.cons _ ((List.perm_middle (a := Res.dfiles Try.prog dI mv4 s) (l₁ := [Res.dirty Try.prog dI dv f.2.2, Res.var fb 81 FT (sv, tv, dv, ()), Res.own sv 5 (.int .u8) f.1, Res.own tv 5 (.int .u8) f.2.1, Res.dihole Try.prog dI mv1 it6 a0.2.1 (A ++ B) k (.pointer (some ⟨fb, 0, none⟩)) none]) (l₂ := [Res.var b3 71 DT (a0.1, mv4, a0.2.2.1, a0.2.2.2.1, a0.2.2.2.2.1, a0.2.2.2.2.2.1, a0.2.2.2.2.2.2, ()), Res.var b2 71 DT (a0.1, mv1, a0.2.2.1, a0.2.2.2.1, a0.2.2.2.2.1, a0.2.2.2.2.2.1, a0.2.2.2.2.2.2, ())])).trans (.cons _ (List.Perm.refl _))))))))))) ?_
      refine r_dinsert (P := Try.prog) (I := dI) kstr rfl rfl rfl Try.underlying69 hc6 ?_
      refine r_nil ?_
      refine r_then ?_
      refine h_in (two_st 2 6 rfl rfl) ?_
      refine h_end (by kernel_rfl) ?_
      refine r_inblock ?_
      refine r_then ?_
      refine r_imp_at (R' := Res.dfiles Try.prog dI mv4 (pput .str k (r1, r2, f.2.2) s)) 0 rfl dat_dfiles ?_
      refine r_perm (L' := [Res.var fb 81 FT (sv, tv, dv, ()), Res.own sv 5 (.int .u8) f.1, Res.own tv 5 (.int .u8) f.2.1, Res.dirty Try.prog dI dv f.2.2, Res.dihole Try.prog dI mv1 it6 a0.2.1 (A ++ B) k (.pointer (some ⟨fb, 0, none⟩)) none, Res.dfiles Try.prog dI mv4 (pput .str k (r1, r2, f.2.2) s), Res.var b3 71 DT (a0.1, mv4, a0.2.2.1, a0.2.2.2.1, a0.2.2.2.2.1, a0.2.2.2.2.2.1, a0.2.2.2.2.2.2, ()), Res.var b2 71 DT (a0.1, mv1, a0.2.2.1, a0.2.2.2.1, a0.2.2.2.2.1, a0.2.2.2.2.2.1, a0.2.2.2.2.2.2, ())]) ((List.perm_middle (a := Res.var fb 81 FT (sv, tv, dv, ())) (l₁ := [Res.dfiles Try.prog dI mv4 (pput .str k (r1, r2, f.2.2) s), Res.dirty Try.prog dI dv f.2.2]) (l₂ := [Res.own sv 5 (.int .u8) f.1, Res.own tv 5 (.int .u8) f.2.1, Res.dihole Try.prog dI mv1 it6 a0.2.1 (A ++ B) k (.pointer (some ⟨fb, 0, none⟩)) none, Res.var b3 71 DT (a0.1, mv4, a0.2.2.1, a0.2.2.2.1, a0.2.2.2.2.1, a0.2.2.2.2.2.1, a0.2.2.2.2.2.2, ()), Res.var b2 71 DT (a0.1, mv1, a0.2.2.1, a0.2.2.2.1, a0.2.2.2.2.1, a0.2.2.2.2.2.1, a0.2.2.2.2.2.2, ())])).trans (.cons _ ((List.perm_middle (a := Res.own sv 5 (.int .u8) f.1) (l₁ := [Res.dfiles Try.prog dI mv4 (pput .str k (r1, r2, f.2.2) s), Res.dirty Try.prog dI dv f.2.2]) (l₂ := [Res.own tv 5 (.int .u8) f.2.1, Res.dihole Try.prog dI mv1 it6 a0.2.1 (A ++ B) k (.pointer (some ⟨fb, 0, none⟩)) none, Res.var b3 71 DT (a0.1, mv4, a0.2.2.1, a0.2.2.2.1, a0.2.2.2.2.1, a0.2.2.2.2.2.1, a0.2.2.2.2.2.2, ()), Res.var b2 71 DT (a0.1, mv1, a0.2.2.1, a0.2.2.2.1, a0.2.2.2.2.1, a0.2.2.2.2.2.1, a0.2.2.2.2.2.2, ())])).trans (.cons _ ((List.perm_middle (a := Res.own tv 5 (.int .u8) f.2.1) (l₁ := [Res.dfiles Try.prog dI mv4 (pput .str k (r1, r2, f.2.2) s), Res.dirty Try.prog dI dv f.2.2]) (l₂ := [Res.dihole Try.prog dI mv1 it6 a0.2.1 (A ++ B) k (.pointer (some ⟨fb, 0, none⟩)) none, Res.var b3 71 DT (a0.1, mv4, a0.2.2.1, a0.2.2.2.1, a0.2.2.2.2.1, a0.2.2.2.2.2.1, a0.2.2.2.2.2.2, ()), Res.var b2 71 DT (a0.1, mv1, a0.2.2.1, a0.2.2.2.1, a0.2.2.2.2.1, a0.2.2.2.2.2.1, a0.2.2.2.2.2.2, ())])).trans (.cons _ ((List.perm_middle (a := Res.dirty Try.prog dI dv f.2.2) (l₁ := [Res.dfiles Try.prog dI mv4 (pput .str k (r1, r2, f.2.2) s)]) (l₂ := [Res.dihole Try.prog dI mv1 it6 a0.2.1 (A ++ B) k (.pointer (some ⟨fb, 0, none⟩)) none, Res.var b3 71 DT (a0.1, mv4, a0.2.2.1, a0.2.2.2.1, a0.2.2.2.2.1, a0.2.2.2.2.2.1, a0.2.2.2.2.2.2, ()), Res.var b2 71 DT (a0.1, mv1, a0.2.2.1, a0.2.2.2.1, a0.2.2.2.2.1, a0.2.2.2.2.2.1, a0.2.2.2.2.2.2, ())])).trans (.cons _ ((List.perm_middle (a := Res.dihole Try.prog dI mv1 it6 a0.2.1 (A ++ B) k (.pointer (some ⟨fb, 0, none⟩)) none) (l₁ := [Res.dfiles Try.prog dI mv4 (pput .str k (r1, r2, f.2.2) s)]) (l₂ := [Res.var b3 71 DT (a0.1, mv4, a0.2.2.1, a0.2.2.2.1, a0.2.2.2.2.1, a0.2.2.2.2.2.1, a0.2.2.2.2.2.2, ()), Res.var b2 71 DT (a0.1, mv1, a0.2.2.1, a0.2.2.2.1, a0.2.2.2.2.1, a0.2.2.2.2.2.1, a0.2.2.2.2.2.2, ())])).trans (.cons _ (List.Perm.refl _))))))))))) ?_
      refine r_diunfocus_same (P := Try.prog) (I := dI) hf ?_
      refine r_imp_at (R' := Res.diter Try.prog dI mv1 it6 a0.2.1 (A ++ B) none none) 0 rfl diter_none ?_
      refine r_less [3, 15] rfl ?_
      obtain rfl := Option.some.inj h
      exact r_backR () htk hsk rfl rfl
    · cases hc

theorem escrowlaw04_all_ok (p0 : Value) (a0 : DiskS) (a1 : List Int) (r : List Int) (h : escrowlaw04_all a0 a1 = some r) : Fn Try.prog 14 [.one (.raw (.pointer none)) p0, .one .str a1] [Res.disk Try.prog dI p0 a0] (fun _ => .one .str r) (fun _ => [Res.disk Try.prog dI p0 a0]) := by
  unfold escrowlaw04_all at h
  refine enter Try.func14 rfl 14 rfl rfl fun F => ?_
  refine r_seq ?_
  refine r_region ?_
  refine r_pure tabOk 1 [0, 1] (E' := [(0, .one (.raw (.pointer none)) p0), (1, .one .str a1)]) rfl ?_
  refine r_nil ?_
  refine r_then ?_
  refine r_seq ?_
  refine r_region ?_
  refine r_pure tabOk 2 [8, 9] (E' := [(8, .one (.raw (.pointer none)) p0), (9, .one .str a1)]) rfl ?_
  obtain ⟨r1, hr1, h⟩ := bind_ex h
  refine r_call (Lo := []) (disk_Disk_Read_ok p0 a0 a1 0 1048576 _ hr1) (by kernel_rfl) (List.Perm.refl _) rfl rfl fun _ => ?_
  refine r_pure tabOk 5 [5] (E' := [(5, .one .str r1.1)]) rfl ?_
  refine r_nil ?_
  refine r_then ?_
  refine r_seq ?_
  refine r_region ?_
  refine r_pure tabOk 2 [4] (E' := [(4, .one .str r1.1)]) rfl ?_
  refine r_nil ?_
  refine r_then ?_
  refine r_ret ?_
  obtain rfl := Option.some.inj h
  exact r_ret1 rfl (.tmp rfl) (fun _ _ g => g) (fun _ _ _ => (.cons_cons _ .slnil))

theorem escrowlaw04_sameInts_ok (a0 : List (Int)) (a1 : List (Int)) (r : Bool) (h : escrowlaw04_sameInts a0 a1 = some r) : Pure Try.prog 22 [.one (.sl 3 (.int .i64)) a0, .one (.sl 3 (.int .i64)) a1] (.one .bool r) := by
  unfold escrowlaw04_sameInts at h
  refine enter Try.func22 rfl 26 rfl rfl fun F => ?_
  refine r_seq ?_
  refine r_region ?_
  refine r_pure tabOk 1 [0, 1] (E' := [(0, .one (.sl 3 (.int .i64)) a0), (1, .one (.sl 3 (.int .i64)) a1)]) rfl ?_
  refine r_nil ?_
  refine r_then ?_
  refine r_seq ?_
  refine r_seq ?_
  refine r_region ?_
  refine r_pure tabOk 5 [0, 1, 10] (E' := [(0, .one (.sl 3 (.int .i64)) a0), (1, .one (.sl 3 (.int .i64)) a1), (10, .one .bool ((List.length a0 : Int) != (List.length a1 : Int)))]) rfl ?_
  refine r_nil ?_
  refine r_then ?_
  refine r_if (b := ((List.length a0 : Int) != (List.length a1 : Int))) rfl (fun hc => ?_) (fun hc => ?_)
  · rw [if_pos hc] at h
    refine r_seq ?_
    refine r_region ?_
    refine r_pure tabOk 1 [4] (E' := [(4, .one .bool false)]) rfl ?_
    refine r_nil ?_
    refine r_then ?_
    refine r_ret ?_
    refine t_then ?_
    obtain rfl := Option.some.inj h
    exact r_ret1 rfl (.tmp rfl) (fun _ _ g => g) (fun _ _ _ => List.nil_sublist _)
  · rw [if_neg (ne_true_of_eq_false hc)] at h
    refine r_skip ?_
    refine r_then ?_
    obtain ⟨k1, hk1, h⟩ := bnd_ex h
    refine r_joink (γ := Unit) (fun (o2 : Unit) _ => []) (fun (o2 : Unit) _ => []) k1 r ?_ ?_
    · refine r_seq ?_
      refine r_region ?_
      refine r_pure tabOk 1 [0, 1, 5] (E' := [(0, .one (.sl 3 (.int .i64)) a0), (1, .one (.sl 3 (.int .i64)) a1), (5, .one (.int .i64) 0)]) rfl ?_
      refine r_nil ?_
      refine r_then ?_
      refine r_block ?_
      refine r_less [0, 1, 5] rfl ?_
      refine r_loopg (γ := Unit) (fun (s4 : Int) _ => [(0, .one (.sl 3 (.int .i64)) a0), (1, .one (.sl 3 (.int .i64)) a1), (5, .one (.int .i64) s4)]) (fun (s4 : Int) _ => []) (escrowlaw04_sameInts_l0 a0 a1 k1) 0 () h rfl rfl ?_
      clear h
      intro m5 s4 gg h
      cases m5 with
      | zero => cases h
      | succ m5 =>
      simp only [escrowlaw04_sameInts_l0] at h
      refine r_seq ?_
      refine r_seq ?_
      refine r_region ?_
      refine r_pure tabOk 4 [0, 1, 5, 14] (E' := [(0, .one (.sl 3 (.int .i64)) a0), (1, .one (.sl 3 (.int .i64)) a1), (5, .one (.int .i64) s4), (14, .one .bool (decide (s4 < (List.length a0 : Int))))]) rfl ?_
      refine r_nil ?_
      refine r_then ?_
      refine r_if (b := (decide (s4 < (List.length a0 : Int)))) rfl (fun hc => ?_) (fun hc => ?_)
      · rw [if_pos hc] at h
        refine r_skip ?_
        refine r_then ?_
        refine r_seq ?_
        refine r_block ?_
        refine r_seq ?_
        refine r_drawn (by kernel_rfl) (by kernel_rfl) ?_
        refine q_pure tabOk 2 [0, 1, 5, 17, 18] (E' := [(0, .one (.sl 3 (.int .i64)) a0), (1, .one (.sl 3 (.int .i64)) a1), (5, .one (.int .i64) s4), (17, .one (.sl 3 (.int .i64)) a0), (18, .one (.int .i64) s4)]) rfl ?_
        obtain ⟨hc, h⟩ := ite_ex h
        refine q_y (y_iref tabOk rfl rfl hc.1 hc.2 rfl ty3) rfl ?_
        refine q_y (y_ref rfl ty3) rfl ?_
        refine q_pure tabOk 2 [0, 1, 5, 20, 21, 22] (E' := [(0, .one (.sl 3 (.int .i64)) a0), (1, .one (.sl 3 (.int .i64)) a1), (5, .one (.int .i64) s4), (20, .one (.int .i64) (List.getD a0 (Int.toNat s4) 0)), (21, .one (.sl 3 (.int .i64)) a1), (22, .one (.int .i64) s4)]) rfl ?_
        obtain ⟨hc, h⟩ := ite_ex h
        refine q_y (y_iref tabOk rfl rfl hc.1 hc.2 rfl ty3) rfl ?_
        refine q_y (y_ref rfl ty3) rfl ?_
        refine q_pure tabOk 1 [0, 1, 5, 25] (E' := [(0, .one (.sl 3 (.int .i64)) a0), (1, .one (.sl 3 (.int .i64)) a1), (5, .one (.int .i64) s4), (25, .one .bool ((List.getD a0 (Int.toNat s4) 0) != (List.getD a1 (Int.toNat s4) 0)))]) rfl ?_
        refine q_nil ?_
        refine r_then ?_
        refine r_if (b := ((List.getD a0 (Int.toNat s4) 0) != (List.getD a1 (Int.toNat s4) 0))) rfl (fun hc => ?_) (fun hc => ?_)
        · rw [if_pos hc] at h
          refine r_seq ?_
          refine r_region ?_
          refine r_pure tabOk 1 [4] (E' := [(4, .one .bool false)]) rfl ?_
          refine r_nil ?_
          refine r_then ?_
          refine r_ret ?_
          refine t_block ?_
          refine t_then ?_
          refine t_then ?_
          refine t_block ?_
          refine t_then ?_
          obtain rfl := Option.some.inj h
          exact r_ret1 rfl (.tmp rfl) (fun _ _ g => g) (fun _ _ _ => List.nil_sublist _)
        · rw [if_neg (ne_true_of_eq_false hc)] at h
          refine r_skip ?_
          refine r_inblock ?_
          refine r_then ?_
          refine r_region ?_
          refine r_pure tabOk 3 [0, 1, 5] (E' := [(0, .one (.sl 3 (.int .i64)) a0), (1, .one (.sl 3 (.int .i64)) a1), (5, .one (.int .i64) (IntKind.wrap .i64 (s4 + 1)))]) rfl ?_
          obtain ⟨i6, hi6, h⟩ := bnd_ex h
          rw [hi6]
          refine r_nil ?_
          refine r_then ?_
          refine r_less [0, 1, 5] rfl ?_
          exact r_backg i6 () (Nat.lt_succ_self _) h rfl rfl
      · rw [if_neg (ne_true_of_eq_false hc)] at h
        refine r_exit ?_
        refine e_then ?_
        refine e_then ?_
        refine e_eq ?_
        refine r_then ?_
        refine r_less [] rfl ?_
        exact r_meetk () () h rfl rfl
    · intro o2 gg h
      rw [← hk1] at h
      try dsimp only at h
      refine r_seq ?_
      refine r_region ?_
      refine r_pure tabOk 1 [4] (E' := [(4, .one .bool true)]) rfl ?_
      refine r_nil ?_
      refine r_then ?_
      refine r_ret ?_
      obtain rfl := Option.some.inj h
      exact r_ret1 rfl (.tmp rfl) (fun _ _ g => g) (fun _ _ _ => List.nil_sublist _)
end Sx
