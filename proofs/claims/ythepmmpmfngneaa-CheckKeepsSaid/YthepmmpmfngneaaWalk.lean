/-
  Own work, printed by a program of the same hand. Each function of the code answers what its plain twin reckons.
-/
import Derived.Test.YthepmmpmfngneaaWalk1
namespace Sx
open Go Go.Proofs
set_option maxRecDepth 10000

theorem disk_fateOf_ok (a0 : List (List Int × Int × Int × List Int × Unit)) (a1 : List Int) (a2 : Int) (r : (List Int × Int × Int × List Int × Unit)) (h : disk_fateOf a0 a1 a2 = some r) : Pure Try.prog 39 [.one (.sl 83 Y83) a0, .one .str a1, .one (.int .i64) a2] (.one Y83 r) := by
  unfold disk_fateOf at h
  refine enter Try.func39 rfl 28 rfl rfl fun F => ?_
  refine r_seq ?_
  refine r_region ?_
  refine r_alloc (t := Y83) rfl zf83 rfl fun b1 => ?_
  refine r_nil ?_
  refine r_then ?_
  obtain ⟨k2, hk2, h⟩ := bnd_ex h
  refine r_joink (γ := Unit) (fun (o3 : Unit) _ => [(6, ptr b1 0)]) (fun (o3 : Unit) _ => [Res.var b1 83 Y83 ([], 0, 0, [], ())]) k2 r ?_ ?_
  · refine r_seq ?_
    refine r_region ?_
    refine r_pure tabOk 3 [1, 2, 6, 9, 10, 11] (E' := [(1, .one .str a1), (2, .one (.int .i64) a2), (6, ptr b1 0), (9, .one (.sl 83 Y83) a0), (10, .one (.int .i64) (List.length a0 : Int)), (11, .one (.int .i64) 0)]) rfl ?_
    refine r_nil ?_
    refine r_then ?_
    refine r_block ?_
    refine r_less [1, 2, 6, 9, 10, 11] rfl ?_
    refine r_loopg (γ := Unit) (fun (s5 : Int) _ => [(1, .one .str a1), (2, .one (.int .i64) a2), (6, ptr b1 0), (9, .one (.sl 83 Y83) a0), (10, .one (.int .i64) (List.length a0 : Int)), (11, .one (.int .i64) s5)]) (fun (s5 : Int) _ => [Res.var b1 83 Y83 ([], 0, 0, [], ())]) (disk_fateOf_l0 a0 a1 a2 k2) 0 () h rfl rfl ?_
    clear h
    intro m6 s5 gg h
    cases m6 with
    | zero => cases h
    | succ m6 =>
    simp only [disk_fateOf_l0] at h
    refine r_seq ?_
    refine r_region ?_
    refine r_pure tabOk 1 [1, 2, 6, 9, 10, 11, 12] (E' := [(1, .one .str a1), (2, .one (.int .i64) a2), (6, ptr b1 0), (9, .one (.sl 83 Y83) a0), (10, .one (.int .i64) (List.length a0 : Int)), (11, .one (.int .i64) s5), (12, .one .bool (decide (s5 < (List.length a0 : Int))))]) rfl ?_
    refine r_nil ?_
    refine r_then ?_
    refine r_seq ?_
    refine r_if (b := (decide (s5 < (List.length a0 : Int)))) rfl (fun hc => ?_) (fun hc => ?_)
    · rw [if_pos hc] at h
      refine r_skip ?_
      refine r_then ?_
      refine r_seq ?_
      refine r_block ?_
      refine r_seq ?_
      refine r_region ?_
      obtain ⟨hc, h⟩ := ite_ex h
      refine y (y_iref tabOk rfl rfl hc.1 hc.2 rfl ty83) rfl ?_
      refine y (y_ref rfl ty83) rfl ?_
      refine r_alloc (t := Y83) rfl zf83 rfl fun b7 => ?_
      refine r_store 0 .here rfl rfl rfl (by first | rfl | (simp only [Pth.off, T.size]; omega)) ok_here ty83 ?_
      refine r_nil ?_
      refine r_then ?_
      refine r_seq ?_
      refine r_region ?_
      refine r_pure tabOk 1 [1, 2, 6, 8, 9, 10, 11, 15] (E' := [(1, .one .str a1), (2, .one (.int .i64) a2), (6, ptr b1 0), (8, ptr b7 0), (9, .one (.sl 83 Y83) a0), (10, .one (.int .i64) (List.length a0 : Int)), (11, .one (.int .i64) s5), (15, ptr b7 0)]) rfl ?_
      refine y (y_load 0 ((.fst .here)) rfl rfl (by first | rfl | (simp only [Pth.off, T.size]; omega)) (ok_fst ok_here) ty9) rfl ?_
      refine r_pure tabOk 3 [1, 2, 6, 8, 9, 10, 11, 19] (E' := [(1, .one .str a1), (2, .one (.int .i64) a2), (6, ptr b1 0), (8, ptr b7 0), (9, .one (.sl 83 Y83) a0), (10, .one (.int .i64) (List.length a0 : Int)), (11, .one (.int .i64) s5), (19, .one .bool (((List.getD a0 (Int.toNat s5) ([], 0, 0, [], ())).1) == a1))]) rfl ?_
      obtain ⟨b8, hbb8, h⟩ := bnd_ex h
      rw [hbb8]
      refine r_lsplit (γ := Unit) 5 (fun _ => [(1, .one .str a1), (2, .one (.int .i64) a2), (6, ptr b1 0), (8, ptr b7 0), (9, .one (.sl 83 Y83) a0), (10, .one (.int .i64) (List.length a0 : Int)), (11, .one (.int .i64) s5), (24, .one .bool (b8 && (((List.getD a0 (Int.toNat s5) ([], 0, 0, [], ())).2.1) == a2)))]) (fun _ => [Res.var b7 83 Y83 (List.getD a0 (Int.toNat s5) ([], 0, 0, [], ())), Res.var b1 83 Y83 ([], 0, 0, [], ())]) ?_ (fun _ => ?_)
      · clear h
        cases b8 with
        | true =>
        refine r_pure tabOk 1 [1, 2, 6, 8, 9, 10, 11, 19, 20] (E' := [(1, .one .str a1), (2, .one (.int .i64) a2), (6, ptr b1 0), (8, ptr b7 0), (9, .one (.sl 83 Y83) a0), (10, .one (.int .i64) (List.length a0 : Int)), (11, .one (.int .i64) s5), (19, .one .bool true), (20, ptr b7 1)]) rfl ?_
        refine r_guard (by rfl) rfl ?_
        refine y (y_load 0 ((.snd (.fst .here))) rfl rfl (by first | rfl | (simp only [Pth.off, T.size]; omega)) (ok_snd (ok_fst ok_here)) ty3) rfl ?_
        refine r_pure tabOk 3 [1, 2, 6, 8, 9, 10, 11, 24] (E' := [(1, .one .str a1), (2, .one (.int .i64) a2), (6, ptr b1 0), (8, ptr b7 0), (9, .one (.sl 83 Y83) a0), (10, .one (.int .i64) (List.length a0 : Int)), (11, .one (.int .i64) s5), (24, .one .bool (((List.getD a0 (Int.toNat s5) ([], 0, 0, [], ())).2.1) == a2))]) rfl ?_
        refine r_nil ?_
        refine r_then ?_
        exact r_meetg () rfl rfl
        | false =>
        refine r_pure tabOk 5 [1, 2, 6, 8, 9, 10, 11, 24] (E' := [(1, .one .str a1), (2, .one (.int .i64) a2), (6, ptr b1 0), (8, ptr b7 0), (9, .one (.sl 83 Y83) a0), (10, .one (.int .i64) (List.length a0 : Int)), (11, .one (.int .i64) s5), (24, .one .bool false)]) rfl ?_
        refine r_nil ?_
        refine r_then ?_
        exact r_meetg () rfl rfl
      refine r_nil ?_
      refine r_then ?_
      refine r_if (b := (b8 && (((List.getD a0 (Int.toNat s5) ([], 0, 0, [], ())).2.1) == a2))) rfl (fun hc => ?_) (fun hc => ?_)
      · rw [if_pos hc] at h
        refine r_seq ?_
        refine r_region ?_
        refine y (y_load 0 .here rfl rfl (by first | rfl | (simp only [Pth.off, T.size]; omega)) ok_here ty83) rfl ?_
        refine r_store 1 .here rfl rfl rfl (by first | rfl | (simp only [Pth.off, T.size]; omega)) ok_here ty83 ?_
        refine r_nil ?_
        refine r_then ?_
        refine r_ret ?_
        refine t_block ?_
        refine t_then ?_
        refine t_then ?_
        refine t_block ?_
        refine t_then ?_
        obtain rfl := Option.some.inj h
        exact r_ret1 rfl (.cell 1 .here rfl rfl (by first | rfl | (simp only [Pth.off, T.size]; omega)) ok_here ty83) (fun _ _ g => g) (fun _ _ _ => List.nil_sublist _)
      · rw [if_neg (ne_true_of_eq_false hc)] at h
        refine r_skip ?_
        refine r_inblock ?_
        refine r_then ?_
        refine r_region ?_
        refine r_pure tabOk 2 [1, 2, 6, 9, 10, 11] (E' := [(1, .one .str a1), (2, .one (.int .i64) a2), (6, ptr b1 0), (9, .one (.sl 83 Y83) a0), (10, .one (.int .i64) (List.length a0 : Int)), (11, .one (.int .i64) (IntKind.wrap .i64 (s5 + 1)))]) rfl ?_
        refine r_nil ?_
        refine r_then ?_
        refine r_lose (L' := [Res.var b1 83 Y83 ([], 0, 0, [], ())]) (.cons _ (.cons_cons _ .slnil)) ?_
        refine r_less [1, 2, 6, 9, 10, 11] rfl ?_
        exact r_backg (IntKind.wrap .i64 (s5 + 1)) () (Nat.lt_succ_self _) h rfl rfl
    · rw [if_neg (ne_true_of_eq_false hc)] at h
      refine r_exit ?_
      refine e_then ?_
      refine e_then ?_
      refine e_eq ?_
      refine r_then ?_
      refine r_less [6] rfl ?_
      exact r_meetk () () h rfl rfl
  · intro o3 gg h
    rw [← hk2] at h
    try dsimp only at h
    refine r_seq ?_
    refine r_region ?_
    refine y (y_build rfl zf83 rfl rfl .nil) rfl ?_
    refine r_store 0 .here rfl rfl rfl (by first | rfl | (simp only [Pth.off, T.size]; omega)) ok_here ty83 ?_
    refine r_nil ?_
    refine r_then ?_
    refine r_ret ?_
    obtain rfl := Option.some.inj h
    exact r_ret1 rfl (.cell 0 .here rfl rfl (by first | rfl | (simp only [Pth.off, T.size]; omega)) ok_here ty83) (fun _ _ g => g) (fun _ _ _ => List.nil_sublist _)

theorem disk_file_fall_ok (p0 : Value) (a0 : FileS) (a1 : List Int) (a2 : List (List Int × Int × Int × List Int × Unit)) (r : FileS) (h : disk_file_fall a0 a1 a2 = some r) : Fn Try.prog 25 [.one (.raw (.pointer none)) p0, .one .str a1, .one (.sl 83 Y83) a2] [Res.file Try.prog dI p0 a0] (fun _ => .tup []) (fun _ => [Res.file Try.prog dI p0 r]) := by
  unfold disk_file_fall at h
  refine enter Try.func25 rfl 142 rfl rfl fun F => ?_
  refine r_unfile fun b4 sv1 tv2 dv3 hp => ?_
  subst hp
  refine r_seq ?_
  refine r_region ?_
  refine r_pure tabOk 3 [0, 1, 2, 18] (E' := [(0, ptr b4 0), (1, .one .str a1), (2, .one (.sl 83 Y83) a2), (18, ptr b4 1)]) rfl ?_
  refine y (y_load 0 ((.snd (.fst .here))) rfl rfl (by first | rfl | (simp only [Pth.off, T.size]; omega)) (ok_snd (ok_fst ok_here)) tx0) rfl ?_
  refine y (y_lenown tabOk 2 rfl rfl rfl) rfl ?_
  refine r_pure tabOk 1 [0, 1, 2, 6] (E' := [(0, ptr b4 0), (1, .one .str a1), (2, .one (.sl 83 Y83) a2), (6, .one (.int .i64) (List.length a0.2.1 : Int))]) rfl ?_
  obtain ⟨size5, hsize5, h⟩ := bnd_ex h
  rw [hsize5]
  refine r_nil ?_
  refine r_then ?_
  refine r_seq ?_
  refine r_region ?_
  refine r_makeMap 3 (.int .i64) Y83 rfl fun v6 => ?_
  refine r_pure tabOk 1 [0, 1, 2, 6, 7] (E' := [(0, ptr b4 0), (1, .one .str a1), (2, .one (.sl 83 Y83) a2), (6, .one (.int .i64) size5), (7, .one (.raw (.map none)) v6)]) rfl ?_
  refine r_nil ?_
  refine r_then ?_
  obtain ⟨k7, hk7, h⟩ := bnd_ex h
  refine r_joink (γ := Unit) (fun (o8 : Int × (List (Int × (List Int × Int × Int × List Int × Unit)))) _ => [(0, ptr b4 0), (6, .one (.int .i64) o8.1), (7, .one (.raw (.map none)) v6)]) (fun (o8 : Int × (List (Int × (List Int × Int × Int × List Int × Unit)))) _ => [Res.dirty Try.prog dI dv3 a0.2.2, Res.map Try.prog 3 (.int .i64) Y83 v6 o8.2, Res.var b4 66 FT (sv1, tv2, dv3, ()), Res.own sv1 5 (.int .u8) a0.1, Res.own tv2 5 (.int .u8) a0.2.1]) k7 r ?_ ?_
  · refine r_seq ?_
    refine r_region ?_
    refine r_pure tabOk 3 [0, 1, 2, 6, 7, 24] (E' := [(0, ptr b4 0), (1, .one .str a1), (2, .one (.sl 83 Y83) a2), (6, .one (.int .i64) size5), (7, .one (.raw (.map none)) v6), (24, ptr b4 2)]) rfl ?_
    refine y (y_load 1 ((.snd (.snd (.fst .here)))) rfl rfl (by first | rfl | (simp only [Pth.off, T.size]; omega)) (ok_snd (ok_snd (ok_fst ok_here))) ty64) rfl ?_
    refine r_perm (L' := [Res.dirty Try.prog dI dv3 a0.2.2, Res.map Try.prog 3 (.int .i64) Y83 v6 [], Res.var b4 66 FT (sv1, tv2, dv3, ()), Res.own sv1 5 (.int .u8) a0.1, Res.own tv2 5 (.int .u8) a0.2.1]) ((List.perm_middle (a := Res.dirty Try.prog dI dv3 a0.2.2) (l₁ := [Res.map Try.prog 3 (.int .i64) Y83 v6 [], Res.var b4 66 FT (sv1, tv2, dv3, ()), Res.own sv1 5 (.int .u8) a0.1, Res.own tv2 5 (.int .u8) a0.2.1]) (l₂ := [])).trans (.cons _ (List.Perm.refl _))) ?_
    refine r_krange (P := Try.prog) (I := dI) kint rfl Try.underlying64 rfl fun it51 hn52 => ?_
    refine r_nil ?_
    refine r_then ?_
    refine r_block ?_
    obtain ⟨rr, hall, h⟩ := bind_ex h
    refine r_less [0, 1, 2, 6, 7, 26] rfl ?_
    refine r_rangeloop (step := disk_file_fall_l1 a0 a1 a2) (fun s l => l.Nodup ∧ ∀ k ∈ l, pget (.int .i64) k s.2 = none) (comm_disk_file_fall_l1 a0 a1 a2) hn52 ⟨hn52, fun _ _ => rfl⟩ hall (γ := Unit) (fun (s55 : Int × (List (Int × (List Int × Int × Int × List Int × Unit)))) _ => [(0, ptr b4 0), (1, .one .str a1), (2, .one (.sl 83 Y83) a2), (6, .one (.int .i64) s55.1), (7, .one (.raw (.map none)) v6), (26, .one (.raw (.pointer none)) it51)]) (fun todo57 (s55 : Int × (List (Int × (List Int × Int × Int × List Int × Unit)))) _ => [Res.kiter Try.prog dI dv3 it51 a0.2.2 todo57 none, Res.map Try.prog 3 (.int .i64) Y83 v6 s55.2, Res.var b4 66 FT (sv1, tv2, dv3, ()), Res.own sv1 5 (.int .u8) a0.1, Res.own tv2 5 (.int .u8) a0.2.1]) () rfl rfl fun todo57 s55 gg hend hone => ?_
    refine r_seq ?_
    refine r_region ?_
    refine r_knext (P := Try.prog) (I := dI) kint rfl rfl (fun ht => ?_) (fun A58 k59 B60 c62 htk59 hk => ?_)
    · obtain rfl := hend ht
      refine r_kunrange ?_
      refine r_pure tabOk 1 [0, 1, 2, 6, 7, 28] (E' := [(0, ptr b4 0), (1, .one .str a1), (2, .one (.sl 83 Y83) a2), (6, .one (.int .i64) s55.1), (7, .one (.raw (.map none)) v6), (28, .one .bool false)]) rfl ?_
      refine r_nil ?_
      refine r_then ?_
      refine r_seq ?_
      refine r_if (b := false) rfl (fun hc => ?_) (fun hc => ?_)
      · cases hc
      · refine r_exit ?_
        refine e_then ?_
        refine e_then ?_
        refine e_eq ?_
        refine r_then ?_
        refine r_less [0, 6, 7] rfl ?_
        exact r_meetk (s55.1, s55.2) () h rfl rfl
    · obtain ⟨sk59, hsk59⟩ := hone A58 k59 B60 htk59
      clear h
      have h := hsk59
      unfold disk_file_fall_l1 at h
      refine r_pure tabOk 1 [0, 1, 2, 6, 7, 26, 28] (E' := [(0, ptr b4 0), (1, .one .str a1), (2, .one (.sl 83 Y83) a2), (6, .one (.int .i64) s55.1), (7, .one (.raw (.map none)) v6), (26, .one (.raw (.pointer none)) it51), (28, .one .bool true)]) rfl ?_
      refine r_nil ?_
      refine r_then ?_
      refine r_seq ?_
      refine r_if (b := true) rfl (fun hc => ?_) (fun hc => ?_)
      · refine r_skip ?_
        refine r_then ?_
        refine r_block ?_
        refine r_seq ?_
        refine r_region ?_
        refine y_kentry (P := Try.prog) (I := dI) rfl 0 rfl rfl fun c63 => ?_
        refine r_pure tabOk 2 [0, 1, 2, 6, 7, 8, 26] (E' := [(0, ptr b4 0), (1, .one .str a1), (2, .one (.sl 83 Y83) a2), (6, .one (.int .i64) s55.1), (7, .one (.raw (.map none)) v6), (8, .one (.int .i64) k59), (26, .one (.raw (.pointer none)) it51)]) rfl ?_
        refine r_nil ?_
        refine r_then ?_
        refine r_seq ?_
        refine r_region ?_
        refine r_pure tabOk 3 [0, 1, 2, 6, 7, 8, 26, 31, 32, 33] (E' := [(0, ptr b4 0), (1, .one .str a1), (2, .one (.sl 83 Y83) a2), (6, .one (.int .i64) s55.1), (7, .one (.raw (.map none)) v6), (8, .one (.int .i64) k59), (26, .one (.raw (.pointer none)) it51), (31, .one (.sl 83 Y83) a2), (32, .one .str a1), (33, .one (.int .i64) k59)]) rfl ?_
        obtain ⟨r64, hr64, h⟩ := bind_ex h
        refine r_calls (disk_fateOf_ok a2 a1 k59 _ hr64) (by kernel_rfl) rfl rfl ?_
        refine r_alloc (t := Y83) rfl zf83 rfl fun b65 => ?_
        refine r_store 0 .here rfl rfl rfl (by first | rfl | (simp only [Pth.off, T.size]; omega)) ok_here ty83 ?_
        refine r_nil ?_
        refine r_then ?_
        refine r_seq ?_
        refine r_region ?_
        refine r_pure tabOk 2 [0, 1, 2, 6, 7, 8, 9, 26, 35, 36] (E' := [(0, ptr b4 0), (1, .one .str a1), (2, .one (.sl 83 Y83) a2), (6, .one (.int .i64) s55.1), (7, .one (.raw (.map none)) v6), (8, .one (.int .i64) k59), (9, ptr b65 0), (26, .one (.raw (.pointer none)) it51), (35, .one (.raw (.map none)) v6), (36, .one (.int .i64) k59)]) rfl ?_
        refine y (y_load 0 .here rfl rfl (by first | rfl | (simp only [Pth.off, T.size]; omega)) ok_here ty83) rfl ?_
        obtain ⟨hc, h⟩ := ite_ex h
        refine r_mapUpdate 2 rfl rfl rfl rfl ktc3 Try.underlying81 hc ?_
        refine r_nil ?_
        refine r_then ?_
        refine r_seq ?_
        refine r_region ?_
        refine r_pure tabOk 1 [0, 1, 2, 6, 7, 8, 9, 26, 38] (E' := [(0, ptr b4 0), (1, .one .str a1), (2, .one (.sl 83 Y83) a2), (6, .one (.int .i64) s55.1), (7, .one (.raw (.map none)) v6), (8, .one (.int .i64) k59), (9, ptr b65 0), (26, .one (.raw (.pointer none)) it51), (38, ptr b65 2)]) rfl ?_
        refine y (y_load 0 ((.snd (.snd (.fst .here)))) rfl rfl (by first | rfl | (simp only [Pth.off, T.size]; omega)) (ok_snd (ok_snd (ok_fst ok_here))) ty3) rfl ?_
        refine r_pure tabOk 2 [0, 1, 2, 6, 7, 8, 9, 26, 41] (E' := [(0, ptr b4 0), (1, .one .str a1), (2, .one (.sl 83 Y83) a2), (6, .one (.int .i64) s55.1), (7, .one (.raw (.map none)) v6), (8, .one (.int .i64) k59), (9, ptr b65 0), (26, .one (.raw (.pointer none)) it51), (41, .one .bool (r64.2.2.1 == 1))]) rfl ?_
        obtain ⟨b66, hbb66, h⟩ := bnd_ex h
        rw [hbb66]
        refine r_lsplit (γ := Unit) 4 (fun _ => [(0, ptr b4 0), (1, .one .str a1), (2, .one (.sl 83 Y83) a2), (6, .one (.int .i64) s55.1), (7, .one (.raw (.map none)) v6), (8, .one (.int .i64) k59), (26, .one (.raw (.pointer none)) it51), (45, .one .bool (b66 || (r64.2.2.1 == 2)))]) (fun _ => [Res.var b65 83 Y83 r64, Res.kiter Try.prog dI dv3 it51 a0.2.2 (A58 ++ B60) (some k59), Res.map Try.prog 3 (.int .i64) Y83 v6 (pput (.int .i64) k59 r64 s55.2), Res.var b4 66 FT (sv1, tv2, dv3, ()), Res.own sv1 5 (.int .u8) a0.1, Res.own tv2 5 (.int .u8) a0.2.1]) ?_ (fun _ => ?_)
        · clear h
          cases b66 with
          | true =>
          refine r_pure tabOk 4 [0, 1, 2, 6, 7, 8, 26, 45] (E' := [(0, ptr b4 0), (1, .one .str a1), (2, .one (.sl 83 Y83) a2), (6, .one (.int .i64) s55.1), (7, .one (.raw (.map none)) v6), (8, .one (.int .i64) k59), (26, .one (.raw (.pointer none)) it51), (45, .one .bool true)]) rfl ?_
          refine r_nil ?_
          refine r_then ?_
          exact r_meetg () rfl rfl
          | false =>
          refine r_pure tabOk 1 [0, 1, 2, 6, 7, 8, 26, 41, 42] (E' := [(0, ptr b4 0), (1, .one .str a1), (2, .one (.sl 83 Y83) a2), (6, .one (.int .i64) s55.1), (7, .one (.raw (.map none)) v6), (8, .one (.int .i64) k59), (26, .one (.raw (.pointer none)) it51), (41, .one .bool false), (42, ptr b65 2)]) rfl ?_
          refine r_guard (by rfl) rfl ?_
          refine y (y_load 0 ((.snd (.snd (.fst .here)))) rfl rfl (by first | rfl | (simp only [Pth.off, T.size]; omega)) (ok_snd (ok_snd (ok_fst ok_here))) ty3) rfl ?_
          refine r_pure tabOk 2 [0, 1, 2, 6, 7, 8, 26, 45] (E' := [(0, ptr b4 0), (1, .one .str a1), (2, .one (.sl 83 Y83) a2), (6, .one (.int .i64) s55.1), (7, .one (.raw (.map none)) v6), (8, .one (.int .i64) k59), (26, .one (.raw (.pointer none)) it51), (45, .one .bool (r64.2.2.1 == 2))]) rfl ?_
          refine r_nil ?_
          refine r_then ?_
          exact r_meetg () rfl rfl
        refine r_nil ?_
        refine r_then ?_
        refine r_if (b := (b66 || (r64.2.2.1 == 2))) rfl (fun hc => ?_) (fun hc => ?_)
        · rw [if_pos hc] at h
          refine r_region ?_
          refine r_pure tabOk 7 [0, 1, 2, 7, 26, 46, 49, 52] (E' := [(0, ptr b4 0), (1, .one .str a1), (2, .one (.sl 83 Y83) a2), (7, .one (.raw (.map none)) v6), (26, .one (.raw (.pointer none)) it51), (46, .one (.int .i64) s55.1), (49, .one (.int .i64) (IntKind.wrap .i64 ((IntKind.wrap .i64 (k59 + 1)) * 64))), (52, ptr b4 0)]) rfl ?_
          refine y (y_load 3 ((.fst .here)) rfl rfl (by first | rfl | (simp only [Pth.off, T.size]; omega)) (ok_fst ok_here) tx0) rfl ?_
          refine y (y_lenown tabOk 4 rfl rfl rfl) rfl ?_
          refine y (y_min rfl rfl) rfl ?_
          refine y (y_max rfl rfl) rfl ?_
          refine r_pure tabOk 1 [0, 1, 2, 6, 7, 26] (E' := [(0, ptr b4 0), (1, .one .str a1), (2, .one (.sl 83 Y83) a2), (6, .one (.int .i64) (max s55.1 (min (IntKind.wrap .i64 ((IntKind.wrap .i64 (k59 + 1)) * 64)) (List.length a0.1 : Int)))), (7, .one (.raw (.map none)) v6), (26, .one (.raw (.pointer none)) it51)]) rfl ?_
          obtain ⟨size67, hsize67, h⟩ := bnd_ex h
          rw [hsize67]
          refine r_nil ?_
          refine r_inblock ?_
          refine r_then ?_
          refine r_lose (L' := [Res.kiter Try.prog dI dv3 it51 a0.2.2 (A58 ++ B60) (some k59), Res.map Try.prog 3 (.int .i64) Y83 v6 (pput (.int .i64) k59 r64 s55.2), Res.var b4 66 FT (sv1, tv2, dv3, ()), Res.own sv1 5 (.int .u8) a0.1, Res.own tv2 5 (.int .u8) a0.2.1]) (.cons _ (.cons_cons _ (.cons_cons _ (.cons_cons _ (.cons_cons _ (.cons_cons _ .slnil)))))) ?_
          refine r_imp_at (R' := Res.kiter Try.prog dI dv3 it51 a0.2.2 (A58 ++ B60) none) 0 rfl kiter_none ?_
          refine r_less [0, 1, 2, 6, 7, 26] rfl ?_
          obtain rfl := Option.some.inj h
          exact r_backR () htk59 hsk59 rfl rfl
        · rw [if_neg (ne_true_of_eq_false hc)] at h
          refine r_skip ?_
          refine r_inblock ?_
          refine r_then ?_
          refine r_lose (L' := [Res.kiter Try.prog dI dv3 it51 a0.2.2 (A58 ++ B60) (some k59), Res.map Try.prog 3 (.int .i64) Y83 v6 (pput (.int .i64) k59 r64 s55.2), Res.var b4 66 FT (sv1, tv2, dv3, ()), Res.own sv1 5 (.int .u8) a0.1, Res.own tv2 5 (.int .u8) a0.2.1]) (.cons _ (.cons_cons _ (.cons_cons _ (.cons_cons _ (.cons_cons _ (.cons_cons _ .slnil)))))) ?_
          refine r_imp_at (R' := Res.kiter Try.prog dI dv3 it51 a0.2.2 (A58 ++ B60) none) 0 rfl kiter_none ?_
          refine r_less [0, 1, 2, 6, 7, 26] rfl ?_
          obtain rfl := Option.some.inj h
          exact r_backR () htk59 hsk59 rfl rfl
      · cases hc
  · intro o8 gg h
    rw [← hk7] at h
    try dsimp only at h
    refine r_seq ?_
    refine r_region ?_
    refine r_pure tabOk 3 [0, 6, 7, 59] (E' := [(0, ptr b4 0), (6, .one (.int .i64) o8.1), (7, .one (.raw (.map none)) v6), (59, ptr b4 0)]) rfl ?_
    refine y (y_load 2 ((.fst .here)) rfl rfl (by first | rfl | (simp only [Pth.off, T.size]; omega)) (ok_fst ok_here) tx0) rfl ?_
    refine r_pure tabOk 1 [0, 7, 60, 61] (E' := [(0, ptr b4 0), (7, .one (.raw (.map none)) v6), (60, .one (.raw (.slice none 0 0)) sv1), (61, .one (.int .i64) o8.1)]) rfl ?_
    obtain ⟨hs9, h⟩ := ite_ex h
    refine y (y_osub tabOk (i := (0 : Int)) (j := o8.1) rfl (sub_own 3 rfl) rfl rfl hs9.1 hs9.2.1 hs9.2.2 rfl ty5) rfl ?_
    obtain ⟨r10, hr10, h⟩ := bind_ex h
    refine r_callwo (slices_Clone__byte_byte_ok (List.take (Int.toNat o8.1) a0.1) _ hr10) (by kernel_rfl) (fun _ => rfl) (fun _ r hr => by rcases List.mem_singleton.1 hr with rfl; exact Res.free_own rfl) (.sub rfl (sub_sub (sub_own 3 rfl) hs9.1 hs9.2.1 hs9.2.2) .nil) rfl fun v11 => ?_
    refine r_pure tabOk 1 [0, 7, 10] (E' := [(0, ptr b4 0), (7, .one (.raw (.map none)) v6), (10, .one (.raw (.slice none 0 0)) v11)]) rfl ?_
    refine r_nil ?_
    refine r_then ?_
    obtain ⟨k12, hk12, h⟩ := bnd_ex h
    refine r_joink (γ := Value × Value) (fun (o13 : List (Int)) g16 => [(0, ptr b4 0), (10, .one (.raw (.slice none 0 0)) g16.1)]) (fun (o13 : List (Int)) g16 => [Res.own g16.1 5 (.int .u8) o13, Res.dirty Try.prog dI dv3 a0.2.2, Res.map Try.prog 3 (.int .i64) Y83 v6 o8.2, Res.var b4 66 FT (sv1, g16.2, dv3, ()), Res.own sv1 5 (.int .u8) a0.1, Res.own g16.2 5 (.int .u8) a0.2.1]) k12 r ?_ ?_
    · refine r_seq ?_
      refine r_region ?_
      refine r_pure tabOk 1 [0, 7, 10, 64] (E' := [(0, ptr b4 0), (7, .one (.raw (.map none)) v6), (10, .one (.raw (.slice none 0 0)) v11), (64, .one (.raw (.slice none 0 0)) v11)]) rfl ?_
      refine y (y_lenown tabOk 0 rfl rfl rfl) rfl ?_
      refine r_pure tabOk 1 [0, 7, 10, 65, 66] (E' := [(0, ptr b4 0), (7, .one (.raw (.map none)) v6), (10, .one (.raw (.slice none 0 0)) v11), (65, .one (.int .i64) (List.length r10 : Int)), (66, .one (.int .i64) 0)]) rfl ?_
      refine r_nil ?_
      refine r_then ?_
      refine r_block ?_
      refine r_less [0, 7, 10, 65, 66] rfl ?_
      refine r_loopg (γ := Value × Value) (fun (s25 : Int × List (Int)) g28 => [(0, ptr b4 0), (7, .one (.raw (.map none)) v6), (10, .one (.raw (.slice none 0 0)) g28.1), (65, .one (.int .i64) (List.length r10 : Int)), (66, .one (.int .i64) s25.1)]) (fun (s25 : Int × List (Int)) g28 => [Res.own g28.1 5 (.int .u8) s25.2, Res.dirty Try.prog dI dv3 a0.2.2, Res.map Try.prog 3 (.int .i64) Y83 v6 o8.2, Res.var b4 66 FT (sv1, g28.2, dv3, ()), Res.own sv1 5 (.int .u8) a0.1, Res.own g28.2 5 (.int .u8) a0.2.1]) (disk_file_fall_l0 a0 o8 r10 k12) (0, r10) (v11, tv2) h rfl rfl ?_
      clear h
      intro m29 s25 g28 h
      cases m29 with
      | zero => cases h
      | succ m29 =>
      simp only [disk_file_fall_l0] at h
      refine r_seq ?_
      refine r_region ?_
      refine r_pure tabOk 1 [0, 7, 10, 65, 66, 67] (E' := [(0, ptr b4 0), (7, .one (.raw (.map none)) v6), (10, .one (.raw (.slice none 0 0)) g28.1), (65, .one (.int .i64) (List.length r10 : Int)), (66, .one (.int .i64) s25.1), (67, .one .bool (decide (s25.1 < (List.length r10 : Int))))]) rfl ?_
      refine r_nil ?_
      refine r_then ?_
      refine r_seq ?_
      refine r_if (b := (decide (s25.1 < (List.length r10 : Int)))) rfl (fun hc => ?_) (fun hc => ?_)
      · rw [if_pos hc] at h
        refine r_skip ?_
        refine r_then ?_
        obtain ⟨k30, hk30, h⟩ := bnd_ex h
        refine r_joink (γ := Value × Value) (fun (o31 : List (Int)) g34 => [(0, ptr b4 0), (7, .one (.raw (.map none)) v6), (10, .one (.raw (.slice none 0 0)) g34.1), (65, .one (.int .i64) (List.length r10 : Int)), (66, .one (.int .i64) s25.1)]) (fun (o31 : List (Int)) g34 => [Res.own g34.1 5 (.int .u8) o31, Res.dirty Try.prog dI dv3 a0.2.2, Res.map Try.prog 3 (.int .i64) Y83 v6 o8.2, Res.var b4 66 FT (sv1, g34.2, dv3, ()), Res.own sv1 5 (.int .u8) a0.1, Res.own g34.2 5 (.int .u8) a0.2.1]) k30 r ?_ ?_
        · refine r_block ?_
          refine r_seq ?_
          refine r_region ?_
          refine r_pure tabOk 2 [0, 7, 10, 11, 65, 66] (E' := [(0, ptr b4 0), (7, .one (.raw (.map none)) v6), (10, .one (.raw (.slice none 0 0)) g28.1), (11, .one (.int .i64) s25.1), (65, .one (.int .i64) (List.length r10 : Int)), (66, .one (.int .i64) s25.1)]) rfl ?_
          refine r_nil ?_
          refine r_then ?_
          refine r_seq ?_
          refine r_region ?_
          refine r_pure tabOk 3 [0, 7, 10, 11, 12, 65, 66] (E' := [(0, ptr b4 0), (7, .one (.raw (.map none)) v6), (10, .one (.raw (.slice none 0 0)) g28.1), (11, .one (.int .i64) s25.1), (12, .one (.int .i64) (IntKind.wrap .i64 (Int.tdiv s25.1 64))), (65, .one (.int .i64) (List.length r10 : Int)), (66, .one (.int .i64) s25.1)]) rfl ?_
          obtain ⟨s35, hs35, h⟩ := bnd_ex h
          rw [hs35]
          refine r_nil ?_
          refine r_then ?_
          refine r_seq ?_
          refine r_region ?_
          refine r_pure tabOk 2 [0, 7, 10, 11, 12, 65, 66, 72, 73] (E' := [(0, ptr b4 0), (7, .one (.raw (.map none)) v6), (10, .one (.raw (.slice none 0 0)) g28.1), (11, .one (.int .i64) s25.1), (12, .one (.int .i64) s35), (65, .one (.int .i64) (List.length r10 : Int)), (66, .one (.int .i64) s25.1), (72, .one (.raw (.map none)) v6), (73, .one (.int .i64) s35)]) rfl ?_
          refine y (y_lookok 2 rfl rfl rfl ktc3 Try.underlying81 zf83 rfl) rfl ?_
          refine r_pure tabOk 3 [0, 7, 10, 11, 12, 65, 66, 75, 76] (E' := [(0, ptr b4 0), (7, .one (.raw (.map none)) v6), (10, .one (.raw (.slice none 0 0)) g28.1), (11, .one (.int .i64) s25.1), (12, .one (.int .i64) s35), (65, .one (.int .i64) (List.length r10 : Int)), (66, .one (.int .i64) s25.1), (75, .one Y83 (Option.getD (pget (.int .i64) s35 o8.2) ([], 0, 0, [], ()))), (76, .one .bool (Option.isSome (pget (.int .i64) s35 o8.2)))]) rfl ?_
          refine r_alloc (t := Y83) rfl zf83 rfl fun b36 => ?_
          refine r_store 0 .here rfl rfl rfl (by first | rfl | (simp only [Pth.off, T.size]; omega)) ok_here ty83 ?_
          refine r_pure tabOk 1 [0, 7, 10, 11, 12, 13, 14, 65, 66] (E' := [(0, ptr b4 0), (7, .one (.raw (.map none)) v6), (10, .one (.raw (.slice none 0 0)) g28.1), (11, .one (.int .i64) s25.1), (12, .one (.int .i64) s35), (13, ptr b36 0), (14, .one .bool (Option.isSome (pget (.int .i64) s35 o8.2))), (65, .one (.int .i64) (List.length r10 : Int)), (66, .one (.int .i64) s25.1)]) rfl ?_
          obtain ⟨dirty37, hdirty37, h⟩ := bnd_ex h
          rw [hdirty37]
          refine r_nil ?_
          refine r_then ?_
          refine r_block ?_
          refine r_seq ?_
          refine r_region ?_
          refine r_pure tabOk 3 [0, 7, 10, 11, 12, 13, 65, 66, 100] (E' := [(0, ptr b4 0), (7, .one (.raw (.map none)) v6), (10, .one (.raw (.slice none 0 0)) g28.1), (11, .one (.int .i64) s25.1), (12, .one (.int .i64) s35), (13, ptr b36 0), (65, .one (.int .i64) (List.length r10 : Int)), (66, .one (.int .i64) s25.1), (100, .one .bool (!dirty37))]) rfl ?_
          obtain ⟨b38, hbb38, h⟩ := bnd_ex h
          rw [hbb38]
          refine r_lsplit (γ := Unit) 4 (fun _ => [(0, ptr b4 0), (7, .one (.raw (.map none)) v6), (10, .one (.raw (.slice none 0 0)) g28.1), (11, .one (.int .i64) s25.1), (12, .one (.int .i64) s35), (13, ptr b36 0), (65, .one (.int .i64) (List.length r10 : Int)), (66, .one (.int .i64) s25.1), (104, .one .bool (b38 || (((Option.getD (pget (.int .i64) s35 o8.2) ([], 0, 0, [], ())).2.2.1) == 1)))]) (fun _ => [Res.var b36 83 Y83 (Option.getD (pget (.int .i64) s35 o8.2) ([], 0, 0, [], ())), Res.own g28.1 5 (.int .u8) s25.2, Res.dirty Try.prog dI dv3 a0.2.2, Res.map Try.prog 3 (.int .i64) Y83 v6 o8.2, Res.var b4 66 FT (sv1, g28.2, dv3, ()), Res.own sv1 5 (.int .u8) a0.1, Res.own g28.2 5 (.int .u8) a0.2.1]) ?_ (fun _ => ?_)
          · clear h
            cases b38 with
            | true =>
            refine r_pure tabOk 4 [0, 7, 10, 11, 12, 13, 65, 66, 104] (E' := [(0, ptr b4 0), (7, .one (.raw (.map none)) v6), (10, .one (.raw (.slice none 0 0)) g28.1), (11, .one (.int .i64) s25.1), (12, .one (.int .i64) s35), (13, ptr b36 0), (65, .one (.int .i64) (List.length r10 : Int)), (66, .one (.int .i64) s25.1), (104, .one .bool true)]) rfl ?_
            refine r_nil ?_
            refine r_then ?_
            exact r_meetg () rfl rfl
            | false =>
            refine r_pure tabOk 1 [0, 7, 10, 11, 12, 13, 65, 66, 100, 101] (E' := [(0, ptr b4 0), (7, .one (.raw (.map none)) v6), (10, .one (.raw (.slice none 0 0)) g28.1), (11, .one (.int .i64) s25.1), (12, .one (.int .i64) s35), (13, ptr b36 0), (65, .one (.int .i64) (List.length r10 : Int)), (66, .one (.int .i64) s25.1), (100, .one .bool false), (101, ptr b36 2)]) rfl ?_
            refine r_guard (by rfl) rfl ?_
            refine y (y_load 0 ((.snd (.snd (.fst .here)))) rfl rfl (by first | rfl | (simp only [Pth.off, T.size]; omega)) (ok_snd (ok_snd (ok_fst ok_here))) ty3) rfl ?_
            refine r_pure tabOk 2 [0, 7, 10, 11, 12, 13, 65, 66, 104] (E' := [(0, ptr b4 0), (7, .one (.raw (.map none)) v6), (10, .one (.raw (.slice none 0 0)) g28.1), (11, .one (.int .i64) s25.1), (12, .one (.int .i64) s35), (13, ptr b36 0), (65, .one (.int .i64) (List.length r10 : Int)), (66, .one (.int .i64) s25.1), (104, .one .bool (((Option.getD (pget (.int .i64) s35 o8.2) ([], 0, 0, [], ())).2.2.1) == 1))]) rfl ?_
            refine r_nil ?_
            refine r_then ?_
            exact r_meetg () rfl rfl
          refine r_pure tabOk 1 [0, 7, 10, 11, 12, 13, 65, 66, 97] (E' := [(0, ptr b4 0), (7, .one (.raw (.map none)) v6), (10, .one (.raw (.slice none 0 0)) g28.1), (11, .one (.int .i64) s25.1), (12, .one (.int .i64) s35), (13, ptr b36 0), (65, .one (.int .i64) (List.length r10 : Int)), (66, .one (.int .i64) s25.1), (97, .one .bool (b38 || (((Option.getD (pget (.int .i64) s35 o8.2) ([], 0, 0, [], ())).2.2.1) == 1)))]) rfl ?_
          refine r_nil ?_
          refine r_then ?_
          refine r_if (b := (b38 || (((Option.getD (pget (.int .i64) s35 o8.2) ([], 0, 0, [], ())).2.2.1) == 1))) rfl (fun hc => ?_) (fun hc => ?_)
          · rw [if_pos hc] at h
            refine r_skip ?_
            refine r_inblock ?_
            refine r_inblock ?_
            refine r_then ?_
            refine r_lose (L' := [Res.own g28.1 5 (.int .u8) s25.2, Res.dirty Try.prog dI dv3 a0.2.2, Res.map Try.prog 3 (.int .i64) Y83 v6 o8.2, Res.var b4 66 FT (sv1, g28.2, dv3, ()), Res.own sv1 5 (.int .u8) a0.1, Res.own g28.2 5 (.int .u8) a0.2.1]) (.cons _ (.cons_cons _ (.cons_cons _ (.cons_cons _ (.cons_cons _ (.cons_cons _ (.cons_cons _ .slnil))))))) ?_
            refine r_less [0, 7, 10, 65, 66] rfl ?_
            exact r_meetk s25.2 (g28.1, g28.2) h rfl rfl
          · rw [if_neg (ne_true_of_eq_false hc)] at h
            refine r_seq ?_
            refine r_region ?_
            refine r_pure tabOk 1 [0, 7, 10, 11, 12, 13, 65, 66, 106] (E' := [(0, ptr b4 0), (7, .one (.raw (.map none)) v6), (10, .one (.raw (.slice none 0 0)) g28.1), (11, .one (.int .i64) s25.1), (12, .one (.int .i64) s35), (13, ptr b36 0), (65, .one (.int .i64) (List.length r10 : Int)), (66, .one (.int .i64) s25.1), (106, ptr b36 2)]) rfl ?_
            refine y (y_load 0 ((.snd (.snd (.fst .here)))) rfl rfl (by first | rfl | (simp only [Pth.off, T.size]; omega)) (ok_snd (ok_snd (ok_fst ok_here))) ty3) rfl ?_
            refine r_pure tabOk 2 [0, 7, 10, 11, 12, 13, 65, 66, 105] (E' := [(0, ptr b4 0), (7, .one (.raw (.map none)) v6), (10, .one (.raw (.slice none 0 0)) g28.1), (11, .one (.int .i64) s25.1), (12, .one (.int .i64) s35), (13, ptr b36 0), (65, .one (.int .i64) (List.length r10 : Int)), (66, .one (.int .i64) s25.1), (105, .one .bool (((Option.getD (pget (.int .i64) s35 o8.2) ([], 0, 0, [], ())).2.2.1) == 2))]) rfl ?_
            refine r_nil ?_
            refine r_then ?_
            refine r_if (b := (((Option.getD (pget (.int .i64) s35 o8.2) ([], 0, 0, [], ())).2.2.1) == 2)) rfl (fun hc => ?_) (fun hc => ?_)
            · rw [if_pos hc] at h
              refine r_seq ?_
              refine r_region ?_
              refine r_pure tabOk 2 [0, 7, 10, 11, 12, 13, 65, 66, 109, 110] (E' := [(0, ptr b4 0), (7, .one (.raw (.map none)) v6), (10, .one (.raw (.slice none 0 0)) g28.1), (11, .one (.int .i64) s25.1), (12, .one (.int .i64) s35), (13, ptr b36 0), (65, .one (.int .i64) (List.length r10 : Int)), (66, .one (.int .i64) s25.1), (109, .one (.raw (.slice none 0 0)) g28.1), (110, .one (.int .i64) s25.1)]) rfl ?_
              obtain ⟨hc, h⟩ := ite_ex h
              refine r_expose 1 rfl (by first | omega | (simp only [List.length_set] at hc ⊢; omega)) fun b39 c40 hv => ?_
              rw [hv]
              try clear hv
              refine y (y_iraw tabOk rfl rfl hc.1 (by simpa using hc.2) rfl ty5) rfl ?_
              refine r_sown 1 (Int.toNat s25.1) .here rfl rfl rfl (by first | omega | (simp only [List.length_set] at hc ⊢; omega)) (by first | rfl | (simp only [Pth.off, T.size]; omega)) ok_here ty5 ?_
              refine r_nil ?_
              refine r_then ?_
              refine r_seq ?_
              refine r_region ?_
              refine r_pure tabOk 5 [0, 7, 10, 11, 13, 15, 65, 66] (E' := [(0, ptr b4 0), (7, .one (.raw (.map none)) v6), (10, .one (.raw (.slice none 0 0)) (.slice (some ⟨b39, 0, none⟩) (List.length s25.2) c40)), (11, .one (.int .i64) s25.1), (13, ptr b36 0), (15, .one (.int .i64) (IntKind.wrap .i64 (s25.1 - (IntKind.wrap .i64 (s35 * 64))))), (65, .one (.int .i64) (List.length r10 : Int)), (66, .one (.int .i64) s25.1)]) rfl ?_
              obtain ⟨i41, hi41, h⟩ := bnd_ex h
              rw [hi41]
              refine r_nil ?_
              refine r_then ?_
              refine r_seq ?_
              refine r_region ?_
              refine r_pure tabOk 2 [0, 7, 10, 11, 13, 15, 65, 66, 116, 117] (E' := [(0, ptr b4 0), (7, .one (.raw (.map none)) v6), (10, .one (.raw (.slice none 0 0)) (.slice (some ⟨b39, 0, none⟩) (List.length s25.2) c40)), (11, .one (.int .i64) s25.1), (13, ptr b36 0), (15, .one (.int .i64) i41), (65, .one (.int .i64) (List.length r10 : Int)), (66, .one (.int .i64) s25.1), (116, .one (.int .i64) i41), (117, ptr b36 3)]) rfl ?_
              refine y (y_load 0 ((.snd (.snd (.snd (.fst .here))))) rfl rfl (by first | rfl | (simp only [Pth.off, T.size]; omega)) (ok_snd (ok_snd (ok_snd (ok_fst ok_here)))) ty9) rfl ?_
              refine r_pure tabOk 2 [0, 7, 10, 11, 13, 15, 65, 66, 120] (E' := [(0, ptr b4 0), (7, .one (.raw (.map none)) v6), (10, .one (.raw (.slice none 0 0)) (.slice (some ⟨b39, 0, none⟩) (List.length s25.2) c40)), (11, .one (.int .i64) s25.1), (13, ptr b36 0), (15, .one (.int .i64) i41), (65, .one (.int .i64) (List.length r10 : Int)), (66, .one (.int .i64) s25.1), (120, .one .bool (decide (i41 < (List.length ((Option.getD (pget (.int .i64) s35 o8.2) ([], 0, 0, [], ())).2.2.2.1) : Int))))]) rfl ?_
              obtain ⟨t42, ht42, h⟩ := bnd_ex h
              rw [ht42]
              refine r_nil ?_
              refine r_then ?_
              refine r_if (b := t42) rfl (fun hc => ?_) (fun hc => ?_)
              · rw [if_pos hc] at h
                refine r_region ?_
                refine r_pure tabOk 3 [0, 7, 10, 15, 65, 66, 121, 122, 123] (E' := [(0, ptr b4 0), (7, .one (.raw (.map none)) v6), (10, .one (.raw (.slice none 0 0)) (.slice (some ⟨b39, 0, none⟩) (List.length s25.2) c40)), (15, .one (.int .i64) i41), (65, .one (.int .i64) (List.length r10 : Int)), (66, .one (.int .i64) s25.1), (121, .one (.raw (.slice none 0 0)) (.slice (some ⟨b39, 0, none⟩) (List.length s25.2) c40)), (122, .one (.int .i64) s25.1), (123, ptr b36 3)]) rfl ?_
                refine y (y_load 0 ((.snd (.snd (.snd (.fst .here))))) rfl rfl (by first | rfl | (simp only [Pth.off, T.size]; omega)) (ok_snd (ok_snd (ok_snd (ok_fst ok_here)))) ty9) rfl ?_
                refine r_pure tabOk 1 [0, 7, 10, 65, 66, 121, 122, 124, 125] (E' := [(0, ptr b4 0), (7, .one (.raw (.map none)) v6), (10, .one (.raw (.slice none 0 0)) (.slice (some ⟨b39, 0, none⟩) (List.length s25.2) c40)), (65, .one (.int .i64) (List.length r10 : Int)), (66, .one (.int .i64) s25.1), (121, .one (.raw (.slice none 0 0)) (.slice (some ⟨b39, 0, none⟩) (List.length s25.2) c40)), (122, .one (.int .i64) s25.1), (124, .one .str ((Option.getD (pget (.int .i64) s35 o8.2) ([], 0, 0, [], ())).2.2.2.1)), (125, .one (.int .i64) i41)]) rfl ?_
                obtain ⟨hc, h⟩ := ite_ex h
                refine y (y_byte tabOk rfl rfl hc.1 hc.2 rfl) rfl ?_
                obtain ⟨hc, h⟩ := ite_ex h
                refine y (y_iraw tabOk rfl rfl hc.1 (by simpa using hc.2) rfl ty5) rfl ?_
                refine r_sown 1 (Int.toNat s25.1) .here rfl rfl rfl (by first | omega | (simp only [List.length_set] at hc ⊢; omega)) (by first | rfl | (simp only [Pth.off, T.size]; omega)) ok_here ty5 ?_
                refine r_nil ?_
                refine r_inblock ?_
                refine r_inblock ?_
                refine r_then ?_
                refine r_lose (L' := [Res.own (.slice (some ⟨b39, 0, none⟩) (List.length s25.2) c40) 5 (.int .u8) (List.set (List.set s25.2 (Int.toNat s25.1) 0) (Int.toNat s25.1) (List.getD ((Option.getD (pget (.int .i64) s35 o8.2) ([], 0, 0, [], ())).2.2.2.1) (Int.toNat i41) 0)), Res.dirty Try.prog dI dv3 a0.2.2, Res.map Try.prog 3 (.int .i64) Y83 v6 o8.2, Res.var b4 66 FT (sv1, g28.2, dv3, ()), Res.own sv1 5 (.int .u8) a0.1, Res.own g28.2 5 (.int .u8) a0.2.1]) (.cons _ (.cons_cons _ (.cons_cons _ (.cons_cons _ (.cons_cons _ (.cons_cons _ (.cons_cons _ .slnil))))))) ?_
                refine r_less [0, 7, 10, 65, 66] rfl ?_
                exact r_meetk (List.set (List.set s25.2 (Int.toNat s25.1) 0) (Int.toNat s25.1) (List.getD ((Option.getD (pget (.int .i64) s35 o8.2) ([], 0, 0, [], ())).2.2.2.1) (Int.toNat i41) 0)) ((.slice (some ⟨b39, 0, none⟩) (List.length s25.2) c40), g28.2) h rfl rfl
              · rw [if_neg (ne_true_of_eq_false hc)] at h
                refine r_skip ?_
                refine r_inblock ?_
                refine r_inblock ?_
                refine r_then ?_
                refine r_lose (L' := [Res.own (.slice (some ⟨b39, 0, none⟩) (List.length s25.2) c40) 5 (.int .u8) (List.set s25.2 (Int.toNat s25.1) 0), Res.dirty Try.prog dI dv3 a0.2.2, Res.map Try.prog 3 (.int .i64) Y83 v6 o8.2, Res.var b4 66 FT (sv1, g28.2, dv3, ()), Res.own sv1 5 (.int .u8) a0.1, Res.own g28.2 5 (.int .u8) a0.2.1]) (.cons _ (.cons_cons _ (.cons_cons _ (.cons_cons _ (.cons_cons _ (.cons_cons _ (.cons_cons _ .slnil))))))) ?_
                refine r_less [0, 7, 10, 65, 66] rfl ?_
                exact r_meetk (List.set s25.2 (Int.toNat s25.1) 0) ((.slice (some ⟨b39, 0, none⟩) (List.length s25.2) c40), g28.2) h rfl rfl
            · rw [if_neg (ne_true_of_eq_false hc)] at h
              refine r_seq ?_
              refine r_region ?_
              refine r_pure tabOk 2 [0, 7, 10, 11, 65, 66, 77, 78] (E' := [(0, ptr b4 0), (7, .one (.raw (.map none)) v6), (10, .one (.raw (.slice none 0 0)) g28.1), (11, .one (.int .i64) s25.1), (65, .one (.int .i64) (List.length r10 : Int)), (66, .one (.int .i64) s25.1), (77, .one (.raw (.slice none 0 0)) g28.1), (78, .one (.int .i64) s25.1)]) rfl ?_
              obtain ⟨hc, h⟩ := ite_ex h
              refine r_expose 1 rfl (by first | omega | (simp only [List.length_set] at hc ⊢; omega)) fun b45 c46 hv => ?_
              rw [hv]
              try clear hv
              refine y (y_iraw tabOk rfl rfl hc.1 (by simpa using hc.2) rfl ty5) rfl ?_
              refine r_sown 1 (Int.toNat s25.1) .here rfl rfl rfl (by first | omega | (simp only [List.length_set] at hc ⊢; omega)) (by first | rfl | (simp only [Pth.off, T.size]; omega)) ok_here ty5 ?_
              refine r_nil ?_
              refine r_then ?_
              refine r_seq ?_
              refine r_region ?_
              refine r_pure tabOk 4 [0, 7, 10, 11, 65, 66, 80, 83] (E' := [(0, ptr b4 0), (7, .one (.raw (.map none)) v6), (10, .one (.raw (.slice none 0 0)) (.slice (some ⟨b45, 0, none⟩) (List.length s25.2) c46)), (11, .one (.int .i64) s25.1), (65, .one (.int .i64) (List.length r10 : Int)), (66, .one (.int .i64) s25.1), (80, .one (.int .i64) s25.1), (83, ptr b4 1)]) rfl ?_
              refine y (y_load 4 ((.snd (.fst .here))) rfl rfl (by first | rfl | (simp only [Pth.off, T.size]; omega)) (ok_snd (ok_fst ok_here)) tx0) rfl ?_
              refine y (y_lenown tabOk 6 rfl rfl rfl) rfl ?_
              refine r_pure tabOk 1 [0, 7, 10, 11, 65, 66, 86] (E' := [(0, ptr b4 0), (7, .one (.raw (.map none)) v6), (10, .one (.raw (.slice none 0 0)) (.slice (some ⟨b45, 0, none⟩) (List.length s25.2) c46)), (11, .one (.int .i64) s25.1), (65, .one (.int .i64) (List.length r10 : Int)), (66, .one (.int .i64) s25.1), (86, .one .bool (decide (s25.1 < (List.length a0.2.1 : Int))))]) rfl ?_
              refine r_nil ?_
              refine r_then ?_
              refine r_if (b := (decide (s25.1 < (List.length a0.2.1 : Int)))) rfl (fun hc => ?_) (fun hc => ?_)
              · rw [if_pos hc] at h
                refine r_region ?_
                refine r_pure tabOk 5 [0, 7, 10, 11, 65, 66, 87, 88, 91] (E' := [(0, ptr b4 0), (7, .one (.raw (.map none)) v6), (10, .one (.raw (.slice none 0 0)) (.slice (some ⟨b45, 0, none⟩) (List.length s25.2) c46)), (11, .one (.int .i64) s25.1), (65, .one (.int .i64) (List.length r10 : Int)), (66, .one (.int .i64) s25.1), (87, .one (.raw (.slice none 0 0)) (.slice (some ⟨b45, 0, none⟩) (List.length s25.2) c46)), (88, .one (.int .i64) s25.1), (91, ptr b4 1)]) rfl ?_
                refine y (y_load 4 ((.snd (.fst .here))) rfl rfl (by first | rfl | (simp only [Pth.off, T.size]; omega)) (ok_snd (ok_fst ok_here)) tx0) rfl ?_
                refine r_pure tabOk 1 [0, 7, 10, 65, 66, 87, 88, 92, 93] (E' := [(0, ptr b4 0), (7, .one (.raw (.map none)) v6), (10, .one (.raw (.slice none 0 0)) (.slice (some ⟨b45, 0, none⟩) (List.length s25.2) c46)), (65, .one (.int .i64) (List.length r10 : Int)), (66, .one (.int .i64) s25.1), (87, .one (.raw (.slice none 0 0)) (.slice (some ⟨b45, 0, none⟩) (List.length s25.2) c46)), (88, .one (.int .i64) s25.1), (92, .one (.raw (.slice none 0 0)) g28.2), (93, .one (.int .i64) s25.1)]) rfl ?_
                obtain ⟨hc, h⟩ := ite_ex h
                refine r_expose 6 rfl (by first | omega | (simp only [List.length_set] at hc ⊢; omega)) fun b47 c48 hv => ?_
                rw [hv]
                try clear hv
                refine y (y_iraw tabOk rfl rfl hc.1 (by simpa using hc.2) rfl ty5) rfl ?_
                refine y (y_lown 6 (Int.toNat s25.1) .here rfl rfl (by first | omega | (simp only [List.length_set] at hc ⊢; omega)) (by first | rfl | (simp only [Pth.off, T.size]; omega)) ok_here ty5) rfl ?_
                obtain ⟨hc, h⟩ := ite_ex h
                refine y (y_iraw tabOk rfl rfl hc.1 (by simpa using hc.2) rfl ty5) rfl ?_
                refine r_sown 1 (Int.toNat s25.1) .here rfl rfl rfl (by first | omega | (simp only [List.length_set] at hc ⊢; omega)) (by first | rfl | (simp only [Pth.off, T.size]; omega)) ok_here ty5 ?_
                refine r_nil ?_
                refine r_inblock ?_
                refine r_inblock ?_
                refine r_then ?_
                refine r_lose (L' := [Res.own (.slice (some ⟨b45, 0, none⟩) (List.length s25.2) c46) 5 (.int .u8) (List.set (List.set s25.2 (Int.toNat s25.1) 0) (Int.toNat s25.1) (List.getD a0.2.1 (Int.toNat s25.1) 0)), Res.dirty Try.prog dI dv3 a0.2.2, Res.map Try.prog 3 (.int .i64) Y83 v6 o8.2, Res.var b4 66 FT (sv1, (.slice (some ⟨b47, 0, none⟩) (List.length a0.2.1) c48), dv3, ()), Res.own sv1 5 (.int .u8) a0.1, Res.own (.slice (some ⟨b47, 0, none⟩) (List.length a0.2.1) c48) 5 (.int .u8) a0.2.1]) (.cons _ (.cons_cons _ (.cons_cons _ (.cons_cons _ (.cons_cons _ (.cons_cons _ (.cons_cons _ .slnil))))))) ?_
                refine r_less [0, 7, 10, 65, 66] rfl ?_
                exact r_meetk (List.set (List.set s25.2 (Int.toNat s25.1) 0) (Int.toNat s25.1) (List.getD a0.2.1 (Int.toNat s25.1) 0)) ((.slice (some ⟨b45, 0, none⟩) (List.length s25.2) c46), (.slice (some ⟨b47, 0, none⟩) (List.length a0.2.1) c48)) h rfl rfl
              · rw [if_neg (ne_true_of_eq_false hc)] at h
                refine r_skip ?_
                refine r_inblock ?_
                refine r_inblock ?_
                refine r_then ?_
                refine r_lose (L' := [Res.own (.slice (some ⟨b45, 0, none⟩) (List.length s25.2) c46) 5 (.int .u8) (List.set s25.2 (Int.toNat s25.1) 0), Res.dirty Try.prog dI dv3 a0.2.2, Res.map Try.prog 3 (.int .i64) Y83 v6 o8.2, Res.var b4 66 FT (sv1, g28.2, dv3, ()), Res.own sv1 5 (.int .u8) a0.1, Res.own g28.2 5 (.int .u8) a0.2.1]) (.cons _ (.cons_cons _ (.cons_cons _ (.cons_cons _ (.cons_cons _ (.cons_cons _ (.cons_cons _ .slnil))))))) ?_
                refine r_less [0, 7, 10, 65, 66] rfl ?_
                exact r_meetk (List.set s25.2 (Int.toNat s25.1) 0) ((.slice (some ⟨b45, 0, none⟩) (List.length s25.2) c46), g28.2) h rfl rfl
        · intro o31 g34 h
          rw [← hk30] at h
          try dsimp only at h
          refine r_region ?_
          refine r_pure tabOk 2 [0, 7, 10, 65, 66] (E' := [(0, ptr b4 0), (7, .one (.raw (.map none)) v6), (10, .one (.raw (.slice none 0 0)) g34.1), (65, .one (.int .i64) (List.length r10 : Int)), (66, .one (.int .i64) (IntKind.wrap .i64 (s25.1 + 1)))]) rfl ?_
          refine r_nil ?_
          refine r_then ?_
          refine r_less [0, 7, 10, 65, 66] rfl ?_
          exact r_backg ((IntKind.wrap .i64 (s25.1 + 1)), o31) (g34.1, g34.2) (Nat.lt_succ_self _) h rfl rfl
      · rw [if_neg (ne_true_of_eq_false hc)] at h
        refine r_exit ?_
        refine e_then ?_
        refine e_then ?_
        refine e_eq ?_
        refine r_then ?_
        refine r_less [0, 10] rfl ?_
        exact r_meetk s25.2 (g28.1, g28.2) h rfl rfl
    · intro o13 g16 h
      rw [← hk12] at h
      try dsimp only at h
      refine r_seq ?_
      refine r_region ?_
      refine r_pure tabOk 4 [0, 129, 130, 131, 132] (E' := [(0, ptr b4 0), (129, ptr b4 0), (130, ptr b4 0), (131, .one (.raw (.slice none 0 0)) g16.1), (132, .one (.raw (.slice none 0 0)) g16.1)]) rfl ?_
      obtain ⟨r17, hr17, h⟩ := bind_ex h
      refine r_callwo (slices_Clone__byte_byte_ok o13 _ hr17) (by kernel_rfl) (fun _ => rfl) (fun _ r hr => by rcases List.mem_singleton.1 hr with rfl; exact Res.free_own rfl) (.sub rfl (sub_own 0 rfl) .nil) rfl fun v18 => ?_
      refine r_pure tabOk 2 [0, 130, 131, 133, 135] (E' := [(0, ptr b4 0), (130, ptr b4 0), (131, .one (.raw (.slice none 0 0)) g16.1), (133, .one (.raw (.slice none 0 0)) v18), (135, ptr b4 0)]) rfl ?_
      refine r_store 4 ((.fst .here)) rfl rfl rfl (by first | rfl | (simp only [Pth.off, T.size]; omega)) (ok_fst ok_here) tx0 ?_
      refine r_lose (L' := [Res.own v18 5 (.int .u8) r17, Res.own g16.1 5 (.int .u8) o13, Res.dirty Try.prog dI dv3 a0.2.2, Res.map Try.prog 3 (.int .i64) Y83 v6 o8.2, Res.var b4 66 FT (g16.1, g16.2, dv3, ()), Res.own g16.2 5 (.int .u8) a0.2.1]) (.cons_cons _ (.cons_cons _ (.cons_cons _ (.cons_cons _ (.cons_cons _ (.cons _ (.cons_cons _ .slnil))))))) ?_
      refine r_pure tabOk 2 [0, 133, 137] (E' := [(0, ptr b4 0), (133, .one (.raw (.slice none 0 0)) v18), (137, ptr b4 1)]) rfl ?_
      refine r_store 4 ((.snd (.fst .here))) rfl rfl rfl (by first | rfl | (simp only [Pth.off, T.size]; omega)) (ok_snd (ok_fst ok_here)) tx0 ?_
      refine r_lose (L' := [Res.own v18 5 (.int .u8) r17, Res.own g16.1 5 (.int .u8) o13, Res.dirty Try.prog dI dv3 a0.2.2, Res.map Try.prog 3 (.int .i64) Y83 v6 o8.2, Res.var b4 66 FT (g16.1, v18, dv3, ())]) (.cons_cons _ (.cons_cons _ (.cons_cons _ (.cons_cons _ (.cons_cons _ (.cons _ .slnil)))))) ?_
      refine r_nil ?_
      refine r_then ?_
      refine r_region ?_
      refine r_pure tabOk 3 [140] (E' := [(140, ptr b4 2)]) rfl ?_
      refine y (y_load 4 ((.snd (.snd (.fst .here)))) rfl rfl (by first | rfl | (simp only [Pth.off, T.size]; omega)) (ok_snd (ok_snd (ok_fst ok_here))) ty64) rfl ?_
      refine r_undirty 2 rfl fun l19 hl19 => ?_
      refine r_clear 2 rfl rfl Try.underlying64 ?_
      refine r_redirty (P := Try.prog) (I := dI) (keys := []) 2 rfl rfl ?_
      refine r_nil ?_
      refine r_perm (L' := [Res.var b4 66 FT (g16.1, v18, dv3, ()), Res.own g16.1 5 (.int .u8) o13, Res.own v18 5 (.int .u8) r17, Res.dirty Try.prog dI dv3 [], Res.map Try.prog 3 (.int .i64) Y83 v6 o8.2]) ((List.perm_middle (a := Res.var b4 66 FT (g16.1, v18, dv3, ())) (l₁ := [Res.own v18 5 (.int .u8) r17, Res.own g16.1 5 (.int .u8) o13, Res.dirty Try.prog dI dv3 [], Res.map Try.prog 3 (.int .i64) Y83 v6 o8.2]) (l₂ := [])).trans (.cons _ ((List.perm_middle (a := Res.own g16.1 5 (.int .u8) o13) (l₁ := [Res.own v18 5 (.int .u8) r17]) (l₂ := [Res.dirty Try.prog dI dv3 [], Res.map Try.prog 3 (.int .i64) Y83 v6 o8.2])).trans (.cons _ (List.Perm.refl _))))) ?_
      refine r_file (P := Try.prog) (I := dI) ?_
      obtain rfl := Option.some.inj h
      exact r_end0 rfl (fun _ => tup_ok [] .nil) ((.cons_cons _ (.cons _ .slnil)))

theorem disk_Disk_Crash_ok (p0 : Value) (a0 : DiskS) (a1 : List (List Int × Int × Int × List Int × Unit)) (r : DiskS) (h : disk_Disk_Crash a0 a1 = some r) : Fn Try.prog 10 [.one (.raw (.pointer none)) p0, .one (.sl 83 Y83) a1] [Res.disk Try.prog dI p0 a0] (fun _ => .tup []) (fun _ => [Res.disk Try.prog dI p0 r]) := by
  unfold disk_Disk_Crash at h
  refine enter Try.func10 rfl 43 rfl rfl fun F => ?_
  refine r_undisk fun b2 mv1 hp => ?_
  subst hp
  refine r_seq ?_
  refine r_seq ?_
  refine r_region ?_
  refine r_pure tabOk 3 [0, 1, 8] (E' := [(0, ptr b2 0), (1, .one (.sl 83 Y83) a1), (8, ptr b2 5)]) rfl ?_
  refine y (y_load 0 ((.snd (.snd (.snd (.snd (.snd (.fst .here))))))) rfl rfl (by first | rfl | (simp only [Pth.off, T.size]; omega)) (ok_snd (ok_snd (ok_snd (ok_snd (ok_snd (ok_fst ok_here)))))) ty4) rfl ?_
  refine r_pure tabOk 1 [0, 1, 10] (E' := [(0, ptr b2 0), (1, .one (.sl 83 Y83) a1), (10, .one .bool a0.2.2.2.2.2.1)]) rfl ?_
  refine r_lsplit (γ := Unit) 6 (fun _ => [(0, ptr b2 0), (1, .one (.sl 83 Y83) a1), (16, .one .bool (a0.2.2.2.2.2.1 && (!a0.2.2.2.2.2.2)))]) (fun _ => [Res.var b2 54 DT (a0.1, mv1, a0.2.2.1, a0.2.2.2.1, a0.2.2.2.2.1, a0.2.2.2.2.2.1, a0.2.2.2.2.2.2, ()), Res.dfiles Try.prog dI mv1 a0.2.1]) ?_ (fun _ => ?_)
  · clear h
    rcases Bool.eq_false_or_eq_true a0.2.2.2.2.2.1 with hh | hh
    · rw [hh]
      refine r_pure tabOk 3 [0, 1, 10, 13] (E' := [(0, ptr b2 0), (1, .one (.sl 83 Y83) a1), (10, .one .bool true), (13, ptr b2 6)]) rfl ?_
      refine r_guard (by rfl) rfl ?_
      refine y (y_load 0 ((.snd (.snd (.snd (.snd (.snd (.snd (.fst .here)))))))) rfl rfl (by first | rfl | (simp only [Pth.off, T.size]; omega)) (ok_snd (ok_snd (ok_snd (ok_snd (ok_snd (ok_snd (ok_fst ok_here))))))) ty4) rfl ?_
      refine r_pure tabOk 2 [0, 1, 16] (E' := [(0, ptr b2 0), (1, .one (.sl 83 Y83) a1), (16, .one .bool (!a0.2.2.2.2.2.2))]) rfl ?_
      refine r_nil ?_
      refine r_then ?_
      exact r_meetg () rfl rfl
    · rw [hh]
      refine r_pure tabOk 6 [0, 1, 16] (E' := [(0, ptr b2 0), (1, .one (.sl 83 Y83) a1), (16, .one .bool false)]) rfl ?_
      refine r_nil ?_
      refine r_then ?_
      exact r_meetg () rfl rfl
  refine r_nil ?_
  refine r_then ?_
  refine r_if (b := (a0.2.2.2.2.2.1 && (!a0.2.2.2.2.2.2))) rfl (fun hc => ?_) (fun hc => ?_)
  · rw [if_pos hc] at h
    refine r_ret ?_
    refine t_then ?_
    refine r_disk (P := Try.prog) (I := dI) (D := a0) ?_
    obtain rfl := Option.some.inj h
    exact r_ret0 rfl (fun _ => tup_ok [] .nil) ((.cons_cons _ .slnil))
  · rw [if_neg (ne_true_of_eq_false hc)] at h
    refine r_skip ?_
    refine r_then ?_
    obtain ⟨k4, hk4, h⟩ := bnd_ex h
    refine r_joink (γ := Unit) (fun (o5 : (List (List Int × FileS))) _ => [(0, ptr b2 0)]) (fun (o5 : (List (List Int × FileS))) _ => [Res.dfiles Try.prog dI mv1 o5, Res.var b2 54 DT (a0.1, mv1, a0.2.2.1, a0.2.2.2.1, a0.2.2.2.2.1, a0.2.2.2.2.2.1, a0.2.2.2.2.2.2, ())]) k4 r ?_ ?_
    · refine r_seq ?_
      refine r_region ?_
      refine r_pure tabOk 3 [0, 1, 19] (E' := [(0, ptr b2 0), (1, .one (.sl 83 Y83) a1), (19, ptr b2 1)]) rfl ?_
      refine y (y_load 0 ((.snd (.fst .here))) rfl rfl (by first | rfl | (simp only [Pth.off, T.size]; omega)) (ok_snd (ok_fst ok_here)) ty52) rfl ?_
      refine r_perm (L' := [Res.dfiles Try.prog dI mv1 a0.2.1, Res.var b2 54 DT (a0.1, mv1, a0.2.2.1, a0.2.2.2.1, a0.2.2.2.2.1, a0.2.2.2.2.2.1, a0.2.2.2.2.2.2, ())]) ((List.perm_middle (a := Res.dfiles Try.prog dI mv1 a0.2.1) (l₁ := [Res.var b2 54 DT (a0.1, mv1, a0.2.2.1, a0.2.2.2.1, a0.2.2.2.2.1, a0.2.2.2.2.2.1, a0.2.2.2.2.2.2, ())]) (l₂ := [])).trans (.cons _ (List.Perm.refl _))) ?_
      refine r_drange kstr rfl Try.underlying52 rfl fun it6 hn7 => ?_
      refine r_nil ?_
      refine r_then ?_
      refine r_block ?_
      obtain ⟨rr, hall, h⟩ := bind_ex h
      refine r_less [0, 1, 21] rfl ?_
      refine r_rangeloop (step := disk_Disk_Crash_l0 a1) (fun _ _ => True) (comm_disk_Disk_Crash_l0 a1) hn7 trivial hall (γ := Unit) (fun (s10 : (List (List Int × FileS))) _ => [(0, ptr b2 0), (1, .one (.sl 83 Y83) a1), (21, .one (.raw (.pointer none)) it6)]) (fun todo12 (s10 : (List (List Int × FileS))) _ => [Res.diter Try.prog dI mv1 it6 s10 todo12 none none, Res.var b2 54 DT (a0.1, mv1, a0.2.2.1, a0.2.2.2.1, a0.2.2.2.2.1, a0.2.2.2.2.2.1, a0.2.2.2.2.2.2, ())]) () rfl rfl fun todo12 s10 gg hend hone => ?_
      refine r_seq ?_
      refine r_region ?_
      refine r_dnext kstr rfl rfl (fun ht => ?_) (fun A13 k14 B15 q16 htk14 hk => ?_)
      · obtain rfl := hend ht
        refine r_dunrange ?_
        refine r_pure tabOk 1 [0, 1, 23] (E' := [(0, ptr b2 0), (1, .one (.sl 83 Y83) a1), (23, .one .bool false)]) rfl ?_
        refine r_nil ?_
        refine r_then ?_
        refine r_seq ?_
        refine r_if (b := false) rfl (fun hc => ?_) (fun hc => ?_)
        · cases hc
        · refine r_exit ?_
          refine e_then ?_
          refine e_then ?_
          refine e_eq ?_
          refine r_then ?_
          refine r_less [0] rfl ?_
          exact r_meetk s10 () h rfl rfl
      · obtain ⟨sk14, hsk14⟩ := hone A13 k14 B15 htk14
        clear h
        have h := hsk14
        unfold disk_Disk_Crash_l0 at h
        refine r_pure tabOk 1 [0, 1, 21, 23] (E' := [(0, ptr b2 0), (1, .one (.sl 83 Y83) a1), (21, .one (.raw (.pointer none)) it6), (23, .one .bool true)]) rfl ?_
        refine r_nil ?_
        refine r_then ?_
        refine r_seq ?_
        refine r_if (b := true) rfl (fun hc => ?_) (fun hc => ?_)
        · refine r_skip ?_
          refine r_then ?_
          refine r_block ?_
          refine r_seq ?_
          refine r_region ?_
          refine y (y_dentry rfl 0 rfl) rfl ?_
          refine r_pure tabOk 4 [0, 1, 4, 5, 21] (E' := [(0, ptr b2 0), (1, .one (.sl 83 Y83) a1), (4, .one .str k14), (5, .one (.raw (.pointer none)) q16), (21, .one (.raw (.pointer none)) it6)]) rfl ?_
          refine r_nil ?_
          refine r_then ?_
          refine r_region ?_
          refine r_pure tabOk 3 [0, 1, 21, 27, 28, 29] (E' := [(0, ptr b2 0), (1, .one (.sl 83 Y83) a1), (21, .one (.raw (.pointer none)) it6), (27, .one (.raw (.pointer none)) q16), (28, .one .str k14), (29, .one (.sl 83 Y83) a1)]) rfl ?_
          obtain ⟨f18, hf18, h⟩ := bind_ex h
          refine r_difocus hf18 fun fb19 sv20 tv21 dv22 hq => ?_
          rw [hq]
          clear hq
          refine r_file (P := Try.prog) (I := dI) ?_
          obtain ⟨r23, hr23, h⟩ := bind_ex h
          refine r_call (Lo := [Res.dihole Try.prog dI mv1 it6 s10 (A13 ++ B15) k14 (.pointer (some ⟨fb19, 0, none⟩)) none, Res.var b2 54 DT (a0.1, mv1, a0.2.2.1, a0.2.2.2.1, a0.2.2.2.2.1, a0.2.2.2.2.2.1, a0.2.2.2.2.2.2, ())]) (disk_file_fall_ok (.pointer (some ⟨fb19, 0, none⟩)) f18 k14 a1 _ hr23) (by kernel_rfl) (List.Perm.refl _) rfl rfl fun _ => ?_
          refine r_nil ?_
          refine r_inblock ?_
          refine r_then ?_
          refine r_unfileb fun sv24 tv25 dv26 => ?_
          refine r_diunfocus (P := Try.prog) (I := dI) ?_
          refine r_imp_at (R' := Res.diter Try.prog dI mv1 it6 (pset .str k14 r23 s10) (A13 ++ B15) none none) 0 rfl diter_none ?_
          refine r_less [0, 1, 21] rfl ?_
          obtain rfl := Option.some.inj h
          exact r_backR () htk14 hsk14 rfl rfl
        · cases hc
    · intro o5 gg h
      rw [← hk4] at h
      try dsimp only at h
      refine r_region ?_
      refine r_pure tabOk 6 [32, 33, 34, 36] (E' := [(32, ptr b2 0), (33, ptr b2 0), (34, ptr b2 0), (36, ptr b2 5)]) rfl ?_
      refine r_store 1 ((.snd (.snd (.snd (.snd (.snd (.fst .here))))))) rfl rfl rfl (by first | rfl | (simp only [Pth.off, T.size]; omega)) (ok_snd (ok_snd (ok_snd (ok_snd (ok_snd (ok_fst ok_here)))))) ty4 ?_
      refine r_pure tabOk 2 [33, 34, 38] (E' := [(33, ptr b2 0), (34, ptr b2 0), (38, ptr b2 6)]) rfl ?_
      refine r_store 1 ((.snd (.snd (.snd (.snd (.snd (.snd (.fst .here)))))))) rfl rfl rfl (by first | rfl | (simp only [Pth.off, T.size]; omega)) (ok_snd (ok_snd (ok_snd (ok_snd (ok_snd (ok_snd (ok_fst ok_here))))))) ty4 ?_
      refine r_pure tabOk 2 [34, 40] (E' := [(34, ptr b2 0), (40, ptr b2 2)]) rfl ?_
      refine r_store 1 ((.snd (.snd (.fst .here)))) rfl rfl rfl (by first | rfl | (simp only [Pth.off, T.size]; omega)) (ok_snd (ok_snd (ok_fst ok_here))) ty3 ?_
      refine r_pure tabOk 2 [42] (E' := [(42, ptr b2 4)]) rfl ?_
      refine r_store 1 ((.snd (.snd (.snd (.snd (.fst .here)))))) rfl rfl rfl (by first | rfl | (simp only [Pth.off, T.size]; omega)) (ok_snd (ok_snd (ok_snd (ok_snd (ok_fst ok_here))))) ty3 ?_
      refine r_nil ?_
      refine r_perm (L' := [Res.var b2 54 DT (a0.1, mv1, 0, a0.2.2.2.1, 0, true, false, ()), Res.dfiles Try.prog dI mv1 o5]) ((List.perm_middle (a := Res.var b2 54 DT (a0.1, mv1, 0, a0.2.2.2.1, 0, true, false, ())) (l₁ := [Res.dfiles Try.prog dI mv1 o5]) (l₂ := [])).trans (.cons _ (List.Perm.refl _))) ?_
      refine r_disk (P := Try.prog) (I := dI) (D := (a0.1, o5, 0, a0.2.2.2.1, 0, true, false)) ?_
      obtain rfl := Option.some.inj h
      exact r_end0 rfl (fun _ => tup_ok [] .nil) ((.cons_cons _ .slnil))

theorem disk_Disk_On_ok (p0 : Value) (a0 : DiskS) (r : DiskS) (h : disk_Disk_On a0 = some r) : Fn Try.prog 11 [.one (.raw (.pointer none)) p0] [Res.disk Try.prog dI p0 a0] (fun _ => .tup []) (fun _ => [Res.disk Try.prog dI p0 r]) := by
  unfold disk_Disk_On at h
  refine enter Try.func11 rfl 11 rfl rfl fun F => ?_
  refine r_undisk fun b2 mv1 hp => ?_
  subst hp
  obtain ⟨k3, hk3, h⟩ := bnd_ex h
  refine r_joink (γ := Unit) (fun (o4 : DiskS) _ => [(0, ptr b2 0)]) (fun (o4 : DiskS) _ => [Res.disk Try.prog dI (.pointer (some ⟨b2, 0, none⟩)) o4]) k3 r ?_ ?_
  · refine r_seq ?_
    refine r_region ?_
    refine r_pure tabOk 3 [0, 4] (E' := [(0, ptr b2 0), (4, ptr b2 6)]) rfl ?_
    refine y (y_load 0 ((.snd (.snd (.snd (.snd (.snd (.snd (.fst .here)))))))) rfl rfl (by first | rfl | (simp only [Pth.off, T.size]; omega)) (ok_snd (ok_snd (ok_snd (ok_snd (ok_snd (ok_snd (ok_fst ok_here))))))) ty4) rfl ?_
    refine r_nil ?_
    refine r_then ?_
    refine r_if (b := a0.2.2.2.2.2.2) rfl (fun hc => ?_) (fun hc => ?_)
    · rw [if_pos hc] at h
      refine r_region ?_
      refine r_pure tabOk 1 [0, 6] (E' := [(0, ptr b2 0), (6, ptr b2 0)]) rfl ?_
      refine r_disk (P := Try.prog) (I := dI) (D := a0) ?_
      obtain ⟨r6, hr6, h⟩ := bind_ex h
      refine r_calla (Lo := []) (disk_Disk_Crash_ok (.pointer (some ⟨b2, 0, none⟩)) a0 [] _ hr6) (by kernel_rfl) (List.Perm.refl _) (.val rfl (.nilsl .nil)) rfl fun _ => ?_
      refine r_nil ?_
      refine r_then ?_
      refine r_less [0] rfl ?_
      exact r_meetk r6 () h rfl rfl
    · rw [if_neg (ne_true_of_eq_false hc)] at h
      refine r_skip ?_
      refine r_then ?_
      refine r_disk (P := Try.prog) (I := dI) (D := a0) ?_
      refine r_less [0] rfl ?_
      exact r_meetk a0 () h rfl rfl
  · intro o4 gg h
    rw [← hk3] at h
    try dsimp only at h
    refine r_undiskb fun mv5 => ?_
    refine r_region ?_
    refine r_pure tabOk 3 [10] (E' := [(10, ptr b2 5)]) rfl ?_
    refine r_store 0 ((.snd (.snd (.snd (.snd (.snd (.fst .here))))))) rfl rfl rfl (by first | rfl | (simp only [Pth.off, T.size]; omega)) (ok_snd (ok_snd (ok_snd (ok_snd (ok_snd (ok_fst ok_here)))))) ty4 ?_
    refine r_nil ?_
    refine r_disk (P := Try.prog) (I := dI) (D := (o4.1, o4.2.1, o4.2.2.1, o4.2.2.2.1, o4.2.2.2.2.1, false, o4.2.2.2.2.2.2)) ?_
    obtain rfl := Option.some.inj h
    exact r_end0 rfl (fun _ => tup_ok [] .nil) ((.cons_cons _ .slnil))

theorem disk_Disk_Read_ok (p0 : Value) (a0 : DiskS) (a1 : List Int) (a2 : Int) (a3 : Int) (r : List Int × Int) (h : disk_Disk_Read a0 a1 a2 a3 = some r) : Fn Try.prog 17 [.one (.raw (.pointer none)) p0, .one .str a1, .one (.int .i64) a2, .one (.int .i64) a3] [Res.disk Try.prog dI p0 a0] (fun _ => .tup [⟨.str, r.1⟩, ⟨(.int .i64), r.2⟩]) (fun _ => [Res.disk Try.prog dI p0 a0]) := by
  unfold disk_Disk_Read at h
  refine enter Try.func17 rfl 48 rfl rfl fun F => ?_
  refine r_undisk fun b2 mv1 hp => ?_
  subst hp
  refine r_seq ?_
  refine r_region ?_
  refine r_pure tabOk 2 [0, 1, 2, 3] (E' := [(0, ptr b2 0), (1, .one .str a1), (2, .one (.int .i64) a2), (3, .one (.int .i64) a3)]) rfl ?_
  refine r_nil ?_
  refine r_then ?_
  refine r_seq ?_
  refine r_region ?_
  refine r_pure tabOk 2 [2, 3, 14, 15] (E' := [(2, .one (.int .i64) a2), (3, .one (.int .i64) a3), (14, ptr b2 0), (15, .one .str a1)]) rfl ?_
  obtain ⟨r3, hr3, h⟩ := bind_ex h
  refine r_call (Lo := []) (disk_Disk_found_ok b2 mv1 a0 a1 _ hr3) (by kernel_rfl) (List.Perm.refl _) rfl rfl fun v4 => ?_
  refine r_pure tabOk 5 [2, 3, 10, 11] (E' := [(2, .one (.int .i64) a2), (3, .one (.int .i64) a3), (10, .one (.raw (.pointer none)) (tupv v4 0)), (11, .one (.int .i64) r3)]) rfl ?_
  refine r_nil ?_
  refine r_then ?_
  refine r_seq ?_
  refine r_seq ?_
  refine r_region ?_
  refine r_pure tabOk 2 [2, 3, 10, 11, 20] (E' := [(2, .one (.int .i64) a2), (3, .one (.int .i64) a3), (10, .one (.raw (.pointer none)) (tupv v4 0)), (11, .one (.int .i64) r3), (20, .one .bool (r3 != 0))]) rfl ?_
  refine r_nil ?_
  refine r_then ?_
  refine r_if (b := (r3 != 0)) rfl (fun hc => ?_) (fun hc => ?_)
  · rw [if_pos hc] at h
    refine r_seq ?_
    refine r_region ?_
    refine r_pure tabOk 3 [8, 9] (E' := [(8, .one .str []), (9, .one (.int .i64) r3)]) rfl ?_
    refine r_nil ?_
    refine r_then ?_
    refine r_ret ?_
    refine t_then ?_
    refine r_imp_at (R' := Res.dfiles Try.prog dI mv1 a0.2.1) 1 rfl dfound_dfiles ?_
    refine r_disk (P := Try.prog) (I := dI) (D := a0) ?_
    obtain rfl := Option.some.inj h
    exact r_rets (rs := [.tmp 8, .tmp 9]) rfl (.cons (.tmp rfl) (.cons (.tmp rfl) (.nil))) rfl (fun _ vs g => tup_ok vs g) (fun _ _ _ => (.cons_cons _ .slnil))
  · rw [if_neg (ne_true_of_eq_false hc)] at h
    refine r_skip ?_
    refine r_then ?_
    refine r_seq ?_
    refine r_seq ?_
    refine r_region ?_
    refine r_pure tabOk 3 [2, 3, 10, 24] (E' := [(2, .one (.int .i64) a2), (3, .one (.int .i64) a3), (10, .one (.raw (.pointer none)) (tupv v4 0)), (24, .one .bool (decide (a2 < 0)))]) rfl ?_
    obtain ⟨b5, hbb5, h⟩ := bnd_ex h
    rw [hbb5]
    refine r_lsplit (γ := Unit) 3 (fun _ => [(2, .one (.int .i64) a2), (3, .one (.int .i64) a3), (10, .one (.raw (.pointer none)) (tupv v4 0)), (27, .one .bool (b5 || (decide (a3 < 0))))]) (fun _ => [Res.var b2 54 DT (a0.1, mv1, a0.2.2.1, a0.2.2.2.1, a0.2.2.2.2.1, a0.2.2.2.2.2.1, a0.2.2.2.2.2.2, ()), Res.dfound Try.prog dI mv1 a0.2.1 a1 (tupv v4 0) r3]) ?_ (fun _ => ?_)
    · clear h
      cases b5 with
      | true =>
      refine r_pure tabOk 3 [2, 3, 10, 27] (E' := [(2, .one (.int .i64) a2), (3, .one (.int .i64) a3), (10, .one (.raw (.pointer none)) (tupv v4 0)), (27, .one .bool true)]) rfl ?_
      refine r_nil ?_
      refine r_then ?_
      exact r_meetg () rfl rfl
      | false =>
      refine r_pure tabOk 3 [2, 3, 10, 27] (E' := [(2, .one (.int .i64) a2), (3, .one (.int .i64) a3), (10, .one (.raw (.pointer none)) (tupv v4 0)), (27, .one .bool (decide (a3 < 0)))]) rfl ?_
      refine r_nil ?_
      refine r_then ?_
      exact r_meetg () rfl rfl
    refine r_nil ?_
    refine r_then ?_
    refine r_if (b := (b5 || (decide (a3 < 0)))) rfl (fun hc => ?_) (fun hc => ?_)
    · rw [if_pos hc] at h
      refine r_seq ?_
      refine r_region ?_
      refine r_pure tabOk 2 [8, 9] (E' := [(8, .one .str []), (9, .one (.int .i64) 1)]) rfl ?_
      refine r_nil ?_
      refine r_then ?_
      refine r_ret ?_
      refine t_then ?_
      refine r_imp_at (R' := Res.dfiles Try.prog dI mv1 a0.2.1) 1 rfl dfound_dfiles ?_
      refine r_disk (P := Try.prog) (I := dI) (D := a0) ?_
      obtain rfl := Option.some.inj h
      exact r_rets (rs := [.tmp 8, .tmp 9]) rfl (.cons (.tmp rfl) (.cons (.tmp rfl) (.nil))) rfl (fun _ vs g => tup_ok vs g) (fun _ _ _ => (.cons_cons _ .slnil))
    · rw [if_neg (ne_true_of_eq_false hc)] at h
      refine r_skip ?_
      refine r_then ?_
      refine r_seq ?_
      refine r_seq ?_
      obtain ⟨hc, h⟩ := ite_ex h
      refine r_imp_at (R' := Res.dat Try.prog dI mv1 a0.2.1 a1 (tupv v4 0)) 1 rfl (dfound_dat hc) ?_
      obtain ⟨f6, hf6, h⟩ := bind_ex h
      refine r_perm (L' := [Res.dat Try.prog dI mv1 a0.2.1 a1 (tupv v4 0), Res.var b2 54 DT (a0.1, mv1, a0.2.2.1, a0.2.2.2.1, a0.2.2.2.2.1, a0.2.2.2.2.2.1, a0.2.2.2.2.2.2, ())]) ((List.perm_middle (a := Res.dat Try.prog dI mv1 a0.2.1 a1 (tupv v4 0)) (l₁ := [Res.var b2 54 DT (a0.1, mv1, a0.2.2.1, a0.2.2.2.1, a0.2.2.2.2.1, a0.2.2.2.2.2.1, a0.2.2.2.2.2.2, ())]) (l₂ := [])).trans (.cons _ (List.Perm.refl _))) ?_
      refine r_dfocus kstr hf6 fun fb7 sv8 tv9 dv10 hq => ?_
      rw [hq]
      clear hq
      refine r_region ?_
      refine r_pure tabOk 4 [2, 3, 10, 28, 31] (E' := [(2, .one (.int .i64) a2), (3, .one (.int .i64) a3), (10, ptr fb7 0), (28, .one (.int .i64) a2), (31, ptr fb7 0)]) rfl ?_
      refine y (y_load 0 ((.fst .here)) rfl rfl (by first | rfl | (simp only [Pth.off, T.size]; omega)) (ok_fst ok_here) tx0) rfl ?_
      refine y (y_lenown tabOk 1 rfl rfl rfl) rfl ?_
      refine r_pure tabOk 1 [2, 3, 10, 34] (E' := [(2, .one (.int .i64) a2), (3, .one (.int .i64) a3), (10, ptr fb7 0), (34, .one .bool (decide (a2 ≥ (List.length f6.1 : Int))))]) rfl ?_
      refine r_nil ?_
      refine r_then ?_
      refine r_if (b := (decide (a2 ≥ (List.length f6.1 : Int)))) rfl (fun hc => ?_) (fun hc => ?_)
      · rw [if_pos hc] at h
        refine r_seq ?_
        refine r_region ?_
        refine r_pure tabOk 2 [8, 9] (E' := [(8, .one .str []), (9, .one (.int .i64) 0)]) rfl ?_
        refine r_nil ?_
        refine r_then ?_
        refine r_ret ?_
        refine t_then ?_
        refine r_dunfocus_same (P := Try.prog) (I := dI) kstr hf6 ?_
        refine r_imp_at (R' := Res.dfiles Try.prog dI mv1 a0.2.1) 0 rfl dat_dfiles ?_
        refine r_perm (L' := [Res.var b2 54 DT (a0.1, mv1, a0.2.2.1, a0.2.2.2.1, a0.2.2.2.2.1, a0.2.2.2.2.2.1, a0.2.2.2.2.2.2, ()), Res.dfiles Try.prog dI mv1 a0.2.1]) ((List.perm_middle (a := Res.var b2 54 DT (a0.1, mv1, a0.2.2.1, a0.2.2.2.1, a0.2.2.2.2.1, a0.2.2.2.2.2.1, a0.2.2.2.2.2.2, ())) (l₁ := [Res.dfiles Try.prog dI mv1 a0.2.1]) (l₂ := [])).trans (.cons _ (List.Perm.refl _))) ?_
        refine r_disk (P := Try.prog) (I := dI) (D := a0) ?_
        obtain rfl := Option.some.inj h
        exact r_rets (rs := [.tmp 8, .tmp 9]) rfl (.cons (.tmp rfl) (.cons (.tmp rfl) (.nil))) rfl (fun _ vs g => tup_ok vs g) (fun _ _ _ => (.cons_cons _ .slnil))
      · rw [if_neg (ne_true_of_eq_false hc)] at h
        refine r_skip ?_
        refine r_then ?_
        refine r_seq ?_
        refine r_region ?_
        refine r_pure tabOk 3 [2, 3, 37] (E' := [(2, .one (.int .i64) a2), (3, .one (.int .i64) a3), (37, ptr fb7 0)]) rfl ?_
        refine y (y_load 0 ((.fst .here)) rfl rfl (by first | rfl | (simp only [Pth.off, T.size]; omega)) (ok_fst ok_here) tx0) rfl ?_
        refine r_pure tabOk 1 [3, 38, 39] (E' := [(3, .one (.int .i64) a3), (38, .one (.raw (.slice none 0 0)) sv8), (39, .one (.int .i64) a2)]) rfl ?_
        obtain ⟨hs11, h⟩ := ite_ex h
        refine y (y_osub tabOk (i := a2) (j := (List.length f6.1 : Int)) rfl (sub_own 1 rfl) rfl rfl hs11.1 hs11.2.1 hs11.2.2 rfl ty5) rfl ?_
        refine r_pure tabOk 1 [3, 12] (E' := [(3, .one (.int .i64) a3), (12, .one (.raw (.slice none 0 0)) (subv (T.size (.int .u8)) sv8 (Int.toNat a2) (Int.toNat (List.length f6.1 : Int))))]) rfl ?_
        refine r_nil ?_
        refine r_then ?_
        refine r_seq ?_
        refine r_region ?_
        refine r_pure tabOk 3 [41, 42, 43] (E' := [(41, .one (.raw (.slice none 0 0)) (subv (T.size (.int .u8)) sv8 (Int.toNat a2) (Int.toNat (List.length f6.1 : Int)))), (42, .one (.int .i64) a3), (43, .one (.raw (.slice none 0 0)) (subv (T.size (.int .u8)) sv8 (Int.toNat a2) (Int.toNat (List.length f6.1 : Int))))]) rfl ?_
        refine y (y_lensub tabOk rfl (sub_sub (sub_own 1 rfl) hs11.1 hs11.2.1 hs11.2.2) rfl) rfl ?_
        refine y (y_min rfl rfl) rfl ?_
        obtain ⟨hs12, h⟩ := ite_ex h
        refine y (y_osub tabOk (i := (0 : Int)) (j := (min a3 (List.length (List.drop (Int.toNat a2) (List.take (Int.toNat (List.length f6.1 : Int)) f6.1)) : Int))) rfl (sub_sub (sub_own 1 rfl) hs11.1 hs11.2.1 hs11.2.2) rfl rfl hs12.1 hs12.2.1 hs12.2.2 rfl ty5) rfl ?_
        refine y (y_textsub tabOk rfl (sub_sub (sub_sub (sub_own 1 rfl) hs11.1 hs11.2.1 hs11.2.2) hs12.1 hs12.2.1 hs12.2.2) rfl rfl rfl) rfl ?_
        refine r_pure tabOk 1 [8] (E' := [(8, .one .str (List.take (Int.toNat (min a3 (List.length (List.drop (Int.toNat a2) (List.take (Int.toNat (List.length f6.1 : Int)) f6.1)) : Int))) (List.drop (Int.toNat a2) (List.take (Int.toNat (List.length f6.1 : Int)) f6.1))))]) rfl ?_
        obtain ⟨t13, ht13, h⟩ := bnd_ex h
        rw [ht13]
        refine r_pure tabOk 1 [8, 9] (E' := [(8, .one .str t13), (9, .one (.int .i64) 0)]) rfl ?_
        refine r_nil ?_
        refine r_then ?_
        refine r_ret ?_
        refine r_dunfocus_same (P := Try.prog) (I := dI) kstr hf6 ?_
        refine r_imp_at (R' := Res.dfiles Try.prog dI mv1 a0.2.1) 0 rfl dat_dfiles ?_
        refine r_perm (L' := [Res.var b2 54 DT (a0.1, mv1, a0.2.2.1, a0.2.2.2.1, a0.2.2.2.2.1, a0.2.2.2.2.2.1, a0.2.2.2.2.2.2, ()), Res.dfiles Try.prog dI mv1 a0.2.1]) ((List.perm_middle (a := Res.var b2 54 DT (a0.1, mv1, a0.2.2.1, a0.2.2.2.1, a0.2.2.2.2.1, a0.2.2.2.2.2.1, a0.2.2.2.2.2.2, ())) (l₁ := [Res.dfiles Try.prog dI mv1 a0.2.1]) (l₂ := [])).trans (.cons _ (List.Perm.refl _))) ?_
        refine r_disk (P := Try.prog) (I := dI) (D := a0) ?_
        obtain rfl := Option.some.inj h
        exact r_rets (rs := [.tmp 8, .tmp 9]) rfl (.cons (.tmp rfl) (.cons (.tmp rfl) (.nil))) rfl (fun _ vs g => tup_ok vs g) (fun _ _ _ => (.cons_cons _ .slnil))

theorem check_Load_ok (p0 : Value) (a0 : DiskS) (a1 : List Int) (r : List Int × Int) (h : check_Load a0 a1 = some r) : Fn Try.prog 15 [.one (.raw (.pointer none)) p0, .one .str a1] [Res.disk Try.prog dI p0 a0] (fun _ => .tup [⟨.str, r.1⟩, ⟨(.int .i64), r.2⟩]) (fun _ => [Res.disk Try.prog dI p0 a0]) := by
  unfold check_Load at h
  refine enter Try.func15 rfl 38 rfl rfl fun F => ?_
  refine r_seq ?_
  refine r_region ?_
  refine r_pure tabOk 2 [0, 1] (E' := [(0, .one (.raw (.pointer none)) p0), (1, .one .str a1)]) rfl ?_
  refine r_nil ?_
  refine r_then ?_
  refine r_seq ?_
  refine r_seq ?_
  refine r_region ?_
  refine r_pure tabOk 1 [0, 1, 8] (E' := [(0, .one (.raw (.pointer none)) p0), (1, .one .str a1), (8, .one .str a1)]) rfl ?_
  obtain ⟨r1, hr1, h⟩ := bind_ex h
  refine r_calls (check_isName_ok a1 _ hr1) (by kernel_rfl) rfl rfl ?_
  refine r_pure tabOk 1 [0, 1, 10] (E' := [(0, .one (.raw (.pointer none)) p0), (1, .one .str a1), (10, .one .bool (!r1))]) rfl ?_
  refine r_nil ?_
  refine r_then ?_
  refine r_if (b := (!r1)) rfl (fun hc => ?_) (fun hc => ?_)
  · rw [if_pos hc] at h
    refine r_seq ?_
    refine r_region ?_
    refine r_pure tabOk 2 [4, 5] (E' := [(4, .one .str []), (5, .one (.int .i64) 1)]) rfl ?_
    refine r_nil ?_
    refine r_then ?_
    refine r_ret ?_
    refine t_then ?_
    obtain rfl := Option.some.inj h
    exact r_rets (rs := [.tmp 4, .tmp 5]) rfl (.cons (.tmp rfl) (.cons (.tmp rfl) (.nil))) rfl (fun _ vs g => tup_ok vs g) (fun _ _ _ => (.cons_cons _ .slnil))
  · rw [if_neg (ne_true_of_eq_false hc)] at h
    refine r_skip ?_
    refine r_then ?_
    refine r_seq ?_
    refine r_region ?_
    refine r_pure tabOk 2 [12, 13] (E' := [(12, .one (.raw (.pointer none)) p0), (13, .one .str a1)]) rfl ?_
    obtain ⟨r2, hr2, h⟩ := bind_ex h
    refine r_call (Lo := []) (disk_Disk_Read_ok p0 a0 a1 0 1048576 _ hr2) (by kernel_rfl) (List.Perm.refl _) rfl rfl fun _ => ?_
    refine r_pure tabOk 5 [6, 7] (E' := [(6, .one .str r2.1), (7, .one (.int .i64) r2.2)]) rfl ?_
    refine r_nil ?_
    refine r_then ?_
    refine r_seq ?_
    refine r_seq ?_
    refine r_region ?_
    refine r_pure tabOk 2 [6, 7, 18] (E' := [(6, .one .str r2.1), (7, .one (.int .i64) r2.2), (18, .one .bool (r2.2 != 0))]) rfl ?_
    refine r_nil ?_
    refine r_then ?_
    refine r_if (b := (r2.2 != 0)) rfl (fun hc => ?_) (fun hc => ?_)
    · rw [if_pos hc] at h
      refine r_seq ?_
      refine r_region ?_
      refine r_pure tabOk 3 [4, 5] (E' := [(4, .one .str []), (5, .one (.int .i64) r2.2)]) rfl ?_
      refine r_nil ?_
      refine r_then ?_
      refine r_ret ?_
      refine t_then ?_
      obtain rfl := Option.some.inj h
      exact r_rets (rs := [.tmp 4, .tmp 5]) rfl (.cons (.tmp rfl) (.cons (.tmp rfl) (.nil))) rfl (fun _ vs g => tup_ok vs g) (fun _ _ _ => (.cons_cons _ .slnil))
    · rw [if_neg (ne_true_of_eq_false hc)] at h
      refine r_skip ?_
      refine r_then ?_
      refine r_seq ?_
      refine r_seq ?_
      refine r_region ?_
      refine r_pure tabOk 4 [6, 23] (E' := [(6, .one .str r2.1), (23, .one .bool (decide ((List.length r2.1 : Int) < 8)))]) rfl ?_
      obtain ⟨b3, hbb3, h⟩ := bnd_ex h
      rw [hbb3]
      refine r_lsplit (γ := Unit) 5 (fun _ => [(6, .one .str r2.1), (28, .one .bool (b3 || (decide ((IntKind.wrap .i64 ((List.length r2.1 : Int) - 8)) > 1048448))))]) (fun _ => [Res.disk Try.prog dI p0 a0]) ?_ (fun _ => ?_)
      · clear h
        cases b3 with
        | true =>
        refine r_pure tabOk 5 [6, 28] (E' := [(6, .one .str r2.1), (28, .one .bool true)]) rfl ?_
        refine r_nil ?_
        refine r_then ?_
        exact r_meetg () rfl rfl
        | false =>
        refine r_pure tabOk 5 [6, 28] (E' := [(6, .one .str r2.1), (28, .one .bool (decide ((IntKind.wrap .i64 ((List.length r2.1 : Int) - 8)) > 1048448)))]) rfl ?_
        refine r_nil ?_
        refine r_then ?_
        exact r_meetg () rfl rfl
      refine r_pure tabOk 1 [6, 29] (E' := [(6, .one .str r2.1), (29, .one .bool (b3 || (decide ((IntKind.wrap .i64 ((List.length r2.1 : Int) - 8)) > 1048448))))]) rfl ?_
      obtain ⟨b4, hbb4, h⟩ := bnd_ex h
      rw [hbb4]
      obtain ⟨k5, hk5, h⟩ := bnd_ex h
      refine r_lsplitk (γ := Unit) 6 (fun (o6 : Bool) _ => [(6, .one .str r2.1), (35, .one .bool o6)]) (fun _ _ => [Res.disk Try.prog dI p0 a0]) k5 r ?_ ?_
      · rcases Bool.eq_false_or_eq_true b4 with hh | hh
        · rw [hh] at h ⊢
          rw [if_pos rfl] at h
          refine r_pure tabOk 6 [6, 35] (E' := [(6, .one .str r2.1), (35, .one .bool true)]) rfl ?_
          refine r_nil ?_
          refine r_less [6, 35] rfl ?_
          refine r_then ?_
          exact r_meetk true () h rfl rfl
        · rw [hh] at h ⊢
          rw [if_neg (by decide)] at h
          refine r_pure tabOk 1 [6, 29, 30] (E' := [(6, .one .str r2.1), (29, .one .bool false), (30, .one .str r2.1)]) rfl ?_
          refine r_guard (by rfl) rfl ?_
          obtain ⟨hc, h⟩ := ite_ex h
          refine y (y_sub (i := 8) (j := (List.length r2.1 : Int)) tabOk rfl rfl rfl hc.1 hc.2.1 hc.2.2 rfl) rfl ?_
          refine r_guard (by rfl) rfl ?_
          obtain ⟨r7, hr7, h⟩ := bind_ex h
          refine r_calls (check_bytes_ok (List.drop 8 (List.take (Int.toNat (List.length r2.1 : Int)) r2.1)) _ hr7) (by kernel_rfl) rfl rfl ?_
          refine r_pure tabOk 3 [6, 35] (E' := [(6, .one .str r2.1), (35, .one .bool (r7 != r2.1))]) rfl ?_
          refine r_nil ?_
          refine r_less [6, 35] rfl ?_
          refine r_then ?_
          exact r_meetk (r7 != r2.1) () h rfl rfl
      · intro o6 _ h
        rw [← hk5] at h
        try dsimp only at h
        refine r_nil ?_
        refine r_then ?_
        refine r_if (b := o6) rfl (fun hc => ?_) (fun hc => ?_)
        · rw [if_pos hc] at h
          refine r_seq ?_
          refine r_region ?_
          refine r_pure tabOk 2 [4, 5] (E' := [(4, .one .str []), (5, .one (.int .i64) 70)]) rfl ?_
          refine r_nil ?_
          refine r_then ?_
          refine r_ret ?_
          refine t_then ?_
          obtain rfl := Option.some.inj h
          exact r_rets (rs := [.tmp 4, .tmp 5]) rfl (.cons (.tmp rfl) (.cons (.tmp rfl) (.nil))) rfl (fun _ vs g => tup_ok vs g) (fun _ _ _ => (.cons_cons _ .slnil))
        · rw [if_neg (ne_true_of_eq_false hc)] at h
          refine r_skip ?_
          refine r_then ?_
          refine r_seq ?_
          refine r_region ?_
          refine r_pure tabOk 1 [36] (E' := [(36, .one .str r2.1)]) rfl ?_
          obtain ⟨hc, h⟩ := ite_ex h
          refine y (y_sub (i := 8) (j := (List.length r2.1 : Int)) tabOk rfl rfl rfl hc.1 hc.2.1 hc.2.2 rfl) rfl ?_
          refine r_pure tabOk 2 [4, 5] (E' := [(4, .one .str (List.drop 8 (List.take (Int.toNat (List.length r2.1 : Int)) r2.1))), (5, .one (.int .i64) 0)]) rfl ?_
          refine r_nil ?_
          refine r_then ?_
          refine r_ret ?_
          obtain rfl := Option.some.inj h
          exact r_rets (rs := [.tmp 4, .tmp 5]) rfl (.cons (.tmp rfl) (.cons (.tmp rfl) (.nil))) rfl (fun _ vs g => tup_ok vs g) (fun _ _ _ => (.cons_cons _ .slnil))

theorem escrowlaw07_first_ok  (r : Bool) (h : escrowlaw07_first  = some r) : Pure Try.prog 6 [] (.one .bool r) := by
  unfold escrowlaw07_first at h
  refine enter Try.func6 rfl 75 rfl rfl fun F => ?_
  refine r_seq ?_
  refine r_region ?_
  refine r_pure tabOk 1 [] (E' := []) rfl ?_
  refine r_nil ?_
  refine r_then ?_
  refine r_seq ?_
  refine r_region ?_
  obtain ⟨r1, hr1, h⟩ := bind_ex h
  refine r_call (Lo := []) (disk_New_ok 100000 _ hr1) (by kernel_rfl) (List.Perm.refl _) rfl rfl fun v2 => ?_
  refine r_pure tabOk 5 [1, 2] (E' := [(1, .one (.raw (.pointer none)) (tupv v2 0)), (2, .one (.int .i64) r1.1)]) rfl ?_
  refine r_nil ?_
  refine r_then ?_
  refine r_seq ?_
  refine r_seq ?_
  refine r_region ?_
  refine r_pure tabOk 1 [1, 2, 16] (E' := [(1, .one (.raw (.pointer none)) (tupv v2 0)), (2, .one (.int .i64) r1.1), (16, .one (.raw (.pointer none)) (tupv v2 0))]) rfl ?_
  refine y (y_dnil 0 rfl rfl Try.underlying23) rfl ?_
  refine r_pure tabOk 1 [1, 2, 18] (E' := [(1, .one (.raw (.pointer none)) (tupv v2 0)), (2, .one (.int .i64) r1.1), (18, .one .bool (r1.1 != 0))]) rfl ?_
  obtain ⟨b3, hbb3, h⟩ := bnd_ex h
  rw [hbb3]
  refine r_lsplit (γ := Unit) 3 (fun _ => [(1, .one (.raw (.pointer none)) (tupv v2 0)), (21, .one .bool (b3 || (r1.1 != 0)))]) (fun _ => [Res.diskif Try.prog dI (tupv v2 0) r1.2 r1.1]) ?_ (fun _ => ?_)
  · clear h
    cases b3 with
    | true =>
    refine r_pure tabOk 3 [1, 21] (E' := [(1, .one (.raw (.pointer none)) (tupv v2 0)), (21, .one .bool true)]) rfl ?_
    refine r_nil ?_
    refine r_then ?_
    exact r_meetg () rfl rfl
    | false =>
    refine r_pure tabOk 3 [1, 21] (E' := [(1, .one (.raw (.pointer none)) (tupv v2 0)), (21, .one .bool (r1.1 != 0))]) rfl ?_
    refine r_nil ?_
    refine r_then ?_
    exact r_meetg () rfl rfl
  refine r_nil ?_
  refine r_then ?_
  refine r_if (b := (b3 || (r1.1 != 0))) rfl (fun hc => ?_) (fun hc => ?_)
  · rw [if_pos hc] at h
    refine r_seq ?_
    refine r_region ?_
    refine r_pure tabOk 1 [0] (E' := [(0, .one .bool false)]) rfl ?_
    refine r_nil ?_
    refine r_then ?_
    refine r_ret ?_
    refine t_then ?_
    obtain rfl := Option.some.inj h
    exact r_ret1 rfl (.tmp rfl) (fun _ _ g => g) (fun _ _ _ => List.nil_sublist _)
  · rw [if_neg (ne_true_of_eq_false hc)] at h
    refine r_skip ?_
    refine r_then ?_
    refine r_seq ?_
    refine r_region ?_
    refine r_pure tabOk 1 [1, 22] (E' := [(1, .one (.raw (.pointer none)) (tupv v2 0)), (22, .one (.raw (.pointer none)) (tupv v2 0))]) rfl ?_
    obtain ⟨hc, h⟩ := ite_ex h
    refine r_imp_at (R' := Res.disk Try.prog dI (tupv v2 0) r1.2) 0 rfl (diskif_disk hc) ?_
    obtain ⟨r4, hr4, h⟩ := bind_ex h
    refine r_call (Lo := []) (check_Save_ok (tupv v2 0) r1.2 [99] [97, 98] _ hr4) (by kernel_rfl) (List.Perm.refl _) rfl rfl fun _ => ?_
    refine r_pure tabOk 1 [1, 3] (E' := [(1, .one (.raw (.pointer none)) (tupv v2 0)), (3, .one (.int .i64) r4.1)]) rfl ?_
    refine r_nil ?_
    refine r_then ?_
    refine r_seq ?_
    refine r_region ?_
    refine r_pure tabOk 1 [1, 3, 25] (E' := [(1, .one (.raw (.pointer none)) (tupv v2 0)), (3, .one (.int .i64) r4.1), (25, .one (.raw (.pointer none)) (tupv v2 0))]) rfl ?_
    obtain ⟨r5, hr5, h⟩ := bind_ex h
    refine r_call (Lo := []) (disk_Disk_Size_ok (tupv v2 0) r4.2 [99] _ hr5) (by kernel_rfl) (List.Perm.refl _) rfl rfl fun _ => ?_
    refine r_pure tabOk 5 [1, 3, 4] (E' := [(1, .one (.raw (.pointer none)) (tupv v2 0)), (3, .one (.int .i64) r4.1), (4, .one (.int .i64) r5.1)]) rfl ?_
    refine r_nil ?_
    refine r_then ?_
    refine r_seq ?_
    refine r_region ?_
    refine r_pure tabOk 1 [1, 3, 4, 29] (E' := [(1, .one (.raw (.pointer none)) (tupv v2 0)), (3, .one (.int .i64) r4.1), (4, .one (.int .i64) r5.1), (29, .one (.raw (.pointer none)) (tupv v2 0))]) rfl ?_
    obtain ⟨r6, hr6, h⟩ := bind_ex h
    refine r_call (Lo := []) (check_Save_ok (tupv v2 0) r4.2 [99] [111, 108, 100] _ hr6) (by kernel_rfl) (List.Perm.refl _) rfl rfl fun _ => ?_
    refine r_pure tabOk 1 [1, 3, 4, 6] (E' := [(1, .one (.raw (.pointer none)) (tupv v2 0)), (3, .one (.int .i64) r4.1), (4, .one (.int .i64) r5.1), (6, .one (.int .i64) r6.1)]) rfl ?_
    refine r_nil ?_
    refine r_then ?_
    refine r_seq ?_
    refine r_region ?_
    refine r_pure tabOk 1 [1, 3, 4, 6, 31] (E' := [(1, .one (.raw (.pointer none)) (tupv v2 0)), (3, .one (.int .i64) r4.1), (4, .one (.int .i64) r5.1), (6, .one (.int .i64) r6.1), (31, .one (.raw (.pointer none)) (tupv v2 0))]) rfl ?_
    obtain ⟨r7, hr7, h⟩ := bind_ex h
    refine r_call (Lo := []) (disk_Disk_Fall_ok (tupv v2 0) r6.2 2 _ hr7) (by kernel_rfl) (List.Perm.refl _) rfl rfl fun _ => ?_
    refine r_nil ?_
    refine r_then ?_
    refine r_seq ?_
    refine r_region ?_
    refine r_pure tabOk 1 [1, 3, 4, 6, 33] (E' := [(1, .one (.raw (.pointer none)) (tupv v2 0)), (3, .one (.int .i64) r4.1), (4, .one (.int .i64) r5.1), (6, .one (.int .i64) r6.1), (33, .one (.raw (.pointer none)) (tupv v2 0))]) rfl ?_
    obtain ⟨r8, hr8, h⟩ := bind_ex h
    refine r_call (Lo := []) (check_Save_ok (tupv v2 0) r7 [99] [110, 101, 119] _ hr8) (by kernel_rfl) (List.Perm.refl _) rfl rfl fun _ => ?_
    refine r_pure tabOk 1 [1, 3, 4, 6, 7] (E' := [(1, .one (.raw (.pointer none)) (tupv v2 0)), (3, .one (.int .i64) r4.1), (4, .one (.int .i64) r5.1), (6, .one (.int .i64) r6.1), (7, .one (.int .i64) r8.1)]) rfl ?_
    refine r_nil ?_
    refine r_then ?_
    refine r_seq ?_
    refine r_region ?_
    refine r_pure tabOk 1 [1, 3, 4, 6, 7, 35] (E' := [(1, .one (.raw (.pointer none)) (tupv v2 0)), (3, .one (.int .i64) r4.1), (4, .one (.int .i64) r5.1), (6, .one (.int .i64) r6.1), (7, .one (.int .i64) r8.1), (35, .one (.raw (.pointer none)) (tupv v2 0))]) rfl ?_
    obtain ⟨r9, hr9, h⟩ := bind_ex h
    refine r_calla (Lo := []) (disk_Disk_Crash_ok (tupv v2 0) r8.2 [] _ hr9) (by kernel_rfl) (List.Perm.refl _) (.val rfl (.nilsl .nil)) rfl fun _ => ?_
    refine r_nil ?_
    refine r_then ?_
    refine r_seq ?_
    refine r_region ?_
    refine r_pure tabOk 1 [1, 3, 4, 6, 7, 37] (E' := [(1, .one (.raw (.pointer none)) (tupv v2 0)), (3, .one (.int .i64) r4.1), (4, .one (.int .i64) r5.1), (6, .one (.int .i64) r6.1), (7, .one (.int .i64) r8.1), (37, .one (.raw (.pointer none)) (tupv v2 0))]) rfl ?_
    obtain ⟨r10, hr10, h⟩ := bind_ex h
    refine r_call (Lo := []) (disk_Disk_On_ok (tupv v2 0) r9 _ hr10) (by kernel_rfl) (List.Perm.refl _) rfl rfl fun _ => ?_
    refine r_nil ?_
    refine r_then ?_
    refine r_seq ?_
    refine r_region ?_
    refine r_pure tabOk 1 [1, 3, 4, 6, 7, 40] (E' := [(1, .one (.raw (.pointer none)) (tupv v2 0)), (3, .one (.int .i64) r4.1), (4, .one (.int .i64) r5.1), (6, .one (.int .i64) r6.1), (7, .one (.int .i64) r8.1), (40, .one (.raw (.pointer none)) (tupv v2 0))]) rfl ?_
    obtain ⟨r11, hr11, h⟩ := bind_ex h
    refine r_call (Lo := []) (check_Load_ok (tupv v2 0) r10 [99] _ hr11) (by kernel_rfl) (List.Perm.refl _) rfl rfl fun _ => ?_
    refine r_pure tabOk 5 [1, 3, 4, 6, 7, 8, 9] (E' := [(1, .one (.raw (.pointer none)) (tupv v2 0)), (3, .one (.int .i64) r4.1), (4, .one (.int .i64) r5.1), (6, .one (.int .i64) r6.1), (7, .one (.int .i64) r8.1), (8, .one .str r11.1), (9, .one (.int .i64) r11.2)]) rfl ?_
    refine r_nil ?_
    refine r_then ?_
    refine r_seq ?_
    refine r_region ?_
    refine r_pure tabOk 1 [3, 4, 6, 7, 8, 9, 45] (E' := [(3, .one (.int .i64) r4.1), (4, .one (.int .i64) r5.1), (6, .one (.int .i64) r6.1), (7, .one (.int .i64) r8.1), (8, .one .str r11.1), (9, .one (.int .i64) r11.2), (45, .one (.raw (.pointer none)) (tupv v2 0))]) rfl ?_
    obtain ⟨r12, hr12, h⟩ := bind_ex h
    refine r_call (Lo := []) (check_Load_ok (tupv v2 0) r10 [113] _ hr12) (by kernel_rfl) (List.Perm.refl _) rfl rfl fun _ => ?_
    refine r_pure tabOk 5 [3, 4, 6, 7, 8, 9, 11] (E' := [(3, .one (.int .i64) r4.1), (4, .one (.int .i64) r5.1), (6, .one (.int .i64) r6.1), (7, .one (.int .i64) r8.1), (8, .one .str r11.1), (9, .one (.int .i64) r11.2), (11, .one (.int .i64) r12.2)]) rfl ?_
    refine r_nil ?_
    refine r_then ?_
    refine r_seq ?_
    refine r_region ?_
    refine r_pure tabOk 3 [4, 6, 7, 8, 9, 11, 51] (E' := [(4, .one (.int .i64) r5.1), (6, .one (.int .i64) r6.1), (7, .one (.int .i64) r8.1), (8, .one .str r11.1), (9, .one (.int .i64) r11.2), (11, .one (.int .i64) r12.2), (51, .one .bool (r4.1 == 0))]) rfl ?_
    obtain ⟨b13, hbb13, h⟩ := bnd_ex h
    rw [hbb13]
    refine r_lsplit (γ := Unit) 3 (fun _ => [(6, .one (.int .i64) r6.1), (7, .one (.int .i64) r8.1), (8, .one .str r11.1), (9, .one (.int .i64) r11.2), (11, .one (.int .i64) r12.2), (54, .one .bool (b13 && (r5.1 == 10)))]) (fun _ => [Res.disk Try.prog dI (tupv v2 0) r10]) ?_ (fun _ => ?_)
    · clear h
      cases b13 with
      | true =>
      refine r_pure tabOk 3 [6, 7, 8, 9, 11, 54] (E' := [(6, .one (.int .i64) r6.1), (7, .one (.int .i64) r8.1), (8, .one .str r11.1), (9, .one (.int .i64) r11.2), (11, .one (.int .i64) r12.2), (54, .one .bool (r5.1 == 10))]) rfl ?_
      refine r_nil ?_
      refine r_then ?_
      exact r_meetg () rfl rfl
      | false =>
      refine r_pure tabOk 3 [6, 7, 8, 9, 11, 54] (E' := [(6, .one (.int .i64) r6.1), (7, .one (.int .i64) r8.1), (8, .one .str r11.1), (9, .one (.int .i64) r11.2), (11, .one (.int .i64) r12.2), (54, .one .bool false)]) rfl ?_
      refine r_nil ?_
      refine r_then ?_
      exact r_meetg () rfl rfl
    refine r_pure tabOk 1 [6, 7, 8, 9, 11, 55] (E' := [(6, .one (.int .i64) r6.1), (7, .one (.int .i64) r8.1), (8, .one .str r11.1), (9, .one (.int .i64) r11.2), (11, .one (.int .i64) r12.2), (55, .one .bool (b13 && (r5.1 == 10)))]) rfl ?_
    obtain ⟨b14, hbb14, h⟩ := bnd_ex h
    rw [hbb14]
    refine r_lsplit (γ := Unit) 3 (fun _ => [(7, .one (.int .i64) r8.1), (8, .one .str r11.1), (9, .one (.int .i64) r11.2), (11, .one (.int .i64) r12.2), (58, .one .bool (b14 && (r6.1 == 0)))]) (fun _ => [Res.disk Try.prog dI (tupv v2 0) r10]) ?_ (fun _ => ?_)
    · clear h
      cases b14 with
      | true =>
      refine r_pure tabOk 3 [7, 8, 9, 11, 58] (E' := [(7, .one (.int .i64) r8.1), (8, .one .str r11.1), (9, .one (.int .i64) r11.2), (11, .one (.int .i64) r12.2), (58, .one .bool (r6.1 == 0))]) rfl ?_
      refine r_nil ?_
      refine r_then ?_
      exact r_meetg () rfl rfl
      | false =>
      refine r_pure tabOk 3 [7, 8, 9, 11, 58] (E' := [(7, .one (.int .i64) r8.1), (8, .one .str r11.1), (9, .one (.int .i64) r11.2), (11, .one (.int .i64) r12.2), (58, .one .bool false)]) rfl ?_
      refine r_nil ?_
      refine r_then ?_
      exact r_meetg () rfl rfl
    refine r_pure tabOk 1 [7, 8, 9, 11, 59] (E' := [(7, .one (.int .i64) r8.1), (8, .one .str r11.1), (9, .one (.int .i64) r11.2), (11, .one (.int .i64) r12.2), (59, .one .bool (b14 && (r6.1 == 0)))]) rfl ?_
    obtain ⟨b15, hbb15, h⟩ := bnd_ex h
    rw [hbb15]
    refine r_lsplit (γ := Unit) 3 (fun _ => [(8, .one .str r11.1), (9, .one (.int .i64) r11.2), (11, .one (.int .i64) r12.2), (62, .one .bool (b15 && (r8.1 == 9)))]) (fun _ => [Res.disk Try.prog dI (tupv v2 0) r10]) ?_ (fun _ => ?_)
    · clear h
      cases b15 with
      | true =>
      refine r_pure tabOk 3 [8, 9, 11, 62] (E' := [(8, .one .str r11.1), (9, .one (.int .i64) r11.2), (11, .one (.int .i64) r12.2), (62, .one .bool (r8.1 == 9))]) rfl ?_
      refine r_nil ?_
      refine r_then ?_
      exact r_meetg () rfl rfl
      | false =>
      refine r_pure tabOk 3 [8, 9, 11, 62] (E' := [(8, .one .str r11.1), (9, .one (.int .i64) r11.2), (11, .one (.int .i64) r12.2), (62, .one .bool false)]) rfl ?_
      refine r_nil ?_
      refine r_then ?_
      exact r_meetg () rfl rfl
    refine r_pure tabOk 1 [8, 9, 11, 63] (E' := [(8, .one .str r11.1), (9, .one (.int .i64) r11.2), (11, .one (.int .i64) r12.2), (63, .one .bool (b15 && (r8.1 == 9)))]) rfl ?_
    obtain ⟨b16, hbb16, h⟩ := bnd_ex h
    rw [hbb16]
    refine r_lsplit (γ := Unit) 3 (fun _ => [(9, .one (.int .i64) r11.2), (11, .one (.int .i64) r12.2), (66, .one .bool (b16 && (r11.1 == [111, 108, 100])))]) (fun _ => [Res.disk Try.prog dI (tupv v2 0) r10]) ?_ (fun _ => ?_)
    · clear h
      cases b16 with
      | true =>
      refine r_pure tabOk 3 [9, 11, 66] (E' := [(9, .one (.int .i64) r11.2), (11, .one (.int .i64) r12.2), (66, .one .bool (r11.1 == [111, 108, 100]))]) rfl ?_
      refine r_nil ?_
      refine r_then ?_
      exact r_meetg () rfl rfl
      | false =>
      refine r_pure tabOk 3 [9, 11, 66] (E' := [(9, .one (.int .i64) r11.2), (11, .one (.int .i64) r12.2), (66, .one .bool false)]) rfl ?_
      refine r_nil ?_
      refine r_then ?_
      exact r_meetg () rfl rfl
    refine r_pure tabOk 1 [9, 11, 67] (E' := [(9, .one (.int .i64) r11.2), (11, .one (.int .i64) r12.2), (67, .one .bool (b16 && (r11.1 == [111, 108, 100])))]) rfl ?_
    obtain ⟨b17, hbb17, h⟩ := bnd_ex h
    rw [hbb17]
    refine r_lsplit (γ := Unit) 3 (fun _ => [(11, .one (.int .i64) r12.2), (70, .one .bool (b17 && (r11.2 == 0)))]) (fun _ => [Res.disk Try.prog dI (tupv v2 0) r10]) ?_ (fun _ => ?_)
    · clear h
      cases b17 with
      | true =>
      refine r_pure tabOk 3 [11, 70] (E' := [(11, .one (.int .i64) r12.2), (70, .one .bool (r11.2 == 0))]) rfl ?_
      refine r_nil ?_
      refine r_then ?_
      exact r_meetg () rfl rfl
      | false =>
      refine r_pure tabOk 3 [11, 70] (E' := [(11, .one (.int .i64) r12.2), (70, .one .bool false)]) rfl ?_
      refine r_nil ?_
      refine r_then ?_
      exact r_meetg () rfl rfl
    refine r_pure tabOk 1 [11, 71] (E' := [(11, .one (.int .i64) r12.2), (71, .one .bool (b17 && (r11.2 == 0)))]) rfl ?_
    obtain ⟨b18, hbb18, h⟩ := bnd_ex h
    rw [hbb18]
    refine r_lsplit (γ := Unit) 3 (fun _ => [(74, .one .bool (b18 && (r12.2 == 5)))]) (fun _ => [Res.disk Try.prog dI (tupv v2 0) r10]) ?_ (fun _ => ?_)
    · clear h
      cases b18 with
      | true =>
      refine r_pure tabOk 3 [74] (E' := [(74, .one .bool (r12.2 == 5))]) rfl ?_
      refine r_nil ?_
      refine r_then ?_
      exact r_meetg () rfl rfl
      | false =>
      refine r_pure tabOk 3 [74] (E' := [(74, .one .bool false)]) rfl ?_
      refine r_nil ?_
      refine r_then ?_
      exact r_meetg () rfl rfl
    refine r_pure tabOk 1 [0] (E' := [(0, .one .bool (b18 && (r12.2 == 5)))]) rfl ?_
    refine r_nil ?_
    refine r_then ?_
    refine r_ret ?_
    obtain rfl := Option.some.inj h
    exact r_ret1 rfl (.tmp rfl) (fun _ _ g => g) (fun _ _ _ => List.nil_sublist _)

theorem disk_Disk_Arm_ok (p0 : Value) (a0 : DiskS) (a1 : Int) (a2 : Int) (r : DiskS) (h : disk_Disk_Arm a0 a1 a2 = some r) : Fn Try.prog 8 [.one (.raw (.pointer none)) p0, .one (.int .i64) a1, .one (.int .i64) a2] [Res.disk Try.prog dI p0 a0] (fun _ => .tup []) (fun _ => [Res.disk Try.prog dI p0 r]) := by
  unfold disk_Disk_Arm at h
  refine enter Try.func8 rfl 24 rfl rfl fun F => ?_
  refine r_undisk fun b2 mv1 hp => ?_
  subst hp
  obtain ⟨k3, hk3, h⟩ := bnd_ex h
  refine r_joink (γ := Unit) (fun (o4 : Int) _ => [(0, ptr b2 0), (1, .one (.int .i64) o4), (2, .one (.int .i64) a2)]) (fun (o4 : Int) _ => [Res.var b2 54 DT (a0.1, mv1, a0.2.2.1, a0.2.2.2.1, a0.2.2.2.2.1, a0.2.2.2.2.2.1, a0.2.2.2.2.2.2, ()), Res.dfiles Try.prog dI mv1 a0.2.1]) k3 r ?_ ?_
  · refine r_seq ?_
    refine r_region ?_
    refine r_pure tabOk 3 [0, 1, 2, 8] (E' := [(0, ptr b2 0), (1, .one (.int .i64) a1), (2, .one (.int .i64) a2), (8, .one .bool (decide (a1 < 1)))]) rfl ?_
    obtain ⟨b5, hbb5, h⟩ := bnd_ex h
    rw [hbb5]
    refine r_lsplit (γ := Unit) 3 (fun _ => [(0, ptr b2 0), (1, .one (.int .i64) a1), (2, .one (.int .i64) a2), (11, .one .bool (b5 || (decide (a2 < 0))))]) (fun _ => [Res.var b2 54 DT (a0.1, mv1, a0.2.2.1, a0.2.2.2.1, a0.2.2.2.2.1, a0.2.2.2.2.2.1, a0.2.2.2.2.2.2, ()), Res.dfiles Try.prog dI mv1 a0.2.1]) ?_ (fun _ => ?_)
    · clear h
      cases b5 with
      | true =>
      refine r_pure tabOk 3 [0, 1, 2, 11] (E' := [(0, ptr b2 0), (1, .one (.int .i64) a1), (2, .one (.int .i64) a2), (11, .one .bool true)]) rfl ?_
      refine r_nil ?_
      refine r_then ?_
      exact r_meetg () rfl rfl
      | false =>
      refine r_pure tabOk 3 [0, 1, 2, 11] (E' := [(0, ptr b2 0), (1, .one (.int .i64) a1), (2, .one (.int .i64) a2), (11, .one .bool (decide (a2 < 0)))]) rfl ?_
      refine r_nil ?_
      refine r_then ?_
      exact r_meetg () rfl rfl
    refine r_pure tabOk 1 [0, 1, 2, 12] (E' := [(0, ptr b2 0), (1, .one (.int .i64) a1), (2, .one (.int .i64) a2), (12, .one .bool (b5 || (decide (a2 < 0))))]) rfl ?_
    obtain ⟨b6, hbb6, h⟩ := bnd_ex h
    rw [hbb6]
    refine r_lsplit (γ := Unit) 3 (fun _ => [(0, ptr b2 0), (1, .one (.int .i64) a1), (2, .one (.int .i64) a2), (15, .one .bool (b6 || (decide (a2 > 2))))]) (fun _ => [Res.var b2 54 DT (a0.1, mv1, a0.2.2.1, a0.2.2.2.1, a0.2.2.2.2.1, a0.2.2.2.2.2.1, a0.2.2.2.2.2.2, ()), Res.dfiles Try.prog dI mv1 a0.2.1]) ?_ (fun _ => ?_)
    · clear h
      cases b6 with
      | true =>
      refine r_pure tabOk 3 [0, 1, 2, 15] (E' := [(0, ptr b2 0), (1, .one (.int .i64) a1), (2, .one (.int .i64) a2), (15, .one .bool true)]) rfl ?_
      refine r_nil ?_
      refine r_then ?_
      exact r_meetg () rfl rfl
      | false =>
      refine r_pure tabOk 3 [0, 1, 2, 15] (E' := [(0, ptr b2 0), (1, .one (.int .i64) a1), (2, .one (.int .i64) a2), (15, .one .bool (decide (a2 > 2)))]) rfl ?_
      refine r_nil ?_
      refine r_then ?_
      exact r_meetg () rfl rfl
    refine r_nil ?_
    refine r_then ?_
    refine r_if (b := (b6 || (decide (a2 > 2)))) rfl (fun hc => ?_) (fun hc => ?_)
    · rw [if_pos hc] at h
      refine r_region ?_
      refine r_pure tabOk 1 [0, 1, 2] (E' := [(0, ptr b2 0), (1, .one (.int .i64) 0), (2, .one (.int .i64) a2)]) rfl ?_
      refine r_nil ?_
      refine r_then ?_
      refine r_less [0, 1, 2] rfl ?_
      exact r_meetk 0 () h rfl rfl
    · rw [if_neg (ne_true_of_eq_false hc)] at h
      refine r_skip ?_
      refine r_then ?_
      refine r_less [0, 1, 2] rfl ?_
      exact r_meetk a1 () h rfl rfl
  · intro o4 gg h
    rw [← hk3] at h
    try dsimp only at h
    refine r_region ?_
    refine r_pure tabOk 6 [17, 18, 19, 21] (E' := [(17, ptr b2 0), (18, .one (.int .i64) o4), (19, .one (.int .i64) a2), (21, ptr b2 2)]) rfl ?_
    refine r_store 0 ((.snd (.snd (.fst .here)))) rfl rfl rfl (by first | rfl | (simp only [Pth.off, T.size]; omega)) (ok_snd (ok_snd (ok_fst ok_here))) ty3 ?_
    refine r_pure tabOk 2 [19, 23] (E' := [(19, .one (.int .i64) a2), (23, ptr b2 3)]) rfl ?_
    refine r_store 0 ((.snd (.snd (.snd (.fst .here))))) rfl rfl rfl (by first | rfl | (simp only [Pth.off, T.size]; omega)) (ok_snd (ok_snd (ok_snd (ok_fst ok_here)))) ty3 ?_
    refine r_nil ?_
    refine r_disk (P := Try.prog) (I := dI) (D := (a0.1, a0.2.1, o4, a2, a0.2.2.2.2.1, a0.2.2.2.2.2.1, a0.2.2.2.2.2.2)) ?_
    obtain rfl := Option.some.inj h
    exact r_end0 rfl (fun _ => tup_ok [] .nil) ((.cons_cons _ .slnil))

theorem escrowlaw07_told_ok (p0 : Value) (a0 : DiskS) (a1 : List Int) (r : List Int × Bool × Bool) (h : escrowlaw07_told a0 a1 = some r) : Fn Try.prog 12 [.one (.raw (.pointer none)) p0, .one .str a1] [Res.disk Try.prog dI p0 a0] (fun _ => .tup [⟨.str, r.1⟩, ⟨.bool, r.2.1⟩, ⟨.bool, r.2.2⟩]) (fun _ => [Res.disk Try.prog dI p0 a0]) := by
  unfold escrowlaw07_told at h
  refine enter Try.func12 rfl 24 rfl rfl fun F => ?_
  refine r_seq ?_
  refine r_region ?_
  refine r_pure tabOk 3 [0, 1] (E' := [(0, .one (.raw (.pointer none)) p0), (1, .one .str a1)]) rfl ?_
  refine r_nil ?_
  refine r_then ?_
  refine r_seq ?_
  refine r_region ?_
  refine r_pure tabOk 2 [10, 11] (E' := [(10, .one (.raw (.pointer none)) p0), (11, .one .str a1)]) rfl ?_
  obtain ⟨r1, hr1, h⟩ := bind_ex h
  refine r_call (Lo := []) (check_Load_ok p0 a0 a1 _ hr1) (by kernel_rfl) (List.Perm.refl _) rfl rfl fun _ => ?_
  refine r_pure tabOk 5 [7, 8] (E' := [(7, .one .str r1.1), (8, .one (.int .i64) r1.2)]) rfl ?_
  refine r_nil ?_
  refine r_then ?_
  refine r_seq ?_
  refine r_region ?_
  refine r_pure tabOk 6 [8, 15, 17, 20] (E' := [(8, .one (.int .i64) r1.2), (15, .one .str r1.1), (17, .one .bool (r1.2 == 0)), (20, .one .bool (r1.2 == 0))]) rfl ?_
  obtain ⟨b2, hbb2, h⟩ := bnd_ex h
  rw [hbb2]
  refine r_lsplit (γ := Unit) 3 (fun _ => [(15, .one .str r1.1), (17, .one .bool b2), (23, .one .bool (b2 || (r1.2 == 5)))]) (fun _ => [Res.disk Try.prog dI p0 a0]) ?_ (fun _ => ?_)
  · clear h
    cases b2 with
    | true =>
    refine r_pure tabOk 3 [15, 17, 23] (E' := [(15, .one .str r1.1), (17, .one .bool true), (23, .one .bool true)]) rfl ?_
    refine r_nil ?_
    refine r_then ?_
    exact r_meetg () rfl rfl
    | false =>
    refine r_pure tabOk 3 [15, 17, 23] (E' := [(15, .one .str r1.1), (17, .one .bool false), (23, .one .bool (r1.2 == 5))]) rfl ?_
    refine r_nil ?_
    refine r_then ?_
    exact r_meetg () rfl rfl
  refine r_pure tabOk 3 [4, 5, 6] (E' := [(4, .one .str r1.1), (5, .one .bool b2), (6, .one .bool (b2 || (r1.2 == 5)))]) rfl ?_
  refine r_nil ?_
  refine r_then ?_
  refine r_ret ?_
  obtain rfl := Option.some.inj h
  exact r_rets (rs := [.tmp 4, .tmp 5, .tmp 6]) rfl (.cons (.tmp rfl) (.cons (.tmp rfl) (.cons (.tmp rfl) (.nil)))) rfl (fun _ vs g => tup_ok vs g) (fun _ _ _ => (.cons_cons _ .slnil))

theorem escrowlaw07_CheckKeeps_ok (a0 : List (List Int × Int × Int × Int × (List (List Int × Int × Int × List Int × Unit)) × Bool × Unit)) (a1 : List Int) (r : Bool) (h : escrowlaw07_CheckKeeps a0 a1 = some r) : Pure Try.prog 3 [.one (.sl 31 Y31) a0, .one .str a1] (.one .bool r) := by
  unfold escrowlaw07_CheckKeeps at h
  refine enter Try.func3 rfl 157 rfl rfl fun F => ?_
  refine r_seq ?_
  refine r_region ?_
  refine r_pure tabOk 1 [0, 1] (E' := [(0, .one (.sl 31 Y31) a0), (1, .one .str a1)]) rfl ?_
  refine r_nil ?_
  refine r_then ?_
  refine r_seq ?_
  refine r_region ?_
  obtain ⟨r1, hr1, h⟩ := bind_ex h
  refine r_call (Lo := []) (disk_New_ok 16777216 _ hr1) (by kernel_rfl) (List.Perm.refl _) rfl rfl fun v2 => ?_
  refine r_pure tabOk 5 [0, 1, 5, 6] (E' := [(0, .one (.sl 31 Y31) a0), (1, .one .str a1), (5, .one (.raw (.pointer none)) (tupv v2 0)), (6, .one (.int .i64) r1.1)]) rfl ?_
  refine r_nil ?_
  refine r_then ?_
  refine r_seq ?_
  refine r_seq ?_
  refine r_region ?_
  refine r_pure tabOk 1 [0, 1, 5, 6, 23] (E' := [(0, .one (.sl 31 Y31) a0), (1, .one .str a1), (5, .one (.raw (.pointer none)) (tupv v2 0)), (6, .one (.int .i64) r1.1), (23, .one (.raw (.pointer none)) (tupv v2 0))]) rfl ?_
  refine y (y_dnil 0 rfl rfl Try.underlying23) rfl ?_
  refine r_pure tabOk 1 [0, 1, 5, 6, 25] (E' := [(0, .one (.sl 31 Y31) a0), (1, .one .str a1), (5, .one (.raw (.pointer none)) (tupv v2 0)), (6, .one (.int .i64) r1.1), (25, .one .bool (r1.1 != 0))]) rfl ?_
  obtain ⟨b3, hbb3, h⟩ := bnd_ex h
  rw [hbb3]
  refine r_lsplit (γ := Unit) 3 (fun _ => [(0, .one (.sl 31 Y31) a0), (1, .one .str a1), (5, .one (.raw (.pointer none)) (tupv v2 0)), (28, .one .bool (b3 || (r1.1 != 0)))]) (fun _ => [Res.diskif Try.prog dI (tupv v2 0) r1.2 r1.1]) ?_ (fun _ => ?_)
  · clear h
    cases b3 with
    | true =>
    refine r_pure tabOk 3 [0, 1, 5, 28] (E' := [(0, .one (.sl 31 Y31) a0), (1, .one .str a1), (5, .one (.raw (.pointer none)) (tupv v2 0)), (28, .one .bool true)]) rfl ?_
    refine r_nil ?_
    refine r_then ?_
    exact r_meetg () rfl rfl
    | false =>
    refine r_pure tabOk 3 [0, 1, 5, 28] (E' := [(0, .one (.sl 31 Y31) a0), (1, .one .str a1), (5, .one (.raw (.pointer none)) (tupv v2 0)), (28, .one .bool (r1.1 != 0))]) rfl ?_
    refine r_nil ?_
    refine r_then ?_
    exact r_meetg () rfl rfl
  refine r_pure tabOk 1 [0, 1, 5, 29] (E' := [(0, .one (.sl 31 Y31) a0), (1, .one .str a1), (5, .one (.raw (.pointer none)) (tupv v2 0)), (29, .one .bool (b3 || (r1.1 != 0)))]) rfl ?_
  obtain ⟨b4, hbb4, h⟩ := bnd_ex h
  rw [hbb4]
  obtain ⟨k5, hk5, h⟩ := bnd_ex h
  refine r_lsplitk (γ := Unit) 3 (fun (o6 : Bool) _ => [(0, .one (.sl 31 Y31) a0), (1, .one .str a1), (5, .one (.raw (.pointer none)) (tupv v2 0)), (32, .one .bool o6)]) (fun _ _ => [Res.diskif Try.prog dI (tupv v2 0) r1.2 r1.1]) k5 r ?_ ?_
  · rcases Bool.eq_false_or_eq_true b4 with hh | hh
    · rw [hh] at h ⊢
      rw [if_pos rfl] at h
      refine r_pure tabOk 3 [0, 1, 5, 32] (E' := [(0, .one (.sl 31 Y31) a0), (1, .one .str a1), (5, .one (.raw (.pointer none)) (tupv v2 0)), (32, .one .bool true)]) rfl ?_
      refine r_nil ?_
      refine r_less [0, 1, 5, 32] rfl ?_
      refine r_then ?_
      exact r_meetk true () h rfl rfl
    · rw [hh] at h ⊢
      rw [if_neg (by decide)] at h
      refine r_guard (by rfl) rfl ?_
      obtain ⟨r7, hr7, h⟩ := bind_ex h
      refine r_calls (escrowlaw07_first_ok  _ hr7) (by kernel_rfl) rfl rfl ?_
      refine r_pure tabOk 2 [0, 1, 5, 32] (E' := [(0, .one (.sl 31 Y31) a0), (1, .one .str a1), (5, .one (.raw (.pointer none)) (tupv v2 0)), (32, .one .bool (!r7))]) rfl ?_
      refine r_nil ?_
      refine r_less [0, 1, 5, 32] rfl ?_
      refine r_then ?_
      exact r_meetk (!r7) () h rfl rfl
  · intro o6 _ h
    rw [← hk5] at h
    try dsimp only at h
    refine r_nil ?_
    refine r_then ?_
    refine r_if (b := o6) rfl (fun hc => ?_) (fun hc => ?_)
    · rw [if_pos hc] at h
      refine r_seq ?_
      refine r_region ?_
      refine r_pure tabOk 1 [4] (E' := [(4, .one .bool false)]) rfl ?_
      refine r_nil ?_
      refine r_then ?_
      refine r_ret ?_
      refine t_then ?_
      obtain rfl := Option.some.inj h
      exact r_ret1 rfl (.tmp rfl) (fun _ _ g => g) (fun _ _ _ => List.nil_sublist _)
    · rw [if_neg (ne_true_of_eq_false hc)] at h
      refine r_skip ?_
      refine r_then ?_
      refine r_seq ?_
      refine r_region ?_
      refine r_pure tabOk 2 [0, 1, 5, 7, 8] (E' := [(0, .one (.sl 31 Y31) a0), (1, .one .str a1), (5, .one (.raw (.pointer none)) (tupv v2 0)), (7, .one .str []), (8, .one .bool false)]) rfl ?_
      refine r_nil ?_
      refine r_then ?_
      refine r_seq ?_
      refine r_seq ?_
      refine r_region ?_
      refine r_pure tabOk 2 [0, 1, 5, 7, 8, 33, 34] (E' := [(0, .one (.sl 31 Y31) a0), (1, .one .str a1), (5, .one (.raw (.pointer none)) (tupv v2 0)), (7, .one .str []), (8, .one .bool false), (33, .one (.raw (.pointer none)) (tupv v2 0)), (34, .one .str a1)]) rfl ?_
      obtain ⟨hc, h⟩ := ite_ex h
      refine r_imp_at (R' := Res.disk Try.prog dI (tupv v2 0) r1.2) 0 rfl (diskif_disk hc) ?_
      obtain ⟨r8, hr8, h⟩ := bind_ex h
      refine r_call (Lo := []) (check_Save_ok (tupv v2 0) r1.2 [98, 101, 115, 105, 100, 101] a1 _ hr8) (by kernel_rfl) (List.Perm.refl _) rfl rfl fun _ => ?_
      refine r_pure tabOk 2 [0, 1, 5, 7, 8, 37] (E' := [(0, .one (.sl 31 Y31) a0), (1, .one .str a1), (5, .one (.raw (.pointer none)) (tupv v2 0)), (7, .one .str []), (8, .one .bool false), (37, .one .bool (r8.1 != 0))]) rfl ?_
      obtain ⟨b9, hbb9, h⟩ := bnd_ex h
      rw [hbb9]
      refine r_lsplit (γ := Unit) 4 (fun _ => [(0, .one (.sl 31 Y31) a0), (1, .one .str a1), (5, .one (.raw (.pointer none)) (tupv v2 0)), (7, .one .str []), (8, .one .bool false), (41, .one .bool (b9 && (decide ((List.length a1 : Int) ≤ 1048448))))]) (fun _ => [Res.disk Try.prog dI (tupv v2 0) r8.2]) ?_ (fun _ => ?_)
      · clear h
        cases b9 with
        | true =>
        refine r_pure tabOk 4 [0, 1, 5, 7, 8, 41] (E' := [(0, .one (.sl 31 Y31) a0), (1, .one .str a1), (5, .one (.raw (.pointer none)) (tupv v2 0)), (7, .one .str []), (8, .one .bool false), (41, .one .bool (decide ((List.length a1 : Int) ≤ 1048448)))]) rfl ?_
        refine r_nil ?_
        refine r_then ?_
        exact r_meetg () rfl rfl
        | false =>
        refine r_pure tabOk 4 [0, 1, 5, 7, 8, 41] (E' := [(0, .one (.sl 31 Y31) a0), (1, .one .str a1), (5, .one (.raw (.pointer none)) (tupv v2 0)), (7, .one .str []), (8, .one .bool false), (41, .one .bool false)]) rfl ?_
        refine r_nil ?_
        refine r_then ?_
        exact r_meetg () rfl rfl
      refine r_nil ?_
      refine r_then ?_
      refine r_if (b := (b9 && (decide ((List.length a1 : Int) ≤ 1048448)))) rfl (fun hc => ?_) (fun hc => ?_)
      · rw [if_pos hc] at h
        refine r_seq ?_
        refine r_region ?_
        refine r_pure tabOk 1 [4] (E' := [(4, .one .bool false)]) rfl ?_
        refine r_nil ?_
        refine r_then ?_
        refine r_ret ?_
        refine t_then ?_
        obtain rfl := Option.some.inj h
        exact r_ret1 rfl (.tmp rfl) (fun _ _ g => g) (fun _ _ _ => List.nil_sublist _)
      · rw [if_neg (ne_true_of_eq_false hc)] at h
        refine r_skip ?_
        refine r_then ?_
        obtain ⟨k10, hk10, h⟩ := bnd_ex h
        refine r_joink (γ := Unit) (fun (o11 : DiskS) _ => [(1, .one .str a1), (5, .one (.raw (.pointer none)) (tupv v2 0))]) (fun (o11 : DiskS) _ => [Res.disk Try.prog dI (tupv v2 0) o11]) k10 r ?_ ?_
        · refine r_seq ?_
          refine r_region ?_
          refine r_pure tabOk 1 [0, 1, 5, 7, 8, 9] (E' := [(0, .one (.sl 31 Y31) a0), (1, .one .str a1), (5, .one (.raw (.pointer none)) (tupv v2 0)), (7, .one .str []), (8, .one .bool false), (9, .one (.int .i64) 0)]) rfl ?_
          refine r_nil ?_
          refine r_then ?_
          refine r_block ?_
          refine r_less [0, 1, 5, 7, 8, 9] rfl ?_
          refine r_loopg (γ := Unit) (fun (s20 : List Int × Bool × Int × DiskS) _ => [(0, .one (.sl 31 Y31) a0), (1, .one .str a1), (5, .one (.raw (.pointer none)) (tupv v2 0)), (7, .one .str s20.1), (8, .one .bool s20.2.1), (9, .one (.int .i64) s20.2.2.1)]) (fun (s20 : List Int × Bool × Int × DiskS) _ => [Res.disk Try.prog dI (tupv v2 0) s20.2.2.2]) (escrowlaw07_CheckKeeps_l0 a0 k10) ([], false, 0, r8.2) () h rfl rfl ?_
          clear h
          intro m21 s20 gg h
          cases m21 with
          | zero => cases h
          | succ m21 =>
          simp only [escrowlaw07_CheckKeeps_l0] at h
          refine r_seq ?_
          refine r_seq ?_
          refine r_region ?_
          refine r_pure tabOk 4 [0, 1, 5, 7, 8, 9, 45] (E' := [(0, .one (.sl 31 Y31) a0), (1, .one .str a1), (5, .one (.raw (.pointer none)) (tupv v2 0)), (7, .one .str s20.1), (8, .one .bool s20.2.1), (9, .one (.int .i64) s20.2.2.1), (45, .one .bool (decide (s20.2.2.1 < (List.length a0 : Int))))]) rfl ?_
          refine r_nil ?_
          refine r_then ?_
          refine r_if (b := (decide (s20.2.2.1 < (List.length a0 : Int)))) rfl (fun hc => ?_) (fun hc => ?_)
          · rw [if_pos hc] at h
            refine r_skip ?_
            refine r_then ?_
            refine r_seq ?_
            refine r_block ?_
            refine r_seq ?_
            refine r_region ?_
            refine r_pure tabOk 2 [0, 1, 5, 7, 8, 9, 48, 49] (E' := [(0, .one (.sl 31 Y31) a0), (1, .one .str a1), (5, .one (.raw (.pointer none)) (tupv v2 0)), (7, .one .str s20.1), (8, .one .bool s20.2.1), (9, .one (.int .i64) s20.2.2.1), (48, .one (.sl 31 Y31) a0), (49, .one (.int .i64) s20.2.2.1)]) rfl ?_
            obtain ⟨hc, h⟩ := ite_ex h
            refine y (y_iref tabOk rfl rfl hc.1 hc.2 rfl ty31) rfl ?_
            refine y (y_ref rfl ty31) rfl ?_
            refine r_alloc (t := Y31) rfl zf31 rfl fun b22 => ?_
            refine r_store 0 .here rfl rfl rfl (by first | rfl | (simp only [Pth.off, T.size]; omega)) ok_here ty31 ?_
            refine r_nil ?_
            refine r_then ?_
            refine r_seq ?_
            refine r_region ?_
            refine r_pure tabOk 2 [0, 1, 5, 7, 8, 9, 10, 52, 53] (E' := [(0, .one (.sl 31 Y31) a0), (1, .one .str a1), (5, .one (.raw (.pointer none)) (tupv v2 0)), (7, .one .str s20.1), (8, .one .bool s20.2.1), (9, .one (.int .i64) s20.2.2.1), (10, ptr b22 0), (52, .one (.raw (.pointer none)) (tupv v2 0)), (53, ptr b22 1)]) rfl ?_
            refine y (y_load 0 ((.snd (.fst .here))) rfl rfl (by first | rfl | (simp only [Pth.off, T.size]; omega)) (ok_snd (ok_fst ok_here)) ty3) rfl ?_
            refine r_pure tabOk 1 [0, 1, 5, 7, 8, 9, 10, 52, 54, 55] (E' := [(0, .one (.sl 31 Y31) a0), (1, .one .str a1), (5, .one (.raw (.pointer none)) (tupv v2 0)), (7, .one .str s20.1), (8, .one .bool s20.2.1), (9, .one (.int .i64) s20.2.2.1), (10, ptr b22 0), (52, .one (.raw (.pointer none)) (tupv v2 0)), (54, .one (.int .i64) ((List.getD a0 (Int.toNat s20.2.2.1) ([], 0, 0, 0, [], false, ())).2.1)), (55, ptr b22 2)]) rfl ?_
            refine y (y_load 0 ((.snd (.snd (.fst .here)))) rfl rfl (by first | rfl | (simp only [Pth.off, T.size]; omega)) (ok_snd (ok_snd (ok_fst ok_here))) ty3) rfl ?_
            obtain ⟨r23, hr23, h⟩ := bind_ex h
            refine r_call (Lo := [Res.var b22 31 Y31 (List.getD a0 (Int.toNat s20.2.2.1) ([], 0, 0, 0, [], false, ()))]) (disk_Disk_Arm_ok (tupv v2 0) s20.2.2.2 ((List.getD a0 (Int.toNat s20.2.2.1) ([], 0, 0, 0, [], false, ())).2.1) ((List.getD a0 (Int.toNat s20.2.2.1) ([], 0, 0, 0, [], false, ())).2.2.1) _ hr23) (by kernel_rfl) ((List.perm_middle (a := Res.disk Try.prog dI (tupv v2 0) s20.2.2.2) (l₁ := [Res.var b22 31 Y31 (List.getD a0 (Int.toNat s20.2.2.1) ([], 0, 0, 0, [], false, ()))]) (l₂ := [])).trans (.cons _ (List.Perm.refl _))) rfl rfl fun _ => ?_
            refine r_nil ?_
            refine r_then ?_
            refine r_seq ?_
            refine r_region ?_
            refine r_pure tabOk 2 [0, 1, 5, 7, 8, 9, 10, 58, 59] (E' := [(0, .one (.sl 31 Y31) a0), (1, .one .str a1), (5, .one (.raw (.pointer none)) (tupv v2 0)), (7, .one .str s20.1), (8, .one .bool s20.2.1), (9, .one (.int .i64) s20.2.2.1), (10, ptr b22 0), (58, .one (.raw (.pointer none)) (tupv v2 0)), (59, ptr b22 3)]) rfl ?_
            refine y (y_load 1 ((.snd (.snd (.snd (.fst .here))))) rfl rfl (by first | rfl | (simp only [Pth.off, T.size]; omega)) (ok_snd (ok_snd (ok_snd (ok_fst ok_here)))) ty3) rfl ?_
            obtain ⟨r24, hr24, h⟩ := bind_ex h
            refine r_call (Lo := [Res.var b22 31 Y31 (List.getD a0 (Int.toNat s20.2.2.1) ([], 0, 0, 0, [], false, ()))]) (disk_Disk_Fall_ok (tupv v2 0) r23 ((List.getD a0 (Int.toNat s20.2.2.1) ([], 0, 0, 0, [], false, ())).2.2.2.1) _ hr24) (by kernel_rfl) (List.Perm.refl _) rfl rfl fun _ => ?_
            refine r_nil ?_
            refine r_then ?_
            refine r_seq ?_
            refine r_region ?_
            refine r_pure tabOk 2 [0, 1, 5, 7, 8, 9, 10, 62, 63] (E' := [(0, .one (.sl 31 Y31) a0), (1, .one .str a1), (5, .one (.raw (.pointer none)) (tupv v2 0)), (7, .one .str s20.1), (8, .one .bool s20.2.1), (9, .one (.int .i64) s20.2.2.1), (10, ptr b22 0), (62, .one (.raw (.pointer none)) (tupv v2 0)), (63, ptr b22 0)]) rfl ?_
            refine y (y_load 1 ((.fst .here)) rfl rfl (by first | rfl | (simp only [Pth.off, T.size]; omega)) (ok_fst ok_here) ty9) rfl ?_
            obtain ⟨r25, hr25, h⟩ := bind_ex h
            refine r_call (Lo := [Res.var b22 31 Y31 (List.getD a0 (Int.toNat s20.2.2.1) ([], 0, 0, 0, [], false, ()))]) (check_Save_ok (tupv v2 0) r24 [110, 97, 109, 101] ((List.getD a0 (Int.toNat s20.2.2.1) ([], 0, 0, 0, [], false, ())).1) _ hr25) (by kernel_rfl) (List.Perm.refl _) rfl rfl fun _ => ?_
            refine r_pure tabOk 1 [0, 1, 5, 7, 8, 9, 10, 11] (E' := [(0, .one (.sl 31 Y31) a0), (1, .one .str a1), (5, .one (.raw (.pointer none)) (tupv v2 0)), (7, .one .str s20.1), (8, .one .bool s20.2.1), (9, .one (.int .i64) s20.2.2.1), (10, ptr b22 0), (11, .one (.int .i64) r25.1)]) rfl ?_
            refine r_nil ?_
            refine r_then ?_
            refine r_seq ?_
            refine r_region ?_
            refine r_pure tabOk 3 [0, 1, 5, 7, 8, 9, 10, 11, 12] (E' := [(0, .one (.sl 31 Y31) a0), (1, .one .str a1), (5, .one (.raw (.pointer none)) (tupv v2 0)), (7, .one .str s20.1), (8, .one .bool s20.2.1), (9, .one (.int .i64) s20.2.2.1), (10, ptr b22 0), (11, .one (.int .i64) r25.1), (12, .one .bool (r25.1 == 9))]) rfl ?_
            obtain ⟨maybe26, hmaybe26, h⟩ := bnd_ex h
            rw [hmaybe26]
            refine r_nil ?_
            refine r_then ?_
            obtain ⟨k27, hk27, h⟩ := bnd_ex h
            refine r_joink (γ := Unit) (fun (o28 : List Int × Bool) _ => [(0, .one (.sl 31 Y31) a0), (1, .one .str a1), (5, .one (.raw (.pointer none)) (tupv v2 0)), (7, .one .str o28.1), (8, .one .bool o28.2), (9, .one (.int .i64) s20.2.2.1), (10, ptr b22 0), (12, .one .bool maybe26)]) (fun (o28 : List Int × Bool) _ => [Res.disk Try.prog dI (tupv v2 0) r25.2, Res.var b22 31 Y31 (List.getD a0 (Int.toNat s20.2.2.1) ([], 0, 0, 0, [], false, ()))]) k27 r ?_ ?_
            · refine r_seq ?_
              refine r_region ?_
              refine r_pure tabOk 2 [0, 1, 5, 7, 8, 9, 10, 12, 69] (E' := [(0, .one (.sl 31 Y31) a0), (1, .one .str a1), (5, .one (.raw (.pointer none)) (tupv v2 0)), (7, .one .str s20.1), (8, .one .bool s20.2.1), (9, .one (.int .i64) s20.2.2.1), (10, ptr b22 0), (12, .one .bool maybe26), (69, .one .bool (r25.1 == 0))]) rfl ?_
              refine r_nil ?_
              refine r_then ?_
              refine r_if (b := (r25.1 == 0)) rfl (fun hc => ?_) (fun hc => ?_)
              · rw [if_pos hc] at h
                refine r_region ?_
                refine r_pure tabOk 1 [0, 1, 5, 9, 10, 12, 70] (E' := [(0, .one (.sl 31 Y31) a0), (1, .one .str a1), (5, .one (.raw (.pointer none)) (tupv v2 0)), (9, .one (.int .i64) s20.2.2.1), (10, ptr b22 0), (12, .one .bool maybe26), (70, ptr b22 0)]) rfl ?_
                refine y (y_load 1 ((.fst .here)) rfl rfl (by first | rfl | (simp only [Pth.off, T.size]; omega)) (ok_fst ok_here) ty9) rfl ?_
                refine r_pure tabOk 1 [0, 1, 5, 7, 9, 10, 12] (E' := [(0, .one (.sl 31 Y31) a0), (1, .one .str a1), (5, .one (.raw (.pointer none)) (tupv v2 0)), (7, .one .str ((List.getD a0 (Int.toNat s20.2.2.1) ([], 0, 0, 0, [], false, ())).1)), (9, .one (.int .i64) s20.2.2.1), (10, ptr b22 0), (12, .one .bool maybe26)]) rfl ?_
                obtain ⟨have54, hhave54, h⟩ := bnd_ex h
                rw [hhave54]
                refine r_pure tabOk 1 [0, 1, 5, 7, 8, 9, 10, 12] (E' := [(0, .one (.sl 31 Y31) a0), (1, .one .str a1), (5, .one (.raw (.pointer none)) (tupv v2 0)), (7, .one .str have54), (8, .one .bool true), (9, .one (.int .i64) s20.2.2.1), (10, ptr b22 0), (12, .one .bool maybe26)]) rfl ?_
                refine r_nil ?_
                refine r_then ?_
                refine r_less [0, 1, 5, 7, 8, 9, 10, 12] rfl ?_
                exact r_meetk (have54, true) () h rfl rfl
              · rw [if_neg (ne_true_of_eq_false hc)] at h
                refine r_skip ?_
                refine r_then ?_
                refine r_less [0, 1, 5, 7, 8, 9, 10, 12] rfl ?_
                exact r_meetk (s20.1, s20.2.1) () h rfl rfl
            · intro o28 gg h
              rw [← hk27] at h
              try dsimp only at h
              obtain ⟨k29, hk29, h⟩ := bnd_ex h
              refine r_joink (γ := Unit) (fun (o30 : DiskS) _ => [(0, .one (.sl 31 Y31) a0), (1, .one .str a1), (5, .one (.raw (.pointer none)) (tupv v2 0)), (7, .one .str o28.1), (8, .one .bool o28.2), (9, .one (.int .i64) s20.2.2.1), (10, ptr b22 0), (12, .one .bool maybe26)]) (fun (o30 : DiskS) _ => [Res.disk Try.prog dI (tupv v2 0) o30, Res.var b22 31 Y31 (List.getD a0 (Int.toNat s20.2.2.1) ([], 0, 0, 0, [], false, ()))]) k29 r ?_ ?_
              · refine r_seq ?_
                refine r_region ?_
                refine r_pure tabOk 2 [0, 1, 5, 7, 8, 9, 10, 12, 73] (E' := [(0, .one (.sl 31 Y31) a0), (1, .one .str a1), (5, .one (.raw (.pointer none)) (tupv v2 0)), (7, .one .str o28.1), (8, .one .bool o28.2), (9, .one (.int .i64) s20.2.2.1), (10, ptr b22 0), (12, .one .bool maybe26), (73, .one .bool maybe26)]) rfl ?_
                refine r_lsplit (γ := Unit) 3 (fun _ => [(0, .one (.sl 31 Y31) a0), (1, .one .str a1), (5, .one (.raw (.pointer none)) (tupv v2 0)), (7, .one .str o28.1), (8, .one .bool o28.2), (9, .one (.int .i64) s20.2.2.1), (10, ptr b22 0), (12, .one .bool maybe26), (76, .one .bool (maybe26 || (List.getD a0 (Int.toNat s20.2.2.1) ([], 0, 0, 0, [], false, ())).2.2.2.2.2.1))]) (fun _ => [Res.disk Try.prog dI (tupv v2 0) r25.2, Res.var b22 31 Y31 (List.getD a0 (Int.toNat s20.2.2.1) ([], 0, 0, 0, [], false, ()))]) ?_ (fun _ => ?_)
                · clear h
                  rcases Bool.eq_false_or_eq_true maybe26 with hh | hh
                  · rw [hh]
                    refine r_pure tabOk 3 [0, 1, 5, 7, 8, 9, 10, 12, 76] (E' := [(0, .one (.sl 31 Y31) a0), (1, .one .str a1), (5, .one (.raw (.pointer none)) (tupv v2 0)), (7, .one .str o28.1), (8, .one .bool o28.2), (9, .one (.int .i64) s20.2.2.1), (10, ptr b22 0), (12, .one .bool true), (76, .one .bool true)]) rfl ?_
                    refine r_nil ?_
                    refine r_then ?_
                    exact r_meetg () rfl rfl
                  · rw [hh]
                    refine r_pure tabOk 1 [0, 1, 5, 7, 8, 9, 10, 12, 73, 74] (E' := [(0, .one (.sl 31 Y31) a0), (1, .one .str a1), (5, .one (.raw (.pointer none)) (tupv v2 0)), (7, .one .str o28.1), (8, .one .bool o28.2), (9, .one (.int .i64) s20.2.2.1), (10, ptr b22 0), (12, .one .bool false), (73, .one .bool false), (74, ptr b22 5)]) rfl ?_
                    refine r_guard (by rfl) rfl ?_
                    refine y (y_load 1 ((.snd (.snd (.snd (.snd (.snd (.fst .here))))))) rfl rfl (by first | rfl | (simp only [Pth.off, T.size]; omega)) (ok_snd (ok_snd (ok_snd (ok_snd (ok_snd (ok_fst ok_here)))))) ty4) rfl ?_
                    refine r_pure tabOk 1 [0, 1, 5, 7, 8, 9, 10, 12, 76] (E' := [(0, .one (.sl 31 Y31) a0), (1, .one .str a1), (5, .one (.raw (.pointer none)) (tupv v2 0)), (7, .one .str o28.1), (8, .one .bool o28.2), (9, .one (.int .i64) s20.2.2.1), (10, ptr b22 0), (12, .one .bool false), (76, .one .bool ((List.getD a0 (Int.toNat s20.2.2.1) ([], 0, 0, 0, [], false, ())).2.2.2.2.2.1))]) rfl ?_
                    refine r_nil ?_
                    refine r_then ?_
                    exact r_meetg () rfl rfl
                refine r_nil ?_
                refine r_then ?_
                refine r_if (b := (maybe26 || (List.getD a0 (Int.toNat s20.2.2.1) ([], 0, 0, 0, [], false, ())).2.2.2.2.2.1)) rfl (fun hc => ?_) (fun hc => ?_)
                · rw [if_pos hc] at h
                  refine r_seq ?_
                  refine r_region ?_
                  refine r_pure tabOk 2 [0, 1, 5, 7, 8, 9, 10, 12, 77, 78] (E' := [(0, .one (.sl 31 Y31) a0), (1, .one .str a1), (5, .one (.raw (.pointer none)) (tupv v2 0)), (7, .one .str o28.1), (8, .one .bool o28.2), (9, .one (.int .i64) s20.2.2.1), (10, ptr b22 0), (12, .one .bool maybe26), (77, .one (.raw (.pointer none)) (tupv v2 0)), (78, ptr b22 4)]) rfl ?_
                  refine y (y_load 1 ((.snd (.snd (.snd (.snd (.fst .here)))))) rfl rfl (by first | rfl | (simp only [Pth.off, T.size]; omega)) (ok_snd (ok_snd (ok_snd (ok_snd (ok_fst ok_here))))) ty29) rfl ?_
                  refine r_nilown (.slice none 0 0) rfl 83 Y83 ?_
                  obtain ⟨hc, h⟩ := ite_ex h
                  refine r_append (B := 48) tabOk 0 rfl rfl (src_sl rfl) rfl el83 rfl rfl hc rfl fun v51 => ?_
                  refine r_freeze (i := 0) (k := 80) rfl rfl ?_
                  obtain ⟨r52, hr52, h⟩ := bind_ex h
                  refine r_call (Lo := [Res.var b22 31 Y31 (List.getD a0 (Int.toNat s20.2.2.1) ([], 0, 0, 0, [], false, ()))]) (disk_Disk_Crash_ok (tupv v2 0) r25.2 ([] ++ ((List.getD a0 (Int.toNat s20.2.2.1) ([], 0, 0, 0, [], false, ())).2.2.2.2.1)) _ hr52) (by kernel_rfl) (List.Perm.refl _) rfl rfl fun _ => ?_
                  refine r_nil ?_
                  refine r_then ?_
                  refine r_region ?_
                  refine r_pure tabOk 1 [0, 1, 5, 7, 8, 9, 10, 12, 82] (E' := [(0, .one (.sl 31 Y31) a0), (1, .one .str a1), (5, .one (.raw (.pointer none)) (tupv v2 0)), (7, .one .str o28.1), (8, .one .bool o28.2), (9, .one (.int .i64) s20.2.2.1), (10, ptr b22 0), (12, .one .bool maybe26), (82, .one (.raw (.pointer none)) (tupv v2 0))]) rfl ?_
                  obtain ⟨r53, hr53, h⟩ := bind_ex h
                  refine r_call (Lo := [Res.var b22 31 Y31 (List.getD a0 (Int.toNat s20.2.2.1) ([], 0, 0, 0, [], false, ()))]) (disk_Disk_On_ok (tupv v2 0) r52 _ hr53) (by kernel_rfl) (List.Perm.refl _) rfl rfl fun _ => ?_
                  refine r_nil ?_
                  refine r_then ?_
                  refine r_less [0, 1, 5, 7, 8, 9, 10, 12] rfl ?_
                  exact r_meetk r53 () h rfl rfl
                · rw [if_neg (ne_true_of_eq_false hc)] at h
                  refine r_skip ?_
                  refine r_then ?_
                  refine r_less [0, 1, 5, 7, 8, 9, 10, 12] rfl ?_
                  exact r_meetk r25.2 () h rfl rfl
              · intro o30 gg h
                rw [← hk29] at h
                try dsimp only at h
                refine r_seq ?_
                refine r_region ?_
                refine r_pure tabOk 1 [0, 1, 5, 7, 8, 9, 10, 12, 84] (E' := [(0, .one (.sl 31 Y31) a0), (1, .one .str a1), (5, .one (.raw (.pointer none)) (tupv v2 0)), (7, .one .str o28.1), (8, .one .bool o28.2), (9, .one (.int .i64) s20.2.2.1), (10, ptr b22 0), (12, .one .bool maybe26), (84, .one (.raw (.pointer none)) (tupv v2 0))]) rfl ?_
                obtain ⟨r31, hr31, h⟩ := bind_ex h
                refine r_call (Lo := [Res.var b22 31 Y31 (List.getD a0 (Int.toNat s20.2.2.1) ([], 0, 0, 0, [], false, ()))]) (disk_Disk_Fall_ok (tupv v2 0) o30 0 _ hr31) (by kernel_rfl) (List.Perm.refl _) rfl rfl fun _ => ?_
                refine r_nil ?_
                refine r_then ?_
                refine r_seq ?_
                refine r_region ?_
                refine r_pure tabOk 1 [0, 1, 5, 7, 8, 9, 10, 12, 86] (E' := [(0, .one (.sl 31 Y31) a0), (1, .one .str a1), (5, .one (.raw (.pointer none)) (tupv v2 0)), (7, .one .str o28.1), (8, .one .bool o28.2), (9, .one (.int .i64) s20.2.2.1), (10, ptr b22 0), (12, .one .bool maybe26), (86, .one (.raw (.pointer none)) (tupv v2 0))]) rfl ?_
                obtain ⟨r32, hr32, h⟩ := bind_ex h
                refine r_call (Lo := [Res.var b22 31 Y31 (List.getD a0 (Int.toNat s20.2.2.1) ([], 0, 0, 0, [], false, ()))]) (disk_Disk_Arm_ok (tupv v2 0) r31 0 0 _ hr32) (by kernel_rfl) (List.Perm.refl _) rfl rfl fun _ => ?_
                refine r_nil ?_
                refine r_then ?_
                refine r_seq ?_
                refine r_region ?_
                refine r_pure tabOk 1 [0, 1, 5, 7, 8, 9, 10, 12, 89] (E' := [(0, .one (.sl 31 Y31) a0), (1, .one .str a1), (5, .one (.raw (.pointer none)) (tupv v2 0)), (7, .one .str o28.1), (8, .one .bool o28.2), (9, .one (.int .i64) s20.2.2.1), (10, ptr b22 0), (12, .one .bool maybe26), (89, .one (.raw (.pointer none)) (tupv v2 0))]) rfl ?_
                obtain ⟨r33, hr33, h⟩ := bind_ex h
                refine r_call (Lo := [Res.var b22 31 Y31 (List.getD a0 (Int.toNat s20.2.2.1) ([], 0, 0, 0, [], false, ()))]) (escrowlaw07_told_ok (tupv v2 0) r32 [110, 97, 109, 101] _ hr33) (by kernel_rfl) (List.Perm.refl _) rfl rfl fun _ => ?_
                refine r_pure tabOk 7 [0, 1, 5, 7, 8, 9, 10, 12, 13, 14, 15] (E' := [(0, .one (.sl 31 Y31) a0), (1, .one .str a1), (5, .one (.raw (.pointer none)) (tupv v2 0)), (7, .one .str o28.1), (8, .one .bool o28.2), (9, .one (.int .i64) s20.2.2.1), (10, ptr b22 0), (12, .one .bool maybe26), (13, .one .str r33.1), (14, .one .bool r33.2.1), (15, .one .bool r33.2.2)]) rfl ?_
                refine r_nil ?_
                refine r_then ?_
                refine r_seq ?_
                refine r_seq ?_
                refine r_region ?_
                refine r_pure tabOk 3 [0, 1, 5, 7, 8, 9, 10, 12, 13, 14, 96] (E' := [(0, .one (.sl 31 Y31) a0), (1, .one .str a1), (5, .one (.raw (.pointer none)) (tupv v2 0)), (7, .one .str o28.1), (8, .one .bool o28.2), (9, .one (.int .i64) s20.2.2.1), (10, ptr b22 0), (12, .one .bool maybe26), (13, .one .str r33.1), (14, .one .bool r33.2.1), (96, .one .bool (!r33.2.2))]) rfl ?_
                obtain ⟨b34, hbb34, h⟩ := bnd_ex h
                rw [hbb34]
                obtain ⟨k35, hk35, h⟩ := bnd_ex h
                refine r_lsplitk (γ := Unit) 13 (fun (o36 : Bool) _ => [(0, .one (.sl 31 Y31) a0), (1, .one .str a1), (5, .one (.raw (.pointer none)) (tupv v2 0)), (7, .one .str o28.1), (8, .one .bool o28.2), (9, .one (.int .i64) s20.2.2.1), (10, ptr b22 0), (12, .one .bool maybe26), (13, .one .str r33.1), (14, .one .bool r33.2.1), (109, .one .bool o36)]) (fun _ _ => [Res.disk Try.prog dI (tupv v2 0) r32, Res.var b22 31 Y31 (List.getD a0 (Int.toNat s20.2.2.1) ([], 0, 0, 0, [], false, ()))]) k35 r ?_ ?_
                · rcases Bool.eq_false_or_eq_true b34 with hh | hh
                  · rw [hh] at h ⊢
                    rw [if_pos rfl] at h
                    refine r_pure tabOk 13 [0, 1, 5, 7, 8, 9, 10, 12, 13, 14, 109] (E' := [(0, .one (.sl 31 Y31) a0), (1, .one .str a1), (5, .one (.raw (.pointer none)) (tupv v2 0)), (7, .one .str o28.1), (8, .one .bool o28.2), (9, .one (.int .i64) s20.2.2.1), (10, ptr b22 0), (12, .one .bool maybe26), (13, .one .str r33.1), (14, .one .bool r33.2.1), (109, .one .bool true)]) rfl ?_
                    refine r_nil ?_
                    refine r_less [0, 1, 5, 7, 8, 9, 10, 12, 13, 14, 109] rfl ?_
                    refine r_then ?_
                    exact r_meetk true () h rfl rfl
                  · rw [hh] at h ⊢
                    rw [if_neg (by decide)] at h
                    refine r_pure tabOk 3 [0, 1, 5, 7, 8, 9, 10, 12, 13, 14, 96, 99] (E' := [(0, .one (.sl 31 Y31) a0), (1, .one .str a1), (5, .one (.raw (.pointer none)) (tupv v2 0)), (7, .one .str o28.1), (8, .one .bool o28.2), (9, .one (.int .i64) s20.2.2.1), (10, ptr b22 0), (12, .one .bool maybe26), (13, .one .str r33.1), (14, .one .bool r33.2.1), (96, .one .bool false), (99, .one .bool (!maybe26))]) rfl ?_
                    obtain ⟨b37, hbb37, h⟩ := bnd_ex h
                    rw [hbb37]
                    obtain ⟨k38, hk38, h⟩ := bnd_ex h
                    refine r_lsplitk (γ := Unit) 9 (fun (o39 : Bool) _ => [(0, .one (.sl 31 Y31) a0), (1, .one .str a1), (5, .one (.raw (.pointer none)) (tupv v2 0)), (7, .one .str o28.1), (8, .one .bool o28.2), (9, .one (.int .i64) s20.2.2.1), (10, ptr b22 0), (12, .one .bool maybe26), (13, .one .str r33.1), (14, .one .bool r33.2.1), (96, .one .bool false), (108, .one .bool o39)]) (fun _ _ => [Res.disk Try.prog dI (tupv v2 0) r32, Res.var b22 31 Y31 (List.getD a0 (Int.toNat s20.2.2.1) ([], 0, 0, 0, [], false, ()))]) k38 r ?_ ?_
                    · rcases Bool.eq_false_or_eq_true b37 with hh | hh
                      · rw [hh] at h ⊢
                        rw [if_pos rfl] at h
                        refine r_pure tabOk 4 [0, 1, 5, 7, 8, 9, 10, 12, 13, 14, 96, 99, 103] (E' := [(0, .one (.sl 31 Y31) a0), (1, .one .str a1), (5, .one (.raw (.pointer none)) (tupv v2 0)), (7, .one .str o28.1), (8, .one .bool o28.2), (9, .one (.int .i64) s20.2.2.1), (10, ptr b22 0), (12, .one .bool maybe26), (13, .one .str r33.1), (14, .one .bool r33.2.1), (96, .one .bool false), (99, .one .bool true), (103, .one .bool (r33.1 != o28.1))]) rfl ?_
                        obtain ⟨b40, hbb40, h⟩ := bnd_ex h
                        rw [hbb40]
                        refine r_lsplit (γ := Unit) 4 (fun _ => [(0, .one (.sl 31 Y31) a0), (1, .one .str a1), (5, .one (.raw (.pointer none)) (tupv v2 0)), (7, .one .str o28.1), (8, .one .bool o28.2), (9, .one (.int .i64) s20.2.2.1), (10, ptr b22 0), (12, .one .bool maybe26), (13, .one .str r33.1), (14, .one .bool r33.2.1), (96, .one .bool false), (99, .one .bool true), (107, .one .bool (b40 || (r33.2.1 != o28.2)))]) (fun _ => [Res.disk Try.prog dI (tupv v2 0) r32, Res.var b22 31 Y31 (List.getD a0 (Int.toNat s20.2.2.1) ([], 0, 0, 0, [], false, ()))]) ?_ (fun _ => ?_)
                        · clear h
                          cases b40 with
                          | true =>
                          refine r_pure tabOk 4 [0, 1, 5, 7, 8, 9, 10, 12, 13, 14, 96, 99, 107] (E' := [(0, .one (.sl 31 Y31) a0), (1, .one .str a1), (5, .one (.raw (.pointer none)) (tupv v2 0)), (7, .one .str o28.1), (8, .one .bool o28.2), (9, .one (.int .i64) s20.2.2.1), (10, ptr b22 0), (12, .one .bool maybe26), (13, .one .str r33.1), (14, .one .bool r33.2.1), (96, .one .bool false), (99, .one .bool true), (107, .one .bool true)]) rfl ?_
                          refine r_nil ?_
                          refine r_then ?_
                          exact r_meetg () rfl rfl
                          | false =>
                          refine r_pure tabOk 2 [0, 1, 5, 7, 8, 9, 10, 12, 13, 14, 96, 99, 103, 104, 105] (E' := [(0, .one (.sl 31 Y31) a0), (1, .one .str a1), (5, .one (.raw (.pointer none)) (tupv v2 0)), (7, .one .str o28.1), (8, .one .bool o28.2), (9, .one (.int .i64) s20.2.2.1), (10, ptr b22 0), (12, .one .bool maybe26), (13, .one .str r33.1), (14, .one .bool r33.2.1), (96, .one .bool false), (99, .one .bool true), (103, .one .bool false), (104, .one .bool r33.2.1), (105, .one .bool o28.2)]) rfl ?_
                          refine r_guard (by rfl) rfl ?_
                          refine y (y_bne rfl rfl Try.underlying4) rfl ?_
                          refine r_pure tabOk 1 [0, 1, 5, 7, 8, 9, 10, 12, 13, 14, 96, 99, 107] (E' := [(0, .one (.sl 31 Y31) a0), (1, .one .str a1), (5, .one (.raw (.pointer none)) (tupv v2 0)), (7, .one .str o28.1), (8, .one .bool o28.2), (9, .one (.int .i64) s20.2.2.1), (10, ptr b22 0), (12, .one .bool maybe26), (13, .one .str r33.1), (14, .one .bool r33.2.1), (96, .one .bool false), (99, .one .bool true), (107, .one .bool (r33.2.1 != o28.2))]) rfl ?_
                          refine r_nil ?_
                          refine r_then ?_
                          exact r_meetg () rfl rfl
                        refine r_pure tabOk 1 [0, 1, 5, 7, 8, 9, 10, 12, 13, 14, 96, 108] (E' := [(0, .one (.sl 31 Y31) a0), (1, .one .str a1), (5, .one (.raw (.pointer none)) (tupv v2 0)), (7, .one .str o28.1), (8, .one .bool o28.2), (9, .one (.int .i64) s20.2.2.1), (10, ptr b22 0), (12, .one .bool maybe26), (13, .one .str r33.1), (14, .one .bool r33.2.1), (96, .one .bool false), (108, .one .bool (b40 || (r33.2.1 != o28.2)))]) rfl ?_
                        refine r_nil ?_
                        refine r_less [0, 1, 5, 7, 8, 9, 10, 12, 13, 14, 96, 108] rfl ?_
                        refine r_then ?_
                        exact r_meetk (b40 || (r33.2.1 != o28.2)) () h rfl rfl
                      · rw [hh] at h ⊢
                        rw [if_neg (by decide)] at h
                        refine r_pure tabOk 9 [0, 1, 5, 7, 8, 9, 10, 12, 13, 14, 96, 108] (E' := [(0, .one (.sl 31 Y31) a0), (1, .one .str a1), (5, .one (.raw (.pointer none)) (tupv v2 0)), (7, .one .str o28.1), (8, .one .bool o28.2), (9, .one (.int .i64) s20.2.2.1), (10, ptr b22 0), (12, .one .bool maybe26), (13, .one .str r33.1), (14, .one .bool r33.2.1), (96, .one .bool false), (108, .one .bool false)]) rfl ?_
                        refine r_nil ?_
                        refine r_less [0, 1, 5, 7, 8, 9, 10, 12, 13, 14, 96, 108] rfl ?_
                        refine r_then ?_
                        exact r_meetk false () h rfl rfl
                    · intro o39 _ h
                      rw [← hk38] at h
                      try dsimp only at h
                      refine r_pure tabOk 1 [0, 1, 5, 7, 8, 9, 10, 12, 13, 14, 109] (E' := [(0, .one (.sl 31 Y31) a0), (1, .one .str a1), (5, .one (.raw (.pointer none)) (tupv v2 0)), (7, .one .str o28.1), (8, .one .bool o28.2), (9, .one (.int .i64) s20.2.2.1), (10, ptr b22 0), (12, .one .bool maybe26), (13, .one .str r33.1), (14, .one .bool r33.2.1), (109, .one .bool o39)]) rfl ?_
                      refine r_nil ?_
                      refine r_less [0, 1, 5, 7, 8, 9, 10, 12, 13, 14, 109] rfl ?_
                      refine r_then ?_
                      exact r_meetk o39 () h rfl rfl
                · intro o36 _ h
                  rw [← hk35] at h
                  try dsimp only at h
                  refine r_nil ?_
                  refine r_then ?_
                  refine r_if (b := o36) rfl (fun hc => ?_) (fun hc => ?_)
                  · rw [if_pos hc] at h
                    refine r_seq ?_
                    refine r_region ?_
                    refine r_pure tabOk 1 [4] (E' := [(4, .one .bool false)]) rfl ?_
                    refine r_nil ?_
                    refine r_then ?_
                    refine r_ret ?_
                    refine t_then ?_
                    refine t_block ?_
                    refine t_then ?_
                    refine t_then ?_
                    refine t_block ?_
                    refine t_then ?_
                    obtain rfl := Option.some.inj h
                    exact r_ret1 rfl (.tmp rfl) (fun _ _ g => g) (fun _ _ _ => List.nil_sublist _)
                  · rw [if_neg (ne_true_of_eq_false hc)] at h
                    refine r_skip ?_
                    refine r_then ?_
                    refine r_seq ?_
                    refine r_seq ?_
                    refine r_region ?_
                    refine r_pure tabOk 2 [0, 1, 5, 7, 8, 9, 10, 13, 14, 111] (E' := [(0, .one (.sl 31 Y31) a0), (1, .one .str a1), (5, .one (.raw (.pointer none)) (tupv v2 0)), (7, .one .str o28.1), (8, .one .bool o28.2), (9, .one (.int .i64) s20.2.2.1), (10, ptr b22 0), (13, .one .str r33.1), (14, .one .bool r33.2.1), (111, .one .bool maybe26)]) rfl ?_
                    obtain ⟨k42, hk42, h⟩ := bnd_ex h
                    refine r_lsplitk (γ := Unit) 9 (fun (o43 : Bool) _ => [(0, .one (.sl 31 Y31) a0), (1, .one .str a1), (5, .one (.raw (.pointer none)) (tupv v2 0)), (9, .one (.int .i64) s20.2.2.1), (10, ptr b22 0), (13, .one .str r33.1), (14, .one .bool r33.2.1), (120, .one .bool o43)]) (fun _ _ => [Res.disk Try.prog dI (tupv v2 0) r32, Res.var b22 31 Y31 (List.getD a0 (Int.toNat s20.2.2.1) ([], 0, 0, 0, [], false, ()))]) k42 r ?_ ?_
                    · rcases Bool.eq_false_or_eq_true maybe26 with hh | hh
                      · rw [hh] at h ⊢
                        rw [if_pos rfl] at h
                        refine r_pure tabOk 4 [0, 1, 5, 8, 9, 10, 13, 14, 111, 115] (E' := [(0, .one (.sl 31 Y31) a0), (1, .one .str a1), (5, .one (.raw (.pointer none)) (tupv v2 0)), (8, .one .bool o28.2), (9, .one (.int .i64) s20.2.2.1), (10, ptr b22 0), (13, .one .str r33.1), (14, .one .bool r33.2.1), (111, .one .bool true), (115, .one .bool (r33.1 != o28.1))]) rfl ?_
                        obtain ⟨b44, hbb44, h⟩ := bnd_ex h
                        rw [hbb44]
                        refine r_lsplit (γ := Unit) 4 (fun _ => [(0, .one (.sl 31 Y31) a0), (1, .one .str a1), (5, .one (.raw (.pointer none)) (tupv v2 0)), (9, .one (.int .i64) s20.2.2.1), (10, ptr b22 0), (13, .one .str r33.1), (14, .one .bool r33.2.1), (111, .one .bool true), (119, .one .bool (b44 || (r33.2.1 != o28.2)))]) (fun _ => [Res.disk Try.prog dI (tupv v2 0) r32, Res.var b22 31 Y31 (List.getD a0 (Int.toNat s20.2.2.1) ([], 0, 0, 0, [], false, ()))]) ?_ (fun _ => ?_)
                        · clear h
                          cases b44 with
                          | true =>
                          refine r_pure tabOk 4 [0, 1, 5, 9, 10, 13, 14, 111, 119] (E' := [(0, .one (.sl 31 Y31) a0), (1, .one .str a1), (5, .one (.raw (.pointer none)) (tupv v2 0)), (9, .one (.int .i64) s20.2.2.1), (10, ptr b22 0), (13, .one .str r33.1), (14, .one .bool r33.2.1), (111, .one .bool true), (119, .one .bool true)]) rfl ?_
                          refine r_nil ?_
                          refine r_then ?_
                          exact r_meetg () rfl rfl
                          | false =>
                          refine r_pure tabOk 2 [0, 1, 5, 9, 10, 13, 14, 111, 115, 116, 117] (E' := [(0, .one (.sl 31 Y31) a0), (1, .one .str a1), (5, .one (.raw (.pointer none)) (tupv v2 0)), (9, .one (.int .i64) s20.2.2.1), (10, ptr b22 0), (13, .one .str r33.1), (14, .one .bool r33.2.1), (111, .one .bool true), (115, .one .bool false), (116, .one .bool r33.2.1), (117, .one .bool o28.2)]) rfl ?_
                          refine r_guard (by rfl) rfl ?_
                          refine y (y_bne rfl rfl Try.underlying4) rfl ?_
                          refine r_pure tabOk 1 [0, 1, 5, 9, 10, 13, 14, 111, 119] (E' := [(0, .one (.sl 31 Y31) a0), (1, .one .str a1), (5, .one (.raw (.pointer none)) (tupv v2 0)), (9, .one (.int .i64) s20.2.2.1), (10, ptr b22 0), (13, .one .str r33.1), (14, .one .bool r33.2.1), (111, .one .bool true), (119, .one .bool (r33.2.1 != o28.2))]) rfl ?_
                          refine r_nil ?_
                          refine r_then ?_
                          exact r_meetg () rfl rfl
                        refine r_pure tabOk 1 [0, 1, 5, 9, 10, 13, 14, 120] (E' := [(0, .one (.sl 31 Y31) a0), (1, .one .str a1), (5, .one (.raw (.pointer none)) (tupv v2 0)), (9, .one (.int .i64) s20.2.2.1), (10, ptr b22 0), (13, .one .str r33.1), (14, .one .bool r33.2.1), (120, .one .bool (b44 || (r33.2.1 != o28.2)))]) rfl ?_
                        refine r_nil ?_
                        refine r_less [0, 1, 5, 9, 10, 13, 14, 120] rfl ?_
                        refine r_then ?_
                        exact r_meetk (b44 || (r33.2.1 != o28.2)) () h rfl rfl
                      · rw [hh] at h ⊢
                        rw [if_neg (by decide)] at h
                        refine r_pure tabOk 9 [0, 1, 5, 9, 10, 13, 14, 120] (E' := [(0, .one (.sl 31 Y31) a0), (1, .one .str a1), (5, .one (.raw (.pointer none)) (tupv v2 0)), (9, .one (.int .i64) s20.2.2.1), (10, ptr b22 0), (13, .one .str r33.1), (14, .one .bool r33.2.1), (120, .one .bool false)]) rfl ?_
                        refine r_nil ?_
                        refine r_less [0, 1, 5, 9, 10, 13, 14, 120] rfl ?_
                        refine r_then ?_
                        exact r_meetk false () h rfl rfl
                    · intro o43 _ h
                      rw [← hk42] at h
                      try dsimp only at h
                      refine r_pure tabOk 1 [0, 1, 5, 9, 10, 13, 14, 121] (E' := [(0, .one (.sl 31 Y31) a0), (1, .one .str a1), (5, .one (.raw (.pointer none)) (tupv v2 0)), (9, .one (.int .i64) s20.2.2.1), (10, ptr b22 0), (13, .one .str r33.1), (14, .one .bool r33.2.1), (121, .one .bool o43)]) rfl ?_
                      obtain ⟨k46, hk46, h⟩ := bnd_ex h
                      refine r_lsplitk (γ := Unit) 9 (fun (o47 : Bool) _ => [(0, .one (.sl 31 Y31) a0), (1, .one .str a1), (5, .one (.raw (.pointer none)) (tupv v2 0)), (9, .one (.int .i64) s20.2.2.1), (13, .one .str r33.1), (14, .one .bool r33.2.1), (130, .one .bool o47)]) (fun _ _ => [Res.disk Try.prog dI (tupv v2 0) r32, Res.var b22 31 Y31 (List.getD a0 (Int.toNat s20.2.2.1) ([], 0, 0, 0, [], false, ()))]) k46 r ?_ ?_
                      · rcases Bool.eq_false_or_eq_true o43 with hh | hh
                        · rw [hh] at h ⊢
                          rw [if_pos rfl] at h
                          refine r_pure tabOk 2 [0, 1, 5, 9, 13, 14, 121, 122, 123] (E' := [(0, .one (.sl 31 Y31) a0), (1, .one .str a1), (5, .one (.raw (.pointer none)) (tupv v2 0)), (9, .one (.int .i64) s20.2.2.1), (13, .one .str r33.1), (14, .one .bool r33.2.1), (121, .one .bool true), (122, .one .str r33.1), (123, ptr b22 0)]) rfl ?_
                          refine r_guard (by rfl) rfl ?_
                          refine y (y_load 1 ((.fst .here)) rfl rfl (by first | rfl | (simp only [Pth.off, T.size]; omega)) (ok_fst ok_here) ty9) rfl ?_
                          refine r_pure tabOk 2 [0, 1, 5, 9, 13, 14, 121, 126] (E' := [(0, .one (.sl 31 Y31) a0), (1, .one .str a1), (5, .one (.raw (.pointer none)) (tupv v2 0)), (9, .one (.int .i64) s20.2.2.1), (13, .one .str r33.1), (14, .one .bool r33.2.1), (121, .one .bool true), (126, .one .bool (r33.1 != ((List.getD a0 (Int.toNat s20.2.2.1) ([], 0, 0, 0, [], false, ())).1)))]) rfl ?_
                          obtain ⟨b48, hbb48, h⟩ := bnd_ex h
                          rw [hbb48]
                          refine r_lsplit (γ := Unit) 3 (fun _ => [(0, .one (.sl 31 Y31) a0), (1, .one .str a1), (5, .one (.raw (.pointer none)) (tupv v2 0)), (9, .one (.int .i64) s20.2.2.1), (13, .one .str r33.1), (14, .one .bool r33.2.1), (121, .one .bool true), (129, .one .bool (b48 || (!r33.2.1)))]) (fun _ => [Res.disk Try.prog dI (tupv v2 0) r32, Res.var b22 31 Y31 (List.getD a0 (Int.toNat s20.2.2.1) ([], 0, 0, 0, [], false, ()))]) ?_ (fun _ => ?_)
                          · clear h
                            cases b48 with
                            | true =>
                            refine r_pure tabOk 3 [0, 1, 5, 9, 13, 14, 121, 129] (E' := [(0, .one (.sl 31 Y31) a0), (1, .one .str a1), (5, .one (.raw (.pointer none)) (tupv v2 0)), (9, .one (.int .i64) s20.2.2.1), (13, .one .str r33.1), (14, .one .bool r33.2.1), (121, .one .bool true), (129, .one .bool true)]) rfl ?_
                            refine r_nil ?_
                            refine r_then ?_
                            exact r_meetg () rfl rfl
                            | false =>
                            refine r_pure tabOk 3 [0, 1, 5, 9, 13, 14, 121, 129] (E' := [(0, .one (.sl 31 Y31) a0), (1, .one .str a1), (5, .one (.raw (.pointer none)) (tupv v2 0)), (9, .one (.int .i64) s20.2.2.1), (13, .one .str r33.1), (14, .one .bool r33.2.1), (121, .one .bool true), (129, .one .bool (!r33.2.1))]) rfl ?_
                            refine r_nil ?_
                            refine r_then ?_
                            exact r_meetg () rfl rfl
                          refine r_pure tabOk 1 [0, 1, 5, 9, 13, 14, 130] (E' := [(0, .one (.sl 31 Y31) a0), (1, .one .str a1), (5, .one (.raw (.pointer none)) (tupv v2 0)), (9, .one (.int .i64) s20.2.2.1), (13, .one .str r33.1), (14, .one .bool r33.2.1), (130, .one .bool (b48 || (!r33.2.1)))]) rfl ?_
                          refine r_nil ?_
                          refine r_less [0, 1, 5, 9, 13, 14, 130] rfl ?_
                          refine r_then ?_
                          exact r_meetk (b48 || (!r33.2.1)) () h rfl rfl
                        · rw [hh] at h ⊢
                          rw [if_neg (by decide)] at h
                          refine r_pure tabOk 9 [0, 1, 5, 9, 13, 14, 130] (E' := [(0, .one (.sl 31 Y31) a0), (1, .one .str a1), (5, .one (.raw (.pointer none)) (tupv v2 0)), (9, .one (.int .i64) s20.2.2.1), (13, .one .str r33.1), (14, .one .bool r33.2.1), (130, .one .bool false)]) rfl ?_
                          refine r_nil ?_
                          refine r_less [0, 1, 5, 9, 13, 14, 130] rfl ?_
                          refine r_then ?_
                          exact r_meetk false () h rfl rfl
                      · intro o47 _ h
                        rw [← hk46] at h
                        try dsimp only at h
                        refine r_nil ?_
                        refine r_then ?_
                        refine r_if (b := o47) rfl (fun hc => ?_) (fun hc => ?_)
                        · rw [if_pos hc] at h
                          refine r_seq ?_
                          refine r_region ?_
                          refine r_pure tabOk 1 [4] (E' := [(4, .one .bool false)]) rfl ?_
                          refine r_nil ?_
                          refine r_then ?_
                          refine r_ret ?_
                          refine t_then ?_
                          refine t_block ?_
                          refine t_then ?_
                          refine t_then ?_
                          refine t_block ?_
                          refine t_then ?_
                          obtain rfl := Option.some.inj h
                          exact r_ret1 rfl (.tmp rfl) (fun _ _ g => g) (fun _ _ _ => List.nil_sublist _)
                        · rw [if_neg (ne_true_of_eq_false hc)] at h
                          refine r_skip ?_
                          refine r_then ?_
                          refine r_region ?_
                          refine r_pure tabOk 4 [0, 1, 5, 7, 8, 9] (E' := [(0, .one (.sl 31 Y31) a0), (1, .one .str a1), (5, .one (.raw (.pointer none)) (tupv v2 0)), (7, .one .str r33.1), (8, .one .bool r33.2.1), (9, .one (.int .i64) s20.2.2.1)]) rfl ?_
                          refine r_nil ?_
                          refine r_inblock ?_
                          refine r_then ?_
                          refine r_region ?_
                          refine r_pure tabOk 3 [0, 1, 5, 7, 8, 9] (E' := [(0, .one (.sl 31 Y31) a0), (1, .one .str a1), (5, .one (.raw (.pointer none)) (tupv v2 0)), (7, .one .str r33.1), (8, .one .bool r33.2.1), (9, .one (.int .i64) (IntKind.wrap .i64 (s20.2.2.1 + 1)))]) rfl ?_
                          obtain ⟨i49, hi49, h⟩ := bnd_ex h
                          rw [hi49]
                          refine r_nil ?_
                          refine r_then ?_
                          refine r_lose (L' := [Res.disk Try.prog dI (tupv v2 0) r32]) (.cons_cons _ (.cons _ .slnil)) ?_
                          refine r_less [0, 1, 5, 7, 8, 9] rfl ?_
                          exact r_backg (r33.1, r33.2.1, i49, r32) () (Nat.lt_succ_self _) h rfl rfl
          · rw [if_neg (ne_true_of_eq_false hc)] at h
            refine r_exit ?_
            refine e_then ?_
            refine e_then ?_
            refine e_eq ?_
            refine r_then ?_
            refine r_less [1, 5] rfl ?_
            exact r_meetk s20.2.2.2 () h rfl rfl
        · intro o11 gg h
          rw [← hk10] at h
          try dsimp only at h
          refine r_seq ?_
          refine r_region ?_
          refine r_pure tabOk 1 [1, 134] (E' := [(1, .one .str a1), (134, .one (.raw (.pointer none)) (tupv v2 0))]) rfl ?_
          obtain ⟨r12, hr12, h⟩ := bind_ex h
          refine r_call (Lo := []) (escrowlaw07_told_ok (tupv v2 0) o11 [98, 101, 115, 105, 100, 101] _ hr12) (by kernel_rfl) (List.Perm.refl _) rfl rfl fun _ => ?_
          refine r_pure tabOk 7 [1, 16, 17, 18] (E' := [(1, .one .str a1), (16, .one .str r12.1), (17, .one .bool r12.2.1), (18, .one .bool r12.2.2)]) rfl ?_
          refine r_nil ?_
          refine r_then ?_
          refine r_seq ?_
          refine r_region ?_
          refine r_pure tabOk 2 [1, 16, 17, 140] (E' := [(1, .one .str a1), (16, .one .str r12.1), (17, .one .bool r12.2.1), (140, .one .bool r12.2.2)]) rfl ?_
          refine r_lsplit (γ := Unit) 7 (fun _ => [(1, .one .str a1), (16, .one .str r12.1), (17, .one .bool r12.2.1), (147, .one .bool (r12.2.2 && ((decide ((List.length a1 : Int) > 1048448)) == (!r12.2.1))))]) (fun _ => [Res.disk Try.prog dI (tupv v2 0) o11]) ?_ (fun _ => ?_)
          · clear h
            rcases Bool.eq_false_or_eq_true r12.2.2 with hh | hh
            · rw [hh]
              refine r_pure tabOk 5 [1, 16, 17, 140, 143, 145] (E' := [(1, .one .str a1), (16, .one .str r12.1), (17, .one .bool r12.2.1), (140, .one .bool true), (143, .one .bool (decide ((List.length a1 : Int) > 1048448))), (145, .one .bool (!r12.2.1))]) rfl ?_
              refine r_guard (by rfl) rfl ?_
              refine y (y_beq rfl rfl Try.underlying4) rfl ?_
              refine r_pure tabOk 1 [1, 16, 17, 147] (E' := [(1, .one .str a1), (16, .one .str r12.1), (17, .one .bool r12.2.1), (147, .one .bool ((decide ((List.length a1 : Int) > 1048448)) == (!r12.2.1)))]) rfl ?_
              refine r_nil ?_
              refine r_then ?_
              exact r_meetg () rfl rfl
            · rw [hh]
              refine r_pure tabOk 7 [1, 16, 17, 147] (E' := [(1, .one .str a1), (16, .one .str r12.1), (17, .one .bool r12.2.1), (147, .one .bool false)]) rfl ?_
              refine r_nil ?_
              refine r_then ?_
              exact r_meetg () rfl rfl
          refine r_pure tabOk 1 [1, 16, 17, 148] (E' := [(1, .one .str a1), (16, .one .str r12.1), (17, .one .bool r12.2.1), (148, .one .bool (r12.2.2 && ((decide ((List.length a1 : Int) > 1048448)) == (!r12.2.1))))]) rfl ?_
          obtain ⟨b14, hbb14, h⟩ := bnd_ex h
          rw [hbb14]
          obtain ⟨k15, hk15, h⟩ := bnd_ex h
          refine r_lsplitk (γ := Unit) 8 (fun (o16 : Bool) _ => [(156, .one .bool o16)]) (fun _ _ => [Res.disk Try.prog dI (tupv v2 0) o11]) k15 r ?_ ?_
          · rcases Bool.eq_false_or_eq_true b14 with hh | hh
            · rw [hh] at h ⊢
              rw [if_pos rfl] at h
              refine r_pure tabOk 3 [1, 16, 148, 151] (E' := [(1, .one .str a1), (16, .one .str r12.1), (148, .one .bool true), (151, .one .bool (!r12.2.1))]) rfl ?_
              obtain ⟨b17, hbb17, h⟩ := bnd_ex h
              rw [hbb17]
              refine r_lsplit (γ := Unit) 4 (fun _ => [(148, .one .bool true), (155, .one .bool (b17 || (r12.1 == a1)))]) (fun _ => [Res.disk Try.prog dI (tupv v2 0) o11]) ?_ (fun _ => ?_)
              · clear h
                cases b17 with
                | true =>
                refine r_pure tabOk 4 [148, 155] (E' := [(148, .one .bool true), (155, .one .bool true)]) rfl ?_
                refine r_nil ?_
                refine r_then ?_
                exact r_meetg () rfl rfl
                | false =>
                refine r_pure tabOk 4 [148, 155] (E' := [(148, .one .bool true), (155, .one .bool (r12.1 == a1))]) rfl ?_
                refine r_nil ?_
                refine r_then ?_
                exact r_meetg () rfl rfl
              refine r_pure tabOk 1 [156] (E' := [(156, .one .bool (b17 || (r12.1 == a1)))]) rfl ?_
              refine r_nil ?_
              refine r_less [156] rfl ?_
              refine r_then ?_
              exact r_meetk (b17 || (r12.1 == a1)) () h rfl rfl
            · rw [hh] at h ⊢
              rw [if_neg (by decide)] at h
              refine r_pure tabOk 8 [156] (E' := [(156, .one .bool false)]) rfl ?_
              refine r_nil ?_
              refine r_less [156] rfl ?_
              refine r_then ?_
              exact r_meetk false () h rfl rfl
          · intro o16 _ h
            rw [← hk15] at h
            try dsimp only at h
            refine r_pure tabOk 1 [4] (E' := [(4, .one .bool o16)]) rfl ?_
            refine r_nil ?_
            refine r_then ?_
            refine r_ret ?_
            obtain rfl := Option.some.inj h
            exact r_ret1 rfl (.tmp rfl) (fun _ _ g => g) (fun _ _ _ => List.nil_sublist _)
end Sx
