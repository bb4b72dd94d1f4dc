/-
  Own work, printed by a program of the same hand. Each function of the code answers what its plain twin reckons.
-/
import Derived.Test.YtammhjkpdepohaaGreatWalk1
namespace Sx
open Go Go.Proofs
set_option maxRecDepth 10000

theorem disk_Disk_Write_ok (p0 : Value) (a0 : DiskS) (a1 : List Int) (a2 : Int) (a3 : List Int) (r : Int × DiskS) (h : disk_Disk_Write a0 a1 a2 a3 = some r) : Fn Tryz.prog 10 [.one (.raw (.pointer none)) p0, .one .str a1, .one (.int .i64) a2, .one .str a3] [Res.disk Tryz.prog dI p0 a0] (fun _ => .one (.int .i64) r.1) (fun _ => [Res.disk Tryz.prog dI p0 r.2]) := by
  unfold disk_Disk_Write at h
  refine enter Tryz.func10 rfl 144 rfl rfl fun F => ?_
  refine r_undisk fun b2 mv1 hp => ?_
  subst hp
  refine r_seq ?_
  refine r_region ?_
  refine r_pure tabOk 1 [0, 1, 2, 3] (E' := [(0, ptr b2 0), (1, .one .str a1), (2, .one (.int .i64) a2), (3, .one .str a3)]) rfl ?_
  refine r_nil ?_
  refine r_then ?_
  refine r_seq ?_
  refine r_seq ?_
  refine r_region ?_
  refine r_pure tabOk 3 [0, 1, 2, 3, 17] (E' := [(0, ptr b2 0), (1, .one .str a1), (2, .one (.int .i64) a2), (3, .one .str a3), (17, ptr b2 5)]) rfl ?_
  refine y (y_load 0 ((.snd (.snd (.snd (.snd (.snd (.fst .here))))))) rfl rfl (by first | rfl | (simp only [Pth.off, T.size]; omega)) (ok_snd (ok_snd (ok_snd (ok_snd (ok_snd (ok_fst ok_here)))))) ty4) rfl ?_
  refine r_nil ?_
  refine r_then ?_
  refine r_if (b := a0.2.2.2.2.2.1) rfl (fun hc => ?_) (fun hc => ?_)
  · rw [if_pos hc] at h
    refine r_seq ?_
    refine r_region ?_
    refine r_pure tabOk 1 [8] (E' := [(8, .one (.int .i64) 9)]) rfl ?_
    refine r_nil ?_
    refine r_then ?_
    refine r_ret ?_
    refine t_then ?_
    refine r_disk (P := Tryz.prog) (I := dI) (D := a0) ?_
    obtain rfl := Option.some.inj h
    exact r_ret1 rfl (.tmp rfl) (fun _ _ g => g) (fun _ _ _ => (.cons_cons _ .slnil))
  · rw [if_neg (ne_true_of_eq_false hc)] at h
    refine r_skip ?_
    refine r_then ?_
    refine r_seq ?_
    refine r_region ?_
    refine r_pure tabOk 3 [0, 1, 2, 3, 22] (E' := [(0, ptr b2 0), (1, .one .str a1), (2, .one (.int .i64) a2), (3, .one .str a3), (22, ptr b2 1)]) rfl ?_
    refine y (y_load 0 ((.snd (.fst .here))) rfl rfl (by first | rfl | (simp only [Pth.off, T.size]; omega)) (ok_snd (ok_fst ok_here)) ty54) rfl ?_
    refine r_pure tabOk 1 [0, 1, 2, 3, 23, 24] (E' := [(0, ptr b2 0), (1, .one .str a1), (2, .one (.int .i64) a2), (3, .one .str a3), (23, .one (.raw (.map none)) mv1), (24, .one .str a1)]) rfl ?_
    refine r_perm (L' := [Res.dfiles Tryz.prog dI mv1 a0.2.1, Res.var b2 56 DT (a0.1, mv1, a0.2.2.1, a0.2.2.2.1, a0.2.2.2.2.1, a0.2.2.2.2.2.1, a0.2.2.2.2.2.2, ())]) ((List.perm_middle (a := Res.dfiles Tryz.prog dI mv1 a0.2.1) (l₁ := [Res.var b2 56 DT (a0.1, mv1, a0.2.2.1, a0.2.2.2.1, a0.2.2.2.2.1, a0.2.2.2.2.2.1, a0.2.2.2.2.2.2, ())]) (l₂ := [])).trans (.cons _ (List.Perm.refl _))) ?_
    refine r_dlook kstr rfl rfl Tryz.underlying54 zNV rfl fun q3 => ?_
    refine r_pure tabOk 5 [0, 1, 2, 3, 9, 10] (E' := [(0, ptr b2 0), (1, .one .str a1), (2, .one (.int .i64) a2), (3, .one .str a3), (9, .one (.raw (.pointer none)) q3), (10, .one .bool (Option.isSome (pget .str a1 a0.2.1)))]) rfl ?_
    obtain ⟨there4, hthere4, h⟩ := bnd_ex h
    rw [hthere4]
    refine r_nil ?_
    refine r_then ?_
    refine r_seq ?_
    refine r_region ?_
    refine r_pure tabOk 1 [0, 1, 2, 3, 9, 10, 11] (E' := [(0, ptr b2 0), (1, .one .str a1), (2, .one (.int .i64) a2), (3, .one .str a3), (9, .one (.raw (.pointer none)) q3), (10, .one .bool there4), (11, .one (.int .i64) 0)]) rfl ?_
    refine r_nil ?_
    refine r_then ?_
    obtain ⟨k5, hk5, h⟩ := bnd_ex h
    refine r_joink (γ := Value) (fun (o6 : Int) g7 => [(0, ptr b2 0), (1, .one .str a1), (2, .one (.int .i64) a2), (3, .one .str a3), (9, .one (.raw (.pointer none)) g7), (10, .one .bool there4), (11, .one (.int .i64) o6)]) (fun (o6 : Int) g7 => [Res.dat Tryz.prog dI mv1 a0.2.1 a1 g7, Res.var b2 56 DT (a0.1, mv1, a0.2.2.1, a0.2.2.2.1, a0.2.2.2.2.1, a0.2.2.2.2.2.1, a0.2.2.2.2.2.2, ())]) k5 r ?_ ?_
    · refine r_seq ?_
      refine r_region ?_
      refine r_pure tabOk 1 [0, 1, 2, 3, 9, 10, 11, 28] (E' := [(0, ptr b2 0), (1, .one .str a1), (2, .one (.int .i64) a2), (3, .one .str a3), (9, .one (.raw (.pointer none)) q3), (10, .one .bool there4), (11, .one (.int .i64) 0), (28, .one .bool there4)]) rfl ?_
      refine r_nil ?_
      refine r_then ?_
      refine r_if (b := there4) rfl (fun hc => ?_) (fun hc => ?_)
      · rw [if_pos hc] at h
        obtain ⟨f49, hf49, h⟩ := bind_ex h
        refine r_dfocus kstr hf49 fun fb50 sv51 tv52 dv53 hq => ?_
        rw [hq]
        clear hq
        refine r_region ?_
        refine r_pure tabOk 3 [0, 1, 2, 3, 9, 10, 31] (E' := [(0, ptr b2 0), (1, .one .str a1), (2, .one (.int .i64) a2), (3, .one .str a3), (9, ptr fb50 0), (10, .one .bool there4), (31, ptr fb50 0)]) rfl ?_
        refine y (y_load 0 ((.fst .here)) rfl rfl (by first | rfl | (simp only [Pth.off, T.size]; omega)) (ok_fst ok_here) tx0) rfl ?_
        refine y (y_lenown tabOk 1 rfl rfl rfl) rfl ?_
        refine r_pure tabOk 1 [0, 1, 2, 3, 9, 10, 11] (E' := [(0, ptr b2 0), (1, .one .str a1), (2, .one (.int .i64) a2), (3, .one .str a3), (9, ptr fb50 0), (10, .one .bool there4), (11, .one (.int .i64) (List.length f49.1 : Int))]) rfl ?_
        obtain ⟨size54, hsize54, h⟩ := bnd_ex h
        rw [hsize54]
        refine r_nil ?_
        refine r_then ?_
        refine r_dunfocus_same (P := Tryz.prog) (I := dI) kstr hf49 ?_
        refine r_less [0, 1, 2, 3, 9, 10, 11] rfl ?_
        exact r_meetk size54 (.pointer (some ⟨fb50, 0, none⟩)) h rfl rfl
      · rw [if_neg (ne_true_of_eq_false hc)] at h
        refine r_skip ?_
        refine r_then ?_
        refine r_less [0, 1, 2, 3, 9, 10, 11] rfl ?_
        exact r_meetk 0 q3 h rfl rfl
    · intro o6 g7 h
      rw [← hk5] at h
      try dsimp only at h
      refine r_seq ?_
      refine r_block ?_
      refine r_seq ?_
      refine r_region ?_
      refine r_pure tabOk 1 [0, 1, 2, 3, 9, 10, 11, 35] (E' := [(0, ptr b2 0), (1, .one .str a1), (2, .one (.int .i64) a2), (3, .one .str a3), (9, .one (.raw (.pointer none)) g7), (10, .one .bool there4), (11, .one (.int .i64) o6), (35, .one .str a1)]) rfl ?_
      obtain ⟨r8, hr8, h⟩ := bind_ex h
      refine r_calls (disk_isName_ok a1 _ hr8) (by kernel_rfl) rfl rfl ?_
      refine r_pure tabOk 2 [0, 1, 2, 3, 9, 10, 11, 38] (E' := [(0, ptr b2 0), (1, .one .str a1), (2, .one (.int .i64) a2), (3, .one .str a3), (9, .one (.raw (.pointer none)) g7), (10, .one .bool there4), (11, .one (.int .i64) o6), (38, .one .bool (!r8))]) rfl ?_
      obtain ⟨b9, hbb9, h⟩ := bnd_ex h
      rw [hbb9]
      refine r_lsplit (γ := Unit) 3 (fun _ => [(0, ptr b2 0), (1, .one .str a1), (2, .one (.int .i64) a2), (3, .one .str a3), (9, .one (.raw (.pointer none)) g7), (10, .one .bool there4), (11, .one (.int .i64) o6), (41, .one .bool (b9 || (decide (a2 < 0))))]) (fun _ => [Res.dat Tryz.prog dI mv1 a0.2.1 a1 g7, Res.var b2 56 DT (a0.1, mv1, a0.2.2.1, a0.2.2.2.1, a0.2.2.2.2.1, a0.2.2.2.2.2.1, a0.2.2.2.2.2.2, ())]) ?_ (fun _ => ?_)
      · clear h
        cases b9 with
        | true =>
        refine r_pure tabOk 3 [0, 1, 2, 3, 9, 10, 11, 41] (E' := [(0, ptr b2 0), (1, .one .str a1), (2, .one (.int .i64) a2), (3, .one .str a3), (9, .one (.raw (.pointer none)) g7), (10, .one .bool there4), (11, .one (.int .i64) o6), (41, .one .bool true)]) rfl ?_
        refine r_nil ?_
        refine r_then ?_
        exact r_meetg () rfl rfl
        | false =>
        refine r_pure tabOk 3 [0, 1, 2, 3, 9, 10, 11, 41] (E' := [(0, ptr b2 0), (1, .one .str a1), (2, .one (.int .i64) a2), (3, .one .str a3), (9, .one (.raw (.pointer none)) g7), (10, .one .bool there4), (11, .one (.int .i64) o6), (41, .one .bool (decide (a2 < 0)))]) rfl ?_
        refine r_nil ?_
        refine r_then ?_
        exact r_meetg () rfl rfl
      refine r_pure tabOk 1 [0, 1, 2, 3, 9, 10, 11, 42] (E' := [(0, ptr b2 0), (1, .one .str a1), (2, .one (.int .i64) a2), (3, .one .str a3), (9, .one (.raw (.pointer none)) g7), (10, .one .bool there4), (11, .one (.int .i64) o6), (42, .one .bool (b9 || (decide (a2 < 0))))]) rfl ?_
      obtain ⟨b10, hbb10, h⟩ := bnd_ex h
      rw [hbb10]
      refine r_lsplit (γ := Unit) 4 (fun _ => [(0, ptr b2 0), (1, .one .str a1), (2, .one (.int .i64) a2), (3, .one .str a3), (9, .one (.raw (.pointer none)) g7), (10, .one .bool there4), (11, .one (.int .i64) o6), (46, .one .bool (b10 || (decide (a2 > o6))))]) (fun _ => [Res.dat Tryz.prog dI mv1 a0.2.1 a1 g7, Res.var b2 56 DT (a0.1, mv1, a0.2.2.1, a0.2.2.2.1, a0.2.2.2.2.1, a0.2.2.2.2.2.1, a0.2.2.2.2.2.2, ())]) ?_ (fun _ => ?_)
      · clear h
        cases b10 with
        | true =>
        refine r_pure tabOk 4 [0, 1, 2, 3, 9, 10, 11, 46] (E' := [(0, ptr b2 0), (1, .one .str a1), (2, .one (.int .i64) a2), (3, .one .str a3), (9, .one (.raw (.pointer none)) g7), (10, .one .bool there4), (11, .one (.int .i64) o6), (46, .one .bool true)]) rfl ?_
        refine r_nil ?_
        refine r_then ?_
        exact r_meetg () rfl rfl
        | false =>
        refine r_pure tabOk 4 [0, 1, 2, 3, 9, 10, 11, 46] (E' := [(0, ptr b2 0), (1, .one .str a1), (2, .one (.int .i64) a2), (3, .one .str a3), (9, .one (.raw (.pointer none)) g7), (10, .one .bool there4), (11, .one (.int .i64) o6), (46, .one .bool (decide (a2 > o6)))]) rfl ?_
        refine r_nil ?_
        refine r_then ?_
        exact r_meetg () rfl rfl
      refine r_pure tabOk 1 [0, 1, 2, 3, 9, 10, 11, 34] (E' := [(0, ptr b2 0), (1, .one .str a1), (2, .one (.int .i64) a2), (3, .one .str a3), (9, .one (.raw (.pointer none)) g7), (10, .one .bool there4), (11, .one (.int .i64) o6), (34, .one .bool (b10 || (decide (a2 > o6))))]) rfl ?_
      refine r_nil ?_
      refine r_then ?_
      refine r_if (b := (b10 || (decide (a2 > o6)))) rfl (fun hc => ?_) (fun hc => ?_)
      · rw [if_pos hc] at h
        refine r_seq ?_
        refine r_region ?_
        refine r_pure tabOk 1 [8] (E' := [(8, .one (.int .i64) 1)]) rfl ?_
        refine r_nil ?_
        refine r_then ?_
        refine r_ret ?_
        refine t_block ?_
        refine t_then ?_
        refine r_imp_at (R' := Res.dfiles Tryz.prog dI mv1 a0.2.1) 0 rfl dat_dfiles ?_
        refine r_perm (L' := [Res.var b2 56 DT (a0.1, mv1, a0.2.2.1, a0.2.2.2.1, a0.2.2.2.2.1, a0.2.2.2.2.2.1, a0.2.2.2.2.2.2, ()), Res.dfiles Tryz.prog dI mv1 a0.2.1]) ((List.perm_middle (a := Res.var b2 56 DT (a0.1, mv1, a0.2.2.1, a0.2.2.2.1, a0.2.2.2.2.1, a0.2.2.2.2.2.1, a0.2.2.2.2.2.2, ())) (l₁ := [Res.dfiles Tryz.prog dI mv1 a0.2.1]) (l₂ := [])).trans (.cons _ (List.Perm.refl _))) ?_
        refine r_disk (P := Tryz.prog) (I := dI) (D := a0) ?_
        obtain rfl := Option.some.inj h
        exact r_ret1 rfl (.tmp rfl) (fun _ _ g => g) (fun _ _ _ => (.cons_cons _ .slnil))
      · rw [if_neg (ne_true_of_eq_false hc)] at h
        refine r_seq ?_
        refine r_region ?_
        refine r_pure tabOk 6 [0, 1, 2, 3, 9, 10, 11, 47] (E' := [(0, ptr b2 0), (1, .one .str a1), (2, .one (.int .i64) a2), (3, .one .str a3), (9, .one (.raw (.pointer none)) g7), (10, .one .bool there4), (11, .one (.int .i64) o6), (47, .one .bool (decide ((IntKind.wrap .i64 (a2 + (List.length a3 : Int))) > 1048576)))]) rfl ?_
        refine r_nil ?_
        refine r_then ?_
        refine r_if (b := (decide ((IntKind.wrap .i64 (a2 + (List.length a3 : Int))) > 1048576))) rfl (fun hc => ?_) (fun hc => ?_)
        · rw [if_pos hc] at h
          refine r_seq ?_
          refine r_region ?_
          refine r_pure tabOk 1 [8] (E' := [(8, .one (.int .i64) 3)]) rfl ?_
          refine r_nil ?_
          refine r_then ?_
          refine r_ret ?_
          refine t_block ?_
          refine t_then ?_
          refine r_imp_at (R' := Res.dfiles Tryz.prog dI mv1 a0.2.1) 0 rfl dat_dfiles ?_
          refine r_perm (L' := [Res.var b2 56 DT (a0.1, mv1, a0.2.2.1, a0.2.2.2.1, a0.2.2.2.2.1, a0.2.2.2.2.2.1, a0.2.2.2.2.2.2, ()), Res.dfiles Tryz.prog dI mv1 a0.2.1]) ((List.perm_middle (a := Res.var b2 56 DT (a0.1, mv1, a0.2.2.1, a0.2.2.2.1, a0.2.2.2.2.1, a0.2.2.2.2.2.1, a0.2.2.2.2.2.2, ())) (l₁ := [Res.dfiles Tryz.prog dI mv1 a0.2.1]) (l₂ := [])).trans (.cons _ (List.Perm.refl _))) ?_
          refine r_disk (P := Tryz.prog) (I := dI) (D := a0) ?_
          obtain rfl := Option.some.inj h
          exact r_ret1 rfl (.tmp rfl) (fun _ _ g => g) (fun _ _ _ => (.cons_cons _ .slnil))
        · rw [if_neg (ne_true_of_eq_false hc)] at h
          refine r_seq ?_
          refine r_region ?_
          refine r_pure tabOk 3 [0, 1, 2, 3, 9, 10, 11, 56] (E' := [(0, ptr b2 0), (1, .one .str a1), (2, .one (.int .i64) a2), (3, .one .str a3), (9, .one (.raw (.pointer none)) g7), (10, .one .bool there4), (11, .one (.int .i64) o6), (56, .one .bool (!there4))]) rfl ?_
          obtain ⟨b11, hbb11, h⟩ := bnd_ex h
          rw [hbb11]
          obtain ⟨k12, hk12, h⟩ := bnd_ex h
          refine r_lsplitk (γ := Unit) 7 (fun (o13 : Bool) _ => [(0, ptr b2 0), (1, .one .str a1), (2, .one (.int .i64) a2), (3, .one .str a3), (9, .one (.raw (.pointer none)) g7), (10, .one .bool there4), (11, .one (.int .i64) o6), (63, .one .bool o13)]) (fun _ _ => [Res.dat Tryz.prog dI mv1 a0.2.1 a1 g7, Res.var b2 56 DT (a0.1, mv1, a0.2.2.1, a0.2.2.2.1, a0.2.2.2.2.1, a0.2.2.2.2.2.1, a0.2.2.2.2.2.2, ())]) k12 r ?_ ?_
          · rcases Bool.eq_false_or_eq_true b11 with hh | hh
            · rw [hh] at h ⊢
              rw [if_pos rfl] at h
              refine r_pure tabOk 3 [0, 1, 2, 3, 9, 10, 11, 56, 59] (E' := [(0, ptr b2 0), (1, .one .str a1), (2, .one (.int .i64) a2), (3, .one .str a3), (9, .one (.raw (.pointer none)) g7), (10, .one .bool there4), (11, .one (.int .i64) o6), (56, .one .bool true), (59, ptr b2 1)]) rfl ?_
              refine r_guard (by rfl) rfl ?_
              refine y (y_load 1 ((.snd (.fst .here))) rfl rfl (by first | rfl | (simp only [Pth.off, T.size]; omega)) (ok_snd (ok_fst ok_here)) ty54) rfl ?_
              refine r_guard (by rfl) rfl ?_
              obtain ⟨hc, h⟩ := ite_ex h
              refine y (y_dlen kstr 0 rfl rfl Tryz.underlying54 hc) rfl ?_
              refine r_pure tabOk 2 [0, 1, 2, 3, 9, 10, 11, 63] (E' := [(0, ptr b2 0), (1, .one .str a1), (2, .one (.int .i64) a2), (3, .one .str a3), (9, .one (.raw (.pointer none)) g7), (10, .one .bool there4), (11, .one (.int .i64) o6), (63, .one .bool (decide ((List.length a0.2.1 : Int) ≥ 16)))]) rfl ?_
              refine r_nil ?_
              refine r_less [0, 1, 2, 3, 9, 10, 11, 63] rfl ?_
              refine r_then ?_
              exact r_meetk (decide ((List.length a0.2.1 : Int) ≥ 16)) () h rfl rfl
            · rw [hh] at h ⊢
              rw [if_neg (by decide)] at h
              refine r_pure tabOk 7 [0, 1, 2, 3, 9, 10, 11, 63] (E' := [(0, ptr b2 0), (1, .one .str a1), (2, .one (.int .i64) a2), (3, .one .str a3), (9, .one (.raw (.pointer none)) g7), (10, .one .bool there4), (11, .one (.int .i64) o6), (63, .one .bool false)]) rfl ?_
              refine r_nil ?_
              refine r_less [0, 1, 2, 3, 9, 10, 11, 63] rfl ?_
              refine r_then ?_
              exact r_meetk false () h rfl rfl
          · intro o13 _ h
            rw [← hk12] at h
            try dsimp only at h
            refine r_pure tabOk 1 [0, 1, 2, 3, 9, 10, 11, 53] (E' := [(0, ptr b2 0), (1, .one .str a1), (2, .one (.int .i64) a2), (3, .one .str a3), (9, .one (.raw (.pointer none)) g7), (10, .one .bool there4), (11, .one (.int .i64) o6), (53, .one .bool o13)]) rfl ?_
            refine r_nil ?_
            refine r_then ?_
            refine r_if (b := o13) rfl (fun hc => ?_) (fun hc => ?_)
            · rw [if_pos hc] at h
              refine r_seq ?_
              refine r_region ?_
              refine r_pure tabOk 1 [8] (E' := [(8, .one (.int .i64) 6)]) rfl ?_
              refine r_nil ?_
              refine r_then ?_
              refine r_ret ?_
              refine t_block ?_
              refine t_then ?_
              refine r_imp_at (R' := Res.dfiles Tryz.prog dI mv1 a0.2.1) 0 rfl dat_dfiles ?_
              refine r_perm (L' := [Res.var b2 56 DT (a0.1, mv1, a0.2.2.1, a0.2.2.2.1, a0.2.2.2.2.1, a0.2.2.2.2.2.1, a0.2.2.2.2.2.2, ()), Res.dfiles Tryz.prog dI mv1 a0.2.1]) ((List.perm_middle (a := Res.var b2 56 DT (a0.1, mv1, a0.2.2.1, a0.2.2.2.1, a0.2.2.2.2.1, a0.2.2.2.2.2.1, a0.2.2.2.2.2.2, ())) (l₁ := [Res.dfiles Tryz.prog dI mv1 a0.2.1]) (l₂ := [])).trans (.cons _ (List.Perm.refl _))) ?_
              refine r_disk (P := Tryz.prog) (I := dI) (D := a0) ?_
              obtain rfl := Option.some.inj h
              exact r_ret1 rfl (.tmp rfl) (fun _ _ g => g) (fun _ _ _ => (.cons_cons _ .slnil))
            · rw [if_neg (ne_true_of_eq_false hc)] at h
              refine r_seq ?_
              refine r_any (by kernel_rfl) ?_
              refine a_float (i := 0) (t := ptr b2 0) (blind_then (blind_block (blind_then blind_body))) rfl (by kernel_rfl) (by kernel_rfl) (by kernel_rfl) (y_pure tabOk rfl) rfl ?_
              refine a_float (i := 2) (t := .one (.int .i64) a2) (blind_then (blind_block (blind_then blind_body))) rfl (by kernel_rfl) (by kernel_rfl) (by kernel_rfl) (y_pure tabOk rfl) rfl ?_
              refine a_float (i := 3) (t := .one .str a3) (blind_then (blind_block (blind_then blind_body))) rfl (by kernel_rfl) (by kernel_rfl) (by kernel_rfl) (y_pure tabOk rfl) rfl ?_
              refine a_float (i := 4) (t := .one (.int .i64) (List.length a3 : Int)) (blind_then (blind_block (blind_then blind_body))) rfl (by kernel_rfl) (by kernel_rfl) (by kernel_rfl) (y_pure tabOk rfl) rfl ?_
              refine a_float (i := 5) (t := .one (.int .i64) (IntKind.wrap .i64 (a2 + (List.length a3 : Int)))) (blind_then (blind_block (blind_then blind_body))) rfl (by kernel_rfl) (by kernel_rfl) (by kernel_rfl) (y_pure tabOk rfl) rfl ?_
              refine a_float (i := 6) (t := .one (.int .i64) o6) (blind_then (blind_block (blind_then blind_body))) rfl (by kernel_rfl) (by kernel_rfl) (by kernel_rfl) (y_pure tabOk rfl) rfl ?_
              refine a_float (i := 7) (t := .one (.int .i64) (IntKind.wrap .i64 ((IntKind.wrap .i64 (a2 + (List.length a3 : Int))) - o6))) (blind_then (blind_block (blind_then blind_body))) rfl (by kernel_rfl) (by kernel_rfl) (by kernel_rfl) (y_pure tabOk rfl) rfl ?_
              refine a_float (i := 8) (t := .one (.int .i64) (max 0 (IntKind.wrap .i64 ((IntKind.wrap .i64 (a2 + (List.length a3 : Int))) - o6)))) (blind_then (blind_block (blind_then blind_body))) rfl (by kernel_rfl) (by kernel_rfl) (by kernel_rfl) (y_max rfl rfl) rfl ?_
              refine a_float (i := 10) (t := ptr b2 0) (blind_then (blind_block (blind_then blind_body))) rfl (by kernel_rfl) (by kernel_rfl) (by kernel_rfl) (y_pure tabOk rfl) rfl ?_
              refine a_two (i := 1) (j := 11) (by kernel_rfl) rfl rfl ?_ ?_
              · refine r_perm (L' := [Res.var b2 56 DT (a0.1, mv1, a0.2.2.1, a0.2.2.2.1, a0.2.2.2.2.1, a0.2.2.2.2.2.1, a0.2.2.2.2.2.2, ()), Res.dat Tryz.prog dI mv1 a0.2.1 a1 g7]) ((List.perm_middle (a := Res.var b2 56 DT (a0.1, mv1, a0.2.2.1, a0.2.2.2.1, a0.2.2.2.2.1, a0.2.2.2.2.2.1, a0.2.2.2.2.2.2, ())) (l₁ := [Res.dat Tryz.prog dI mv1 a0.2.1 a1 g7]) (l₂ := [])).trans (.cons _ (List.Perm.refl _))) ?_
                obtain ⟨r14, hr14, h⟩ := bind_ex h
                refine r_call (Lo := []) (disk_Disk_Used_ok b2 mv1 a1 g7 a0 _ hr14) (by kernel_rfl) (List.Perm.refl _) rfl rfl fun _ => ?_
                refine r_nil ?_
                refine r_then ?_
                refine r_less [0, 1, 2, 3, 9, 10, 11, 66, 73, 75] rfl ?_
                refine a_float (i := 9) (t := .one (.int .i64) (IntKind.wrap .i64 (r14 + (max 0 (IntKind.wrap .i64 ((IntKind.wrap .i64 (a2 + (List.length a3 : Int))) - o6)))))) (blind_then (blind_block (blind_then blind_body))) rfl (by kernel_rfl) (by kernel_rfl) (by kernel_rfl) (y_pure tabOk rfl) rfl ?_
                refine a_one (i := 11) (by kernel_rfl) rfl ?_
                refine r_pure tabOk 1 [0, 1, 2, 3, 9, 10, 11, 74, 76] (E' := [(0, ptr b2 0), (1, .one .str a1), (2, .one (.int .i64) a2), (3, .one .str a3), (9, .one (.raw (.pointer none)) g7), (10, .one .bool there4), (11, .one (.int .i64) o6), (74, .one (.int .i64) (IntKind.wrap .i64 (r14 + (max 0 (IntKind.wrap .i64 ((IntKind.wrap .i64 (a2 + (List.length a3 : Int))) - o6)))))), (76, ptr b2 0)]) rfl ?_
                refine r_nil ?_
                refine r_then ?_
                refine r_less [0, 1, 2, 3, 9, 10, 11, 74, 76] rfl ?_
                refine a_float (i := 12) (t := ptr b2 0) (blind_then (blind_block (blind_then blind_body))) rfl (by kernel_rfl) (by kernel_rfl) (by kernel_rfl) (y_pure tabOk rfl) rfl ?_
                refine a_one (i := 13) (by kernel_rfl) rfl ?_
                refine y (y_load 0 ((.fst .here)) rfl rfl (by first | rfl | (simp only [Pth.off, T.size]; omega)) (ok_fst ok_here) ty3) rfl ?_
                refine r_nil ?_
                refine r_then ?_
                refine r_less [0, 1, 2, 3, 9, 10, 11, 74, 78] rfl ?_
                refine a_float (i := 14) (t := .one .bool (decide ((IntKind.wrap .i64 (r14 + (max 0 (IntKind.wrap .i64 ((IntKind.wrap .i64 (a2 + (List.length a3 : Int))) - o6))))) > a0.1))) (blind_then (blind_block (blind_then blind_body))) rfl (by kernel_rfl) (by kernel_rfl) (by kernel_rfl) (y_pure tabOk rfl) rfl ?_
                refine a_float (i := 15) (t := .one .bool (decide ((IntKind.wrap .i64 (r14 + (max 0 (IntKind.wrap .i64 ((IntKind.wrap .i64 (a2 + (List.length a3 : Int))) - o6))))) > a0.1))) (blind_then (blind_block (blind_then blind_body))) rfl (by kernel_rfl) (by kernel_rfl) (by kernel_rfl) (y_pure tabOk rfl) rfl ?_
                refine a_end (by kernel_rfl) ?_
                refine r_then ?_
                refine r_if (b := (decide ((IntKind.wrap .i64 (r14 + (max 0 (IntKind.wrap .i64 ((IntKind.wrap .i64 (a2 + (List.length a3 : Int))) - o6))))) > a0.1))) rfl (fun hc => ?_) (fun hc => ?_)
                · rw [if_pos hc] at h
                  refine r_seq ?_
                  refine r_region ?_
                  refine r_pure tabOk 1 [8] (E' := [(8, .one (.int .i64) 41)]) rfl ?_
                  refine r_nil ?_
                  refine r_then ?_
                  refine r_ret ?_
                  refine t_block ?_
                  refine t_then ?_
                  refine r_imp_at (R' := Res.dfiles Tryz.prog dI mv1 a0.2.1) 1 rfl dat_dfiles ?_
                  refine r_disk (P := Tryz.prog) (I := dI) (D := a0) ?_
                  obtain rfl := Option.some.inj h
                  exact r_ret1 rfl (.tmp rfl) (fun _ _ g => g) (fun _ _ _ => (.cons_cons _ .slnil))
                · rw [if_neg (ne_true_of_eq_false hc)] at h
                  refine r_skip ?_
                  refine r_inblock ?_
                  refine r_then ?_
                  refine r_seq ?_
                  refine r_seq ?_
                  refine r_region ?_
                  refine r_pure tabOk 1 [0, 1, 2, 3, 9, 10, 11, 80] (E' := [(0, ptr b2 0), (1, .one .str a1), (2, .one (.int .i64) a2), (3, .one .str a3), (9, .one (.raw (.pointer none)) g7), (10, .one .bool there4), (11, .one (.int .i64) o6), (80, ptr b2 0)]) rfl ?_
                  obtain ⟨r15, hr15, h⟩ := bind_ex h
                  refine r_call (Lo := [Res.dat Tryz.prog dI mv1 a0.2.1 a1 g7]) (disk_Disk_counted_ok b2 mv1 a0 1 _ hr15) (by kernel_rfl) (List.Perm.refl _) rfl rfl fun _ => ?_
                  refine r_pure tabOk 1 [0, 1, 2, 3, 9, 10, 11, 12] (E' := [(0, ptr b2 0), (1, .one .str a1), (2, .one (.int .i64) a2), (3, .one .str a3), (9, .one (.raw (.pointer none)) g7), (10, .one .bool there4), (11, .one (.int .i64) o6), (12, .one (.int .i64) r15.1)]) rfl ?_
                  refine r_nil ?_
                  refine r_then ?_
                  refine r_seq ?_
                  refine r_region ?_
                  refine r_pure tabOk 2 [0, 1, 2, 3, 9, 10, 11, 12, 83] (E' := [(0, ptr b2 0), (1, .one .str a1), (2, .one (.int .i64) a2), (3, .one .str a3), (9, .one (.raw (.pointer none)) g7), (10, .one .bool there4), (11, .one (.int .i64) o6), (12, .one (.int .i64) r15.1), (83, .one .bool (r15.1 != 0))]) rfl ?_
                  refine r_nil ?_
                  refine r_then ?_
                  refine r_if (b := (r15.1 != 0)) rfl (fun hc => ?_) (fun hc => ?_)
                  · rw [if_pos hc] at h
                    refine r_seq ?_
                    refine r_region ?_
                    refine r_pure tabOk 2 [8] (E' := [(8, .one (.int .i64) r15.1)]) rfl ?_
                    refine r_nil ?_
                    refine r_then ?_
                    refine r_ret ?_
                    refine t_then ?_
                    refine r_imp_at (R' := Res.dfiles Tryz.prog dI mv1 a0.2.1) 1 rfl dat_dfiles ?_
                    refine r_disk (P := Tryz.prog) (I := dI) (D := (r15.2.1, a0.2.1, r15.2.2.2.1, r15.2.2.2.2.1, r15.2.2.2.2.2.1, r15.2.2.2.2.2.2.1, r15.2.2.2.2.2.2.2)) ?_
                    obtain rfl := Option.some.inj h
                    exact r_ret1 rfl (.tmp rfl) (fun _ _ g => g) (fun _ _ _ => (.cons_cons _ .slnil))
                  · rw [if_neg (ne_true_of_eq_false hc)] at h
                    refine r_skip ?_
                    refine r_then ?_
                    obtain ⟨k16, hk16, h⟩ := bnd_ex h
                    refine r_joink (γ := Value) (fun (o17 : (List (List Int × FileS))) g18 => [(2, .one (.int .i64) a2), (3, .one .str a3), (9, .one (.raw (.pointer none)) g18), (11, .one (.int .i64) o6)]) (fun (o17 : (List (List Int × FileS))) g18 => [Res.dat Tryz.prog dI mv1 o17 a1 g18, Res.var b2 56 DT (r15.2.1, mv1, r15.2.2.2.1, r15.2.2.2.2.1, r15.2.2.2.2.2.1, r15.2.2.2.2.2.2.1, r15.2.2.2.2.2.2.2, ())]) k16 r ?_ ?_
                    · refine r_seq ?_
                      refine r_region ?_
                      refine r_pure tabOk 2 [0, 1, 2, 3, 9, 11, 86] (E' := [(0, ptr b2 0), (1, .one .str a1), (2, .one (.int .i64) a2), (3, .one .str a3), (9, .one (.raw (.pointer none)) g7), (11, .one (.int .i64) o6), (86, .one .bool (!there4))]) rfl ?_
                      refine r_nil ?_
                      refine r_then ?_
                      refine r_if (b := (!there4)) rfl (fun hc => ?_) (fun hc => ?_)
                      · rw [if_pos hc] at h
                        refine r_seq ?_
                        refine r_region ?_
                        refine r_makeMap 3 (.int .i64) (.int .i64) rfl fun v47 => ?_
                        refine r_redirty (P := Tryz.prog) (I := dI) (keys := []) 0 rfl rfl ?_
                        refine y (y_build rfl zf61 rfl rfl (.cons ((.snd (.snd (.fst .here)))) rfl rfl (ok_snd (ok_snd (ok_fst ok_here))) .nil)) rfl ?_
                        refine r_box rfl rfl fun b48 => ?_
                        refine r_nilown (.slice none 0 0) rfl 5 (.int .u8) ?_
                        refine r_nilown (.slice none 0 0) rfl 5 (.int .u8) ?_
                        refine r_pure tabOk 1 [0, 1, 2, 3, 9, 11] (E' := [(0, ptr b2 0), (1, .one .str a1), (2, .one (.int .i64) a2), (3, .one .str a3), (9, ptr b48 0), (11, .one (.int .i64) o6)]) rfl ?_
                        refine r_nil ?_
                        refine r_then ?_
                        refine r_region ?_
                        refine r_pure tabOk 3 [1, 2, 3, 9, 11, 92] (E' := [(1, .one .str a1), (2, .one (.int .i64) a2), (3, .one .str a3), (9, ptr b48 0), (11, .one (.int .i64) o6), (92, ptr b2 1)]) rfl ?_
                        refine y (y_load 4 ((.snd (.fst .here))) rfl rfl (by first | rfl | (simp only [Pth.off, T.size]; omega)) (ok_snd (ok_fst ok_here)) ty54) rfl ?_
                        refine r_pure tabOk 2 [2, 3, 9, 11, 93, 94, 95] (E' := [(2, .one (.int .i64) a2), (3, .one .str a3), (9, ptr b48 0), (11, .one (.int .i64) o6), (93, .one (.raw (.map none)) mv1), (94, .one .str a1), (95, ptr b48 0)]) rfl ?_
                        refine r_imp_at (R' := Res.dfiles Tryz.prog dI mv1 a0.2.1) 5 rfl dat_dfiles ?_
                        obtain ⟨hc, h⟩ := ite_ex h
                        refine r_perm (L' := [Res.var b48 61 FT ((.slice none 0 0), (.slice none 0 0), v47, ()), Res.own (.slice none 0 0) 5 (.int .u8) [], Res.own (.slice none 0 0) 5 (.int .u8) [], Res.dirty Tryz.prog dI v47 [], Res.dfiles Tryz.prog dI mv1 a0.2.1, Res.var b2 56 DT (r15.2.1, mv1, r15.2.2.2.1, r15.2.2.2.2.1, r15.2.2.2.2.2.1, r15.2.2.2.2.2.2.1, r15.2.2.2.2.2.2.2, ())]) ((List.perm_middle (a := Res.var b48 61 FT ((.slice none 0 0), (.slice none 0 0), v47, ())) (l₁ := [Res.own (.slice none 0 0) 5 (.int .u8) [], Res.own (.slice none 0 0) 5 (.int .u8) []]) (l₂ := [Res.dirty Tryz.prog dI v47 [], Res.var b2 56 DT (r15.2.1, mv1, r15.2.2.2.1, r15.2.2.2.2.1, r15.2.2.2.2.2.1, r15.2.2.2.2.2.2.1, r15.2.2.2.2.2.2.2, ()), Res.dfiles Tryz.prog dI mv1 a0.2.1])).trans (.cons _ ((List.perm_middle (a := Res.own (.slice none 0 0) 5 (.int .u8) []) (l₁ := []) (l₂ := [Res.own (.slice none 0 0) 5 (.int .u8) [], Res.dirty Tryz.prog dI v47 [], Res.var b2 56 DT (r15.2.1, mv1, r15.2.2.2.1, r15.2.2.2.2.1, r15.2.2.2.2.2.1, r15.2.2.2.2.2.2.1, r15.2.2.2.2.2.2.2, ()), Res.dfiles Tryz.prog dI mv1 a0.2.1])).trans (.cons _ ((List.perm_middle (a := Res.own (.slice none 0 0) 5 (.int .u8) []) (l₁ := []) (l₂ := [Res.dirty Tryz.prog dI v47 [], Res.var b2 56 DT (r15.2.1, mv1, r15.2.2.2.1, r15.2.2.2.2.1, r15.2.2.2.2.2.1, r15.2.2.2.2.2.2.1, r15.2.2.2.2.2.2.2, ()), Res.dfiles Tryz.prog dI mv1 a0.2.1])).trans (.cons _ ((List.perm_middle (a := Res.dirty Tryz.prog dI v47 []) (l₁ := []) (l₂ := [Res.var b2 56 DT (r15.2.1, mv1, r15.2.2.2.1, r15.2.2.2.2.1, r15.2.2.2.2.2.1, r15.2.2.2.2.2.2.1, r15.2.2.2.2.2.2.2, ()), Res.dfiles Tryz.prog dI mv1 a0.2.1])).trans (.cons _ ((List.perm_middle (a := Res.dfiles Tryz.prog dI mv1 a0.2.1) (l₁ := [Res.var b2 56 DT (r15.2.1, mv1, r15.2.2.2.1, r15.2.2.2.2.1, r15.2.2.2.2.2.1, r15.2.2.2.2.2.2.1, r15.2.2.2.2.2.2.2, ())]) (l₂ := [])).trans (.cons _ (List.Perm.refl _))))))))))) ?_
                        refine r_dinsert (P := Tryz.prog) (I := dI) kstr rfl rfl rfl Tryz.underlying54 hc ?_
                        refine r_nil ?_
                        refine r_then ?_
                        refine r_less [2, 3, 9, 11] rfl ?_
                        exact r_meetk (pput .str a1 ([], [], []) a0.2.1) (.pointer (some ⟨b48, 0, none⟩)) h rfl rfl
                      · rw [if_neg (ne_true_of_eq_false hc)] at h
                        refine r_skip ?_
                        refine r_then ?_
                        refine r_less [2, 3, 9, 11] rfl ?_
                        refine r_perm (L' := [Res.dat Tryz.prog dI mv1 a0.2.1 a1 g7, Res.var b2 56 DT (r15.2.1, mv1, r15.2.2.2.1, r15.2.2.2.2.1, r15.2.2.2.2.2.1, r15.2.2.2.2.2.2.1, r15.2.2.2.2.2.2.2, ())]) ((List.perm_middle (a := Res.dat Tryz.prog dI mv1 a0.2.1 a1 g7) (l₁ := [Res.var b2 56 DT (r15.2.1, mv1, r15.2.2.2.1, r15.2.2.2.2.1, r15.2.2.2.2.2.1, r15.2.2.2.2.2.2.1, r15.2.2.2.2.2.2.2, ())]) (l₂ := [])).trans (.cons _ (List.Perm.refl _))) ?_
                        exact r_meetk a0.2.1 g7 h rfl rfl
                    · intro o17 g18 h
                      rw [← hk16] at h
                      try dsimp only at h
                      obtain ⟨k19, hk19, h⟩ := bnd_ex h
                      refine r_joink (γ := Value) (fun (o20 : (List (List Int × FileS))) g21 => [(2, .one (.int .i64) a2), (3, .one .str a3), (9, .one (.raw (.pointer none)) g21)]) (fun (o20 : (List (List Int × FileS))) g21 => [Res.dat Tryz.prog dI mv1 o20 a1 g21, Res.var b2 56 DT (r15.2.1, mv1, r15.2.2.2.1, r15.2.2.2.2.1, r15.2.2.2.2.2.1, r15.2.2.2.2.2.2.1, r15.2.2.2.2.2.2.2, ())]) k19 r ?_ ?_
                      · refine r_seq ?_
                        refine r_region ?_
                        refine r_pure tabOk 5 [2, 3, 9, 11, 13] (E' := [(2, .one (.int .i64) a2), (3, .one .str a3), (9, .one (.raw (.pointer none)) g18), (11, .one (.int .i64) o6), (13, .one (.int .i64) (IntKind.wrap .i64 (a2 + (List.length a3 : Int))))]) rfl ?_
                        obtain ⟨end40, hend40, h⟩ := bnd_ex h
                        rw [hend40]
                        refine r_nil ?_
                        refine r_then ?_
                        refine r_seq ?_
                        refine r_region ?_
                        refine r_pure tabOk 3 [2, 3, 9, 11, 13, 102] (E' := [(2, .one (.int .i64) a2), (3, .one .str a3), (9, .one (.raw (.pointer none)) g18), (11, .one (.int .i64) o6), (13, .one (.int .i64) end40), (102, .one .bool (decide (end40 > o6)))]) rfl ?_
                        refine r_nil ?_
                        refine r_then ?_
                        refine r_if (b := (decide (end40 > o6))) rfl (fun hc => ?_) (fun hc => ?_)
                        · rw [if_pos hc] at h
                          obtain ⟨f41, hf41, h⟩ := bind_ex h
                          refine r_dfocus kstr hf41 fun fb42 sv43 tv44 dv45 hq => ?_
                          rw [hq]
                          clear hq
                          refine r_region ?_
                          refine r_pure tabOk 4 [2, 3, 9, 11, 13, 103, 106] (E' := [(2, .one (.int .i64) a2), (3, .one .str a3), (9, ptr fb42 0), (11, .one (.int .i64) o6), (13, .one (.int .i64) end40), (103, ptr fb42 0), (106, ptr fb42 0)]) rfl ?_
                          refine y (y_load 0 ((.fst .here)) rfl rfl (by first | rfl | (simp only [Pth.off, T.size]; omega)) (ok_fst ok_here) tx0) rfl ?_
                          refine r_pure tabOk 3 [2, 3, 9, 103, 107, 110] (E' := [(2, .one (.int .i64) a2), (3, .one .str a3), (9, ptr fb42 0), (103, ptr fb42 0), (107, .one (.raw (.slice none 0 0)) sv43), (110, .one (.int .i64) (IntKind.wrap .i64 (end40 - o6)))]) rfl ?_
                          obtain ⟨hc, h⟩ := ite_ex h
                          refine r_appendn tabOk zf5 1 rfl rfl rfl hc.1 rfl el5 Tryz.underlying3 hc.2 rfl fun v46 => ?_
                          refine r_pure tabOk 2 [2, 3, 9, 111, 113] (E' := [(2, .one (.int .i64) a2), (3, .one .str a3), (9, ptr fb42 0), (111, .one (.raw (.slice none 0 0)) v46), (113, ptr fb42 0)]) rfl ?_
                          refine r_store 0 ((.fst .here)) rfl rfl rfl (by first | rfl | (simp only [Pth.off, T.size]; omega)) (ok_fst ok_here) tx0 ?_
                          refine r_nil ?_
                          refine r_then ?_
                          refine r_dunfocus (P := Tryz.prog) (I := dI) kstr ?_
                          refine r_less [2, 3, 9] rfl ?_
                          exact r_meetk (pset .str a1 ((f41.1 ++ List.replicate (Int.toNat (IntKind.wrap .i64 (end40 - o6))) 0), f41.2.1, f41.2.2) o17) (.pointer (some ⟨fb42, 0, none⟩)) h rfl rfl
                        · rw [if_neg (ne_true_of_eq_false hc)] at h
                          refine r_skip ?_
                          refine r_then ?_
                          refine r_less [2, 3, 9] rfl ?_
                          exact r_meetk o17 g18 h rfl rfl
                      · intro o20 g21 h
                        rw [← hk19] at h
                        try dsimp only at h
                        refine r_seq ?_
                        obtain ⟨f22, hf22, h⟩ := bind_ex h
                        refine r_dfocus kstr hf22 fun fb23 sv24 tv25 dv26 hq => ?_
                        rw [hq]
                        clear hq
                        refine r_region ?_
                        refine r_pure tabOk 3 [2, 3, 9, 116] (E' := [(2, .one (.int .i64) a2), (3, .one .str a3), (9, ptr fb23 0), (116, ptr fb23 0)]) rfl ?_
                        refine y (y_load 0 ((.fst .here)) rfl rfl (by first | rfl | (simp only [Pth.off, T.size]; omega)) (ok_fst ok_here) tx0) rfl ?_
                        refine r_pure tabOk 1 [2, 3, 9, 117, 118] (E' := [(2, .one (.int .i64) a2), (3, .one .str a3), (9, ptr fb23 0), (117, .one (.raw (.slice none 0 0)) sv24), (118, .one (.int .i64) a2)]) rfl ?_
                        obtain ⟨hs27, h⟩ := ite_ex h
                        refine y (y_osub tabOk (i := a2) (j := (List.length f22.1 : Int)) rfl (sub_own 1 rfl) rfl rfl hs27.1 hs27.2.1 hs27.2.2 rfl ty5) rfl ?_
                        refine r_pure tabOk 1 [2, 3, 9, 119, 120] (E' := [(2, .one (.int .i64) a2), (3, .one .str a3), (9, ptr fb23 0), (119, .one (.raw (.slice none 0 0)) (subv (T.size (.int .u8)) sv24 (Int.toNat a2) (Int.toNat (List.length f22.1 : Int)))), (120, .one .str a3)]) rfl ?_
                        refine r_copyo tabOk 1 (i := (Int.toNat a2)) rfl rfl rfl (by have := hs27.2.1; omega) rfl ty5 rfl fun m28 => ?_
                        refine r_nil ?_
                        refine r_then ?_
                        obtain ⟨k29, hk29, h⟩ := bnd_ex h
                        refine r_joink (γ := Unit) (fun (o30 : List Int) _ => []) (fun (o30 : List Int) _ => [Res.var fb23 61 FT (sv24, tv25, dv26, ()), Res.own sv24 5 (.int .u8) (laidOver f22.1 (Int.toNat a2) a3), Res.own tv25 5 (.int .u8) f22.2.1, Res.dirty Tryz.prog dI dv26 o30, Res.dhole Tryz.prog dI mv1 o20 a1 (.pointer (some ⟨fb23, 0, none⟩)), Res.var b2 56 DT (r15.2.1, mv1, r15.2.2.2.1, r15.2.2.2.2.1, r15.2.2.2.2.2.1, r15.2.2.2.2.2.2.1, r15.2.2.2.2.2.2.2, ())]) k29 r ?_ ?_
                        · refine r_seq ?_
                          refine r_region ?_
                          refine r_pure tabOk 3 [2, 3, 9, 14] (E' := [(2, .one (.int .i64) a2), (3, .one .str a3), (9, ptr fb23 0), (14, .one (.int .i64) (IntKind.wrap .i64 (Int.tdiv a2 64)))]) rfl ?_
                          obtain ⟨s31, hs31, h⟩ := bnd_ex h
                          rw [hs31]
                          refine r_nil ?_
                          refine r_then ?_
                          refine r_block ?_
                          refine r_less [2, 3, 9, 14] rfl ?_
                          refine r_loopg (γ := Unit) (fun (s34 : Int × List Int) _ => [(2, .one (.int .i64) a2), (3, .one .str a3), (9, ptr fb23 0), (14, .one (.int .i64) s34.1)]) (fun (s34 : Int × List Int) _ => [Res.var fb23 61 FT (sv24, tv25, dv26, ()), Res.own sv24 5 (.int .u8) (laidOver f22.1 (Int.toNat a2) a3), Res.own tv25 5 (.int .u8) f22.2.1, Res.dirty Tryz.prog dI dv26 s34.2, Res.dhole Tryz.prog dI mv1 o20 a1 (.pointer (some ⟨fb23, 0, none⟩)), Res.var b2 56 DT (r15.2.1, mv1, r15.2.2.2.1, r15.2.2.2.2.1, r15.2.2.2.2.2.1, r15.2.2.2.2.2.2.1, r15.2.2.2.2.2.2.2, ())]) (disk_Disk_Write_l0 a2 a3 k29) (s31, f22.2.2) () h rfl rfl ?_
                          clear h
                          intro m35 s34 gg h
                          cases m35 with
                          | zero => cases h
                          | succ m35 =>
                          simp only [disk_Disk_Write_l0] at h
                          refine r_seq ?_
                          refine r_seq ?_
                          refine r_region ?_
                          refine r_pure tabOk 7 [2, 3, 9, 14, 130] (E' := [(2, .one (.int .i64) a2), (3, .one .str a3), (9, ptr fb23 0), (14, .one (.int .i64) s34.1), (130, .one .bool (decide ((IntKind.wrap .i64 (s34.1 * 64)) < (IntKind.wrap .i64 (a2 + (List.length a3 : Int))))))]) rfl ?_
                          obtain ⟨t36, ht36, h⟩ := bnd_ex h
                          rw [ht36]
                          refine r_pure tabOk 1 [2, 3, 9, 14, 131] (E' := [(2, .one (.int .i64) a2), (3, .one .str a3), (9, ptr fb23 0), (14, .one (.int .i64) s34.1), (131, .one .bool t36)]) rfl ?_
                          refine r_lsplit (γ := Unit) 3 (fun _ => [(2, .one (.int .i64) a2), (3, .one .str a3), (9, ptr fb23 0), (14, .one (.int .i64) s34.1), (134, .one .bool (t36 && (a3 != [])))]) (fun _ => [Res.var fb23 61 FT (sv24, tv25, dv26, ()), Res.own sv24 5 (.int .u8) (laidOver f22.1 (Int.toNat a2) a3), Res.own tv25 5 (.int .u8) f22.2.1, Res.dirty Tryz.prog dI dv26 s34.2, Res.dhole Tryz.prog dI mv1 o20 a1 (.pointer (some ⟨fb23, 0, none⟩)), Res.var b2 56 DT (r15.2.1, mv1, r15.2.2.2.1, r15.2.2.2.2.1, r15.2.2.2.2.2.1, r15.2.2.2.2.2.2.1, r15.2.2.2.2.2.2.2, ())]) ?_ (fun _ => ?_)
                          · clear h
                            rcases Bool.eq_false_or_eq_true t36 with hh | hh
                            · rw [hh]
                              refine r_pure tabOk 3 [2, 3, 9, 14, 134] (E' := [(2, .one (.int .i64) a2), (3, .one .str a3), (9, ptr fb23 0), (14, .one (.int .i64) s34.1), (134, .one .bool (a3 != []))]) rfl ?_
                              refine r_nil ?_
                              refine r_then ?_
                              exact r_meetg () rfl rfl
                            · rw [hh]
                              refine r_pure tabOk 3 [2, 3, 9, 14, 134] (E' := [(2, .one (.int .i64) a2), (3, .one .str a3), (9, ptr fb23 0), (14, .one (.int .i64) s34.1), (134, .one .bool false)]) rfl ?_
                              refine r_nil ?_
                              refine r_then ?_
                              exact r_meetg () rfl rfl
                          refine r_nil ?_
                          refine r_then ?_
                          refine r_if (b := (t36 && (a3 != []))) rfl (fun hc => ?_) (fun hc => ?_)
                          · rw [if_pos hc] at h
                            refine r_skip ?_
                            refine r_then ?_
                            refine r_seq ?_
                            refine r_block ?_
                            refine r_region ?_
                            refine r_pure tabOk 3 [2, 3, 9, 14, 139] (E' := [(2, .one (.int .i64) a2), (3, .one .str a3), (9, ptr fb23 0), (14, .one (.int .i64) s34.1), (139, ptr fb23 2)]) rfl ?_
                            refine y (y_load 0 ((.snd (.snd (.fst .here)))) rfl rfl (by first | rfl | (simp only [Pth.off, T.size]; omega)) (ok_snd (ok_snd (ok_fst ok_here))) ty59) rfl ?_
                            refine r_pure tabOk 1 [2, 3, 9, 14, 140, 141] (E' := [(2, .one (.int .i64) a2), (3, .one .str a3), (9, ptr fb23 0), (14, .one (.int .i64) s34.1), (140, .one (.raw (.map none)) dv26), (141, .one (.int .i64) s34.1)]) rfl ?_
                            refine r_undirty 3 rfl fun l38 hl38 => ?_
                            refine y (y_look 3 rfl rfl rfl kint Tryz.underlying59 zf3 rfl) rfl ?_
                            refine r_pure tabOk 1 [2, 3, 9, 14, 140, 141, 143] (E' := [(2, .one (.int .i64) a2), (3, .one .str a3), (9, ptr fb23 0), (14, .one (.int .i64) s34.1), (140, .one (.raw (.map none)) dv26), (141, .one (.int .i64) s34.1), (143, .one (.int .i64) (IntKind.wrap .i64 (((pget (.int .i64) s34.1 l38).getD 0) + 1)))]) rfl ?_
                            obtain ⟨hc, h⟩ := ite_ex h
                            refine r_mapUpdate 3 rfl rfl rfl rfl kint Tryz.underlying59 (by rw [← hl38, List.length_map] at hc; exact hc) ?_
                            refine r_redirty (P := Tryz.prog) (I := dI) (keys := kput s34.1 s34.2) 3 rfl (by rw [kput_keys, hl38]) ?_
                            refine r_nil ?_
                            refine r_inblock ?_
                            refine r_then ?_
                            refine r_region ?_
                            refine r_pure tabOk 3 [2, 3, 9, 14] (E' := [(2, .one (.int .i64) a2), (3, .one .str a3), (9, ptr fb23 0), (14, .one (.int .i64) (IntKind.wrap .i64 (s34.1 + 1)))]) rfl ?_
                            obtain ⟨s39, hs39, h⟩ := bnd_ex h
                            rw [hs39]
                            refine r_nil ?_
                            refine r_then ?_
                            refine r_less [2, 3, 9, 14] rfl ?_
                            exact r_backg (s39, (kput s34.1 s34.2)) () (Nat.lt_succ_self _) h rfl rfl
                          · rw [if_neg (ne_true_of_eq_false hc)] at h
                            refine r_exit ?_
                            refine e_then ?_
                            refine e_then ?_
                            refine e_eq ?_
                            refine r_then ?_
                            refine r_less [] rfl ?_
                            exact r_meetk s34.2 () h rfl rfl
                        · intro o30 gg h
                          rw [← hk29] at h
                          try dsimp only at h
                          refine r_seq ?_
                          refine r_region ?_
                          refine r_pure tabOk 1 [8] (E' := [(8, .one (.int .i64) 0)]) rfl ?_
                          refine r_nil ?_
                          refine r_then ?_
                          refine r_ret ?_
                          refine r_dunfocus (P := Tryz.prog) (I := dI) kstr ?_
                          refine r_imp_at (R' := Res.dfiles Tryz.prog dI mv1 (pset .str a1 ((laidOver f22.1 (Int.toNat a2) a3), f22.2.1, o30) o20)) 0 rfl dat_dfiles ?_
                          refine r_perm (L' := [Res.var b2 56 DT (r15.2.1, mv1, r15.2.2.2.1, r15.2.2.2.2.1, r15.2.2.2.2.2.1, r15.2.2.2.2.2.2.1, r15.2.2.2.2.2.2.2, ()), Res.dfiles Tryz.prog dI mv1 (pset .str a1 ((laidOver f22.1 (Int.toNat a2) a3), f22.2.1, o30) o20)]) ((List.perm_middle (a := Res.var b2 56 DT (r15.2.1, mv1, r15.2.2.2.1, r15.2.2.2.2.1, r15.2.2.2.2.2.1, r15.2.2.2.2.2.2.1, r15.2.2.2.2.2.2.2, ())) (l₁ := [Res.dfiles Tryz.prog dI mv1 (pset .str a1 ((laidOver f22.1 (Int.toNat a2) a3), f22.2.1, o30) o20)]) (l₂ := [])).trans (.cons _ (List.Perm.refl _))) ?_
                          refine r_disk (P := Tryz.prog) (I := dI) (D := (r15.2.1, (pset .str a1 ((laidOver f22.1 (Int.toNat a2) a3), f22.2.1, o30) o20), r15.2.2.2.1, r15.2.2.2.2.1, r15.2.2.2.2.2.1, r15.2.2.2.2.2.2.1, r15.2.2.2.2.2.2.2)) ?_
                          obtain rfl := Option.some.inj h
                          exact r_ret1 rfl (.tmp rfl) (fun _ _ g => g) (fun _ _ _ => (.cons_cons _ .slnil))
              · refine r_pure tabOk 1 [0, 1, 2, 3, 9, 10, 11, 65, 73, 76] (E' := [(0, ptr b2 0), (1, .one .str a1), (2, .one (.int .i64) a2), (3, .one .str a3), (9, .one (.raw (.pointer none)) g7), (10, .one .bool there4), (11, .one (.int .i64) o6), (65, ptr b2 0), (73, .one (.int .i64) (max 0 (IntKind.wrap .i64 ((IntKind.wrap .i64 (a2 + (List.length a3 : Int))) - o6)))), (76, ptr b2 0)]) rfl ?_
                refine r_nil ?_
                refine r_then ?_
                refine r_less [0, 1, 2, 3, 9, 10, 11, 65, 73, 76] rfl ?_
                refine a_float (i := 12) (t := ptr b2 0) (blind_then (blind_block (blind_then blind_body))) rfl (by kernel_rfl) (by kernel_rfl) (by kernel_rfl) (y_pure tabOk rfl) rfl ?_
                refine a_two (i := 1) (j := 13) (by kernel_rfl) rfl rfl ?_ ?_
                · refine r_perm (L' := [Res.var b2 56 DT (a0.1, mv1, a0.2.2.1, a0.2.2.2.1, a0.2.2.2.2.1, a0.2.2.2.2.2.1, a0.2.2.2.2.2.2, ()), Res.dat Tryz.prog dI mv1 a0.2.1 a1 g7]) ((List.perm_middle (a := Res.var b2 56 DT (a0.1, mv1, a0.2.2.1, a0.2.2.2.1, a0.2.2.2.2.1, a0.2.2.2.2.2.1, a0.2.2.2.2.2.2, ())) (l₁ := [Res.dat Tryz.prog dI mv1 a0.2.1 a1 g7]) (l₂ := [])).trans (.cons _ (List.Perm.refl _))) ?_
                  obtain ⟨r14, hr14, h⟩ := bind_ex h
                  refine r_call (Lo := []) (disk_Disk_Used_ok b2 mv1 a1 g7 a0 _ hr14) (by kernel_rfl) (List.Perm.refl _) rfl rfl fun _ => ?_
                  refine r_nil ?_
                  refine r_then ?_
                  refine r_less [0, 1, 2, 3, 9, 10, 11, 66, 73, 77] rfl ?_
                  refine a_float (i := 9) (t := .one (.int .i64) (IntKind.wrap .i64 (r14 + (max 0 (IntKind.wrap .i64 ((IntKind.wrap .i64 (a2 + (List.length a3 : Int))) - o6)))))) (blind_then (blind_block (blind_then blind_body))) rfl (by kernel_rfl) (by kernel_rfl) (by kernel_rfl) (y_pure tabOk rfl) rfl ?_
                  refine a_one (i := 13) (by kernel_rfl) rfl ?_
                  refine y (y_load 0 ((.fst .here)) rfl rfl (by first | rfl | (simp only [Pth.off, T.size]; omega)) (ok_fst ok_here) ty3) rfl ?_
                  refine r_nil ?_
                  refine r_then ?_
                  refine r_less [0, 1, 2, 3, 9, 10, 11, 74, 78] rfl ?_
                  refine a_float (i := 14) (t := .one .bool (decide ((IntKind.wrap .i64 (r14 + (max 0 (IntKind.wrap .i64 ((IntKind.wrap .i64 (a2 + (List.length a3 : Int))) - o6))))) > a0.1))) (blind_then (blind_block (blind_then blind_body))) rfl (by kernel_rfl) (by kernel_rfl) (by kernel_rfl) (y_pure tabOk rfl) rfl ?_
                  refine a_float (i := 15) (t := .one .bool (decide ((IntKind.wrap .i64 (r14 + (max 0 (IntKind.wrap .i64 ((IntKind.wrap .i64 (a2 + (List.length a3 : Int))) - o6))))) > a0.1))) (blind_then (blind_block (blind_then blind_body))) rfl (by kernel_rfl) (by kernel_rfl) (by kernel_rfl) (y_pure tabOk rfl) rfl ?_
                  refine a_end (by kernel_rfl) ?_
                  refine r_then ?_
                  refine r_if (b := (decide ((IntKind.wrap .i64 (r14 + (max 0 (IntKind.wrap .i64 ((IntKind.wrap .i64 (a2 + (List.length a3 : Int))) - o6))))) > a0.1))) rfl (fun hc => ?_) (fun hc => ?_)
                  · rw [if_pos hc] at h
                    refine r_seq ?_
                    refine r_region ?_
                    refine r_pure tabOk 1 [8] (E' := [(8, .one (.int .i64) 41)]) rfl ?_
                    refine r_nil ?_
                    refine r_then ?_
                    refine r_ret ?_
                    refine t_block ?_
                    refine t_then ?_
                    refine r_imp_at (R' := Res.dfiles Tryz.prog dI mv1 a0.2.1) 1 rfl dat_dfiles ?_
                    refine r_disk (P := Tryz.prog) (I := dI) (D := a0) ?_
                    obtain rfl := Option.some.inj h
                    exact r_ret1 rfl (.tmp rfl) (fun _ _ g => g) (fun _ _ _ => (.cons_cons _ .slnil))
                  · rw [if_neg (ne_true_of_eq_false hc)] at h
                    refine r_skip ?_
                    refine r_inblock ?_
                    refine r_then ?_
                    refine r_seq ?_
                    refine r_seq ?_
                    refine r_region ?_
                    refine r_pure tabOk 1 [0, 1, 2, 3, 9, 10, 11, 80] (E' := [(0, ptr b2 0), (1, .one .str a1), (2, .one (.int .i64) a2), (3, .one .str a3), (9, .one (.raw (.pointer none)) g7), (10, .one .bool there4), (11, .one (.int .i64) o6), (80, ptr b2 0)]) rfl ?_
                    obtain ⟨r15, hr15, h⟩ := bind_ex h
                    refine r_call (Lo := [Res.dat Tryz.prog dI mv1 a0.2.1 a1 g7]) (disk_Disk_counted_ok b2 mv1 a0 1 _ hr15) (by kernel_rfl) (List.Perm.refl _) rfl rfl fun _ => ?_
                    refine r_pure tabOk 1 [0, 1, 2, 3, 9, 10, 11, 12] (E' := [(0, ptr b2 0), (1, .one .str a1), (2, .one (.int .i64) a2), (3, .one .str a3), (9, .one (.raw (.pointer none)) g7), (10, .one .bool there4), (11, .one (.int .i64) o6), (12, .one (.int .i64) r15.1)]) rfl ?_
                    refine r_nil ?_
                    refine r_then ?_
                    refine r_seq ?_
                    refine r_region ?_
                    refine r_pure tabOk 2 [0, 1, 2, 3, 9, 10, 11, 12, 83] (E' := [(0, ptr b2 0), (1, .one .str a1), (2, .one (.int .i64) a2), (3, .one .str a3), (9, .one (.raw (.pointer none)) g7), (10, .one .bool there4), (11, .one (.int .i64) o6), (12, .one (.int .i64) r15.1), (83, .one .bool (r15.1 != 0))]) rfl ?_
                    refine r_nil ?_
                    refine r_then ?_
                    refine r_if (b := (r15.1 != 0)) rfl (fun hc => ?_) (fun hc => ?_)
                    · rw [if_pos hc] at h
                      refine r_seq ?_
                      refine r_region ?_
                      refine r_pure tabOk 2 [8] (E' := [(8, .one (.int .i64) r15.1)]) rfl ?_
                      refine r_nil ?_
                      refine r_then ?_
                      refine r_ret ?_
                      refine t_then ?_
                      refine r_imp_at (R' := Res.dfiles Tryz.prog dI mv1 a0.2.1) 1 rfl dat_dfiles ?_
                      refine r_disk (P := Tryz.prog) (I := dI) (D := (r15.2.1, a0.2.1, r15.2.2.2.1, r15.2.2.2.2.1, r15.2.2.2.2.2.1, r15.2.2.2.2.2.2.1, r15.2.2.2.2.2.2.2)) ?_
                      obtain rfl := Option.some.inj h
                      exact r_ret1 rfl (.tmp rfl) (fun _ _ g => g) (fun _ _ _ => (.cons_cons _ .slnil))
                    · rw [if_neg (ne_true_of_eq_false hc)] at h
                      refine r_skip ?_
                      refine r_then ?_
                      obtain ⟨k16, hk16, h⟩ := bnd_ex h
                      refine r_joink (γ := Value) (fun (o17 : (List (List Int × FileS))) g18 => [(2, .one (.int .i64) a2), (3, .one .str a3), (9, .one (.raw (.pointer none)) g18), (11, .one (.int .i64) o6)]) (fun (o17 : (List (List Int × FileS))) g18 => [Res.dat Tryz.prog dI mv1 o17 a1 g18, Res.var b2 56 DT (r15.2.1, mv1, r15.2.2.2.1, r15.2.2.2.2.1, r15.2.2.2.2.2.1, r15.2.2.2.2.2.2.1, r15.2.2.2.2.2.2.2, ())]) k16 r ?_ ?_
                      · refine r_seq ?_
                        refine r_region ?_
                        refine r_pure tabOk 2 [0, 1, 2, 3, 9, 11, 86] (E' := [(0, ptr b2 0), (1, .one .str a1), (2, .one (.int .i64) a2), (3, .one .str a3), (9, .one (.raw (.pointer none)) g7), (11, .one (.int .i64) o6), (86, .one .bool (!there4))]) rfl ?_
                        refine r_nil ?_
                        refine r_then ?_
                        refine r_if (b := (!there4)) rfl (fun hc => ?_) (fun hc => ?_)
                        · rw [if_pos hc] at h
                          refine r_seq ?_
                          refine r_region ?_
                          refine r_makeMap 3 (.int .i64) (.int .i64) rfl fun v47 => ?_
                          refine r_redirty (P := Tryz.prog) (I := dI) (keys := []) 0 rfl rfl ?_
                          refine y (y_build rfl zf61 rfl rfl (.cons ((.snd (.snd (.fst .here)))) rfl rfl (ok_snd (ok_snd (ok_fst ok_here))) .nil)) rfl ?_
                          refine r_box rfl rfl fun b48 => ?_
                          refine r_nilown (.slice none 0 0) rfl 5 (.int .u8) ?_
                          refine r_nilown (.slice none 0 0) rfl 5 (.int .u8) ?_
                          refine r_pure tabOk 1 [0, 1, 2, 3, 9, 11] (E' := [(0, ptr b2 0), (1, .one .str a1), (2, .one (.int .i64) a2), (3, .one .str a3), (9, ptr b48 0), (11, .one (.int .i64) o6)]) rfl ?_
                          refine r_nil ?_
                          refine r_then ?_
                          refine r_region ?_
                          refine r_pure tabOk 3 [1, 2, 3, 9, 11, 92] (E' := [(1, .one .str a1), (2, .one (.int .i64) a2), (3, .one .str a3), (9, ptr b48 0), (11, .one (.int .i64) o6), (92, ptr b2 1)]) rfl ?_
                          refine y (y_load 4 ((.snd (.fst .here))) rfl rfl (by first | rfl | (simp only [Pth.off, T.size]; omega)) (ok_snd (ok_fst ok_here)) ty54) rfl ?_
                          refine r_pure tabOk 2 [2, 3, 9, 11, 93, 94, 95] (E' := [(2, .one (.int .i64) a2), (3, .one .str a3), (9, ptr b48 0), (11, .one (.int .i64) o6), (93, .one (.raw (.map none)) mv1), (94, .one .str a1), (95, ptr b48 0)]) rfl ?_
                          refine r_imp_at (R' := Res.dfiles Tryz.prog dI mv1 a0.2.1) 5 rfl dat_dfiles ?_
                          obtain ⟨hc, h⟩ := ite_ex h
                          refine r_perm (L' := [Res.var b48 61 FT ((.slice none 0 0), (.slice none 0 0), v47, ()), Res.own (.slice none 0 0) 5 (.int .u8) [], Res.own (.slice none 0 0) 5 (.int .u8) [], Res.dirty Tryz.prog dI v47 [], Res.dfiles Tryz.prog dI mv1 a0.2.1, Res.var b2 56 DT (r15.2.1, mv1, r15.2.2.2.1, r15.2.2.2.2.1, r15.2.2.2.2.2.1, r15.2.2.2.2.2.2.1, r15.2.2.2.2.2.2.2, ())]) ((List.perm_middle (a := Res.var b48 61 FT ((.slice none 0 0), (.slice none 0 0), v47, ())) (l₁ := [Res.own (.slice none 0 0) 5 (.int .u8) [], Res.own (.slice none 0 0) 5 (.int .u8) []]) (l₂ := [Res.dirty Tryz.prog dI v47 [], Res.var b2 56 DT (r15.2.1, mv1, r15.2.2.2.1, r15.2.2.2.2.1, r15.2.2.2.2.2.1, r15.2.2.2.2.2.2.1, r15.2.2.2.2.2.2.2, ()), Res.dfiles Tryz.prog dI mv1 a0.2.1])).trans (.cons _ ((List.perm_middle (a := Res.own (.slice none 0 0) 5 (.int .u8) []) (l₁ := []) (l₂ := [Res.own (.slice none 0 0) 5 (.int .u8) [], Res.dirty Tryz.prog dI v47 [], Res.var b2 56 DT (r15.2.1, mv1, r15.2.2.2.1, r15.2.2.2.2.1, r15.2.2.2.2.2.1, r15.2.2.2.2.2.2.1, r15.2.2.2.2.2.2.2, ()), Res.dfiles Tryz.prog dI mv1 a0.2.1])).trans (.cons _ ((List.perm_middle (a := Res.own (.slice none 0 0) 5 (.int .u8) []) (l₁ := []) (l₂ := [Res.dirty Tryz.prog dI v47 [], Res.var b2 56 DT (r15.2.1, mv1, r15.2.2.2.1, r15.2.2.2.2.1, r15.2.2.2.2.2.1, r15.2.2.2.2.2.2.1, r15.2.2.2.2.2.2.2, ()), Res.dfiles Tryz.prog dI mv1 a0.2.1])).trans (.cons _ ((List.perm_middle (a := Res.dirty Tryz.prog dI v47 []) (l₁ := []) (l₂ := [Res.var b2 56 DT (r15.2.1, mv1, r15.2.2.2.1, r15.2.2.2.2.1, r15.2.2.2.2.2.1, r15.2.2.2.2.2.2.1, r15.2.2.2.2.2.2.2, ()), Res.dfiles Tryz.prog dI mv1 a0.2.1])).trans (.cons _ ((List.perm_middle (a := Res.dfiles Tryz.prog dI mv1 a0.2.1) (l₁ := [Res.var b2 56 DT (r15.2.1, mv1, r15.2.2.2.1, r15.2.2.2.2.1, r15.2.2.2.2.2.1, r15.2.2.2.2.2.2.1, r15.2.2.2.2.2.2.2, ())]) (l₂ := [])).trans (.cons _ (List.Perm.refl _))))))))))) ?_
                          refine r_dinsert (P := Tryz.prog) (I := dI) kstr rfl rfl rfl Tryz.underlying54 hc ?_
                          refine r_nil ?_
                          refine r_then ?_
                          refine r_less [2, 3, 9, 11] rfl ?_
                          exact r_meetk (pput .str a1 ([], [], []) a0.2.1) (.pointer (some ⟨b48, 0, none⟩)) h rfl rfl
                        · rw [if_neg (ne_true_of_eq_false hc)] at h
                          refine r_skip ?_
                          refine r_then ?_
                          refine r_less [2, 3, 9, 11] rfl ?_
                          refine r_perm (L' := [Res.dat Tryz.prog dI mv1 a0.2.1 a1 g7, Res.var b2 56 DT (r15.2.1, mv1, r15.2.2.2.1, r15.2.2.2.2.1, r15.2.2.2.2.2.1, r15.2.2.2.2.2.2.1, r15.2.2.2.2.2.2.2, ())]) ((List.perm_middle (a := Res.dat Tryz.prog dI mv1 a0.2.1 a1 g7) (l₁ := [Res.var b2 56 DT (r15.2.1, mv1, r15.2.2.2.1, r15.2.2.2.2.1, r15.2.2.2.2.2.1, r15.2.2.2.2.2.2.1, r15.2.2.2.2.2.2.2, ())]) (l₂ := [])).trans (.cons _ (List.Perm.refl _))) ?_
                          exact r_meetk a0.2.1 g7 h rfl rfl
                      · intro o17 g18 h
                        rw [← hk16] at h
                        try dsimp only at h
                        obtain ⟨k19, hk19, h⟩ := bnd_ex h
                        refine r_joink (γ := Value) (fun (o20 : (List (List Int × FileS))) g21 => [(2, .one (.int .i64) a2), (3, .one .str a3), (9, .one (.raw (.pointer none)) g21)]) (fun (o20 : (List (List Int × FileS))) g21 => [Res.dat Tryz.prog dI mv1 o20 a1 g21, Res.var b2 56 DT (r15.2.1, mv1, r15.2.2.2.1, r15.2.2.2.2.1, r15.2.2.2.2.2.1, r15.2.2.2.2.2.2.1, r15.2.2.2.2.2.2.2, ())]) k19 r ?_ ?_
                        · refine r_seq ?_
                          refine r_region ?_
                          refine r_pure tabOk 5 [2, 3, 9, 11, 13] (E' := [(2, .one (.int .i64) a2), (3, .one .str a3), (9, .one (.raw (.pointer none)) g18), (11, .one (.int .i64) o6), (13, .one (.int .i64) (IntKind.wrap .i64 (a2 + (List.length a3 : Int))))]) rfl ?_
                          obtain ⟨end40, hend40, h⟩ := bnd_ex h
                          rw [hend40]
                          refine r_nil ?_
                          refine r_then ?_
                          refine r_seq ?_
                          refine r_region ?_
                          refine r_pure tabOk 3 [2, 3, 9, 11, 13, 102] (E' := [(2, .one (.int .i64) a2), (3, .one .str a3), (9, .one (.raw (.pointer none)) g18), (11, .one (.int .i64) o6), (13, .one (.int .i64) end40), (102, .one .bool (decide (end40 > o6)))]) rfl ?_
                          refine r_nil ?_
                          refine r_then ?_
                          refine r_if (b := (decide (end40 > o6))) rfl (fun hc => ?_) (fun hc => ?_)
                          · rw [if_pos hc] at h
                            obtain ⟨f41, hf41, h⟩ := bind_ex h
                            refine r_dfocus kstr hf41 fun fb42 sv43 tv44 dv45 hq => ?_
                            rw [hq]
                            clear hq
                            refine r_region ?_
                            refine r_pure tabOk 4 [2, 3, 9, 11, 13, 103, 106] (E' := [(2, .one (.int .i64) a2), (3, .one .str a3), (9, ptr fb42 0), (11, .one (.int .i64) o6), (13, .one (.int .i64) end40), (103, ptr fb42 0), (106, ptr fb42 0)]) rfl ?_
                            refine y (y_load 0 ((.fst .here)) rfl rfl (by first | rfl | (simp only [Pth.off, T.size]; omega)) (ok_fst ok_here) tx0) rfl ?_
                            refine r_pure tabOk 3 [2, 3, 9, 103, 107, 110] (E' := [(2, .one (.int .i64) a2), (3, .one .str a3), (9, ptr fb42 0), (103, ptr fb42 0), (107, .one (.raw (.slice none 0 0)) sv43), (110, .one (.int .i64) (IntKind.wrap .i64 (end40 - o6)))]) rfl ?_
                            obtain ⟨hc, h⟩ := ite_ex h
                            refine r_appendn tabOk zf5 1 rfl rfl rfl hc.1 rfl el5 Tryz.underlying3 hc.2 rfl fun v46 => ?_
                            refine r_pure tabOk 2 [2, 3, 9, 111, 113] (E' := [(2, .one (.int .i64) a2), (3, .one .str a3), (9, ptr fb42 0), (111, .one (.raw (.slice none 0 0)) v46), (113, ptr fb42 0)]) rfl ?_
                            refine r_store 0 ((.fst .here)) rfl rfl rfl (by first | rfl | (simp only [Pth.off, T.size]; omega)) (ok_fst ok_here) tx0 ?_
                            refine r_nil ?_
                            refine r_then ?_
                            refine r_dunfocus (P := Tryz.prog) (I := dI) kstr ?_
                            refine r_less [2, 3, 9] rfl ?_
                            exact r_meetk (pset .str a1 ((f41.1 ++ List.replicate (Int.toNat (IntKind.wrap .i64 (end40 - o6))) 0), f41.2.1, f41.2.2) o17) (.pointer (some ⟨fb42, 0, none⟩)) h rfl rfl
                          · rw [if_neg (ne_true_of_eq_false hc)] at h
                            refine r_skip ?_
                            refine r_then ?_
                            refine r_less [2, 3, 9] rfl ?_
                            exact r_meetk o17 g18 h rfl rfl
                        · intro o20 g21 h
                          rw [← hk19] at h
                          try dsimp only at h
                          refine r_seq ?_
                          obtain ⟨f22, hf22, h⟩ := bind_ex h
                          refine r_dfocus kstr hf22 fun fb23 sv24 tv25 dv26 hq => ?_
                          rw [hq]
                          clear hq
                          refine r_region ?_
                          refine r_pure tabOk 3 [2, 3, 9, 116] (E' := [(2, .one (.int .i64) a2), (3, .one .str a3), (9, ptr fb23 0), (116, ptr fb23 0)]) rfl ?_
                          refine y (y_load 0 ((.fst .here)) rfl rfl (by first | rfl | (simp only [Pth.off, T.size]; omega)) (ok_fst ok_here) tx0) rfl ?_
                          refine r_pure tabOk 1 [2, 3, 9, 117, 118] (E' := [(2, .one (.int .i64) a2), (3, .one .str a3), (9, ptr fb23 0), (117, .one (.raw (.slice none 0 0)) sv24), (118, .one (.int .i64) a2)]) rfl ?_
                          obtain ⟨hs27, h⟩ := ite_ex h
                          refine y (y_osub tabOk (i := a2) (j := (List.length f22.1 : Int)) rfl (sub_own 1 rfl) rfl rfl hs27.1 hs27.2.1 hs27.2.2 rfl ty5) rfl ?_
                          refine r_pure tabOk 1 [2, 3, 9, 119, 120] (E' := [(2, .one (.int .i64) a2), (3, .one .str a3), (9, ptr fb23 0), (119, .one (.raw (.slice none 0 0)) (subv (T.size (.int .u8)) sv24 (Int.toNat a2) (Int.toNat (List.length f22.1 : Int)))), (120, .one .str a3)]) rfl ?_
                          refine r_copyo tabOk 1 (i := (Int.toNat a2)) rfl rfl rfl (by have := hs27.2.1; omega) rfl ty5 rfl fun m28 => ?_
                          refine r_nil ?_
                          refine r_then ?_
                          obtain ⟨k29, hk29, h⟩ := bnd_ex h
                          refine r_joink (γ := Unit) (fun (o30 : List Int) _ => []) (fun (o30 : List Int) _ => [Res.var fb23 61 FT (sv24, tv25, dv26, ()), Res.own sv24 5 (.int .u8) (laidOver f22.1 (Int.toNat a2) a3), Res.own tv25 5 (.int .u8) f22.2.1, Res.dirty Tryz.prog dI dv26 o30, Res.dhole Tryz.prog dI mv1 o20 a1 (.pointer (some ⟨fb23, 0, none⟩)), Res.var b2 56 DT (r15.2.1, mv1, r15.2.2.2.1, r15.2.2.2.2.1, r15.2.2.2.2.2.1, r15.2.2.2.2.2.2.1, r15.2.2.2.2.2.2.2, ())]) k29 r ?_ ?_
                          · refine r_seq ?_
                            refine r_region ?_
                            refine r_pure tabOk 3 [2, 3, 9, 14] (E' := [(2, .one (.int .i64) a2), (3, .one .str a3), (9, ptr fb23 0), (14, .one (.int .i64) (IntKind.wrap .i64 (Int.tdiv a2 64)))]) rfl ?_
                            obtain ⟨s31, hs31, h⟩ := bnd_ex h
                            rw [hs31]
                            refine r_nil ?_
                            refine r_then ?_
                            refine r_block ?_
                            refine r_less [2, 3, 9, 14] rfl ?_
                            refine r_loopg (γ := Unit) (fun (s34 : Int × List Int) _ => [(2, .one (.int .i64) a2), (3, .one .str a3), (9, ptr fb23 0), (14, .one (.int .i64) s34.1)]) (fun (s34 : Int × List Int) _ => [Res.var fb23 61 FT (sv24, tv25, dv26, ()), Res.own sv24 5 (.int .u8) (laidOver f22.1 (Int.toNat a2) a3), Res.own tv25 5 (.int .u8) f22.2.1, Res.dirty Tryz.prog dI dv26 s34.2, Res.dhole Tryz.prog dI mv1 o20 a1 (.pointer (some ⟨fb23, 0, none⟩)), Res.var b2 56 DT (r15.2.1, mv1, r15.2.2.2.1, r15.2.2.2.2.1, r15.2.2.2.2.2.1, r15.2.2.2.2.2.2.1, r15.2.2.2.2.2.2.2, ())]) (disk_Disk_Write_l0 a2 a3 k29) (s31, f22.2.2) () h rfl rfl ?_
                            clear h
                            intro m35 s34 gg h
                            cases m35 with
                            | zero => cases h
                            | succ m35 =>
                            simp only [disk_Disk_Write_l0] at h
                            refine r_seq ?_
                            refine r_seq ?_
                            refine r_region ?_
                            refine r_pure tabOk 7 [2, 3, 9, 14, 130] (E' := [(2, .one (.int .i64) a2), (3, .one .str a3), (9, ptr fb23 0), (14, .one (.int .i64) s34.1), (130, .one .bool (decide ((IntKind.wrap .i64 (s34.1 * 64)) < (IntKind.wrap .i64 (a2 + (List.length a3 : Int))))))]) rfl ?_
                            obtain ⟨t36, ht36, h⟩ := bnd_ex h
                            rw [ht36]
                            refine r_pure tabOk 1 [2, 3, 9, 14, 131] (E' := [(2, .one (.int .i64) a2), (3, .one .str a3), (9, ptr fb23 0), (14, .one (.int .i64) s34.1), (131, .one .bool t36)]) rfl ?_
                            refine r_lsplit (γ := Unit) 3 (fun _ => [(2, .one (.int .i64) a2), (3, .one .str a3), (9, ptr fb23 0), (14, .one (.int .i64) s34.1), (134, .one .bool (t36 && (a3 != [])))]) (fun _ => [Res.var fb23 61 FT (sv24, tv25, dv26, ()), Res.own sv24 5 (.int .u8) (laidOver f22.1 (Int.toNat a2) a3), Res.own tv25 5 (.int .u8) f22.2.1, Res.dirty Tryz.prog dI dv26 s34.2, Res.dhole Tryz.prog dI mv1 o20 a1 (.pointer (some ⟨fb23, 0, none⟩)), Res.var b2 56 DT (r15.2.1, mv1, r15.2.2.2.1, r15.2.2.2.2.1, r15.2.2.2.2.2.1, r15.2.2.2.2.2.2.1, r15.2.2.2.2.2.2.2, ())]) ?_ (fun _ => ?_)
                            · clear h
                              rcases Bool.eq_false_or_eq_true t36 with hh | hh
                              · rw [hh]
                                refine r_pure tabOk 3 [2, 3, 9, 14, 134] (E' := [(2, .one (.int .i64) a2), (3, .one .str a3), (9, ptr fb23 0), (14, .one (.int .i64) s34.1), (134, .one .bool (a3 != []))]) rfl ?_
                                refine r_nil ?_
                                refine r_then ?_
                                exact r_meetg () rfl rfl
                              · rw [hh]
                                refine r_pure tabOk 3 [2, 3, 9, 14, 134] (E' := [(2, .one (.int .i64) a2), (3, .one .str a3), (9, ptr fb23 0), (14, .one (.int .i64) s34.1), (134, .one .bool false)]) rfl ?_
                                refine r_nil ?_
                                refine r_then ?_
                                exact r_meetg () rfl rfl
                            refine r_nil ?_
                            refine r_then ?_
                            refine r_if (b := (t36 && (a3 != []))) rfl (fun hc => ?_) (fun hc => ?_)
                            · rw [if_pos hc] at h
                              refine r_skip ?_
                              refine r_then ?_
                              refine r_seq ?_
                              refine r_block ?_
                              refine r_region ?_
                              refine r_pure tabOk 3 [2, 3, 9, 14, 139] (E' := [(2, .one (.int .i64) a2), (3, .one .str a3), (9, ptr fb23 0), (14, .one (.int .i64) s34.1), (139, ptr fb23 2)]) rfl ?_
                              refine y (y_load 0 ((.snd (.snd (.fst .here)))) rfl rfl (by first | rfl | (simp only [Pth.off, T.size]; omega)) (ok_snd (ok_snd (ok_fst ok_here))) ty59) rfl ?_
                              refine r_pure tabOk 1 [2, 3, 9, 14, 140, 141] (E' := [(2, .one (.int .i64) a2), (3, .one .str a3), (9, ptr fb23 0), (14, .one (.int .i64) s34.1), (140, .one (.raw (.map none)) dv26), (141, .one (.int .i64) s34.1)]) rfl ?_
                              refine r_undirty 3 rfl fun l38 hl38 => ?_
                              refine y (y_look 3 rfl rfl rfl kint Tryz.underlying59 zf3 rfl) rfl ?_
                              refine r_pure tabOk 1 [2, 3, 9, 14, 140, 141, 143] (E' := [(2, .one (.int .i64) a2), (3, .one .str a3), (9, ptr fb23 0), (14, .one (.int .i64) s34.1), (140, .one (.raw (.map none)) dv26), (141, .one (.int .i64) s34.1), (143, .one (.int .i64) (IntKind.wrap .i64 (((pget (.int .i64) s34.1 l38).getD 0) + 1)))]) rfl ?_
                              obtain ⟨hc, h⟩ := ite_ex h
                              refine r_mapUpdate 3 rfl rfl rfl rfl kint Tryz.underlying59 (by rw [← hl38, List.length_map] at hc; exact hc) ?_
                              refine r_redirty (P := Tryz.prog) (I := dI) (keys := kput s34.1 s34.2) 3 rfl (by rw [kput_keys, hl38]) ?_
                              refine r_nil ?_
                              refine r_inblock ?_
                              refine r_then ?_
                              refine r_region ?_
                              refine r_pure tabOk 3 [2, 3, 9, 14] (E' := [(2, .one (.int .i64) a2), (3, .one .str a3), (9, ptr fb23 0), (14, .one (.int .i64) (IntKind.wrap .i64 (s34.1 + 1)))]) rfl ?_
                              obtain ⟨s39, hs39, h⟩ := bnd_ex h
                              rw [hs39]
                              refine r_nil ?_
                              refine r_then ?_
                              refine r_less [2, 3, 9, 14] rfl ?_
                              exact r_backg (s39, (kput s34.1 s34.2)) () (Nat.lt_succ_self _) h rfl rfl
                            · rw [if_neg (ne_true_of_eq_false hc)] at h
                              refine r_exit ?_
                              refine e_then ?_
                              refine e_then ?_
                              refine e_eq ?_
                              refine r_then ?_
                              refine r_less [] rfl ?_
                              exact r_meetk s34.2 () h rfl rfl
                          · intro o30 gg h
                            rw [← hk29] at h
                            try dsimp only at h
                            refine r_seq ?_
                            refine r_region ?_
                            refine r_pure tabOk 1 [8] (E' := [(8, .one (.int .i64) 0)]) rfl ?_
                            refine r_nil ?_
                            refine r_then ?_
                            refine r_ret ?_
                            refine r_dunfocus (P := Tryz.prog) (I := dI) kstr ?_
                            refine r_imp_at (R' := Res.dfiles Tryz.prog dI mv1 (pset .str a1 ((laidOver f22.1 (Int.toNat a2) a3), f22.2.1, o30) o20)) 0 rfl dat_dfiles ?_
                            refine r_perm (L' := [Res.var b2 56 DT (r15.2.1, mv1, r15.2.2.2.1, r15.2.2.2.2.1, r15.2.2.2.2.2.1, r15.2.2.2.2.2.2.1, r15.2.2.2.2.2.2.2, ()), Res.dfiles Tryz.prog dI mv1 (pset .str a1 ((laidOver f22.1 (Int.toNat a2) a3), f22.2.1, o30) o20)]) ((List.perm_middle (a := Res.var b2 56 DT (r15.2.1, mv1, r15.2.2.2.1, r15.2.2.2.2.1, r15.2.2.2.2.2.1, r15.2.2.2.2.2.2.1, r15.2.2.2.2.2.2.2, ())) (l₁ := [Res.dfiles Tryz.prog dI mv1 (pset .str a1 ((laidOver f22.1 (Int.toNat a2) a3), f22.2.1, o30) o20)]) (l₂ := [])).trans (.cons _ (List.Perm.refl _))) ?_
                            refine r_disk (P := Tryz.prog) (I := dI) (D := (r15.2.1, (pset .str a1 ((laidOver f22.1 (Int.toNat a2) a3), f22.2.1, o30) o20), r15.2.2.2.1, r15.2.2.2.2.1, r15.2.2.2.2.2.1, r15.2.2.2.2.2.2.1, r15.2.2.2.2.2.2.2)) ?_
                            obtain rfl := Option.some.inj h
                            exact r_ret1 rfl (.tmp rfl) (fun _ _ g => g) (fun _ _ _ => (.cons_cons _ .slnil))
                · refine y (y_load 1 ((.fst .here)) rfl rfl (by first | rfl | (simp only [Pth.off, T.size]; omega)) (ok_fst ok_here) ty3) rfl ?_
                  refine r_nil ?_
                  refine r_then ?_
                  refine r_less [0, 1, 2, 3, 9, 10, 11, 65, 73, 78] rfl ?_
                  refine a_one (i := 1) (by kernel_rfl) rfl ?_
                  refine r_perm (L' := [Res.var b2 56 DT (a0.1, mv1, a0.2.2.1, a0.2.2.2.1, a0.2.2.2.2.1, a0.2.2.2.2.2.1, a0.2.2.2.2.2.2, ()), Res.dat Tryz.prog dI mv1 a0.2.1 a1 g7]) ((List.perm_middle (a := Res.var b2 56 DT (a0.1, mv1, a0.2.2.1, a0.2.2.2.1, a0.2.2.2.2.1, a0.2.2.2.2.2.1, a0.2.2.2.2.2.2, ())) (l₁ := [Res.dat Tryz.prog dI mv1 a0.2.1 a1 g7]) (l₂ := [])).trans (.cons _ (List.Perm.refl _))) ?_
                  obtain ⟨r14, hr14, h⟩ := bind_ex h
                  refine r_call (Lo := []) (disk_Disk_Used_ok b2 mv1 a1 g7 a0 _ hr14) (by kernel_rfl) (List.Perm.refl _) rfl rfl fun _ => ?_
                  refine r_nil ?_
                  refine r_then ?_
                  refine r_less [0, 1, 2, 3, 9, 10, 11, 66, 73, 78] rfl ?_
                  refine a_float (i := 9) (t := .one (.int .i64) (IntKind.wrap .i64 (r14 + (max 0 (IntKind.wrap .i64 ((IntKind.wrap .i64 (a2 + (List.length a3 : Int))) - o6)))))) (blind_then (blind_block (blind_then blind_body))) rfl (by kernel_rfl) (by kernel_rfl) (by kernel_rfl) (y_pure tabOk rfl) rfl ?_
                  refine a_float (i := 14) (t := .one .bool (decide ((IntKind.wrap .i64 (r14 + (max 0 (IntKind.wrap .i64 ((IntKind.wrap .i64 (a2 + (List.length a3 : Int))) - o6))))) > a0.1))) (blind_then (blind_block (blind_then blind_body))) rfl (by kernel_rfl) (by kernel_rfl) (by kernel_rfl) (y_pure tabOk rfl) rfl ?_
                  refine a_float (i := 15) (t := .one .bool (decide ((IntKind.wrap .i64 (r14 + (max 0 (IntKind.wrap .i64 ((IntKind.wrap .i64 (a2 + (List.length a3 : Int))) - o6))))) > a0.1))) (blind_then (blind_block (blind_then blind_body))) rfl (by kernel_rfl) (by kernel_rfl) (by kernel_rfl) (y_pure tabOk rfl) rfl ?_
                  refine a_end (by kernel_rfl) ?_
                  refine r_then ?_
                  refine r_if (b := (decide ((IntKind.wrap .i64 (r14 + (max 0 (IntKind.wrap .i64 ((IntKind.wrap .i64 (a2 + (List.length a3 : Int))) - o6))))) > a0.1))) rfl (fun hc => ?_) (fun hc => ?_)
                  · rw [if_pos hc] at h
                    refine r_seq ?_
                    refine r_region ?_
                    refine r_pure tabOk 1 [8] (E' := [(8, .one (.int .i64) 41)]) rfl ?_
                    refine r_nil ?_
                    refine r_then ?_
                    refine r_ret ?_
                    refine t_block ?_
                    refine t_then ?_
                    refine r_imp_at (R' := Res.dfiles Tryz.prog dI mv1 a0.2.1) 1 rfl dat_dfiles ?_
                    refine r_disk (P := Tryz.prog) (I := dI) (D := a0) ?_
                    obtain rfl := Option.some.inj h
                    exact r_ret1 rfl (.tmp rfl) (fun _ _ g => g) (fun _ _ _ => (.cons_cons _ .slnil))
                  · rw [if_neg (ne_true_of_eq_false hc)] at h
                    refine r_skip ?_
                    refine r_inblock ?_
                    refine r_then ?_
                    refine r_seq ?_
                    refine r_seq ?_
                    refine r_region ?_
                    refine r_pure tabOk 1 [0, 1, 2, 3, 9, 10, 11, 80] (E' := [(0, ptr b2 0), (1, .one .str a1), (2, .one (.int .i64) a2), (3, .one .str a3), (9, .one (.raw (.pointer none)) g7), (10, .one .bool there4), (11, .one (.int .i64) o6), (80, ptr b2 0)]) rfl ?_
                    obtain ⟨r15, hr15, h⟩ := bind_ex h
                    refine r_call (Lo := [Res.dat Tryz.prog dI mv1 a0.2.1 a1 g7]) (disk_Disk_counted_ok b2 mv1 a0 1 _ hr15) (by kernel_rfl) (List.Perm.refl _) rfl rfl fun _ => ?_
                    refine r_pure tabOk 1 [0, 1, 2, 3, 9, 10, 11, 12] (E' := [(0, ptr b2 0), (1, .one .str a1), (2, .one (.int .i64) a2), (3, .one .str a3), (9, .one (.raw (.pointer none)) g7), (10, .one .bool there4), (11, .one (.int .i64) o6), (12, .one (.int .i64) r15.1)]) rfl ?_
                    refine r_nil ?_
                    refine r_then ?_
                    refine r_seq ?_
                    refine r_region ?_
                    refine r_pure tabOk 2 [0, 1, 2, 3, 9, 10, 11, 12, 83] (E' := [(0, ptr b2 0), (1, .one .str a1), (2, .one (.int .i64) a2), (3, .one .str a3), (9, .one (.raw (.pointer none)) g7), (10, .one .bool there4), (11, .one (.int .i64) o6), (12, .one (.int .i64) r15.1), (83, .one .bool (r15.1 != 0))]) rfl ?_
                    refine r_nil ?_
                    refine r_then ?_
                    refine r_if (b := (r15.1 != 0)) rfl (fun hc => ?_) (fun hc => ?_)
                    · rw [if_pos hc] at h
                      refine r_seq ?_
                      refine r_region ?_
                      refine r_pure tabOk 2 [8] (E' := [(8, .one (.int .i64) r15.1)]) rfl ?_
                      refine r_nil ?_
                      refine r_then ?_
                      refine r_ret ?_
                      refine t_then ?_
                      refine r_imp_at (R' := Res.dfiles Tryz.prog dI mv1 a0.2.1) 1 rfl dat_dfiles ?_
                      refine r_disk (P := Tryz.prog) (I := dI) (D := (r15.2.1, a0.2.1, r15.2.2.2.1, r15.2.2.2.2.1, r15.2.2.2.2.2.1, r15.2.2.2.2.2.2.1, r15.2.2.2.2.2.2.2)) ?_
                      obtain rfl := Option.some.inj h
                      exact r_ret1 rfl (.tmp rfl) (fun _ _ g => g) (fun _ _ _ => (.cons_cons _ .slnil))
                    · rw [if_neg (ne_true_of_eq_false hc)] at h
                      refine r_skip ?_
                      refine r_then ?_
                      obtain ⟨k16, hk16, h⟩ := bnd_ex h
                      refine r_joink (γ := Value) (fun (o17 : (List (List Int × FileS))) g18 => [(2, .one (.int .i64) a2), (3, .one .str a3), (9, .one (.raw (.pointer none)) g18), (11, .one (.int .i64) o6)]) (fun (o17 : (List (List Int × FileS))) g18 => [Res.dat Tryz.prog dI mv1 o17 a1 g18, Res.var b2 56 DT (r15.2.1, mv1, r15.2.2.2.1, r15.2.2.2.2.1, r15.2.2.2.2.2.1, r15.2.2.2.2.2.2.1, r15.2.2.2.2.2.2.2, ())]) k16 r ?_ ?_
                      · refine r_seq ?_
                        refine r_region ?_
                        refine r_pure tabOk 2 [0, 1, 2, 3, 9, 11, 86] (E' := [(0, ptr b2 0), (1, .one .str a1), (2, .one (.int .i64) a2), (3, .one .str a3), (9, .one (.raw (.pointer none)) g7), (11, .one (.int .i64) o6), (86, .one .bool (!there4))]) rfl ?_
                        refine r_nil ?_
                        refine r_then ?_
                        refine r_if (b := (!there4)) rfl (fun hc => ?_) (fun hc => ?_)
                        · rw [if_pos hc] at h
                          refine r_seq ?_
                          refine r_region ?_
                          refine r_makeMap 3 (.int .i64) (.int .i64) rfl fun v47 => ?_
                          refine r_redirty (P := Tryz.prog) (I := dI) (keys := []) 0 rfl rfl ?_
                          refine y (y_build rfl zf61 rfl rfl (.cons ((.snd (.snd (.fst .here)))) rfl rfl (ok_snd (ok_snd (ok_fst ok_here))) .nil)) rfl ?_
                          refine r_box rfl rfl fun b48 => ?_
                          refine r_nilown (.slice none 0 0) rfl 5 (.int .u8) ?_
                          refine r_nilown (.slice none 0 0) rfl 5 (.int .u8) ?_
                          refine r_pure tabOk 1 [0, 1, 2, 3, 9, 11] (E' := [(0, ptr b2 0), (1, .one .str a1), (2, .one (.int .i64) a2), (3, .one .str a3), (9, ptr b48 0), (11, .one (.int .i64) o6)]) rfl ?_
                          refine r_nil ?_
                          refine r_then ?_
                          refine r_region ?_
                          refine r_pure tabOk 3 [1, 2, 3, 9, 11, 92] (E' := [(1, .one .str a1), (2, .one (.int .i64) a2), (3, .one .str a3), (9, ptr b48 0), (11, .one (.int .i64) o6), (92, ptr b2 1)]) rfl ?_
                          refine y (y_load 4 ((.snd (.fst .here))) rfl rfl (by first | rfl | (simp only [Pth.off, T.size]; omega)) (ok_snd (ok_fst ok_here)) ty54) rfl ?_
                          refine r_pure tabOk 2 [2, 3, 9, 11, 93, 94, 95] (E' := [(2, .one (.int .i64) a2), (3, .one .str a3), (9, ptr b48 0), (11, .one (.int .i64) o6), (93, .one (.raw (.map none)) mv1), (94, .one .str a1), (95, ptr b48 0)]) rfl ?_
                          refine r_imp_at (R' := Res.dfiles Tryz.prog dI mv1 a0.2.1) 5 rfl dat_dfiles ?_
                          obtain ⟨hc, h⟩ := ite_ex h
                          refine r_perm (L' := [Res.var b48 61 FT ((.slice none 0 0), (.slice none 0 0), v47, ()), Res.own (.slice none 0 0) 5 (.int .u8) [], Res.own (.slice none 0 0) 5 (.int .u8) [], Res.dirty Tryz.prog dI v47 [], Res.dfiles Tryz.prog dI mv1 a0.2.1, Res.var b2 56 DT (r15.2.1, mv1, r15.2.2.2.1, r15.2.2.2.2.1, r15.2.2.2.2.2.1, r15.2.2.2.2.2.2.1, r15.2.2.2.2.2.2.2, ())]) ((List.perm_middle (a := Res.var b48 61 FT ((.slice none 0 0), (.slice none 0 0), v47, ())) (l₁ := [Res.own (.slice none 0 0) 5 (.int .u8) [], Res.own (.slice none 0 0) 5 (.int .u8) []]) (l₂ := [Res.dirty Tryz.prog dI v47 [], Res.var b2 56 DT (r15.2.1, mv1, r15.2.2.2.1, r15.2.2.2.2.1, r15.2.2.2.2.2.1, r15.2.2.2.2.2.2.1, r15.2.2.2.2.2.2.2, ()), Res.dfiles Tryz.prog dI mv1 a0.2.1])).trans (.cons _ ((List.perm_middle (a := Res.own (.slice none 0 0) 5 (.int .u8) []) (l₁ := []) (l₂ := [Res.own (.slice none 0 0) 5 (.int .u8) [], Res.dirty Tryz.prog dI v47 [], Res.var b2 56 DT (r15.2.1, mv1, r15.2.2.2.1, r15.2.2.2.2.1, r15.2.2.2.2.2.1, r15.2.2.2.2.2.2.1, r15.2.2.2.2.2.2.2, ()), Res.dfiles Tryz.prog dI mv1 a0.2.1])).trans (.cons _ ((List.perm_middle (a := Res.own (.slice none 0 0) 5 (.int .u8) []) (l₁ := []) (l₂ := [Res.dirty Tryz.prog dI v47 [], Res.var b2 56 DT (r15.2.1, mv1, r15.2.2.2.1, r15.2.2.2.2.1, r15.2.2.2.2.2.1, r15.2.2.2.2.2.2.1, r15.2.2.2.2.2.2.2, ()), Res.dfiles Tryz.prog dI mv1 a0.2.1])).trans (.cons _ ((List.perm_middle (a := Res.dirty Tryz.prog dI v47 []) (l₁ := []) (l₂ := [Res.var b2 56 DT (r15.2.1, mv1, r15.2.2.2.1, r15.2.2.2.2.1, r15.2.2.2.2.2.1, r15.2.2.2.2.2.2.1, r15.2.2.2.2.2.2.2, ()), Res.dfiles Tryz.prog dI mv1 a0.2.1])).trans (.cons _ ((List.perm_middle (a := Res.dfiles Tryz.prog dI mv1 a0.2.1) (l₁ := [Res.var b2 56 DT (r15.2.1, mv1, r15.2.2.2.1, r15.2.2.2.2.1, r15.2.2.2.2.2.1, r15.2.2.2.2.2.2.1, r15.2.2.2.2.2.2.2, ())]) (l₂ := [])).trans (.cons _ (List.Perm.refl _))))))))))) ?_
                          refine r_dinsert (P := Tryz.prog) (I := dI) kstr rfl rfl rfl Tryz.underlying54 hc ?_
                          refine r_nil ?_
                          refine r_then ?_
                          refine r_less [2, 3, 9, 11] rfl ?_
                          exact r_meetk (pput .str a1 ([], [], []) a0.2.1) (.pointer (some ⟨b48, 0, none⟩)) h rfl rfl
                        · rw [if_neg (ne_true_of_eq_false hc)] at h
                          refine r_skip ?_
                          refine r_then ?_
                          refine r_less [2, 3, 9, 11] rfl ?_
                          refine r_perm (L' := [Res.dat Tryz.prog dI mv1 a0.2.1 a1 g7, Res.var b2 56 DT (r15.2.1, mv1, r15.2.2.2.1, r15.2.2.2.2.1, r15.2.2.2.2.2.1, r15.2.2.2.2.2.2.1, r15.2.2.2.2.2.2.2, ())]) ((List.perm_middle (a := Res.dat Tryz.prog dI mv1 a0.2.1 a1 g7) (l₁ := [Res.var b2 56 DT (r15.2.1, mv1, r15.2.2.2.1, r15.2.2.2.2.1, r15.2.2.2.2.2.1, r15.2.2.2.2.2.2.1, r15.2.2.2.2.2.2.2, ())]) (l₂ := [])).trans (.cons _ (List.Perm.refl _))) ?_
                          exact r_meetk a0.2.1 g7 h rfl rfl
                      · intro o17 g18 h
                        rw [← hk16] at h
                        try dsimp only at h
                        obtain ⟨k19, hk19, h⟩ := bnd_ex h
                        refine r_joink (γ := Value) (fun (o20 : (List (List Int × FileS))) g21 => [(2, .one (.int .i64) a2), (3, .one .str a3), (9, .one (.raw (.pointer none)) g21)]) (fun (o20 : (List (List Int × FileS))) g21 => [Res.dat Tryz.prog dI mv1 o20 a1 g21, Res.var b2 56 DT (r15.2.1, mv1, r15.2.2.2.1, r15.2.2.2.2.1, r15.2.2.2.2.2.1, r15.2.2.2.2.2.2.1, r15.2.2.2.2.2.2.2, ())]) k19 r ?_ ?_
                        · refine r_seq ?_
                          refine r_region ?_
                          refine r_pure tabOk 5 [2, 3, 9, 11, 13] (E' := [(2, .one (.int .i64) a2), (3, .one .str a3), (9, .one (.raw (.pointer none)) g18), (11, .one (.int .i64) o6), (13, .one (.int .i64) (IntKind.wrap .i64 (a2 + (List.length a3 : Int))))]) rfl ?_
                          obtain ⟨end40, hend40, h⟩ := bnd_ex h
                          rw [hend40]
                          refine r_nil ?_
                          refine r_then ?_
                          refine r_seq ?_
                          refine r_region ?_
                          refine r_pure tabOk 3 [2, 3, 9, 11, 13, 102] (E' := [(2, .one (.int .i64) a2), (3, .one .str a3), (9, .one (.raw (.pointer none)) g18), (11, .one (.int .i64) o6), (13, .one (.int .i64) end40), (102, .one .bool (decide (end40 > o6)))]) rfl ?_
                          refine r_nil ?_
                          refine r_then ?_
                          refine r_if (b := (decide (end40 > o6))) rfl (fun hc => ?_) (fun hc => ?_)
                          · rw [if_pos hc] at h
                            obtain ⟨f41, hf41, h⟩ := bind_ex h
                            refine r_dfocus kstr hf41 fun fb42 sv43 tv44 dv45 hq => ?_
                            rw [hq]
                            clear hq
                            refine r_region ?_
                            refine r_pure tabOk 4 [2, 3, 9, 11, 13, 103, 106] (E' := [(2, .one (.int .i64) a2), (3, .one .str a3), (9, ptr fb42 0), (11, .one (.int .i64) o6), (13, .one (.int .i64) end40), (103, ptr fb42 0), (106, ptr fb42 0)]) rfl ?_
                            refine y (y_load 0 ((.fst .here)) rfl rfl (by first | rfl | (simp only [Pth.off, T.size]; omega)) (ok_fst ok_here) tx0) rfl ?_
                            refine r_pure tabOk 3 [2, 3, 9, 103, 107, 110] (E' := [(2, .one (.int .i64) a2), (3, .one .str a3), (9, ptr fb42 0), (103, ptr fb42 0), (107, .one (.raw (.slice none 0 0)) sv43), (110, .one (.int .i64) (IntKind.wrap .i64 (end40 - o6)))]) rfl ?_
                            obtain ⟨hc, h⟩ := ite_ex h
                            refine r_appendn tabOk zf5 1 rfl rfl rfl hc.1 rfl el5 Tryz.underlying3 hc.2 rfl fun v46 => ?_
                            refine r_pure tabOk 2 [2, 3, 9, 111, 113] (E' := [(2, .one (.int .i64) a2), (3, .one .str a3), (9, ptr fb42 0), (111, .one (.raw (.slice none 0 0)) v46), (113, ptr fb42 0)]) rfl ?_
                            refine r_store 0 ((.fst .here)) rfl rfl rfl (by first | rfl | (simp only [Pth.off, T.size]; omega)) (ok_fst ok_here) tx0 ?_
                            refine r_nil ?_
                            refine r_then ?_
                            refine r_dunfocus (P := Tryz.prog) (I := dI) kstr ?_
                            refine r_less [2, 3, 9] rfl ?_
                            exact r_meetk (pset .str a1 ((f41.1 ++ List.replicate (Int.toNat (IntKind.wrap .i64 (end40 - o6))) 0), f41.2.1, f41.2.2) o17) (.pointer (some ⟨fb42, 0, none⟩)) h rfl rfl
                          · rw [if_neg (ne_true_of_eq_false hc)] at h
                            refine r_skip ?_
                            refine r_then ?_
                            refine r_less [2, 3, 9] rfl ?_
                            exact r_meetk o17 g18 h rfl rfl
                        · intro o20 g21 h
                          rw [← hk19] at h
                          try dsimp only at h
                          refine r_seq ?_
                          obtain ⟨f22, hf22, h⟩ := bind_ex h
                          refine r_dfocus kstr hf22 fun fb23 sv24 tv25 dv26 hq => ?_
                          rw [hq]
                          clear hq
                          refine r_region ?_
                          refine r_pure tabOk 3 [2, 3, 9, 116] (E' := [(2, .one (.int .i64) a2), (3, .one .str a3), (9, ptr fb23 0), (116, ptr fb23 0)]) rfl ?_
                          refine y (y_load 0 ((.fst .here)) rfl rfl (by first | rfl | (simp only [Pth.off, T.size]; omega)) (ok_fst ok_here) tx0) rfl ?_
                          refine r_pure tabOk 1 [2, 3, 9, 117, 118] (E' := [(2, .one (.int .i64) a2), (3, .one .str a3), (9, ptr fb23 0), (117, .one (.raw (.slice none 0 0)) sv24), (118, .one (.int .i64) a2)]) rfl ?_
                          obtain ⟨hs27, h⟩ := ite_ex h
                          refine y (y_osub tabOk (i := a2) (j := (List.length f22.1 : Int)) rfl (sub_own 1 rfl) rfl rfl hs27.1 hs27.2.1 hs27.2.2 rfl ty5) rfl ?_
                          refine r_pure tabOk 1 [2, 3, 9, 119, 120] (E' := [(2, .one (.int .i64) a2), (3, .one .str a3), (9, ptr fb23 0), (119, .one (.raw (.slice none 0 0)) (subv (T.size (.int .u8)) sv24 (Int.toNat a2) (Int.toNat (List.length f22.1 : Int)))), (120, .one .str a3)]) rfl ?_
                          refine r_copyo tabOk 1 (i := (Int.toNat a2)) rfl rfl rfl (by have := hs27.2.1; omega) rfl ty5 rfl fun m28 => ?_
                          refine r_nil ?_
                          refine r_then ?_
                          obtain ⟨k29, hk29, h⟩ := bnd_ex h
                          refine r_joink (γ := Unit) (fun (o30 : List Int) _ => []) (fun (o30 : List Int) _ => [Res.var fb23 61 FT (sv24, tv25, dv26, ()), Res.own sv24 5 (.int .u8) (laidOver f22.1 (Int.toNat a2) a3), Res.own tv25 5 (.int .u8) f22.2.1, Res.dirty Tryz.prog dI dv26 o30, Res.dhole Tryz.prog dI mv1 o20 a1 (.pointer (some ⟨fb23, 0, none⟩)), Res.var b2 56 DT (r15.2.1, mv1, r15.2.2.2.1, r15.2.2.2.2.1, r15.2.2.2.2.2.1, r15.2.2.2.2.2.2.1, r15.2.2.2.2.2.2.2, ())]) k29 r ?_ ?_
                          · refine r_seq ?_
                            refine r_region ?_
                            refine r_pure tabOk 3 [2, 3, 9, 14] (E' := [(2, .one (.int .i64) a2), (3, .one .str a3), (9, ptr fb23 0), (14, .one (.int .i64) (IntKind.wrap .i64 (Int.tdiv a2 64)))]) rfl ?_
                            obtain ⟨s31, hs31, h⟩ := bnd_ex h
                            rw [hs31]
                            refine r_nil ?_
                            refine r_then ?_
                            refine r_block ?_
                            refine r_less [2, 3, 9, 14] rfl ?_
                            refine r_loopg (γ := Unit) (fun (s34 : Int × List Int) _ => [(2, .one (.int .i64) a2), (3, .one .str a3), (9, ptr fb23 0), (14, .one (.int .i64) s34.1)]) (fun (s34 : Int × List Int) _ => [Res.var fb23 61 FT (sv24, tv25, dv26, ()), Res.own sv24 5 (.int .u8) (laidOver f22.1 (Int.toNat a2) a3), Res.own tv25 5 (.int .u8) f22.2.1, Res.dirty Tryz.prog dI dv26 s34.2, Res.dhole Tryz.prog dI mv1 o20 a1 (.pointer (some ⟨fb23, 0, none⟩)), Res.var b2 56 DT (r15.2.1, mv1, r15.2.2.2.1, r15.2.2.2.2.1, r15.2.2.2.2.2.1, r15.2.2.2.2.2.2.1, r15.2.2.2.2.2.2.2, ())]) (disk_Disk_Write_l0 a2 a3 k29) (s31, f22.2.2) () h rfl rfl ?_
                            clear h
                            intro m35 s34 gg h
                            cases m35 with
                            | zero => cases h
                            | succ m35 =>
                            simp only [disk_Disk_Write_l0] at h
                            refine r_seq ?_
                            refine r_seq ?_
                            refine r_region ?_
                            refine r_pure tabOk 7 [2, 3, 9, 14, 130] (E' := [(2, .one (.int .i64) a2), (3, .one .str a3), (9, ptr fb23 0), (14, .one (.int .i64) s34.1), (130, .one .bool (decide ((IntKind.wrap .i64 (s34.1 * 64)) < (IntKind.wrap .i64 (a2 + (List.length a3 : Int))))))]) rfl ?_
                            obtain ⟨t36, ht36, h⟩ := bnd_ex h
                            rw [ht36]
                            refine r_pure tabOk 1 [2, 3, 9, 14, 131] (E' := [(2, .one (.int .i64) a2), (3, .one .str a3), (9, ptr fb23 0), (14, .one (.int .i64) s34.1), (131, .one .bool t36)]) rfl ?_
                            refine r_lsplit (γ := Unit) 3 (fun _ => [(2, .one (.int .i64) a2), (3, .one .str a3), (9, ptr fb23 0), (14, .one (.int .i64) s34.1), (134, .one .bool (t36 && (a3 != [])))]) (fun _ => [Res.var fb23 61 FT (sv24, tv25, dv26, ()), Res.own sv24 5 (.int .u8) (laidOver f22.1 (Int.toNat a2) a3), Res.own tv25 5 (.int .u8) f22.2.1, Res.dirty Tryz.prog dI dv26 s34.2, Res.dhole Tryz.prog dI mv1 o20 a1 (.pointer (some ⟨fb23, 0, none⟩)), Res.var b2 56 DT (r15.2.1, mv1, r15.2.2.2.1, r15.2.2.2.2.1, r15.2.2.2.2.2.1, r15.2.2.2.2.2.2.1, r15.2.2.2.2.2.2.2, ())]) ?_ (fun _ => ?_)
                            · clear h
                              rcases Bool.eq_false_or_eq_true t36 with hh | hh
                              · rw [hh]
                                refine r_pure tabOk 3 [2, 3, 9, 14, 134] (E' := [(2, .one (.int .i64) a2), (3, .one .str a3), (9, ptr fb23 0), (14, .one (.int .i64) s34.1), (134, .one .bool (a3 != []))]) rfl ?_
                                refine r_nil ?_
                                refine r_then ?_
                                exact r_meetg () rfl rfl
                              · rw [hh]
                                refine r_pure tabOk 3 [2, 3, 9, 14, 134] (E' := [(2, .one (.int .i64) a2), (3, .one .str a3), (9, ptr fb23 0), (14, .one (.int .i64) s34.1), (134, .one .bool false)]) rfl ?_
                                refine r_nil ?_
                                refine r_then ?_
                                exact r_meetg () rfl rfl
                            refine r_nil ?_
                            refine r_then ?_
                            refine r_if (b := (t36 && (a3 != []))) rfl (fun hc => ?_) (fun hc => ?_)
                            · rw [if_pos hc] at h
                              refine r_skip ?_
                              refine r_then ?_
                              refine r_seq ?_
                              refine r_block ?_
                              refine r_region ?_
                              refine r_pure tabOk 3 [2, 3, 9, 14, 139] (E' := [(2, .one (.int .i64) a2), (3, .one .str a3), (9, ptr fb23 0), (14, .one (.int .i64) s34.1), (139, ptr fb23 2)]) rfl ?_
                              refine y (y_load 0 ((.snd (.snd (.fst .here)))) rfl rfl (by first | rfl | (simp only [Pth.off, T.size]; omega)) (ok_snd (ok_snd (ok_fst ok_here))) ty59) rfl ?_
                              refine r_pure tabOk 1 [2, 3, 9, 14, 140, 141] (E' := [(2, .one (.int .i64) a2), (3, .one .str a3), (9, ptr fb23 0), (14, .one (.int .i64) s34.1), (140, .one (.raw (.map none)) dv26), (141, .one (.int .i64) s34.1)]) rfl ?_
                              refine r_undirty 3 rfl fun l38 hl38 => ?_
                              refine y (y_look 3 rfl rfl rfl kint Tryz.underlying59 zf3 rfl) rfl ?_
                              refine r_pure tabOk 1 [2, 3, 9, 14, 140, 141, 143] (E' := [(2, .one (.int .i64) a2), (3, .one .str a3), (9, ptr fb23 0), (14, .one (.int .i64) s34.1), (140, .one (.raw (.map none)) dv26), (141, .one (.int .i64) s34.1), (143, .one (.int .i64) (IntKind.wrap .i64 (((pget (.int .i64) s34.1 l38).getD 0) + 1)))]) rfl ?_
                              obtain ⟨hc, h⟩ := ite_ex h
                              refine r_mapUpdate 3 rfl rfl rfl rfl kint Tryz.underlying59 (by rw [← hl38, List.length_map] at hc; exact hc) ?_
                              refine r_redirty (P := Tryz.prog) (I := dI) (keys := kput s34.1 s34.2) 3 rfl (by rw [kput_keys, hl38]) ?_
                              refine r_nil ?_
                              refine r_inblock ?_
                              refine r_then ?_
                              refine r_region ?_
                              refine r_pure tabOk 3 [2, 3, 9, 14] (E' := [(2, .one (.int .i64) a2), (3, .one .str a3), (9, ptr fb23 0), (14, .one (.int .i64) (IntKind.wrap .i64 (s34.1 + 1)))]) rfl ?_
                              obtain ⟨s39, hs39, h⟩ := bnd_ex h
                              rw [hs39]
                              refine r_nil ?_
                              refine r_then ?_
                              refine r_less [2, 3, 9, 14] rfl ?_
                              exact r_backg (s39, (kput s34.1 s34.2)) () (Nat.lt_succ_self _) h rfl rfl
                            · rw [if_neg (ne_true_of_eq_false hc)] at h
                              refine r_exit ?_
                              refine e_then ?_
                              refine e_then ?_
                              refine e_eq ?_
                              refine r_then ?_
                              refine r_less [] rfl ?_
                              exact r_meetk s34.2 () h rfl rfl
                          · intro o30 gg h
                            rw [← hk29] at h
                            try dsimp only at h
                            refine r_seq ?_
                            refine r_region ?_
                            refine r_pure tabOk 1 [8] (E' := [(8, .one (.int .i64) 0)]) rfl ?_
                            refine r_nil ?_
                            refine r_then ?_
                            refine r_ret ?_
                            refine r_dunfocus (P := Tryz.prog) (I := dI) kstr ?_
                            refine r_imp_at (R' := Res.dfiles Tryz.prog dI mv1 (pset .str a1 ((laidOver f22.1 (Int.toNat a2) a3), f22.2.1, o30) o20)) 0 rfl dat_dfiles ?_
                            refine r_perm (L' := [Res.var b2 56 DT (r15.2.1, mv1, r15.2.2.2.1, r15.2.2.2.2.1, r15.2.2.2.2.2.1, r15.2.2.2.2.2.2.1, r15.2.2.2.2.2.2.2, ()), Res.dfiles Tryz.prog dI mv1 (pset .str a1 ((laidOver f22.1 (Int.toNat a2) a3), f22.2.1, o30) o20)]) ((List.perm_middle (a := Res.var b2 56 DT (r15.2.1, mv1, r15.2.2.2.1, r15.2.2.2.2.1, r15.2.2.2.2.2.1, r15.2.2.2.2.2.2.1, r15.2.2.2.2.2.2.2, ())) (l₁ := [Res.dfiles Tryz.prog dI mv1 (pset .str a1 ((laidOver f22.1 (Int.toNat a2) a3), f22.2.1, o30) o20)]) (l₂ := [])).trans (.cons _ (List.Perm.refl _))) ?_
                            refine r_disk (P := Tryz.prog) (I := dI) (D := (r15.2.1, (pset .str a1 ((laidOver f22.1 (Int.toNat a2) a3), f22.2.1, o30) o20), r15.2.2.2.1, r15.2.2.2.2.1, r15.2.2.2.2.2.1, r15.2.2.2.2.2.2.1, r15.2.2.2.2.2.2.2)) ?_
                            obtain rfl := Option.some.inj h
                            exact r_ret1 rfl (.tmp rfl) (fun _ _ g => g) (fun _ _ _ => (.cons_cons _ .slnil))

theorem slices_Clone__byte_byte_ok (a0 : List (Int)) (r : List (Int)) (h : slices_Clone__byte_byte a0 = some r) : Fn Tryz.prog 38 [.one (.sl 5 (.int .u8)) a0] [] (fun v => .one (.raw (.slice none 0 0)) v) (fun v => [Res.own v 5 (.int .u8) r]) := by
  unfold slices_Clone__byte_byte at h
  refine enter Tryz.func38 rfl 8 rfl rfl fun F => ?_
  refine r_seq ?_
  refine r_region ?_
  refine r_pure tabOk 1 [0] (E' := [(0, .one (.sl 5 (.int .u8)) a0)]) rfl ?_
  refine r_nil ?_
  refine r_then ?_
  refine r_seq ?_
  refine r_seq ?_
  refine r_region ?_
  refine r_pure tabOk 1 [0, 3] (E' := [(0, .one (.sl 5 (.int .u8)) a0), (3, .one (.sl 5 (.int .u8)) a0)]) rfl ?_
  refine r_slnil rfl Tryz.underlying24 rfl fun g1 hg1 => ?_
  refine r_nil ?_
  refine r_then ?_
  refine r_if (b := g1) rfl (fun hc => ?_) (fun hc => ?_)
  · have hx := hg1 hc
    subst hx
    have h : (some [] : Option (List Int)) = some r := by simpa using h
    refine r_seq ?_
    refine r_region ?_
    refine r_pure tabOk 1 [2] (E' := [(2, .one (.raw (.slice none 0 0)) (.slice none 0 0))]) rfl ?_
    refine r_nil ?_
    refine r_then ?_
    refine r_ret ?_
    refine t_then ?_
    refine r_nilown (.slice none 0 0) rfl 5 (.int .u8) ?_
    obtain rfl := Option.some.inj h
    exact r_ret1 rfl (.tmp rfl) (fun _ _ g => holds_raw.2 ⟨rfl, by rw [(holds_raw.1 g).1]; exact (holds_raw.1 g).2⟩) (fun _ _ g => by obtain ⟨rfl, _⟩ := holds_raw.1 g; exact (.cons_cons _ .slnil))
  · refine r_skip ?_
    refine r_then ?_
    refine r_seq ?_
    refine r_region ?_
    refine r_lits (B := 1) tabOk rfl el5 rfl rfl rfl .nil rfl fun v2 => ?_
    refine r_pure tabOk 1 [5, 6] (E' := [(5, .one (.raw (.slice none 0 0)) v2), (6, .one (.sl 5 (.int .u8)) a0)]) rfl ?_
    obtain ⟨hc, h⟩ := ite_ex h
    refine r_append (B := 1) tabOk 0 rfl rfl (src_sl rfl) rfl el5 rfl rfl hc rfl fun v3 => ?_
    refine r_pure tabOk 1 [2] (E' := [(2, .one (.raw (.slice none 0 0)) v3)]) rfl ?_
    refine r_nil ?_
    refine r_then ?_
    refine r_ret ?_
    obtain rfl := Option.some.inj h
    exact r_ret1 rfl (.tmp rfl) (fun _ _ g => holds_raw.2 ⟨rfl, by rw [(holds_raw.1 g).1]; exact (holds_raw.1 g).2⟩) (fun _ _ g => by obtain ⟨rfl, _⟩ := holds_raw.1 g; exact (.cons_cons _ .slnil))

theorem disk_Disk_Sync_ok (p0 : Value) (a0 : DiskS) (a1 : List Int) (r : Int × DiskS) (h : disk_Disk_Sync a0 a1 = some r) : Fn Tryz.prog 25 [.one (.raw (.pointer none)) p0, .one .str a1] [Res.disk Tryz.prog dI p0 a0] (fun _ => .one (.int .i64) r.1) (fun _ => [Res.disk Tryz.prog dI p0 r.2]) := by
  unfold disk_Disk_Sync at h
  refine enter Tryz.func25 rfl 34 rfl rfl fun F => ?_
  refine r_undisk fun b2 mv1 hp => ?_
  subst hp
  refine r_seq ?_
  refine r_region ?_
  refine r_pure tabOk 1 [0, 1] (E' := [(0, ptr b2 0), (1, .one .str a1)]) rfl ?_
  refine r_nil ?_
  refine r_then ?_
  refine r_seq ?_
  refine r_region ?_
  refine r_pure tabOk 2 [0, 9, 10] (E' := [(0, ptr b2 0), (9, ptr b2 0), (10, .one .str a1)]) rfl ?_
  obtain ⟨r3, hr3, h⟩ := bind_ex h
  refine r_call (Lo := []) (disk_Disk_found_ok b2 mv1 a0 a1 _ hr3) (by kernel_rfl) (List.Perm.refl _) rfl rfl fun v4 => ?_
  refine r_pure tabOk 5 [0, 5, 6] (E' := [(0, ptr b2 0), (5, .one (.raw (.pointer none)) (tupv v4 0)), (6, .one (.int .i64) r3)]) rfl ?_
  refine r_nil ?_
  refine r_then ?_
  refine r_seq ?_
  refine r_seq ?_
  refine r_region ?_
  refine r_pure tabOk 2 [0, 5, 6, 15] (E' := [(0, ptr b2 0), (5, .one (.raw (.pointer none)) (tupv v4 0)), (6, .one (.int .i64) r3), (15, .one .bool (r3 != 0))]) rfl ?_
  refine r_nil ?_
  refine r_then ?_
  refine r_if (b := (r3 != 0)) rfl (fun hc => ?_) (fun hc => ?_)
  · rw [if_pos hc] at h
    refine r_seq ?_
    refine r_region ?_
    refine r_pure tabOk 2 [4] (E' := [(4, .one (.int .i64) r3)]) rfl ?_
    refine r_nil ?_
    refine r_then ?_
    refine r_ret ?_
    refine t_then ?_
    refine r_imp_at (R' := Res.dfiles Tryz.prog dI mv1 a0.2.1) 1 rfl dfound_dfiles ?_
    refine r_disk (P := Tryz.prog) (I := dI) (D := a0) ?_
    obtain rfl := Option.some.inj h
    exact r_ret1 rfl (.tmp rfl) (fun _ _ g => g) (fun _ _ _ => (.cons_cons _ .slnil))
  · rw [if_neg (ne_true_of_eq_false hc)] at h
    refine r_skip ?_
    refine r_then ?_
    refine r_seq ?_
    refine r_seq ?_
    refine r_region ?_
    refine r_pure tabOk 1 [5, 17] (E' := [(5, .one (.raw (.pointer none)) (tupv v4 0)), (17, ptr b2 0)]) rfl ?_
    obtain ⟨r5, hr5, h⟩ := bind_ex h
    refine r_call (Lo := [Res.dfound Tryz.prog dI mv1 a0.2.1 a1 (tupv v4 0) r3]) (disk_Disk_counted_ok b2 mv1 a0 2 _ hr5) (by kernel_rfl) (List.Perm.refl _) rfl rfl fun _ => ?_
    refine r_pure tabOk 1 [5, 7] (E' := [(5, .one (.raw (.pointer none)) (tupv v4 0)), (7, .one (.int .i64) r5.1)]) rfl ?_
    refine r_nil ?_
    refine r_then ?_
    refine r_seq ?_
    refine r_region ?_
    refine r_pure tabOk 2 [5, 7, 20] (E' := [(5, .one (.raw (.pointer none)) (tupv v4 0)), (7, .one (.int .i64) r5.1), (20, .one .bool (r5.1 != 0))]) rfl ?_
    refine r_nil ?_
    refine r_then ?_
    refine r_if (b := (r5.1 != 0)) rfl (fun hc => ?_) (fun hc => ?_)
    · rw [if_pos hc] at h
      refine r_seq ?_
      refine r_region ?_
      refine r_pure tabOk 2 [4] (E' := [(4, .one (.int .i64) r5.1)]) rfl ?_
      refine r_nil ?_
      refine r_then ?_
      refine r_ret ?_
      refine t_then ?_
      refine r_imp_at (R' := Res.dfiles Tryz.prog dI mv1 a0.2.1) 1 rfl dfound_dfiles ?_
      refine r_disk (P := Tryz.prog) (I := dI) (D := (r5.2.1, a0.2.1, r5.2.2.2.1, r5.2.2.2.2.1, r5.2.2.2.2.2.1, r5.2.2.2.2.2.2.1, r5.2.2.2.2.2.2.2)) ?_
      obtain rfl := Option.some.inj h
      exact r_ret1 rfl (.tmp rfl) (fun _ _ g => g) (fun _ _ _ => (.cons_cons _ .slnil))
    · rw [if_neg (ne_true_of_eq_false hc)] at h
      refine r_skip ?_
      refine r_then ?_
      refine r_seq ?_
      obtain ⟨hc, h⟩ := ite_ex h
      refine r_imp_at (R' := Res.dat Tryz.prog dI mv1 a0.2.1 a1 (tupv v4 0)) 1 rfl (dfound_dat hc) ?_
      obtain ⟨f6, hf6, h⟩ := bind_ex h
      refine r_perm (L' := [Res.dat Tryz.prog dI mv1 a0.2.1 a1 (tupv v4 0), Res.var b2 56 DT (r5.2.1, mv1, r5.2.2.2.1, r5.2.2.2.2.1, r5.2.2.2.2.2.1, r5.2.2.2.2.2.2.1, r5.2.2.2.2.2.2.2, ())]) ((List.perm_middle (a := Res.dat Tryz.prog dI mv1 a0.2.1 a1 (tupv v4 0)) (l₁ := [Res.var b2 56 DT (r5.2.1, mv1, r5.2.2.2.1, r5.2.2.2.2.1, r5.2.2.2.2.2.1, r5.2.2.2.2.2.2.1, r5.2.2.2.2.2.2.2, ())]) (l₂ := [])).trans (.cons _ (List.Perm.refl _))) ?_
      refine r_dfocus kstr hf6 fun fb7 sv8 tv9 dv10 hq => ?_
      rw [hq]
      clear hq
      refine r_region ?_
      refine r_pure tabOk 4 [5, 22, 25] (E' := [(5, ptr fb7 0), (22, ptr fb7 0), (25, ptr fb7 0)]) rfl ?_
      refine y (y_load 0 ((.fst .here)) rfl rfl (by first | rfl | (simp only [Pth.off, T.size]; omega)) (ok_fst ok_here) tx0) rfl ?_
      obtain ⟨r11, hr11, h⟩ := bind_ex h
      refine r_callwo (slices_Clone__byte_byte_ok f6.1 _ hr11) (by kernel_rfl) (fun _ => rfl) (fun _ r hr => by rcases List.mem_singleton.1 hr with rfl; exact Res.free_own rfl) (.sub rfl (sub_own 1 rfl) .nil) rfl fun v12 => ?_
      refine r_pure tabOk 2 [5, 27, 29] (E' := [(5, ptr fb7 0), (27, .one (.raw (.slice none 0 0)) v12), (29, ptr fb7 1)]) rfl ?_
      refine r_store 1 ((.snd (.fst .here))) rfl rfl rfl (by first | rfl | (simp only [Pth.off, T.size]; omega)) (ok_snd (ok_fst ok_here)) tx0 ?_
      refine r_lose (L' := [Res.own v12 5 (.int .u8) r11, Res.var fb7 61 FT (sv8, v12, dv10, ()), Res.own sv8 5 (.int .u8) f6.1, Res.dirty Tryz.prog dI dv10 f6.2.2, Res.dhole Tryz.prog dI mv1 a0.2.1 a1 (.pointer (some ⟨fb7, 0, none⟩)), Res.var b2 56 DT (r5.2.1, mv1, r5.2.2.2.1, r5.2.2.2.2.1, r5.2.2.2.2.2.1, r5.2.2.2.2.2.2.1, r5.2.2.2.2.2.2.2, ())]) (.cons_cons _ (.cons_cons _ (.cons_cons _ (.cons _ (.cons_cons _ (.cons_cons _ (.cons_cons _ .slnil))))))) ?_
      refine r_nil ?_
      refine r_then ?_
      refine r_seq ?_
      refine r_region ?_
      refine r_pure tabOk 3 [32] (E' := [(32, ptr fb7 2)]) rfl ?_
      refine y (y_load 1 ((.snd (.snd (.fst .here)))) rfl rfl (by first | rfl | (simp only [Pth.off, T.size]; omega)) (ok_snd (ok_snd (ok_fst ok_here))) ty59) rfl ?_
      refine r_undirty 3 rfl fun l13 hl13 => ?_
      refine r_clear 3 rfl rfl Tryz.underlying59 ?_
      refine r_redirty (P := Tryz.prog) (I := dI) (keys := []) 3 rfl rfl ?_
      refine r_nil ?_
      refine r_then ?_
      refine r_seq ?_
      refine r_region ?_
      refine r_pure tabOk 1 [4] (E' := [(4, .one (.int .i64) 0)]) rfl ?_
      refine r_nil ?_
      refine r_then ?_
      refine r_ret ?_
      refine r_perm (L' := [Res.var fb7 61 FT (sv8, v12, dv10, ()), Res.own sv8 5 (.int .u8) f6.1, Res.own v12 5 (.int .u8) r11, Res.dirty Tryz.prog dI dv10 [], Res.dhole Tryz.prog dI mv1 a0.2.1 a1 (.pointer (some ⟨fb7, 0, none⟩)), Res.var b2 56 DT (r5.2.1, mv1, r5.2.2.2.1, r5.2.2.2.2.1, r5.2.2.2.2.2.1, r5.2.2.2.2.2.2.1, r5.2.2.2.2.2.2.2, ())]) ((List.perm_middle (a := Res.var fb7 61 FT (sv8, v12, dv10, ())) (l₁ := [Res.own v12 5 (.int .u8) r11]) (l₂ := [Res.own sv8 5 (.int .u8) f6.1, Res.dirty Tryz.prog dI dv10 [], Res.dhole Tryz.prog dI mv1 a0.2.1 a1 (.pointer (some ⟨fb7, 0, none⟩)), Res.var b2 56 DT (r5.2.1, mv1, r5.2.2.2.1, r5.2.2.2.2.1, r5.2.2.2.2.2.1, r5.2.2.2.2.2.2.1, r5.2.2.2.2.2.2.2, ())])).trans (.cons _ ((List.perm_middle (a := Res.own sv8 5 (.int .u8) f6.1) (l₁ := [Res.own v12 5 (.int .u8) r11]) (l₂ := [Res.dirty Tryz.prog dI dv10 [], Res.dhole Tryz.prog dI mv1 a0.2.1 a1 (.pointer (some ⟨fb7, 0, none⟩)), Res.var b2 56 DT (r5.2.1, mv1, r5.2.2.2.1, r5.2.2.2.2.1, r5.2.2.2.2.2.1, r5.2.2.2.2.2.2.1, r5.2.2.2.2.2.2.2, ())])).trans (.cons _ (List.Perm.refl _))))) ?_
      refine r_dunfocus (P := Tryz.prog) (I := dI) kstr ?_
      refine r_imp_at (R' := Res.dfiles Tryz.prog dI mv1 (pset .str a1 (f6.1, r11, []) a0.2.1)) 0 rfl dat_dfiles ?_
      refine r_perm (L' := [Res.var b2 56 DT (r5.2.1, mv1, r5.2.2.2.1, r5.2.2.2.2.1, r5.2.2.2.2.2.1, r5.2.2.2.2.2.2.1, r5.2.2.2.2.2.2.2, ()), Res.dfiles Tryz.prog dI mv1 (pset .str a1 (f6.1, r11, []) a0.2.1)]) ((List.perm_middle (a := Res.var b2 56 DT (r5.2.1, mv1, r5.2.2.2.1, r5.2.2.2.2.1, r5.2.2.2.2.2.1, r5.2.2.2.2.2.2.1, r5.2.2.2.2.2.2.2, ())) (l₁ := [Res.dfiles Tryz.prog dI mv1 (pset .str a1 (f6.1, r11, []) a0.2.1)]) (l₂ := [])).trans (.cons _ (List.Perm.refl _))) ?_
      refine r_disk (P := Tryz.prog) (I := dI) (D := (r5.2.1, (pset .str a1 (f6.1, r11, []) a0.2.1), r5.2.2.2.1, r5.2.2.2.2.1, r5.2.2.2.2.2.1, r5.2.2.2.2.2.2.1, r5.2.2.2.2.2.2.2)) ?_
      obtain rfl := Option.some.inj h
      exact r_ret1 rfl (.tmp rfl) (fun _ _ g => g) (fun _ _ _ => (.cons_cons _ .slnil))

theorem disk_Disk_Rename_ok (p0 : Value) (a0 : DiskS) (a1 : List Int) (a2 : List Int) (r : Int × DiskS) (h : disk_Disk_Rename a0 a1 a2 = some r) : Fn Tryz.prog 35 [.one (.raw (.pointer none)) p0, .one .str a1, .one .str a2] [Res.disk Tryz.prog dI p0 a0] (fun _ => .one (.int .i64) r.1) (fun _ => [Res.disk Tryz.prog dI p0 r.2]) := by
  unfold disk_Disk_Rename at h
  refine enter Tryz.func35 rfl 32 rfl rfl fun F => ?_
  refine r_undisk fun b2 mv1 hp => ?_
  subst hp
  refine r_seq ?_
  refine r_region ?_
  refine r_pure tabOk 1 [0, 1, 2] (E' := [(0, ptr b2 0), (1, .one .str a1), (2, .one .str a2)]) rfl ?_
  refine r_nil ?_
  refine r_then ?_
  refine r_seq ?_
  refine r_region ?_
  refine r_pure tabOk 2 [0, 1, 2, 10, 11] (E' := [(0, ptr b2 0), (1, .one .str a1), (2, .one .str a2), (10, ptr b2 0), (11, .one .str a1)]) rfl ?_
  obtain ⟨r3, hr3, h⟩ := bind_ex h
  refine r_call (Lo := []) (disk_Disk_found_ok b2 mv1 a0 a1 _ hr3) (by kernel_rfl) (List.Perm.refl _) rfl rfl fun v4 => ?_
  refine r_pure tabOk 5 [0, 1, 2, 7, 8] (E' := [(0, ptr b2 0), (1, .one .str a1), (2, .one .str a2), (7, .one (.raw (.pointer none)) (tupv v4 0)), (8, .one (.int .i64) r3)]) rfl ?_
  refine r_nil ?_
  refine r_then ?_
  refine r_seq ?_
  refine r_seq ?_
  refine r_region ?_
  refine r_pure tabOk 2 [0, 1, 2, 7, 8, 16] (E' := [(0, ptr b2 0), (1, .one .str a1), (2, .one .str a2), (7, .one (.raw (.pointer none)) (tupv v4 0)), (8, .one (.int .i64) r3), (16, .one .bool (r3 != 0))]) rfl ?_
  refine r_nil ?_
  refine r_then ?_
  refine r_if (b := (r3 != 0)) rfl (fun hc => ?_) (fun hc => ?_)
  · rw [if_pos hc] at h
    refine r_seq ?_
    refine r_region ?_
    refine r_pure tabOk 2 [6] (E' := [(6, .one (.int .i64) r3)]) rfl ?_
    refine r_nil ?_
    refine r_then ?_
    refine r_ret ?_
    refine t_then ?_
    refine r_imp_at (R' := Res.dfiles Tryz.prog dI mv1 a0.2.1) 1 rfl dfound_dfiles ?_
    refine r_disk (P := Tryz.prog) (I := dI) (D := a0) ?_
    obtain rfl := Option.some.inj h
    exact r_ret1 rfl (.tmp rfl) (fun _ _ g => g) (fun _ _ _ => (.cons_cons _ .slnil))
  · rw [if_neg (ne_true_of_eq_false hc)] at h
    refine r_skip ?_
    refine r_then ?_
    refine r_seq ?_
    refine r_seq ?_
    refine r_region ?_
    refine r_pure tabOk 1 [0, 1, 2, 7, 18] (E' := [(0, ptr b2 0), (1, .one .str a1), (2, .one .str a2), (7, .one (.raw (.pointer none)) (tupv v4 0)), (18, .one .str a2)]) rfl ?_
    obtain ⟨r5, hr5, h⟩ := bind_ex h
    refine r_calls (disk_isName_ok a2 _ hr5) (by kernel_rfl) rfl rfl ?_
    refine r_pure tabOk 1 [0, 1, 2, 7, 20] (E' := [(0, ptr b2 0), (1, .one .str a1), (2, .one .str a2), (7, .one (.raw (.pointer none)) (tupv v4 0)), (20, .one .bool (!r5))]) rfl ?_
    refine r_nil ?_
    refine r_then ?_
    refine r_if (b := (!r5)) rfl (fun hc => ?_) (fun hc => ?_)
    · rw [if_pos hc] at h
      refine r_seq ?_
      refine r_region ?_
      refine r_pure tabOk 1 [6] (E' := [(6, .one (.int .i64) 1)]) rfl ?_
      refine r_nil ?_
      refine r_then ?_
      refine r_ret ?_
      refine t_then ?_
      refine r_imp_at (R' := Res.dfiles Tryz.prog dI mv1 a0.2.1) 1 rfl dfound_dfiles ?_
      refine r_disk (P := Tryz.prog) (I := dI) (D := a0) ?_
      obtain rfl := Option.some.inj h
      exact r_ret1 rfl (.tmp rfl) (fun _ _ g => g) (fun _ _ _ => (.cons_cons _ .slnil))
    · rw [if_neg (ne_true_of_eq_false hc)] at h
      refine r_skip ?_
      refine r_then ?_
      refine r_seq ?_
      refine r_region ?_
      refine r_pure tabOk 3 [0, 1, 2, 7, 23] (E' := [(0, ptr b2 0), (1, .one .str a1), (2, .one .str a2), (7, .one (.raw (.pointer none)) (tupv v4 0)), (23, ptr b2 1)]) rfl ?_
      refine y (y_load 0 ((.snd (.fst .here))) rfl rfl (by first | rfl | (simp only [Pth.off, T.size]; omega)) (ok_snd (ok_fst ok_here)) ty54) rfl ?_
      refine r_pure tabOk 1 [0, 2, 7, 24, 25] (E' := [(0, ptr b2 0), (2, .one .str a2), (7, .one (.raw (.pointer none)) (tupv v4 0)), (24, .one (.raw (.map none)) mv1), (25, .one .str a1)]) rfl ?_
      obtain ⟨hc, h⟩ := ite_ex h
      refine r_imp_at (R' := Res.dat Tryz.prog dI mv1 a0.2.1 a1 (tupv v4 0)) 1 rfl (dfound_dat hc) ?_
      obtain ⟨f6, hf6, h⟩ := bind_ex h
      refine r_perm (L' := [Res.dat Tryz.prog dI mv1 a0.2.1 a1 (tupv v4 0), Res.var b2 56 DT (a0.1, mv1, a0.2.2.1, a0.2.2.2.1, a0.2.2.2.2.1, a0.2.2.2.2.2.1, a0.2.2.2.2.2.2, ())]) ((List.perm_middle (a := Res.dat Tryz.prog dI mv1 a0.2.1 a1 (tupv v4 0)) (l₁ := [Res.var b2 56 DT (a0.1, mv1, a0.2.2.1, a0.2.2.2.1, a0.2.2.2.2.1, a0.2.2.2.2.2.1, a0.2.2.2.2.2.2, ())]) (l₂ := [])).trans (.cons _ (List.Perm.refl _))) ?_
      refine r_dfocus kstr hf6 fun fb7 sv8 tv9 dv10 hq => ?_
      rw [hq]
      clear hq
      refine r_perm (L' := [Res.dhole Tryz.prog dI mv1 a0.2.1 a1 (.pointer (some ⟨fb7, 0, none⟩)), Res.var fb7 61 FT (sv8, tv9, dv10, ()), Res.own sv8 5 (.int .u8) f6.1, Res.own tv9 5 (.int .u8) f6.2.1, Res.dirty Tryz.prog dI dv10 f6.2.2, Res.var b2 56 DT (a0.1, mv1, a0.2.2.1, a0.2.2.2.1, a0.2.2.2.2.1, a0.2.2.2.2.2.1, a0.2.2.2.2.2.2, ())]) ((List.perm_middle (a := Res.dhole Tryz.prog dI mv1 a0.2.1 a1 (.pointer (some ⟨fb7, 0, none⟩))) (l₁ := [Res.var fb7 61 FT (sv8, tv9, dv10, ()), Res.own sv8 5 (.int .u8) f6.1, Res.own tv9 5 (.int .u8) f6.2.1, Res.dirty Tryz.prog dI dv10 f6.2.2]) (l₂ := [Res.var b2 56 DT (a0.1, mv1, a0.2.2.1, a0.2.2.2.1, a0.2.2.2.2.1, a0.2.2.2.2.2.1, a0.2.2.2.2.2.2, ())])).trans (.cons _ (List.Perm.refl _))) ?_
      refine r_ddelete_hole kstr rfl rfl Tryz.underlying54 rfl ?_
      refine r_nil ?_
      refine r_then ?_
      refine r_seq ?_
      refine r_region ?_
      refine r_pure tabOk 3 [2, 7, 28] (E' := [(2, .one .str a2), (7, ptr fb7 0), (28, ptr b2 1)]) rfl ?_
      refine y (y_load 5 ((.snd (.fst .here))) rfl rfl (by first | rfl | (simp only [Pth.off, T.size]; omega)) (ok_snd (ok_fst ok_here)) ty54) rfl ?_
      refine r_pure tabOk 2 [29, 30, 31] (E' := [(29, .one (.raw (.map none)) mv1), (30, .one .str a2), (31, ptr fb7 0)]) rfl ?_
      obtain ⟨hc, h⟩ := ite_ex h
      refine r_perm (L' := [Res.var fb7 61 FT (sv8, tv9, dv10, ()), Res.own sv8 5 (.int .u8) f6.1, Res.own tv9 5 (.int .u8) f6.2.1, Res.dirty Tryz.prog dI dv10 f6.2.2, Res.dfiles Tryz.prog dI mv1 (pdel .str a1 a0.2.1), Res.var b2 56 DT (a0.1, mv1, a0.2.2.1, a0.2.2.2.1, a0.2.2.2.2.1, a0.2.2.2.2.2.1, a0.2.2.2.2.2.2, ())]) ((List.perm_middle (a := Res.var fb7 61 FT (sv8, tv9, dv10, ())) (l₁ := [Res.dfiles Tryz.prog dI mv1 (pdel .str a1 a0.2.1)]) (l₂ := [Res.own sv8 5 (.int .u8) f6.1, Res.own tv9 5 (.int .u8) f6.2.1, Res.dirty Tryz.prog dI dv10 f6.2.2, Res.var b2 56 DT (a0.1, mv1, a0.2.2.1, a0.2.2.2.1, a0.2.2.2.2.1, a0.2.2.2.2.2.1, a0.2.2.2.2.2.2, ())])).trans (.cons _ ((List.perm_middle (a := Res.own sv8 5 (.int .u8) f6.1) (l₁ := [Res.dfiles Tryz.prog dI mv1 (pdel .str a1 a0.2.1)]) (l₂ := [Res.own tv9 5 (.int .u8) f6.2.1, Res.dirty Tryz.prog dI dv10 f6.2.2, Res.var b2 56 DT (a0.1, mv1, a0.2.2.1, a0.2.2.2.1, a0.2.2.2.2.1, a0.2.2.2.2.2.1, a0.2.2.2.2.2.2, ())])).trans (.cons _ ((List.perm_middle (a := Res.own tv9 5 (.int .u8) f6.2.1) (l₁ := [Res.dfiles Tryz.prog dI mv1 (pdel .str a1 a0.2.1)]) (l₂ := [Res.dirty Tryz.prog dI dv10 f6.2.2, Res.var b2 56 DT (a0.1, mv1, a0.2.2.1, a0.2.2.2.1, a0.2.2.2.2.1, a0.2.2.2.2.2.1, a0.2.2.2.2.2.2, ())])).trans (.cons _ ((List.perm_middle (a := Res.dirty Tryz.prog dI dv10 f6.2.2) (l₁ := [Res.dfiles Tryz.prog dI mv1 (pdel .str a1 a0.2.1)]) (l₂ := [Res.var b2 56 DT (a0.1, mv1, a0.2.2.1, a0.2.2.2.1, a0.2.2.2.2.1, a0.2.2.2.2.2.1, a0.2.2.2.2.2.2, ())])).trans (.cons _ (List.Perm.refl _))))))))) ?_
      refine r_dinsert (P := Tryz.prog) (I := dI) kstr rfl rfl rfl Tryz.underlying54 hc ?_
      refine r_nil ?_
      refine r_then ?_
      refine r_seq ?_
      refine r_region ?_
      refine r_pure tabOk 1 [6] (E' := [(6, .one (.int .i64) 0)]) rfl ?_
      refine r_nil ?_
      refine r_then ?_
      refine r_ret ?_
      refine r_imp_at (R' := Res.dfiles Tryz.prog dI mv1 (pput .str a2 (f6.1, f6.2.1, f6.2.2) (pdel .str a1 a0.2.1))) 0 rfl dat_dfiles ?_
      refine r_perm (L' := [Res.var b2 56 DT (a0.1, mv1, a0.2.2.1, a0.2.2.2.1, a0.2.2.2.2.1, a0.2.2.2.2.2.1, a0.2.2.2.2.2.2, ()), Res.dfiles Tryz.prog dI mv1 (pput .str a2 (f6.1, f6.2.1, f6.2.2) (pdel .str a1 a0.2.1))]) ((List.perm_middle (a := Res.var b2 56 DT (a0.1, mv1, a0.2.2.1, a0.2.2.2.1, a0.2.2.2.2.1, a0.2.2.2.2.2.1, a0.2.2.2.2.2.2, ())) (l₁ := [Res.dfiles Tryz.prog dI mv1 (pput .str a2 (f6.1, f6.2.1, f6.2.2) (pdel .str a1 a0.2.1))]) (l₂ := [])).trans (.cons _ (List.Perm.refl _))) ?_
      refine r_disk (P := Tryz.prog) (I := dI) (D := (a0.1, (pput .str a2 (f6.1, f6.2.1, f6.2.2) (pdel .str a1 a0.2.1)), a0.2.2.1, a0.2.2.2.1, a0.2.2.2.2.1, a0.2.2.2.2.2.1, a0.2.2.2.2.2.2)) ?_
      obtain rfl := Option.some.inj h
      exact r_ret1 rfl (.tmp rfl) (fun _ _ g => g) (fun _ _ _ => (.cons_cons _ .slnil))

theorem mark_laid_ok (p0 : Value) (a0 : DiskS) (a1 : List Int) (r : (Int × Unit × List Int × Int × Int × Unit) × Int × DiskS) (h : mark_laid a0 a1 = some r) : Fn Tryz.prog 23 [.one (.raw (.pointer none)) p0, .one .str a1] [Res.disk Tryz.prog dI p0 a0] (fun v => .tup [⟨.raw (.pointer none), tupv v 0⟩, ⟨(.int .i64), r.2.1⟩]) (fun v => [Res.disk Tryz.prog dI p0 r.2.2, Res.clsif (CMark p0) (tupv v 0) r.1.2 r.1.1]) := by
  unfold mark_laid at h
  refine enter Tryz.func23 rfl 49 rfl rfl fun F => ?_
  refine r_seq ?_
  refine r_region ?_
  refine r_pure tabOk 2 [0, 1] (E' := [(0, .one (.raw (.pointer none)) p0), (1, .one .str a1)]) rfl ?_
  refine r_nil ?_
  refine r_then ?_
  refine r_seq ?_
  refine r_seq ?_
  refine r_region ?_
  refine r_pure tabOk 2 [0, 1, 10, 11] (E' := [(0, .one (.raw (.pointer none)) p0), (1, .one .str a1), (10, .one (.raw (.pointer none)) p0), (11, .one .str a1)]) rfl ?_
  obtain ⟨hc, h⟩ := ite_ex h
  refine y (y_cat rfl rfl hc) rfl ?_
  obtain ⟨r1, hr1, h⟩ := bind_ex h
  refine r_call (Lo := []) (disk_Disk_Remove_ok p0 a0 (a1 ++ [46, 116, 109, 112]) _ hr1) (by kernel_rfl) (List.Perm.refl _) rfl rfl fun _ => ?_
  refine r_pure tabOk 1 [0, 1, 6] (E' := [(0, .one (.raw (.pointer none)) p0), (1, .one .str a1), (6, .one (.int .i64) r1.1)]) rfl ?_
  refine r_nil ?_
  refine r_then ?_
  refine r_seq ?_
  refine r_region ?_
  refine r_pure tabOk 3 [0, 1, 6, 16] (E' := [(0, .one (.raw (.pointer none)) p0), (1, .one .str a1), (6, .one (.int .i64) r1.1), (16, .one .bool (r1.1 != 0))]) rfl ?_
  obtain ⟨b2, hbb2, h⟩ := bnd_ex h
  rw [hbb2]
  refine r_lsplit (γ := Unit) 3 (fun _ => [(0, .one (.raw (.pointer none)) p0), (1, .one .str a1), (6, .one (.int .i64) r1.1), (19, .one .bool (b2 && (r1.1 != 5)))]) (fun _ => [Res.disk Tryz.prog dI p0 r1.2]) ?_ (fun _ => ?_)
  · clear h
    cases b2 with
    | true =>
    refine r_pure tabOk 3 [0, 1, 6, 19] (E' := [(0, .one (.raw (.pointer none)) p0), (1, .one .str a1), (6, .one (.int .i64) r1.1), (19, .one .bool (r1.1 != 5))]) rfl ?_
    refine r_nil ?_
    refine r_then ?_
    exact r_meetg () rfl rfl
    | false =>
    refine r_pure tabOk 3 [0, 1, 6, 19] (E' := [(0, .one (.raw (.pointer none)) p0), (1, .one .str a1), (6, .one (.int .i64) r1.1), (19, .one .bool false)]) rfl ?_
    refine r_nil ?_
    refine r_then ?_
    exact r_meetg () rfl rfl
  refine r_nil ?_
  refine r_then ?_
  refine r_if (b := (b2 && (r1.1 != 5))) rfl (fun hc => ?_) (fun hc => ?_)
  · rw [if_pos hc] at h
    refine r_seq ?_
    refine r_region ?_
    refine r_pure tabOk 3 [4, 5] (E' := [(4, .one (.raw (.pointer none)) (.pointer none)), (5, .one (.int .i64) r1.1)]) rfl ?_
    refine r_nil ?_
    refine r_then ?_
    refine r_ret ?_
    refine t_then ?_
    refine r_nocls (K := (CMark p0)) (x := ((), [], 0, 0, ())) (e := 1) (by decide) ?_
    obtain rfl := Option.some.inj h
    refine r_perm (L' := [Res.disk Tryz.prog dI p0 r1.2, Res.clsif (CMark p0) NV ((), [], 0, 0, ()) 1]) ((List.perm_middle (a := Res.disk Tryz.prog dI p0 r1.2) (l₁ := [Res.clsif (CMark p0) NV ((), [], 0, 0, ()) 1]) (l₂ := [])).trans (.cons _ (List.Perm.refl _))) ?_
    exact r_rets (rs := [.tmp 4, .tmp 5]) rfl (.cons (.tmp rfl) (.cons (.tmp rfl) (.nil))) rfl (fun _ vs g => by cases g with | cons h0 g => cases g with | cons h1 g => cases g; exact ⟨_, rfl, .cons (raw_self h0) (.cons h1 (.nil))⟩) (fun _ vs g => by cases g with | cons h0 g => cases g with | cons h1 g => cases g; rw [raw_eq h0]; exact List.Sublist.refl _)
  · rw [if_neg (ne_true_of_eq_false hc)] at h
    refine r_skip ?_
    refine r_then ?_
    refine r_seq ?_
    refine r_seq ?_
    refine r_region ?_
    refine r_pure tabOk 2 [0, 1, 21, 22] (E' := [(0, .one (.raw (.pointer none)) p0), (1, .one .str a1), (21, .one (.raw (.pointer none)) p0), (22, .one .str a1)]) rfl ?_
    obtain ⟨hc, h⟩ := ite_ex h
    refine y (y_cat rfl rfl hc) rfl ?_
    obtain ⟨r3, hr3, h⟩ := bind_ex h
    refine r_calls (mark_slot_ok (-1) _ hr3) (by kernel_rfl) rfl rfl ?_
    obtain ⟨r4, hr4, h⟩ := bind_ex h
    refine r_calls (strings_Repeat_ok r3 2 _ hr4) (by kernel_rfl) rfl rfl ?_
    obtain ⟨r5, hr5, h⟩ := bind_ex h
    refine r_call (Lo := []) (disk_Disk_Write_ok p0 r1.2 (a1 ++ [46, 116, 109, 112]) 0 r4 _ hr5) (by kernel_rfl) (List.Perm.refl _) rfl rfl fun _ => ?_
    refine r_pure tabOk 1 [0, 1, 7] (E' := [(0, .one (.raw (.pointer none)) p0), (1, .one .str a1), (7, .one (.int .i64) r5.1)]) rfl ?_
    refine r_nil ?_
    refine r_then ?_
    refine r_seq ?_
    refine r_region ?_
    refine r_pure tabOk 2 [0, 1, 7, 28] (E' := [(0, .one (.raw (.pointer none)) p0), (1, .one .str a1), (7, .one (.int .i64) r5.1), (28, .one .bool (r5.1 != 0))]) rfl ?_
    refine r_nil ?_
    refine r_then ?_
    refine r_if (b := (r5.1 != 0)) rfl (fun hc => ?_) (fun hc => ?_)
    · rw [if_pos hc] at h
      refine r_seq ?_
      refine r_region ?_
      refine r_pure tabOk 3 [4, 5] (E' := [(4, .one (.raw (.pointer none)) (.pointer none)), (5, .one (.int .i64) r5.1)]) rfl ?_
      refine r_nil ?_
      refine r_then ?_
      refine r_ret ?_
      refine t_then ?_
      refine r_nocls (K := (CMark p0)) (x := ((), [], 0, 0, ())) (e := 1) (by decide) ?_
      obtain rfl := Option.some.inj h
      refine r_perm (L' := [Res.disk Tryz.prog dI p0 r5.2, Res.clsif (CMark p0) NV ((), [], 0, 0, ()) 1]) ((List.perm_middle (a := Res.disk Tryz.prog dI p0 r5.2) (l₁ := [Res.clsif (CMark p0) NV ((), [], 0, 0, ()) 1]) (l₂ := [])).trans (.cons _ (List.Perm.refl _))) ?_
      exact r_rets (rs := [.tmp 4, .tmp 5]) rfl (.cons (.tmp rfl) (.cons (.tmp rfl) (.nil))) rfl (fun _ vs g => by cases g with | cons h0 g => cases g with | cons h1 g => cases g; exact ⟨_, rfl, .cons (raw_self h0) (.cons h1 (.nil))⟩) (fun _ vs g => by cases g with | cons h0 g => cases g with | cons h1 g => cases g; rw [raw_eq h0]; exact List.Sublist.refl _)
    · rw [if_neg (ne_true_of_eq_false hc)] at h
      refine r_skip ?_
      refine r_then ?_
      refine r_seq ?_
      refine r_seq ?_
      refine r_region ?_
      refine r_pure tabOk 2 [0, 1, 30, 31] (E' := [(0, .one (.raw (.pointer none)) p0), (1, .one .str a1), (30, .one (.raw (.pointer none)) p0), (31, .one .str a1)]) rfl ?_
      obtain ⟨hc, h⟩ := ite_ex h
      refine y (y_cat rfl rfl hc) rfl ?_
      obtain ⟨r6, hr6, h⟩ := bind_ex h
      refine r_call (Lo := []) (disk_Disk_Sync_ok p0 r5.2 (a1 ++ [46, 116, 109, 112]) _ hr6) (by kernel_rfl) (List.Perm.refl _) rfl rfl fun _ => ?_
      refine r_pure tabOk 1 [0, 1, 8] (E' := [(0, .one (.raw (.pointer none)) p0), (1, .one .str a1), (8, .one (.int .i64) r6.1)]) rfl ?_
      refine r_nil ?_
      refine r_then ?_
      refine r_seq ?_
      refine r_region ?_
      refine r_pure tabOk 2 [0, 1, 8, 35] (E' := [(0, .one (.raw (.pointer none)) p0), (1, .one .str a1), (8, .one (.int .i64) r6.1), (35, .one .bool (r6.1 != 0))]) rfl ?_
      refine r_nil ?_
      refine r_then ?_
      refine r_if (b := (r6.1 != 0)) rfl (fun hc => ?_) (fun hc => ?_)
      · rw [if_pos hc] at h
        refine r_seq ?_
        refine r_region ?_
        refine r_pure tabOk 3 [4, 5] (E' := [(4, .one (.raw (.pointer none)) (.pointer none)), (5, .one (.int .i64) r6.1)]) rfl ?_
        refine r_nil ?_
        refine r_then ?_
        refine r_ret ?_
        refine t_then ?_
        refine r_nocls (K := (CMark p0)) (x := ((), [], 0, 0, ())) (e := 1) (by decide) ?_
        obtain rfl := Option.some.inj h
        refine r_perm (L' := [Res.disk Tryz.prog dI p0 r6.2, Res.clsif (CMark p0) NV ((), [], 0, 0, ()) 1]) ((List.perm_middle (a := Res.disk Tryz.prog dI p0 r6.2) (l₁ := [Res.clsif (CMark p0) NV ((), [], 0, 0, ()) 1]) (l₂ := [])).trans (.cons _ (List.Perm.refl _))) ?_
        exact r_rets (rs := [.tmp 4, .tmp 5]) rfl (.cons (.tmp rfl) (.cons (.tmp rfl) (.nil))) rfl (fun _ vs g => by cases g with | cons h0 g => cases g with | cons h1 g => cases g; exact ⟨_, rfl, .cons (raw_self h0) (.cons h1 (.nil))⟩) (fun _ vs g => by cases g with | cons h0 g => cases g with | cons h1 g => cases g; rw [raw_eq h0]; exact List.Sublist.refl _)
      · rw [if_neg (ne_true_of_eq_false hc)] at h
        refine r_skip ?_
        refine r_then ?_
        refine r_seq ?_
        refine r_seq ?_
        refine r_region ?_
        refine r_pure tabOk 2 [0, 1, 37, 38] (E' := [(0, .one (.raw (.pointer none)) p0), (1, .one .str a1), (37, .one (.raw (.pointer none)) p0), (38, .one .str a1)]) rfl ?_
        obtain ⟨hc, h⟩ := ite_ex h
        refine y (y_cat rfl rfl hc) rfl ?_
        refine r_pure tabOk 1 [0, 1, 37, 39, 40] (E' := [(0, .one (.raw (.pointer none)) p0), (1, .one .str a1), (37, .one (.raw (.pointer none)) p0), (39, .one .str (a1 ++ [46, 116, 109, 112])), (40, .one .str a1)]) rfl ?_
        obtain ⟨r7, hr7, h⟩ := bind_ex h
        refine r_call (Lo := []) (disk_Disk_Rename_ok p0 r6.2 (a1 ++ [46, 116, 109, 112]) a1 _ hr7) (by kernel_rfl) (List.Perm.refl _) rfl rfl fun _ => ?_
        refine r_pure tabOk 1 [0, 1, 9] (E' := [(0, .one (.raw (.pointer none)) p0), (1, .one .str a1), (9, .one (.int .i64) r7.1)]) rfl ?_
        refine r_nil ?_
        refine r_then ?_
        refine r_seq ?_
        refine r_region ?_
        refine r_pure tabOk 2 [0, 1, 9, 43] (E' := [(0, .one (.raw (.pointer none)) p0), (1, .one .str a1), (9, .one (.int .i64) r7.1), (43, .one .bool (r7.1 != 0))]) rfl ?_
        refine r_nil ?_
        refine r_then ?_
        refine r_if (b := (r7.1 != 0)) rfl (fun hc => ?_) (fun hc => ?_)
        · rw [if_pos hc] at h
          refine r_seq ?_
          refine r_region ?_
          refine r_pure tabOk 3 [4, 5] (E' := [(4, .one (.raw (.pointer none)) (.pointer none)), (5, .one (.int .i64) r7.1)]) rfl ?_
          refine r_nil ?_
          refine r_then ?_
          refine r_ret ?_
          refine t_then ?_
          refine r_nocls (K := (CMark p0)) (x := ((), [], 0, 0, ())) (e := 1) (by decide) ?_
          obtain rfl := Option.some.inj h
          refine r_perm (L' := [Res.disk Tryz.prog dI p0 r7.2, Res.clsif (CMark p0) NV ((), [], 0, 0, ()) 1]) ((List.perm_middle (a := Res.disk Tryz.prog dI p0 r7.2) (l₁ := [Res.clsif (CMark p0) NV ((), [], 0, 0, ()) 1]) (l₂ := [])).trans (.cons _ (List.Perm.refl _))) ?_
          exact r_rets (rs := [.tmp 4, .tmp 5]) rfl (.cons (.tmp rfl) (.cons (.tmp rfl) (.nil))) rfl (fun _ vs g => by cases g with | cons h0 g => cases g with | cons h1 g => cases g; exact ⟨_, rfl, .cons (raw_self h0) (.cons h1 (.nil))⟩) (fun _ vs g => by cases g with | cons h0 g => cases g with | cons h1 g => cases g; rw [raw_eq h0]; exact List.Sublist.refl _)
        · rw [if_neg (ne_true_of_eq_false hc)] at h
          refine r_skip ?_
          refine r_then ?_
          refine r_seq ?_
          refine r_region ?_
          refine r_pure tabOk 2 [45, 46] (E' := [(45, .one (.raw (.pointer none)) p0), (46, .one .str a1)]) rfl ?_
          refine y (y_build rfl zf69 rfl rfl (.cons ((.fst .here)) rfl rfl (ok_fst ok_here) (.cons ((.snd (.fst .here))) rfl rfl (ok_snd (ok_fst ok_here)) (.cons ((.snd (.snd (.fst .here)))) rfl rfl (ok_snd (ok_snd (ok_fst ok_here))) (.cons ((.snd (.snd (.snd (.fst .here))))) rfl rfl (ok_snd (ok_snd (ok_snd (ok_fst ok_here)))) .nil))))) rfl ?_
          refine r_box rfl rfl fun b8 => ?_
          refine r_pure tabOk 2 [4, 5] (E' := [(4, ptr b8 0), (5, .one (.int .i64) 0)]) rfl ?_
          refine r_nil ?_
          refine r_then ?_
          refine r_ret ?_
          refine r_CMark (x := ((), a1, (-1), 1, ())) (q := p0) ?_
          refine r_imp_at (R' := Res.clsif (CMark p0) (.pointer (some ⟨b8, 0, none⟩)) ((), a1, (-1), 1, ()) 0) 0 rfl (clsif_of rfl) ?_
          obtain rfl := Option.some.inj h
          refine r_perm (L' := [Res.disk Tryz.prog dI p0 r7.2, Res.clsif (CMark p0) (.pointer (some ⟨b8, 0, none⟩)) ((), a1, (-1), 1, ()) 0]) ((List.perm_middle (a := Res.disk Tryz.prog dI p0 r7.2) (l₁ := [Res.clsif (CMark p0) (.pointer (some ⟨b8, 0, none⟩)) ((), a1, (-1), 1, ()) 0]) (l₂ := [])).trans (.cons _ (List.Perm.refl _))) ?_
          exact r_rets (rs := [.tmp 4, .tmp 5]) rfl (.cons (.tmp rfl) (.cons (.tmp rfl) (.nil))) rfl (fun _ vs g => by cases g with | cons h0 g => cases g with | cons h1 g => cases g; exact ⟨_, rfl, .cons (raw_self h0) (.cons h1 (.nil))⟩) (fun _ vs g => by cases g with | cons h0 g => cases g with | cons h1 g => cases g; rw [raw_eq h0]; exact List.Sublist.refl _)

theorem disk_Disk_Read_ok (p0 : Value) (a0 : DiskS) (a1 : List Int) (a2 : Int) (a3 : Int) (r : List Int × Int) (h : disk_Disk_Read a0 a1 a2 a3 = some r) : Fn Tryz.prog 12 [.one (.raw (.pointer none)) p0, .one .str a1, .one (.int .i64) a2, .one (.int .i64) a3] [Res.disk Tryz.prog dI p0 a0] (fun _ => .tup [⟨.str, r.1⟩, ⟨(.int .i64), r.2⟩]) (fun _ => [Res.disk Tryz.prog dI p0 a0]) := by
  unfold disk_Disk_Read at h
  refine enter Tryz.func12 rfl 48 rfl rfl fun F => ?_
  refine r_undisk fun b2 mv1 hp => ?_
  subst hp
  refine r_seq ?_
  refine r_region ?_
  refine r_pure tabOk 2 [0, 1, 2, 3] (E' := [(0, ptr b2 0), (1, .one .str a1), (2, .one (.int .i64) a2), (3, .one (.int .i64) a3)]) rfl ?_
  refine r_nil ?_
  refine r_then ?_
  refine r_seq ?_
  refine r_region ?_
  refine r_pure tabOk 2 [2, 3, 14, 15] (E' := [(2, .one (.int .i64) a2), (3, .one (.int .i64) a3), (14, ptr b2 0), (15, .one .str a1)]) rfl ?_
  obtain ⟨r3, hr3, h⟩ := bind_ex h
  refine r_call (Lo := []) (disk_Disk_found_ok b2 mv1 a0 a1 _ hr3) (by kernel_rfl) (List.Perm.refl _) rfl rfl fun v4 => ?_
  refine r_pure tabOk 5 [2, 3, 10, 11] (E' := [(2, .one (.int .i64) a2), (3, .one (.int .i64) a3), (10, .one (.raw (.pointer none)) (tupv v4 0)), (11, .one (.int .i64) r3)]) rfl ?_
  refine r_nil ?_
  refine r_then ?_
  refine r_seq ?_
  refine r_seq ?_
  refine r_region ?_
  refine r_pure tabOk 2 [2, 3, 10, 11, 20] (E' := [(2, .one (.int .i64) a2), (3, .one (.int .i64) a3), (10, .one (.raw (.pointer none)) (tupv v4 0)), (11, .one (.int .i64) r3), (20, .one .bool (r3 != 0))]) rfl ?_
  refine r_nil ?_
  refine r_then ?_
  refine r_if (b := (r3 != 0)) rfl (fun hc => ?_) (fun hc => ?_)
  · rw [if_pos hc] at h
    refine r_seq ?_
    refine r_region ?_
    refine r_pure tabOk 3 [8, 9] (E' := [(8, .one .str []), (9, .one (.int .i64) r3)]) rfl ?_
    refine r_nil ?_
    refine r_then ?_
    refine r_ret ?_
    refine t_then ?_
    refine r_imp_at (R' := Res.dfiles Tryz.prog dI mv1 a0.2.1) 1 rfl dfound_dfiles ?_
    refine r_disk (P := Tryz.prog) (I := dI) (D := a0) ?_
    obtain rfl := Option.some.inj h
    exact r_rets (rs := [.tmp 8, .tmp 9]) rfl (.cons (.tmp rfl) (.cons (.tmp rfl) (.nil))) rfl (fun _ vs g => tup_ok vs g) (fun _ _ _ => (.cons_cons _ .slnil))
  · rw [if_neg (ne_true_of_eq_false hc)] at h
    refine r_skip ?_
    refine r_then ?_
    refine r_seq ?_
    refine r_seq ?_
    refine r_region ?_
    refine r_pure tabOk 3 [2, 3, 10, 24] (E' := [(2, .one (.int .i64) a2), (3, .one (.int .i64) a3), (10, .one (.raw (.pointer none)) (tupv v4 0)), (24, .one .bool (decide (a2 < 0)))]) rfl ?_
    obtain ⟨b5, hbb5, h⟩ := bnd_ex h
    rw [hbb5]
    refine r_lsplit (γ := Unit) 3 (fun _ => [(2, .one (.int .i64) a2), (3, .one (.int .i64) a3), (10, .one (.raw (.pointer none)) (tupv v4 0)), (27, .one .bool (b5 || (decide (a3 < 0))))]) (fun _ => [Res.var b2 56 DT (a0.1, mv1, a0.2.2.1, a0.2.2.2.1, a0.2.2.2.2.1, a0.2.2.2.2.2.1, a0.2.2.2.2.2.2, ()), Res.dfound Tryz.prog dI mv1 a0.2.1 a1 (tupv v4 0) r3]) ?_ (fun _ => ?_)
    · clear h
      cases b5 with
      | true =>
      refine r_pure tabOk 3 [2, 3, 10, 27] (E' := [(2, .one (.int .i64) a2), (3, .one (.int .i64) a3), (10, .one (.raw (.pointer none)) (tupv v4 0)), (27, .one .bool true)]) rfl ?_
      refine r_nil ?_
      refine r_then ?_
      exact r_meetg () rfl rfl
      | false =>
      refine r_pure tabOk 3 [2, 3, 10, 27] (E' := [(2, .one (.int .i64) a2), (3, .one (.int .i64) a3), (10, .one (.raw (.pointer none)) (tupv v4 0)), (27, .one .bool (decide (a3 < 0)))]) rfl ?_
      refine r_nil ?_
      refine r_then ?_
      exact r_meetg () rfl rfl
    refine r_nil ?_
    refine r_then ?_
    refine r_if (b := (b5 || (decide (a3 < 0)))) rfl (fun hc => ?_) (fun hc => ?_)
    · rw [if_pos hc] at h
      refine r_seq ?_
      refine r_region ?_
      refine r_pure tabOk 2 [8, 9] (E' := [(8, .one .str []), (9, .one (.int .i64) 1)]) rfl ?_
      refine r_nil ?_
      refine r_then ?_
      refine r_ret ?_
      refine t_then ?_
      refine r_imp_at (R' := Res.dfiles Tryz.prog dI mv1 a0.2.1) 1 rfl dfound_dfiles ?_
      refine r_disk (P := Tryz.prog) (I := dI) (D := a0) ?_
      obtain rfl := Option.some.inj h
      exact r_rets (rs := [.tmp 8, .tmp 9]) rfl (.cons (.tmp rfl) (.cons (.tmp rfl) (.nil))) rfl (fun _ vs g => tup_ok vs g) (fun _ _ _ => (.cons_cons _ .slnil))
    · rw [if_neg (ne_true_of_eq_false hc)] at h
      refine r_skip ?_
      refine r_then ?_
      refine r_seq ?_
      refine r_seq ?_
      obtain ⟨hc, h⟩ := ite_ex h
      refine r_imp_at (R' := Res.dat Tryz.prog dI mv1 a0.2.1 a1 (tupv v4 0)) 1 rfl (dfound_dat hc) ?_
      obtain ⟨f6, hf6, h⟩ := bind_ex h
      refine r_perm (L' := [Res.dat Tryz.prog dI mv1 a0.2.1 a1 (tupv v4 0), Res.var b2 56 DT (a0.1, mv1, a0.2.2.1, a0.2.2.2.1, a0.2.2.2.2.1, a0.2.2.2.2.2.1, a0.2.2.2.2.2.2, ())]) ((List.perm_middle (a := Res.dat Tryz.prog dI mv1 a0.2.1 a1 (tupv v4 0)) (l₁ := [Res.var b2 56 DT (a0.1, mv1, a0.2.2.1, a0.2.2.2.1, a0.2.2.2.2.1, a0.2.2.2.2.2.1, a0.2.2.2.2.2.2, ())]) (l₂ := [])).trans (.cons _ (List.Perm.refl _))) ?_
      refine r_dfocus kstr hf6 fun fb7 sv8 tv9 dv10 hq => ?_
      rw [hq]
      clear hq
      refine r_region ?_
      refine r_pure tabOk 4 [2, 3, 10, 28, 31] (E' := [(2, .one (.int .i64) a2), (3, .one (.int .i64) a3), (10, ptr fb7 0), (28, .one (.int .i64) a2), (31, ptr fb7 0)]) rfl ?_
      refine y (y_load 0 ((.fst .here)) rfl rfl (by first | rfl | (simp only [Pth.off, T.size]; omega)) (ok_fst ok_here) tx0) rfl ?_
      refine y (y_lenown tabOk 1 rfl rfl rfl) rfl ?_
      refine r_pure tabOk 1 [2, 3, 10, 34] (E' := [(2, .one (.int .i64) a2), (3, .one (.int .i64) a3), (10, ptr fb7 0), (34, .one .bool (decide (a2 ≥ (List.length f6.1 : Int))))]) rfl ?_
      refine r_nil ?_
      refine r_then ?_
      refine r_if (b := (decide (a2 ≥ (List.length f6.1 : Int)))) rfl (fun hc => ?_) (fun hc => ?_)
      · rw [if_pos hc] at h
        refine r_seq ?_
        refine r_region ?_
        refine r_pure tabOk 2 [8, 9] (E' := [(8, .one .str []), (9, .one (.int .i64) 0)]) rfl ?_
        refine r_nil ?_
        refine r_then ?_
        refine r_ret ?_
        refine t_then ?_
        refine r_dunfocus_same (P := Tryz.prog) (I := dI) kstr hf6 ?_
        refine r_imp_at (R' := Res.dfiles Tryz.prog dI mv1 a0.2.1) 0 rfl dat_dfiles ?_
        refine r_perm (L' := [Res.var b2 56 DT (a0.1, mv1, a0.2.2.1, a0.2.2.2.1, a0.2.2.2.2.1, a0.2.2.2.2.2.1, a0.2.2.2.2.2.2, ()), Res.dfiles Tryz.prog dI mv1 a0.2.1]) ((List.perm_middle (a := Res.var b2 56 DT (a0.1, mv1, a0.2.2.1, a0.2.2.2.1, a0.2.2.2.2.1, a0.2.2.2.2.2.1, a0.2.2.2.2.2.2, ())) (l₁ := [Res.dfiles Tryz.prog dI mv1 a0.2.1]) (l₂ := [])).trans (.cons _ (List.Perm.refl _))) ?_
        refine r_disk (P := Tryz.prog) (I := dI) (D := a0) ?_
        obtain rfl := Option.some.inj h
        exact r_rets (rs := [.tmp 8, .tmp 9]) rfl (.cons (.tmp rfl) (.cons (.tmp rfl) (.nil))) rfl (fun _ vs g => tup_ok vs g) (fun _ _ _ => (.cons_cons _ .slnil))
      · rw [if_neg (ne_true_of_eq_false hc)] at h
        refine r_skip ?_
        refine r_then ?_
        refine r_seq ?_
        refine r_region ?_
        refine r_pure tabOk 3 [2, 3, 37] (E' := [(2, .one (.int .i64) a2), (3, .one (.int .i64) a3), (37, ptr fb7 0)]) rfl ?_
        refine y (y_load 0 ((.fst .here)) rfl rfl (by first | rfl | (simp only [Pth.off, T.size]; omega)) (ok_fst ok_here) tx0) rfl ?_
        refine r_pure tabOk 1 [3, 38, 39] (E' := [(3, .one (.int .i64) a3), (38, .one (.raw (.slice none 0 0)) sv8), (39, .one (.int .i64) a2)]) rfl ?_
        obtain ⟨hs11, h⟩ := ite_ex h
        refine y (y_osub tabOk (i := a2) (j := (List.length f6.1 : Int)) rfl (sub_own 1 rfl) rfl rfl hs11.1 hs11.2.1 hs11.2.2 rfl ty5) rfl ?_
        refine r_pure tabOk 1 [3, 12] (E' := [(3, .one (.int .i64) a3), (12, .one (.raw (.slice none 0 0)) (subv (T.size (.int .u8)) sv8 (Int.toNat a2) (Int.toNat (List.length f6.1 : Int))))]) rfl ?_
        refine r_nil ?_
        refine r_then ?_
        refine r_seq ?_
        refine r_region ?_
        refine r_pure tabOk 3 [41, 42, 43] (E' := [(41, .one (.raw (.slice none 0 0)) (subv (T.size (.int .u8)) sv8 (Int.toNat a2) (Int.toNat (List.length f6.1 : Int)))), (42, .one (.int .i64) a3), (43, .one (.raw (.slice none 0 0)) (subv (T.size (.int .u8)) sv8 (Int.toNat a2) (Int.toNat (List.length f6.1 : Int))))]) rfl ?_
        refine y (y_lensub tabOk rfl (sub_sub (sub_own 1 rfl) hs11.1 hs11.2.1 hs11.2.2) rfl) rfl ?_
        refine y (y_min rfl rfl) rfl ?_
        obtain ⟨hs12, h⟩ := ite_ex h
        refine y (y_osub tabOk (i := (0 : Int)) (j := (min a3 (List.length (List.drop (Int.toNat a2) (List.take (Int.toNat (List.length f6.1 : Int)) f6.1)) : Int))) rfl (sub_sub (sub_own 1 rfl) hs11.1 hs11.2.1 hs11.2.2) rfl rfl hs12.1 hs12.2.1 hs12.2.2 rfl ty5) rfl ?_
        refine y (y_textsub tabOk rfl (sub_sub (sub_sub (sub_own 1 rfl) hs11.1 hs11.2.1 hs11.2.2) hs12.1 hs12.2.1 hs12.2.2) rfl rfl rfl) rfl ?_
        refine r_pure tabOk 1 [8] (E' := [(8, .one .str (List.take (Int.toNat (min a3 (List.length (List.drop (Int.toNat a2) (List.take (Int.toNat (List.length f6.1 : Int)) f6.1)) : Int))) (List.drop (Int.toNat a2) (List.take (Int.toNat (List.length f6.1 : Int)) f6.1))))]) rfl ?_
        obtain ⟨t13, ht13, h⟩ := bnd_ex h
        rw [ht13]
        refine r_pure tabOk 1 [8, 9] (E' := [(8, .one .str t13), (9, .one (.int .i64) 0)]) rfl ?_
        refine r_nil ?_
        refine r_then ?_
        refine r_ret ?_
        refine r_dunfocus_same (P := Tryz.prog) (I := dI) kstr hf6 ?_
        refine r_imp_at (R' := Res.dfiles Tryz.prog dI mv1 a0.2.1) 0 rfl dat_dfiles ?_
        refine r_perm (L' := [Res.var b2 56 DT (a0.1, mv1, a0.2.2.1, a0.2.2.2.1, a0.2.2.2.2.1, a0.2.2.2.2.2.1, a0.2.2.2.2.2.2, ()), Res.dfiles Tryz.prog dI mv1 a0.2.1]) ((List.perm_middle (a := Res.var b2 56 DT (a0.1, mv1, a0.2.2.1, a0.2.2.2.1, a0.2.2.2.2.1, a0.2.2.2.2.2.1, a0.2.2.2.2.2.2, ())) (l₁ := [Res.dfiles Tryz.prog dI mv1 a0.2.1]) (l₂ := [])).trans (.cons _ (List.Perm.refl _))) ?_
        refine r_disk (P := Tryz.prog) (I := dI) (D := a0) ?_
        obtain rfl := Option.some.inj h
        exact r_rets (rs := [.tmp 8, .tmp 9]) rfl (.cons (.tmp rfl) (.cons (.tmp rfl) (.nil))) rfl (fun _ vs g => tup_ok vs g) (fun _ _ _ => (.cons_cons _ .slnil))

theorem cursor_Open_ok (a0 : List Int) (r : (List Int × Int × Unit)) (h : cursor_Open a0 = some r) : Fn Tryz.prog 36 [.one .str a0] [] (fun v => .one (.raw (.pointer none)) v) (fun v => [Res.cls CReader v r]) := by
  unfold cursor_Open at h
  refine enter Tryz.func36 rfl 6 rfl rfl fun F => ?_
  refine r_seq ?_
  refine r_region ?_
  refine r_pure tabOk 1 [0] (E' := [(0, .one .str a0)]) rfl ?_
  refine r_nil ?_
  refine r_then ?_
  refine r_seq ?_
  refine r_region ?_
  refine r_pure tabOk 1 [3] (E' := [(3, .one .str a0)]) rfl ?_
  refine y (y_build rfl zf109 rfl rfl (.cons ((.fst .here)) rfl rfl ok_here .nil)) rfl ?_
  refine r_box rfl rfl fun b1 => ?_
  refine r_pure tabOk 1 [2] (E' := [(2, ptr b1 0)]) rfl ?_
  refine r_nil ?_
  refine r_then ?_
  refine r_ret ?_
  refine r_CReader (x := (a0, 0, ())) ?_
  obtain rfl := Option.some.inj h
  exact r_ret1 rfl (.tmp rfl) (fun _ _ g => holds_raw.2 ⟨rfl, by rw [(holds_raw.1 g).1]; exact (holds_raw.1 g).2⟩) (fun _ _ g => by obtain ⟨rfl, _⟩ := holds_raw.1 g; exact (.cons_cons _ .slnil))

theorem cursor_Reader_breaks_ok (b0 : Nat) (a0 : List Int × Int × Unit) (a1 : Int) (r : ((List Int × Int × Unit))) (h : cursor_Reader_breaks a0 a1 = some r) : Fn Tryz.prog 78 [ptr b0 0, .one (.int .i64) a1] [Res.var b0 109 (.pair .str (.pair (.int .i64) .unit)) a0] (fun _ => .tup []) (fun _ => [Res.var b0 109 (.pair .str (.pair (.int .i64) .unit)) r]) := by
  unfold cursor_Reader_breaks at h
  refine enter Tryz.func78 rfl 11 rfl rfl fun F => ?_
  refine r_region ?_
  refine r_pure tabOk 5 [5, 6, 8] (E' := [(5, ptr b0 0), (6, .one (.int .i64) a1), (8, ptr b0 0)]) rfl ?_
  refine r_store 0 ((.fst .here)) rfl rfl rfl (by first | rfl | (simp only [Pth.off, T.size]; omega)) (ok_fst ok_here) ty9 ?_
  refine r_pure tabOk 2 [6, 10] (E' := [(6, .one (.int .i64) a1), (10, ptr b0 1)]) rfl ?_
  refine r_store 0 ((.snd (.fst .here))) rfl rfl rfl (by first | rfl | (simp only [Pth.off, T.size]; omega)) (ok_snd (ok_fst ok_here)) ty31 ?_
  refine r_nil ?_
  obtain rfl := Option.some.inj h
  exact r_end0 rfl (fun _ => tup_ok [] .nil) ((.cons_cons _ .slnil))

theorem cursor_Reader_take_ok (b0 : Nat) (a0 : List Int × Int × Unit) (a1 : Int) (r : List Int × ((List Int × Int × Unit))) (h : cursor_Reader_take a0 a1 = some r) : Fn Tryz.prog 56 [ptr b0 0, .one (.int .i64) a1] [Res.var b0 109 (.pair .str (.pair (.int .i64) .unit)) a0] (fun _ => .one .str r.1) (fun _ => [Res.var b0 109 (.pair .str (.pair (.int .i64) .unit)) r.2]) := by
  unfold cursor_Reader_take at h
  refine enter Tryz.func56 rfl 36 rfl rfl fun F => ?_
  refine r_seq ?_
  refine r_region ?_
  refine r_pure tabOk 1 [0, 1] (E' := [(0, ptr b0 0), (1, .one (.int .i64) a1)]) rfl ?_
  refine r_nil ?_
  refine r_then ?_
  refine r_seq ?_
  refine r_seq ?_
  refine r_region ?_
  refine r_pure tabOk 3 [0, 1, 8] (E' := [(0, ptr b0 0), (1, .one (.int .i64) a1), (8, ptr b0 1)]) rfl ?_
  refine y (y_load 0 ((.snd (.fst .here))) rfl rfl (by first | rfl | (simp only [Pth.off, T.size]; omega)) (ok_snd (ok_fst ok_here)) ty31) rfl ?_
  refine r_pure tabOk 1 [0, 1, 10] (E' := [(0, ptr b0 0), (1, .one (.int .i64) a1), (10, .one .bool (a0.2.1 != 0))]) rfl ?_
  refine r_nil ?_
  refine r_then ?_
  refine r_if (b := (a0.2.1 != 0)) rfl (fun hc => ?_) (fun hc => ?_)
  · rw [if_pos hc] at h
    refine r_seq ?_
    refine r_region ?_
    refine r_pure tabOk 1 [4] (E' := [(4, .one .str [])]) rfl ?_
    refine r_nil ?_
    refine r_then ?_
    refine r_ret ?_
    refine t_then ?_
    obtain rfl := Option.some.inj h
    exact r_ret1 rfl (.tmp rfl) (fun _ _ g => g) (fun _ _ _ => (.cons_cons _ .slnil))
  · rw [if_neg (ne_true_of_eq_false hc)] at h
    refine r_skip ?_
    refine r_then ?_
    refine r_seq ?_
    refine r_seq ?_
    refine r_region ?_
    refine r_pure tabOk 3 [0, 1, 13] (E' := [(0, ptr b0 0), (1, .one (.int .i64) a1), (13, ptr b0 0)]) rfl ?_
    refine y (y_load 0 ((.fst .here)) rfl rfl (by first | rfl | (simp only [Pth.off, T.size]; omega)) (ok_fst ok_here) ty9) rfl ?_
    refine r_pure tabOk 3 [0, 1, 17] (E' := [(0, ptr b0 0), (1, .one (.int .i64) a1), (17, .one .bool (decide ((List.length a0.1 : Int) < a1)))]) rfl ?_
    refine r_nil ?_
    refine r_then ?_
    refine r_if (b := (decide ((List.length a0.1 : Int) < a1))) rfl (fun hc => ?_) (fun hc => ?_)
    · rw [if_pos hc] at h
      refine r_seq ?_
      refine r_region ?_
      refine r_pure tabOk 1 [18] (E' := [(18, ptr b0 0)]) rfl ?_
      obtain ⟨r1, hr1, h⟩ := bind_ex h
      refine r_call (Lo := []) (cursor_Reader_breaks_ok b0 a0 2 _ hr1) (by kernel_rfl) (List.Perm.refl _) rfl rfl fun _ => ?_
      refine r_nil ?_
      refine r_then ?_
      refine r_seq ?_
      refine r_region ?_
      refine r_pure tabOk 1 [4] (E' := [(4, .one .str [])]) rfl ?_
      refine r_nil ?_
      refine r_then ?_
      refine r_ret ?_
      refine t_then ?_
      obtain rfl := Option.some.inj h
      exact r_ret1 rfl (.tmp rfl) (fun _ _ g => g) (fun _ _ _ => (.cons_cons _ .slnil))
    · rw [if_neg (ne_true_of_eq_false hc)] at h
      refine r_skip ?_
      refine r_then ?_
      refine r_seq ?_
      refine r_region ?_
      refine r_pure tabOk 3 [0, 1, 22] (E' := [(0, ptr b0 0), (1, .one (.int .i64) a1), (22, ptr b0 0)]) rfl ?_
      refine y (y_load 0 ((.fst .here)) rfl rfl (by first | rfl | (simp only [Pth.off, T.size]; omega)) (ok_fst ok_here) ty9) rfl ?_
      refine r_pure tabOk 1 [0, 1, 23, 24] (E' := [(0, ptr b0 0), (1, .one (.int .i64) a1), (23, .one .str a0.1), (24, .one (.int .i64) a1)]) rfl ?_
      obtain ⟨hc, h⟩ := ite_ex h
      refine y (y_sub (i := (0 : Int)) (j := a1) tabOk rfl rfl rfl hc.1 hc.2.1 hc.2.2 rfl) rfl ?_
      refine r_pure tabOk 1 [0, 1, 5] (E' := [(0, ptr b0 0), (1, .one (.int .i64) a1), (5, .one .str (List.drop 0 (List.take (Int.toNat a1) a0.1)))]) rfl ?_
      obtain ⟨s2, hs2, h⟩ := bnd_ex h
      rw [hs2]
      refine r_nil ?_
      refine r_then ?_
      refine r_seq ?_
      refine r_region ?_
      refine r_pure tabOk 4 [1, 5, 26, 29] (E' := [(1, .one (.int .i64) a1), (5, .one .str s2), (26, ptr b0 0), (29, ptr b0 0)]) rfl ?_
      refine y (y_load 0 ((.fst .here)) rfl rfl (by first | rfl | (simp only [Pth.off, T.size]; omega)) (ok_fst ok_here) ty9) rfl ?_
      refine r_pure tabOk 1 [5, 26, 30, 31] (E' := [(5, .one .str s2), (26, ptr b0 0), (30, .one .str a0.1), (31, .one (.int .i64) a1)]) rfl ?_
      obtain ⟨hc, h⟩ := ite_ex h
      refine y (y_sub (i := a1) (j := (List.length a0.1 : Int)) tabOk rfl rfl rfl hc.1 hc.2.1 hc.2.2 rfl) rfl ?_
      refine r_pure tabOk 2 [5, 32, 34] (E' := [(5, .one .str s2), (32, .one .str (List.drop (Int.toNat a1) (List.take (Int.toNat (List.length a0.1 : Int)) a0.1))), (34, ptr b0 0)]) rfl ?_
      refine r_store 0 ((.fst .here)) rfl rfl rfl (by first | rfl | (simp only [Pth.off, T.size]; omega)) (ok_fst ok_here) ty9 ?_
      refine r_nil ?_
      refine r_then ?_
      refine r_seq ?_
      refine r_region ?_
      refine r_pure tabOk 2 [4] (E' := [(4, .one .str s2)]) rfl ?_
      refine r_nil ?_
      refine r_then ?_
      refine r_ret ?_
      obtain rfl := Option.some.inj h
      exact r_ret1 rfl (.tmp rfl) (fun _ _ g => g) (fun _ _ _ => (.cons_cons _ .slnil))

theorem cursor_value_uint64_ok (a0 : List Int) (r : Int) (h : cursor_value_uint64 a0 = some r) : Pure Tryz.prog 55 [.one .str a0] (.one (.int .u64) r) := by
  unfold cursor_value_uint64 at h
  refine enter Tryz.func55 rfl 19 rfl rfl fun F => ?_
  refine r_seq ?_
  refine r_region ?_
  refine r_pure tabOk 1 [0] (E' := [(0, .one .str a0)]) rfl ?_
  refine r_nil ?_
  refine r_then ?_
  refine r_seq ?_
  refine r_region ?_
  refine r_pure tabOk 1 [0, 3] (E' := [(0, .one .str a0), (3, .one (.int .u64) 0)]) rfl ?_
  refine r_nil ?_
  refine r_then ?_
  obtain ⟨k1, hk1, h⟩ := bnd_ex h
  refine r_joink (γ := Unit) (fun (o2 : Int) _ => [(3, .one (.int .u64) o2)]) (fun (o2 : Int) _ => []) k1 r ?_ ?_
  · refine r_seq ?_
    refine r_region ?_
    refine r_pure tabOk 3 [0, 3, 6, 7] (E' := [(0, .one .str a0), (3, .one (.int .u64) 0), (6, .one (.int .i64) (List.length a0 : Int)), (7, .one (.int .i64) 0)]) rfl ?_
    refine r_nil ?_
    refine r_then ?_
    refine r_block ?_
    refine r_less [0, 3, 6, 7] rfl ?_
    refine r_loopg (γ := Unit) (fun (s4 : Int × Int) _ => [(0, .one .str a0), (3, .one (.int .u64) s4.1), (6, .one (.int .i64) (List.length a0 : Int)), (7, .one (.int .i64) s4.2)]) (fun (s4 : Int × Int) _ => []) (cursor_value_uint64_l0 a0 k1) (0, 0) () h rfl rfl ?_
    clear h
    intro m5 s4 gg h
    cases m5 with
    | zero => cases h
    | succ m5 =>
    simp only [cursor_value_uint64_l0] at h
    refine r_seq ?_
    refine r_region ?_
    refine r_pure tabOk 1 [0, 3, 6, 7, 8] (E' := [(0, .one .str a0), (3, .one (.int .u64) s4.1), (6, .one (.int .i64) (List.length a0 : Int)), (7, .one (.int .i64) s4.2), (8, .one .bool (decide (s4.2 < (List.length a0 : Int))))]) rfl ?_
    refine r_nil ?_
    refine r_then ?_
    refine r_seq ?_
    refine r_if (b := (decide (s4.2 < (List.length a0 : Int)))) rfl (fun hc => ?_) (fun hc => ?_)
    · rw [if_pos hc] at h
      refine r_skip ?_
      refine r_then ?_
      refine r_seq ?_
      refine r_block ?_
      refine r_seq ?_
      refine r_region ?_
      refine r_pure tabOk 2 [0, 3, 4, 6, 7] (E' := [(0, .one .str a0), (3, .one (.int .u64) s4.1), (4, .one (.int .i64) s4.2), (6, .one (.int .i64) (List.length a0 : Int)), (7, .one (.int .i64) s4.2)]) rfl ?_
      refine r_nil ?_
      refine r_then ?_
      refine r_region ?_
      refine r_pure tabOk 4 [0, 6, 7, 11, 12, 13] (E' := [(0, .one .str a0), (6, .one (.int .i64) (List.length a0 : Int)), (7, .one (.int .i64) s4.2), (11, .one (.int .u64) (ishl .u64 s4.1 8)), (12, .one .str a0), (13, .one (.int .i64) s4.2)]) rfl ?_
      obtain ⟨hc, h⟩ := ite_ex h
      refine y (y_byte tabOk rfl rfl hc.1 hc.2 rfl) rfl ?_
      refine r_pure tabOk 3 [0, 3, 6, 7] (E' := [(0, .one .str a0), (3, .one (.int .u64) (ior .u64 (ishl .u64 s4.1 8) (IntKind.wrap .u64 (List.getD a0 (Int.toNat s4.2) 0)))), (6, .one (.int .i64) (List.length a0 : Int)), (7, .one (.int .i64) s4.2)]) rfl ?_
      obtain ⟨v6, hv6, h⟩ := bnd_ex h
      rw [hv6]
      refine r_nil ?_
      refine r_inblock ?_
      refine r_then ?_
      refine r_region ?_
      refine r_pure tabOk 2 [0, 3, 6, 7] (E' := [(0, .one .str a0), (3, .one (.int .u64) v6), (6, .one (.int .i64) (List.length a0 : Int)), (7, .one (.int .i64) (IntKind.wrap .i64 (s4.2 + 1)))]) rfl ?_
      refine r_nil ?_
      refine r_then ?_
      refine r_less [0, 3, 6, 7] rfl ?_
      exact r_backg (v6, (IntKind.wrap .i64 (s4.2 + 1))) () (Nat.lt_succ_self _) h rfl rfl
    · rw [if_neg (ne_true_of_eq_false hc)] at h
      refine r_exit ?_
      refine e_then ?_
      refine e_then ?_
      refine e_eq ?_
      refine r_then ?_
      refine r_less [3] rfl ?_
      exact r_meetk s4.1 () h rfl rfl
  · intro o2 gg h
    rw [← hk1] at h
    try dsimp only at h
    refine r_seq ?_
    refine r_region ?_
    refine r_pure tabOk 2 [2] (E' := [(2, .one (.int .u64) o2)]) rfl ?_
    refine r_nil ?_
    refine r_then ?_
    refine r_ret ?_
    obtain rfl := Option.some.inj h
    exact r_ret1 rfl (.tmp rfl) (fun _ _ g => g) (fun _ _ _ => List.nil_sublist _)

theorem cursor_Reader_I64_ok (b0 : Nat) (a0 : List Int × Int × Unit) (r : Int × ((List Int × Int × Unit))) (h : cursor_Reader_I64 a0 = some r) : Fn Tryz.prog 37 [ptr b0 0] [Res.var b0 109 (.pair .str (.pair (.int .i64) .unit)) a0] (fun _ => .one (.int .i64) r.1) (fun _ => [Res.var b0 109 (.pair .str (.pair (.int .i64) .unit)) r.2]) := by
  unfold cursor_Reader_I64 at h
  refine enter Tryz.func37 rfl 7 rfl rfl fun F => ?_
  refine r_seq ?_
  refine r_region ?_
  refine r_pure tabOk 1 [0] (E' := [(0, ptr b0 0)]) rfl ?_
  refine r_nil ?_
  refine r_then ?_
  refine r_seq ?_
  refine r_region ?_
  refine r_pure tabOk 1 [3] (E' := [(3, ptr b0 0)]) rfl ?_
  obtain ⟨r1, hr1, h⟩ := bind_ex h
  refine r_call (Lo := []) (cursor_Reader_take_ok b0 a0 8 _ hr1) (by kernel_rfl) (List.Perm.refl _) rfl rfl fun _ => ?_
  obtain ⟨r2, hr2, h⟩ := bind_ex h
  refine r_calls (cursor_value_uint64_ok r1.1 _ hr2) (by kernel_rfl) rfl rfl ?_
  refine r_pure tabOk 2 [2] (E' := [(2, .one (.int .i64) (IntKind.wrap .i64 r2))]) rfl ?_
  refine r_nil ?_
  refine r_then ?_
  refine r_ret ?_
  obtain rfl := Option.some.inj h
  exact r_ret1 rfl (.tmp rfl) (fun _ _ g => g) (fun _ _ _ => (.cons_cons _ .slnil))

theorem mark_right_ok (a0 : Int) (r : Bool) (h : mark_right a0 = some r) : Pure Tryz.prog 29 [.one (.int .i64) a0] (.one .bool r) := by
  unfold mark_right at h
  refine enter Tryz.func29 rfl 9 rfl rfl fun F => ?_
  refine r_seq ?_
  refine r_region ?_
  refine r_pure tabOk 1 [0] (E' := [(0, .one (.int .i64) a0)]) rfl ?_
  refine r_nil ?_
  refine r_then ?_
  refine r_seq ?_
  refine r_region ?_
  refine r_pure tabOk 3 [0, 5] (E' := [(0, .one (.int .i64) a0), (5, .one .bool (decide (a0 ≥ (-1))))]) rfl ?_
  obtain ⟨b1, hbb1, h⟩ := bnd_ex h
  rw [hbb1]
  refine r_lsplit (γ := Unit) 3 (fun _ => [(8, .one .bool (b1 && (decide (a0 ≤ 281474976710655))))]) (fun _ => []) ?_ (fun _ => ?_)
  · clear h
    cases b1 with
    | true =>
    refine r_pure tabOk 3 [8] (E' := [(8, .one .bool (decide (a0 ≤ 281474976710655)))]) rfl ?_
    refine r_nil ?_
    refine r_then ?_
    exact r_meetg () rfl rfl
    | false =>
    refine r_pure tabOk 3 [8] (E' := [(8, .one .bool false)]) rfl ?_
    refine r_nil ?_
    refine r_then ?_
    exact r_meetg () rfl rfl
  refine r_pure tabOk 1 [2] (E' := [(2, .one .bool (b1 && (decide (a0 ≤ 281474976710655))))]) rfl ?_
  refine r_nil ?_
  refine r_then ?_
  refine r_ret ?_
  obtain rfl := Option.some.inj h
  exact r_ret1 rfl (.tmp rfl) (fun _ _ g => g) (fun _ _ _ => List.nil_sublist _)

theorem mark_read_ok (a0 : List Int) (a1 : Int) (r : (Int × Bool × Unit)) (h : mark_read a0 a1 = some r) : Pure Tryz.prog 24 [.one .str a0, .one (.int .i64) a1] (.one (.pair (.int .i64) (.pair .bool .unit)) r) := by
  unfold mark_read at h
  refine enter Tryz.func24 rfl 25 rfl rfl fun F => ?_
  refine r_seq ?_
  refine r_region ?_
  refine r_alloc (t := (.pair (.int .i64) (.pair .bool .unit))) rfl zf65 rfl fun b1 => ?_
  refine r_nil ?_
  refine r_then ?_
  refine r_seq ?_
  refine r_region ?_
  refine r_pure tabOk 3 [4, 6, 8] (E' := [(4, ptr b1 0), (6, .one .str a0), (8, .one (.int .i64) (IntKind.wrap .i64 (64 * a1)))]) rfl ?_
  obtain ⟨hc, h⟩ := ite_ex h
  refine y (y_sub (i := (IntKind.wrap .i64 (64 * a1))) (j := (List.length a0 : Int)) tabOk rfl rfl rfl hc.1 hc.2.1 hc.2.2 rfl) rfl ?_
  obtain ⟨hc, h⟩ := ite_ex h
  refine y (y_sub (i := (0 : Int)) (j := 12) tabOk rfl rfl rfl hc.1 hc.2.1 hc.2.2 rfl) rfl ?_
  refine r_pure tabOk 1 [0, 4] (E' := [(0, .one .str (List.drop 0 (List.take 12 (List.drop (Int.toNat (IntKind.wrap .i64 (64 * a1))) (List.take (Int.toNat (List.length a0 : Int)) a0))))), (4, ptr b1 0)]) rfl ?_
  obtain ⟨bx2, hbx2, h⟩ := bnd_ex h
  rw [hbx2]
  refine r_nil ?_
  refine r_then ?_
  refine r_seq ?_
  refine r_region ?_
  refine r_pure tabOk 1 [0, 4, 11] (E' := [(0, .one .str bx2), (4, ptr b1 0), (11, .one .str bx2)]) rfl ?_
  obtain ⟨r3, hr3, h⟩ := bind_ex h
  refine r_call (Lo := [Res.var b1 65 (.pair (.int .i64) (.pair .bool .unit)) (0, false, ())]) (cursor_Open_ok bx2 _ hr3) (by kernel_rfl) (List.Perm.refl _) rfl rfl fun v4 => ?_
  refine r_unCReader fun b5 hp => ?_
  subst hp
  obtain ⟨r6, hr6, h⟩ := bind_ex h
  refine r_call (Lo := [Res.var b1 65 (.pair (.int .i64) (.pair .bool .unit)) (0, false, ())]) (cursor_Reader_I64_ok b5 r3 _ hr6) (by kernel_rfl) (List.Perm.refl _) rfl rfl fun _ => ?_
  refine r_pure tabOk 1 [0, 4, 5] (E' := [(0, .one .str bx2), (4, ptr b1 0), (5, .one (.int .i64) r6.1)]) rfl ?_
  refine r_nil ?_
  refine r_then ?_
  refine r_seq ?_
  refine r_region ?_
  refine r_pure tabOk 2 [0, 4, 5, 14, 15] (E' := [(0, .one .str bx2), (4, ptr b1 0), (5, .one (.int .i64) r6.1), (14, .one (.int .i64) r6.1), (15, .one (.int .i64) r6.1)]) rfl ?_
  obtain ⟨r7, hr7, h⟩ := bind_ex h
  refine r_calls (mark_right_ok r6.1 _ hr7) (by kernel_rfl) rfl rfl ?_
  refine r_pure tabOk 1 [0, 4, 5, 14, 17] (E' := [(0, .one .str bx2), (4, ptr b1 0), (5, .one (.int .i64) r6.1), (14, .one (.int .i64) r6.1), (17, .one .bool r7)]) rfl ?_
  obtain ⟨k9, hk9, h⟩ := bnd_ex h
  refine r_lsplitk (γ := Unit) 6 (fun (o10 : Bool) _ => [(4, ptr b1 0), (14, .one (.int .i64) r6.1), (23, .one .bool o10)]) (fun _ _ => [Res.var b5 109 (.pair .str (.pair (.int .i64) .unit)) r6.2, Res.var b1 65 (.pair (.int .i64) (.pair .bool .unit)) (0, false, ())]) k9 r ?_ ?_
  · rcases Bool.eq_false_or_eq_true r7 with hh | hh
    · rw [hh] at h ⊢
      rw [if_pos rfl] at h
      refine r_pure tabOk 1 [0, 4, 14, 17, 18] (E' := [(0, .one .str bx2), (4, ptr b1 0), (14, .one (.int .i64) r6.1), (17, .one .bool true), (18, .one (.int .i64) r6.1)]) rfl ?_
      refine r_guard (by rfl) rfl ?_
      obtain ⟨r11, hr11, h⟩ := bind_ex h
      refine r_calls (mark_slot_ok r6.1 _ hr11) (by kernel_rfl) rfl rfl ?_
      refine r_guard (by rfl) rfl ?_
      obtain ⟨hc, h⟩ := ite_ex h
      refine y (y_sub (i := (0 : Int)) (j := 12) tabOk rfl rfl rfl hc.1 hc.2.1 hc.2.2 rfl) rfl ?_
      refine r_pure tabOk 3 [4, 14, 23] (E' := [(4, ptr b1 0), (14, .one (.int .i64) r6.1), (23, .one .bool ((List.drop 0 (List.take 12 r11)) == bx2))]) rfl ?_
      refine r_nil ?_
      refine r_less [4, 14, 23] rfl ?_
      refine r_then ?_
      exact r_meetk ((List.drop 0 (List.take 12 r11)) == bx2) () h rfl rfl
    · rw [hh] at h ⊢
      rw [if_neg (by decide)] at h
      refine r_pure tabOk 6 [4, 14, 23] (E' := [(4, ptr b1 0), (14, .one (.int .i64) r6.1), (23, .one .bool false)]) rfl ?_
      refine r_nil ?_
      refine r_less [4, 14, 23] rfl ?_
      refine r_then ?_
      exact r_meetk false () h rfl rfl
  · intro o10 _ h
    rw [← hk9] at h
    try dsimp only at h
    refine y (y_build rfl zf65 rfl rfl (.cons ((.fst .here)) rfl rfl ok_here (.cons ((.snd (.fst .here))) rfl rfl ok_here .nil))) rfl ?_
    refine r_store 1 .here rfl rfl rfl (by first | rfl | (simp only [Pth.off, T.size]; omega)) ok_here ty65 ?_
    refine r_nil ?_
    refine r_then ?_
    refine r_ret ?_
    obtain rfl := Option.some.inj h
    exact r_ret1 rfl (.cell 1 .here rfl rfl (by first | rfl | (simp only [Pth.off, T.size]; omega)) ok_here ty65) (fun _ _ g => g) (fun _ _ _ => List.nil_sublist _)

theorem mark_Open_ok (p0 : Value) (a0 : DiskS) (a1 : List Int) (r : (Int × Unit × List Int × Int × Int × Unit) × Int × DiskS) (h : mark_Open a0 a1 = some r) : Fn Tryz.prog 11 [.one (.raw (.pointer none)) p0, .one .str a1] [Res.disk Tryz.prog dI p0 a0] (fun v => .tup [⟨.raw (.pointer none), tupv v 0⟩, ⟨(.int .i64), r.2.1⟩]) (fun v => [Res.disk Tryz.prog dI p0 r.2.2, Res.clsif (CMark p0) (tupv v 0) r.1.2 r.1.1]) := by
  unfold mark_Open at h
  refine enter Tryz.func11 rfl 108 rfl rfl fun F => ?_
  refine r_seq ?_
  refine r_region ?_
  refine r_pure tabOk 2 [0, 1] (E' := [(0, .one (.raw (.pointer none)) p0), (1, .one .str a1)]) rfl ?_
  refine r_nil ?_
  refine r_then ?_
  refine r_seq ?_
  refine r_region ?_
  refine r_pure tabOk 2 [0, 1, 14, 15] (E' := [(0, .one (.raw (.pointer none)) p0), (1, .one .str a1), (14, .one (.raw (.pointer none)) p0), (15, .one .str a1)]) rfl ?_
  obtain ⟨r1, hr1, h⟩ := bind_ex h
  refine r_call (Lo := []) (disk_Disk_Size_ok p0 a0 a1 _ hr1) (by kernel_rfl) (List.Perm.refl _) rfl rfl fun _ => ?_
  refine r_pure tabOk 5 [0, 1, 6, 7] (E' := [(0, .one (.raw (.pointer none)) p0), (1, .one .str a1), (6, .one (.int .i64) r1.1), (7, .one (.int .i64) r1.2)]) rfl ?_
  refine r_nil ?_
  refine r_then ?_
  refine r_seq ?_
  refine r_block ?_
  refine r_seq ?_
  refine r_region ?_
  refine r_pure tabOk 3 [0, 1, 6, 7, 19] (E' := [(0, .one (.raw (.pointer none)) p0), (1, .one .str a1), (6, .one (.int .i64) r1.1), (7, .one (.int .i64) r1.2), (19, .one .bool (r1.2 == 5))]) rfl ?_
  refine r_nil ?_
  refine r_then ?_
  refine r_if (b := (r1.2 == 5)) rfl (fun hc => ?_) (fun hc => ?_)
  · rw [if_pos hc] at h
    refine r_seq ?_
    refine r_region ?_
    refine r_pure tabOk 2 [22, 23] (E' := [(22, .one (.raw (.pointer none)) p0), (23, .one .str a1)]) rfl ?_
    obtain ⟨r2, hr2, h⟩ := bind_ex h
    refine r_call (Lo := []) (mark_laid_ok p0 a0 a1 _ hr2) (by kernel_rfl) (List.Perm.refl _) rfl rfl fun v3 => ?_
    refine r_pure tabOk 4 [4, 5] (E' := [(4, .one (.raw (.pointer none)) (tupv v3 0)), (5, .one (.int .i64) r2.2.1)]) rfl ?_
    refine r_nil ?_
    refine r_then ?_
    refine r_ret ?_
    refine t_block ?_
    refine t_then ?_
    obtain rfl := Option.some.inj h
    refine r_perm (L' := [Res.disk Tryz.prog dI p0 r2.2.2, Res.clsif (CMark p0) (tupv v3 0) r2.1.2 r2.1.1]) (List.Perm.refl _) ?_
    exact r_rets (rs := [.tmp 4, .tmp 5]) rfl (.cons (.tmp rfl) (.cons (.tmp rfl) (.nil))) rfl (fun _ vs g => by cases g with | cons h0 g => cases g with | cons h1 g => cases g; exact ⟨_, rfl, .cons (raw_self h0) (.cons h1 (.nil))⟩) (fun _ vs g => by cases g with | cons h0 g => cases g with | cons h1 g => cases g; rw [raw_eq h0]; exact List.Sublist.refl _)
  · rw [if_neg (ne_true_of_eq_false hc)] at h
    refine r_seq ?_
    refine r_region ?_
    refine r_pure tabOk 3 [0, 1, 6, 7, 27] (E' := [(0, .one (.raw (.pointer none)) p0), (1, .one .str a1), (6, .one (.int .i64) r1.1), (7, .one (.int .i64) r1.2), (27, .one .bool (r1.2 != 0))]) rfl ?_
    refine r_nil ?_
    refine r_then ?_
    refine r_if (b := (r1.2 != 0)) rfl (fun hc => ?_) (fun hc => ?_)
    · rw [if_pos hc] at h
      refine r_seq ?_
      refine r_region ?_
      refine r_pure tabOk 3 [4, 5] (E' := [(4, .one (.raw (.pointer none)) (.pointer none)), (5, .one (.int .i64) r1.2)]) rfl ?_
      refine r_nil ?_
      refine r_then ?_
      refine r_ret ?_
      refine t_block ?_
      refine t_then ?_
      refine r_nocls (K := (CMark p0)) (x := ((), [], 0, 0, ())) (e := 1) (by decide) ?_
      obtain rfl := Option.some.inj h
      refine r_perm (L' := [Res.disk Tryz.prog dI p0 a0, Res.clsif (CMark p0) NV ((), [], 0, 0, ()) 1]) ((List.perm_middle (a := Res.disk Tryz.prog dI p0 a0) (l₁ := [Res.clsif (CMark p0) NV ((), [], 0, 0, ()) 1]) (l₂ := [])).trans (.cons _ (List.Perm.refl _))) ?_
      exact r_rets (rs := [.tmp 4, .tmp 5]) rfl (.cons (.tmp rfl) (.cons (.tmp rfl) (.nil))) rfl (fun _ vs g => by cases g with | cons h0 g => cases g with | cons h1 g => cases g; exact ⟨_, rfl, .cons (raw_self h0) (.cons h1 (.nil))⟩) (fun _ vs g => by cases g with | cons h0 g => cases g with | cons h1 g => cases g; rw [raw_eq h0]; exact List.Sublist.refl _)
    · rw [if_neg (ne_true_of_eq_false hc)] at h
      refine r_seq ?_
      refine r_region ?_
      refine r_pure tabOk 3 [0, 1, 31] (E' := [(0, .one (.raw (.pointer none)) p0), (1, .one .str a1), (31, .one .bool (r1.1 != 128))]) rfl ?_
      refine r_nil ?_
      refine r_then ?_
      refine r_if (b := (r1.1 != 128)) rfl (fun hc => ?_) (fun hc => ?_)
      · rw [if_pos hc] at h
        refine r_seq ?_
        refine r_region ?_
        refine r_pure tabOk 2 [4, 5] (E' := [(4, .one (.raw (.pointer none)) (.pointer none)), (5, .one (.int .i64) 190)]) rfl ?_
        refine r_nil ?_
        refine r_then ?_
        refine r_ret ?_
        refine t_block ?_
        refine t_then ?_
        refine r_nocls (K := (CMark p0)) (x := ((), [], 0, 0, ())) (e := 1) (by decide) ?_
        obtain rfl := Option.some.inj h
        refine r_perm (L' := [Res.disk Tryz.prog dI p0 a0, Res.clsif (CMark p0) NV ((), [], 0, 0, ()) 1]) ((List.perm_middle (a := Res.disk Tryz.prog dI p0 a0) (l₁ := [Res.clsif (CMark p0) NV ((), [], 0, 0, ()) 1]) (l₂ := [])).trans (.cons _ (List.Perm.refl _))) ?_
        exact r_rets (rs := [.tmp 4, .tmp 5]) rfl (.cons (.tmp rfl) (.cons (.tmp rfl) (.nil))) rfl (fun _ vs g => by cases g with | cons h0 g => cases g with | cons h1 g => cases g; exact ⟨_, rfl, .cons (raw_self h0) (.cons h1 (.nil))⟩) (fun _ vs g => by cases g with | cons h0 g => cases g with | cons h1 g => cases g; rw [raw_eq h0]; exact List.Sublist.refl _)
      · rw [if_neg (ne_true_of_eq_false hc)] at h
        refine r_skip ?_
        refine r_inblock ?_
        refine r_then ?_
        refine r_seq ?_
        refine r_region ?_
        refine r_pure tabOk 2 [0, 1, 35, 36] (E' := [(0, .one (.raw (.pointer none)) p0), (1, .one .str a1), (35, .one (.raw (.pointer none)) p0), (36, .one .str a1)]) rfl ?_
        obtain ⟨r4, hr4, h⟩ := bind_ex h
        refine r_call (Lo := []) (disk_Disk_Read_ok p0 a0 a1 0 128 _ hr4) (by kernel_rfl) (List.Perm.refl _) rfl rfl fun _ => ?_
        refine r_pure tabOk 5 [0, 1, 7, 8] (E' := [(0, .one (.raw (.pointer none)) p0), (1, .one .str a1), (7, .one (.int .i64) r4.2), (8, .one .str r4.1)]) rfl ?_
        refine r_nil ?_
        refine r_then ?_
        refine r_seq ?_
        refine r_seq ?_
        refine r_region ?_
        refine r_pure tabOk 2 [0, 1, 7, 8, 41] (E' := [(0, .one (.raw (.pointer none)) p0), (1, .one .str a1), (7, .one (.int .i64) r4.2), (8, .one .str r4.1), (41, .one .bool (r4.2 != 0))]) rfl ?_
        refine r_nil ?_
        refine r_then ?_
        refine r_if (b := (r4.2 != 0)) rfl (fun hc => ?_) (fun hc => ?_)
        · rw [if_pos hc] at h
          refine r_seq ?_
          refine r_region ?_
          refine r_pure tabOk 3 [4, 5] (E' := [(4, .one (.raw (.pointer none)) (.pointer none)), (5, .one (.int .i64) r4.2)]) rfl ?_
          refine r_nil ?_
          refine r_then ?_
          refine r_ret ?_
          refine t_then ?_
          refine r_nocls (K := (CMark p0)) (x := ((), [], 0, 0, ())) (e := 1) (by decide) ?_
          obtain rfl := Option.some.inj h
          refine r_perm (L' := [Res.disk Tryz.prog dI p0 a0, Res.clsif (CMark p0) NV ((), [], 0, 0, ()) 1]) ((List.perm_middle (a := Res.disk Tryz.prog dI p0 a0) (l₁ := [Res.clsif (CMark p0) NV ((), [], 0, 0, ()) 1]) (l₂ := [])).trans (.cons _ (List.Perm.refl _))) ?_
          exact r_rets (rs := [.tmp 4, .tmp 5]) rfl (.cons (.tmp rfl) (.cons (.tmp rfl) (.nil))) rfl (fun _ vs g => by cases g with | cons h0 g => cases g with | cons h1 g => cases g; exact ⟨_, rfl, .cons (raw_self h0) (.cons h1 (.nil))⟩) (fun _ vs g => by cases g with | cons h0 g => cases g with | cons h1 g => cases g; rw [raw_eq h0]; exact List.Sublist.refl _)
        · rw [if_neg (ne_true_of_eq_false hc)] at h
          refine r_skip ?_
          refine r_then ?_
          refine r_seq ?_
          refine r_region ?_
          refine r_alloc (t := Y66) rfl zf66 rfl fun b5 => ?_
          refine r_nil ?_
          refine r_then ?_
          obtain ⟨k6, hk6, h⟩ := bnd_ex h
          refine r_joink (γ := Unit) (fun (o7 : (List (Int × Bool × Unit))) _ => [(0, .one (.raw (.pointer none)) p0), (1, .one .str a1), (9, ptr b5 0)]) (fun (o7 : (List (Int × Bool × Unit))) _ => [Res.var b5 66 Y66 o7, Res.disk Tryz.prog dI p0 a0]) k6 r ?_ ?_
          · refine r_seq ?_
            refine r_region ?_
            refine r_pure tabOk 1 [0, 1, 8, 9, 43] (E' := [(0, .one (.raw (.pointer none)) p0), (1, .one .str a1), (8, .one .str r4.1), (9, ptr b5 0), (43, .one (.int .i64) 0)]) rfl ?_
            refine r_nil ?_
            refine r_then ?_
            refine r_block ?_
            refine r_less [0, 1, 8, 9, 43] rfl ?_
            refine r_loopg (γ := Unit) (fun (s23 : Int × (List (Int × Bool × Unit))) _ => [(0, .one (.raw (.pointer none)) p0), (1, .one .str a1), (8, .one .str r4.1), (9, ptr b5 0), (43, .one (.int .i64) s23.1)]) (fun (s23 : Int × (List (Int × Bool × Unit))) _ => [Res.var b5 66 Y66 s23.2, Res.disk Tryz.prog dI p0 a0]) (mark_Open_l0 r4 k6) (0, (List.replicate 2 ((0, false, ()) : Int × Bool × Unit))) () h rfl rfl ?_
            clear h
            intro m24 s23 gg h
            cases m24 with
            | zero => cases h
            | succ m24 =>
            simp only [mark_Open_l0] at h
            refine r_seq ?_
            refine r_region ?_
            refine r_pure tabOk 1 [0, 1, 8, 9, 43, 44] (E' := [(0, .one (.raw (.pointer none)) p0), (1, .one .str a1), (8, .one .str r4.1), (9, ptr b5 0), (43, .one (.int .i64) s23.1), (44, .one .bool (decide (s23.1 < 2)))]) rfl ?_
            refine r_nil ?_
            refine r_then ?_
            refine r_seq ?_
            refine r_if (b := (decide (s23.1 < 2))) rfl (fun hc => ?_) (fun hc => ?_)
            · rw [if_pos hc] at h
              refine r_skip ?_
              refine r_then ?_
              refine r_seq ?_
              refine r_block ?_
              refine r_seq ?_
              refine r_region ?_
              refine r_pure tabOk 2 [0, 1, 8, 9, 10, 43] (E' := [(0, .one (.raw (.pointer none)) p0), (1, .one .str a1), (8, .one .str r4.1), (9, ptr b5 0), (10, .one (.int .i64) s23.1), (43, .one (.int .i64) s23.1)]) rfl ?_
              refine r_nil ?_
              refine r_then ?_
              refine r_region ?_
              refine r_pure tabOk 3 [0, 1, 8, 9, 43, 46, 47, 48] (E' := [(0, .one (.raw (.pointer none)) p0), (1, .one .str a1), (8, .one .str r4.1), (9, ptr b5 0), (43, .one (.int .i64) s23.1), (46, .one (.int .i64) s23.1), (47, .one .str r4.1), (48, .one (.int .i64) s23.1)]) rfl ?_
              obtain ⟨r25, hr25, h⟩ := bind_ex h
              refine r_calls (mark_read_ok r4.1 s23.1 _ hr25) (by kernel_rfl) rfl rfl ?_
              obtain ⟨hc, h⟩ := ite_ex h
              refine y (y_ivar rfl rfl hc.1 hc.2 un66 ty65) rfl ?_
              refine r_store 0 (.elem (Int.toNat s23.1) .here) rfl rfl rfl (by first | rfl | (simp only [Pth.off, T.size]; omega)) (ok_elem (by first | omega | (simp only [List.length_set] at hc ⊢; omega)) ok_here) ty65 ?_
              refine r_nil ?_
              refine r_inblock ?_
              refine r_then ?_
              refine r_region ?_
              refine r_pure tabOk 2 [0, 1, 8, 9, 43] (E' := [(0, .one (.raw (.pointer none)) p0), (1, .one .str a1), (8, .one .str r4.1), (9, ptr b5 0), (43, .one (.int .i64) (IntKind.wrap .i64 (s23.1 + 1)))]) rfl ?_
              refine r_nil ?_
              refine r_then ?_
              refine r_less [0, 1, 8, 9, 43] rfl ?_
              exact r_backg ((IntKind.wrap .i64 (s23.1 + 1)), (List.set s23.2 (Int.toNat s23.1) r25)) () (Nat.lt_succ_self _) h rfl rfl
            · rw [if_neg (ne_true_of_eq_false hc)] at h
              refine r_exit ?_
              refine e_then ?_
              refine e_then ?_
              refine e_eq ?_
              refine r_then ?_
              refine r_less [0, 1, 9] rfl ?_
              exact r_meetk s23.2 () h rfl rfl
          · intro o7 gg h
            rw [← hk6] at h
            try dsimp only at h
            refine r_seq ?_
            refine r_region ?_
            refine r_pure tabOk 2 [0, 1, 9, 52, 53] (E' := [(0, .one (.raw (.pointer none)) p0), (1, .one .str a1), (9, ptr b5 0), (52, .one (.raw (.pointer none)) p0), (53, .one .str a1)]) rfl ?_
            refine y (y_build rfl zf69 rfl rfl (.cons ((.fst .here)) rfl rfl (ok_fst ok_here) (.cons ((.snd (.fst .here))) rfl rfl (ok_snd (ok_fst ok_here)) (.cons ((.snd (.snd (.snd (.fst .here))))) rfl rfl (ok_snd (ok_snd (ok_snd (ok_fst ok_here)))) .nil)))) rfl ?_
            refine r_box rfl rfl fun b8 => ?_
            refine r_pure tabOk 1 [0, 1, 9, 11] (E' := [(0, .one (.raw (.pointer none)) p0), (1, .one .str a1), (9, ptr b5 0), (11, ptr b8 0)]) rfl ?_
            refine r_nil ?_
            refine r_then ?_
            obtain ⟨k9, hk9, h⟩ := bnd_ex h
            refine r_joink (γ := Unit) (fun (o10 : (Unit × List Int × Int × Int × Unit)) _ => [(0, .one (.raw (.pointer none)) p0), (1, .one .str a1), (11, ptr b8 0)]) (fun (o10 : (Unit × List Int × Int × Int × Unit)) _ => [Res.var b8 69 (.pair (.raw (.pointer none)) (.pair .str (.pair (.int .i64) (.pair (.int .i64) .unit)))) (p0, o10.2.1, o10.2.2.1, o10.2.2.2.1, o10.2.2.2.2), Res.var b5 66 Y66 o7, Res.disk Tryz.prog dI p0 a0]) k9 r ?_ ?_
            · refine r_block ?_
              refine r_seq ?_
              refine r_region ?_
              obtain ⟨hc, h⟩ := ite_ex h
              refine y (y_ivar rfl rfl hc.1 hc.2 un66 ty65) rfl ?_
              refine r_pure tabOk 1 [0, 1, 9, 11, 64] (E' := [(0, .one (.raw (.pointer none)) p0), (1, .one .str a1), (9, ptr b5 0), (11, ptr b8 0), (64, ptr b5 ((0 + 0 * 2) + 1))]) rfl ?_
              refine y (y_load 1 (.elem 0 ((.snd (.fst .here)))) rfl rfl (by first | rfl | (simp only [Pth.off, T.size]; omega)) (ok_elem (by first | omega | (simp only [List.length_set] at hc ⊢; omega)) (ok_snd (ok_fst ok_here))) ty4) rfl ?_
              refine r_pure tabOk 2 [0, 1, 9, 11, 67] (E' := [(0, .one (.raw (.pointer none)) p0), (1, .one .str a1), (9, ptr b5 0), (11, ptr b8 0), (67, .one .bool (!((List.getD o7 0 (0, false, ())).2.1)))]) rfl ?_
              obtain ⟨b12, hbb12, h⟩ := bnd_ex h
              rw [hbb12]
              obtain ⟨k13, hk13, h⟩ := bnd_ex h
              refine r_lsplitk (γ := Unit) 5 (fun (o14 : Bool) _ => [(0, .one (.raw (.pointer none)) p0), (1, .one .str a1), (9, ptr b5 0), (11, ptr b8 0), (72, .one .bool o14)]) (fun _ _ => [Res.var b8 69 (.pair (.raw (.pointer none)) (.pair .str (.pair (.int .i64) (.pair (.int .i64) .unit)))) (p0, a1, 0, 1, ()), Res.var b5 66 Y66 o7, Res.disk Tryz.prog dI p0 a0]) k13 r ?_ ?_
              · rcases Bool.eq_false_or_eq_true b12 with hh | hh
                · rw [hh] at h ⊢
                  rw [if_pos rfl] at h
                  refine r_guard (by rfl) rfl ?_
                  obtain ⟨hc, h⟩ := ite_ex h
                  refine y (y_ivar rfl rfl hc.1 hc.2 un66 ty65) rfl ?_
                  refine r_pure tabOk 1 [0, 1, 9, 11, 67, 69] (E' := [(0, .one (.raw (.pointer none)) p0), (1, .one .str a1), (9, ptr b5 0), (11, ptr b8 0), (67, .one .bool true), (69, ptr b5 ((0 + 1 * 2) + 1))]) rfl ?_
                  refine r_guard (by rfl) rfl ?_
                  refine y (y_load 1 (.elem 1 ((.snd (.fst .here)))) rfl rfl (by first | rfl | (simp only [Pth.off, T.size]; omega)) (ok_elem (by first | omega | (simp only [List.length_set] at hc ⊢; omega)) (ok_snd (ok_fst ok_here))) ty4) rfl ?_
                  refine r_pure tabOk 2 [0, 1, 9, 11, 72] (E' := [(0, .one (.raw (.pointer none)) p0), (1, .one .str a1), (9, ptr b5 0), (11, ptr b8 0), (72, .one .bool (!((List.getD o7 1 (0, false, ())).2.1)))]) rfl ?_
                  refine r_nil ?_
                  refine r_less [0, 1, 9, 11, 72] rfl ?_
                  refine r_then ?_
                  exact r_meetk (!((List.getD o7 1 (0, false, ())).2.1)) () h rfl rfl
                · rw [hh] at h ⊢
                  rw [if_neg (by decide)] at h
                  refine r_pure tabOk 5 [0, 1, 9, 11, 72] (E' := [(0, .one (.raw (.pointer none)) p0), (1, .one .str a1), (9, ptr b5 0), (11, ptr b8 0), (72, .one .bool false)]) rfl ?_
                  refine r_nil ?_
                  refine r_less [0, 1, 9, 11, 72] rfl ?_
                  refine r_then ?_
                  exact r_meetk false () h rfl rfl
              · intro o14 _ h
                rw [← hk13] at h
                try dsimp only at h
                refine r_pure tabOk 1 [0, 1, 9, 11, 62] (E' := [(0, .one (.raw (.pointer none)) p0), (1, .one .str a1), (9, ptr b5 0), (11, ptr b8 0), (62, .one .bool o14)]) rfl ?_
                refine r_nil ?_
                refine r_then ?_
                refine r_if (b := o14) rfl (fun hc => ?_) (fun hc => ?_)
                · rw [if_pos hc] at h
                  refine r_seq ?_
                  refine r_region ?_
                  refine r_pure tabOk 2 [4, 5] (E' := [(4, .one (.raw (.pointer none)) (.pointer none)), (5, .one (.int .i64) 190)]) rfl ?_
                  refine r_nil ?_
                  refine r_then ?_
                  refine r_ret ?_
                  refine t_block ?_
                  refine t_then ?_
                  refine r_nocls (K := (CMark p0)) (x := ((), [], 0, 0, ())) (e := 1) (by decide) ?_
                  obtain rfl := Option.some.inj h
                  refine r_lose (L' := [Res.clsif (CMark p0) NV ((), [], 0, 0, ()) 1, Res.disk Tryz.prog dI p0 a0]) (.cons_cons _ (.cons _ (.cons _ (.cons_cons _ .slnil)))) ?_
                  refine r_perm (L' := [Res.disk Tryz.prog dI p0 a0, Res.clsif (CMark p0) NV ((), [], 0, 0, ()) 1]) ((List.perm_middle (a := Res.disk Tryz.prog dI p0 a0) (l₁ := [Res.clsif (CMark p0) NV ((), [], 0, 0, ()) 1]) (l₂ := [])).trans (.cons _ (List.Perm.refl _))) ?_
                  exact r_rets (rs := [.tmp 4, .tmp 5]) rfl (.cons (.tmp rfl) (.cons (.tmp rfl) (.nil))) rfl (fun _ vs g => by cases g with | cons h0 g => cases g with | cons h1 g => cases g; exact ⟨_, rfl, .cons (raw_self h0) (.cons h1 (.nil))⟩) (fun _ vs g => by cases g with | cons h0 g => cases g with | cons h1 g => cases g; rw [raw_eq h0]; exact List.Sublist.refl _)
                · rw [if_neg (ne_true_of_eq_false hc)] at h
                  refine r_seq ?_
                  refine r_region ?_
                  obtain ⟨hc, h⟩ := ite_ex h
                  refine y (y_ivar rfl rfl hc.1 hc.2 un66 ty65) rfl ?_
                  refine r_pure tabOk 1 [0, 1, 9, 11, 75] (E' := [(0, .one (.raw (.pointer none)) p0), (1, .one .str a1), (9, ptr b5 0), (11, ptr b8 0), (75, ptr b5 ((0 + 1 * 2) + 1))]) rfl ?_
                  refine y (y_load 1 (.elem 1 ((.snd (.fst .here)))) rfl rfl (by first | rfl | (simp only [Pth.off, T.size]; omega)) (ok_elem (by first | omega | (simp only [List.length_set] at hc ⊢; omega)) (ok_snd (ok_fst ok_here))) ty4) rfl ?_
                  refine r_pure tabOk 1 [0, 1, 9, 11, 77] (E' := [(0, .one (.raw (.pointer none)) p0), (1, .one .str a1), (9, ptr b5 0), (11, ptr b8 0), (77, .one .bool ((List.getD o7 1 (0, false, ())).2.1))]) rfl ?_
                  obtain ⟨b15, hbb15, h⟩ := bnd_ex h
                  rw [hbb15]
                  obtain ⟨k16, hk16, h⟩ := bnd_ex h
                  refine r_lsplitk (γ := Unit) 14 (fun (o17 : Bool) _ => [(0, .one (.raw (.pointer none)) p0), (1, .one .str a1), (9, ptr b5 0), (11, ptr b8 0), (91, .one .bool o17)]) (fun _ _ => [Res.var b8 69 (.pair (.raw (.pointer none)) (.pair .str (.pair (.int .i64) (.pair (.int .i64) .unit)))) (p0, a1, 0, 1, ()), Res.var b5 66 Y66 o7, Res.disk Tryz.prog dI p0 a0]) k16 r ?_ ?_
                  · rcases Bool.eq_false_or_eq_true b15 with hh | hh
                    · rw [hh] at h ⊢
                      rw [if_pos rfl] at h
                      refine r_guard (by rfl) rfl ?_
                      obtain ⟨hc, h⟩ := ite_ex h
                      refine y (y_ivar rfl rfl hc.1 hc.2 un66 ty65) rfl ?_
                      refine r_pure tabOk 1 [0, 1, 9, 11, 77, 79] (E' := [(0, .one (.raw (.pointer none)) p0), (1, .one .str a1), (9, ptr b5 0), (11, ptr b8 0), (77, .one .bool true), (79, ptr b5 ((0 + 0 * 2) + 1))]) rfl ?_
                      refine r_guard (by rfl) rfl ?_
                      refine y (y_load 1 (.elem 0 ((.snd (.fst .here)))) rfl rfl (by first | rfl | (simp only [Pth.off, T.size]; omega)) (ok_elem (by first | omega | (simp only [List.length_set] at hc ⊢; omega)) (ok_snd (ok_fst ok_here))) ty4) rfl ?_
                      refine r_pure tabOk 2 [0, 1, 9, 11, 77, 82] (E' := [(0, .one (.raw (.pointer none)) p0), (1, .one .str a1), (9, ptr b5 0), (11, ptr b8 0), (77, .one .bool true), (82, .one .bool (!((List.getD o7 0 (0, false, ())).2.1)))]) rfl ?_
                      obtain ⟨b18, hbb18, h⟩ := bnd_ex h
                      rw [hbb18]
                      obtain ⟨k19, hk19, h⟩ := bnd_ex h
                      refine r_lsplitk (γ := Unit) 8 (fun (o20 : Bool) _ => [(0, .one (.raw (.pointer none)) p0), (1, .one .str a1), (9, ptr b5 0), (11, ptr b8 0), (77, .one .bool true), (90, .one .bool o20)]) (fun _ _ => [Res.var b8 69 (.pair (.raw (.pointer none)) (.pair .str (.pair (.int .i64) (.pair (.int .i64) .unit)))) (p0, a1, 0, 1, ()), Res.var b5 66 Y66 o7, Res.disk Tryz.prog dI p0 a0]) k19 r ?_ ?_
                      · rcases Bool.eq_false_or_eq_true b18 with hh | hh
                        · rw [hh] at h ⊢
                          rw [if_pos rfl] at h
                          refine r_pure tabOk 8 [0, 1, 9, 11, 77, 90] (E' := [(0, .one (.raw (.pointer none)) p0), (1, .one .str a1), (9, ptr b5 0), (11, ptr b8 0), (77, .one .bool true), (90, .one .bool true)]) rfl ?_
                          refine r_nil ?_
                          refine r_less [0, 1, 9, 11, 77, 90] rfl ?_
                          refine r_then ?_
                          exact r_meetk true () h rfl rfl
                        · rw [hh] at h ⊢
                          rw [if_neg (by decide)] at h
                          refine r_guard (by rfl) rfl ?_
                          obtain ⟨hc, h⟩ := ite_ex h
                          refine y (y_ivar rfl rfl hc.1 hc.2 un66 ty65) rfl ?_
                          refine r_pure tabOk 1 [0, 1, 9, 11, 77, 82, 84] (E' := [(0, .one (.raw (.pointer none)) p0), (1, .one .str a1), (9, ptr b5 0), (11, ptr b8 0), (77, .one .bool true), (82, .one .bool false), (84, ptr b5 ((0 + 0 * 2) + 0))]) rfl ?_
                          refine r_guard (by rfl) rfl ?_
                          refine y (y_load 1 (.elem 0 ((.fst .here))) rfl rfl (by first | rfl | (simp only [Pth.off, T.size]; omega)) (ok_elem (by first | omega | (simp only [List.length_set] at hc ⊢; omega)) (ok_fst ok_here)) ty2) rfl ?_
                          refine r_guard (by rfl) rfl ?_
                          obtain ⟨hc, h⟩ := ite_ex h
                          refine y (y_ivar rfl rfl hc.1 hc.2 un66 ty65) rfl ?_
                          refine r_pure tabOk 1 [0, 1, 9, 11, 77, 82, 85, 87] (E' := [(0, .one (.raw (.pointer none)) p0), (1, .one .str a1), (9, ptr b5 0), (11, ptr b8 0), (77, .one .bool true), (82, .one .bool false), (85, .one (.int .i64) ((List.getD o7 0 (0, false, ())).1)), (87, ptr b5 ((0 + 1 * 2) + 0))]) rfl ?_
                          refine r_guard (by rfl) rfl ?_
                          refine y (y_load 1 (.elem 1 ((.fst .here))) rfl rfl (by first | rfl | (simp only [Pth.off, T.size]; omega)) (ok_elem (by first | omega | (simp only [List.length_set] at hc ⊢; omega)) (ok_fst ok_here)) ty2) rfl ?_
                          refine r_pure tabOk 2 [0, 1, 9, 11, 77, 90] (E' := [(0, .one (.raw (.pointer none)) p0), (1, .one .str a1), (9, ptr b5 0), (11, ptr b8 0), (77, .one .bool true), (90, .one .bool (decide (((List.getD o7 0 (0, false, ())).1) < ((List.getD o7 1 (0, false, ())).1))))]) rfl ?_
                          refine r_nil ?_
                          refine r_less [0, 1, 9, 11, 77, 90] rfl ?_
                          refine r_then ?_
                          exact r_meetk (decide (((List.getD o7 0 (0, false, ())).1) < ((List.getD o7 1 (0, false, ())).1))) () h rfl rfl
                      · intro o20 _ h
                        rw [← hk19] at h
                        try dsimp only at h
                        refine r_pure tabOk 1 [0, 1, 9, 11, 91] (E' := [(0, .one (.raw (.pointer none)) p0), (1, .one .str a1), (9, ptr b5 0), (11, ptr b8 0), (91, .one .bool o20)]) rfl ?_
                        refine r_nil ?_
                        refine r_less [0, 1, 9, 11, 91] rfl ?_
                        refine r_then ?_
                        exact r_meetk o20 () h rfl rfl
                    · rw [hh] at h ⊢
                      rw [if_neg (by decide)] at h
                      refine r_pure tabOk 14 [0, 1, 9, 11, 91] (E' := [(0, .one (.raw (.pointer none)) p0), (1, .one .str a1), (9, ptr b5 0), (11, ptr b8 0), (91, .one .bool false)]) rfl ?_
                      refine r_nil ?_
                      refine r_less [0, 1, 9, 11, 91] rfl ?_
                      refine r_then ?_
                      exact r_meetk false () h rfl rfl
                  · intro o17 _ h
                    rw [← hk16] at h
                    try dsimp only at h
                    refine r_pure tabOk 1 [0, 1, 9, 11, 73] (E' := [(0, .one (.raw (.pointer none)) p0), (1, .one .str a1), (9, ptr b5 0), (11, ptr b8 0), (73, .one .bool o17)]) rfl ?_
                    refine r_nil ?_
                    refine r_then ?_
                    refine r_if (b := o17) rfl (fun hc => ?_) (fun hc => ?_)
                    · rw [if_pos hc] at h
                      refine r_region ?_
                      refine r_pure tabOk 2 [0, 1, 9, 11, 92, 93] (E' := [(0, .one (.raw (.pointer none)) p0), (1, .one .str a1), (9, ptr b5 0), (11, ptr b8 0), (92, ptr b8 0), (93, ptr b8 0)]) rfl ?_
                      obtain ⟨hc, h⟩ := ite_ex h
                      refine y (y_ivar rfl rfl hc.1 hc.2 un66 ty65) rfl ?_
                      refine r_pure tabOk 1 [0, 1, 11, 92, 93, 95] (E' := [(0, .one (.raw (.pointer none)) p0), (1, .one .str a1), (11, ptr b8 0), (92, ptr b8 0), (93, ptr b8 0), (95, ptr b5 ((0 + 1 * 2) + 0))]) rfl ?_
                      refine y (y_load 1 (.elem 1 ((.fst .here))) rfl rfl (by first | rfl | (simp only [Pth.off, T.size]; omega)) (ok_elem (by first | omega | (simp only [List.length_set] at hc ⊢; omega)) (ok_fst ok_here)) ty2) rfl ?_
                      refine r_pure tabOk 2 [0, 1, 11, 93, 96, 98] (E' := [(0, .one (.raw (.pointer none)) p0), (1, .one .str a1), (11, ptr b8 0), (93, ptr b8 0), (96, .one (.int .i64) ((List.getD o7 1 (0, false, ())).1)), (98, ptr b8 2)]) rfl ?_
                      refine r_store 0 ((.snd (.snd (.fst .here)))) rfl rfl rfl (by first | rfl | (simp only [Pth.off, T.size]; omega)) (ok_snd (ok_snd (ok_fst ok_here))) ty2 ?_
                      refine r_pure tabOk 2 [0, 1, 11, 100] (E' := [(0, .one (.raw (.pointer none)) p0), (1, .one .str a1), (11, ptr b8 0), (100, ptr b8 3)]) rfl ?_
                      refine r_store 0 ((.snd (.snd (.snd (.fst .here))))) rfl rfl rfl (by first | rfl | (simp only [Pth.off, T.size]; omega)) (ok_snd (ok_snd (ok_snd (ok_fst ok_here)))) ty3 ?_
                      refine r_nil ?_
                      refine r_inblock ?_
                      refine r_then ?_
                      refine r_less [0, 1, 11] rfl ?_
                      exact r_meetk ((), a1, (List.getD o7 1 (0, false, ())).1, 0, ()) () h rfl rfl
                    · rw [if_neg (ne_true_of_eq_false hc)] at h
                      refine r_region ?_
                      refine r_pure tabOk 1 [0, 1, 9, 11, 56] (E' := [(0, .one (.raw (.pointer none)) p0), (1, .one .str a1), (9, ptr b5 0), (11, ptr b8 0), (56, ptr b8 0)]) rfl ?_
                      obtain ⟨hc, h⟩ := ite_ex h
                      refine y (y_ivar rfl rfl hc.1 hc.2 un66 ty65) rfl ?_
                      refine r_pure tabOk 1 [0, 1, 11, 56, 58] (E' := [(0, .one (.raw (.pointer none)) p0), (1, .one .str a1), (11, ptr b8 0), (56, ptr b8 0), (58, ptr b5 ((0 + 0 * 2) + 0))]) rfl ?_
                      refine y (y_load 1 (.elem 0 ((.fst .here))) rfl rfl (by first | rfl | (simp only [Pth.off, T.size]; omega)) (ok_elem (by first | omega | (simp only [List.length_set] at hc ⊢; omega)) (ok_fst ok_here)) ty2) rfl ?_
                      refine r_pure tabOk 2 [0, 1, 11, 59, 61] (E' := [(0, .one (.raw (.pointer none)) p0), (1, .one .str a1), (11, ptr b8 0), (59, .one (.int .i64) ((List.getD o7 0 (0, false, ())).1)), (61, ptr b8 2)]) rfl ?_
                      refine r_store 0 ((.snd (.snd (.fst .here)))) rfl rfl rfl (by first | rfl | (simp only [Pth.off, T.size]; omega)) (ok_snd (ok_snd (ok_fst ok_here))) ty2 ?_
                      refine r_nil ?_
                      refine r_inblock ?_
                      refine r_then ?_
                      refine r_less [0, 1, 11] rfl ?_
                      exact r_meetk ((), a1, (List.getD o7 0 (0, false, ())).1, 1, ()) () h rfl rfl
            · intro o10 gg h
              rw [← hk9] at h
              try dsimp only at h
              refine r_seq ?_
              refine r_seq ?_
              refine r_region ?_
              refine r_pure tabOk 2 [11, 101, 102] (E' := [(11, ptr b8 0), (101, .one (.raw (.pointer none)) p0), (102, .one .str a1)]) rfl ?_
              obtain ⟨r11, hr11, h⟩ := bind_ex h
              refine r_call (Lo := [Res.var b8 69 (.pair (.raw (.pointer none)) (.pair .str (.pair (.int .i64) (.pair (.int .i64) .unit)))) (p0, o10.2.1, o10.2.2.1, o10.2.2.2.1, o10.2.2.2.2), Res.var b5 66 Y66 o7]) (disk_Disk_Sync_ok p0 a0 a1 _ hr11) (by kernel_rfl) ((List.perm_middle (a := Res.disk Tryz.prog dI p0 a0) (l₁ := [Res.var b8 69 (.pair (.raw (.pointer none)) (.pair .str (.pair (.int .i64) (.pair (.int .i64) .unit)))) (p0, o10.2.1, o10.2.2.1, o10.2.2.2.1, o10.2.2.2.2), Res.var b5 66 Y66 o7]) (l₂ := [])).trans (.cons _ (List.Perm.refl _))) rfl rfl fun _ => ?_
              refine r_pure tabOk 1 [11, 12] (E' := [(11, ptr b8 0), (12, .one (.int .i64) r11.1)]) rfl ?_
              refine r_nil ?_
              refine r_then ?_
              refine r_seq ?_
              refine r_region ?_
              refine r_pure tabOk 2 [11, 12, 105] (E' := [(11, ptr b8 0), (12, .one (.int .i64) r11.1), (105, .one .bool (r11.1 != 0))]) rfl ?_
              refine r_nil ?_
              refine r_then ?_
              refine r_if (b := (r11.1 != 0)) rfl (fun hc => ?_) (fun hc => ?_)
              · rw [if_pos hc] at h
                refine r_seq ?_
                refine r_region ?_
                refine r_pure tabOk 3 [4, 5] (E' := [(4, .one (.raw (.pointer none)) (.pointer none)), (5, .one (.int .i64) r11.1)]) rfl ?_
                refine r_nil ?_
                refine r_then ?_
                refine r_ret ?_
                refine t_then ?_
                refine r_nocls (K := (CMark p0)) (x := ((), [], 0, 0, ())) (e := 1) (by decide) ?_
                obtain rfl := Option.some.inj h
                refine r_lose (L' := [Res.clsif (CMark p0) NV ((), [], 0, 0, ()) 1, Res.disk Tryz.prog dI p0 r11.2]) (.cons_cons _ (.cons_cons _ (.cons _ (.cons _ .slnil)))) ?_
                refine r_perm (L' := [Res.disk Tryz.prog dI p0 r11.2, Res.clsif (CMark p0) NV ((), [], 0, 0, ()) 1]) ((List.perm_middle (a := Res.disk Tryz.prog dI p0 r11.2) (l₁ := [Res.clsif (CMark p0) NV ((), [], 0, 0, ()) 1]) (l₂ := [])).trans (.cons _ (List.Perm.refl _))) ?_
                exact r_rets (rs := [.tmp 4, .tmp 5]) rfl (.cons (.tmp rfl) (.cons (.tmp rfl) (.nil))) rfl (fun _ vs g => by cases g with | cons h0 g => cases g with | cons h1 g => cases g; exact ⟨_, rfl, .cons (raw_self h0) (.cons h1 (.nil))⟩) (fun _ vs g => by cases g with | cons h0 g => cases g with | cons h1 g => cases g; rw [raw_eq h0]; exact List.Sublist.refl _)
              · rw [if_neg (ne_true_of_eq_false hc)] at h
                refine r_skip ?_
                refine r_then ?_
                refine r_seq ?_
                refine r_region ?_
                refine r_pure tabOk 3 [4, 5] (E' := [(4, ptr b8 0), (5, .one (.int .i64) 0)]) rfl ?_
                refine r_nil ?_
                refine r_then ?_
                refine r_ret ?_
                refine r_perm (L' := [Res.var b8 69 (.pair (.raw (.pointer none)) (.pair .str (.pair (.int .i64) (.pair (.int .i64) .unit)))) (p0, o10.2.1, o10.2.2.1, o10.2.2.2.1, o10.2.2.2.2), Res.disk Tryz.prog dI p0 r11.2, Res.var b5 66 Y66 o7]) ((List.perm_middle (a := Res.var b8 69 (.pair (.raw (.pointer none)) (.pair .str (.pair (.int .i64) (.pair (.int .i64) .unit)))) (p0, o10.2.1, o10.2.2.1, o10.2.2.2.1, o10.2.2.2.2)) (l₁ := [Res.disk Tryz.prog dI p0 r11.2]) (l₂ := [Res.var b5 66 Y66 o7])).trans (.cons _ (List.Perm.refl _))) ?_
                refine r_CMark (x := o10) (q := p0) ?_
                refine r_imp_at (R' := Res.clsif (CMark p0) (.pointer (some ⟨b8, 0, none⟩)) o10 0) 0 rfl (clsif_of rfl) ?_
                obtain rfl := Option.some.inj h
                refine r_lose (L' := [Res.clsif (CMark p0) (.pointer (some ⟨b8, 0, none⟩)) o10 0, Res.disk Tryz.prog dI p0 r11.2]) (.cons_cons _ (.cons_cons _ (.cons _ .slnil))) ?_
                refine r_perm (L' := [Res.disk Tryz.prog dI p0 r11.2, Res.clsif (CMark p0) (.pointer (some ⟨b8, 0, none⟩)) o10 0]) ((List.perm_middle (a := Res.disk Tryz.prog dI p0 r11.2) (l₁ := [Res.clsif (CMark p0) (.pointer (some ⟨b8, 0, none⟩)) o10 0]) (l₂ := [])).trans (.cons _ (List.Perm.refl _))) ?_
                exact r_rets (rs := [.tmp 4, .tmp 5]) rfl (.cons (.tmp rfl) (.cons (.tmp rfl) (.nil))) rfl (fun _ vs g => by cases g with | cons h0 g => cases g with | cons h1 g => cases g; exact ⟨_, rfl, .cons (raw_self h0) (.cons h1 (.nil))⟩) (fun _ vs g => by cases g with | cons h0 g => cases g with | cons h1 g => cases g; rw [raw_eq h0]; exact List.Sublist.refl _)

theorem mark_Mark_Value_ok (p0 : Value) (p100 : Value) (a0 : Unit × List Int × Int × Int × Unit) (a100 : DiskS) (r : Int) (h : mark_Mark_Value a0 a100 = some r) : Fn Tryz.prog 14 [.one (.raw (.pointer none)) p0] [Res.cls (CMark p100) p0 a0, Res.disk Tryz.prog dI p100 a100] (fun _ => .one (.int .i64) r) (fun _ => [Res.cls (CMark p100) p0 a0, Res.disk Tryz.prog dI p100 a100]) := by
  unfold mark_Mark_Value at h
  refine enter Tryz.func14 rfl 7 rfl rfl fun F => ?_
  refine r_seq ?_
  refine r_region ?_
  refine r_pure tabOk 1 [0] (E' := [(0, .one (.raw (.pointer none)) p0)]) rfl ?_
  refine r_nil ?_
  refine r_then ?_
  refine r_seq ?_
  refine r_unCMark fun b1 hp => ?_
  subst hp
  refine r_region ?_
  refine r_pure tabOk 3 [5] (E' := [(5, ptr b1 2)]) rfl ?_
  refine y (y_load 0 ((.snd (.snd (.fst .here)))) rfl rfl (by first | rfl | (simp only [Pth.off, T.size]; omega)) (ok_snd (ok_snd (ok_fst ok_here))) ty2) rfl ?_
  refine r_pure tabOk 1 [2] (E' := [(2, .one (.int .i64) a0.2.2.1)]) rfl ?_
  refine r_nil ?_
  refine r_then ?_
  refine r_ret ?_
  refine r_CMark (x := a0) (q := p100) ?_
  obtain rfl := Option.some.inj h
  exact r_ret1 rfl (.tmp rfl) (fun _ _ g => g) (fun _ _ _ => (.cons_cons _ (.cons_cons _ .slnil)))
end Sx
