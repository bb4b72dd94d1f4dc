/-
  Own work, printed by a program of the same hand. Each function of the code answers what its plain twin reckons.
-/
import Derived.Test.YtpkjocjchkibaaaWalk2
namespace Sx
open Go Go.Proofs
set_option maxRecDepth 10000

theorem escrowlaw04_DiskApart_ok (a0 : List (Int × Bool × List Int × List Int × Int × Int × List Int × (List (List Int × Int × Int × List Int × Unit)) × Unit)) (r : Bool) (h : escrowlaw04_DiskApart a0 = some r) : Pure Try.prog 4 [.one (.sl 41 Y41) a0] (.one .bool r) := by
  unfold escrowlaw04_DiskApart at h
  refine enter Try.func4 rfl 130 rfl rfl fun F => ?_
  refine r_seq ?_
  refine r_region ?_
  refine r_pure tabOk 1 [0] (E' := [(0, .one (.sl 41 Y41) a0)]) rfl ?_
  refine r_nil ?_
  refine r_then ?_
  refine r_seq ?_
  refine r_region ?_
  refine r_pure tabOk 1 [12] (E' := [(12, .one (.sl 41 Y41) a0)]) rfl ?_
  obtain ⟨r1, hr1, h⟩ := bind_ex h
  refine r_call (Lo := []) (escrowlaw04_made_ok a0 _ hr1) (by kernel_rfl) (by simp) rfl rfl fun v2 => ?_
  refine r_pure tabOk 1 [3] (E' := [(3, .one (.raw (.pointer none)) v2)]) rfl ?_
  refine r_nil ?_
  refine r_then ?_
  refine r_seq ?_
  refine r_seq ?_
  refine r_region ?_
  refine r_pure tabOk 1 [3, 14] (E' := [(3, .one (.raw (.pointer none)) v2), (14, .one (.raw (.pointer none)) v2)]) rfl ?_
  refine y (y_dnil 0 rfl rfl Try.underlying24) rfl ?_
  refine r_pure tabOk 1 [3, 16] (E' := [(3, .one (.raw (.pointer none)) v2), (16, .one .bool (r1.1 != 0))]) rfl ?_
  obtain ⟨b3, hbb3, h⟩ := bnd_ex h
  rw [hbb3]
  obtain ⟨k4, hk4, h⟩ := bnd_ex h
  refine r_lsplitk (γ := Unit) 3 (fun (o5 : Bool) _ => [(3, .one (.raw (.pointer none)) v2), (19, .one .bool o5)]) (fun _ _ => [Res.diskif Try.prog dI v2 r1.2 r1.1]) k4 r ?_ ?_
  · rcases Bool.eq_false_or_eq_true b3 with hh | hh
    · rw [hh] at h ⊢
      rw [if_pos rfl] at h
      refine r_pure tabOk 3 [3, 19] (E' := [(3, .one (.raw (.pointer none)) v2), (19, .one .bool true)]) rfl ?_
      refine r_nil ?_
      refine r_less [3, 19] rfl ?_
      refine r_then ?_
      exact r_meetk true () h rfl rfl
    · rw [hh] at h ⊢
      rw [if_neg (by decide)] at h
      refine r_guard (by rfl) rfl ?_
      obtain ⟨r6, hr6, h⟩ := bind_ex h
      refine r_calls (escrowlaw04_first_ok  _ hr6) (by kernel_rfl) rfl rfl ?_
      refine r_pure tabOk 2 [3, 19] (E' := [(3, .one (.raw (.pointer none)) v2), (19, .one .bool (!r6))]) rfl ?_
      refine r_nil ?_
      refine r_less [3, 19] rfl ?_
      refine r_then ?_
      exact r_meetk (!r6) () h rfl rfl
  · intro o5 _ h
    rw [← hk4] at h
    try dsimp only at h
    refine r_nil ?_
    refine r_then ?_
    refine r_if (b := o5) rfl (fun hc => ?_) (fun hc => ?_)
    · rw [if_pos hc] at h
      refine r_seq ?_
      refine r_region ?_
      refine r_pure tabOk 1 [2] (E' := [(2, .one .bool false)]) rfl ?_
      refine r_nil ?_
      refine r_then ?_
      refine r_ret ?_
      refine t_then ?_
      obtain rfl := Option.some.inj h
      exact r_ret1 rfl (.tmp rfl) (fun _ _ g => g) (fun _ _ _ => List.nil_sublist _)
    · rw [if_neg (ne_true_of_eq_false hc)] at h
      refine r_skip ?_
      refine r_then ?_
      refine r_seq ?_
      refine r_region ?_
      refine r_pure tabOk 1 [3, 20] (E' := [(3, .one (.raw (.pointer none)) v2), (20, .one (.raw (.pointer none)) v2)]) rfl ?_
      obtain ⟨hc, h⟩ := ite_ex h
      refine r_imp_at (R' := Res.disk Try.prog dI v2 r1.2) 0 rfl (diskif_disk hc) ?_
      obtain ⟨r7, hr7, h⟩ := bind_ex h
      refine r_call (Lo := []) (disk_Disk_List_ok v2 r1.2 _ hr7) (by kernel_rfl) (List.Perm.refl _) rfl rfl fun v8 => ?_
      refine r_pure tabOk 1 [3, 4] (E' := [(3, .one (.raw (.pointer none)) v2), (4, .one (.raw (.slice none 0 0)) v8)]) rfl ?_
      refine r_nil ?_
      refine r_then ?_
      refine r_seq ?_
      refine r_region ?_
      refine r_pure tabOk 1 [3, 4, 22] (E' := [(3, .one (.raw (.pointer none)) v2), (4, .one (.raw (.slice none 0 0)) v8), (22, .one (.raw (.pointer none)) v2)]) rfl ?_
      obtain ⟨r9, hr9, h⟩ := bind_ex h
      refine r_call (Lo := [Res.own v8 9 .str r7]) (disk_Disk_List_ok v2 r1.2 _ hr9) (by kernel_rfl) (List.Perm.refl _) rfl rfl fun v10 => ?_
      refine r_pure tabOk 1 [3, 4, 5] (E' := [(3, .one (.raw (.pointer none)) v2), (4, .one (.raw (.slice none 0 0)) v8), (5, .one (.raw (.slice none 0 0)) v10)]) rfl ?_
      refine r_nil ?_
      refine r_then ?_
      refine r_seq ?_
      refine r_region ?_
      refine r_pure tabOk 1 [3, 4, 5, 6] (E' := [(3, .one (.raw (.pointer none)) v2), (4, .one (.raw (.slice none 0 0)) v8), (5, .one (.raw (.slice none 0 0)) v10), (6, .one (.raw (.slice none 0 0)) (.slice none 0 0))]) rfl ?_
      refine r_nilown (.slice none 0 0) rfl 9 .str ?_
      refine r_nil ?_
      refine r_then ?_
      refine r_seq ?_
      refine r_region ?_
      refine r_pure tabOk 2 [3, 4, 5, 24, 25] (E' := [(3, .one (.raw (.pointer none)) v2), (4, .one (.raw (.slice none 0 0)) v8), (5, .one (.raw (.slice none 0 0)) v10), (24, .one (.raw (.slice none 0 0)) (.slice none 0 0)), (25, .one (.raw (.slice none 0 0)) v8)]) rfl ?_
      obtain ⟨hc, h⟩ := ite_ex h
      refine r_append (B := 16) tabOk 0 rfl rfl (src_own 3 rfl rfl) rfl el9 rfl rfl hc rfl fun v11 => ?_
      refine r_pure tabOk 1 [3, 4, 5, 6] (E' := [(3, .one (.raw (.pointer none)) v2), (4, .one (.raw (.slice none 0 0)) v8), (5, .one (.raw (.slice none 0 0)) v10), (6, .one (.raw (.slice none 0 0)) v11)]) rfl ?_
      refine r_nil ?_
      refine r_then ?_
      obtain ⟨k12, hk12, h⟩ := bnd_ex h
      refine r_joink (γ := Value × Value) (fun (o13 : List (List Int)) g16 => [(3, .one (.raw (.pointer none)) v2), (4, .one (.raw (.slice none 0 0)) g16.2), (5, .one (.raw (.slice none 0 0)) v10), (6, .one (.raw (.slice none 0 0)) g16.1)]) (fun (o13 : List (List Int)) g16 => [Res.own g16.1 9 .str ([] ++ r7), Res.disk Try.prog dI v2 r1.2, Res.own v10 9 .str r9, Res.own g16.2 9 .str o13]) k12 r ?_ ?_
      · refine r_seq ?_
        refine r_region ?_
        refine r_pure tabOk 1 [3, 4, 5, 6, 7] (E' := [(3, .one (.raw (.pointer none)) v2), (4, .one (.raw (.slice none 0 0)) v8), (5, .one (.raw (.slice none 0 0)) v10), (6, .one (.raw (.slice none 0 0)) v11), (7, .one (.int .i64) 0)]) rfl ?_
        refine r_nil ?_
        refine r_then ?_
        refine r_block ?_
        refine r_less [3, 4, 5, 6, 7] rfl ?_
        refine r_loopg (γ := Value × Value) (fun (s46 : Int × List (List Int)) g49 => [(3, .one (.raw (.pointer none)) v2), (4, .one (.raw (.slice none 0 0)) g49.2), (5, .one (.raw (.slice none 0 0)) v10), (6, .one (.raw (.slice none 0 0)) g49.1), (7, .one (.int .i64) s46.1)]) (fun (s46 : Int × List (List Int)) g49 => [Res.own g49.1 9 .str ([] ++ r7), Res.disk Try.prog dI v2 r1.2, Res.own v10 9 .str r9, Res.own g49.2 9 .str s46.2]) (escrowlaw04_DiskApart_l0 r1 r7 k12) (0, r7) (v11, v8) h rfl rfl ?_
        clear h
        intro m50 s46 g49 h
        cases m50 with
        | zero => cases h
        | succ m50 =>
        simp only [escrowlaw04_DiskApart_l0] at h
        refine r_seq ?_
        refine r_seq ?_
        refine r_region ?_
        refine r_pure tabOk 2 [3, 4, 5, 6, 7, 27, 28] (E' := [(3, .one (.raw (.pointer none)) v2), (4, .one (.raw (.slice none 0 0)) g49.2), (5, .one (.raw (.slice none 0 0)) v10), (6, .one (.raw (.slice none 0 0)) g49.1), (7, .one (.int .i64) s46.1), (27, .one (.int .i64) s46.1), (28, .one (.raw (.slice none 0 0)) g49.1)]) rfl ?_
        refine y (y_lenown tabOk 0 rfl rfl rfl) rfl ?_
        refine r_pure tabOk 1 [3, 4, 5, 6, 7, 30] (E' := [(3, .one (.raw (.pointer none)) v2), (4, .one (.raw (.slice none 0 0)) g49.2), (5, .one (.raw (.slice none 0 0)) v10), (6, .one (.raw (.slice none 0 0)) g49.1), (7, .one (.int .i64) s46.1), (30, .one .bool (decide (s46.1 < (List.length ([] ++ r7) : Int))))]) rfl ?_
        refine r_nil ?_
        refine r_then ?_
        refine r_if (b := (decide (s46.1 < (List.length ([] ++ r7) : Int)))) rfl (fun hc => ?_) (fun hc => ?_)
        · rw [if_pos hc] at h
          refine r_skip ?_
          refine r_then ?_
          refine r_seq ?_
          refine r_block ?_
          refine r_seq ?_
          refine r_region ?_
          refine r_pure tabOk 3 [3, 4, 5, 6, 7, 33, 34, 35] (E' := [(3, .one (.raw (.pointer none)) v2), (4, .one (.raw (.slice none 0 0)) g49.2), (5, .one (.raw (.slice none 0 0)) v10), (6, .one (.raw (.slice none 0 0)) g49.1), (7, .one (.int .i64) s46.1), (33, .one (.raw (.pointer none)) v2), (34, .one (.raw (.slice none 0 0)) g49.1), (35, .one (.int .i64) s46.1)]) rfl ?_
          obtain ⟨hc, h⟩ := ite_ex h
          refine r_expose 0 rfl (by first | omega | (simp only [List.length_set] at hc ⊢; omega)) fun b51 c52 hv => ?_
          rw [hv]
          try clear hv
          refine y (y_iraw tabOk rfl rfl hc.1 (by first | exact hc.2 | simpa using hc.2) rfl ty9) rfl ?_
          refine y (y_lown 0 (Int.toNat s46.1) .here rfl rfl (by first | omega | (simp only [List.length_set] at hc ⊢; omega)) (by first | rfl | (simp only [Pth.off, T.size]; omega)) ok_here ty9) rfl ?_
          obtain ⟨r53, hr53, h⟩ := bind_ex h
          refine r_call (Lo := [Res.own (.slice (some ⟨b51, 0, none⟩) (List.length ([] ++ r7)) c52) 9 .str ([] ++ r7), Res.own v10 9 .str r9, Res.own g49.2 9 .str s46.2]) (disk_Disk_Dirty_ok v2 r1.2 (List.getD ([] ++ r7) (Int.toNat s46.1) []) _ hr53) (by kernel_rfl) ((List.perm_middle (a := Res.disk Try.prog dI v2 r1.2) (l₁ := [Res.own (.slice (some ⟨b51, 0, none⟩) (List.length ([] ++ r7)) c52) 9 .str ([] ++ r7)]) (l₂ := [Res.own v10 9 .str r9, Res.own g49.2 9 .str s46.2])).trans (.cons _ (List.Perm.refl _))) rfl rfl fun v54 => ?_
          refine r_pure tabOk 1 [3, 4, 5, 6, 7, 8] (E' := [(3, .one (.raw (.pointer none)) v2), (4, .one (.raw (.slice none 0 0)) g49.2), (5, .one (.raw (.slice none 0 0)) v10), (6, .one (.raw (.slice none 0 0)) (.slice (some ⟨b51, 0, none⟩) (List.length ([] ++ r7)) c52)), (7, .one (.int .i64) s46.1), (8, .one (.raw (.slice none 0 0)) v54)]) rfl ?_
          refine r_nil ?_
          refine r_then ?_
          refine r_seq ?_
          refine r_region ?_
          refine r_pure tabOk 3 [3, 4, 5, 6, 7, 8, 39, 40, 41] (E' := [(3, .one (.raw (.pointer none)) v2), (4, .one (.raw (.slice none 0 0)) g49.2), (5, .one (.raw (.slice none 0 0)) v10), (6, .one (.raw (.slice none 0 0)) (.slice (some ⟨b51, 0, none⟩) (List.length ([] ++ r7)) c52)), (7, .one (.int .i64) s46.1), (8, .one (.raw (.slice none 0 0)) v54), (39, .one (.raw (.pointer none)) v2), (40, .one (.raw (.slice none 0 0)) (.slice (some ⟨b51, 0, none⟩) (List.length ([] ++ r7)) c52)), (41, .one (.int .i64) s46.1)]) rfl ?_
          obtain ⟨hc, h⟩ := ite_ex h
          refine y (y_iraw tabOk rfl rfl hc.1 (by first | exact hc.2 | simpa using hc.2) rfl ty9) rfl ?_
          refine y (y_lown 2 (Int.toNat s46.1) .here rfl rfl (by first | omega | (simp only [List.length_set] at hc ⊢; omega)) (by first | rfl | (simp only [Pth.off, T.size]; omega)) ok_here ty9) rfl ?_
          obtain ⟨r57, hr57, h⟩ := bind_ex h
          refine r_call (Lo := [Res.own v54 3 (.int .i64) r53, Res.own (.slice (some ⟨b51, 0, none⟩) (List.length ([] ++ r7)) c52) 9 .str ([] ++ r7), Res.own v10 9 .str r9, Res.own g49.2 9 .str s46.2]) (disk_Disk_Dirty_ok v2 r1.2 (List.getD ([] ++ r7) (Int.toNat s46.1) []) _ hr57) (by kernel_rfl) (List.Perm.refl _) rfl rfl fun v58 => ?_
          refine r_pure tabOk 1 [3, 4, 5, 6, 7, 8, 9] (E' := [(3, .one (.raw (.pointer none)) v2), (4, .one (.raw (.slice none 0 0)) g49.2), (5, .one (.raw (.slice none 0 0)) v10), (6, .one (.raw (.slice none 0 0)) (.slice (some ⟨b51, 0, none⟩) (List.length ([] ++ r7)) c52)), (7, .one (.int .i64) s46.1), (8, .one (.raw (.slice none 0 0)) v54), (9, .one (.raw (.slice none 0 0)) v58)]) rfl ?_
          refine r_nil ?_
          refine r_then ?_
          refine r_seq ?_
          refine r_region ?_
          refine r_pure tabOk 1 [3, 4, 5, 6, 7, 8, 9, 10] (E' := [(3, .one (.raw (.pointer none)) v2), (4, .one (.raw (.slice none 0 0)) g49.2), (5, .one (.raw (.slice none 0 0)) v10), (6, .one (.raw (.slice none 0 0)) (.slice (some ⟨b51, 0, none⟩) (List.length ([] ++ r7)) c52)), (7, .one (.int .i64) s46.1), (8, .one (.raw (.slice none 0 0)) v54), (9, .one (.raw (.slice none 0 0)) v58), (10, .one (.raw (.slice none 0 0)) (.slice none 0 0))]) rfl ?_
          refine r_nilown (.slice none 0 0) rfl 3 (.int .i64) ?_
          refine r_nil ?_
          refine r_then ?_
          refine r_seq ?_
          refine r_region ?_
          refine r_pure tabOk 2 [3, 4, 5, 6, 7, 8, 9, 45, 46] (E' := [(3, .one (.raw (.pointer none)) v2), (4, .one (.raw (.slice none 0 0)) g49.2), (5, .one (.raw (.slice none 0 0)) v10), (6, .one (.raw (.slice none 0 0)) (.slice (some ⟨b51, 0, none⟩) (List.length ([] ++ r7)) c52)), (7, .one (.int .i64) s46.1), (8, .one (.raw (.slice none 0 0)) v54), (9, .one (.raw (.slice none 0 0)) v58), (45, .one (.raw (.slice none 0 0)) (.slice none 0 0)), (46, .one (.raw (.slice none 0 0)) v54)]) rfl ?_
          obtain ⟨hc, h⟩ := ite_ex h
          refine r_append (B := 8) tabOk 0 rfl rfl (src_own 3 rfl rfl) rfl el3 rfl rfl hc rfl fun v59 => ?_
          refine r_pure tabOk 1 [3, 4, 5, 6, 7, 8, 9, 10] (E' := [(3, .one (.raw (.pointer none)) v2), (4, .one (.raw (.slice none 0 0)) g49.2), (5, .one (.raw (.slice none 0 0)) v10), (6, .one (.raw (.slice none 0 0)) (.slice (some ⟨b51, 0, none⟩) (List.length ([] ++ r7)) c52)), (7, .one (.int .i64) s46.1), (8, .one (.raw (.slice none 0 0)) v54), (9, .one (.raw (.slice none 0 0)) v58), (10, .one (.raw (.slice none 0 0)) v59)]) rfl ?_
          refine r_nil ?_
          refine r_then ?_
          obtain ⟨k60, hk60, h⟩ := bnd_ex h
          refine r_joink (γ := Value) (fun (o61 : List (Int)) g62 => [(3, .one (.raw (.pointer none)) v2), (4, .one (.raw (.slice none 0 0)) g49.2), (5, .one (.raw (.slice none 0 0)) v10), (6, .one (.raw (.slice none 0 0)) (.slice (some ⟨b51, 0, none⟩) (List.length ([] ++ r7)) c52)), (7, .one (.int .i64) s46.1), (8, .one (.raw (.slice none 0 0)) g62), (9, .one (.raw (.slice none 0 0)) v58), (10, .one (.raw (.slice none 0 0)) v59)]) (fun (o61 : List (Int)) g62 => [Res.own v59 3 (.int .i64) ([] ++ r53), Res.disk Try.prog dI v2 r1.2, Res.own v58 3 (.int .i64) r57, Res.own g62 3 (.int .i64) o61, Res.own (.slice (some ⟨b51, 0, none⟩) (List.length ([] ++ r7)) c52) 9 .str ([] ++ r7), Res.own v10 9 .str r9, Res.own g49.2 9 .str s46.2]) k60 r ?_ ?_
          · refine r_seq ?_
            refine r_region ?_
            refine r_pure tabOk 1 [3, 4, 5, 6, 7, 8, 9, 10, 11] (E' := [(3, .one (.raw (.pointer none)) v2), (4, .one (.raw (.slice none 0 0)) g49.2), (5, .one (.raw (.slice none 0 0)) v10), (6, .one (.raw (.slice none 0 0)) (.slice (some ⟨b51, 0, none⟩) (List.length ([] ++ r7)) c52)), (7, .one (.int .i64) s46.1), (8, .one (.raw (.slice none 0 0)) v54), (9, .one (.raw (.slice none 0 0)) v58), (10, .one (.raw (.slice none 0 0)) v59), (11, .one (.int .i64) 0)]) rfl ?_
            refine r_nil ?_
            refine r_then ?_
            refine r_block ?_
            refine r_less [3, 4, 5, 6, 7, 8, 9, 10, 11] rfl ?_
            refine r_loopg (γ := Value) (fun (s94 : Int × List (Int)) g95 => [(3, .one (.raw (.pointer none)) v2), (4, .one (.raw (.slice none 0 0)) g49.2), (5, .one (.raw (.slice none 0 0)) v10), (6, .one (.raw (.slice none 0 0)) (.slice (some ⟨b51, 0, none⟩) (List.length ([] ++ r7)) c52)), (7, .one (.int .i64) s46.1), (8, .one (.raw (.slice none 0 0)) g95), (9, .one (.raw (.slice none 0 0)) v58), (10, .one (.raw (.slice none 0 0)) v59), (11, .one (.int .i64) s94.1)]) (fun (s94 : Int × List (Int)) g95 => [Res.own v59 3 (.int .i64) ([] ++ r53), Res.disk Try.prog dI v2 r1.2, Res.own v58 3 (.int .i64) r57, Res.own g95 3 (.int .i64) s94.2, Res.own (.slice (some ⟨b51, 0, none⟩) (List.length ([] ++ r7)) c52) 9 .str ([] ++ r7), Res.own v10 9 .str r9, Res.own g49.2 9 .str s46.2]) (escrowlaw04_DiskApart_l1 k60) (0, r53) v54 h rfl rfl ?_
            clear h
            intro m96 s94 g95 h
            cases m96 with
            | zero => cases h
            | succ m96 =>
            simp only [escrowlaw04_DiskApart_l1] at h
            refine r_seq ?_
            refine r_seq ?_
            refine r_region ?_
            refine r_pure tabOk 2 [3, 4, 5, 6, 7, 8, 9, 10, 11, 48, 49] (E' := [(3, .one (.raw (.pointer none)) v2), (4, .one (.raw (.slice none 0 0)) g49.2), (5, .one (.raw (.slice none 0 0)) v10), (6, .one (.raw (.slice none 0 0)) (.slice (some ⟨b51, 0, none⟩) (List.length ([] ++ r7)) c52)), (7, .one (.int .i64) s46.1), (8, .one (.raw (.slice none 0 0)) g95), (9, .one (.raw (.slice none 0 0)) v58), (10, .one (.raw (.slice none 0 0)) v59), (11, .one (.int .i64) s94.1), (48, .one (.int .i64) s94.1), (49, .one (.raw (.slice none 0 0)) g95)]) rfl ?_
            refine y (y_lenown tabOk 3 rfl rfl rfl) rfl ?_
            refine r_pure tabOk 1 [3, 4, 5, 6, 7, 8, 9, 10, 11, 51] (E' := [(3, .one (.raw (.pointer none)) v2), (4, .one (.raw (.slice none 0 0)) g49.2), (5, .one (.raw (.slice none 0 0)) v10), (6, .one (.raw (.slice none 0 0)) (.slice (some ⟨b51, 0, none⟩) (List.length ([] ++ r7)) c52)), (7, .one (.int .i64) s46.1), (8, .one (.raw (.slice none 0 0)) g95), (9, .one (.raw (.slice none 0 0)) v58), (10, .one (.raw (.slice none 0 0)) v59), (11, .one (.int .i64) s94.1), (51, .one .bool (decide (s94.1 < (List.length s94.2 : Int))))]) rfl ?_
            refine r_nil ?_
            refine r_then ?_
            refine r_if (b := (decide (s94.1 < (List.length s94.2 : Int)))) rfl (fun hc => ?_) (fun hc => ?_)
            · rw [if_pos hc] at h
              refine r_skip ?_
              refine r_then ?_
              refine r_seq ?_
              refine r_block ?_
              refine r_region ?_
              refine r_pure tabOk 2 [3, 4, 5, 6, 7, 8, 9, 10, 11, 54, 55] (E' := [(3, .one (.raw (.pointer none)) v2), (4, .one (.raw (.slice none 0 0)) g49.2), (5, .one (.raw (.slice none 0 0)) v10), (6, .one (.raw (.slice none 0 0)) (.slice (some ⟨b51, 0, none⟩) (List.length ([] ++ r7)) c52)), (7, .one (.int .i64) s46.1), (8, .one (.raw (.slice none 0 0)) g95), (9, .one (.raw (.slice none 0 0)) v58), (10, .one (.raw (.slice none 0 0)) v59), (11, .one (.int .i64) s94.1), (54, .one (.raw (.slice none 0 0)) g95), (55, .one (.int .i64) s94.1)]) rfl ?_
              obtain ⟨hc, h⟩ := ite_ex h
              refine r_expose 3 rfl (by first | omega | (simp only [List.length_set] at hc ⊢; omega)) fun b97 c98 hv => ?_
              rw [hv]
              try clear hv
              refine y (y_iraw tabOk rfl rfl hc.1 (by first | exact hc.2 | simpa using hc.2) rfl ty3) rfl ?_
              refine r_sown 3 (Int.toNat s94.1) .here rfl rfl rfl (by first | omega | (simp only [List.length_set] at hc ⊢; omega)) (by first | rfl | (simp only [Pth.off, T.size]; omega)) ok_here ty3 ?_
              refine r_nil ?_
              refine r_inblock ?_
              refine r_then ?_
              refine r_region ?_
              refine r_pure tabOk 3 [3, 4, 5, 6, 7, 8, 9, 10, 11] (E' := [(3, .one (.raw (.pointer none)) v2), (4, .one (.raw (.slice none 0 0)) g49.2), (5, .one (.raw (.slice none 0 0)) v10), (6, .one (.raw (.slice none 0 0)) (.slice (some ⟨b51, 0, none⟩) (List.length ([] ++ r7)) c52)), (7, .one (.int .i64) s46.1), (8, .one (.raw (.slice none 0 0)) (.slice (some ⟨b97, 0, none⟩) (List.length s94.2) c98)), (9, .one (.raw (.slice none 0 0)) v58), (10, .one (.raw (.slice none 0 0)) v59), (11, .one (.int .i64) (IntKind.wrap .i64 (s94.1 + 1)))]) rfl ?_
              obtain ⟨k99, hk99, h⟩ := bnd_ex h
              rw [hk99]
              refine r_nil ?_
              refine r_then ?_
              refine r_less [3, 4, 5, 6, 7, 8, 9, 10, 11] rfl ?_
              exact r_backg (k99, (List.set s94.2 (Int.toNat s94.1) (-1))) (.slice (some ⟨b97, 0, none⟩) (List.length s94.2) c98) (Nat.lt_succ_self _) h rfl rfl
            · rw [if_neg (ne_true_of_eq_false hc)] at h
              refine r_exit ?_
              refine e_then ?_
              refine e_then ?_
              refine e_eq ?_
              refine r_then ?_
              refine r_less [3, 4, 5, 6, 7, 8, 9, 10] rfl ?_
              exact r_meetk s94.2 g95 h rfl rfl
          · intro o61 g62 h
            rw [← hk60] at h
            try dsimp only at h
            refine r_seq ?_
            refine r_region ?_
            refine r_pure tabOk 1 [3, 4, 5, 6, 7, 9, 10, 57] (E' := [(3, .one (.raw (.pointer none)) v2), (4, .one (.raw (.slice none 0 0)) g49.2), (5, .one (.raw (.slice none 0 0)) v10), (6, .one (.raw (.slice none 0 0)) (.slice (some ⟨b51, 0, none⟩) (List.length ([] ++ r7)) c52)), (7, .one (.int .i64) s46.1), (9, .one (.raw (.slice none 0 0)) v58), (10, .one (.raw (.slice none 0 0)) v59), (57, .one (.raw (.slice none 0 0)) g62)]) rfl ?_
            refine r_lits (B := 8) tabOk rfl el3 rfl rfl rfl (.cons rfl .nil) rfl fun v63 => ?_
            obtain ⟨hc, h⟩ := ite_ex h
            refine r_append (B := 8) tabOk 4 rfl rfl (src_own 0 rfl rfl) rfl el3 rfl rfl hc rfl fun v64 => ?_
            refine r_lose (L' := [Res.own v59 3 (.int .i64) ([] ++ r53), Res.disk Try.prog dI v2 r1.2, Res.own v58 3 (.int .i64) r57, Res.own v64 3 (.int .i64) (o61 ++ [(-2)]), Res.own (.slice (some ⟨b51, 0, none⟩) (List.length ([] ++ r7)) c52) 9 .str ([] ++ r7), Res.own v10 9 .str r9, Res.own g49.2 9 .str s46.2]) (.cons _ (.cons_cons _ (.cons_cons _ (.cons_cons _ (.cons_cons _ (.cons_cons _ (.cons_cons _ (.cons_cons _ .slnil)))))))) ?_
            refine r_pure tabOk 1 [3, 4, 5, 6, 7, 8, 9, 10] (E' := [(3, .one (.raw (.pointer none)) v2), (4, .one (.raw (.slice none 0 0)) g49.2), (5, .one (.raw (.slice none 0 0)) v10), (6, .one (.raw (.slice none 0 0)) (.slice (some ⟨b51, 0, none⟩) (List.length ([] ++ r7)) c52)), (7, .one (.int .i64) s46.1), (8, .one (.raw (.slice none 0 0)) v64), (9, .one (.raw (.slice none 0 0)) v58), (10, .one (.raw (.slice none 0 0)) v59)]) rfl ?_
            refine r_nil ?_
            refine r_then ?_
            refine r_seq ?_
            refine r_seq ?_
            refine r_region ?_
            refine r_pure tabOk 2 [3, 4, 5, 6, 7, 8, 10, 60, 61] (E' := [(3, .one (.raw (.pointer none)) v2), (4, .one (.raw (.slice none 0 0)) g49.2), (5, .one (.raw (.slice none 0 0)) v10), (6, .one (.raw (.slice none 0 0)) (.slice (some ⟨b51, 0, none⟩) (List.length ([] ++ r7)) c52)), (7, .one (.int .i64) s46.1), (8, .one (.raw (.slice none 0 0)) v64), (10, .one (.raw (.slice none 0 0)) v59), (60, .one (.raw (.slice none 0 0)) v58), (61, .one (.raw (.slice none 0 0)) v59)]) rfl ?_
            refine r_freeze (i := 2) (k := 60) rfl rfl ?_
            obtain ⟨r65, hr65, h⟩ := bind_ex h
            refine r_callw (escrowlaw04_sameInts_ok r57 ([] ++ r53) _ hr65) (by kernel_rfl) rfl (.val rfl (.own 0 rfl rfl .nil)) rfl ?_
            refine r_pure tabOk 2 [3, 4, 5, 6, 7, 8, 10, 64] (E' := [(3, .one (.raw (.pointer none)) v2), (4, .one (.raw (.slice none 0 0)) g49.2), (5, .one (.raw (.slice none 0 0)) v10), (6, .one (.raw (.slice none 0 0)) (.slice (some ⟨b51, 0, none⟩) (List.length ([] ++ r7)) c52)), (7, .one (.int .i64) s46.1), (8, .one (.raw (.slice none 0 0)) v64), (10, .one (.raw (.slice none 0 0)) v59), (64, .one .bool (!r65))]) rfl ?_
            obtain ⟨b66, hbb66, h⟩ := bnd_ex h
            rw [hbb66]
            obtain ⟨k67, hk67, h⟩ := bnd_ex h
            refine r_lsplitk (γ := Unit) 10 (fun (o68 : Bool) _ => [(3, .one (.raw (.pointer none)) v2), (4, .one (.raw (.slice none 0 0)) g49.2), (5, .one (.raw (.slice none 0 0)) v10), (6, .one (.raw (.slice none 0 0)) (.slice (some ⟨b51, 0, none⟩) (List.length ([] ++ r7)) c52)), (7, .one (.int .i64) s46.1), (8, .one (.raw (.slice none 0 0)) v64), (10, .one (.raw (.slice none 0 0)) v59), (74, .one .bool o68)]) (fun _ _ => [Res.own v59 3 (.int .i64) ([] ++ r53), Res.disk Try.prog dI v2 r1.2, Res.own v64 3 (.int .i64) (o61 ++ [(-2)]), Res.own (.slice (some ⟨b51, 0, none⟩) (List.length ([] ++ r7)) c52) 9 .str ([] ++ r7), Res.own v10 9 .str r9, Res.own g49.2 9 .str s46.2]) k67 r ?_ ?_
            · rcases Bool.eq_false_or_eq_true b66 with hh | hh
              · rw [hh] at h ⊢
                rw [if_pos rfl] at h
                refine r_pure tabOk 10 [3, 4, 5, 6, 7, 8, 10, 74] (E' := [(3, .one (.raw (.pointer none)) v2), (4, .one (.raw (.slice none 0 0)) g49.2), (5, .one (.raw (.slice none 0 0)) v10), (6, .one (.raw (.slice none 0 0)) (.slice (some ⟨b51, 0, none⟩) (List.length ([] ++ r7)) c52)), (7, .one (.int .i64) s46.1), (8, .one (.raw (.slice none 0 0)) v64), (10, .one (.raw (.slice none 0 0)) v59), (74, .one .bool true)]) rfl ?_
                refine r_nil ?_
                refine r_less [3, 4, 5, 6, 7, 8, 10, 74] rfl ?_
                refine r_then ?_
                exact r_meetk true () h rfl rfl
              · rw [hh] at h ⊢
                rw [if_neg (by decide)] at h
                refine r_pure tabOk 3 [3, 4, 5, 6, 7, 8, 10, 64, 65, 66, 67] (E' := [(3, .one (.raw (.pointer none)) v2), (4, .one (.raw (.slice none 0 0)) g49.2), (5, .one (.raw (.slice none 0 0)) v10), (6, .one (.raw (.slice none 0 0)) (.slice (some ⟨b51, 0, none⟩) (List.length ([] ++ r7)) c52)), (7, .one (.int .i64) s46.1), (8, .one (.raw (.slice none 0 0)) v64), (10, .one (.raw (.slice none 0 0)) v59), (64, .one .bool false), (65, .one (.raw (.pointer none)) v2), (66, .one (.raw (.slice none 0 0)) (.slice (some ⟨b51, 0, none⟩) (List.length ([] ++ r7)) c52)), (67, .one (.int .i64) s46.1)]) rfl ?_
                refine r_guard (by rfl) rfl ?_
                obtain ⟨hc, h⟩ := ite_ex h
                refine y (y_iraw tabOk rfl rfl hc.1 (by first | exact hc.2 | simpa using hc.2) rfl ty9) rfl ?_
                refine r_guard (by rfl) rfl ?_
                refine y (y_lown 3 (Int.toNat s46.1) .here rfl rfl (by first | omega | (simp only [List.length_set] at hc ⊢; omega)) (by first | rfl | (simp only [Pth.off, T.size]; omega)) ok_here ty9) rfl ?_
                refine r_guard (by rfl) rfl ?_
                obtain ⟨r71, hr71, h⟩ := bind_ex h
                refine r_call (Lo := [Res.own v59 3 (.int .i64) ([] ++ r53), Res.own v64 3 (.int .i64) (o61 ++ [(-2)]), Res.own (.slice (some ⟨b51, 0, none⟩) (List.length ([] ++ r7)) c52) 9 .str ([] ++ r7), Res.own v10 9 .str r9, Res.own g49.2 9 .str s46.2]) (disk_Disk_Dirty_ok v2 r1.2 (List.getD ([] ++ r7) (Int.toNat s46.1) []) _ hr71) (by kernel_rfl) ((List.perm_middle (a := Res.disk Try.prog dI v2 r1.2) (l₁ := [Res.own v59 3 (.int .i64) ([] ++ r53)]) (l₂ := [Res.own v64 3 (.int .i64) (o61 ++ [(-2)]), Res.own (.slice (some ⟨b51, 0, none⟩) (List.length ([] ++ r7)) c52) 9 .str ([] ++ r7), Res.own v10 9 .str r9, Res.own g49.2 9 .str s46.2])).trans (.cons _ (List.Perm.refl _))) rfl rfl fun v72 => ?_
                refine r_pure tabOk 1 [3, 4, 5, 6, 7, 8, 10, 64, 70, 71] (E' := [(3, .one (.raw (.pointer none)) v2), (4, .one (.raw (.slice none 0 0)) g49.2), (5, .one (.raw (.slice none 0 0)) v10), (6, .one (.raw (.slice none 0 0)) (.slice (some ⟨b51, 0, none⟩) (List.length ([] ++ r7)) c52)), (7, .one (.int .i64) s46.1), (8, .one (.raw (.slice none 0 0)) v64), (10, .one (.raw (.slice none 0 0)) v59), (64, .one .bool false), (70, .one (.raw (.slice none 0 0)) v72), (71, .one (.raw (.slice none 0 0)) v59)]) rfl ?_
                refine r_guard (by rfl) rfl ?_
                refine r_freeze (i := 1) (k := 70) rfl rfl ?_
                obtain ⟨r73, hr73, h⟩ := bind_ex h
                refine r_callw (escrowlaw04_sameInts_ok r71 ([] ++ r53) _ hr73) (by kernel_rfl) rfl (.val rfl (.own 1 rfl rfl .nil)) rfl ?_
                refine r_pure tabOk 2 [3, 4, 5, 6, 7, 8, 10, 74] (E' := [(3, .one (.raw (.pointer none)) v2), (4, .one (.raw (.slice none 0 0)) g49.2), (5, .one (.raw (.slice none 0 0)) v10), (6, .one (.raw (.slice none 0 0)) (.slice (some ⟨b51, 0, none⟩) (List.length ([] ++ r7)) c52)), (7, .one (.int .i64) s46.1), (8, .one (.raw (.slice none 0 0)) v64), (10, .one (.raw (.slice none 0 0)) v59), (74, .one .bool (!r73))]) rfl ?_
                refine r_nil ?_
                refine r_less [3, 4, 5, 6, 7, 8, 10, 74] rfl ?_
                refine r_perm (L' := [Res.own v59 3 (.int .i64) ([] ++ r53), Res.disk Try.prog dI v2 r1.2, Res.own v64 3 (.int .i64) (o61 ++ [(-2)]), Res.own (.slice (some ⟨b51, 0, none⟩) (List.length ([] ++ r7)) c52) 9 .str ([] ++ r7), Res.own v10 9 .str r9, Res.own g49.2 9 .str s46.2]) ((List.perm_middle (a := Res.own v59 3 (.int .i64) ([] ++ r53)) (l₁ := [Res.disk Try.prog dI v2 r1.2]) (l₂ := [Res.own v64 3 (.int .i64) (o61 ++ [(-2)]), Res.own (.slice (some ⟨b51, 0, none⟩) (List.length ([] ++ r7)) c52) 9 .str ([] ++ r7), Res.own v10 9 .str r9, Res.own g49.2 9 .str s46.2])).trans (.cons _ (List.Perm.refl _))) ?_
                refine r_then ?_
                exact r_meetk (!r73) () h rfl rfl
            · intro o68 _ h
              rw [← hk67] at h
              try dsimp only at h
              refine r_pure tabOk 1 [3, 4, 5, 6, 7, 8, 10, 75] (E' := [(3, .one (.raw (.pointer none)) v2), (4, .one (.raw (.slice none 0 0)) g49.2), (5, .one (.raw (.slice none 0 0)) v10), (6, .one (.raw (.slice none 0 0)) (.slice (some ⟨b51, 0, none⟩) (List.length ([] ++ r7)) c52)), (7, .one (.int .i64) s46.1), (8, .one (.raw (.slice none 0 0)) v64), (10, .one (.raw (.slice none 0 0)) v59), (75, .one .bool o68)]) rfl ?_
              obtain ⟨k75, hk75, h⟩ := bnd_ex h
              refine r_lsplitk (γ := Unit) 8 (fun (o76 : Bool) _ => [(3, .one (.raw (.pointer none)) v2), (4, .one (.raw (.slice none 0 0)) g49.2), (5, .one (.raw (.slice none 0 0)) v10), (6, .one (.raw (.slice none 0 0)) (.slice (some ⟨b51, 0, none⟩) (List.length ([] ++ r7)) c52)), (7, .one (.int .i64) s46.1), (8, .one (.raw (.slice none 0 0)) v64), (10, .one (.raw (.slice none 0 0)) v59), (83, .one .bool o76)]) (fun _ _ => [Res.own v59 3 (.int .i64) ([] ++ r53), Res.disk Try.prog dI v2 r1.2, Res.own v64 3 (.int .i64) (o61 ++ [(-2)]), Res.own (.slice (some ⟨b51, 0, none⟩) (List.length ([] ++ r7)) c52) 9 .str ([] ++ r7), Res.own v10 9 .str r9, Res.own g49.2 9 .str s46.2]) k75 r ?_ ?_
              · rcases Bool.eq_false_or_eq_true o68 with hh | hh
                · rw [hh] at h ⊢
                  rw [if_pos rfl] at h
                  refine r_pure tabOk 8 [3, 4, 5, 6, 7, 8, 10, 83] (E' := [(3, .one (.raw (.pointer none)) v2), (4, .one (.raw (.slice none 0 0)) g49.2), (5, .one (.raw (.slice none 0 0)) v10), (6, .one (.raw (.slice none 0 0)) (.slice (some ⟨b51, 0, none⟩) (List.length ([] ++ r7)) c52)), (7, .one (.int .i64) s46.1), (8, .one (.raw (.slice none 0 0)) v64), (10, .one (.raw (.slice none 0 0)) v59), (83, .one .bool true)]) rfl ?_
                  refine r_nil ?_
                  refine r_less [3, 4, 5, 6, 7, 8, 10, 83] rfl ?_
                  refine r_then ?_
                  exact r_meetk true () h rfl rfl
                · rw [hh] at h ⊢
                  rw [if_neg (by decide)] at h
                  refine r_pure tabOk 2 [3, 4, 5, 6, 7, 8, 10, 75, 76, 77] (E' := [(3, .one (.raw (.pointer none)) v2), (4, .one (.raw (.slice none 0 0)) g49.2), (5, .one (.raw (.slice none 0 0)) v10), (6, .one (.raw (.slice none 0 0)) (.slice (some ⟨b51, 0, none⟩) (List.length ([] ++ r7)) c52)), (7, .one (.int .i64) s46.1), (8, .one (.raw (.slice none 0 0)) v64), (10, .one (.raw (.slice none 0 0)) v59), (75, .one .bool false), (76, .one (.raw (.slice none 0 0)) v64), (77, .one (.raw (.slice none 0 0)) v64)]) rfl ?_
                  refine r_guard (by rfl) rfl ?_
                  refine y (y_lenown tabOk 2 rfl rfl rfl) rfl ?_
                  refine r_pure tabOk 1 [3, 4, 5, 6, 7, 8, 10, 75, 76, 79] (E' := [(3, .one (.raw (.pointer none)) v2), (4, .one (.raw (.slice none 0 0)) g49.2), (5, .one (.raw (.slice none 0 0)) v10), (6, .one (.raw (.slice none 0 0)) (.slice (some ⟨b51, 0, none⟩) (List.length ([] ++ r7)) c52)), (7, .one (.int .i64) s46.1), (8, .one (.raw (.slice none 0 0)) v64), (10, .one (.raw (.slice none 0 0)) v59), (75, .one .bool false), (76, .one (.raw (.slice none 0 0)) v64), (79, .one (.int .i64) (IntKind.wrap .i64 ((List.length (o61 ++ [(-2)]) : Int) - 1)))]) rfl ?_
                  refine r_guard (by rfl) rfl ?_
                  obtain ⟨hc, h⟩ := ite_ex h
                  refine r_expose 2 rfl (by first | omega | (simp only [List.length_set] at hc ⊢; omega)) fun b77 c78 hv => ?_
                  rw [hv]
                  try clear hv
                  refine y (y_iraw tabOk rfl rfl hc.1 (by first | exact hc.2 | simpa using hc.2) rfl ty3) rfl ?_
                  refine r_guard (by rfl) rfl ?_
                  refine y (y_lown 2 (Int.toNat (IntKind.wrap .i64 ((List.length (o61 ++ [(-2)]) : Int) - 1))) .here rfl rfl (by first | omega | (simp only [List.length_set] at hc ⊢; omega)) (by first | rfl | (simp only [Pth.off, T.size]; omega)) ok_here ty3) rfl ?_
                  refine r_pure tabOk 1 [3, 4, 5, 6, 7, 8, 10, 75, 82] (E' := [(3, .one (.raw (.pointer none)) v2), (4, .one (.raw (.slice none 0 0)) g49.2), (5, .one (.raw (.slice none 0 0)) v10), (6, .one (.raw (.slice none 0 0)) (.slice (some ⟨b51, 0, none⟩) (List.length ([] ++ r7)) c52)), (7, .one (.int .i64) s46.1), (8, .one (.raw (.slice none 0 0)) (.slice (some ⟨b77, 0, none⟩) (List.length (o61 ++ [(-2)])) c78)), (10, .one (.raw (.slice none 0 0)) v59), (75, .one .bool false), (82, .one .bool ((List.getD (o61 ++ [(-2)]) (Int.toNat (IntKind.wrap .i64 ((List.length (o61 ++ [(-2)]) : Int) - 1))) 0) != (-2)))]) rfl ?_
                  obtain ⟨t79, ht79, h⟩ := bnd_ex h
                  rw [ht79]
                  refine r_pure tabOk 1 [3, 4, 5, 6, 7, 8, 10, 83] (E' := [(3, .one (.raw (.pointer none)) v2), (4, .one (.raw (.slice none 0 0)) g49.2), (5, .one (.raw (.slice none 0 0)) v10), (6, .one (.raw (.slice none 0 0)) (.slice (some ⟨b51, 0, none⟩) (List.length ([] ++ r7)) c52)), (7, .one (.int .i64) s46.1), (8, .one (.raw (.slice none 0 0)) (.slice (some ⟨b77, 0, none⟩) (List.length (o61 ++ [(-2)])) c78)), (10, .one (.raw (.slice none 0 0)) v59), (83, .one .bool t79)]) rfl ?_
                  refine r_nil ?_
                  refine r_less [3, 4, 5, 6, 7, 8, 10, 83] rfl ?_
                  refine r_then ?_
                  exact r_meetk t79 () h rfl rfl
              · intro o76 _ h
                rw [← hk75] at h
                try dsimp only at h
                refine r_pure tabOk 1 [3, 4, 5, 6, 7, 8, 10, 84] (E' := [(3, .one (.raw (.pointer none)) v2), (4, .one (.raw (.slice none 0 0)) g49.2), (5, .one (.raw (.slice none 0 0)) v10), (6, .one (.raw (.slice none 0 0)) (.slice (some ⟨b51, 0, none⟩) (List.length ([] ++ r7)) c52)), (7, .one (.int .i64) s46.1), (8, .one (.raw (.slice none 0 0)) v64), (10, .one (.raw (.slice none 0 0)) v59), (84, .one .bool o76)]) rfl ?_
                obtain ⟨k81, hk81, h⟩ := bnd_ex h
                refine r_lsplitk (γ := Unit) 10 (fun (o82 : Bool) _ => [(3, .one (.raw (.pointer none)) v2), (4, .one (.raw (.slice none 0 0)) g49.2), (5, .one (.raw (.slice none 0 0)) v10), (6, .one (.raw (.slice none 0 0)) (.slice (some ⟨b51, 0, none⟩) (List.length ([] ++ r7)) c52)), (7, .one (.int .i64) s46.1), (94, .one .bool o82)]) (fun _ _ => [Res.own v59 3 (.int .i64) ([] ++ r53), Res.disk Try.prog dI v2 r1.2, Res.own v64 3 (.int .i64) (o61 ++ [(-2)]), Res.own (.slice (some ⟨b51, 0, none⟩) (List.length ([] ++ r7)) c52) 9 .str ([] ++ r7), Res.own v10 9 .str r9, Res.own g49.2 9 .str s46.2]) k81 r ?_ ?_
                · rcases Bool.eq_false_or_eq_true o76 with hh | hh
                  · rw [hh] at h ⊢
                    rw [if_pos rfl] at h
                    refine r_pure tabOk 10 [3, 4, 5, 6, 7, 94] (E' := [(3, .one (.raw (.pointer none)) v2), (4, .one (.raw (.slice none 0 0)) g49.2), (5, .one (.raw (.slice none 0 0)) v10), (6, .one (.raw (.slice none 0 0)) (.slice (some ⟨b51, 0, none⟩) (List.length ([] ++ r7)) c52)), (7, .one (.int .i64) s46.1), (94, .one .bool true)]) rfl ?_
                    refine r_nil ?_
                    refine r_less [3, 4, 5, 6, 7, 94] rfl ?_
                    refine r_then ?_
                    exact r_meetk true () h rfl rfl
                  · rw [hh] at h ⊢
                    rw [if_neg (by decide)] at h
                    refine r_pure tabOk 1 [3, 4, 5, 6, 7, 8, 84, 85] (E' := [(3, .one (.raw (.pointer none)) v2), (4, .one (.raw (.slice none 0 0)) g49.2), (5, .one (.raw (.slice none 0 0)) v10), (6, .one (.raw (.slice none 0 0)) (.slice (some ⟨b51, 0, none⟩) (List.length ([] ++ r7)) c52)), (7, .one (.int .i64) s46.1), (8, .one (.raw (.slice none 0 0)) v64), (84, .one .bool false), (85, .one (.raw (.slice none 0 0)) v59)]) rfl ?_
                    refine r_guard (by rfl) rfl ?_
                    refine y (y_lenown tabOk 0 rfl rfl rfl) rfl ?_
                    refine r_pure tabOk 2 [3, 4, 5, 6, 7, 8, 84, 88] (E' := [(3, .one (.raw (.pointer none)) v2), (4, .one (.raw (.slice none 0 0)) g49.2), (5, .one (.raw (.slice none 0 0)) v10), (6, .one (.raw (.slice none 0 0)) (.slice (some ⟨b51, 0, none⟩) (List.length ([] ++ r7)) c52)), (7, .one (.int .i64) s46.1), (8, .one (.raw (.slice none 0 0)) v64), (84, .one .bool false), (88, .one .bool (decide ((List.length ([] ++ r53) : Int) > 0)))]) rfl ?_
                    obtain ⟨b83, hbb83, h⟩ := bnd_ex h
                    rw [hbb83]
                    obtain ⟨k84, hk84, h⟩ := bnd_ex h
                    refine r_lsplitk (γ := Unit) 5 (fun (o85 : Bool) _ => [(3, .one (.raw (.pointer none)) v2), (4, .one (.raw (.slice none 0 0)) g49.2), (5, .one (.raw (.slice none 0 0)) v10), (6, .one (.raw (.slice none 0 0)) (.slice (some ⟨b51, 0, none⟩) (List.length ([] ++ r7)) c52)), (7, .one (.int .i64) s46.1), (84, .one .bool false), (93, .one .bool o85)]) (fun _ _ => [Res.own v59 3 (.int .i64) ([] ++ r53), Res.disk Try.prog dI v2 r1.2, Res.own v64 3 (.int .i64) (o61 ++ [(-2)]), Res.own (.slice (some ⟨b51, 0, none⟩) (List.length ([] ++ r7)) c52) 9 .str ([] ++ r7), Res.own v10 9 .str r9, Res.own g49.2 9 .str s46.2]) k84 r ?_ ?_
                    · rcases Bool.eq_false_or_eq_true b83 with hh | hh
                      · rw [hh] at h ⊢
                        rw [if_pos rfl] at h
                        refine r_pure tabOk 1 [3, 4, 5, 6, 7, 84, 88, 89] (E' := [(3, .one (.raw (.pointer none)) v2), (4, .one (.raw (.slice none 0 0)) g49.2), (5, .one (.raw (.slice none 0 0)) v10), (6, .one (.raw (.slice none 0 0)) (.slice (some ⟨b51, 0, none⟩) (List.length ([] ++ r7)) c52)), (7, .one (.int .i64) s46.1), (84, .one .bool false), (88, .one .bool true), (89, .one (.raw (.slice none 0 0)) v64)]) rfl ?_
                        refine r_guard (by rfl) rfl ?_
                        obtain ⟨hc, h⟩ := ite_ex h
                        refine r_expose 2 rfl (by first | omega | (simp only [List.length_set] at hc ⊢; omega)) fun b86 c87 hv => ?_
                        rw [hv]
                        try clear hv
                        refine y (y_iraw tabOk rfl rfl hc.1 (by first | exact hc.2 | simpa using hc.2) rfl ty3) rfl ?_
                        refine r_guard (by rfl) rfl ?_
                        refine y (y_lown 2 0 .here rfl rfl (by first | omega | (simp only [List.length_set] at hc ⊢; omega)) (by first | rfl | (simp only [Pth.off, T.size]; omega)) ok_here ty3) rfl ?_
                        refine r_pure tabOk 2 [3, 4, 5, 6, 7, 84, 93] (E' := [(3, .one (.raw (.pointer none)) v2), (4, .one (.raw (.slice none 0 0)) g49.2), (5, .one (.raw (.slice none 0 0)) v10), (6, .one (.raw (.slice none 0 0)) (.slice (some ⟨b51, 0, none⟩) (List.length ([] ++ r7)) c52)), (7, .one (.int .i64) s46.1), (84, .one .bool false), (93, .one .bool ((List.getD (o61 ++ [(-2)]) 0 0) != (-1)))]) rfl ?_
                        refine r_nil ?_
                        refine r_less [3, 4, 5, 6, 7, 84, 93] rfl ?_
                        refine r_then ?_
                        exact r_meetk ((List.getD (o61 ++ [(-2)]) 0 0) != (-1)) () h rfl rfl
                      · rw [hh] at h ⊢
                        rw [if_neg (by decide)] at h
                        refine r_pure tabOk 5 [3, 4, 5, 6, 7, 84, 93] (E' := [(3, .one (.raw (.pointer none)) v2), (4, .one (.raw (.slice none 0 0)) g49.2), (5, .one (.raw (.slice none 0 0)) v10), (6, .one (.raw (.slice none 0 0)) (.slice (some ⟨b51, 0, none⟩) (List.length ([] ++ r7)) c52)), (7, .one (.int .i64) s46.1), (84, .one .bool false), (93, .one .bool false)]) rfl ?_
                        refine r_nil ?_
                        refine r_less [3, 4, 5, 6, 7, 84, 93] rfl ?_
                        refine r_then ?_
                        exact r_meetk false () h rfl rfl
                    · intro o85 _ h
                      rw [← hk84] at h
                      try dsimp only at h
                      refine r_pure tabOk 1 [3, 4, 5, 6, 7, 94] (E' := [(3, .one (.raw (.pointer none)) v2), (4, .one (.raw (.slice none 0 0)) g49.2), (5, .one (.raw (.slice none 0 0)) v10), (6, .one (.raw (.slice none 0 0)) (.slice (some ⟨b51, 0, none⟩) (List.length ([] ++ r7)) c52)), (7, .one (.int .i64) s46.1), (94, .one .bool o85)]) rfl ?_
                      refine r_nil ?_
                      refine r_less [3, 4, 5, 6, 7, 94] rfl ?_
                      refine r_then ?_
                      exact r_meetk o85 () h rfl rfl
                · intro o82 _ h
                  rw [← hk81] at h
                  try dsimp only at h
                  refine r_nil ?_
                  refine r_then ?_
                  refine r_if (b := o82) rfl (fun hc => ?_) (fun hc => ?_)
                  · rw [if_pos hc] at h
                    refine r_seq ?_
                    refine r_region ?_
                    refine r_pure tabOk 1 [2] (E' := [(2, .one .bool false)]) rfl ?_
                    refine r_nil ?_
                    refine r_then ?_
                    refine r_ret ?_
                    refine t_then ?_
                    refine t_block ?_
                    refine t_then ?_
                    refine t_then ?_
                    refine t_block ?_
                    refine t_then ?_
                    obtain rfl := Option.some.inj h
                    exact r_ret1 rfl (.tmp rfl) (fun _ _ g => g) (fun _ _ _ => List.nil_sublist _)
                  · rw [if_neg (ne_true_of_eq_false hc)] at h
                    refine r_skip ?_
                    refine r_then ?_
                    refine r_region ?_
                    refine r_pure tabOk 2 [3, 4, 5, 6, 7, 95, 96] (E' := [(3, .one (.raw (.pointer none)) v2), (4, .one (.raw (.slice none 0 0)) g49.2), (5, .one (.raw (.slice none 0 0)) v10), (6, .one (.raw (.slice none 0 0)) (.slice (some ⟨b51, 0, none⟩) (List.length ([] ++ r7)) c52)), (7, .one (.int .i64) s46.1), (95, .one (.raw (.slice none 0 0)) g49.2), (96, .one (.int .i64) s46.1)]) rfl ?_
                    obtain ⟨hc, h⟩ := ite_ex h
                    refine r_expose 5 rfl (by first | omega | (simp only [List.length_set] at hc ⊢; omega)) fun b88 c89 hv => ?_
                    rw [hv]
                    try clear hv
                    refine y (y_iraw tabOk rfl rfl hc.1 (by first | exact hc.2 | simpa using hc.2) rfl ty9) rfl ?_
                    refine r_sown 5 (Int.toNat s46.1) .here rfl rfl rfl (by first | omega | (simp only [List.length_set] at hc ⊢; omega)) (by first | rfl | (simp only [Pth.off, T.size]; omega)) ok_here ty9 ?_
                    refine r_nil ?_
                    refine r_inblock ?_
                    refine r_then ?_
                    refine r_region ?_
                    refine r_pure tabOk 3 [3, 4, 5, 6, 7] (E' := [(3, .one (.raw (.pointer none)) v2), (4, .one (.raw (.slice none 0 0)) (.slice (some ⟨b88, 0, none⟩) (List.length s46.2) c89)), (5, .one (.raw (.slice none 0 0)) v10), (6, .one (.raw (.slice none 0 0)) (.slice (some ⟨b51, 0, none⟩) (List.length ([] ++ r7)) c52)), (7, .one (.int .i64) (IntKind.wrap .i64 (s46.1 + 1)))]) rfl ?_
                    obtain ⟨i90, hi90, h⟩ := bnd_ex h
                    rw [hi90]
                    refine r_nil ?_
                    refine r_then ?_
                    refine r_lose (L' := [Res.disk Try.prog dI v2 r1.2, Res.own (.slice (some ⟨b51, 0, none⟩) (List.length ([] ++ r7)) c52) 9 .str ([] ++ r7), Res.own v10 9 .str r9, Res.own (.slice (some ⟨b88, 0, none⟩) (List.length s46.2) c89) 9 .str (List.set s46.2 (Int.toNat s46.1) [119, 114, 105, 116, 116, 101, 110])]) (.cons _ (.cons_cons _ (.cons _ (.cons_cons _ (.cons_cons _ (.cons_cons _ .slnil)))))) ?_
                    refine r_less [3, 4, 5, 6, 7] rfl ?_
                    refine r_perm (L' := [Res.own (.slice (some ⟨b51, 0, none⟩) (List.length ([] ++ r7)) c52) 9 .str ([] ++ r7), Res.disk Try.prog dI v2 r1.2, Res.own v10 9 .str r9, Res.own (.slice (some ⟨b88, 0, none⟩) (List.length s46.2) c89) 9 .str (List.set s46.2 (Int.toNat s46.1) [119, 114, 105, 116, 116, 101, 110])]) ((List.perm_middle (a := Res.own (.slice (some ⟨b51, 0, none⟩) (List.length ([] ++ r7)) c52) 9 .str ([] ++ r7)) (l₁ := [Res.disk Try.prog dI v2 r1.2]) (l₂ := [Res.own v10 9 .str r9, Res.own (.slice (some ⟨b88, 0, none⟩) (List.length s46.2) c89) 9 .str (List.set s46.2 (Int.toNat s46.1) [119, 114, 105, 116, 116, 101, 110])])).trans (.cons _ (List.Perm.refl _))) ?_
                    exact r_backg (i90, (List.set s46.2 (Int.toNat s46.1) [119, 114, 105, 116, 116, 101, 110])) ((.slice (some ⟨b51, 0, none⟩) (List.length ([] ++ r7)) c52), (.slice (some ⟨b88, 0, none⟩) (List.length s46.2) c89)) (Nat.lt_succ_self _) h rfl rfl
        · rw [if_neg (ne_true_of_eq_false hc)] at h
          refine r_exit ?_
          refine e_then ?_
          refine e_then ?_
          refine e_eq ?_
          refine r_then ?_
          refine r_less [3, 4, 5, 6] rfl ?_
          exact r_meetk s46.2 (g49.1, g49.2) h rfl rfl
      · intro o13 g16 h
        rw [← hk12] at h
        try dsimp only at h
        refine r_seq ?_
        refine r_region ?_
        refine r_pure tabOk 1 [3, 5, 6, 98] (E' := [(3, .one (.raw (.pointer none)) v2), (5, .one (.raw (.slice none 0 0)) v10), (6, .one (.raw (.slice none 0 0)) g16.1), (98, .one (.raw (.slice none 0 0)) g16.2)]) rfl ?_
        refine r_lits (B := 16) tabOk rfl el9 rfl rfl rfl (.cons rfl .nil) rfl fun v17 => ?_
        obtain ⟨hc, h⟩ := ite_ex h
        refine r_append (B := 16) tabOk 4 rfl rfl (src_own 0 rfl rfl) rfl el9 rfl rfl hc rfl fun v18 => ?_
        refine r_lose (L' := [Res.own g16.1 9 .str ([] ++ r7), Res.disk Try.prog dI v2 r1.2, Res.own v10 9 .str r9, Res.own v18 9 .str (o13 ++ ([[109, 111, 114, 101]]))]) (.cons _ (.cons_cons _ (.cons_cons _ (.cons_cons _ (.cons_cons _ .slnil))))) ?_
        refine r_pure tabOk 1 [3, 4, 5, 6] (E' := [(3, .one (.raw (.pointer none)) v2), (4, .one (.raw (.slice none 0 0)) v18), (5, .one (.raw (.slice none 0 0)) v10), (6, .one (.raw (.slice none 0 0)) g16.1)]) rfl ?_
        refine r_nil ?_
        refine r_then ?_
        refine r_seq ?_
        refine r_region ?_
        refine r_pure tabOk 2 [3, 4, 6, 101, 102] (E' := [(3, .one (.raw (.pointer none)) v2), (4, .one (.raw (.slice none 0 0)) v18), (6, .one (.raw (.slice none 0 0)) g16.1), (101, .one (.raw (.slice none 0 0)) v10), (102, .one (.raw (.slice none 0 0)) g16.1)]) rfl ?_
        refine r_freeze (i := 2) (k := 101) rfl rfl ?_
        obtain ⟨r19, hr19, h⟩ := bind_ex h
        refine r_callw (escrowlaw04_sameTexts_ok r9 ([] ++ r7) _ hr19) (by kernel_rfl) rfl (.val rfl (.own 0 rfl rfl .nil)) rfl ?_
        refine r_pure tabOk 1 [3, 4, 6, 104] (E' := [(3, .one (.raw (.pointer none)) v2), (4, .one (.raw (.slice none 0 0)) v18), (6, .one (.raw (.slice none 0 0)) g16.1), (104, .one .bool r19)]) rfl ?_
        obtain ⟨k21, hk21, h⟩ := bnd_ex h
        refine r_lsplitk (γ := Unit) 5 (fun (o22 : Bool) _ => [(4, .one (.raw (.slice none 0 0)) v18), (6, .one (.raw (.slice none 0 0)) g16.1), (109, .one .bool o22)]) (fun _ _ => [Res.own g16.1 9 .str ([] ++ r7), Res.disk Try.prog dI v2 r1.2, Res.own v18 9 .str (o13 ++ ([[109, 111, 114, 101]]))]) k21 r ?_ ?_
        · rcases Bool.eq_false_or_eq_true r19 with hh | hh
          · rw [hh] at h ⊢
            rw [if_pos rfl] at h
            refine r_pure tabOk 1 [4, 6, 104, 105] (E' := [(4, .one (.raw (.slice none 0 0)) v18), (6, .one (.raw (.slice none 0 0)) g16.1), (104, .one .bool true), (105, .one (.raw (.pointer none)) v2)]) rfl ?_
            refine r_guard (by rfl) rfl ?_
            obtain ⟨r23, hr23, h⟩ := bind_ex h
            refine r_call (Lo := [Res.own g16.1 9 .str ([] ++ r7), Res.own v18 9 .str (o13 ++ ([[109, 111, 114, 101]]))]) (disk_Disk_List_ok v2 r1.2 _ hr23) (by kernel_rfl) ((List.perm_middle (a := Res.disk Try.prog dI v2 r1.2) (l₁ := [Res.own g16.1 9 .str ([] ++ r7)]) (l₂ := [Res.own v18 9 .str (o13 ++ ([[109, 111, 114, 101]]))])).trans (.cons _ (List.Perm.refl _))) rfl rfl fun v24 => ?_
            refine r_pure tabOk 1 [4, 6, 104, 106, 107] (E' := [(4, .one (.raw (.slice none 0 0)) v18), (6, .one (.raw (.slice none 0 0)) g16.1), (104, .one .bool true), (106, .one (.raw (.slice none 0 0)) v24), (107, .one (.raw (.slice none 0 0)) g16.1)]) rfl ?_
            refine r_guard (by rfl) rfl ?_
            refine r_freeze (i := 1) (k := 106) rfl rfl ?_
            obtain ⟨r25, hr25, h⟩ := bind_ex h
            refine r_callw (escrowlaw04_sameTexts_ok r23 ([] ++ r7) _ hr25) (by kernel_rfl) rfl (.val rfl (.own 1 rfl rfl .nil)) rfl ?_
            refine r_pure tabOk 1 [4, 6, 109] (E' := [(4, .one (.raw (.slice none 0 0)) v18), (6, .one (.raw (.slice none 0 0)) g16.1), (109, .one .bool r25)]) rfl ?_
            refine r_nil ?_
            refine r_less [4, 6, 109] rfl ?_
            refine r_perm (L' := [Res.own g16.1 9 .str ([] ++ r7), Res.disk Try.prog dI v2 r1.2, Res.own v18 9 .str (o13 ++ ([[109, 111, 114, 101]]))]) ((List.perm_middle (a := Res.own g16.1 9 .str ([] ++ r7)) (l₁ := [Res.disk Try.prog dI v2 r1.2]) (l₂ := [Res.own v18 9 .str (o13 ++ ([[109, 111, 114, 101]]))])).trans (.cons _ (List.Perm.refl _))) ?_
            refine r_then ?_
            exact r_meetk r25 () h rfl rfl
          · rw [hh] at h ⊢
            rw [if_neg (by decide)] at h
            refine r_pure tabOk 5 [4, 6, 109] (E' := [(4, .one (.raw (.slice none 0 0)) v18), (6, .one (.raw (.slice none 0 0)) g16.1), (109, .one .bool false)]) rfl ?_
            refine r_nil ?_
            refine r_less [4, 6, 109] rfl ?_
            refine r_then ?_
            exact r_meetk false () h rfl rfl
        · intro o22 _ h
          rw [← hk21] at h
          try dsimp only at h
          refine r_pure tabOk 1 [4, 6, 110] (E' := [(4, .one (.raw (.slice none 0 0)) v18), (6, .one (.raw (.slice none 0 0)) g16.1), (110, .one .bool o22)]) rfl ?_
          obtain ⟨k27, hk27, h⟩ := bnd_ex h
          refine r_lsplitk (γ := Unit) 8 (fun (o28 : Bool) _ => [(4, .one (.raw (.slice none 0 0)) v18), (6, .one (.raw (.slice none 0 0)) g16.1), (118, .one .bool o28)]) (fun _ _ => [Res.own g16.1 9 .str ([] ++ r7), Res.disk Try.prog dI v2 r1.2, Res.own v18 9 .str (o13 ++ ([[109, 111, 114, 101]]))]) k27 r ?_ ?_
          · rcases Bool.eq_false_or_eq_true o22 with hh | hh
            · rw [hh] at h ⊢
              rw [if_pos rfl] at h
              refine r_pure tabOk 2 [4, 6, 110, 111, 112] (E' := [(4, .one (.raw (.slice none 0 0)) v18), (6, .one (.raw (.slice none 0 0)) g16.1), (110, .one .bool true), (111, .one (.raw (.slice none 0 0)) v18), (112, .one (.raw (.slice none 0 0)) v18)]) rfl ?_
              refine r_guard (by rfl) rfl ?_
              refine y (y_lenown tabOk 2 rfl rfl rfl) rfl ?_
              refine r_pure tabOk 1 [4, 6, 110, 111, 114] (E' := [(4, .one (.raw (.slice none 0 0)) v18), (6, .one (.raw (.slice none 0 0)) g16.1), (110, .one .bool true), (111, .one (.raw (.slice none 0 0)) v18), (114, .one (.int .i64) (IntKind.wrap .i64 ((List.length (o13 ++ ([[109, 111, 114, 101]])) : Int) - 1)))]) rfl ?_
              refine r_guard (by rfl) rfl ?_
              obtain ⟨hc, h⟩ := ite_ex h
              refine r_expose 2 rfl (by first | omega | (simp only [List.length_set] at hc ⊢; omega)) fun b29 c30 hv => ?_
              rw [hv]
              try clear hv
              refine y (y_iraw tabOk rfl rfl hc.1 (by first | exact hc.2 | simpa using hc.2) rfl ty9) rfl ?_
              refine r_guard (by rfl) rfl ?_
              refine y (y_lown 2 (Int.toNat (IntKind.wrap .i64 ((List.length (o13 ++ ([[109, 111, 114, 101]])) : Int) - 1))) .here rfl rfl (by first | omega | (simp only [List.length_set] at hc ⊢; omega)) (by first | rfl | (simp only [Pth.off, T.size]; omega)) ok_here ty9) rfl ?_
              refine r_pure tabOk 1 [4, 6, 110, 117] (E' := [(4, .one (.raw (.slice none 0 0)) (.slice (some ⟨b29, 0, none⟩) (List.length (o13 ++ ([[109, 111, 114, 101]]))) c30)), (6, .one (.raw (.slice none 0 0)) g16.1), (110, .one .bool true), (117, .one .bool ((List.getD (o13 ++ ([[109, 111, 114, 101]])) (Int.toNat (IntKind.wrap .i64 ((List.length (o13 ++ ([[109, 111, 114, 101]])) : Int) - 1))) []) == [109, 111, 114, 101]))]) rfl ?_
              obtain ⟨t31, ht31, h⟩ := bnd_ex h
              rw [ht31]
              refine r_pure tabOk 1 [4, 6, 118] (E' := [(4, .one (.raw (.slice none 0 0)) (.slice (some ⟨b29, 0, none⟩) (List.length (o13 ++ ([[109, 111, 114, 101]]))) c30)), (6, .one (.raw (.slice none 0 0)) g16.1), (118, .one .bool t31)]) rfl ?_
              refine r_nil ?_
              refine r_less [4, 6, 118] rfl ?_
              refine r_then ?_
              exact r_meetk t31 () h rfl rfl
            · rw [hh] at h ⊢
              rw [if_neg (by decide)] at h
              refine r_pure tabOk 8 [4, 6, 118] (E' := [(4, .one (.raw (.slice none 0 0)) v18), (6, .one (.raw (.slice none 0 0)) g16.1), (118, .one .bool false)]) rfl ?_
              refine r_nil ?_
              refine r_less [4, 6, 118] rfl ?_
              refine r_then ?_
              exact r_meetk false () h rfl rfl
          · intro o28 _ h
            rw [← hk27] at h
            try dsimp only at h
            refine r_pure tabOk 1 [4, 6, 119] (E' := [(4, .one (.raw (.slice none 0 0)) v18), (6, .one (.raw (.slice none 0 0)) g16.1), (119, .one .bool o28)]) rfl ?_
            obtain ⟨k33, hk33, h⟩ := bnd_ex h
            refine r_lsplitk (γ := Unit) 10 (fun (o34 : Bool) _ => [(129, .one .bool o34)]) (fun _ _ => [Res.own g16.1 9 .str ([] ++ r7), Res.disk Try.prog dI v2 r1.2, Res.own v18 9 .str (o13 ++ ([[109, 111, 114, 101]]))]) k33 r ?_ ?_
            · rcases Bool.eq_false_or_eq_true o28 with hh | hh
              · rw [hh] at h ⊢
                rw [if_pos rfl] at h
                refine r_pure tabOk 1 [4, 119, 120] (E' := [(4, .one (.raw (.slice none 0 0)) v18), (119, .one .bool true), (120, .one (.raw (.slice none 0 0)) g16.1)]) rfl ?_
                refine r_guard (by rfl) rfl ?_
                refine y (y_lenown tabOk 0 rfl rfl rfl) rfl ?_
                refine r_pure tabOk 2 [4, 119, 123] (E' := [(4, .one (.raw (.slice none 0 0)) v18), (119, .one .bool true), (123, .one .bool ((List.length ([] ++ r7) : Int) == 0))]) rfl ?_
                obtain ⟨b35, hbb35, h⟩ := bnd_ex h
                rw [hbb35]
                obtain ⟨k36, hk36, h⟩ := bnd_ex h
                refine r_lsplitk (γ := Unit) 5 (fun (o37 : Bool) _ => [(119, .one .bool true), (128, .one .bool o37)]) (fun _ _ => [Res.own g16.1 9 .str ([] ++ r7), Res.disk Try.prog dI v2 r1.2, Res.own v18 9 .str (o13 ++ ([[109, 111, 114, 101]]))]) k36 r ?_ ?_
                · rcases Bool.eq_false_or_eq_true b35 with hh | hh
                  · rw [hh] at h ⊢
                    rw [if_pos rfl] at h
                    refine r_pure tabOk 5 [119, 128] (E' := [(119, .one .bool true), (128, .one .bool true)]) rfl ?_
                    refine r_nil ?_
                    refine r_less [119, 128] rfl ?_
                    refine r_then ?_
                    exact r_meetk true () h rfl rfl
                  · rw [hh] at h ⊢
                    rw [if_neg (by decide)] at h
                    refine r_pure tabOk 1 [119, 123, 124] (E' := [(119, .one .bool true), (123, .one .bool false), (124, .one (.raw (.slice none 0 0)) v18)]) rfl ?_
                    refine r_guard (by rfl) rfl ?_
                    obtain ⟨hc, h⟩ := ite_ex h
                    refine r_expose 2 rfl (by first | omega | (simp only [List.length_set] at hc ⊢; omega)) fun b38 c39 hv => ?_
                    rw [hv]
                    try clear hv
                    refine y (y_iraw tabOk rfl rfl hc.1 (by first | exact hc.2 | simpa using hc.2) rfl ty9) rfl ?_
                    refine r_guard (by rfl) rfl ?_
                    refine y (y_lown 2 0 .here rfl rfl (by first | omega | (simp only [List.length_set] at hc ⊢; omega)) (by first | rfl | (simp only [Pth.off, T.size]; omega)) ok_here ty9) rfl ?_
                    refine r_pure tabOk 1 [119, 123, 127] (E' := [(119, .one .bool true), (123, .one .bool false), (127, .one .bool ((List.getD (o13 ++ ([[109, 111, 114, 101]])) 0 []) == [119, 114, 105, 116, 116, 101, 110]))]) rfl ?_
                    obtain ⟨t40, ht40, h⟩ := bnd_ex h
                    rw [ht40]
                    refine r_pure tabOk 1 [119, 128] (E' := [(119, .one .bool true), (128, .one .bool t40)]) rfl ?_
                    refine r_nil ?_
                    refine r_less [119, 128] rfl ?_
                    refine r_then ?_
                    exact r_meetk t40 () h rfl rfl
                · intro o37 _ h
                  rw [← hk36] at h
                  try dsimp only at h
                  refine r_pure tabOk 1 [129] (E' := [(129, .one .bool o37)]) rfl ?_
                  refine r_nil ?_
                  refine r_less [129] rfl ?_
                  refine r_then ?_
                  exact r_meetk o37 () h rfl rfl
              · rw [hh] at h ⊢
                rw [if_neg (by decide)] at h
                refine r_pure tabOk 10 [129] (E' := [(129, .one .bool false)]) rfl ?_
                refine r_nil ?_
                refine r_less [129] rfl ?_
                refine r_then ?_
                exact r_meetk false () h rfl rfl
            · intro o34 _ h
              rw [← hk33] at h
              try dsimp only at h
              refine r_pure tabOk 1 [2] (E' := [(2, .one .bool o34)]) rfl ?_
              refine r_nil ?_
              refine r_then ?_
              refine r_ret ?_
              obtain rfl := Option.some.inj h
              exact r_ret1 rfl (.tmp rfl) (fun _ _ g => g) (fun _ _ _ => List.nil_sublist _)
end Sx
