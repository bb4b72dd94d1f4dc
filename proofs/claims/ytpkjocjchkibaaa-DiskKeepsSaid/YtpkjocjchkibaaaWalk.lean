/-
  Own work, printed by a program of the same hand. Each function of the code answers what its plain twin reckons.
-/
import Derived.Test.YtpkjocjchkibaaaWalk2
namespace Sx
open Go Go.Proofs
set_option maxRecDepth 10000

theorem escrowlaw04_DiskKeeps_ok (a0 : List (Int × Bool × List Int × List Int × Int × Int × List Int × (List (List Int × Int × Int × List Int × Unit)) × Unit)) (a1 : List Int) (a2 : List Int) (a3 : List (Int × Bool × List Int × List Int × Int × Int × List Int × (List (List Int × Int × Int × List Int × Unit)) × Unit)) (a4 : List (List Int × Int × Int × List Int × Unit)) (a5 : Int) (r : Bool) (h : escrowlaw04_DiskKeeps a0 a1 a2 a3 a4 a5 = some r) : Pure Try.prog 3 [.one (.sl 41 Y41) a0, .one .str a1, .one .str a2, .one (.sl 41 Y41) a3, .one (.sl 67 Y67) a4, .one (.int .i64) a5] (.one .bool r) := by
  unfold escrowlaw04_DiskKeeps at h
  refine enter Try.func3 rfl 181 rfl rfl fun F => ?_
  refine r_seq ?_
  refine r_region ?_
  refine r_pure tabOk 1 [0, 1, 2, 3, 4, 5] (E' := [(0, .one (.sl 41 Y41) a0), (1, .one .str a1), (2, .one .str a2), (3, .one (.sl 41 Y41) a3), (4, .one (.sl 67 Y67) a4), (5, .one (.int .i64) a5)]) rfl ?_
  refine r_nil ?_
  refine r_then ?_
  refine r_seq ?_
  refine r_region ?_
  refine r_pure tabOk 1 [1, 2, 3, 4, 5, 24] (E' := [(1, .one .str a1), (2, .one .str a2), (3, .one (.sl 41 Y41) a3), (4, .one (.sl 67 Y67) a4), (5, .one (.int .i64) a5), (24, .one (.sl 41 Y41) a0)]) rfl ?_
  obtain ⟨r1, hr1, h⟩ := bind_ex h
  refine r_call (Lo := []) (escrowlaw04_made_ok a0 _ hr1) (by kernel_rfl) (by simp) rfl rfl fun v2 => ?_
  refine r_pure tabOk 1 [1, 2, 3, 4, 5, 13] (E' := [(1, .one .str a1), (2, .one .str a2), (3, .one (.sl 41 Y41) a3), (4, .one (.sl 67 Y67) a4), (5, .one (.int .i64) a5), (13, .one (.raw (.pointer none)) v2)]) rfl ?_
  refine r_nil ?_
  refine r_then ?_
  refine r_seq ?_
  refine r_seq ?_
  refine r_region ?_
  refine r_pure tabOk 1 [1, 2, 3, 4, 5, 13, 26] (E' := [(1, .one .str a1), (2, .one .str a2), (3, .one (.sl 41 Y41) a3), (4, .one (.sl 67 Y67) a4), (5, .one (.int .i64) a5), (13, .one (.raw (.pointer none)) v2), (26, .one (.raw (.pointer none)) v2)]) rfl ?_
  refine y (y_dnil 0 rfl rfl Try.underlying24) rfl ?_
  refine r_pure tabOk 1 [1, 2, 3, 4, 5, 13, 28] (E' := [(1, .one .str a1), (2, .one .str a2), (3, .one (.sl 41 Y41) a3), (4, .one (.sl 67 Y67) a4), (5, .one (.int .i64) a5), (13, .one (.raw (.pointer none)) v2), (28, .one .bool (r1.1 != 0))]) rfl ?_
  obtain ⟨b3, hbb3, h⟩ := bnd_ex h
  rw [hbb3]
  obtain ⟨k4, hk4, h⟩ := bnd_ex h
  refine r_lsplitk (γ := Unit) 3 (fun (o5 : Bool) _ => [(1, .one .str a1), (2, .one .str a2), (3, .one (.sl 41 Y41) a3), (4, .one (.sl 67 Y67) a4), (5, .one (.int .i64) a5), (13, .one (.raw (.pointer none)) v2), (31, .one .bool o5)]) (fun _ _ => [Res.diskif Try.prog dI v2 r1.2 r1.1]) k4 r ?_ ?_
  · rcases Bool.eq_false_or_eq_true b3 with hh | hh
    · rw [hh] at h ⊢
      rw [if_pos rfl] at h
      refine r_pure tabOk 3 [1, 2, 3, 4, 5, 13, 31] (E' := [(1, .one .str a1), (2, .one .str a2), (3, .one (.sl 41 Y41) a3), (4, .one (.sl 67 Y67) a4), (5, .one (.int .i64) a5), (13, .one (.raw (.pointer none)) v2), (31, .one .bool true)]) rfl ?_
      refine r_nil ?_
      refine r_less [1, 2, 3, 4, 5, 13, 31] rfl ?_
      refine r_then ?_
      exact r_meetk true () h rfl rfl
    · rw [hh] at h ⊢
      rw [if_neg (by decide)] at h
      refine r_guard (by rfl) rfl ?_
      obtain ⟨r6, hr6, h⟩ := bind_ex h
      refine r_calls (escrowlaw04_first_ok  _ hr6) (by kernel_rfl) rfl rfl ?_
      refine r_pure tabOk 2 [1, 2, 3, 4, 5, 13, 31] (E' := [(1, .one .str a1), (2, .one .str a2), (3, .one (.sl 41 Y41) a3), (4, .one (.sl 67 Y67) a4), (5, .one (.int .i64) a5), (13, .one (.raw (.pointer none)) v2), (31, .one .bool (!r6))]) rfl ?_
      refine r_nil ?_
      refine r_less [1, 2, 3, 4, 5, 13, 31] rfl ?_
      refine r_then ?_
      exact r_meetk (!r6) () h rfl rfl
  · intro o5 _ h
    rw [← hk4] at h
    try dsimp only at h
    refine r_nil ?_
    refine r_then ?_
    refine r_if (b := o5) rfl (fun hc => ?_) (fun hc => ?_)
    · rw [if_pos hc] at h
      refine r_seq ?_
      refine r_region ?_
      refine r_pure tabOk 1 [12] (E' := [(12, .one .bool false)]) rfl ?_
      refine r_nil ?_
      refine r_then ?_
      refine r_ret ?_
      refine t_then ?_
      obtain rfl := Option.some.inj h
      exact r_ret1 rfl (.tmp rfl) (fun _ _ g => g) (fun _ _ _ => List.nil_sublist _)
    · rw [if_neg (ne_true_of_eq_false hc)] at h
      refine r_skip ?_
      refine r_then ?_
      refine r_seq ?_
      refine r_seq ?_
      refine r_region ?_
      refine r_pure tabOk 1 [1, 2, 3, 4, 5, 13, 32] (E' := [(1, .one .str a1), (2, .one .str a2), (3, .one (.sl 41 Y41) a3), (4, .one (.sl 67 Y67) a4), (5, .one (.int .i64) a5), (13, .one (.raw (.pointer none)) v2), (32, .one (.raw (.pointer none)) v2)]) rfl ?_
      obtain ⟨hc, h⟩ := ite_ex h
      refine r_imp_at (R' := Res.disk Try.prog dI v2 r1.2) 0 rfl (diskif_disk hc) ?_
      obtain ⟨r7, hr7, h⟩ := bind_ex h
      refine r_call (Lo := []) (disk_Disk_List_ok v2 r1.2 _ hr7) (by kernel_rfl) (List.Perm.refl _) rfl rfl fun v8 => ?_
      refine r_pure tabOk 1 [1, 2, 3, 4, 5, 13, 33, 34] (E' := [(1, .one .str a1), (2, .one .str a2), (3, .one (.sl 41 Y41) a3), (4, .one (.sl 67 Y67) a4), (5, .one (.int .i64) a5), (13, .one (.raw (.pointer none)) v2), (33, .one (.raw (.slice none 0 0)) v8), (34, .one .str a1)]) rfl ?_
      refine r_freeze (i := 1) (k := 33) rfl rfl ?_
      obtain ⟨r9, hr9, h⟩ := bind_ex h
      refine r_calls (escrowlaw04_has_ok r7 a1 _ hr9) (by kernel_rfl) rfl rfl ?_
      refine r_pure tabOk 1 [1, 2, 3, 4, 5, 13, 36] (E' := [(1, .one .str a1), (2, .one .str a2), (3, .one (.sl 41 Y41) a3), (4, .one (.sl 67 Y67) a4), (5, .one (.int .i64) a5), (13, .one (.raw (.pointer none)) v2), (36, .one .bool (!r9))]) rfl ?_
      refine r_nil ?_
      refine r_then ?_
      refine r_if (b := (!r9)) rfl (fun hc => ?_) (fun hc => ?_)
      · rw [if_pos hc] at h
        refine r_seq ?_
        refine r_region ?_
        refine r_pure tabOk 2 [37, 38] (E' := [(37, .one (.raw (.pointer none)) v2), (38, .one .str a1)]) rfl ?_
        obtain ⟨r10, hr10, h⟩ := bind_ex h
        refine r_call (Lo := []) (disk_Disk_Sync_ok v2 r1.2 a1 _ hr10) (by kernel_rfl) (List.Perm.refl _) rfl rfl fun _ => ?_
        refine r_pure tabOk 2 [12] (E' := [(12, .one .bool (r10.1 == 5))]) rfl ?_
        refine r_nil ?_
        refine r_then ?_
        refine r_ret ?_
        refine t_then ?_
        obtain rfl := Option.some.inj h
        exact r_ret1 rfl (.tmp rfl) (fun _ _ g => g) (fun _ _ _ => List.nil_sublist _)
      · rw [if_neg (ne_true_of_eq_false hc)] at h
        refine r_skip ?_
        refine r_then ?_
        refine r_seq ?_
        refine r_seq ?_
        refine r_region ?_
        refine r_pure tabOk 2 [1, 2, 3, 4, 5, 13, 41, 42] (E' := [(1, .one .str a1), (2, .one .str a2), (3, .one (.sl 41 Y41) a3), (4, .one (.sl 67 Y67) a4), (5, .one (.int .i64) a5), (13, .one (.raw (.pointer none)) v2), (41, .one (.raw (.pointer none)) v2), (42, .one .str a1)]) rfl ?_
        obtain ⟨r11, hr11, h⟩ := bind_ex h
        refine r_call (Lo := []) (disk_Disk_Sync_ok v2 r1.2 a1 _ hr11) (by kernel_rfl) (List.Perm.refl _) rfl rfl fun _ => ?_
        refine r_pure tabOk 2 [1, 2, 3, 4, 5, 13, 45] (E' := [(1, .one .str a1), (2, .one .str a2), (3, .one (.sl 41 Y41) a3), (4, .one (.sl 67 Y67) a4), (5, .one (.int .i64) a5), (13, .one (.raw (.pointer none)) v2), (45, .one .bool (r11.1 != 0))]) rfl ?_
        obtain ⟨b12, hbb12, h⟩ := bnd_ex h
        rw [hbb12]
        obtain ⟨k13, hk13, h⟩ := bnd_ex h
        refine r_lsplitk (γ := Unit) 6 (fun (o14 : Bool) _ => [(1, .one .str a1), (2, .one .str a2), (3, .one (.sl 41 Y41) a3), (4, .one (.sl 67 Y67) a4), (5, .one (.int .i64) a5), (13, .one (.raw (.pointer none)) v2), (51, .one .bool o14)]) (fun _ _ => [Res.disk Try.prog dI v2 r11.2]) k13 r ?_ ?_
        · rcases Bool.eq_false_or_eq_true b12 with hh | hh
          · rw [hh] at h ⊢
            rw [if_pos rfl] at h
            refine r_pure tabOk 6 [1, 2, 3, 4, 5, 13, 51] (E' := [(1, .one .str a1), (2, .one .str a2), (3, .one (.sl 41 Y41) a3), (4, .one (.sl 67 Y67) a4), (5, .one (.int .i64) a5), (13, .one (.raw (.pointer none)) v2), (51, .one .bool true)]) rfl ?_
            refine r_nil ?_
            refine r_less [1, 2, 3, 4, 5, 13, 51] rfl ?_
            refine r_then ?_
            exact r_meetk true () h rfl rfl
          · rw [hh] at h ⊢
            rw [if_neg (by decide)] at h
            refine r_pure tabOk 2 [1, 2, 3, 4, 5, 13, 45, 46, 47] (E' := [(1, .one .str a1), (2, .one .str a2), (3, .one (.sl 41 Y41) a3), (4, .one (.sl 67 Y67) a4), (5, .one (.int .i64) a5), (13, .one (.raw (.pointer none)) v2), (45, .one .bool false), (46, .one (.raw (.pointer none)) v2), (47, .one .str a1)]) rfl ?_
            refine r_guard (by rfl) rfl ?_
            obtain ⟨r15, hr15, h⟩ := bind_ex h
            refine r_call (Lo := []) (disk_Disk_Dirty_ok v2 r11.2 a1 _ hr15) (by kernel_rfl) (List.Perm.refl _) rfl rfl fun v16 => ?_
            refine r_guard (by rfl) rfl ?_
            refine y (y_lenown tabOk 1 rfl rfl rfl) rfl ?_
            refine r_pure tabOk 2 [1, 2, 3, 4, 5, 13, 51] (E' := [(1, .one .str a1), (2, .one .str a2), (3, .one (.sl 41 Y41) a3), (4, .one (.sl 67 Y67) a4), (5, .one (.int .i64) a5), (13, .one (.raw (.pointer none)) v2), (51, .one .bool ((List.length r15 : Int) != 0))]) rfl ?_
            refine r_nil ?_
            refine r_less [1, 2, 3, 4, 5, 13, 51] rfl ?_
            refine r_lose (L' := [Res.disk Try.prog dI v2 r11.2]) (.cons_cons _ (.cons _ .slnil)) ?_
            refine r_then ?_
            exact r_meetk ((List.length r15 : Int) != 0) () h rfl rfl
        · intro o14 _ h
          rw [← hk13] at h
          try dsimp only at h
          refine r_nil ?_
          refine r_then ?_
          refine r_if (b := o14) rfl (fun hc => ?_) (fun hc => ?_)
          · rw [if_pos hc] at h
            refine r_seq ?_
            refine r_region ?_
            refine r_pure tabOk 1 [12] (E' := [(12, .one .bool false)]) rfl ?_
            refine r_nil ?_
            refine r_then ?_
            refine r_ret ?_
            refine t_then ?_
            obtain rfl := Option.some.inj h
            exact r_ret1 rfl (.tmp rfl) (fun _ _ g => g) (fun _ _ _ => List.nil_sublist _)
          · rw [if_neg (ne_true_of_eq_false hc)] at h
            refine r_skip ?_
            refine r_then ?_
            refine r_seq ?_
            refine r_region ?_
            refine r_pure tabOk 2 [1, 2, 3, 4, 5, 13, 53, 54] (E' := [(1, .one .str a1), (2, .one .str a2), (3, .one (.sl 41 Y41) a3), (4, .one (.sl 67 Y67) a4), (5, .one (.int .i64) a5), (13, .one (.raw (.pointer none)) v2), (53, .one (.raw (.pointer none)) v2), (54, .one .str a1)]) rfl ?_
            obtain ⟨r17, hr17, h⟩ := bind_ex h
            refine r_call (Lo := []) (disk_Disk_Size_ok v2 r11.2 a1 _ hr17) (by kernel_rfl) (List.Perm.refl _) rfl rfl fun _ => ?_
            refine r_pure tabOk 5 [1, 2, 3, 4, 5, 13, 14] (E' := [(1, .one .str a1), (2, .one .str a2), (3, .one (.sl 41 Y41) a3), (4, .one (.sl 67 Y67) a4), (5, .one (.int .i64) a5), (13, .one (.raw (.pointer none)) v2), (14, .one (.int .i64) r17.1)]) rfl ?_
            refine r_nil ?_
            refine r_then ?_
            refine r_seq ?_
            refine r_region ?_
            refine r_pure tabOk 5 [1, 2, 3, 4, 13, 59, 62] (E' := [(1, .one .str a1), (2, .one .str a2), (3, .one (.sl 41 Y41) a3), (4, .one (.sl 67 Y67) a4), (13, .one (.raw (.pointer none)) v2), (59, .one (.int .u64) (IntKind.wrap .u64 a5)), (62, .one (.int .u64) (IntKind.wrap .u64 (IntKind.wrap .i64 (r17.1 + 1))))]) rfl ?_
            obtain ⟨hc, h⟩ := ite_ex h
            refine y (y_rem rfl rfl hc) rfl ?_
            refine r_pure tabOk 1 [1, 2, 3, 4, 13, 64] (E' := [(1, .one .str a1), (2, .one .str a2), (3, .one (.sl 41 Y41) a3), (4, .one (.sl 67 Y67) a4), (13, .one (.raw (.pointer none)) v2), (64, .one (.int .i64) (IntKind.wrap .i64 (Int.tmod (IntKind.wrap .u64 a5) (IntKind.wrap .u64 (IntKind.wrap .i64 (r17.1 + 1))))))]) rfl ?_
            obtain ⟨t18, ht18, h⟩ := bnd_ex h
            rw [ht18]
            refine r_pure tabOk 1 [1, 2, 3, 4, 5, 13] (E' := [(1, .one .str a1), (2, .one .str a2), (3, .one (.sl 41 Y41) a3), (4, .one (.sl 67 Y67) a4), (5, .one (.int .i64) t18), (13, .one (.raw (.pointer none)) v2)]) rfl ?_
            refine r_nil ?_
            refine r_then ?_
            refine r_seq ?_
            refine r_region ?_
            refine r_pure tabOk 2 [1, 2, 3, 4, 5, 13, 65, 66] (E' := [(1, .one .str a1), (2, .one .str a2), (3, .one (.sl 41 Y41) a3), (4, .one (.sl 67 Y67) a4), (5, .one (.int .i64) t18), (13, .one (.raw (.pointer none)) v2), (65, .one (.raw (.pointer none)) v2), (66, .one .str a1)]) rfl ?_
            obtain ⟨r19, hr19, h⟩ := bind_ex h
            refine r_call (Lo := []) (escrowlaw04_all_ok v2 r11.2 a1 _ hr19) (by kernel_rfl) (List.Perm.refl _) rfl rfl fun _ => ?_
            refine r_pure tabOk 1 [1, 2, 3, 4, 5, 13, 67, 68] (E' := [(1, .one .str a1), (2, .one .str a2), (3, .one (.sl 41 Y41) a3), (4, .one (.sl 67 Y67) a4), (5, .one (.int .i64) t18), (13, .one (.raw (.pointer none)) v2), (67, .one .str r19), (68, .one (.int .i64) t18)]) rfl ?_
            obtain ⟨hc, h⟩ := ite_ex h
            refine y (y_sub (i := (0 : Int)) (j := t18) tabOk rfl rfl rfl hc.1 hc.2.1 hc.2.2 rfl) rfl ?_
            refine r_pure tabOk 1 [1, 2, 3, 4, 5, 13, 16] (E' := [(1, .one .str a1), (2, .one .str a2), (3, .one (.sl 41 Y41) a3), (4, .one (.sl 67 Y67) a4), (5, .one (.int .i64) t18), (13, .one (.raw (.pointer none)) v2), (16, .one .str (List.drop 0 (List.take (Int.toNat t18) r19)))]) rfl ?_
            obtain ⟨want20, hwant20, h⟩ := bnd_ex h
            rw [hwant20]
            refine r_nil ?_
            refine r_then ?_
            refine r_seq ?_
            refine r_seq ?_
            refine r_region ?_
            refine r_pure tabOk 3 [1, 2, 3, 4, 5, 13, 16, 70, 71, 72] (E' := [(1, .one .str a1), (2, .one .str a2), (3, .one (.sl 41 Y41) a3), (4, .one (.sl 67 Y67) a4), (5, .one (.int .i64) t18), (13, .one (.raw (.pointer none)) v2), (16, .one .str want20), (70, .one (.raw (.pointer none)) v2), (71, .one .str a1), (72, .one (.int .i64) t18)]) rfl ?_
            obtain ⟨r21, hr21, h⟩ := bind_ex h
            refine r_call (Lo := []) (disk_Disk_Truncate_ok v2 r11.2 a1 t18 _ hr21) (by kernel_rfl) (List.Perm.refl _) rfl rfl fun _ => ?_
            refine r_pure tabOk 1 [1, 2, 3, 4, 5, 13, 16, 74] (E' := [(1, .one .str a1), (2, .one .str a2), (3, .one (.sl 41 Y41) a3), (4, .one (.sl 67 Y67) a4), (5, .one (.int .i64) t18), (13, .one (.raw (.pointer none)) v2), (16, .one .str want20), (74, .one .bool (r21.1 != 0))]) rfl ?_
            refine r_nil ?_
            refine r_then ?_
            refine r_if (b := (r21.1 != 0)) rfl (fun hc => ?_) (fun hc => ?_)
            · rw [if_pos hc] at h
              refine r_seq ?_
              refine r_region ?_
              refine r_pure tabOk 1 [12] (E' := [(12, .one .bool false)]) rfl ?_
              refine r_nil ?_
              refine r_then ?_
              refine r_ret ?_
              refine t_then ?_
              obtain rfl := Option.some.inj h
              exact r_ret1 rfl (.tmp rfl) (fun _ _ g => g) (fun _ _ _ => List.nil_sublist _)
            · rw [if_neg (ne_true_of_eq_false hc)] at h
              refine r_skip ?_
              refine r_then ?_
              refine r_seq ?_
              refine r_region ?_
              refine r_pure tabOk 2 [1, 2, 3, 4, 5, 13, 16, 17] (E' := [(1, .one .str a1), (2, .one .str a2), (3, .one (.sl 41 Y41) a3), (4, .one (.sl 67 Y67) a4), (5, .one (.int .i64) t18), (13, .one (.raw (.pointer none)) v2), (16, .one .str want20), (17, .one .str a1)]) rfl ?_
              refine r_nil ?_
              refine r_then ?_
              obtain ⟨k22, hk22, h⟩ := bnd_ex h
              refine r_joink (γ := Unit) (fun (o23 : List Int × DiskS) _ => [(1, .one .str a1), (3, .one (.sl 41 Y41) a3), (4, .one (.sl 67 Y67) a4), (5, .one (.int .i64) t18), (13, .one (.raw (.pointer none)) v2), (16, .one .str want20), (17, .one .str o23.1)]) (fun (o23 : List Int × DiskS) _ => [Res.disk Try.prog dI v2 o23.2]) k22 r ?_ ?_
              · refine r_seq ?_
                refine r_region ?_
                refine r_pure tabOk 3 [1, 2, 3, 4, 5, 13, 16, 17, 76, 77, 78] (E' := [(1, .one .str a1), (2, .one .str a2), (3, .one (.sl 41 Y41) a3), (4, .one (.sl 67 Y67) a4), (5, .one (.int .i64) t18), (13, .one (.raw (.pointer none)) v2), (16, .one .str want20), (17, .one .str a1), (76, .one (.raw (.pointer none)) v2), (77, .one .str a1), (78, .one .str a2)]) rfl ?_
                obtain ⟨r73, hr73, h⟩ := bind_ex h
                refine r_call (Lo := []) (disk_Disk_Rename_ok v2 r21.2 a1 a2 _ hr73) (by kernel_rfl) (List.Perm.refl _) rfl rfl fun _ => ?_
                refine r_pure tabOk 1 [1, 2, 3, 4, 5, 13, 16, 17, 80] (E' := [(1, .one .str a1), (2, .one .str a2), (3, .one (.sl 41 Y41) a3), (4, .one (.sl 67 Y67) a4), (5, .one (.int .i64) t18), (13, .one (.raw (.pointer none)) v2), (16, .one .str want20), (17, .one .str a1), (80, .one .bool (r73.1 == 0))]) rfl ?_
                refine r_nil ?_
                refine r_then ?_
                refine r_if (b := (r73.1 == 0)) rfl (fun hc => ?_) (fun hc => ?_)
                · rw [if_pos hc] at h
                  refine r_region ?_
                  refine r_pure tabOk 2 [1, 3, 4, 5, 13, 16, 17] (E' := [(1, .one .str a1), (3, .one (.sl 41 Y41) a3), (4, .one (.sl 67 Y67) a4), (5, .one (.int .i64) t18), (13, .one (.raw (.pointer none)) v2), (16, .one .str want20), (17, .one .str a2)]) rfl ?_
                  refine r_nil ?_
                  refine r_then ?_
                  refine r_less [1, 3, 4, 5, 13, 16, 17] rfl ?_
                  exact r_meetk (a2, r73.2) () h rfl rfl
                · rw [if_neg (ne_true_of_eq_false hc)] at h
                  refine r_skip ?_
                  refine r_then ?_
                  refine r_less [1, 3, 4, 5, 13, 16, 17] rfl ?_
                  exact r_meetk (a1, r73.2) () h rfl rfl
              · intro o23 gg h
                rw [← hk22] at h
                try dsimp only at h
                obtain ⟨k24, hk24, h⟩ := bnd_ex h
                refine r_joink (γ := Unit) (fun (o25 : DiskS) _ => [(1, .one .str a1), (3, .one (.sl 41 Y41) a3), (4, .one (.sl 67 Y67) a4), (5, .one (.int .i64) t18), (13, .one (.raw (.pointer none)) v2), (16, .one .str want20), (17, .one .str o23.1)]) (fun (o25 : DiskS) _ => [Res.disk Try.prog dI v2 o25]) k24 r ?_ ?_
                · refine r_seq ?_
                  refine r_region ?_
                  refine r_pure tabOk 1 [1, 3, 4, 5, 13, 16, 17, 18] (E' := [(1, .one .str a1), (3, .one (.sl 41 Y41) a3), (4, .one (.sl 67 Y67) a4), (5, .one (.int .i64) t18), (13, .one (.raw (.pointer none)) v2), (16, .one .str want20), (17, .one .str o23.1), (18, .one (.int .i64) 0)]) rfl ?_
                  refine r_nil ?_
                  refine r_then ?_
                  refine r_block ?_
                  refine r_less [1, 3, 4, 5, 13, 16, 17, 18] rfl ?_
                  refine r_loopg (γ := Unit) (fun (s64 : Int × DiskS) _ => [(1, .one .str a1), (3, .one (.sl 41 Y41) a3), (4, .one (.sl 67 Y67) a4), (5, .one (.int .i64) t18), (13, .one (.raw (.pointer none)) v2), (16, .one .str want20), (17, .one .str o23.1), (18, .one (.int .i64) s64.1)]) (fun (s64 : Int × DiskS) _ => [Res.disk Try.prog dI v2 s64.2]) (escrowlaw04_DiskKeeps_l0 a3 o23 k24) (0, o23.2) () h rfl rfl ?_
                  clear h
                  intro m65 s64 gg h
                  cases m65 with
                  | zero => cases h
                  | succ m65 =>
                  simp only [escrowlaw04_DiskKeeps_l0] at h
                  refine r_seq ?_
                  refine r_seq ?_
                  refine r_region ?_
                  refine r_pure tabOk 4 [1, 3, 4, 5, 13, 16, 17, 18, 85] (E' := [(1, .one .str a1), (3, .one (.sl 41 Y41) a3), (4, .one (.sl 67 Y67) a4), (5, .one (.int .i64) t18), (13, .one (.raw (.pointer none)) v2), (16, .one .str want20), (17, .one .str o23.1), (18, .one (.int .i64) s64.1), (85, .one .bool (decide (s64.1 < (List.length a3 : Int))))]) rfl ?_
                  refine r_nil ?_
                  refine r_then ?_
                  refine r_if (b := (decide (s64.1 < (List.length a3 : Int)))) rfl (fun hc => ?_) (fun hc => ?_)
                  · rw [if_pos hc] at h
                    refine r_skip ?_
                    refine r_then ?_
                    refine r_seq ?_
                    refine r_block ?_
                    refine r_seq ?_
                    refine r_region ?_
                    refine r_pure tabOk 2 [1, 3, 4, 5, 13, 16, 17, 18, 88, 89] (E' := [(1, .one .str a1), (3, .one (.sl 41 Y41) a3), (4, .one (.sl 67 Y67) a4), (5, .one (.int .i64) t18), (13, .one (.raw (.pointer none)) v2), (16, .one .str want20), (17, .one .str o23.1), (18, .one (.int .i64) s64.1), (88, .one (.sl 41 Y41) a3), (89, .one (.int .i64) s64.1)]) rfl ?_
                    obtain ⟨hc, h⟩ := ite_ex h
                    refine y (y_iref tabOk rfl rfl hc.1 hc.2 rfl ty41) rfl ?_
                    refine y (y_ref rfl ty41) rfl ?_
                    refine r_alloc (t := Y41) rfl zf41 rfl fun b66 => ?_
                    refine r_store 0 .here rfl rfl rfl (by first | rfl | (simp only [Pth.off, T.size]; omega)) ok_here ty41 ?_
                    refine r_nil ?_
                    refine r_then ?_
                    obtain ⟨k67, hk67, h⟩ := bnd_ex h
                    refine r_joink (γ := Unit) (fun (o68 : DiskS) _ => [(1, .one .str a1), (3, .one (.sl 41 Y41) a3), (4, .one (.sl 67 Y67) a4), (5, .one (.int .i64) t18), (13, .one (.raw (.pointer none)) v2), (16, .one .str want20), (17, .one .str o23.1), (18, .one (.int .i64) s64.1)]) (fun (o68 : DiskS) _ => [Res.disk Try.prog dI v2 o68, Res.var b66 41 Y41 (List.getD a3 (Int.toNat s64.1) (0, false, [], [], 0, 0, [], [], ()))]) k67 r ?_ ?_
                    · refine r_seq ?_
                      refine r_region ?_
                      refine r_pure tabOk 1 [1, 3, 4, 5, 13, 16, 17, 18, 19, 92] (E' := [(1, .one .str a1), (3, .one (.sl 41 Y41) a3), (4, .one (.sl 67 Y67) a4), (5, .one (.int .i64) t18), (13, .one (.raw (.pointer none)) v2), (16, .one .str want20), (17, .one .str o23.1), (18, .one (.int .i64) s64.1), (19, ptr b66 0), (92, ptr b66 2)]) rfl ?_
                      refine y (y_load 0 ((.snd (.snd (.fst .here)))) rfl rfl (by first | rfl | (simp only [Pth.off, T.size]; omega)) (ok_snd (ok_snd (ok_fst ok_here))) ty9) rfl ?_
                      refine r_pure tabOk 3 [1, 3, 4, 5, 13, 16, 17, 18, 19, 96] (E' := [(1, .one .str a1), (3, .one (.sl 41 Y41) a3), (4, .one (.sl 67 Y67) a4), (5, .one (.int .i64) t18), (13, .one (.raw (.pointer none)) v2), (16, .one .str want20), (17, .one .str o23.1), (18, .one (.int .i64) s64.1), (19, ptr b66 0), (96, .one .bool (((List.getD a3 (Int.toNat s64.1) (0, false, [], [], 0, 0, [], [], ())).2.2.1) != o23.1))]) rfl ?_
                      obtain ⟨b71, hbb71, h⟩ := bnd_ex h
                      rw [hbb71]
                      refine r_lsplit (γ := Unit) 5 (fun _ => [(1, .one .str a1), (3, .one (.sl 41 Y41) a3), (4, .one (.sl 67 Y67) a4), (5, .one (.int .i64) t18), (13, .one (.raw (.pointer none)) v2), (16, .one .str want20), (17, .one .str o23.1), (18, .one (.int .i64) s64.1), (19, ptr b66 0), (101, .one .bool (b71 && (((List.getD a3 (Int.toNat s64.1) (0, false, [], [], 0, 0, [], [], ())).2.2.2.1) != o23.1)))]) (fun _ => [Res.var b66 41 Y41 (List.getD a3 (Int.toNat s64.1) (0, false, [], [], 0, 0, [], [], ())), Res.disk Try.prog dI v2 s64.2]) ?_ (fun _ => ?_)
                      · clear h
                        cases b71 with
                        | true =>
                        refine r_pure tabOk 1 [1, 3, 4, 5, 13, 16, 17, 18, 19, 96, 97] (E' := [(1, .one .str a1), (3, .one (.sl 41 Y41) a3), (4, .one (.sl 67 Y67) a4), (5, .one (.int .i64) t18), (13, .one (.raw (.pointer none)) v2), (16, .one .str want20), (17, .one .str o23.1), (18, .one (.int .i64) s64.1), (19, ptr b66 0), (96, .one .bool true), (97, ptr b66 3)]) rfl ?_
                        refine r_guard (by rfl) rfl ?_
                        refine y (y_load 0 ((.snd (.snd (.snd (.fst .here))))) rfl rfl (by first | rfl | (simp only [Pth.off, T.size]; omega)) (ok_snd (ok_snd (ok_snd (ok_fst ok_here)))) ty9) rfl ?_
                        refine r_pure tabOk 3 [1, 3, 4, 5, 13, 16, 17, 18, 19, 101] (E' := [(1, .one .str a1), (3, .one (.sl 41 Y41) a3), (4, .one (.sl 67 Y67) a4), (5, .one (.int .i64) t18), (13, .one (.raw (.pointer none)) v2), (16, .one .str want20), (17, .one .str o23.1), (18, .one (.int .i64) s64.1), (19, ptr b66 0), (101, .one .bool (((List.getD a3 (Int.toNat s64.1) (0, false, [], [], 0, 0, [], [], ())).2.2.2.1) != o23.1))]) rfl ?_
                        refine r_nil ?_
                        refine r_then ?_
                        exact r_meetg () rfl rfl
                        | false =>
                        refine r_pure tabOk 5 [1, 3, 4, 5, 13, 16, 17, 18, 19, 101] (E' := [(1, .one .str a1), (3, .one (.sl 41 Y41) a3), (4, .one (.sl 67 Y67) a4), (5, .one (.int .i64) t18), (13, .one (.raw (.pointer none)) v2), (16, .one .str want20), (17, .one .str o23.1), (18, .one (.int .i64) s64.1), (19, ptr b66 0), (101, .one .bool false)]) rfl ?_
                        refine r_nil ?_
                        refine r_then ?_
                        exact r_meetg () rfl rfl
                      refine r_nil ?_
                      refine r_then ?_
                      refine r_if (b := (b71 && (((List.getD a3 (Int.toNat s64.1) (0, false, [], [], 0, 0, [], [], ())).2.2.2.1) != o23.1))) rfl (fun hc => ?_) (fun hc => ?_)
                      · rw [if_pos hc] at h
                        refine r_region ?_
                        refine r_pure tabOk 1 [1, 3, 4, 5, 13, 16, 17, 18, 19, 102] (E' := [(1, .one .str a1), (3, .one (.sl 41 Y41) a3), (4, .one (.sl 67 Y67) a4), (5, .one (.int .i64) t18), (13, .one (.raw (.pointer none)) v2), (16, .one .str want20), (17, .one .str o23.1), (18, .one (.int .i64) s64.1), (19, ptr b66 0), (102, .one (.raw (.pointer none)) v2)]) rfl ?_
                        refine y (y_load 0 .here rfl rfl (by first | rfl | (simp only [Pth.off, T.size]; omega)) ok_here ty41) rfl ?_
                        obtain ⟨r72, hr72, h⟩ := bind_ex h
                        refine r_call (Lo := [Res.var b66 41 Y41 (List.getD a3 (Int.toNat s64.1) (0, false, [], [], 0, 0, [], [], ()))]) (escrowlaw04_step_ok v2 s64.2 (List.getD a3 (Int.toNat s64.1) (0, false, [], [], 0, 0, [], [], ())) _ hr72) (by kernel_rfl) ((List.perm_middle (a := Res.disk Try.prog dI v2 s64.2) (l₁ := [Res.var b66 41 Y41 (List.getD a3 (Int.toNat s64.1) (0, false, [], [], 0, 0, [], [], ()))]) (l₂ := [])).trans (.cons _ (List.Perm.refl _))) rfl rfl fun _ => ?_
                        refine r_nil ?_
                        refine r_then ?_
                        refine r_less [1, 3, 4, 5, 13, 16, 17, 18] rfl ?_
                        exact r_meetk r72.2 () h rfl rfl
                      · rw [if_neg (ne_true_of_eq_false hc)] at h
                        refine r_skip ?_
                        refine r_then ?_
                        refine r_less [1, 3, 4, 5, 13, 16, 17, 18] rfl ?_
                        refine r_perm (L' := [Res.disk Try.prog dI v2 s64.2, Res.var b66 41 Y41 (List.getD a3 (Int.toNat s64.1) (0, false, [], [], 0, 0, [], [], ()))]) ((List.perm_middle (a := Res.disk Try.prog dI v2 s64.2) (l₁ := [Res.var b66 41 Y41 (List.getD a3 (Int.toNat s64.1) (0, false, [], [], 0, 0, [], [], ()))]) (l₂ := [])).trans (.cons _ (List.Perm.refl _))) ?_
                        exact r_meetk s64.2 () h rfl rfl
                    · intro o68 gg h
                      rw [← hk67] at h
                      try dsimp only at h
                      refine r_region ?_
                      refine r_pure tabOk 3 [1, 3, 4, 5, 13, 16, 17, 18, 105, 106, 107] (E' := [(1, .one .str a1), (3, .one (.sl 41 Y41) a3), (4, .one (.sl 67 Y67) a4), (5, .one (.int .i64) t18), (13, .one (.raw (.pointer none)) v2), (16, .one .str want20), (17, .one .str o23.1), (18, .one (.int .i64) s64.1), (105, .one (.raw (.pointer none)) v2), (106, .one .str o23.1), (107, .one (.int .i64) s64.1)]) rfl ?_
                      obtain ⟨r69, hr69, h⟩ := bind_ex h
                      refine r_call (Lo := [Res.var b66 41 Y41 (List.getD a3 (Int.toNat s64.1) (0, false, [], [], 0, 0, [], [], ()))]) (disk_Disk_Read_ok v2 o68 o23.1 s64.1 9 _ hr69) (by kernel_rfl) (List.Perm.refl _) rfl rfl fun _ => ?_
                      refine r_nil ?_
                      refine r_inblock ?_
                      refine r_then ?_
                      refine r_region ?_
                      refine r_pure tabOk 3 [1, 3, 4, 5, 13, 16, 17, 18] (E' := [(1, .one .str a1), (3, .one (.sl 41 Y41) a3), (4, .one (.sl 67 Y67) a4), (5, .one (.int .i64) t18), (13, .one (.raw (.pointer none)) v2), (16, .one .str want20), (17, .one .str o23.1), (18, .one (.int .i64) (IntKind.wrap .i64 (s64.1 + 1)))]) rfl ?_
                      obtain ⟨i70, hi70, h⟩ := bnd_ex h
                      rw [hi70]
                      refine r_nil ?_
                      refine r_then ?_
                      refine r_lose (L' := [Res.disk Try.prog dI v2 o68]) (.cons_cons _ (.cons _ .slnil)) ?_
                      refine r_less [1, 3, 4, 5, 13, 16, 17, 18] rfl ?_
                      exact r_backg (i70, o68) () (Nat.lt_succ_self _) h rfl rfl
                  · rw [if_neg (ne_true_of_eq_false hc)] at h
                    refine r_exit ?_
                    refine e_then ?_
                    refine e_then ?_
                    refine e_eq ?_
                    refine r_then ?_
                    refine r_less [1, 3, 4, 5, 13, 16, 17] rfl ?_
                    exact r_meetk s64.2 () h rfl rfl
                · intro o25 gg h
                  rw [← hk24] at h
                  try dsimp only at h
                  refine r_seq ?_
                  refine r_region ?_
                  refine r_pure tabOk 1 [1, 3, 4, 5, 13, 16, 17, 109] (E' := [(1, .one .str a1), (3, .one (.sl 41 Y41) a3), (4, .one (.sl 67 Y67) a4), (5, .one (.int .i64) t18), (13, .one (.raw (.pointer none)) v2), (16, .one .str want20), (17, .one .str o23.1), (109, .one (.raw (.pointer none)) v2)]) rfl ?_
                  obtain ⟨r26, hr26, h⟩ := bind_ex h
                  refine r_call (Lo := []) (disk_Disk_On_ok v2 o25 _ hr26) (by kernel_rfl) (List.Perm.refl _) rfl rfl fun _ => ?_
                  refine r_nil ?_
                  refine r_then ?_
                  refine r_seq ?_
                  refine r_seq ?_
                  refine r_region ?_
                  refine r_pure tabOk 2 [1, 3, 4, 5, 13, 16, 17, 111, 112] (E' := [(1, .one .str a1), (3, .one (.sl 41 Y41) a3), (4, .one (.sl 67 Y67) a4), (5, .one (.int .i64) t18), (13, .one (.raw (.pointer none)) v2), (16, .one .str want20), (17, .one .str o23.1), (111, .one (.raw (.pointer none)) v2), (112, .one .str o23.1)]) rfl ?_
                  obtain ⟨r27, hr27, h⟩ := bind_ex h
                  refine r_call (Lo := []) (escrowlaw04_all_ok v2 r26 o23.1 _ hr27) (by kernel_rfl) (List.Perm.refl _) rfl rfl fun _ => ?_
                  refine r_pure tabOk 3 [1, 3, 4, 5, 13, 16, 17, 116] (E' := [(1, .one .str a1), (3, .one (.sl 41 Y41) a3), (4, .one (.sl 67 Y67) a4), (5, .one (.int .i64) t18), (13, .one (.raw (.pointer none)) v2), (16, .one .str want20), (17, .one .str o23.1), (116, .one .bool (r27 != want20))]) rfl ?_
                  obtain ⟨b28, hbb28, h⟩ := bnd_ex h
                  rw [hbb28]
                  obtain ⟨k29, hk29, h⟩ := bnd_ex h
                  refine r_lsplitk (γ := Unit) 6 (fun (o30 : Bool) _ => [(1, .one .str a1), (3, .one (.sl 41 Y41) a3), (4, .one (.sl 67 Y67) a4), (5, .one (.int .i64) t18), (13, .one (.raw (.pointer none)) v2), (16, .one .str want20), (17, .one .str o23.1), (122, .one .bool o30)]) (fun _ _ => [Res.disk Try.prog dI v2 r26]) k29 r ?_ ?_
                  · rcases Bool.eq_false_or_eq_true b28 with hh | hh
                    · rw [hh] at h ⊢
                      rw [if_pos rfl] at h
                      refine r_pure tabOk 6 [1, 3, 4, 5, 13, 16, 17, 122] (E' := [(1, .one .str a1), (3, .one (.sl 41 Y41) a3), (4, .one (.sl 67 Y67) a4), (5, .one (.int .i64) t18), (13, .one (.raw (.pointer none)) v2), (16, .one .str want20), (17, .one .str o23.1), (122, .one .bool true)]) rfl ?_
                      refine r_nil ?_
                      refine r_less [1, 3, 4, 5, 13, 16, 17, 122] rfl ?_
                      refine r_then ?_
                      exact r_meetk true () h rfl rfl
                    · rw [hh] at h ⊢
                      rw [if_neg (by decide)] at h
                      refine r_pure tabOk 2 [1, 3, 4, 5, 13, 16, 17, 116, 117, 118] (E' := [(1, .one .str a1), (3, .one (.sl 41 Y41) a3), (4, .one (.sl 67 Y67) a4), (5, .one (.int .i64) t18), (13, .one (.raw (.pointer none)) v2), (16, .one .str want20), (17, .one .str o23.1), (116, .one .bool false), (117, .one (.raw (.pointer none)) v2), (118, .one .str o23.1)]) rfl ?_
                      refine r_guard (by rfl) rfl ?_
                      obtain ⟨r31, hr31, h⟩ := bind_ex h
                      refine r_call (Lo := []) (disk_Disk_Dirty_ok v2 r26 o23.1 _ hr31) (by kernel_rfl) (List.Perm.refl _) rfl rfl fun v32 => ?_
                      refine r_guard (by rfl) rfl ?_
                      refine y (y_lenown tabOk 1 rfl rfl rfl) rfl ?_
                      refine r_pure tabOk 2 [1, 3, 4, 5, 13, 16, 17, 122] (E' := [(1, .one .str a1), (3, .one (.sl 41 Y41) a3), (4, .one (.sl 67 Y67) a4), (5, .one (.int .i64) t18), (13, .one (.raw (.pointer none)) v2), (16, .one .str want20), (17, .one .str o23.1), (122, .one .bool ((List.length r31 : Int) != 0))]) rfl ?_
                      refine r_nil ?_
                      refine r_less [1, 3, 4, 5, 13, 16, 17, 122] rfl ?_
                      refine r_lose (L' := [Res.disk Try.prog dI v2 r26]) (.cons_cons _ (.cons _ .slnil)) ?_
                      refine r_then ?_
                      exact r_meetk ((List.length r31 : Int) != 0) () h rfl rfl
                  · intro o30 _ h
                    rw [← hk29] at h
                    try dsimp only at h
                    refine r_nil ?_
                    refine r_then ?_
                    refine r_if (b := o30) rfl (fun hc => ?_) (fun hc => ?_)
                    · rw [if_pos hc] at h
                      refine r_seq ?_
                      refine r_region ?_
                      refine r_pure tabOk 1 [12] (E' := [(12, .one .bool false)]) rfl ?_
                      refine r_nil ?_
                      refine r_then ?_
                      refine r_ret ?_
                      refine t_then ?_
                      obtain rfl := Option.some.inj h
                      exact r_ret1 rfl (.tmp rfl) (fun _ _ g => g) (fun _ _ _ => List.nil_sublist _)
                    · rw [if_neg (ne_true_of_eq_false hc)] at h
                      refine r_skip ?_
                      refine r_then ?_
                      refine r_seq ?_
                      refine r_region ?_
                      refine r_pure tabOk 2 [1, 3, 5, 13, 16, 17, 123, 124] (E' := [(1, .one .str a1), (3, .one (.sl 41 Y41) a3), (5, .one (.int .i64) t18), (13, .one (.raw (.pointer none)) v2), (16, .one .str want20), (17, .one .str o23.1), (123, .one (.raw (.pointer none)) v2), (124, .one (.sl 67 Y67) a4)]) rfl ?_
                      obtain ⟨r33, hr33, h⟩ := bind_ex h
                      refine r_call (Lo := []) (disk_Disk_Crash_ok v2 r26 a4 _ hr33) (by kernel_rfl) (List.Perm.refl _) rfl rfl fun _ => ?_
                      refine r_nil ?_
                      refine r_then ?_
                      refine r_seq ?_
                      refine r_region ?_
                      refine r_pure tabOk 2 [1, 3, 5, 13, 16, 17, 127, 128] (E' := [(1, .one .str a1), (3, .one (.sl 41 Y41) a3), (5, .one (.int .i64) t18), (13, .one (.raw (.pointer none)) v2), (16, .one .str want20), (17, .one .str o23.1), (127, .one (.raw (.pointer none)) v2), (128, .one .str o23.1)]) rfl ?_
                      obtain ⟨r34, hr34, h⟩ := bind_ex h
                      refine r_call (Lo := []) (disk_Disk_Size_ok v2 r33 o23.1 _ hr34) (by kernel_rfl) (List.Perm.refl _) rfl rfl fun _ => ?_
                      refine r_pure tabOk 5 [1, 3, 5, 13, 16, 17, 21] (E' := [(1, .one .str a1), (3, .one (.sl 41 Y41) a3), (5, .one (.int .i64) t18), (13, .one (.raw (.pointer none)) v2), (16, .one .str want20), (17, .one .str o23.1), (21, .one (.int .i64) r34.2)]) rfl ?_
                      refine r_nil ?_
                      refine r_then ?_
                      refine r_seq ?_
                      refine r_region ?_
                      refine r_pure tabOk 1 [1, 3, 5, 13, 16, 17, 21, 132] (E' := [(1, .one .str a1), (3, .one (.sl 41 Y41) a3), (5, .one (.int .i64) t18), (13, .one (.raw (.pointer none)) v2), (16, .one .str want20), (17, .one .str o23.1), (21, .one (.int .i64) r34.2), (132, .one (.raw (.pointer none)) v2)]) rfl ?_
                      obtain ⟨r35, hr35, h⟩ := bind_ex h
                      refine r_call (Lo := []) (disk_Disk_On_ok v2 r33 _ hr35) (by kernel_rfl) (List.Perm.refl _) rfl rfl fun _ => ?_
                      refine r_nil ?_
                      refine r_then ?_
                      refine r_seq ?_
                      refine r_region ?_
                      refine r_pure tabOk 2 [1, 3, 5, 13, 16, 17, 21, 135, 136] (E' := [(1, .one .str a1), (3, .one (.sl 41 Y41) a3), (5, .one (.int .i64) t18), (13, .one (.raw (.pointer none)) v2), (16, .one .str want20), (17, .one .str o23.1), (21, .one (.int .i64) r34.2), (135, .one (.raw (.pointer none)) v2), (136, .one .str o23.1)]) rfl ?_
                      obtain ⟨r36, hr36, h⟩ := bind_ex h
                      refine r_call (Lo := []) (disk_Disk_Size_ok v2 r35 o23.1 _ hr36) (by kernel_rfl) (List.Perm.refl _) rfl rfl fun _ => ?_
                      refine r_pure tabOk 5 [1, 3, 5, 13, 16, 17, 21, 22, 23] (E' := [(1, .one .str a1), (3, .one (.sl 41 Y41) a3), (5, .one (.int .i64) t18), (13, .one (.raw (.pointer none)) v2), (16, .one .str want20), (17, .one .str o23.1), (21, .one (.int .i64) r34.2), (22, .one (.int .i64) r36.1), (23, .one (.int .i64) r36.2)]) rfl ?_
                      refine r_nil ?_
                      refine r_then ?_
                      refine r_seq ?_
                      refine r_region ?_
                      refine r_pure tabOk 3 [1, 3, 5, 13, 16, 17, 22, 23, 142] (E' := [(1, .one .str a1), (3, .one (.sl 41 Y41) a3), (5, .one (.int .i64) t18), (13, .one (.raw (.pointer none)) v2), (16, .one .str want20), (17, .one .str o23.1), (22, .one (.int .i64) r36.1), (23, .one (.int .i64) r36.2), (142, .one .bool (r34.2 == 9))]) rfl ?_
                      obtain ⟨b37, hbb37, h⟩ := bnd_ex h
                      rw [hbb37]
                      refine r_lsplit (γ := Unit) 3 (fun _ => [(1, .one .str a1), (3, .one (.sl 41 Y41) a3), (5, .one (.int .i64) t18), (13, .one (.raw (.pointer none)) v2), (16, .one .str want20), (17, .one .str o23.1), (22, .one (.int .i64) r36.1), (145, .one .bool (b37 && (r36.2 == 0)))]) (fun _ => [Res.disk Try.prog dI v2 r35]) ?_ (fun _ => ?_)
                      · clear h
                        cases b37 with
                        | true =>
                        refine r_pure tabOk 3 [1, 3, 5, 13, 16, 17, 22, 145] (E' := [(1, .one .str a1), (3, .one (.sl 41 Y41) a3), (5, .one (.int .i64) t18), (13, .one (.raw (.pointer none)) v2), (16, .one .str want20), (17, .one .str o23.1), (22, .one (.int .i64) r36.1), (145, .one .bool (r36.2 == 0))]) rfl ?_
                        refine r_nil ?_
                        refine r_then ?_
                        exact r_meetg () rfl rfl
                        | false =>
                        refine r_pure tabOk 3 [1, 3, 5, 13, 16, 17, 22, 145] (E' := [(1, .one .str a1), (3, .one (.sl 41 Y41) a3), (5, .one (.int .i64) t18), (13, .one (.raw (.pointer none)) v2), (16, .one .str want20), (17, .one .str o23.1), (22, .one (.int .i64) r36.1), (145, .one .bool false)]) rfl ?_
                        refine r_nil ?_
                        refine r_then ?_
                        exact r_meetg () rfl rfl
                      refine r_pure tabOk 1 [1, 3, 5, 13, 16, 17, 22, 146] (E' := [(1, .one .str a1), (3, .one (.sl 41 Y41) a3), (5, .one (.int .i64) t18), (13, .one (.raw (.pointer none)) v2), (16, .one .str want20), (17, .one .str o23.1), (22, .one (.int .i64) r36.1), (146, .one .bool (b37 && (r36.2 == 0)))]) rfl ?_
                      obtain ⟨b38, hbb38, h⟩ := bnd_ex h
                      rw [hbb38]
                      refine r_lsplit (γ := Unit) 4 (fun _ => [(1, .one .str a1), (3, .one (.sl 41 Y41) a3), (13, .one (.raw (.pointer none)) v2), (16, .one .str want20), (17, .one .str o23.1), (150, .one .bool (b38 && (r36.1 == t18)))]) (fun _ => [Res.disk Try.prog dI v2 r35]) ?_ (fun _ => ?_)
                      · clear h
                        cases b38 with
                        | true =>
                        refine r_pure tabOk 4 [1, 3, 13, 16, 17, 150] (E' := [(1, .one .str a1), (3, .one (.sl 41 Y41) a3), (13, .one (.raw (.pointer none)) v2), (16, .one .str want20), (17, .one .str o23.1), (150, .one .bool (r36.1 == t18))]) rfl ?_
                        refine r_nil ?_
                        refine r_then ?_
                        exact r_meetg () rfl rfl
                        | false =>
                        refine r_pure tabOk 4 [1, 3, 13, 16, 17, 150] (E' := [(1, .one .str a1), (3, .one (.sl 41 Y41) a3), (13, .one (.raw (.pointer none)) v2), (16, .one .str want20), (17, .one .str o23.1), (150, .one .bool false)]) rfl ?_
                        refine r_nil ?_
                        refine r_then ?_
                        exact r_meetg () rfl rfl
                      refine r_pure tabOk 1 [1, 3, 13, 16, 17, 151] (E' := [(1, .one .str a1), (3, .one (.sl 41 Y41) a3), (13, .one (.raw (.pointer none)) v2), (16, .one .str want20), (17, .one .str o23.1), (151, .one .bool (b38 && (r36.1 == t18)))]) rfl ?_
                      obtain ⟨b39, hbb39, h⟩ := bnd_ex h
                      rw [hbb39]
                      obtain ⟨k40, hk40, h⟩ := bnd_ex h
                      refine r_lsplitk (γ := Unit) 6 (fun (o41 : Bool) _ => [(1, .one .str a1), (3, .one (.sl 41 Y41) a3), (13, .one (.raw (.pointer none)) v2), (17, .one .str o23.1), (157, .one .bool o41)]) (fun _ _ => [Res.disk Try.prog dI v2 r35]) k40 r ?_ ?_
                      · rcases Bool.eq_false_or_eq_true b39 with hh | hh
                        · rw [hh] at h ⊢
                          rw [if_pos rfl] at h
                          refine r_pure tabOk 2 [1, 3, 13, 16, 17, 151, 152, 153] (E' := [(1, .one .str a1), (3, .one (.sl 41 Y41) a3), (13, .one (.raw (.pointer none)) v2), (16, .one .str want20), (17, .one .str o23.1), (151, .one .bool true), (152, .one (.raw (.pointer none)) v2), (153, .one .str o23.1)]) rfl ?_
                          refine r_guard (by rfl) rfl ?_
                          obtain ⟨r42, hr42, h⟩ := bind_ex h
                          refine r_call (Lo := []) (escrowlaw04_all_ok v2 r35 o23.1 _ hr42) (by kernel_rfl) (List.Perm.refl _) rfl rfl fun _ => ?_
                          refine r_pure tabOk 3 [1, 3, 13, 17, 157] (E' := [(1, .one .str a1), (3, .one (.sl 41 Y41) a3), (13, .one (.raw (.pointer none)) v2), (17, .one .str o23.1), (157, .one .bool (r42 == want20))]) rfl ?_
                          refine r_nil ?_
                          refine r_less [1, 3, 13, 17, 157] rfl ?_
                          refine r_then ?_
                          exact r_meetk (r42 == want20) () h rfl rfl
                        · rw [hh] at h ⊢
                          rw [if_neg (by decide)] at h
                          refine r_pure tabOk 6 [1, 3, 13, 17, 157] (E' := [(1, .one .str a1), (3, .one (.sl 41 Y41) a3), (13, .one (.raw (.pointer none)) v2), (17, .one .str o23.1), (157, .one .bool false)]) rfl ?_
                          refine r_nil ?_
                          refine r_less [1, 3, 13, 17, 157] rfl ?_
                          refine r_then ?_
                          exact r_meetk false () h rfl rfl
                      · intro o41 _ h
                        rw [← hk40] at h
                        try dsimp only at h
                        refine r_pure tabOk 1 [1, 3, 13, 17, 158] (E' := [(1, .one .str a1), (3, .one (.sl 41 Y41) a3), (13, .one (.raw (.pointer none)) v2), (17, .one .str o23.1), (158, .one .bool o41)]) rfl ?_
                        obtain ⟨k44, hk44, h⟩ := bnd_ex h
                        refine r_lsplitk (γ := Unit) 5 (fun (o45 : Bool) _ => [(1, .one .str a1), (3, .one (.sl 41 Y41) a3), (13, .one (.raw (.pointer none)) v2), (17, .one .str o23.1), (163, .one .bool o45)]) (fun _ _ => [Res.disk Try.prog dI v2 r35]) k44 r ?_ ?_
                        · rcases Bool.eq_false_or_eq_true o41 with hh | hh
                          · rw [hh] at h ⊢
                            rw [if_pos rfl] at h
                            refine r_pure tabOk 1 [1, 3, 13, 17, 158, 159] (E' := [(1, .one .str a1), (3, .one (.sl 41 Y41) a3), (13, .one (.raw (.pointer none)) v2), (17, .one .str o23.1), (158, .one .bool true), (159, .one (.raw (.pointer none)) v2)]) rfl ?_
                            refine r_guard (by rfl) rfl ?_
                            obtain ⟨r46, hr46, h⟩ := bind_ex h
                            refine r_call (Lo := []) (disk_Disk_List_ok v2 r35 _ hr46) (by kernel_rfl) (List.Perm.refl _) rfl rfl fun v47 => ?_
                            refine r_pure tabOk 1 [1, 3, 13, 17, 158, 160, 161] (E' := [(1, .one .str a1), (3, .one (.sl 41 Y41) a3), (13, .one (.raw (.pointer none)) v2), (17, .one .str o23.1), (158, .one .bool true), (160, .one (.raw (.slice none 0 0)) v47), (161, .one .str o23.1)]) rfl ?_
                            refine r_guard (by rfl) rfl ?_
                            refine r_freeze (i := 1) (k := 160) rfl rfl ?_
                            obtain ⟨r48, hr48, h⟩ := bind_ex h
                            refine r_calls (escrowlaw04_has_ok r46 o23.1 _ hr48) (by kernel_rfl) rfl rfl ?_
                            refine r_pure tabOk 1 [1, 3, 13, 17, 163] (E' := [(1, .one .str a1), (3, .one (.sl 41 Y41) a3), (13, .one (.raw (.pointer none)) v2), (17, .one .str o23.1), (163, .one .bool r48)]) rfl ?_
                            refine r_nil ?_
                            refine r_less [1, 3, 13, 17, 163] rfl ?_
                            refine r_then ?_
                            exact r_meetk r48 () h rfl rfl
                          · rw [hh] at h ⊢
                            rw [if_neg (by decide)] at h
                            refine r_pure tabOk 5 [1, 3, 13, 17, 163] (E' := [(1, .one .str a1), (3, .one (.sl 41 Y41) a3), (13, .one (.raw (.pointer none)) v2), (17, .one .str o23.1), (163, .one .bool false)]) rfl ?_
                            refine r_nil ?_
                            refine r_less [1, 3, 13, 17, 163] rfl ?_
                            refine r_then ?_
                            exact r_meetk false () h rfl rfl
                        · intro o45 _ h
                          rw [← hk44] at h
                          try dsimp only at h
                          refine r_pure tabOk 1 [1, 3, 13, 17, 164] (E' := [(1, .one .str a1), (3, .one (.sl 41 Y41) a3), (13, .one (.raw (.pointer none)) v2), (17, .one .str o23.1), (164, .one .bool o45)]) rfl ?_
                          obtain ⟨k50, hk50, h⟩ := bnd_ex h
                          refine r_lsplitk (γ := Unit) 16 (fun (o51 : Bool) _ => [(180, .one .bool o51)]) (fun _ _ => [Res.disk Try.prog dI v2 r35]) k50 r ?_ ?_
                          · rcases Bool.eq_false_or_eq_true o45 with hh | hh
                            · rw [hh] at h ⊢
                              rw [if_pos rfl] at h
                              refine r_pure tabOk 4 [1, 3, 13, 164, 168] (E' := [(1, .one .str a1), (3, .one (.sl 41 Y41) a3), (13, .one (.raw (.pointer none)) v2), (164, .one .bool true), (168, .one .bool (o23.1 == a1))]) rfl ?_
                              obtain ⟨b52, hbb52, h⟩ := bnd_ex h
                              rw [hbb52]
                              obtain ⟨k53, hk53, h⟩ := bnd_ex h
                              refine r_lsplitk (γ := Unit) 6 (fun (o54 : Bool) _ => [(1, .one .str a1), (3, .one (.sl 41 Y41) a3), (164, .one .bool true), (174, .one .bool o54)]) (fun _ _ => [Res.disk Try.prog dI v2 r35]) k53 r ?_ ?_
                              · rcases Bool.eq_false_or_eq_true b52 with hh | hh
                                · rw [hh] at h ⊢
                                  rw [if_pos rfl] at h
                                  refine r_pure tabOk 6 [1, 3, 164, 174] (E' := [(1, .one .str a1), (3, .one (.sl 41 Y41) a3), (164, .one .bool true), (174, .one .bool true)]) rfl ?_
                                  refine r_nil ?_
                                  refine r_less [1, 3, 164, 174] rfl ?_
                                  refine r_then ?_
                                  exact r_meetk true () h rfl rfl
                                · rw [hh] at h ⊢
                                  rw [if_neg (by decide)] at h
                                  refine r_pure tabOk 1 [1, 3, 164, 168, 169] (E' := [(1, .one .str a1), (3, .one (.sl 41 Y41) a3), (164, .one .bool true), (168, .one .bool false), (169, .one (.raw (.pointer none)) v2)]) rfl ?_
                                  refine r_guard (by rfl) rfl ?_
                                  obtain ⟨r55, hr55, h⟩ := bind_ex h
                                  refine r_call (Lo := []) (disk_Disk_List_ok v2 r35 _ hr55) (by kernel_rfl) (List.Perm.refl _) rfl rfl fun v56 => ?_
                                  refine r_pure tabOk 1 [1, 3, 164, 168, 170, 171] (E' := [(1, .one .str a1), (3, .one (.sl 41 Y41) a3), (164, .one .bool true), (168, .one .bool false), (170, .one (.raw (.slice none 0 0)) v56), (171, .one .str a1)]) rfl ?_
                                  refine r_guard (by rfl) rfl ?_
                                  refine r_freeze (i := 1) (k := 170) rfl rfl ?_
                                  obtain ⟨r57, hr57, h⟩ := bind_ex h
                                  refine r_calls (escrowlaw04_has_ok r55 a1 _ hr57) (by kernel_rfl) rfl rfl ?_
                                  refine r_pure tabOk 2 [1, 3, 164, 174] (E' := [(1, .one .str a1), (3, .one (.sl 41 Y41) a3), (164, .one .bool true), (174, .one .bool (!r57))]) rfl ?_
                                  refine r_nil ?_
                                  refine r_less [1, 3, 164, 174] rfl ?_
                                  refine r_then ?_
                                  exact r_meetk (!r57) () h rfl rfl
                              · intro o54 _ h
                                rw [← hk53] at h
                                try dsimp only at h
                                refine r_pure tabOk 1 [1, 3, 164, 175] (E' := [(1, .one .str a1), (3, .one (.sl 41 Y41) a3), (164, .one .bool true), (175, .one .bool o54)]) rfl ?_
                                obtain ⟨k59, hk59, h⟩ := bnd_ex h
                                refine r_lsplitk (γ := Unit) 4 (fun (o60 : Bool) _ => [(164, .one .bool true), (179, .one .bool o60)]) (fun _ _ => [Res.disk Try.prog dI v2 r35]) k59 r ?_ ?_
                                · rcases Bool.eq_false_or_eq_true o54 with hh | hh
                                  · rw [hh] at h ⊢
                                    rw [if_pos rfl] at h
                                    refine r_pure tabOk 4 [164, 179] (E' := [(164, .one .bool true), (179, .one .bool true)]) rfl ?_
                                    refine r_nil ?_
                                    refine r_less [164, 179] rfl ?_
                                    refine r_then ?_
                                    exact r_meetk true () h rfl rfl
                                  · rw [hh] at h ⊢
                                    rw [if_neg (by decide)] at h
                                    refine r_pure tabOk 2 [164, 175, 176, 177] (E' := [(164, .one .bool true), (175, .one .bool false), (176, .one (.sl 41 Y41) a3), (177, .one .str a1)]) rfl ?_
                                    refine r_guard (by rfl) rfl ?_
                                    obtain ⟨r61, hr61, h⟩ := bind_ex h
                                    refine r_calls (escrowlaw04_wrote_ok a3 a1 _ hr61) (by kernel_rfl) rfl rfl ?_
                                    refine r_pure tabOk 1 [164, 179] (E' := [(164, .one .bool true), (179, .one .bool r61)]) rfl ?_
                                    refine r_nil ?_
                                    refine r_less [164, 179] rfl ?_
                                    refine r_then ?_
                                    exact r_meetk r61 () h rfl rfl
                                · intro o60 _ h
                                  rw [← hk59] at h
                                  try dsimp only at h
                                  refine r_pure tabOk 1 [180] (E' := [(180, .one .bool o60)]) rfl ?_
                                  refine r_nil ?_
                                  refine r_less [180] rfl ?_
                                  refine r_then ?_
                                  exact r_meetk o60 () h rfl rfl
                            · rw [hh] at h ⊢
                              rw [if_neg (by decide)] at h
                              refine r_pure tabOk 16 [180] (E' := [(180, .one .bool false)]) rfl ?_
                              refine r_nil ?_
                              refine r_less [180] rfl ?_
                              refine r_then ?_
                              exact r_meetk false () h rfl rfl
                          · intro o51 _ h
                            rw [← hk50] at h
                            try dsimp only at h
                            refine r_pure tabOk 1 [12] (E' := [(12, .one .bool o51)]) rfl ?_
                            refine r_nil ?_
                            refine r_then ?_
                            refine r_ret ?_
                            obtain rfl := Option.some.inj h
                            exact r_ret1 rfl (.tmp rfl) (fun _ _ g => g) (fun _ _ _ => List.nil_sublist _)
end Sx
