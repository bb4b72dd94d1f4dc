/-
  Own work, printed by a program of the same hand. Each function of the code answers what its plain twin reckons.
-/
import Derived.Test.YtpkjocjchkibaaaWalk2
namespace Sx
open Go Go.Proofs
set_option maxRecDepth 10000

theorem escrowlaw04_seen_ok (p0 : Value) (p1 : Value) (a0 : DiskS) (a1 : DiskS) (r : Bool) (h : escrowlaw04_seen a0 a1 = some r) : Fn Try.prog 49 [.one (.raw (.pointer none)) p0, .one (.raw (.pointer none)) p1] [Res.disk Try.prog dI p0 a0, Res.disk Try.prog dI p1 a1] (fun _ => .one .bool r) (fun _ => [Res.disk Try.prog dI p0 a0, Res.disk Try.prog dI p1 a1]) := by
  unfold escrowlaw04_seen at h
  refine enter Try.func49 rfl 63 rfl rfl fun F => ?_
  refine r_seq ?_
  refine r_region ?_
  refine r_pure tabOk 1 [0, 1] (E' := [(0, .one (.raw (.pointer none)) p0), (1, .one (.raw (.pointer none)) p1)]) rfl ?_
  refine r_nil ?_
  refine r_then ?_
  refine r_seq ?_
  refine r_region ?_
  refine r_pure tabOk 1 [0, 1, 7] (E' := [(0, .one (.raw (.pointer none)) p0), (1, .one (.raw (.pointer none)) p1), (7, .one (.raw (.pointer none)) p0)]) rfl ?_
  obtain ⟨r1, hr1, h⟩ := bind_ex h
  refine r_call (Lo := [Res.disk Try.prog dI p1 a1]) (disk_Disk_List_ok p0 a0 _ hr1) (by kernel_rfl) (List.Perm.refl _) rfl rfl fun v2 => ?_
  refine r_pure tabOk 1 [0, 1, 5] (E' := [(0, .one (.raw (.pointer none)) p0), (1, .one (.raw (.pointer none)) p1), (5, .one (.raw (.slice none 0 0)) v2)]) rfl ?_
  refine r_nil ?_
  refine r_then ?_
  refine r_seq ?_
  refine r_seq ?_
  refine r_region ?_
  refine r_pure tabOk 2 [0, 1, 5, 9, 10] (E' := [(0, .one (.raw (.pointer none)) p0), (1, .one (.raw (.pointer none)) p1), (5, .one (.raw (.slice none 0 0)) v2), (9, .one (.raw (.slice none 0 0)) v2), (10, .one (.raw (.pointer none)) p1)]) rfl ?_
  obtain ⟨r3, hr3, h⟩ := bind_ex h
  refine r_call (Lo := [Res.disk Try.prog dI p0 a0, Res.own v2 9 .str r1]) (disk_Disk_List_ok p1 a1 _ hr3) (by kernel_rfl) ((List.perm_middle (a := Res.disk Try.prog dI p1 a1) (l₁ := [Res.disk Try.prog dI p0 a0, Res.own v2 9 .str r1]) (l₂ := [])).trans (.cons _ (List.Perm.refl _))) rfl rfl fun v4 => ?_
  refine r_freeze (i := 1) (k := 11) rfl rfl ?_
  obtain ⟨r5, hr5, h⟩ := bind_ex h
  refine r_callw (escrowlaw04_sameTexts_ok r1 r3 _ hr5) (by kernel_rfl) rfl (.own 2 rfl rfl (.val rfl .nil)) rfl ?_
  refine r_pure tabOk 2 [0, 1, 5, 14] (E' := [(0, .one (.raw (.pointer none)) p0), (1, .one (.raw (.pointer none)) p1), (5, .one (.raw (.slice none 0 0)) v2), (14, .one .bool (!r5))]) rfl ?_
  obtain ⟨b6, hbb6, h⟩ := bnd_ex h
  rw [hbb6]
  obtain ⟨k7, hk7, h⟩ := bnd_ex h
  refine r_lsplitk (γ := Unit) 6 (fun (o8 : Bool) _ => [(0, .one (.raw (.pointer none)) p0), (1, .one (.raw (.pointer none)) p1), (5, .one (.raw (.slice none 0 0)) v2), (20, .one .bool o8)]) (fun _ _ => [Res.disk Try.prog dI p1 a1, Res.disk Try.prog dI p0 a0, Res.own v2 9 .str r1]) k7 r ?_ ?_
  · rcases Bool.eq_false_or_eq_true b6 with hh | hh
    · rw [hh] at h ⊢
      rw [if_pos rfl] at h
      refine r_pure tabOk 6 [0, 1, 5, 20] (E' := [(0, .one (.raw (.pointer none)) p0), (1, .one (.raw (.pointer none)) p1), (5, .one (.raw (.slice none 0 0)) v2), (20, .one .bool true)]) rfl ?_
      refine r_nil ?_
      refine r_less [0, 1, 5, 20] rfl ?_
      refine r_then ?_
      exact r_meetk true () h rfl rfl
    · rw [hh] at h ⊢
      rw [if_neg (by decide)] at h
      refine r_pure tabOk 1 [0, 1, 5, 14, 15] (E' := [(0, .one (.raw (.pointer none)) p0), (1, .one (.raw (.pointer none)) p1), (5, .one (.raw (.slice none 0 0)) v2), (14, .one .bool false), (15, .one (.raw (.pointer none)) p0)]) rfl ?_
      refine r_guard (by rfl) rfl ?_
      refine r_perm (L' := [Res.disk Try.prog dI p0 a0, Res.disk Try.prog dI p1 a1, Res.own v2 9 .str r1]) ((List.perm_middle (a := Res.disk Try.prog dI p0 a0) (l₁ := [Res.disk Try.prog dI p1 a1]) (l₂ := [Res.own v2 9 .str r1])).trans (.cons _ (List.Perm.refl _))) ?_
      refine r_undisk fun b10 mv9 hp => ?_
      subst hp
      refine r_perm (L' := [Res.dfiles Try.prog dI mv9 a0.2.1, Res.var b10 71 DT (a0.1, mv9, a0.2.2.1, a0.2.2.2.1, a0.2.2.2.2.1, a0.2.2.2.2.2.1, a0.2.2.2.2.2.2, ()), Res.disk Try.prog dI p1 a1, Res.own v2 9 .str r1]) ((List.perm_middle (a := Res.dfiles Try.prog dI mv9 a0.2.1) (l₁ := [Res.var b10 71 DT (a0.1, mv9, a0.2.2.1, a0.2.2.2.1, a0.2.2.2.2.1, a0.2.2.2.2.2.1, a0.2.2.2.2.2.2, ())]) (l₂ := [Res.disk Try.prog dI p1 a1, Res.own v2 9 .str r1])).trans (.cons _ (List.Perm.refl _))) ?_
      refine r_somedat fun q12 => ?_
      refine r_perm (L' := [Res.var b10 71 DT (a0.1, mv9, a0.2.2.1, a0.2.2.2.1, a0.2.2.2.2.1, a0.2.2.2.2.2.1, a0.2.2.2.2.2.2, ()), Res.dat Try.prog dI mv9 a0.2.1 [] q12, Res.disk Try.prog dI p1 a1, Res.own v2 9 .str r1]) ((List.perm_middle (a := Res.var b10 71 DT (a0.1, mv9, a0.2.2.1, a0.2.2.2.1, a0.2.2.2.2.1, a0.2.2.2.2.2.1, a0.2.2.2.2.2.2, ())) (l₁ := [Res.dat Try.prog dI mv9 a0.2.1 [] q12]) (l₂ := [Res.disk Try.prog dI p1 a1, Res.own v2 9 .str r1])).trans (.cons _ (List.Perm.refl _))) ?_
      obtain ⟨r11, hr11, h⟩ := bind_ex h
      refine r_call (Lo := [Res.disk Try.prog dI p1 a1, Res.own v2 9 .str r1]) (disk_Disk_Used_ok b10 mv9 [] q12 a0 _ hr11) (by kernel_rfl) (List.Perm.refl _) rfl rfl fun _ => ?_
      refine r_imp_at (R' := Res.dfiles Try.prog dI mv9 a0.2.1) 1 rfl dat_dfiles ?_
      refine r_disk (P := Try.prog) (I := dI) (D := a0) ?_
      refine r_pure tabOk 1 [0, 1, 5, 14, 16, 17] (E' := [(0, ptr b10 0), (1, .one (.raw (.pointer none)) p1), (5, .one (.raw (.slice none 0 0)) v2), (14, .one .bool false), (16, .one (.int .i64) r11), (17, .one (.raw (.pointer none)) p1)]) rfl ?_
      refine r_guard (by rfl) rfl ?_
      refine r_perm (L' := [Res.disk Try.prog dI p1 a1, Res.disk Try.prog dI (.pointer (some ⟨b10, 0, none⟩)) a0, Res.own v2 9 .str r1]) ((List.perm_middle (a := Res.disk Try.prog dI p1 a1) (l₁ := [Res.disk Try.prog dI (.pointer (some ⟨b10, 0, none⟩)) a0]) (l₂ := [Res.own v2 9 .str r1])).trans (.cons _ (List.Perm.refl _))) ?_
      refine r_undisk fun b14 mv13 hp => ?_
      subst hp
      refine r_perm (L' := [Res.dfiles Try.prog dI mv13 a1.2.1, Res.var b14 71 DT (a1.1, mv13, a1.2.2.1, a1.2.2.2.1, a1.2.2.2.2.1, a1.2.2.2.2.2.1, a1.2.2.2.2.2.2, ()), Res.disk Try.prog dI (.pointer (some ⟨b10, 0, none⟩)) a0, Res.own v2 9 .str r1]) ((List.perm_middle (a := Res.dfiles Try.prog dI mv13 a1.2.1) (l₁ := [Res.var b14 71 DT (a1.1, mv13, a1.2.2.1, a1.2.2.2.1, a1.2.2.2.2.1, a1.2.2.2.2.2.1, a1.2.2.2.2.2.2, ())]) (l₂ := [Res.disk Try.prog dI (.pointer (some ⟨b10, 0, none⟩)) a0, Res.own v2 9 .str r1])).trans (.cons _ (List.Perm.refl _))) ?_
      refine r_somedat fun q16 => ?_
      refine r_perm (L' := [Res.var b14 71 DT (a1.1, mv13, a1.2.2.1, a1.2.2.2.1, a1.2.2.2.2.1, a1.2.2.2.2.2.1, a1.2.2.2.2.2.2, ()), Res.dat Try.prog dI mv13 a1.2.1 [] q16, Res.disk Try.prog dI (.pointer (some ⟨b10, 0, none⟩)) a0, Res.own v2 9 .str r1]) ((List.perm_middle (a := Res.var b14 71 DT (a1.1, mv13, a1.2.2.1, a1.2.2.2.1, a1.2.2.2.2.1, a1.2.2.2.2.2.1, a1.2.2.2.2.2.2, ())) (l₁ := [Res.dat Try.prog dI mv13 a1.2.1 [] q16]) (l₂ := [Res.disk Try.prog dI (.pointer (some ⟨b10, 0, none⟩)) a0, Res.own v2 9 .str r1])).trans (.cons _ (List.Perm.refl _))) ?_
      obtain ⟨r15, hr15, h⟩ := bind_ex h
      refine r_call (Lo := [Res.disk Try.prog dI (.pointer (some ⟨b10, 0, none⟩)) a0, Res.own v2 9 .str r1]) (disk_Disk_Used_ok b14 mv13 [] q16 a1 _ hr15) (by kernel_rfl) (List.Perm.refl _) rfl rfl fun _ => ?_
      refine r_imp_at (R' := Res.dfiles Try.prog dI mv13 a1.2.1) 1 rfl dat_dfiles ?_
      refine r_disk (P := Try.prog) (I := dI) (D := a1) ?_
      refine r_pure tabOk 2 [0, 1, 5, 20] (E' := [(0, ptr b10 0), (1, ptr b14 0), (5, .one (.raw (.slice none 0 0)) v2), (20, .one .bool (r11 != r15))]) rfl ?_
      refine r_nil ?_
      refine r_less [0, 1, 5, 20] rfl ?_
      refine r_then ?_
      exact r_meetk (r11 != r15) () h rfl rfl
  · intro o8 _ h
    rw [← hk7] at h
    try dsimp only at h
    refine r_pure tabOk 1 [0, 1, 5, 21] (E' := [(0, .one (.raw (.pointer none)) p0), (1, .one (.raw (.pointer none)) p1), (5, .one (.raw (.slice none 0 0)) v2), (21, .one .bool o8)]) rfl ?_
    obtain ⟨k18, hk18, h⟩ := bnd_ex h
    refine r_lsplitk (γ := Unit) 6 (fun (o19 : Bool) _ => [(0, .one (.raw (.pointer none)) p0), (1, .one (.raw (.pointer none)) p1), (5, .one (.raw (.slice none 0 0)) v2), (27, .one .bool o19)]) (fun _ _ => [Res.disk Try.prog dI p1 a1, Res.disk Try.prog dI p0 a0, Res.own v2 9 .str r1]) k18 r ?_ ?_
    · rcases Bool.eq_false_or_eq_true o8 with hh | hh
      · rw [hh] at h ⊢
        rw [if_pos rfl] at h
        refine r_pure tabOk 6 [0, 1, 5, 27] (E' := [(0, .one (.raw (.pointer none)) p0), (1, .one (.raw (.pointer none)) p1), (5, .one (.raw (.slice none 0 0)) v2), (27, .one .bool true)]) rfl ?_
        refine r_nil ?_
        refine r_less [0, 1, 5, 27] rfl ?_
        refine r_then ?_
        exact r_meetk true () h rfl rfl
      · rw [hh] at h ⊢
        rw [if_neg (by decide)] at h
        refine r_pure tabOk 1 [0, 1, 5, 21, 22] (E' := [(0, .one (.raw (.pointer none)) p0), (1, .one (.raw (.pointer none)) p1), (5, .one (.raw (.slice none 0 0)) v2), (21, .one .bool false), (22, .one (.raw (.pointer none)) p0)]) rfl ?_
        refine r_guard (by rfl) rfl ?_
        obtain ⟨r20, hr20, h⟩ := bind_ex h
        refine r_call (Lo := [Res.disk Try.prog dI p1 a1, Res.own v2 9 .str r1]) (disk_Disk_Off_ok p0 a0 _ hr20) (by kernel_rfl) ((List.perm_middle (a := Res.disk Try.prog dI p0 a0) (l₁ := [Res.disk Try.prog dI p1 a1]) (l₂ := [Res.own v2 9 .str r1])).trans (.cons _ (List.Perm.refl _))) rfl rfl fun _ => ?_
        refine r_pure tabOk 1 [0, 1, 5, 21, 23, 24] (E' := [(0, .one (.raw (.pointer none)) p0), (1, .one (.raw (.pointer none)) p1), (5, .one (.raw (.slice none 0 0)) v2), (21, .one .bool false), (23, .one .bool r20), (24, .one (.raw (.pointer none)) p1)]) rfl ?_
        refine r_guard (by rfl) rfl ?_
        obtain ⟨r21, hr21, h⟩ := bind_ex h
        refine r_call (Lo := [Res.disk Try.prog dI p0 a0, Res.own v2 9 .str r1]) (disk_Disk_Off_ok p1 a1 _ hr21) (by kernel_rfl) ((List.perm_middle (a := Res.disk Try.prog dI p1 a1) (l₁ := [Res.disk Try.prog dI p0 a0]) (l₂ := [Res.own v2 9 .str r1])).trans (.cons _ (List.Perm.refl _))) rfl rfl fun _ => ?_
        refine r_guard (by rfl) rfl ?_
        refine y (y_bne rfl rfl Try.underlying4) rfl ?_
        refine r_pure tabOk 1 [0, 1, 5, 27] (E' := [(0, .one (.raw (.pointer none)) p0), (1, .one (.raw (.pointer none)) p1), (5, .one (.raw (.slice none 0 0)) v2), (27, .one .bool (r20 != r21))]) rfl ?_
        refine r_nil ?_
        refine r_less [0, 1, 5, 27] rfl ?_
        refine r_then ?_
        exact r_meetk (r20 != r21) () h rfl rfl
    · intro o19 _ h
      rw [← hk18] at h
      try dsimp only at h
      refine r_nil ?_
      refine r_then ?_
      refine r_if (b := o19) rfl (fun hc => ?_) (fun hc => ?_)
      · rw [if_pos hc] at h
        refine r_seq ?_
        refine r_region ?_
        refine r_pure tabOk 1 [4] (E' := [(4, .one .bool false)]) rfl ?_
        refine r_nil ?_
        refine r_then ?_
        refine r_ret ?_
        refine t_then ?_
        obtain rfl := Option.some.inj h
        refine r_lose (L' := [Res.disk Try.prog dI p1 a1, Res.disk Try.prog dI p0 a0]) (.cons_cons _ (.cons_cons _ (.cons _ .slnil))) ?_
        refine r_perm (L' := [Res.disk Try.prog dI p0 a0, Res.disk Try.prog dI p1 a1]) ((List.perm_middle (a := Res.disk Try.prog dI p0 a0) (l₁ := [Res.disk Try.prog dI p1 a1]) (l₂ := [])).trans (.cons _ (List.Perm.refl _))) ?_
        exact r_ret1 rfl (.tmp rfl) (fun _ _ g => g) (fun _ _ _ => (.cons_cons _ (.cons_cons _ .slnil)))
      · rw [if_neg (ne_true_of_eq_false hc)] at h
        refine r_skip ?_
        refine r_then ?_
        obtain ⟨k22, hk22, h⟩ := bnd_ex h
        refine r_joink (γ := Value) (fun (o23 : Unit) g24 => []) (fun (o23 : Unit) g24 => [Res.disk Try.prog dI p1 a1, Res.disk Try.prog dI p0 a0, Res.own g24 9 .str r1]) k22 r ?_ ?_
        · refine r_seq ?_
          refine r_region ?_
          refine r_pure tabOk 1 [0, 1, 5, 6] (E' := [(0, .one (.raw (.pointer none)) p0), (1, .one (.raw (.pointer none)) p1), (5, .one (.raw (.slice none 0 0)) v2), (6, .one (.int .i64) 0)]) rfl ?_
          refine r_nil ?_
          refine r_then ?_
          refine r_block ?_
          refine r_less [0, 1, 5, 6] rfl ?_
          refine r_loopg (γ := Value) (fun (s28 : Int) g29 => [(0, .one (.raw (.pointer none)) p0), (1, .one (.raw (.pointer none)) p1), (5, .one (.raw (.slice none 0 0)) g29), (6, .one (.int .i64) s28)]) (fun (s28 : Int) g29 => [Res.disk Try.prog dI p1 a1, Res.disk Try.prog dI p0 a0, Res.own g29 9 .str r1]) (escrowlaw04_seen_l0 a0 a1 r1 k22) 0 v2 h rfl rfl ?_
          clear h
          intro m30 s28 g29 h
          cases m30 with
          | zero => cases h
          | succ m30 =>
          simp only [escrowlaw04_seen_l0] at h
          refine r_seq ?_
          refine r_seq ?_
          refine r_region ?_
          refine r_pure tabOk 2 [0, 1, 5, 6, 28, 29] (E' := [(0, .one (.raw (.pointer none)) p0), (1, .one (.raw (.pointer none)) p1), (5, .one (.raw (.slice none 0 0)) g29), (6, .one (.int .i64) s28), (28, .one (.int .i64) s28), (29, .one (.raw (.slice none 0 0)) g29)]) rfl ?_
          refine y (y_lenown tabOk 2 rfl rfl rfl) rfl ?_
          refine r_pure tabOk 1 [0, 1, 5, 6, 31] (E' := [(0, .one (.raw (.pointer none)) p0), (1, .one (.raw (.pointer none)) p1), (5, .one (.raw (.slice none 0 0)) g29), (6, .one (.int .i64) s28), (31, .one .bool (decide (s28 < (List.length r1 : Int))))]) rfl ?_
          refine r_nil ?_
          refine r_then ?_
          refine r_if (b := (decide (s28 < (List.length r1 : Int)))) rfl (fun hc => ?_) (fun hc => ?_)
          · rw [if_pos hc] at h
            refine r_skip ?_
            refine r_then ?_
            refine r_seq ?_
            refine r_block ?_
            refine r_seq ?_
            obtain ⟨hi31, h⟩ := ite_ex h
            refine r_expose 2 rfl (by omega) fun b32 c33 hv => ?_
            rw [hv]
            try clear hv
            refine h_start (S := AllIs [OwnIs b32 9 .str r1]) (by kernel_rfl) ?_
            refine h_take (i := 0) (t := .one (.raw (.pointer none)) p0) (blind_then (blind_block (blind_then (blind_then (blind_block (blind_then blind_body)))))) rfl (by kernel_rfl) (by kernel_rfl) (by kernel_rfl) (allis_cons (own_is 2 rfl (by omega)) allis_nil) (y_pure tabOk rfl) rfl ?_
            refine h_take (i := 1) (t := .one (.raw (.slice none 0 0)) (.slice (some ⟨b32, 0, none⟩) (List.length r1) c33)) (blind_then (blind_block (blind_then (blind_then (blind_block (blind_then blind_body)))))) rfl (by kernel_rfl) (by kernel_rfl) (by kernel_rfl) (allis_cons (own_is 2 rfl (by omega)) allis_nil) (y_pure tabOk rfl) rfl ?_
            refine h_take (i := 2) (t := .one (.int .i64) s28) (blind_then (blind_block (blind_then (blind_then (blind_block (blind_then blind_body)))))) rfl (by kernel_rfl) (by kernel_rfl) (by kernel_rfl) (allis_cons (own_is 2 rfl (by omega)) allis_nil) (y_pure tabOk rfl) rfl ?_
            refine h_take (i := 3) (t := ptr b32 (0 + (Int.toNat s28) * 1)) (blind_then (blind_block (blind_then (blind_then (blind_block (blind_then blind_body)))))) rfl (by kernel_rfl) (by kernel_rfl) (by kernel_rfl) (allis_cons (own_is 2 rfl (by omega)) allis_nil) (y_iraw tabOk rfl rfl hi31.1 hi31.2 rfl ty9) rfl ?_
            refine h_take (i := 4) (t := .one .str (List.getD r1 (Int.toNat s28) [])) (blind_then (blind_block (blind_then (blind_then (blind_block (blind_then blind_body)))))) rfl (by kernel_rfl) (by kernel_rfl) (by kernel_rfl) (allis_cons (own_is 2 rfl (by omega)) allis_nil) (y_heldown (S := fun w => AllIs [OwnIs b32 9 .str r1] w) (allis_at 0 rfl) 2 (Int.toNat s28) .here rfl rfl rfl (by omega) (by first | rfl | (simp only [Pth.off, T.size]; omega)) ok_here ty9) rfl ?_
            refine h_take (i := 6) (t := .one (.raw (.pointer none)) p1) (blind_then (blind_block (blind_then (blind_then (blind_block (blind_then blind_body)))))) rfl (by kernel_rfl) (by kernel_rfl) (by kernel_rfl) (allis_cons (own_is 2 rfl (by omega)) allis_nil) (y_pure tabOk rfl) rfl ?_
            refine h_take (i := 7) (t := .one (.raw (.slice none 0 0)) (.slice (some ⟨b32, 0, none⟩) (List.length r1) c33)) (blind_then (blind_block (blind_then (blind_then (blind_block (blind_then blind_body)))))) rfl (by kernel_rfl) (by kernel_rfl) (by kernel_rfl) (allis_cons (own_is 2 rfl (by omega)) allis_nil) (y_pure tabOk rfl) rfl ?_
            refine h_take (i := 8) (t := .one (.int .i64) s28) (blind_then (blind_block (blind_then (blind_then (blind_block (blind_then blind_body)))))) rfl (by kernel_rfl) (by kernel_rfl) (by kernel_rfl) (allis_cons (own_is 2 rfl (by omega)) allis_nil) (y_pure tabOk rfl) rfl ?_
            refine h_take (i := 9) (t := ptr b32 (0 + (Int.toNat s28) * 1)) (blind_then (blind_block (blind_then (blind_then (blind_block (blind_then blind_body)))))) rfl (by kernel_rfl) (by kernel_rfl) (by kernel_rfl) (allis_cons (own_is 2 rfl (by omega)) allis_nil) (y_iraw tabOk rfl rfl hi31.1 hi31.2 rfl ty9) rfl ?_
            refine h_take (i := 10) (t := .one .str (List.getD r1 (Int.toNat s28) [])) (blind_then (blind_block (blind_then (blind_then (blind_block (blind_then blind_body)))))) rfl (by kernel_rfl) (by kernel_rfl) (by kernel_rfl) (allis_cons (own_is 2 rfl (by omega)) allis_nil) (y_heldown (S := fun w => AllIs [OwnIs b32 9 .str r1] w) (allis_at 0 rfl) 2 (Int.toNat s28) .here rfl rfl rfl (by omega) (by first | rfl | (simp only [Pth.off, T.size]; omega)) ok_here ty9) rfl ?_
            refine h_one (i := 5) (by kernel_rfl) rfl ?_
            obtain ⟨r34, hr34, h⟩ := bind_ex h
            refine r_call (Lo := [Res.disk Try.prog dI p1 a1, Res.own (.slice (some ⟨b32, 0, none⟩) (List.length r1) c33) 9 .str r1]) (escrowlaw04_all_ok p0 a0 (List.getD r1 (Int.toNat s28) []) _ hr34) (by kernel_rfl) ((List.perm_middle (a := Res.disk Try.prog dI p0 a0) (l₁ := [Res.disk Try.prog dI p1 a1]) (l₂ := [Res.own (.slice (some ⟨b32, 0, none⟩) (List.length r1) c33) 9 .str r1])).trans (.cons _ (List.Perm.refl _))) rfl rfl fun _ => ?_
            refine r_nil ?_
            refine r_then ?_
            refine h_in (allis_cons (own_is 2 rfl (by omega)) allis_nil) ?_
            refine r_less [0, 1, 5, 6, 39, 40, 44] rfl ?_
            refine h_one (i := 11) (by kernel_rfl) rfl ?_
            obtain ⟨r35, hr35, h⟩ := bind_ex h
            refine r_call (Lo := [Res.disk Try.prog dI p0 a0, Res.own (.slice (some ⟨b32, 0, none⟩) (List.length r1) c33) 9 .str r1]) (escrowlaw04_all_ok p1 a1 (List.getD r1 (Int.toNat s28) []) _ hr35) (by kernel_rfl) ((List.perm_middle (a := Res.disk Try.prog dI p1 a1) (l₁ := [Res.disk Try.prog dI p0 a0]) (l₂ := [Res.own (.slice (some ⟨b32, 0, none⟩) (List.length r1) c33) 9 .str r1])).trans (.cons _ (List.Perm.refl _))) rfl rfl fun _ => ?_
            refine r_nil ?_
            refine r_then ?_
            refine h_in (allis_cons (own_is 2 rfl (by omega)) allis_nil) ?_
            refine r_less [0, 1, 5, 6, 39, 45] rfl ?_
            refine h_take (i := 12) (t := .one .bool (r34 != r35)) (blind_then (blind_block (blind_then (blind_then (blind_block (blind_then blind_body)))))) rfl (by kernel_rfl) (by kernel_rfl) (by kernel_rfl) (allis_cons (own_is 2 rfl (by omega)) allis_nil) (y_pure tabOk rfl) rfl ?_
            refine h_take (i := 13) (t := .one .bool (r34 != r35)) (blind_then (blind_block (blind_then (blind_then (blind_block (blind_then blind_body)))))) rfl (by kernel_rfl) (by kernel_rfl) (by kernel_rfl) (allis_cons (own_is 2 rfl (by omega)) allis_nil) (y_pure tabOk rfl) rfl ?_
            refine h_bcase (d := 47) (b := (r34 != r35)) rfl (fun hb => ?_) (fun hb => ?_)
            · rw [if_pos hb] at h
              refine h_skip (i := 14) (dj := 47) (blind_then (blind_block (blind_then (blind_then (blind_block (blind_then blind_body)))))) rfl (by kernel_rfl) (by kernel_rfl) (by kernel_rfl) (allis_cons (own_is 2 rfl (by omega)) allis_nil) (by kernel_rfl) rfl rfl ?_
              refine h_skip (i := 15) (dj := 47) (blind_then (blind_block (blind_then (blind_then (blind_block (blind_then blind_body)))))) rfl (by kernel_rfl) (by kernel_rfl) (by kernel_rfl) (allis_cons (own_is 2 rfl (by omega)) allis_nil) (by kernel_rfl) rfl rfl ?_
              refine h_skip (i := 16) (dj := 47) (blind_then (blind_block (blind_then (blind_then (blind_block (blind_then blind_body)))))) rfl (by kernel_rfl) (by kernel_rfl) (by kernel_rfl) (allis_cons (own_is 2 rfl (by omega)) allis_nil) (by kernel_rfl) rfl rfl ?_
              refine h_skip (i := 17) (dj := 47) (blind_then (blind_block (blind_then (blind_then (blind_block (blind_then blind_body)))))) rfl (by kernel_rfl) (by kernel_rfl) (by kernel_rfl) (allis_cons (own_is 2 rfl (by omega)) allis_nil) (by kernel_rfl) rfl rfl ?_
              refine h_skip (i := 18) (dj := 47) (blind_then (blind_block (blind_then (blind_then (blind_block (blind_then blind_body)))))) rfl (by kernel_rfl) (by kernel_rfl) (by kernel_rfl) (allis_cons (own_is 2 rfl (by omega)) allis_nil) (by kernel_rfl) rfl rfl ?_
              refine h_skip (i := 19) (dj := 47) (blind_then (blind_block (blind_then (blind_then (blind_block (blind_then blind_body)))))) rfl (by kernel_rfl) (by kernel_rfl) (by kernel_rfl) (allis_cons (own_is 2 rfl (by omega)) allis_nil) (by kernel_rfl) rfl rfl ?_
              refine h_skip (i := 20) (dj := 47) (blind_then (blind_block (blind_then (blind_then (blind_block (blind_then blind_body)))))) rfl (by kernel_rfl) (by kernel_rfl) (by kernel_rfl) (allis_cons (own_is 2 rfl (by omega)) allis_nil) (by kernel_rfl) rfl rfl ?_
              refine h_skip (i := 21) (dj := 47) (blind_then (blind_block (blind_then (blind_then (blind_block (blind_then blind_body)))))) rfl (by kernel_rfl) (by kernel_rfl) (by kernel_rfl) (allis_cons (own_is 2 rfl (by omega)) allis_nil) (by kernel_rfl) rfl rfl ?_
              refine h_skip (i := 22) (dj := 47) (blind_then (blind_block (blind_then (blind_then (blind_block (blind_then blind_body)))))) rfl (by kernel_rfl) (by kernel_rfl) (by kernel_rfl) (allis_cons (own_is 2 rfl (by omega)) allis_nil) (by kernel_rfl) rfl rfl ?_
              refine h_skip (i := 23) (dj := 47) (blind_then (blind_block (blind_then (blind_then (blind_block (blind_then blind_body)))))) rfl (by kernel_rfl) (by kernel_rfl) (by kernel_rfl) (allis_cons (own_is 2 rfl (by omega)) allis_nil) (by kernel_rfl) rfl rfl ?_
              refine h_skip (i := 24) (dj := 47) (blind_then (blind_block (blind_then (blind_then (blind_block (blind_then blind_body)))))) rfl (by kernel_rfl) (by kernel_rfl) (by kernel_rfl) (allis_cons (own_is 2 rfl (by omega)) allis_nil) (by kernel_rfl) rfl rfl ?_
              refine h_skip (i := 25) (dj := 47) (blind_then (blind_block (blind_then (blind_then (blind_block (blind_then blind_body)))))) rfl (by kernel_rfl) (by kernel_rfl) (by kernel_rfl) (allis_cons (own_is 2 rfl (by omega)) allis_nil) (by kernel_rfl) rfl rfl ?_
              refine h_skip (i := 26) (dj := 47) (blind_then (blind_block (blind_then (blind_then (blind_block (blind_then blind_body)))))) rfl (by kernel_rfl) (by kernel_rfl) (by kernel_rfl) (allis_cons (own_is 2 rfl (by omega)) allis_nil) (by kernel_rfl) rfl rfl ?_
              refine h_skip (i := 27) (dj := 47) (blind_then (blind_block (blind_then (blind_then (blind_block (blind_then blind_body)))))) rfl (by kernel_rfl) (by kernel_rfl) (by kernel_rfl) (allis_cons (own_is 2 rfl (by omega)) allis_nil) (by kernel_rfl) rfl rfl ?_
              refine h_one (i := 28) (by kernel_rfl) rfl ?_
              refine r_pure tabOk 1 [0, 1, 5, 6, 62] (E' := [(0, .one (.raw (.pointer none)) p0), (1, .one (.raw (.pointer none)) p1), (5, .one (.raw (.slice none 0 0)) (.slice (some ⟨b32, 0, none⟩) (List.length r1) c33)), (6, .one (.int .i64) s28), (62, .one .bool true)]) rfl ?_
              refine r_nil ?_
              refine r_then ?_
              refine h_in (allis_cons (own_is 2 rfl (by omega)) allis_nil) ?_
              refine r_less [0, 1, 5, 6, 62] rfl ?_
              refine h_end (by kernel_rfl) ?_
              refine r_then ?_
              refine r_if (b := true) rfl (fun hc => ?_) (fun hc => ?_)
              · refine r_seq ?_
                refine r_region ?_
                refine r_pure tabOk 1 [4] (E' := [(4, .one .bool false)]) rfl ?_
                refine r_nil ?_
                refine r_then ?_
                refine r_ret ?_
                refine t_block ?_
                refine t_then ?_
                refine t_then ?_
                refine t_block ?_
                refine t_then ?_
                obtain rfl := Option.some.inj h
                refine r_lose (L' := [Res.disk Try.prog dI p1 a1, Res.disk Try.prog dI p0 a0]) (.cons_cons _ (.cons_cons _ (.cons _ .slnil))) ?_
                refine r_perm (L' := [Res.disk Try.prog dI p0 a0, Res.disk Try.prog dI p1 a1]) ((List.perm_middle (a := Res.disk Try.prog dI p0 a0) (l₁ := [Res.disk Try.prog dI p1 a1]) (l₂ := [])).trans (.cons _ (List.Perm.refl _))) ?_
                exact r_ret1 rfl (.tmp rfl) (fun _ _ g => g) (fun _ _ _ => (.cons_cons _ (.cons_cons _ .slnil)))
              · cases hc
            · rw [if_neg (ne_true_of_eq_false hb)] at h
              refine h_takeg (i := 14) (dj := 47) (t := .one (.raw (.pointer none)) p0) (blind_then (blind_block (blind_then (blind_then (blind_block (blind_then blind_body)))))) rfl (by kernel_rfl) (by kernel_rfl) (by kernel_rfl) (allis_cons (own_is 2 rfl (by omega)) allis_nil) (by kernel_rfl) rfl (y_pure tabOk rfl) rfl ?_
              refine h_takeg (i := 15) (dj := 47) (t := .one (.raw (.slice none 0 0)) (.slice (some ⟨b32, 0, none⟩) (List.length r1) c33)) (blind_then (blind_block (blind_then (blind_then (blind_block (blind_then blind_body)))))) rfl (by kernel_rfl) (by kernel_rfl) (by kernel_rfl) (allis_cons (own_is 2 rfl (by omega)) allis_nil) (by kernel_rfl) rfl (y_pure tabOk rfl) rfl ?_
              refine h_takeg (i := 16) (dj := 47) (t := .one (.int .i64) s28) (blind_then (blind_block (blind_then (blind_then (blind_block (blind_then blind_body)))))) rfl (by kernel_rfl) (by kernel_rfl) (by kernel_rfl) (allis_cons (own_is 2 rfl (by omega)) allis_nil) (by kernel_rfl) rfl (y_pure tabOk rfl) rfl ?_
              refine h_takeg (i := 17) (dj := 47) (t := ptr b32 (0 + (Int.toNat s28) * 1)) (blind_then (blind_block (blind_then (blind_then (blind_block (blind_then blind_body)))))) rfl (by kernel_rfl) (by kernel_rfl) (by kernel_rfl) (allis_cons (own_is 2 rfl (by omega)) allis_nil) (by kernel_rfl) rfl (y_iraw tabOk rfl rfl hi31.1 hi31.2 rfl ty9) rfl ?_
              refine h_takeg (i := 18) (dj := 47) (t := .one .str (List.getD r1 (Int.toNat s28) [])) (blind_then (blind_block (blind_then (blind_then (blind_block (blind_then blind_body)))))) rfl (by kernel_rfl) (by kernel_rfl) (by kernel_rfl) (allis_cons (own_is 2 rfl (by omega)) allis_nil) (by kernel_rfl) rfl (y_heldown (S := fun w => AllIs [OwnIs b32 9 .str r1] w) (allis_at 0 rfl) 2 (Int.toNat s28) .here rfl rfl rfl (by omega) (by first | rfl | (simp only [Pth.off, T.size]; omega)) ok_here ty9) rfl ?_
              refine h_takeg (i := 20) (dj := 47) (t := .one (.raw (.pointer none)) p1) (blind_then (blind_block (blind_then (blind_then (blind_block (blind_then blind_body)))))) rfl (by kernel_rfl) (by kernel_rfl) (by kernel_rfl) (allis_cons (own_is 2 rfl (by omega)) allis_nil) (by kernel_rfl) rfl (y_pure tabOk rfl) rfl ?_
              refine h_takeg (i := 21) (dj := 47) (t := .one (.raw (.slice none 0 0)) (.slice (some ⟨b32, 0, none⟩) (List.length r1) c33)) (blind_then (blind_block (blind_then (blind_then (blind_block (blind_then blind_body)))))) rfl (by kernel_rfl) (by kernel_rfl) (by kernel_rfl) (allis_cons (own_is 2 rfl (by omega)) allis_nil) (by kernel_rfl) rfl (y_pure tabOk rfl) rfl ?_
              refine h_takeg (i := 22) (dj := 47) (t := .one (.int .i64) s28) (blind_then (blind_block (blind_then (blind_then (blind_block (blind_then blind_body)))))) rfl (by kernel_rfl) (by kernel_rfl) (by kernel_rfl) (allis_cons (own_is 2 rfl (by omega)) allis_nil) (by kernel_rfl) rfl (y_pure tabOk rfl) rfl ?_
              refine h_takeg (i := 23) (dj := 47) (t := ptr b32 (0 + (Int.toNat s28) * 1)) (blind_then (blind_block (blind_then (blind_then (blind_block (blind_then blind_body)))))) rfl (by kernel_rfl) (by kernel_rfl) (by kernel_rfl) (allis_cons (own_is 2 rfl (by omega)) allis_nil) (by kernel_rfl) rfl (y_iraw tabOk rfl rfl hi31.1 hi31.2 rfl ty9) rfl ?_
              refine h_takeg (i := 24) (dj := 47) (t := .one .str (List.getD r1 (Int.toNat s28) [])) (blind_then (blind_block (blind_then (blind_then (blind_block (blind_then blind_body)))))) rfl (by kernel_rfl) (by kernel_rfl) (by kernel_rfl) (allis_cons (own_is 2 rfl (by omega)) allis_nil) (by kernel_rfl) rfl (y_heldown (S := fun w => AllIs [OwnIs b32 9 .str r1] w) (allis_at 0 rfl) 2 (Int.toNat s28) .here rfl rfl rfl (by omega) (by first | rfl | (simp only [Pth.off, T.size]; omega)) ok_here ty9) rfl ?_
              refine h_one (i := 19) (by kernel_rfl) rfl ?_
              refine r_guard (by rfl) rfl ?_
              obtain ⟨r36, hr36, h⟩ := bind_ex h
              refine r_call (Lo := [Res.disk Try.prog dI p1 a1, Res.own (.slice (some ⟨b32, 0, none⟩) (List.length r1) c33) 9 .str r1]) (disk_Disk_Dirty_ok p0 a0 (List.getD r1 (Int.toNat s28) []) _ hr36) (by kernel_rfl) ((List.perm_middle (a := Res.disk Try.prog dI p0 a0) (l₁ := [Res.disk Try.prog dI p1 a1]) (l₂ := [Res.own (.slice (some ⟨b32, 0, none⟩) (List.length r1) c33) 9 .str r1])).trans (.cons _ (List.Perm.refl _))) rfl rfl fun v37 => ?_
              refine r_nil ?_
              refine r_then ?_
              refine h_in (allis_cons (own_is 3 rfl (by omega)) allis_nil) ?_
              refine r_less [0, 1, 5, 6, 47, 53, 54, 58] rfl ?_
              refine h_one (i := 25) (by kernel_rfl) rfl ?_
              refine r_guard (by rfl) rfl ?_
              obtain ⟨r38, hr38, h⟩ := bind_ex h
              refine r_call (Lo := [Res.disk Try.prog dI p0 a0, Res.own v37 3 (.int .i64) r36, Res.own (.slice (some ⟨b32, 0, none⟩) (List.length r1) c33) 9 .str r1]) (disk_Disk_Dirty_ok p1 a1 (List.getD r1 (Int.toNat s28) []) _ hr38) (by kernel_rfl) ((List.perm_middle (a := Res.disk Try.prog dI p1 a1) (l₁ := [Res.disk Try.prog dI p0 a0, Res.own v37 3 (.int .i64) r36]) (l₂ := [Res.own (.slice (some ⟨b32, 0, none⟩) (List.length r1) c33) 9 .str r1])).trans (.cons _ (List.Perm.refl _))) rfl rfl fun v39 => ?_
              refine r_nil ?_
              refine r_then ?_
              refine h_in (allis_cons (own_is 4 rfl (by omega)) allis_nil) ?_
              refine r_less [0, 1, 5, 6, 47, 53, 59] rfl ?_
              refine h_one (i := 26) (by kernel_rfl) rfl ?_
              refine r_guard (by rfl) rfl ?_
              refine r_freeze (i := 3) (k := 53) rfl rfl ?_
              refine r_freeze (i := 1) (k := 59) rfl rfl ?_
              obtain ⟨r40, hr40, h⟩ := bind_ex h
              refine r_calls (escrowlaw04_sameInts_ok r36 r38 _ hr40) (by kernel_rfl) rfl rfl ?_
              refine r_nil ?_
              refine r_then ?_
              refine h_in (allis_cons (own_is 2 rfl (by omega)) allis_nil) ?_
              refine r_less [0, 1, 5, 6, 47, 60] rfl ?_
              refine h_takeg (i := 27) (dj := 47) (t := .one .bool (!r40)) (blind_then (blind_block (blind_then (blind_then (blind_block (blind_then blind_body)))))) rfl (by kernel_rfl) (by kernel_rfl) (by kernel_rfl) (allis_cons (own_is 2 rfl (by omega)) allis_nil) (by kernel_rfl) rfl (y_pure tabOk rfl) rfl ?_
              refine h_one (i := 28) (by kernel_rfl) rfl ?_
              refine r_pure tabOk 1 [0, 1, 5, 6, 62] (E' := [(0, .one (.raw (.pointer none)) p0), (1, .one (.raw (.pointer none)) p1), (5, .one (.raw (.slice none 0 0)) (.slice (some ⟨b32, 0, none⟩) (List.length r1) c33)), (6, .one (.int .i64) s28), (62, .one .bool (!r40))]) rfl ?_
              refine r_nil ?_
              refine r_then ?_
              refine h_in (allis_cons (own_is 2 rfl (by omega)) allis_nil) ?_
              refine r_less [0, 1, 5, 6, 62] rfl ?_
              refine h_end (by kernel_rfl) ?_
              refine r_then ?_
              refine r_if (b := (!r40)) rfl (fun hc => ?_) (fun hc => ?_)
              · rw [if_pos hc] at h
                refine r_seq ?_
                refine r_region ?_
                refine r_pure tabOk 1 [4] (E' := [(4, .one .bool false)]) rfl ?_
                refine r_nil ?_
                refine r_then ?_
                refine r_ret ?_
                refine t_block ?_
                refine t_then ?_
                refine t_then ?_
                refine t_block ?_
                refine t_then ?_
                obtain rfl := Option.some.inj h
                refine r_lose (L' := [Res.disk Try.prog dI p1 a1, Res.disk Try.prog dI p0 a0]) (.cons_cons _ (.cons_cons _ (.cons _ .slnil))) ?_
                refine r_perm (L' := [Res.disk Try.prog dI p0 a0, Res.disk Try.prog dI p1 a1]) ((List.perm_middle (a := Res.disk Try.prog dI p0 a0) (l₁ := [Res.disk Try.prog dI p1 a1]) (l₂ := [])).trans (.cons _ (List.Perm.refl _))) ?_
                exact r_ret1 rfl (.tmp rfl) (fun _ _ g => g) (fun _ _ _ => (.cons_cons _ (.cons_cons _ .slnil)))
              · rw [if_neg (ne_true_of_eq_false hc)] at h
                refine r_skip ?_
                refine r_inblock ?_
                refine r_then ?_
                refine r_region ?_
                refine r_pure tabOk 3 [0, 1, 5, 6] (E' := [(0, .one (.raw (.pointer none)) p0), (1, .one (.raw (.pointer none)) p1), (5, .one (.raw (.slice none 0 0)) (.slice (some ⟨b32, 0, none⟩) (List.length r1) c33)), (6, .one (.int .i64) (IntKind.wrap .i64 (s28 + 1)))]) rfl ?_
                obtain ⟨i41, hi41, h⟩ := bnd_ex h
                rw [hi41]
                refine r_nil ?_
                refine r_then ?_
                refine r_less [0, 1, 5, 6] rfl ?_
                exact r_backg i41 (.slice (some ⟨b32, 0, none⟩) (List.length r1) c33) (Nat.lt_succ_self _) h rfl rfl
          · rw [if_neg (ne_true_of_eq_false hc)] at h
            refine r_exit ?_
            refine e_then ?_
            refine e_then ?_
            refine e_eq ?_
            refine r_then ?_
            refine r_less [] rfl ?_
            exact r_meetk () g29 h rfl rfl
        · intro o23 g24 h
          rw [← hk22] at h
          try dsimp only at h
          refine r_seq ?_
          refine r_region ?_
          refine r_pure tabOk 1 [4] (E' := [(4, .one .bool true)]) rfl ?_
          refine r_nil ?_
          refine r_then ?_
          refine r_ret ?_
          obtain rfl := Option.some.inj h
          refine r_lose (L' := [Res.disk Try.prog dI p1 a1, Res.disk Try.prog dI p0 a0]) (.cons_cons _ (.cons_cons _ (.cons _ .slnil))) ?_
          refine r_perm (L' := [Res.disk Try.prog dI p0 a0, Res.disk Try.prog dI p1 a1]) ((List.perm_middle (a := Res.disk Try.prog dI p0 a0) (l₁ := [Res.disk Try.prog dI p1 a1]) (l₂ := [])).trans (.cons _ (List.Perm.refl _))) ?_
          exact r_ret1 rfl (.tmp rfl) (fun _ _ g => g) (fun _ _ _ => (.cons_cons _ (.cons_cons _ .slnil)))

theorem escrowlaw04_equal_ok (p0 : Value) (p1 : Value) (a0 : DiskS) (a1 : DiskS) (r : Bool × DiskS × DiskS) (h : escrowlaw04_equal a0 a1 = some r) : Fn Try.prog 28 [.one (.raw (.pointer none)) p0, .one (.raw (.pointer none)) p1] [Res.disk Try.prog dI p0 a0, Res.disk Try.prog dI p1 a1] (fun _ => .one .bool r.1) (fun _ => [Res.disk Try.prog dI p0 r.2.1, Res.disk Try.prog dI p1 r.2.2]) := by
  unfold escrowlaw04_equal at h
  refine enter Try.func28 rfl 34 rfl rfl fun F => ?_
  refine r_seq ?_
  refine r_region ?_
  refine r_pure tabOk 1 [0, 1] (E' := [(0, .one (.raw (.pointer none)) p0), (1, .one (.raw (.pointer none)) p1)]) rfl ?_
  refine r_nil ?_
  refine r_then ?_
  refine r_seq ?_
  refine r_region ?_
  refine r_pure tabOk 1 [1, 7] (E' := [(1, .one (.raw (.pointer none)) p1), (7, .one (.raw (.pointer none)) p0)]) rfl ?_
  obtain ⟨r1, hr1, h⟩ := bind_ex h
  refine r_call (Lo := [Res.disk Try.prog dI p1 a1]) (disk_Disk_Copy_ok p0 a0 _ hr1) (by kernel_rfl) (List.Perm.refl _) rfl rfl fun v2 => ?_
  refine r_pure tabOk 1 [8, 9] (E' := [(8, .one (.raw (.pointer none)) v2), (9, .one (.raw (.pointer none)) p1)]) rfl ?_
  obtain ⟨r3, hr3, h⟩ := bind_ex h
  refine r_call (Lo := [Res.disk Try.prog dI p0 r1.2.2, Res.diskif Try.prog dI v2 r1.2.1 r1.1]) (disk_Disk_Copy_ok p1 a1 _ hr3) (by kernel_rfl) ((List.perm_middle (a := Res.disk Try.prog dI p1 a1) (l₁ := [Res.disk Try.prog dI p0 r1.2.2, Res.diskif Try.prog dI v2 r1.2.1 r1.1]) (l₂ := [])).trans (.cons _ (List.Perm.refl _))) rfl rfl fun v4 => ?_
  refine r_pure tabOk 2 [5, 6] (E' := [(5, .one (.raw (.pointer none)) v2), (6, .one (.raw (.pointer none)) v4)]) rfl ?_
  refine r_nil ?_
  refine r_then ?_
  refine r_seq ?_
  refine r_seq ?_
  refine r_region ?_
  refine r_pure tabOk 1 [5, 6, 11] (E' := [(5, .one (.raw (.pointer none)) v2), (6, .one (.raw (.pointer none)) v4), (11, .one (.raw (.pointer none)) v2)]) rfl ?_
  refine y (y_dnil 3 rfl rfl Try.underlying24) rfl ?_
  refine r_pure tabOk 1 [5, 6, 13] (E' := [(5, .one (.raw (.pointer none)) v2), (6, .one (.raw (.pointer none)) v4), (13, .one .bool (r1.1 != 0))]) rfl ?_
  obtain ⟨b5, hbb5, h⟩ := bnd_ex h
  rw [hbb5]
  refine r_lsplit (γ := Unit) 3 (fun _ => [(5, .one (.raw (.pointer none)) v2), (6, .one (.raw (.pointer none)) v4), (16, .one .bool (b5 || (r3.1 != 0)))]) (fun _ => [Res.disk Try.prog dI p1 r3.2.2, Res.diskif Try.prog dI v4 r3.2.1 r3.1, Res.disk Try.prog dI p0 r1.2.2, Res.diskif Try.prog dI v2 r1.2.1 r1.1]) ?_ (fun _ => ?_)
  · clear h
    cases b5 with
    | true =>
    refine r_pure tabOk 3 [5, 6, 16] (E' := [(5, .one (.raw (.pointer none)) v2), (6, .one (.raw (.pointer none)) v4), (16, .one .bool true)]) rfl ?_
    refine r_nil ?_
    refine r_then ?_
    exact r_meetg () rfl rfl
    | false =>
    refine r_pure tabOk 1 [5, 6, 13, 14] (E' := [(5, .one (.raw (.pointer none)) v2), (6, .one (.raw (.pointer none)) v4), (13, .one .bool false), (14, .one (.raw (.pointer none)) v4)]) rfl ?_
    refine r_guard (by rfl) rfl ?_
    refine y (y_dnil 1 rfl rfl Try.underlying24) rfl ?_
    refine r_pure tabOk 1 [5, 6, 16] (E' := [(5, .one (.raw (.pointer none)) v2), (6, .one (.raw (.pointer none)) v4), (16, .one .bool (r3.1 != 0))]) rfl ?_
    refine r_nil ?_
    refine r_then ?_
    exact r_meetg () rfl rfl
  refine r_pure tabOk 1 [5, 6, 17] (E' := [(5, .one (.raw (.pointer none)) v2), (6, .one (.raw (.pointer none)) v4), (17, .one .bool (b5 || (r3.1 != 0)))]) rfl ?_
  obtain ⟨b6, hbb6, h⟩ := bnd_ex h
  rw [hbb6]
  obtain ⟨k7, hk7, h⟩ := bnd_ex h
  refine r_lsplitk (γ := Unit) 5 (fun (o8 : Bool) _ => [(5, .one (.raw (.pointer none)) v2), (6, .one (.raw (.pointer none)) v4), (22, .one .bool o8)]) (fun _ _ => [Res.disk Try.prog dI p1 r3.2.2, Res.diskif Try.prog dI v4 r3.2.1 r3.1, Res.disk Try.prog dI p0 r1.2.2, Res.diskif Try.prog dI v2 r1.2.1 r1.1]) k7 r ?_ ?_
  · rcases Bool.eq_false_or_eq_true b6 with hh | hh
    · rw [hh] at h ⊢
      rw [if_pos rfl] at h
      refine r_pure tabOk 5 [5, 6, 22] (E' := [(5, .one (.raw (.pointer none)) v2), (6, .one (.raw (.pointer none)) v4), (22, .one .bool true)]) rfl ?_
      refine r_nil ?_
      refine r_less [5, 6, 22] rfl ?_
      refine r_then ?_
      exact r_meetk true () h rfl rfl
    · rw [hh] at h ⊢
      rw [if_neg (by decide)] at h
      refine r_pure tabOk 2 [5, 6, 17, 18, 19] (E' := [(5, .one (.raw (.pointer none)) v2), (6, .one (.raw (.pointer none)) v4), (17, .one .bool false), (18, .one (.raw (.pointer none)) v2), (19, .one (.raw (.pointer none)) v4)]) rfl ?_
      refine r_guard (by rfl) rfl ?_
      obtain ⟨he9, h⟩ := ite_ex h
      refine r_imp_at (R' := Res.disk Try.prog dI v2 r1.2.1) 3 rfl (diskif_disk he9) ?_
      obtain ⟨he10, h⟩ := ite_ex h
      refine r_imp_at (R' := Res.disk Try.prog dI v4 r3.2.1) 1 rfl (diskif_disk he10) ?_
      obtain ⟨r11, hr11, h⟩ := bind_ex h
      refine r_call (Lo := [Res.disk Try.prog dI p1 r3.2.2, Res.disk Try.prog dI p0 r1.2.2]) (escrowlaw04_seen_ok v2 v4 r1.2.1 r3.2.1 _ hr11) (by kernel_rfl) ((List.perm_middle (a := Res.disk Try.prog dI v2 r1.2.1) (l₁ := [Res.disk Try.prog dI p1 r3.2.2, Res.disk Try.prog dI v4 r3.2.1, Res.disk Try.prog dI p0 r1.2.2]) (l₂ := [])).trans (.cons _ ((List.perm_middle (a := Res.disk Try.prog dI v4 r3.2.1) (l₁ := [Res.disk Try.prog dI p1 r3.2.2]) (l₂ := [Res.disk Try.prog dI p0 r1.2.2])).trans (.cons _ (List.Perm.refl _))))) rfl rfl fun _ => ?_
      refine r_pure tabOk 2 [5, 6, 22] (E' := [(5, .one (.raw (.pointer none)) v2), (6, .one (.raw (.pointer none)) v4), (22, .one .bool (!r11))]) rfl ?_
      refine r_nil ?_
      refine r_less [5, 6, 22] rfl ?_
      refine r_imp_at (R' := Res.diskif Try.prog dI v2 r1.2.1 r1.1) 0 rfl (diskif_of he9) ?_
      refine r_imp_at (R' := Res.diskif Try.prog dI v4 r3.2.1 r3.1) 1 rfl (diskif_of he10) ?_
      refine r_perm (L' := [Res.disk Try.prog dI p1 r3.2.2, Res.diskif Try.prog dI v4 r3.2.1 r3.1, Res.disk Try.prog dI p0 r1.2.2, Res.diskif Try.prog dI v2 r1.2.1 r1.1]) ((List.perm_middle (a := Res.disk Try.prog dI p1 r3.2.2) (l₁ := [Res.diskif Try.prog dI v2 r1.2.1 r1.1, Res.diskif Try.prog dI v4 r3.2.1 r3.1]) (l₂ := [Res.disk Try.prog dI p0 r1.2.2])).trans (.cons _ ((List.perm_middle (a := Res.diskif Try.prog dI v4 r3.2.1 r3.1) (l₁ := [Res.diskif Try.prog dI v2 r1.2.1 r1.1]) (l₂ := [Res.disk Try.prog dI p0 r1.2.2])).trans (.cons _ ((List.perm_middle (a := Res.disk Try.prog dI p0 r1.2.2) (l₁ := [Res.diskif Try.prog dI v2 r1.2.1 r1.1]) (l₂ := [])).trans (.cons _ (List.Perm.refl _))))))) ?_
      refine r_then ?_
      exact r_meetk (!r11) () h rfl rfl
  · intro o8 _ h
    rw [← hk7] at h
    try dsimp only at h
    refine r_nil ?_
    refine r_then ?_
    refine r_if (b := o8) rfl (fun hc => ?_) (fun hc => ?_)
    · rw [if_pos hc] at h
      refine r_seq ?_
      refine r_region ?_
      refine r_pure tabOk 1 [4] (E' := [(4, .one .bool false)]) rfl ?_
      refine r_nil ?_
      refine r_then ?_
      refine r_ret ?_
      refine t_then ?_
      obtain rfl := Option.some.inj h
      refine r_lose (L' := [Res.disk Try.prog dI p1 r3.2.2, Res.disk Try.prog dI p0 r1.2.2]) (.cons_cons _ (.cons _ (.cons_cons _ (.cons _ .slnil)))) ?_
      refine r_perm (L' := [Res.disk Try.prog dI p0 r1.2.2, Res.disk Try.prog dI p1 r3.2.2]) ((List.perm_middle (a := Res.disk Try.prog dI p0 r1.2.2) (l₁ := [Res.disk Try.prog dI p1 r3.2.2]) (l₂ := [])).trans (.cons _ (List.Perm.refl _))) ?_
      exact r_ret1 rfl (.tmp rfl) (fun _ _ g => g) (fun _ _ _ => (.cons_cons _ (.cons_cons _ .slnil)))
    · rw [if_neg (ne_true_of_eq_false hc)] at h
      refine r_skip ?_
      refine r_then ?_
      refine r_seq ?_
      refine r_region ?_
      refine r_pure tabOk 1 [5, 6, 23] (E' := [(5, .one (.raw (.pointer none)) v2), (6, .one (.raw (.pointer none)) v4), (23, .one (.raw (.pointer none)) v2)]) rfl ?_
      obtain ⟨he12, h⟩ := ite_ex h
      refine r_imp_at (R' := Res.disk Try.prog dI v2 r1.2.1) 3 rfl (diskif_disk he12) ?_
      obtain ⟨r13, hr13, h⟩ := bind_ex h
      refine r_calla (Lo := [Res.disk Try.prog dI p1 r3.2.2, Res.diskif Try.prog dI v4 r3.2.1 r3.1, Res.disk Try.prog dI p0 r1.2.2]) (disk_Disk_Crash_ok v2 r1.2.1 [] _ hr13) (by kernel_rfl) ((List.perm_middle (a := Res.disk Try.prog dI v2 r1.2.1) (l₁ := [Res.disk Try.prog dI p1 r3.2.2, Res.diskif Try.prog dI v4 r3.2.1 r3.1, Res.disk Try.prog dI p0 r1.2.2]) (l₂ := [])).trans (.cons _ (List.Perm.refl _))) (.val rfl (.nilsl .nil)) rfl fun _ => ?_
      refine r_nil ?_
      refine r_then ?_
      refine r_seq ?_
      refine r_region ?_
      refine r_pure tabOk 1 [5, 6, 25] (E' := [(5, .one (.raw (.pointer none)) v2), (6, .one (.raw (.pointer none)) v4), (25, .one (.raw (.pointer none)) v4)]) rfl ?_
      obtain ⟨he14, h⟩ := ite_ex h
      refine r_imp_at (R' := Res.disk Try.prog dI v4 r3.2.1) 2 rfl (diskif_disk he14) ?_
      obtain ⟨r15, hr15, h⟩ := bind_ex h
      refine r_calla (Lo := [Res.disk Try.prog dI v2 r13, Res.disk Try.prog dI p1 r3.2.2, Res.disk Try.prog dI p0 r1.2.2]) (disk_Disk_Crash_ok v4 r3.2.1 [] _ hr15) (by kernel_rfl) ((List.perm_middle (a := Res.disk Try.prog dI v4 r3.2.1) (l₁ := [Res.disk Try.prog dI v2 r13, Res.disk Try.prog dI p1 r3.2.2]) (l₂ := [Res.disk Try.prog dI p0 r1.2.2])).trans (.cons _ (List.Perm.refl _))) (.val rfl (.nilsl .nil)) rfl fun _ => ?_
      refine r_nil ?_
      refine r_then ?_
      refine r_seq ?_
      refine r_region ?_
      refine r_pure tabOk 1 [5, 6, 27] (E' := [(5, .one (.raw (.pointer none)) v2), (6, .one (.raw (.pointer none)) v4), (27, .one (.raw (.pointer none)) v2)]) rfl ?_
      obtain ⟨r16, hr16, h⟩ := bind_ex h
      refine r_call (Lo := [Res.disk Try.prog dI v4 r15, Res.disk Try.prog dI p1 r3.2.2, Res.disk Try.prog dI p0 r1.2.2]) (disk_Disk_On_ok v2 r13 _ hr16) (by kernel_rfl) ((List.perm_middle (a := Res.disk Try.prog dI v2 r13) (l₁ := [Res.disk Try.prog dI v4 r15]) (l₂ := [Res.disk Try.prog dI p1 r3.2.2, Res.disk Try.prog dI p0 r1.2.2])).trans (.cons _ (List.Perm.refl _))) rfl rfl fun _ => ?_
      refine r_nil ?_
      refine r_then ?_
      refine r_seq ?_
      refine r_region ?_
      refine r_pure tabOk 1 [5, 6, 29] (E' := [(5, .one (.raw (.pointer none)) v2), (6, .one (.raw (.pointer none)) v4), (29, .one (.raw (.pointer none)) v4)]) rfl ?_
      obtain ⟨r17, hr17, h⟩ := bind_ex h
      refine r_call (Lo := [Res.disk Try.prog dI v2 r16, Res.disk Try.prog dI p1 r3.2.2, Res.disk Try.prog dI p0 r1.2.2]) (disk_Disk_On_ok v4 r15 _ hr17) (by kernel_rfl) ((List.perm_middle (a := Res.disk Try.prog dI v4 r15) (l₁ := [Res.disk Try.prog dI v2 r16]) (l₂ := [Res.disk Try.prog dI p1 r3.2.2, Res.disk Try.prog dI p0 r1.2.2])).trans (.cons _ (List.Perm.refl _))) rfl rfl fun _ => ?_
      refine r_nil ?_
      refine r_then ?_
      refine r_seq ?_
      refine r_region ?_
      refine r_pure tabOk 2 [31, 32] (E' := [(31, .one (.raw (.pointer none)) v2), (32, .one (.raw (.pointer none)) v4)]) rfl ?_
      obtain ⟨r18, hr18, h⟩ := bind_ex h
      refine r_call (Lo := [Res.disk Try.prog dI p1 r3.2.2, Res.disk Try.prog dI p0 r1.2.2]) (escrowlaw04_seen_ok v2 v4 r16 r17 _ hr18) (by kernel_rfl) ((List.perm_middle (a := Res.disk Try.prog dI v2 r16) (l₁ := [Res.disk Try.prog dI v4 r17]) (l₂ := [Res.disk Try.prog dI p1 r3.2.2, Res.disk Try.prog dI p0 r1.2.2])).trans (.cons _ (List.Perm.refl _))) rfl rfl fun _ => ?_
      refine r_pure tabOk 1 [4] (E' := [(4, .one .bool r18)]) rfl ?_
      refine r_nil ?_
      refine r_then ?_
      refine r_ret ?_
      obtain rfl := Option.some.inj h
      refine r_lose (L' := [Res.disk Try.prog dI p1 r3.2.2, Res.disk Try.prog dI p0 r1.2.2]) (.cons _ (.cons _ (.cons_cons _ (.cons_cons _ .slnil)))) ?_
      refine r_perm (L' := [Res.disk Try.prog dI p0 r1.2.2, Res.disk Try.prog dI p1 r3.2.2]) ((List.perm_middle (a := Res.disk Try.prog dI p0 r1.2.2) (l₁ := [Res.disk Try.prog dI p1 r3.2.2]) (l₂ := [])).trans (.cons _ (List.Perm.refl _))) ?_
      exact r_ret1 rfl (.tmp rfl) (fun _ _ g => g) (fun _ _ _ => (.cons_cons _ (.cons_cons _ .slnil)))

theorem escrowlaw04_member_ok (a0 : List (Int)) (a1 : Int) (r : Bool) (h : escrowlaw04_member a0 a1 = some r) : Pure Try.prog 26 [.one (.sl 3 (.int .i64)) a0, .one (.int .i64) a1] (.one .bool r) := by
  unfold escrowlaw04_member at h
  refine enter Try.func26 rfl 18 rfl rfl fun F => ?_
  refine r_seq ?_
  refine r_region ?_
  refine r_pure tabOk 1 [0, 1] (E' := [(0, .one (.sl 3 (.int .i64)) a0), (1, .one (.int .i64) a1)]) rfl ?_
  refine r_nil ?_
  refine r_then ?_
  obtain ⟨k1, hk1, h⟩ := bnd_ex h
  refine r_joink (γ := Unit) (fun (o2 : Unit) _ => []) (fun (o2 : Unit) _ => []) k1 r ?_ ?_
  · refine r_seq ?_
    refine r_region ?_
    refine r_pure tabOk 1 [0, 1, 5] (E' := [(0, .one (.sl 3 (.int .i64)) a0), (1, .one (.int .i64) a1), (5, .one (.int .i64) 0)]) rfl ?_
    refine r_nil ?_
    refine r_then ?_
    refine r_block ?_
    refine r_less [0, 1, 5] rfl ?_
    refine r_loopg (γ := Unit) (fun (s4 : Int) _ => [(0, .one (.sl 3 (.int .i64)) a0), (1, .one (.int .i64) a1), (5, .one (.int .i64) s4)]) (fun (s4 : Int) _ => []) (escrowlaw04_member_l0 a0 a1 k1) 0 () h rfl rfl ?_
    clear h
    intro m5 s4 gg h
    cases m5 with
    | zero => cases h
    | succ m5 =>
    simp only [escrowlaw04_member_l0] at h
    refine r_seq ?_
    refine r_seq ?_
    refine r_region ?_
    refine r_pure tabOk 4 [0, 1, 5, 9] (E' := [(0, .one (.sl 3 (.int .i64)) a0), (1, .one (.int .i64) a1), (5, .one (.int .i64) s4), (9, .one .bool (decide (s4 < (List.length a0 : Int))))]) rfl ?_
    refine r_nil ?_
    refine r_then ?_
    refine r_if (b := (decide (s4 < (List.length a0 : Int)))) rfl (fun hc => ?_) (fun hc => ?_)
    · rw [if_pos hc] at h
      refine r_skip ?_
      refine r_then ?_
      refine r_seq ?_
      refine r_block ?_
      refine r_seq ?_
      refine r_region ?_
      refine r_pure tabOk 2 [0, 1, 5, 12, 13] (E' := [(0, .one (.sl 3 (.int .i64)) a0), (1, .one (.int .i64) a1), (5, .one (.int .i64) s4), (12, .one (.sl 3 (.int .i64)) a0), (13, .one (.int .i64) s4)]) rfl ?_
      obtain ⟨hc, h⟩ := ite_ex h
      refine y (y_iref tabOk rfl rfl hc.1 hc.2 rfl ty3) rfl ?_
      refine y (y_ref rfl ty3) rfl ?_
      refine r_pure tabOk 2 [0, 1, 5, 17] (E' := [(0, .one (.sl 3 (.int .i64)) a0), (1, .one (.int .i64) a1), (5, .one (.int .i64) s4), (17, .one .bool ((List.getD a0 (Int.toNat s4) 0) == a1))]) rfl ?_
      refine r_nil ?_
      refine r_then ?_
      refine r_if (b := ((List.getD a0 (Int.toNat s4) 0) == a1)) rfl (fun hc => ?_) (fun hc => ?_)
      · rw [if_pos hc] at h
        refine r_seq ?_
        refine r_region ?_
        refine r_pure tabOk 1 [4] (E' := [(4, .one .bool true)]) rfl ?_
        refine r_nil ?_
        refine r_then ?_
        refine r_ret ?_
        refine t_block ?_
        refine t_then ?_
        refine t_then ?_
        refine t_block ?_
        refine t_then ?_
        obtain rfl := Option.some.inj h
        exact r_ret1 rfl (.tmp rfl) (fun _ _ g => g) (fun _ _ _ => List.nil_sublist _)
      · rw [if_neg (ne_true_of_eq_false hc)] at h
        refine r_skip ?_
        refine r_inblock ?_
        refine r_then ?_
        refine r_region ?_
        refine r_pure tabOk 3 [0, 1, 5] (E' := [(0, .one (.sl 3 (.int .i64)) a0), (1, .one (.int .i64) a1), (5, .one (.int .i64) (IntKind.wrap .i64 (s4 + 1)))]) rfl ?_
        obtain ⟨i6, hi6, h⟩ := bnd_ex h
        rw [hi6]
        refine r_nil ?_
        refine r_then ?_
        refine r_less [0, 1, 5] rfl ?_
        exact r_backg i6 () (Nat.lt_succ_self _) h rfl rfl
    · rw [if_neg (ne_true_of_eq_false hc)] at h
      refine r_exit ?_
      refine e_then ?_
      refine e_then ?_
      refine e_eq ?_
      refine r_then ?_
      refine r_less [] rfl ?_
      exact r_meetk () () h rfl rfl
  · intro o2 gg h
    rw [← hk1] at h
    try dsimp only at h
    refine r_seq ?_
    refine r_region ?_
    refine r_pure tabOk 1 [4] (E' := [(4, .one .bool false)]) rfl ?_
    refine r_nil ?_
    refine r_then ?_
    refine r_ret ?_
    obtain rfl := Option.some.inj h
    exact r_ret1 rfl (.tmp rfl) (fun _ _ g => g) (fun _ _ _ => List.nil_sublist _)

theorem escrowlaw04_fallen_ok (p0 : Value) (a0 : DiskS) (a1 : Int) (r : Bool × DiskS) (h : escrowlaw04_fallen a0 a1 = some r) : Fn Try.prog 31 [.one (.raw (.pointer none)) p0, .one (.int .i64) a1] [Res.disk Try.prog dI p0 a0] (fun _ => .one .bool r.1) (fun _ => [Res.disk Try.prog dI p0 r.2]) := by
  unfold escrowlaw04_fallen at h
  refine enter Try.func31 rfl 97 rfl rfl fun F => ?_
  refine r_seq ?_
  refine r_region ?_
  refine r_pure tabOk 1 [0, 1] (E' := [(0, .one (.raw (.pointer none)) p0), (1, .one (.int .i64) a1)]) rfl ?_
  refine r_nil ?_
  refine r_then ?_
  refine r_seq ?_
  refine r_region ?_
  refine r_pure tabOk 3 [0, 1, 9, 11] (E' := [(0, .one (.raw (.pointer none)) p0), (1, .one (.int .i64) a1), (9, .one (.raw (.pointer none)) p0), (11, .one (.int .i64) (IntKind.wrap .i64 (a1 + 1)))]) rfl ?_
  obtain ⟨r1, hr1, h⟩ := bind_ex h
  refine r_call (Lo := []) (disk_Disk_Fall_ok p0 a0 (IntKind.wrap .i64 (a1 + 1)) _ hr1) (by kernel_rfl) (List.Perm.refl _) rfl rfl fun _ => ?_
  refine r_nil ?_
  refine r_then ?_
  obtain ⟨k2, hk2, h⟩ := bnd_ex h
  refine r_joink (γ := Unit) (fun (o3 : DiskS) _ => [(0, .one (.raw (.pointer none)) p0), (1, .one (.int .i64) a1)]) (fun (o3 : DiskS) _ => [Res.disk Try.prog dI p0 o3]) k2 r ?_ ?_
  · refine r_seq ?_
    refine r_region ?_
    refine r_pure tabOk 1 [0, 1, 5] (E' := [(0, .one (.raw (.pointer none)) p0), (1, .one (.int .i64) a1), (5, .one (.int .i64) 0)]) rfl ?_
    refine r_nil ?_
    refine r_then ?_
    refine r_block ?_
    refine r_less [0, 1, 5] rfl ?_
    refine r_loopg (γ := Unit) (fun (s44 : Int × DiskS) _ => [(0, .one (.raw (.pointer none)) p0), (1, .one (.int .i64) a1), (5, .one (.int .i64) s44.1)]) (fun (s44 : Int × DiskS) _ => [Res.disk Try.prog dI p0 s44.2]) (escrowlaw04_fallen_l0 a1 k2) (0, r1) () h rfl rfl ?_
    clear h
    intro m45 s44 gg h
    cases m45 with
    | zero => cases h
    | succ m45 =>
    simp only [escrowlaw04_fallen_l0] at h
    refine r_seq ?_
    refine r_seq ?_
    refine r_region ?_
    refine r_pure tabOk 3 [0, 1, 5, 15] (E' := [(0, .one (.raw (.pointer none)) p0), (1, .one (.int .i64) a1), (5, .one (.int .i64) s44.1), (15, .one .bool (decide (s44.1 ≤ a1)))]) rfl ?_
    refine r_nil ?_
    refine r_then ?_
    refine r_if (b := (decide (s44.1 ≤ a1))) rfl (fun hc => ?_) (fun hc => ?_)
    · rw [if_pos hc] at h
      refine r_skip ?_
      refine r_then ?_
      refine r_seq ?_
      refine r_block ?_
      refine r_seq ?_
      refine r_region ?_
      refine r_pure tabOk 1 [0, 1, 5, 18] (E' := [(0, .one (.raw (.pointer none)) p0), (1, .one (.int .i64) a1), (5, .one (.int .i64) s44.1), (18, .one (.raw (.pointer none)) p0)]) rfl ?_
      obtain ⟨r46, hr46, h⟩ := bind_ex h
      refine r_call (Lo := []) (disk_Disk_Write_ok p0 s44.2 [97, 114, 109, 101, 100] 0 [53] _ hr46) (by kernel_rfl) (List.Perm.refl _) rfl rfl fun _ => ?_
      refine r_pure tabOk 1 [0, 1, 5, 6] (E' := [(0, .one (.raw (.pointer none)) p0), (1, .one (.int .i64) a1), (5, .one (.int .i64) s44.1), (6, .one (.int .i64) r46.1)]) rfl ?_
      refine r_nil ?_
      refine r_then ?_
      refine r_seq ?_
      refine r_region ?_
      refine r_pure tabOk 5 [0, 1, 5, 6, 21, 24] (E' := [(0, .one (.raw (.pointer none)) p0), (1, .one (.int .i64) a1), (5, .one (.int .i64) s44.1), (6, .one (.int .i64) r46.1), (21, .one .bool (r46.1 == 0)), (24, .one .bool (decide (s44.1 < a1)))]) rfl ?_
      refine y (y_bne rfl rfl Try.underlying4) rfl ?_
      refine r_pure tabOk 1 [0, 1, 5, 6, 26] (E' := [(0, .one (.raw (.pointer none)) p0), (1, .one (.int .i64) a1), (5, .one (.int .i64) s44.1), (6, .one (.int .i64) r46.1), (26, .one .bool ((r46.1 == 0) != (decide (s44.1 < a1))))]) rfl ?_
      obtain ⟨b47, hbb47, h⟩ := bnd_ex h
      rw [hbb47]
      obtain ⟨k48, hk48, h⟩ := bnd_ex h
      refine r_lsplitk (γ := Unit) 7 (fun (o49 : Bool) _ => [(0, .one (.raw (.pointer none)) p0), (1, .one (.int .i64) a1), (5, .one (.int .i64) s44.1), (33, .one .bool o49)]) (fun _ _ => [Res.disk Try.prog dI p0 r46.2]) k48 r ?_ ?_
      · rcases Bool.eq_false_or_eq_true b47 with hh | hh
        · rw [hh] at h ⊢
          rw [if_pos rfl] at h
          refine r_pure tabOk 7 [0, 1, 5, 33] (E' := [(0, .one (.raw (.pointer none)) p0), (1, .one (.int .i64) a1), (5, .one (.int .i64) s44.1), (33, .one .bool true)]) rfl ?_
          refine r_nil ?_
          refine r_less [0, 1, 5, 33] rfl ?_
          refine r_then ?_
          exact r_meetk true () h rfl rfl
        · rw [hh] at h ⊢
          rw [if_neg (by decide)] at h
          refine r_pure tabOk 3 [0, 1, 5, 6, 26, 29] (E' := [(0, .one (.raw (.pointer none)) p0), (1, .one (.int .i64) a1), (5, .one (.int .i64) s44.1), (6, .one (.int .i64) r46.1), (26, .one .bool false), (29, .one .bool (r46.1 != 0))]) rfl ?_
          obtain ⟨b50, hbb50, h⟩ := bnd_ex h
          rw [hbb50]
          refine r_lsplit (γ := Unit) 3 (fun _ => [(0, .one (.raw (.pointer none)) p0), (1, .one (.int .i64) a1), (5, .one (.int .i64) s44.1), (26, .one .bool false), (32, .one .bool (b50 && (r46.1 != 9)))]) (fun _ => [Res.disk Try.prog dI p0 r46.2]) ?_ (fun _ => ?_)
          · clear h
            cases b50 with
            | true =>
            refine r_pure tabOk 3 [0, 1, 5, 26, 32] (E' := [(0, .one (.raw (.pointer none)) p0), (1, .one (.int .i64) a1), (5, .one (.int .i64) s44.1), (26, .one .bool false), (32, .one .bool (r46.1 != 9))]) rfl ?_
            refine r_nil ?_
            refine r_then ?_
            exact r_meetg () rfl rfl
            | false =>
            refine r_pure tabOk 3 [0, 1, 5, 26, 32] (E' := [(0, .one (.raw (.pointer none)) p0), (1, .one (.int .i64) a1), (5, .one (.int .i64) s44.1), (26, .one .bool false), (32, .one .bool false)]) rfl ?_
            refine r_nil ?_
            refine r_then ?_
            exact r_meetg () rfl rfl
          refine r_pure tabOk 1 [0, 1, 5, 33] (E' := [(0, .one (.raw (.pointer none)) p0), (1, .one (.int .i64) a1), (5, .one (.int .i64) s44.1), (33, .one .bool (b50 && (r46.1 != 9)))]) rfl ?_
          refine r_nil ?_
          refine r_less [0, 1, 5, 33] rfl ?_
          refine r_then ?_
          exact r_meetk (b50 && (r46.1 != 9)) () h rfl rfl
      · intro o49 _ h
        rw [← hk48] at h
        try dsimp only at h
        refine r_pure tabOk 1 [0, 1, 5, 34] (E' := [(0, .one (.raw (.pointer none)) p0), (1, .one (.int .i64) a1), (5, .one (.int .i64) s44.1), (34, .one .bool o49)]) rfl ?_
        obtain ⟨k52, hk52, h⟩ := bnd_ex h
        refine r_lsplitk (γ := Unit) 7 (fun (o53 : Bool) _ => [(0, .one (.raw (.pointer none)) p0), (1, .one (.int .i64) a1), (5, .one (.int .i64) s44.1), (41, .one .bool o53)]) (fun _ _ => [Res.disk Try.prog dI p0 r46.2]) k52 r ?_ ?_
        · rcases Bool.eq_false_or_eq_true o49 with hh | hh
          · rw [hh] at h ⊢
            rw [if_pos rfl] at h
            refine r_pure tabOk 7 [0, 1, 5, 41] (E' := [(0, .one (.raw (.pointer none)) p0), (1, .one (.int .i64) a1), (5, .one (.int .i64) s44.1), (41, .one .bool true)]) rfl ?_
            refine r_nil ?_
            refine r_less [0, 1, 5, 41] rfl ?_
            refine r_then ?_
            exact r_meetk true () h rfl rfl
          · rw [hh] at h ⊢
            rw [if_neg (by decide)] at h
            refine r_pure tabOk 1 [0, 1, 5, 34, 35] (E' := [(0, .one (.raw (.pointer none)) p0), (1, .one (.int .i64) a1), (5, .one (.int .i64) s44.1), (34, .one .bool false), (35, .one (.raw (.pointer none)) p0)]) rfl ?_
            refine r_guard (by rfl) rfl ?_
            obtain ⟨r54, hr54, h⟩ := bind_ex h
            refine r_call (Lo := []) (disk_Disk_Off_ok p0 r46.2 _ hr54) (by kernel_rfl) (List.Perm.refl _) rfl rfl fun _ => ?_
            refine r_pure tabOk 3 [0, 1, 5, 34, 36, 39] (E' := [(0, .one (.raw (.pointer none)) p0), (1, .one (.int .i64) a1), (5, .one (.int .i64) s44.1), (34, .one .bool false), (36, .one .bool r54), (39, .one .bool (s44.1 == a1))]) rfl ?_
            refine r_guard (by rfl) rfl ?_
            refine y (y_bne rfl rfl Try.underlying4) rfl ?_
            refine r_pure tabOk 1 [0, 1, 5, 41] (E' := [(0, .one (.raw (.pointer none)) p0), (1, .one (.int .i64) a1), (5, .one (.int .i64) s44.1), (41, .one .bool (r54 != (s44.1 == a1)))]) rfl ?_
            refine r_nil ?_
            refine r_less [0, 1, 5, 41] rfl ?_
            refine r_then ?_
            exact r_meetk (r54 != (s44.1 == a1)) () h rfl rfl
        · intro o53 _ h
          rw [← hk52] at h
          try dsimp only at h
          refine r_nil ?_
          refine r_then ?_
          refine r_if (b := o53) rfl (fun hc => ?_) (fun hc => ?_)
          · rw [if_pos hc] at h
            refine r_seq ?_
            refine r_region ?_
            refine r_pure tabOk 1 [4] (E' := [(4, .one .bool false)]) rfl ?_
            refine r_nil ?_
            refine r_then ?_
            refine r_ret ?_
            refine t_block ?_
            refine t_then ?_
            refine t_then ?_
            refine t_block ?_
            refine t_then ?_
            obtain rfl := Option.some.inj h
            exact r_ret1 rfl (.tmp rfl) (fun _ _ g => g) (fun _ _ _ => (.cons_cons _ .slnil))
          · rw [if_neg (ne_true_of_eq_false hc)] at h
            refine r_skip ?_
            refine r_inblock ?_
            refine r_then ?_
            refine r_region ?_
            refine r_pure tabOk 3 [0, 1, 5] (E' := [(0, .one (.raw (.pointer none)) p0), (1, .one (.int .i64) a1), (5, .one (.int .i64) (IntKind.wrap .i64 (s44.1 + 1)))]) rfl ?_
            obtain ⟨i55, hi55, h⟩ := bnd_ex h
            rw [hi55]
            refine r_nil ?_
            refine r_then ?_
            refine r_less [0, 1, 5] rfl ?_
            exact r_backg (i55, r46.2) () (Nat.lt_succ_self _) h rfl rfl
    · rw [if_neg (ne_true_of_eq_false hc)] at h
      refine r_exit ?_
      refine e_then ?_
      refine e_then ?_
      refine e_eq ?_
      refine r_then ?_
      refine r_less [0, 1] rfl ?_
      exact r_meetk s44.2 () h rfl rfl
  · intro o3 gg h
    rw [← hk2] at h
    try dsimp only at h
    refine r_seq ?_
    refine r_region ?_
    refine r_pure tabOk 1 [0, 1, 42] (E' := [(0, .one (.raw (.pointer none)) p0), (1, .one (.int .i64) a1), (42, .one (.raw (.pointer none)) p0)]) rfl ?_
    obtain ⟨r4, hr4, h⟩ := bind_ex h
    refine r_call (Lo := []) (disk_Disk_Copy_ok p0 o3 _ hr4) (by kernel_rfl) (List.Perm.refl _) rfl rfl fun v5 => ?_
    refine r_pure tabOk 1 [0, 1, 7] (E' := [(0, .one (.raw (.pointer none)) p0), (1, .one (.int .i64) a1), (7, .one (.raw (.pointer none)) v5)]) rfl ?_
    refine r_nil ?_
    refine r_then ?_
    refine r_seq ?_
    refine r_seq ?_
    refine r_region ?_
    refine r_pure tabOk 1 [0, 1, 7, 44] (E' := [(0, .one (.raw (.pointer none)) p0), (1, .one (.int .i64) a1), (7, .one (.raw (.pointer none)) v5), (44, .one (.raw (.pointer none)) v5)]) rfl ?_
    refine y (y_dnil 1 rfl rfl Try.underlying24) rfl ?_
    refine r_pure tabOk 1 [0, 1, 7, 46] (E' := [(0, .one (.raw (.pointer none)) p0), (1, .one (.int .i64) a1), (7, .one (.raw (.pointer none)) v5), (46, .one .bool (r4.1 != 0))]) rfl ?_
    obtain ⟨b6, hbb6, h⟩ := bnd_ex h
    rw [hbb6]
    obtain ⟨k7, hk7, h⟩ := bnd_ex h
    refine r_lsplitk (γ := Unit) 4 (fun (o8 : Bool × DiskS) _ => [(0, .one (.raw (.pointer none)) p0), (1, .one (.int .i64) a1), (7, .one (.raw (.pointer none)) v5), (50, .one .bool o8.1)]) (fun (o8 : Bool × DiskS) _ => [Res.disk Try.prog dI p0 o8.2, Res.diskif Try.prog dI v5 r4.2.1 r4.1]) k7 r ?_ ?_
    · rcases Bool.eq_false_or_eq_true b6 with hh | hh
      · rw [hh] at h ⊢
        rw [if_pos rfl] at h
        refine r_pure tabOk 4 [0, 1, 7, 50] (E' := [(0, .one (.raw (.pointer none)) p0), (1, .one (.int .i64) a1), (7, .one (.raw (.pointer none)) v5), (50, .one .bool true)]) rfl ?_
        refine r_nil ?_
        refine r_less [0, 1, 7, 50] rfl ?_
        refine r_then ?_
        exact r_meetk (true, r4.2.2) () h rfl rfl
      · rw [hh] at h ⊢
        rw [if_neg (by decide)] at h
        refine r_pure tabOk 1 [0, 1, 7, 46, 47] (E' := [(0, .one (.raw (.pointer none)) p0), (1, .one (.int .i64) a1), (7, .one (.raw (.pointer none)) v5), (46, .one .bool false), (47, .one (.raw (.pointer none)) p0)]) rfl ?_
        refine r_guard (by rfl) rfl ?_
        obtain ⟨r9, hr9, h⟩ := bind_ex h
        refine r_call (Lo := [Res.diskif Try.prog dI v5 r4.2.1 r4.1]) (disk_Disk_Sync_ok p0 r4.2.2 [97, 114, 109, 101, 100] _ hr9) (by kernel_rfl) (List.Perm.refl _) rfl rfl fun _ => ?_
        refine r_pure tabOk 2 [0, 1, 7, 50] (E' := [(0, .one (.raw (.pointer none)) p0), (1, .one (.int .i64) a1), (7, .one (.raw (.pointer none)) v5), (50, .one .bool (r9.1 != 9))]) rfl ?_
        refine r_nil ?_
        refine r_less [0, 1, 7, 50] rfl ?_
        refine r_then ?_
        exact r_meetk ((r9.1 != 9), r9.2) () h rfl rfl
    · intro o8 _ h
      rw [← hk7] at h
      try dsimp only at h
      refine r_pure tabOk 1 [0, 1, 7, 51] (E' := [(0, .one (.raw (.pointer none)) p0), (1, .one (.int .i64) a1), (7, .one (.raw (.pointer none)) v5), (51, .one .bool o8.1)]) rfl ?_
      obtain ⟨k11, hk11, h⟩ := bnd_ex h
      refine r_lsplitk (γ := Unit) 5 (fun (o12 : Bool) _ => [(0, .one (.raw (.pointer none)) p0), (1, .one (.int .i64) a1), (7, .one (.raw (.pointer none)) v5), (56, .one .bool o12)]) (fun _ _ => [Res.disk Try.prog dI p0 o8.2, Res.diskif Try.prog dI v5 r4.2.1 r4.1]) k11 r ?_ ?_
      · rcases Bool.eq_false_or_eq_true o8.1 with hh | hh
        · rw [hh] at h ⊢
          rw [if_pos rfl] at h
          refine r_pure tabOk 5 [0, 1, 7, 56] (E' := [(0, .one (.raw (.pointer none)) p0), (1, .one (.int .i64) a1), (7, .one (.raw (.pointer none)) v5), (56, .one .bool true)]) rfl ?_
          refine r_nil ?_
          refine r_less [0, 1, 7, 56] rfl ?_
          refine r_then ?_
          exact r_meetk true () h rfl rfl
        · rw [hh] at h ⊢
          rw [if_neg (by decide)] at h
          refine r_pure tabOk 1 [0, 1, 7, 51, 52] (E' := [(0, .one (.raw (.pointer none)) p0), (1, .one (.int .i64) a1), (7, .one (.raw (.pointer none)) v5), (51, .one .bool false), (52, .one (.raw (.pointer none)) p0)]) rfl ?_
          refine r_guard (by rfl) rfl ?_
          obtain ⟨r13, hr13, h⟩ := bind_ex h
          refine r_call (Lo := [Res.diskif Try.prog dI v5 r4.2.1 r4.1]) (disk_Disk_List_ok p0 o8.2 _ hr13) (by kernel_rfl) (List.Perm.refl _) rfl rfl fun v14 => ?_
          refine r_guard (by rfl) rfl ?_
          refine y (y_lenown tabOk 1 rfl rfl rfl) rfl ?_
          refine r_pure tabOk 2 [0, 1, 7, 56] (E' := [(0, .one (.raw (.pointer none)) p0), (1, .one (.int .i64) a1), (7, .one (.raw (.pointer none)) v5), (56, .one .bool ((List.length r13 : Int) != 0))]) rfl ?_
          refine r_nil ?_
          refine r_less [0, 1, 7, 56] rfl ?_
          refine r_lose (L' := [Res.disk Try.prog dI p0 o8.2, Res.diskif Try.prog dI v5 r4.2.1 r4.1]) (.cons_cons _ (.cons _ (.cons_cons _ .slnil))) ?_
          refine r_then ?_
          exact r_meetk ((List.length r13 : Int) != 0) () h rfl rfl
      · intro o12 _ h
        rw [← hk11] at h
        try dsimp only at h
        refine r_nil ?_
        refine r_then ?_
        refine r_if (b := o12) rfl (fun hc => ?_) (fun hc => ?_)
        · rw [if_pos hc] at h
          refine r_seq ?_
          refine r_region ?_
          refine r_pure tabOk 1 [4] (E' := [(4, .one .bool false)]) rfl ?_
          refine r_nil ?_
          refine r_then ?_
          refine r_ret ?_
          refine t_then ?_
          obtain rfl := Option.some.inj h
          exact r_ret1 rfl (.tmp rfl) (fun _ _ g => g) (fun _ _ _ => (.cons_cons _ (.cons _ .slnil)))
        · rw [if_neg (ne_true_of_eq_false hc)] at h
          refine r_skip ?_
          refine r_then ?_
          refine r_seq ?_
          refine r_region ?_
          refine r_pure tabOk 1 [0, 1, 7, 57] (E' := [(0, .one (.raw (.pointer none)) p0), (1, .one (.int .i64) a1), (7, .one (.raw (.pointer none)) v5), (57, .one (.raw (.pointer none)) p0)]) rfl ?_
          obtain ⟨r15, hr15, h⟩ := bind_ex h
          refine r_call (Lo := [Res.diskif Try.prog dI v5 r4.2.1 r4.1]) (disk_Disk_Copy_ok p0 o8.2 _ hr15) (by kernel_rfl) (List.Perm.refl _) rfl rfl fun v16 => ?_
          refine r_pure tabOk 1 [0, 1, 7, 8] (E' := [(0, .one (.raw (.pointer none)) p0), (1, .one (.int .i64) a1), (7, .one (.raw (.pointer none)) v5), (8, .one (.raw (.pointer none)) v16)]) rfl ?_
          refine r_nil ?_
          refine r_then ?_
          refine r_seq ?_
          refine r_seq ?_
          refine r_region ?_
          refine r_pure tabOk 1 [0, 1, 7, 8, 59] (E' := [(0, .one (.raw (.pointer none)) p0), (1, .one (.int .i64) a1), (7, .one (.raw (.pointer none)) v5), (8, .one (.raw (.pointer none)) v16), (59, .one (.raw (.pointer none)) v16)]) rfl ?_
          refine y (y_dnil 1 rfl rfl Try.underlying24) rfl ?_
          refine r_nil ?_
          refine r_then ?_
          refine r_if (b := (r15.1 != 0)) rfl (fun hc => ?_) (fun hc => ?_)
          · rw [if_pos hc] at h
            refine r_seq ?_
            refine r_region ?_
            refine r_pure tabOk 1 [4] (E' := [(4, .one .bool false)]) rfl ?_
            refine r_nil ?_
            refine r_then ?_
            refine r_ret ?_
            refine t_then ?_
            obtain rfl := Option.some.inj h
            exact r_ret1 rfl (.tmp rfl) (fun _ _ g => g) (fun _ _ _ => (.cons_cons _ (.cons _ (.cons _ .slnil))))
          · rw [if_neg (ne_true_of_eq_false hc)] at h
            refine r_skip ?_
            refine r_then ?_
            refine r_seq ?_
            refine r_region ?_
            refine r_pure tabOk 1 [0, 1, 7, 8, 61] (E' := [(0, .one (.raw (.pointer none)) p0), (1, .one (.int .i64) a1), (7, .one (.raw (.pointer none)) v5), (8, .one (.raw (.pointer none)) v16), (61, .one (.raw (.pointer none)) p0)]) rfl ?_
            obtain ⟨r17, hr17, h⟩ := bind_ex h
            refine r_calla (Lo := [Res.diskif Try.prog dI v16 r15.2.1 r15.1, Res.diskif Try.prog dI v5 r4.2.1 r4.1]) (disk_Disk_Crash_ok p0 r15.2.2 [] _ hr17) (by kernel_rfl) (List.Perm.refl _) (.val rfl (.nilsl .nil)) rfl fun _ => ?_
            refine r_nil ?_
            refine r_then ?_
            refine r_seq ?_
            refine r_region ?_
            refine r_pure tabOk 1 [0, 1, 7, 8, 63] (E' := [(0, .one (.raw (.pointer none)) p0), (1, .one (.int .i64) a1), (7, .one (.raw (.pointer none)) v5), (8, .one (.raw (.pointer none)) v16), (63, .one (.raw (.pointer none)) v16)]) rfl ?_
            refine y (y_build rfl zf67 rfl rfl (.cons ((.fst .here)) rfl rfl ok_here (.cons ((.snd (.fst .here))) rfl rfl ok_here (.cons ((.snd (.snd (.fst .here)))) rfl rfl ok_here .nil)))) rfl ?_
            refine r_lits (B := 48) tabOk rfl el67 rfl rfl rfl (.cons rfl .nil) rfl fun v18 => ?_
            obtain ⟨he19, h⟩ := ite_ex h
            refine r_imp_at (R' := Res.disk Try.prog dI v16 r15.2.1) 2 rfl (diskif_disk he19) ?_
            refine r_freeze (i := 0) (k := 65) rfl rfl ?_
            obtain ⟨r20, hr20, h⟩ := bind_ex h
            refine r_call (Lo := [Res.disk Try.prog dI p0 r17, Res.diskif Try.prog dI v5 r4.2.1 r4.1]) (disk_Disk_Crash_ok v16 r15.2.1 ([([97, 114, 109, 101, 100], 0, 1, [], ())]) _ hr20) (by kernel_rfl) ((List.perm_middle (a := Res.disk Try.prog dI v16 r15.2.1) (l₁ := [Res.disk Try.prog dI p0 r17]) (l₂ := [Res.diskif Try.prog dI v5 r4.2.1 r4.1])).trans (.cons _ (List.Perm.refl _))) rfl rfl fun _ => ?_
            refine r_nil ?_
            refine r_then ?_
            refine r_seq ?_
            refine r_region ?_
            refine r_pure tabOk 1 [0, 1, 7, 8, 67] (E' := [(0, .one (.raw (.pointer none)) p0), (1, .one (.int .i64) a1), (7, .one (.raw (.pointer none)) v5), (8, .one (.raw (.pointer none)) v16), (67, .one (.raw (.pointer none)) p0)]) rfl ?_
            obtain ⟨r21, hr21, h⟩ := bind_ex h
            refine r_call (Lo := [Res.disk Try.prog dI v16 r20, Res.diskif Try.prog dI v5 r4.2.1 r4.1]) (disk_Disk_On_ok p0 r17 _ hr21) (by kernel_rfl) ((List.perm_middle (a := Res.disk Try.prog dI p0 r17) (l₁ := [Res.disk Try.prog dI v16 r20]) (l₂ := [Res.diskif Try.prog dI v5 r4.2.1 r4.1])).trans (.cons _ (List.Perm.refl _))) rfl rfl fun _ => ?_
            refine r_nil ?_
            refine r_then ?_
            refine r_seq ?_
            refine r_region ?_
            refine r_pure tabOk 1 [0, 1, 7, 8, 69] (E' := [(0, .one (.raw (.pointer none)) p0), (1, .one (.int .i64) a1), (7, .one (.raw (.pointer none)) v5), (8, .one (.raw (.pointer none)) v16), (69, .one (.raw (.pointer none)) v5)]) rfl ?_
            obtain ⟨he22, h⟩ := ite_ex h
            refine r_imp_at (R' := Res.disk Try.prog dI v5 r4.2.1) 2 rfl (diskif_disk he22) ?_
            obtain ⟨r23, hr23, h⟩ := bind_ex h
            refine r_call (Lo := [Res.disk Try.prog dI p0 r21, Res.disk Try.prog dI v16 r20]) (disk_Disk_On_ok v5 r4.2.1 _ hr23) (by kernel_rfl) ((List.perm_middle (a := Res.disk Try.prog dI v5 r4.2.1) (l₁ := [Res.disk Try.prog dI p0 r21, Res.disk Try.prog dI v16 r20]) (l₂ := [])).trans (.cons _ (List.Perm.refl _))) rfl rfl fun _ => ?_
            refine r_nil ?_
            refine r_then ?_
            refine r_seq ?_
            refine r_region ?_
            refine r_pure tabOk 1 [0, 1, 7, 8, 71] (E' := [(0, .one (.raw (.pointer none)) p0), (1, .one (.int .i64) a1), (7, .one (.raw (.pointer none)) v5), (8, .one (.raw (.pointer none)) v16), (71, .one (.raw (.pointer none)) v16)]) rfl ?_
            obtain ⟨r24, hr24, h⟩ := bind_ex h
            refine r_call (Lo := [Res.disk Try.prog dI v5 r23, Res.disk Try.prog dI p0 r21]) (disk_Disk_On_ok v16 r20 _ hr24) (by kernel_rfl) ((List.perm_middle (a := Res.disk Try.prog dI v16 r20) (l₁ := [Res.disk Try.prog dI v5 r23, Res.disk Try.prog dI p0 r21]) (l₂ := [])).trans (.cons _ (List.Perm.refl _))) rfl rfl fun _ => ?_
            refine r_nil ?_
            refine r_then ?_
            refine r_seq ?_
            refine r_region ?_
            refine r_pure tabOk 2 [0, 1, 8, 73, 74] (E' := [(0, .one (.raw (.pointer none)) p0), (1, .one (.int .i64) a1), (8, .one (.raw (.pointer none)) v16), (73, .one (.raw (.pointer none)) v5), (74, .one (.raw (.pointer none)) p0)]) rfl ?_
            obtain ⟨r25, hr25, h⟩ := bind_ex h
            refine r_call (Lo := [Res.disk Try.prog dI v16 r24]) (escrowlaw04_seen_ok v5 p0 r23 r21 _ hr25) (by kernel_rfl) ((List.perm_middle (a := Res.disk Try.prog dI v5 r23) (l₁ := [Res.disk Try.prog dI v16 r24]) (l₂ := [Res.disk Try.prog dI p0 r21])).trans (.cons _ ((List.perm_middle (a := Res.disk Try.prog dI p0 r21) (l₁ := [Res.disk Try.prog dI v16 r24]) (l₂ := [])).trans (.cons _ (List.Perm.refl _))))) rfl rfl fun _ => ?_
            refine r_pure tabOk 1 [0, 1, 8, 76] (E' := [(0, .one (.raw (.pointer none)) p0), (1, .one (.int .i64) a1), (8, .one (.raw (.pointer none)) v16), (76, .one .bool r25)]) rfl ?_
            obtain ⟨k27, hk27, h⟩ := bnd_ex h
            refine r_lsplitk (γ := Unit) 5 (fun (o28 : Bool) _ => [(0, .one (.raw (.pointer none)) p0), (1, .one (.int .i64) a1), (8, .one (.raw (.pointer none)) v16), (81, .one .bool o28)]) (fun _ _ => [Res.disk Try.prog dI v5 r23, Res.disk Try.prog dI p0 r21, Res.disk Try.prog dI v16 r24]) k27 r ?_ ?_
            · rcases Bool.eq_false_or_eq_true r25 with hh | hh
              · rw [hh] at h ⊢
                rw [if_pos rfl] at h
                refine r_pure tabOk 1 [0, 1, 8, 76, 77] (E' := [(0, .one (.raw (.pointer none)) p0), (1, .one (.int .i64) a1), (8, .one (.raw (.pointer none)) v16), (76, .one .bool true), (77, .one (.raw (.pointer none)) p0)]) rfl ?_
                refine r_guard (by rfl) rfl ?_
                obtain ⟨r29, hr29, h⟩ := bind_ex h
                refine r_call (Lo := [Res.disk Try.prog dI v5 r23, Res.disk Try.prog dI v16 r24]) (disk_Disk_Dirty_ok p0 r21 [97, 114, 109, 101, 100] _ hr29) (by kernel_rfl) ((List.perm_middle (a := Res.disk Try.prog dI p0 r21) (l₁ := [Res.disk Try.prog dI v5 r23]) (l₂ := [Res.disk Try.prog dI v16 r24])).trans (.cons _ (List.Perm.refl _))) rfl rfl fun v30 => ?_
                refine r_guard (by rfl) rfl ?_
                refine y (y_lenown tabOk 1 rfl rfl rfl) rfl ?_
                refine r_pure tabOk 2 [0, 1, 8, 81] (E' := [(0, .one (.raw (.pointer none)) p0), (1, .one (.int .i64) a1), (8, .one (.raw (.pointer none)) v16), (81, .one .bool ((List.length r29 : Int) == 0))]) rfl ?_
                refine r_nil ?_
                refine r_less [0, 1, 8, 81] rfl ?_
                refine r_lose (L' := [Res.disk Try.prog dI p0 r21, Res.disk Try.prog dI v5 r23, Res.disk Try.prog dI v16 r24]) (.cons_cons _ (.cons _ (.cons_cons _ (.cons_cons _ .slnil)))) ?_
                refine r_perm (L' := [Res.disk Try.prog dI v5 r23, Res.disk Try.prog dI p0 r21, Res.disk Try.prog dI v16 r24]) ((List.perm_middle (a := Res.disk Try.prog dI v5 r23) (l₁ := [Res.disk Try.prog dI p0 r21]) (l₂ := [Res.disk Try.prog dI v16 r24])).trans (.cons _ (List.Perm.refl _))) ?_
                refine r_then ?_
                exact r_meetk ((List.length r29 : Int) == 0) () h rfl rfl
              · rw [hh] at h ⊢
                rw [if_neg (by decide)] at h
                refine r_pure tabOk 5 [0, 1, 8, 81] (E' := [(0, .one (.raw (.pointer none)) p0), (1, .one (.int .i64) a1), (8, .one (.raw (.pointer none)) v16), (81, .one .bool false)]) rfl ?_
                refine r_nil ?_
                refine r_less [0, 1, 8, 81] rfl ?_
                refine r_then ?_
                exact r_meetk false () h rfl rfl
            · intro o28 _ h
              rw [← hk27] at h
              try dsimp only at h
              refine r_pure tabOk 1 [0, 1, 8, 82] (E' := [(0, .one (.raw (.pointer none)) p0), (1, .one (.int .i64) a1), (8, .one (.raw (.pointer none)) v16), (82, .one .bool o28)]) rfl ?_
              obtain ⟨k32, hk32, h⟩ := bnd_ex h
              refine r_lsplitk (γ := Unit) 9 (fun (o33 : Bool) _ => [(0, .one (.raw (.pointer none)) p0), (91, .one .bool o33)]) (fun _ _ => [Res.disk Try.prog dI v5 r23, Res.disk Try.prog dI p0 r21, Res.disk Try.prog dI v16 r24]) k32 r ?_ ?_
              · rcases Bool.eq_false_or_eq_true o28 with hh | hh
                · rw [hh] at h ⊢
                  rw [if_pos rfl] at h
                  refine r_pure tabOk 3 [0, 8, 82, 85] (E' := [(0, .one (.raw (.pointer none)) p0), (8, .one (.raw (.pointer none)) v16), (82, .one .bool true), (85, .one .bool (a1 == 0))]) rfl ?_
                  obtain ⟨b34, hbb34, h⟩ := bnd_ex h
                  rw [hbb34]
                  obtain ⟨k35, hk35, h⟩ := bnd_ex h
                  refine r_lsplitk (γ := Unit) 5 (fun (o36 : Bool) _ => [(0, .one (.raw (.pointer none)) p0), (82, .one .bool true), (90, .one .bool o36)]) (fun _ _ => [Res.disk Try.prog dI v5 r23, Res.disk Try.prog dI p0 r21, Res.disk Try.prog dI v16 r24]) k35 r ?_ ?_
                  · rcases Bool.eq_false_or_eq_true b34 with hh | hh
                    · rw [hh] at h ⊢
                      rw [if_pos rfl] at h
                      refine r_pure tabOk 5 [0, 82, 90] (E' := [(0, .one (.raw (.pointer none)) p0), (82, .one .bool true), (90, .one .bool true)]) rfl ?_
                      refine r_nil ?_
                      refine r_less [0, 82, 90] rfl ?_
                      refine r_then ?_
                      exact r_meetk true () h rfl rfl
                    · rw [hh] at h ⊢
                      rw [if_neg (by decide)] at h
                      refine r_pure tabOk 1 [0, 82, 85, 86] (E' := [(0, .one (.raw (.pointer none)) p0), (82, .one .bool true), (85, .one .bool false), (86, .one (.raw (.pointer none)) v16)]) rfl ?_
                      refine r_guard (by rfl) rfl ?_
                      obtain ⟨r37, hr37, h⟩ := bind_ex h
                      refine r_call (Lo := [Res.disk Try.prog dI v5 r23, Res.disk Try.prog dI p0 r21]) (escrowlaw04_all_ok v16 r24 [97, 114, 109, 101, 100] _ hr37) (by kernel_rfl) ((List.perm_middle (a := Res.disk Try.prog dI v16 r24) (l₁ := [Res.disk Try.prog dI v5 r23, Res.disk Try.prog dI p0 r21]) (l₂ := [])).trans (.cons _ (List.Perm.refl _))) rfl rfl fun _ => ?_
                      refine r_guard (by rfl) rfl ?_
                      obtain ⟨hc, h⟩ := ite_ex h
                      refine y (y_sub (i := (0 : Int)) (j := 1) tabOk rfl rfl rfl hc.1 hc.2.1 hc.2.2 rfl) rfl ?_
                      refine r_pure tabOk 2 [0, 82, 90] (E' := [(0, .one (.raw (.pointer none)) p0), (82, .one .bool true), (90, .one .bool ((List.drop 0 (List.take 1 r37)) == [53]))]) rfl ?_
                      refine r_nil ?_
                      refine r_less [0, 82, 90] rfl ?_
                      refine r_perm (L' := [Res.disk Try.prog dI v5 r23, Res.disk Try.prog dI p0 r21, Res.disk Try.prog dI v16 r24]) ((List.perm_middle (a := Res.disk Try.prog dI v5 r23) (l₁ := [Res.disk Try.prog dI v16 r24]) (l₂ := [Res.disk Try.prog dI p0 r21])).trans (.cons _ ((List.perm_middle (a := Res.disk Try.prog dI p0 r21) (l₁ := [Res.disk Try.prog dI v16 r24]) (l₂ := [])).trans (.cons _ (List.Perm.refl _))))) ?_
                      refine r_then ?_
                      exact r_meetk ((List.drop 0 (List.take 1 r37)) == [53]) () h rfl rfl
                  · intro o36 _ h
                    rw [← hk35] at h
                    try dsimp only at h
                    refine r_pure tabOk 1 [0, 91] (E' := [(0, .one (.raw (.pointer none)) p0), (91, .one .bool o36)]) rfl ?_
                    refine r_nil ?_
                    refine r_less [0, 91] rfl ?_
                    refine r_then ?_
                    exact r_meetk o36 () h rfl rfl
                · rw [hh] at h ⊢
                  rw [if_neg (by decide)] at h
                  refine r_pure tabOk 9 [0, 91] (E' := [(0, .one (.raw (.pointer none)) p0), (91, .one .bool false)]) rfl ?_
                  refine r_nil ?_
                  refine r_less [0, 91] rfl ?_
                  refine r_then ?_
                  exact r_meetk false () h rfl rfl
              · intro o33 _ h
                rw [← hk32] at h
                try dsimp only at h
                refine r_pure tabOk 1 [0, 92] (E' := [(0, .one (.raw (.pointer none)) p0), (92, .one .bool o33)]) rfl ?_
                obtain ⟨k39, hk39, h⟩ := bnd_ex h
                refine r_lsplitk (γ := Unit) 4 (fun (o40 : Bool × DiskS) _ => [(96, .one .bool o40.1)]) (fun (o40 : Bool × DiskS) _ => [Res.disk Try.prog dI v5 r23, Res.disk Try.prog dI p0 o40.2, Res.disk Try.prog dI v16 r24]) k39 r ?_ ?_
                · rcases Bool.eq_false_or_eq_true o33 with hh | hh
                  · rw [hh] at h ⊢
                    rw [if_pos rfl] at h
                    refine r_pure tabOk 1 [92, 93] (E' := [(92, .one .bool true), (93, .one (.raw (.pointer none)) p0)]) rfl ?_
                    refine r_guard (by rfl) rfl ?_
                    obtain ⟨r41, hr41, h⟩ := bind_ex h
                    refine r_call (Lo := [Res.disk Try.prog dI v5 r23, Res.disk Try.prog dI v16 r24]) (disk_Disk_Write_ok p0 r21 [97, 114, 109, 101, 100] 0 [54] _ hr41) (by kernel_rfl) ((List.perm_middle (a := Res.disk Try.prog dI p0 r21) (l₁ := [Res.disk Try.prog dI v5 r23]) (l₂ := [Res.disk Try.prog dI v16 r24])).trans (.cons _ (List.Perm.refl _))) rfl rfl fun _ => ?_
                    refine r_pure tabOk 2 [96] (E' := [(96, .one .bool (r41.1 == 0))]) rfl ?_
                    refine r_nil ?_
                    refine r_less [96] rfl ?_
                    refine r_perm (L' := [Res.disk Try.prog dI v5 r23, Res.disk Try.prog dI p0 r41.2, Res.disk Try.prog dI v16 r24]) ((List.perm_middle (a := Res.disk Try.prog dI v5 r23) (l₁ := [Res.disk Try.prog dI p0 r41.2]) (l₂ := [Res.disk Try.prog dI v16 r24])).trans (.cons _ (List.Perm.refl _))) ?_
                    refine r_then ?_
                    exact r_meetk ((r41.1 == 0), r41.2) () h rfl rfl
                  · rw [hh] at h ⊢
                    rw [if_neg (by decide)] at h
                    refine r_pure tabOk 4 [96] (E' := [(96, .one .bool false)]) rfl ?_
                    refine r_nil ?_
                    refine r_less [96] rfl ?_
                    refine r_then ?_
                    exact r_meetk (false, r21) () h rfl rfl
                · intro o40 _ h
                  rw [← hk39] at h
                  try dsimp only at h
                  refine r_pure tabOk 1 [4] (E' := [(4, .one .bool o40.1)]) rfl ?_
                  refine r_nil ?_
                  refine r_then ?_
                  refine r_ret ?_
                  obtain rfl := Option.some.inj h
                  exact r_ret1 rfl (.tmp rfl) (fun _ _ g => g) (fun _ _ _ => (.cons _ (.cons_cons _ (.cons _ .slnil))))

theorem escrowlaw04_DiskRefused_ok (a0 : List (Int × Bool × List Int × List Int × Int × Int × List Int × (List (List Int × Int × Int × List Int × Unit)) × Unit)) (a1 : Int × Bool × List Int × List Int × Int × Int × List Int × (List (List Int × Int × Int × List Int × Unit)) × Unit) (a2 : Int) (r : Bool) (h : escrowlaw04_DiskRefused a0 a1 a2 = some r) : Pure Try.prog 6 [.one (.sl 41 Y41) a0, .one Y41 a1, .one (.int .i64) a2] (.one .bool r) := by
  unfold escrowlaw04_DiskRefused at h
  refine enter Try.func6 rfl 151 rfl rfl fun F => ?_
  refine r_seq ?_
  refine r_region ?_
  refine r_box rfl rfl fun b1 => ?_
  refine r_pure tabOk 1 [0, 2, 4] (E' := [(0, .one (.sl 41 Y41) a0), (2, .one (.int .i64) a2), (4, ptr b1 0)]) rfl ?_
  refine r_nil ?_
  refine r_then ?_
  refine r_seq ?_
  refine r_region ?_
  refine r_pure tabOk 1 [2, 4, 16] (E' := [(2, .one (.int .i64) a2), (4, ptr b1 0), (16, .one (.sl 41 Y41) a0)]) rfl ?_
  obtain ⟨r2, hr2, h⟩ := bind_ex h
  refine r_call (Lo := [Res.var b1 41 Y41 a1]) (escrowlaw04_made_ok a0 _ hr2) (by kernel_rfl) (by simp) rfl rfl fun v3 => ?_
  refine r_pure tabOk 1 [2, 4, 7] (E' := [(2, .one (.int .i64) a2), (4, ptr b1 0), (7, .one (.raw (.pointer none)) v3)]) rfl ?_
  refine r_nil ?_
  refine r_then ?_
  refine r_seq ?_
  refine r_seq ?_
  refine r_region ?_
  refine r_pure tabOk 1 [2, 4, 7, 18] (E' := [(2, .one (.int .i64) a2), (4, ptr b1 0), (7, .one (.raw (.pointer none)) v3), (18, .one (.raw (.pointer none)) v3)]) rfl ?_
  refine y (y_dnil 0 rfl rfl Try.underlying24) rfl ?_
  refine r_pure tabOk 1 [2, 4, 7, 20] (E' := [(2, .one (.int .i64) a2), (4, ptr b1 0), (7, .one (.raw (.pointer none)) v3), (20, .one .bool (r2.1 != 0))]) rfl ?_
  obtain ⟨b4, hbb4, h⟩ := bnd_ex h
  rw [hbb4]
  obtain ⟨k5, hk5, h⟩ := bnd_ex h
  refine r_lsplitk (γ := Unit) 3 (fun (o6 : Bool) _ => [(2, .one (.int .i64) a2), (4, ptr b1 0), (7, .one (.raw (.pointer none)) v3), (23, .one .bool o6)]) (fun _ _ => [Res.diskif Try.prog dI v3 r2.2 r2.1, Res.var b1 41 Y41 a1]) k5 r ?_ ?_
  · rcases Bool.eq_false_or_eq_true b4 with hh | hh
    · rw [hh] at h ⊢
      rw [if_pos rfl] at h
      refine r_pure tabOk 3 [2, 4, 7, 23] (E' := [(2, .one (.int .i64) a2), (4, ptr b1 0), (7, .one (.raw (.pointer none)) v3), (23, .one .bool true)]) rfl ?_
      refine r_nil ?_
      refine r_less [2, 4, 7, 23] rfl ?_
      refine r_then ?_
      exact r_meetk true () h rfl rfl
    · rw [hh] at h ⊢
      rw [if_neg (by decide)] at h
      refine r_guard (by rfl) rfl ?_
      obtain ⟨r7, hr7, h⟩ := bind_ex h
      refine r_calls (escrowlaw04_first_ok  _ hr7) (by kernel_rfl) rfl rfl ?_
      refine r_pure tabOk 2 [2, 4, 7, 23] (E' := [(2, .one (.int .i64) a2), (4, ptr b1 0), (7, .one (.raw (.pointer none)) v3), (23, .one .bool (!r7))]) rfl ?_
      refine r_nil ?_
      refine r_less [2, 4, 7, 23] rfl ?_
      refine r_then ?_
      exact r_meetk (!r7) () h rfl rfl
  · intro o6 _ h
    rw [← hk5] at h
    try dsimp only at h
    refine r_nil ?_
    refine r_then ?_
    refine r_if (b := o6) rfl (fun hc => ?_) (fun hc => ?_)
    · rw [if_pos hc] at h
      refine r_seq ?_
      refine r_region ?_
      refine r_pure tabOk 1 [6] (E' := [(6, .one .bool false)]) rfl ?_
      refine r_nil ?_
      refine r_then ?_
      refine r_ret ?_
      refine t_then ?_
      obtain rfl := Option.some.inj h
      exact r_ret1 rfl (.tmp rfl) (fun _ _ g => g) (fun _ _ _ => List.nil_sublist _)
    · rw [if_neg (ne_true_of_eq_false hc)] at h
      refine r_skip ?_
      refine r_then ?_
      refine r_seq ?_
      refine r_region ?_
      refine r_pure tabOk 1 [2, 4, 7, 24] (E' := [(2, .one (.int .i64) a2), (4, ptr b1 0), (7, .one (.raw (.pointer none)) v3), (24, .one (.raw (.pointer none)) v3)]) rfl ?_
      obtain ⟨he8, h⟩ := ite_ex h
      refine r_imp_at (R' := Res.disk Try.prog dI v3 r2.2) 0 rfl (diskif_disk he8) ?_
      obtain ⟨r9, hr9, h⟩ := bind_ex h
      refine r_call (Lo := [Res.var b1 41 Y41 a1]) (disk_Disk_Copy_ok v3 r2.2 _ hr9) (by kernel_rfl) (List.Perm.refl _) rfl rfl fun v10 => ?_
      refine r_pure tabOk 1 [2, 4, 7, 8] (E' := [(2, .one (.int .i64) a2), (4, ptr b1 0), (7, .one (.raw (.pointer none)) v3), (8, .one (.raw (.pointer none)) v10)]) rfl ?_
      refine r_nil ?_
      refine r_then ?_
      refine r_seq ?_
      refine r_seq ?_
      refine r_region ?_
      refine r_pure tabOk 1 [2, 4, 7, 8, 26] (E' := [(2, .one (.int .i64) a2), (4, ptr b1 0), (7, .one (.raw (.pointer none)) v3), (8, .one (.raw (.pointer none)) v10), (26, .one (.raw (.pointer none)) v10)]) rfl ?_
      refine y (y_dnil 1 rfl rfl Try.underlying24) rfl ?_
      refine r_nil ?_
      refine r_then ?_
      refine r_if (b := (r9.1 != 0)) rfl (fun hc => ?_) (fun hc => ?_)
      · rw [if_pos hc] at h
        refine r_seq ?_
        refine r_region ?_
        refine r_pure tabOk 1 [6] (E' := [(6, .one .bool false)]) rfl ?_
        refine r_nil ?_
        refine r_then ?_
        refine r_ret ?_
        refine t_then ?_
        obtain rfl := Option.some.inj h
        exact r_ret1 rfl (.tmp rfl) (fun _ _ g => g) (fun _ _ _ => List.nil_sublist _)
      · rw [if_neg (ne_true_of_eq_false hc)] at h
        refine r_skip ?_
        refine r_then ?_
        refine r_seq ?_
        refine r_seq ?_
        refine r_region ?_
        refine r_pure tabOk 1 [2, 4, 7, 8, 28] (E' := [(2, .one (.int .i64) a2), (4, ptr b1 0), (7, .one (.raw (.pointer none)) v3), (8, .one (.raw (.pointer none)) v10), (28, ptr b1 0)]) rfl ?_
        refine y (y_load 2 ((.fst .here)) rfl rfl (by first | rfl | (simp only [Pth.off, T.size]; omega)) (ok_fst ok_here) ty3) rfl ?_
        refine r_pure tabOk 2 [2, 4, 7, 8, 31] (E' := [(2, .one (.int .i64) a2), (4, ptr b1 0), (7, .one (.raw (.pointer none)) v3), (8, .one (.raw (.pointer none)) v10), (31, .one .bool (a1.1 != 7))]) rfl ?_
        obtain ⟨b11, hbb11, h⟩ := bnd_ex h
        rw [hbb11]
        refine r_lsplit (γ := Unit) 4 (fun _ => [(2, .one (.int .i64) a2), (4, ptr b1 0), (7, .one (.raw (.pointer none)) v3), (8, .one (.raw (.pointer none)) v10), (35, .one .bool (b11 && (a1.1 != 11)))]) (fun _ => [Res.disk Try.prog dI v3 r9.2.2, Res.diskif Try.prog dI v10 r9.2.1 r9.1, Res.var b1 41 Y41 a1]) ?_ (fun _ => ?_)
        · clear h
          cases b11 with
          | true =>
          refine r_pure tabOk 1 [2, 4, 7, 8, 31, 32] (E' := [(2, .one (.int .i64) a2), (4, ptr b1 0), (7, .one (.raw (.pointer none)) v3), (8, .one (.raw (.pointer none)) v10), (31, .one .bool true), (32, ptr b1 0)]) rfl ?_
          refine r_guard (by rfl) rfl ?_
          refine y (y_load 2 ((.fst .here)) rfl rfl (by first | rfl | (simp only [Pth.off, T.size]; omega)) (ok_fst ok_here) ty3) rfl ?_
          refine r_pure tabOk 2 [2, 4, 7, 8, 35] (E' := [(2, .one (.int .i64) a2), (4, ptr b1 0), (7, .one (.raw (.pointer none)) v3), (8, .one (.raw (.pointer none)) v10), (35, .one .bool (a1.1 != 11))]) rfl ?_
          refine r_nil ?_
          refine r_then ?_
          exact r_meetg () rfl rfl
          | false =>
          refine r_pure tabOk 4 [2, 4, 7, 8, 35] (E' := [(2, .one (.int .i64) a2), (4, ptr b1 0), (7, .one (.raw (.pointer none)) v3), (8, .one (.raw (.pointer none)) v10), (35, .one .bool false)]) rfl ?_
          refine r_nil ?_
          refine r_then ?_
          exact r_meetg () rfl rfl
        refine r_pure tabOk 1 [2, 4, 7, 8, 36] (E' := [(2, .one (.int .i64) a2), (4, ptr b1 0), (7, .one (.raw (.pointer none)) v3), (8, .one (.raw (.pointer none)) v10), (36, .one .bool (b11 && (a1.1 != 11)))]) rfl ?_
        obtain ⟨b12, hbb12, h⟩ := bnd_ex h
        rw [hbb12]
        refine r_lsplit (γ := Unit) 4 (fun _ => [(2, .one (.int .i64) a2), (4, ptr b1 0), (7, .one (.raw (.pointer none)) v3), (8, .one (.raw (.pointer none)) v10), (40, .one .bool (b12 && (a1.1 != 8)))]) (fun _ => [Res.disk Try.prog dI v3 r9.2.2, Res.diskif Try.prog dI v10 r9.2.1 r9.1, Res.var b1 41 Y41 a1]) ?_ (fun _ => ?_)
        · clear h
          cases b12 with
          | true =>
          refine r_pure tabOk 1 [2, 4, 7, 8, 36, 37] (E' := [(2, .one (.int .i64) a2), (4, ptr b1 0), (7, .one (.raw (.pointer none)) v3), (8, .one (.raw (.pointer none)) v10), (36, .one .bool true), (37, ptr b1 0)]) rfl ?_
          refine r_guard (by rfl) rfl ?_
          refine y (y_load 2 ((.fst .here)) rfl rfl (by first | rfl | (simp only [Pth.off, T.size]; omega)) (ok_fst ok_here) ty3) rfl ?_
          refine r_pure tabOk 2 [2, 4, 7, 8, 40] (E' := [(2, .one (.int .i64) a2), (4, ptr b1 0), (7, .one (.raw (.pointer none)) v3), (8, .one (.raw (.pointer none)) v10), (40, .one .bool (a1.1 != 8))]) rfl ?_
          refine r_nil ?_
          refine r_then ?_
          exact r_meetg () rfl rfl
          | false =>
          refine r_pure tabOk 4 [2, 4, 7, 8, 40] (E' := [(2, .one (.int .i64) a2), (4, ptr b1 0), (7, .one (.raw (.pointer none)) v3), (8, .one (.raw (.pointer none)) v10), (40, .one .bool false)]) rfl ?_
          refine r_nil ?_
          refine r_then ?_
          exact r_meetg () rfl rfl
        refine r_pure tabOk 1 [2, 4, 7, 8, 41] (E' := [(2, .one (.int .i64) a2), (4, ptr b1 0), (7, .one (.raw (.pointer none)) v3), (8, .one (.raw (.pointer none)) v10), (41, .one .bool (b12 && (a1.1 != 8)))]) rfl ?_
        obtain ⟨b13, hbb13, h⟩ := bnd_ex h
        rw [hbb13]
        refine r_lsplit (γ := Unit) 4 (fun _ => [(2, .one (.int .i64) a2), (4, ptr b1 0), (7, .one (.raw (.pointer none)) v3), (8, .one (.raw (.pointer none)) v10), (45, .one .bool (b13 && (a1.1 != 9)))]) (fun _ => [Res.disk Try.prog dI v3 r9.2.2, Res.diskif Try.prog dI v10 r9.2.1 r9.1, Res.var b1 41 Y41 a1]) ?_ (fun _ => ?_)
        · clear h
          cases b13 with
          | true =>
          refine r_pure tabOk 1 [2, 4, 7, 8, 41, 42] (E' := [(2, .one (.int .i64) a2), (4, ptr b1 0), (7, .one (.raw (.pointer none)) v3), (8, .one (.raw (.pointer none)) v10), (41, .one .bool true), (42, ptr b1 0)]) rfl ?_
          refine r_guard (by rfl) rfl ?_
          refine y (y_load 2 ((.fst .here)) rfl rfl (by first | rfl | (simp only [Pth.off, T.size]; omega)) (ok_fst ok_here) ty3) rfl ?_
          refine r_pure tabOk 2 [2, 4, 7, 8, 45] (E' := [(2, .one (.int .i64) a2), (4, ptr b1 0), (7, .one (.raw (.pointer none)) v3), (8, .one (.raw (.pointer none)) v10), (45, .one .bool (a1.1 != 9))]) rfl ?_
          refine r_nil ?_
          refine r_then ?_
          exact r_meetg () rfl rfl
          | false =>
          refine r_pure tabOk 4 [2, 4, 7, 8, 45] (E' := [(2, .one (.int .i64) a2), (4, ptr b1 0), (7, .one (.raw (.pointer none)) v3), (8, .one (.raw (.pointer none)) v10), (45, .one .bool false)]) rfl ?_
          refine r_nil ?_
          refine r_then ?_
          exact r_meetg () rfl rfl
        refine r_pure tabOk 1 [2, 4, 7, 8, 46] (E' := [(2, .one (.int .i64) a2), (4, ptr b1 0), (7, .one (.raw (.pointer none)) v3), (8, .one (.raw (.pointer none)) v10), (46, .one .bool (b13 && (a1.1 != 9)))]) rfl ?_
        obtain ⟨b14, hbb14, h⟩ := bnd_ex h
        rw [hbb14]
        obtain ⟨k15, hk15, h⟩ := bnd_ex h
        refine r_lsplitk (γ := Unit) 5 (fun (o16 : Bool × DiskS) _ => [(2, .one (.int .i64) a2), (7, .one (.raw (.pointer none)) v3), (8, .one (.raw (.pointer none)) v10), (51, .one .bool o16.1)]) (fun (o16 : Bool × DiskS) _ => [Res.disk Try.prog dI v3 r9.2.2, Res.diskif Try.prog dI v10 o16.2 r9.1, Res.var b1 41 Y41 a1]) k15 r ?_ ?_
        · rcases Bool.eq_false_or_eq_true b14 with hh | hh
          · rw [hh] at h ⊢
            rw [if_pos rfl] at h
            refine r_pure tabOk 1 [2, 4, 7, 8, 46, 47] (E' := [(2, .one (.int .i64) a2), (4, ptr b1 0), (7, .one (.raw (.pointer none)) v3), (8, .one (.raw (.pointer none)) v10), (46, .one .bool true), (47, .one (.raw (.pointer none)) v10)]) rfl ?_
            refine r_guard (by rfl) rfl ?_
            refine y (y_load 2 .here rfl rfl (by first | rfl | (simp only [Pth.off, T.size]; omega)) ok_here ty41) rfl ?_
            refine r_guard (by rfl) rfl ?_
            obtain ⟨he17, h⟩ := ite_ex h
            refine r_imp_at (R' := Res.disk Try.prog dI v10 r9.2.1) 1 rfl (diskif_disk he17) ?_
            obtain ⟨r18, hr18, h⟩ := bind_ex h
            refine r_call (Lo := [Res.disk Try.prog dI v3 r9.2.2, Res.var b1 41 Y41 a1]) (escrowlaw04_step_ok v10 r9.2.1 a1 _ hr18) (by kernel_rfl) ((List.perm_middle (a := Res.disk Try.prog dI v10 r9.2.1) (l₁ := [Res.disk Try.prog dI v3 r9.2.2]) (l₂ := [Res.var b1 41 Y41 a1])).trans (.cons _ (List.Perm.refl _))) rfl rfl fun _ => ?_
            refine r_pure tabOk 2 [2, 7, 8, 51] (E' := [(2, .one (.int .i64) a2), (7, .one (.raw (.pointer none)) v3), (8, .one (.raw (.pointer none)) v10), (51, .one .bool (r18.1 != 0))]) rfl ?_
            refine r_nil ?_
            refine r_less [2, 7, 8, 51] rfl ?_
            refine r_imp_at (R' := Res.diskif Try.prog dI v10 r18.2 r9.1) 0 rfl (diskif_of he17) ?_
            refine r_perm (L' := [Res.disk Try.prog dI v3 r9.2.2, Res.diskif Try.prog dI v10 r18.2 r9.1, Res.var b1 41 Y41 a1]) ((List.perm_middle (a := Res.disk Try.prog dI v3 r9.2.2) (l₁ := [Res.diskif Try.prog dI v10 r18.2 r9.1]) (l₂ := [Res.var b1 41 Y41 a1])).trans (.cons _ (List.Perm.refl _))) ?_
            refine r_then ?_
            exact r_meetk ((r18.1 != 0), r18.2) () h rfl rfl
          · rw [hh] at h ⊢
            rw [if_neg (by decide)] at h
            refine r_pure tabOk 5 [2, 7, 8, 51] (E' := [(2, .one (.int .i64) a2), (7, .one (.raw (.pointer none)) v3), (8, .one (.raw (.pointer none)) v10), (51, .one .bool false)]) rfl ?_
            refine r_nil ?_
            refine r_less [2, 7, 8, 51] rfl ?_
            refine r_then ?_
            exact r_meetk (false, r9.2.1) () h rfl rfl
        · intro o16 _ h
          rw [← hk15] at h
          try dsimp only at h
          refine r_pure tabOk 1 [2, 7, 8, 52] (E' := [(2, .one (.int .i64) a2), (7, .one (.raw (.pointer none)) v3), (8, .one (.raw (.pointer none)) v10), (52, .one .bool o16.1)]) rfl ?_
          obtain ⟨k20, hk20, h⟩ := bnd_ex h
          refine r_lsplitk (γ := Unit) 5 (fun (o21 : Bool × DiskS × DiskS) _ => [(2, .one (.int .i64) a2), (7, .one (.raw (.pointer none)) v3), (57, .one .bool o21.1)]) (fun (o21 : Bool × DiskS × DiskS) _ => [Res.disk Try.prog dI v3 o21.2.1, Res.diskif Try.prog dI v10 o21.2.2 r9.1, Res.var b1 41 Y41 a1]) k20 r ?_ ?_
          · rcases Bool.eq_false_or_eq_true o16.1 with hh | hh
            · rw [hh] at h ⊢
              rw [if_pos rfl] at h
              refine r_pure tabOk 2 [2, 7, 52, 53, 54] (E' := [(2, .one (.int .i64) a2), (7, .one (.raw (.pointer none)) v3), (52, .one .bool true), (53, .one (.raw (.pointer none)) v10), (54, .one (.raw (.pointer none)) v3)]) rfl ?_
              refine r_guard (by rfl) rfl ?_
              obtain ⟨he22, h⟩ := ite_ex h
              refine r_imp_at (R' := Res.disk Try.prog dI v10 o16.2) 1 rfl (diskif_disk he22) ?_
              obtain ⟨r23, hr23, h⟩ := bind_ex h
              refine r_call (Lo := [Res.var b1 41 Y41 a1]) (escrowlaw04_equal_ok v10 v3 o16.2 r9.2.2 _ hr23) (by kernel_rfl) ((List.perm_middle (a := Res.disk Try.prog dI v10 o16.2) (l₁ := [Res.disk Try.prog dI v3 r9.2.2]) (l₂ := [Res.var b1 41 Y41 a1])).trans (.cons _ (List.Perm.refl _))) rfl rfl fun _ => ?_
              refine r_pure tabOk 2 [2, 7, 57] (E' := [(2, .one (.int .i64) a2), (7, .one (.raw (.pointer none)) v3), (57, .one .bool (!r23.1))]) rfl ?_
              refine r_nil ?_
              refine r_less [2, 7, 57] rfl ?_
              refine r_imp_at (R' := Res.diskif Try.prog dI v10 r23.2.1 r9.1) 0 rfl (diskif_of he22) ?_
              refine r_perm (L' := [Res.disk Try.prog dI v3 r23.2.2, Res.diskif Try.prog dI v10 r23.2.1 r9.1, Res.var b1 41 Y41 a1]) ((List.perm_middle (a := Res.disk Try.prog dI v3 r23.2.2) (l₁ := [Res.diskif Try.prog dI v10 r23.2.1 r9.1]) (l₂ := [Res.var b1 41 Y41 a1])).trans (.cons _ (List.Perm.refl _))) ?_
              refine r_then ?_
              exact r_meetk ((!r23.1), r23.2.2, r23.2.1) () h rfl rfl
            · rw [hh] at h ⊢
              rw [if_neg (by decide)] at h
              refine r_pure tabOk 5 [2, 7, 57] (E' := [(2, .one (.int .i64) a2), (7, .one (.raw (.pointer none)) v3), (57, .one .bool false)]) rfl ?_
              refine r_nil ?_
              refine r_less [2, 7, 57] rfl ?_
              refine r_then ?_
              exact r_meetk (false, r9.2.2, o16.2) () h rfl rfl
          · intro o21 _ h
            rw [← hk20] at h
            try dsimp only at h
            refine r_nil ?_
            refine r_then ?_
            refine r_if (b := o21.1) rfl (fun hc => ?_) (fun hc => ?_)
            · rw [if_pos hc] at h
              refine r_seq ?_
              refine r_region ?_
              refine r_pure tabOk 1 [6] (E' := [(6, .one .bool false)]) rfl ?_
              refine r_nil ?_
              refine r_then ?_
              refine r_ret ?_
              refine t_then ?_
              obtain rfl := Option.some.inj h
              exact r_ret1 rfl (.tmp rfl) (fun _ _ g => g) (fun _ _ _ => List.nil_sublist _)
            · rw [if_neg (ne_true_of_eq_false hc)] at h
              refine r_skip ?_
              refine r_then ?_
              refine r_seq ?_
              refine r_region ?_
              refine r_pure tabOk 3 [2, 7] (E' := [(2, .one (.int .i64) (iand .i64 a2 7)), (7, .one (.raw (.pointer none)) v3)]) rfl ?_
              obtain ⟨n24, hn24, h⟩ := bnd_ex h
              rw [hn24]
              refine r_nil ?_
              refine r_then ?_
              refine r_seq ?_
              refine r_region ?_
              refine r_pure tabOk 1 [2, 60] (E' := [(2, .one (.int .i64) n24), (60, .one (.raw (.pointer none)) v3)]) rfl ?_
              obtain ⟨r25, hr25, h⟩ := bind_ex h
              refine r_call (Lo := [Res.diskif Try.prog dI v10 o21.2.2 r9.1, Res.var b1 41 Y41 a1]) (disk_Disk_Copy_ok v3 o21.2.1 _ hr25) (by kernel_rfl) (List.Perm.refl _) rfl rfl fun v26 => ?_
              refine r_pure tabOk 1 [2, 9] (E' := [(2, .one (.int .i64) n24), (9, .one (.raw (.pointer none)) v26)]) rfl ?_
              refine r_nil ?_
              refine r_then ?_
              refine r_seq ?_
              refine r_seq ?_
              refine r_region ?_
              refine r_pure tabOk 1 [2, 9, 62] (E' := [(2, .one (.int .i64) n24), (9, .one (.raw (.pointer none)) v26), (62, .one (.raw (.pointer none)) v26)]) rfl ?_
              refine y (y_dnil 1 rfl rfl Try.underlying24) rfl ?_
              refine r_pure tabOk 1 [2, 9, 64] (E' := [(2, .one (.int .i64) n24), (9, .one (.raw (.pointer none)) v26), (64, .one .bool (r25.1 != 0))]) rfl ?_
              obtain ⟨b27, hbb27, h⟩ := bnd_ex h
              rw [hbb27]
              obtain ⟨k28, hk28, h⟩ := bnd_ex h
              refine r_lsplitk (γ := Unit) 4 (fun (o29 : Bool × DiskS) _ => [(2, .one (.int .i64) n24), (9, .one (.raw (.pointer none)) v26), (68, .one .bool o29.1)]) (fun (o29 : Bool × DiskS) _ => [Res.disk Try.prog dI v3 r25.2.2, Res.diskif Try.prog dI v26 o29.2 r25.1, Res.diskif Try.prog dI v10 o21.2.2 r9.1, Res.var b1 41 Y41 a1]) k28 r ?_ ?_
              · rcases Bool.eq_false_or_eq_true b27 with hh | hh
                · rw [hh] at h ⊢
                  rw [if_pos rfl] at h
                  refine r_pure tabOk 4 [2, 9, 68] (E' := [(2, .one (.int .i64) n24), (9, .one (.raw (.pointer none)) v26), (68, .one .bool true)]) rfl ?_
                  refine r_nil ?_
                  refine r_less [2, 9, 68] rfl ?_
                  refine r_then ?_
                  exact r_meetk (true, r25.2.1) () h rfl rfl
                · rw [hh] at h ⊢
                  rw [if_neg (by decide)] at h
                  refine r_pure tabOk 1 [2, 9, 64, 65] (E' := [(2, .one (.int .i64) n24), (9, .one (.raw (.pointer none)) v26), (64, .one .bool false), (65, .one (.raw (.pointer none)) v26)]) rfl ?_
                  refine r_guard (by rfl) rfl ?_
                  obtain ⟨he30, h⟩ := ite_ex h
                  refine r_imp_at (R' := Res.disk Try.prog dI v26 r25.2.1) 1 rfl (diskif_disk he30) ?_
                  obtain ⟨r31, hr31, h⟩ := bind_ex h
                  refine r_call (Lo := [Res.disk Try.prog dI v3 r25.2.2, Res.diskif Try.prog dI v10 o21.2.2 r9.1, Res.var b1 41 Y41 a1]) (disk_Disk_Write_ok v26 r25.2.1 [97, 114, 109, 101, 100] 0 [49] _ hr31) (by kernel_rfl) ((List.perm_middle (a := Res.disk Try.prog dI v26 r25.2.1) (l₁ := [Res.disk Try.prog dI v3 r25.2.2]) (l₂ := [Res.diskif Try.prog dI v10 o21.2.2 r9.1, Res.var b1 41 Y41 a1])).trans (.cons _ (List.Perm.refl _))) rfl rfl fun _ => ?_
                  refine r_pure tabOk 2 [2, 9, 68] (E' := [(2, .one (.int .i64) n24), (9, .one (.raw (.pointer none)) v26), (68, .one .bool (r31.1 != 0))]) rfl ?_
                  refine r_nil ?_
                  refine r_less [2, 9, 68] rfl ?_
                  refine r_imp_at (R' := Res.diskif Try.prog dI v26 r31.2 r25.1) 0 rfl (diskif_of he30) ?_
                  refine r_perm (L' := [Res.disk Try.prog dI v3 r25.2.2, Res.diskif Try.prog dI v26 r31.2 r25.1, Res.diskif Try.prog dI v10 o21.2.2 r9.1, Res.var b1 41 Y41 a1]) ((List.perm_middle (a := Res.disk Try.prog dI v3 r25.2.2) (l₁ := [Res.diskif Try.prog dI v26 r31.2 r25.1]) (l₂ := [Res.diskif Try.prog dI v10 o21.2.2 r9.1, Res.var b1 41 Y41 a1])).trans (.cons _ (List.Perm.refl _))) ?_
                  refine r_then ?_
                  exact r_meetk ((r31.1 != 0), r31.2) () h rfl rfl
              · intro o29 _ h
                rw [← hk28] at h
                try dsimp only at h
                refine r_nil ?_
                refine r_then ?_
                refine r_if (b := o29.1) rfl (fun hc => ?_) (fun hc => ?_)
                · rw [if_pos hc] at h
                  refine r_seq ?_
                  refine r_region ?_
                  refine r_pure tabOk 1 [6] (E' := [(6, .one .bool true)]) rfl ?_
                  refine r_nil ?_
                  refine r_then ?_
                  refine r_ret ?_
                  refine t_then ?_
                  obtain rfl := Option.some.inj h
                  exact r_ret1 rfl (.tmp rfl) (fun _ _ g => g) (fun _ _ _ => List.nil_sublist _)
                · rw [if_neg (ne_true_of_eq_false hc)] at h
                  refine r_skip ?_
                  refine r_then ?_
                  refine r_seq ?_
                  refine r_region ?_
                  refine r_pure tabOk 1 [2, 9, 69] (E' := [(2, .one (.int .i64) n24), (9, .one (.raw (.pointer none)) v26), (69, .one (.raw (.pointer none)) v26)]) rfl ?_
                  obtain ⟨he32, h⟩ := ite_ex h
                  refine r_imp_at (R' := Res.disk Try.prog dI v26 o29.2) 1 rfl (diskif_disk he32) ?_
                  obtain ⟨r33, hr33, h⟩ := bind_ex h
                  refine r_call (Lo := [Res.disk Try.prog dI v3 r25.2.2, Res.diskif Try.prog dI v10 o21.2.2 r9.1, Res.var b1 41 Y41 a1]) (disk_Disk_Copy_ok v26 o29.2 _ hr33) (by kernel_rfl) ((List.perm_middle (a := Res.disk Try.prog dI v26 o29.2) (l₁ := [Res.disk Try.prog dI v3 r25.2.2]) (l₂ := [Res.diskif Try.prog dI v10 o21.2.2 r9.1, Res.var b1 41 Y41 a1])).trans (.cons _ (List.Perm.refl _))) rfl rfl fun v34 => ?_
                  refine r_pure tabOk 1 [2, 9, 10] (E' := [(2, .one (.int .i64) n24), (9, .one (.raw (.pointer none)) v26), (10, .one (.raw (.pointer none)) v34)]) rfl ?_
                  refine r_nil ?_
                  refine r_then ?_
                  refine r_seq ?_
                  refine r_region ?_
                  refine r_pure tabOk 3 [2, 9, 10, 71, 73] (E' := [(2, .one (.int .i64) n24), (9, .one (.raw (.pointer none)) v26), (10, .one (.raw (.pointer none)) v34), (71, .one (.raw (.pointer none)) v34), (73, .one (.int .i64) (IntKind.wrap .i64 (n24 + 1)))]) rfl ?_
                  obtain ⟨he35, h⟩ := ite_ex h
                  refine r_imp_at (R' := Res.disk Try.prog dI v34 r33.2.1) 1 rfl (diskif_disk he35) ?_
                  obtain ⟨r36, hr36, h⟩ := bind_ex h
                  refine r_call (Lo := [Res.disk Try.prog dI v26 r33.2.2, Res.disk Try.prog dI v3 r25.2.2, Res.diskif Try.prog dI v10 o21.2.2 r9.1, Res.var b1 41 Y41 a1]) (disk_Disk_Arm_ok v34 r33.2.1 (IntKind.wrap .i64 (n24 + 1)) 2 _ hr36) (by kernel_rfl) ((List.perm_middle (a := Res.disk Try.prog dI v34 r33.2.1) (l₁ := [Res.disk Try.prog dI v26 r33.2.2]) (l₂ := [Res.disk Try.prog dI v3 r25.2.2, Res.diskif Try.prog dI v10 o21.2.2 r9.1, Res.var b1 41 Y41 a1])).trans (.cons _ (List.Perm.refl _))) rfl rfl fun _ => ?_
                  refine r_nil ?_
                  refine r_then ?_
                  obtain ⟨k37, hk37, h⟩ := bnd_ex h
                  refine r_joink (γ := Unit) (fun (o38 : DiskS) _ => [(2, .one (.int .i64) n24), (9, .one (.raw (.pointer none)) v26), (10, .one (.raw (.pointer none)) v34)]) (fun (o38 : DiskS) _ => [Res.disk Try.prog dI v34 o38, Res.disk Try.prog dI v26 r33.2.2, Res.disk Try.prog dI v3 r25.2.2, Res.diskif Try.prog dI v10 o21.2.2 r9.1, Res.var b1 41 Y41 a1]) k37 r ?_ ?_
                  · refine r_seq ?_
                    refine r_region ?_
                    refine r_pure tabOk 1 [2, 9, 10, 11] (E' := [(2, .one (.int .i64) n24), (9, .one (.raw (.pointer none)) v26), (10, .one (.raw (.pointer none)) v34), (11, .one (.int .i64) 0)]) rfl ?_
                    refine r_nil ?_
                    refine r_then ?_
                    refine r_block ?_
                    refine r_less [2, 9, 10, 11] rfl ?_
                    refine r_loopg (γ := Unit) (fun (s79 : Int × DiskS) _ => [(2, .one (.int .i64) n24), (9, .one (.raw (.pointer none)) v26), (10, .one (.raw (.pointer none)) v34), (11, .one (.int .i64) s79.1)]) (fun (s79 : Int × DiskS) _ => [Res.disk Try.prog dI v34 s79.2, Res.disk Try.prog dI v26 r33.2.2, Res.disk Try.prog dI v3 r25.2.2, Res.diskif Try.prog dI v10 o21.2.2 r9.1, Res.var b1 41 Y41 a1]) (escrowlaw04_DiskRefused_l1 n24 k37) (0, r36) () h rfl rfl ?_
                    clear h
                    intro m80 s79 gg h
                    cases m80 with
                    | zero => cases h
                    | succ m80 =>
                    simp only [escrowlaw04_DiskRefused_l1] at h
                    refine r_seq ?_
                    refine r_seq ?_
                    refine r_region ?_
                    refine r_pure tabOk 3 [2, 9, 10, 11, 77] (E' := [(2, .one (.int .i64) n24), (9, .one (.raw (.pointer none)) v26), (10, .one (.raw (.pointer none)) v34), (11, .one (.int .i64) s79.1), (77, .one .bool (decide (s79.1 ≤ n24)))]) rfl ?_
                    refine r_nil ?_
                    refine r_then ?_
                    refine r_if (b := (decide (s79.1 ≤ n24))) rfl (fun hc => ?_) (fun hc => ?_)
                    · rw [if_pos hc] at h
                      refine r_skip ?_
                      refine r_then ?_
                      refine r_seq ?_
                      refine r_block ?_
                      refine r_seq ?_
                      refine r_region ?_
                      refine r_pure tabOk 1 [2, 9, 10, 11, 80] (E' := [(2, .one (.int .i64) n24), (9, .one (.raw (.pointer none)) v26), (10, .one (.raw (.pointer none)) v34), (11, .one (.int .i64) s79.1), (80, .one (.raw (.pointer none)) v34)]) rfl ?_
                      obtain ⟨r81, hr81, h⟩ := bind_ex h
                      refine r_call (Lo := [Res.disk Try.prog dI v26 r33.2.2, Res.disk Try.prog dI v3 r25.2.2, Res.diskif Try.prog dI v10 o21.2.2 r9.1, Res.var b1 41 Y41 a1]) (disk_Disk_Write_ok v34 s79.2 [97, 114, 109, 101, 100] 0 [49] _ hr81) (by kernel_rfl) (List.Perm.refl _) rfl rfl fun _ => ?_
                      refine r_pure tabOk 2 [2, 9, 10, 11, 83] (E' := [(2, .one (.int .i64) n24), (9, .one (.raw (.pointer none)) v26), (10, .one (.raw (.pointer none)) v34), (11, .one (.int .i64) s79.1), (83, .one .bool (r81.1 != 0))]) rfl ?_
                      obtain ⟨b82, hbb82, h⟩ := bnd_ex h
                      rw [hbb82]
                      obtain ⟨k83, hk83, h⟩ := bnd_ex h
                      refine r_lsplitk (γ := Unit) 8 (fun (o84 : Bool × DiskS) _ => [(2, .one (.int .i64) n24), (9, .one (.raw (.pointer none)) v26), (10, .one (.raw (.pointer none)) v34), (11, .one (.int .i64) s79.1), (91, .one .bool o84.1)]) (fun (o84 : Bool × DiskS) _ => [Res.disk Try.prog dI v34 o84.2, Res.disk Try.prog dI v26 r33.2.2, Res.disk Try.prog dI v3 r25.2.2, Res.diskif Try.prog dI v10 o21.2.2 r9.1, Res.var b1 41 Y41 a1]) k83 r ?_ ?_
                      · rcases Bool.eq_false_or_eq_true b82 with hh | hh
                        · rw [hh] at h ⊢
                          rw [if_pos rfl] at h
                          refine r_pure tabOk 8 [2, 9, 10, 11, 91] (E' := [(2, .one (.int .i64) n24), (9, .one (.raw (.pointer none)) v26), (10, .one (.raw (.pointer none)) v34), (11, .one (.int .i64) s79.1), (91, .one .bool true)]) rfl ?_
                          refine r_nil ?_
                          refine r_less [2, 9, 10, 11, 91] rfl ?_
                          refine r_then ?_
                          exact r_meetk (true, r81.2) () h rfl rfl
                        · rw [hh] at h ⊢
                          rw [if_neg (by decide)] at h
                          refine r_pure tabOk 1 [2, 9, 10, 11, 83, 84] (E' := [(2, .one (.int .i64) n24), (9, .one (.raw (.pointer none)) v26), (10, .one (.raw (.pointer none)) v34), (11, .one (.int .i64) s79.1), (83, .one .bool false), (84, .one (.raw (.pointer none)) v34)]) rfl ?_
                          refine r_guard (by rfl) rfl ?_
                          obtain ⟨r85, hr85, h⟩ := bind_ex h
                          refine r_call (Lo := [Res.disk Try.prog dI v26 r33.2.2, Res.disk Try.prog dI v3 r25.2.2, Res.diskif Try.prog dI v10 o21.2.2 r9.1, Res.var b1 41 Y41 a1]) (disk_Disk_Sync_ok v34 r81.2 [97, 114, 109, 101, 100] _ hr85) (by kernel_rfl) (List.Perm.refl _) rfl rfl fun _ => ?_
                          refine r_pure tabOk 4 [2, 9, 10, 11, 83, 86, 89] (E' := [(2, .one (.int .i64) n24), (9, .one (.raw (.pointer none)) v26), (10, .one (.raw (.pointer none)) v34), (11, .one (.int .i64) s79.1), (83, .one .bool false), (86, .one .bool (r85.1 == 0)), (89, .one .bool (decide (s79.1 < n24)))]) rfl ?_
                          refine r_guard (by rfl) rfl ?_
                          refine y (y_bne rfl rfl Try.underlying4) rfl ?_
                          refine r_pure tabOk 1 [2, 9, 10, 11, 91] (E' := [(2, .one (.int .i64) n24), (9, .one (.raw (.pointer none)) v26), (10, .one (.raw (.pointer none)) v34), (11, .one (.int .i64) s79.1), (91, .one .bool ((r85.1 == 0) != (decide (s79.1 < n24))))]) rfl ?_
                          refine r_nil ?_
                          refine r_less [2, 9, 10, 11, 91] rfl ?_
                          refine r_then ?_
                          exact r_meetk (((r85.1 == 0) != (decide (s79.1 < n24))), r85.2) () h rfl rfl
                      · intro o84 _ h
                        rw [← hk83] at h
                        try dsimp only at h
                        refine r_nil ?_
                        refine r_then ?_
                        refine r_if (b := o84.1) rfl (fun hc => ?_) (fun hc => ?_)
                        · rw [if_pos hc] at h
                          refine r_seq ?_
                          refine r_region ?_
                          refine r_pure tabOk 1 [6] (E' := [(6, .one .bool false)]) rfl ?_
                          refine r_nil ?_
                          refine r_then ?_
                          refine r_ret ?_
                          refine t_block ?_
                          refine t_then ?_
                          refine t_then ?_
                          refine t_block ?_
                          refine t_then ?_
                          obtain rfl := Option.some.inj h
                          exact r_ret1 rfl (.tmp rfl) (fun _ _ g => g) (fun _ _ _ => List.nil_sublist _)
                        · rw [if_neg (ne_true_of_eq_false hc)] at h
                          refine r_skip ?_
                          refine r_inblock ?_
                          refine r_then ?_
                          refine r_region ?_
                          refine r_pure tabOk 3 [2, 9, 10, 11] (E' := [(2, .one (.int .i64) n24), (9, .one (.raw (.pointer none)) v26), (10, .one (.raw (.pointer none)) v34), (11, .one (.int .i64) (IntKind.wrap .i64 (s79.1 + 1)))]) rfl ?_
                          obtain ⟨i86, hi86, h⟩ := bnd_ex h
                          rw [hi86]
                          refine r_nil ?_
                          refine r_then ?_
                          refine r_less [2, 9, 10, 11] rfl ?_
                          exact r_backg (i86, o84.2) () (Nat.lt_succ_self _) h rfl rfl
                    · rw [if_neg (ne_true_of_eq_false hc)] at h
                      refine r_exit ?_
                      refine e_then ?_
                      refine e_then ?_
                      refine e_eq ?_
                      refine r_then ?_
                      refine r_less [2, 9, 10] rfl ?_
                      exact r_meetk s79.2 () h rfl rfl
                  · intro o38 gg h
                    rw [← hk37] at h
                    try dsimp only at h
                    refine r_seq ?_
                    refine r_seq ?_
                    refine r_region ?_
                    refine r_pure tabOk 1 [2, 9, 10, 92] (E' := [(2, .one (.int .i64) n24), (9, .one (.raw (.pointer none)) v26), (10, .one (.raw (.pointer none)) v34), (92, .one (.raw (.pointer none)) v34)]) rfl ?_
                    obtain ⟨r39, hr39, h⟩ := bind_ex h
                    refine r_call (Lo := [Res.disk Try.prog dI v26 r33.2.2, Res.disk Try.prog dI v3 r25.2.2, Res.diskif Try.prog dI v10 o21.2.2 r9.1, Res.var b1 41 Y41 a1]) (disk_Disk_Write_ok v34 o38 [97, 114, 109, 101, 100] 0 [50] _ hr39) (by kernel_rfl) (List.Perm.refl _) rfl rfl fun _ => ?_
                    refine r_pure tabOk 2 [2, 9, 10, 95] (E' := [(2, .one (.int .i64) n24), (9, .one (.raw (.pointer none)) v26), (10, .one (.raw (.pointer none)) v34), (95, .one .bool (r39.1 != 0))]) rfl ?_
                    obtain ⟨b40, hbb40, h⟩ := bnd_ex h
                    rw [hbb40]
                    obtain ⟨k41, hk41, h⟩ := bnd_ex h
                    refine r_lsplitk (γ := Unit) 5 (fun (o42 : Bool) _ => [(2, .one (.int .i64) n24), (9, .one (.raw (.pointer none)) v26), (10, .one (.raw (.pointer none)) v34), (100, .one .bool o42)]) (fun _ _ => [Res.disk Try.prog dI v34 r39.2, Res.disk Try.prog dI v26 r33.2.2, Res.disk Try.prog dI v3 r25.2.2, Res.diskif Try.prog dI v10 o21.2.2 r9.1, Res.var b1 41 Y41 a1]) k41 r ?_ ?_
                    · rcases Bool.eq_false_or_eq_true b40 with hh | hh
                      · rw [hh] at h ⊢
                        rw [if_pos rfl] at h
                        refine r_pure tabOk 5 [2, 9, 10, 100] (E' := [(2, .one (.int .i64) n24), (9, .one (.raw (.pointer none)) v26), (10, .one (.raw (.pointer none)) v34), (100, .one .bool true)]) rfl ?_
                        refine r_nil ?_
                        refine r_less [2, 9, 10, 100] rfl ?_
                        refine r_then ?_
                        exact r_meetk true () h rfl rfl
                      · rw [hh] at h ⊢
                        rw [if_neg (by decide)] at h
                        refine r_pure tabOk 1 [2, 9, 10, 95, 96] (E' := [(2, .one (.int .i64) n24), (9, .one (.raw (.pointer none)) v26), (10, .one (.raw (.pointer none)) v34), (95, .one .bool false), (96, .one (.raw (.pointer none)) v34)]) rfl ?_
                        refine r_guard (by rfl) rfl ?_
                        obtain ⟨r43, hr43, h⟩ := bind_ex h
                        refine r_call (Lo := [Res.disk Try.prog dI v26 r33.2.2, Res.disk Try.prog dI v3 r25.2.2, Res.diskif Try.prog dI v10 o21.2.2 r9.1, Res.var b1 41 Y41 a1]) (disk_Disk_Dirty_ok v34 r39.2 [97, 114, 109, 101, 100] _ hr43) (by kernel_rfl) (List.Perm.refl _) rfl rfl fun v44 => ?_
                        refine r_guard (by rfl) rfl ?_
                        refine r_freeze (i := 1) (k := 97) rfl rfl ?_
                        obtain ⟨r45, hr45, h⟩ := bind_ex h
                        refine r_calls (escrowlaw04_member_ok r43 0 _ hr45) (by kernel_rfl) rfl rfl ?_
                        refine r_pure tabOk 2 [2, 9, 10, 100] (E' := [(2, .one (.int .i64) n24), (9, .one (.raw (.pointer none)) v26), (10, .one (.raw (.pointer none)) v34), (100, .one .bool (!r45))]) rfl ?_
                        refine r_nil ?_
                        refine r_less [2, 9, 10, 100] rfl ?_
                        refine r_then ?_
                        exact r_meetk (!r45) () h rfl rfl
                    · intro o42 _ h
                      rw [← hk41] at h
                      try dsimp only at h
                      refine r_pure tabOk 1 [2, 9, 10, 101] (E' := [(2, .one (.int .i64) n24), (9, .one (.raw (.pointer none)) v26), (10, .one (.raw (.pointer none)) v34), (101, .one .bool o42)]) rfl ?_
                      obtain ⟨k47, hk47, h⟩ := bnd_ex h
                      refine r_lsplitk (γ := Unit) 4 (fun (o48 : Bool × DiskS) _ => [(2, .one (.int .i64) n24), (9, .one (.raw (.pointer none)) v26), (105, .one .bool o48.1)]) (fun (o48 : Bool × DiskS) _ => [Res.disk Try.prog dI v34 o48.2, Res.disk Try.prog dI v26 r33.2.2, Res.disk Try.prog dI v3 r25.2.2, Res.diskif Try.prog dI v10 o21.2.2 r9.1, Res.var b1 41 Y41 a1]) k47 r ?_ ?_
                      · rcases Bool.eq_false_or_eq_true o42 with hh | hh
                        · rw [hh] at h ⊢
                          rw [if_pos rfl] at h
                          refine r_pure tabOk 4 [2, 9, 105] (E' := [(2, .one (.int .i64) n24), (9, .one (.raw (.pointer none)) v26), (105, .one .bool true)]) rfl ?_
                          refine r_nil ?_
                          refine r_less [2, 9, 105] rfl ?_
                          refine r_then ?_
                          exact r_meetk (true, r39.2) () h rfl rfl
                        · rw [hh] at h ⊢
                          rw [if_neg (by decide)] at h
                          refine r_pure tabOk 1 [2, 9, 101, 102] (E' := [(2, .one (.int .i64) n24), (9, .one (.raw (.pointer none)) v26), (101, .one .bool false), (102, .one (.raw (.pointer none)) v34)]) rfl ?_
                          refine r_guard (by rfl) rfl ?_
                          obtain ⟨r49, hr49, h⟩ := bind_ex h
                          refine r_call (Lo := [Res.disk Try.prog dI v26 r33.2.2, Res.disk Try.prog dI v3 r25.2.2, Res.diskif Try.prog dI v10 o21.2.2 r9.1, Res.var b1 41 Y41 a1]) (disk_Disk_Sync_ok v34 r39.2 [97, 114, 109, 101, 100] _ hr49) (by kernel_rfl) (List.Perm.refl _) rfl rfl fun _ => ?_
                          refine r_pure tabOk 2 [2, 9, 105] (E' := [(2, .one (.int .i64) n24), (9, .one (.raw (.pointer none)) v26), (105, .one .bool (r49.1 != 0))]) rfl ?_
                          refine r_nil ?_
                          refine r_less [2, 9, 105] rfl ?_
                          refine r_then ?_
                          exact r_meetk ((r49.1 != 0), r49.2) () h rfl rfl
                      · intro o48 _ h
                        rw [← hk47] at h
                        try dsimp only at h
                        refine r_nil ?_
                        refine r_then ?_
                        refine r_if (b := o48.1) rfl (fun hc => ?_) (fun hc => ?_)
                        · rw [if_pos hc] at h
                          refine r_seq ?_
                          refine r_region ?_
                          refine r_pure tabOk 1 [6] (E' := [(6, .one .bool false)]) rfl ?_
                          refine r_nil ?_
                          refine r_then ?_
                          refine r_ret ?_
                          refine t_then ?_
                          obtain rfl := Option.some.inj h
                          exact r_ret1 rfl (.tmp rfl) (fun _ _ g => g) (fun _ _ _ => List.nil_sublist _)
                        · rw [if_neg (ne_true_of_eq_false hc)] at h
                          refine r_skip ?_
                          refine r_then ?_
                          refine r_seq ?_
                          refine r_region ?_
                          refine r_pure tabOk 1 [2, 9, 106] (E' := [(2, .one (.int .i64) n24), (9, .one (.raw (.pointer none)) v26), (106, .one (.raw (.pointer none)) v26)]) rfl ?_
                          obtain ⟨r50, hr50, h⟩ := bind_ex h
                          refine r_call (Lo := [Res.disk Try.prog dI v34 o48.2, Res.disk Try.prog dI v3 r25.2.2, Res.diskif Try.prog dI v10 o21.2.2 r9.1, Res.var b1 41 Y41 a1]) (disk_Disk_Copy_ok v26 r33.2.2 _ hr50) (by kernel_rfl) ((List.perm_middle (a := Res.disk Try.prog dI v26 r33.2.2) (l₁ := [Res.disk Try.prog dI v34 o48.2]) (l₂ := [Res.disk Try.prog dI v3 r25.2.2, Res.diskif Try.prog dI v10 o21.2.2 r9.1, Res.var b1 41 Y41 a1])).trans (.cons _ (List.Perm.refl _))) rfl rfl fun v51 => ?_
                          refine r_pure tabOk 1 [2, 9, 12] (E' := [(2, .one (.int .i64) n24), (9, .one (.raw (.pointer none)) v26), (12, .one (.raw (.pointer none)) v51)]) rfl ?_
                          refine r_nil ?_
                          refine r_then ?_
                          refine r_seq ?_
                          refine r_region ?_
                          refine r_pure tabOk 3 [2, 9, 12, 108, 110] (E' := [(2, .one (.int .i64) n24), (9, .one (.raw (.pointer none)) v26), (12, .one (.raw (.pointer none)) v51), (108, .one (.raw (.pointer none)) v51), (110, .one (.int .i64) (IntKind.wrap .i64 (n24 + 1)))]) rfl ?_
                          obtain ⟨he52, h⟩ := ite_ex h
                          refine r_imp_at (R' := Res.disk Try.prog dI v51 r50.2.1) 1 rfl (diskif_disk he52) ?_
                          obtain ⟨r53, hr53, h⟩ := bind_ex h
                          refine r_call (Lo := [Res.disk Try.prog dI v26 r50.2.2, Res.disk Try.prog dI v34 o48.2, Res.disk Try.prog dI v3 r25.2.2, Res.diskif Try.prog dI v10 o21.2.2 r9.1, Res.var b1 41 Y41 a1]) (disk_Disk_Arm_ok v51 r50.2.1 (IntKind.wrap .i64 (n24 + 1)) 0 _ hr53) (by kernel_rfl) ((List.perm_middle (a := Res.disk Try.prog dI v51 r50.2.1) (l₁ := [Res.disk Try.prog dI v26 r50.2.2]) (l₂ := [Res.disk Try.prog dI v34 o48.2, Res.disk Try.prog dI v3 r25.2.2, Res.diskif Try.prog dI v10 o21.2.2 r9.1, Res.var b1 41 Y41 a1])).trans (.cons _ (List.Perm.refl _))) rfl rfl fun _ => ?_
                          refine r_nil ?_
                          refine r_then ?_
                          obtain ⟨k54, hk54, h⟩ := bnd_ex h
                          refine r_joink (γ := Unit) (fun (o55 : DiskS) _ => [(2, .one (.int .i64) n24), (9, .one (.raw (.pointer none)) v26), (12, .one (.raw (.pointer none)) v51)]) (fun (o55 : DiskS) _ => [Res.disk Try.prog dI v51 o55, Res.disk Try.prog dI v26 r50.2.2, Res.disk Try.prog dI v34 o48.2, Res.disk Try.prog dI v3 r25.2.2, Res.diskif Try.prog dI v10 o21.2.2 r9.1, Res.var b1 41 Y41 a1]) k54 r ?_ ?_
                          · refine r_seq ?_
                            refine r_region ?_
                            refine r_pure tabOk 1 [2, 9, 12, 13] (E' := [(2, .one (.int .i64) n24), (9, .one (.raw (.pointer none)) v26), (12, .one (.raw (.pointer none)) v51), (13, .one (.int .i64) 0)]) rfl ?_
                            refine r_nil ?_
                            refine r_then ?_
                            refine r_block ?_
                            refine r_less [2, 9, 12, 13] rfl ?_
                            refine r_loopg (γ := Unit) (fun (s68 : Int × DiskS) _ => [(2, .one (.int .i64) n24), (9, .one (.raw (.pointer none)) v26), (12, .one (.raw (.pointer none)) v51), (13, .one (.int .i64) s68.1)]) (fun (s68 : Int × DiskS) _ => [Res.disk Try.prog dI v51 s68.2, Res.disk Try.prog dI v26 r50.2.2, Res.disk Try.prog dI v34 o48.2, Res.disk Try.prog dI v3 r25.2.2, Res.diskif Try.prog dI v10 o21.2.2 r9.1, Res.var b1 41 Y41 a1]) (escrowlaw04_DiskRefused_l0 n24 k54) (0, r53) () h rfl rfl ?_
                            clear h
                            intro m69 s68 gg h
                            cases m69 with
                            | zero => cases h
                            | succ m69 =>
                            simp only [escrowlaw04_DiskRefused_l0] at h
                            refine r_seq ?_
                            refine r_seq ?_
                            refine r_region ?_
                            refine r_pure tabOk 3 [2, 9, 12, 13, 114] (E' := [(2, .one (.int .i64) n24), (9, .one (.raw (.pointer none)) v26), (12, .one (.raw (.pointer none)) v51), (13, .one (.int .i64) s68.1), (114, .one .bool (decide (s68.1 ≤ n24)))]) rfl ?_
                            refine r_nil ?_
                            refine r_then ?_
                            refine r_if (b := (decide (s68.1 ≤ n24))) rfl (fun hc => ?_) (fun hc => ?_)
                            · rw [if_pos hc] at h
                              refine r_skip ?_
                              refine r_then ?_
                              refine r_seq ?_
                              refine r_block ?_
                              refine r_seq ?_
                              refine r_region ?_
                              refine r_pure tabOk 1 [2, 9, 12, 13, 117] (E' := [(2, .one (.int .i64) n24), (9, .one (.raw (.pointer none)) v26), (12, .one (.raw (.pointer none)) v51), (13, .one (.int .i64) s68.1), (117, .one (.raw (.pointer none)) v51)]) rfl ?_
                              obtain ⟨r70, hr70, h⟩ := bind_ex h
                              refine r_call (Lo := [Res.disk Try.prog dI v26 r50.2.2, Res.disk Try.prog dI v34 o48.2, Res.disk Try.prog dI v3 r25.2.2, Res.diskif Try.prog dI v10 o21.2.2 r9.1, Res.var b1 41 Y41 a1]) (disk_Disk_Write_ok v51 s68.2 [97, 114, 109, 101, 100] 0 [51] _ hr70) (by kernel_rfl) (List.Perm.refl _) rfl rfl fun _ => ?_
                              refine r_pure tabOk 1 [2, 9, 12, 13, 14] (E' := [(2, .one (.int .i64) n24), (9, .one (.raw (.pointer none)) v26), (12, .one (.raw (.pointer none)) v51), (13, .one (.int .i64) s68.1), (14, .one (.int .i64) r70.1)]) rfl ?_
                              refine r_nil ?_
                              refine r_then ?_
                              refine r_seq ?_
                              refine r_region ?_
                              refine r_pure tabOk 5 [2, 9, 12, 13, 14, 120, 123] (E' := [(2, .one (.int .i64) n24), (9, .one (.raw (.pointer none)) v26), (12, .one (.raw (.pointer none)) v51), (13, .one (.int .i64) s68.1), (14, .one (.int .i64) r70.1), (120, .one .bool (r70.1 == 0)), (123, .one .bool (decide (s68.1 < n24)))]) rfl ?_
                              refine y (y_bne rfl rfl Try.underlying4) rfl ?_
                              refine r_pure tabOk 1 [2, 9, 12, 13, 14, 125] (E' := [(2, .one (.int .i64) n24), (9, .one (.raw (.pointer none)) v26), (12, .one (.raw (.pointer none)) v51), (13, .one (.int .i64) s68.1), (14, .one (.int .i64) r70.1), (125, .one .bool ((r70.1 == 0) != (decide (s68.1 < n24))))]) rfl ?_
                              obtain ⟨b71, hbb71, h⟩ := bnd_ex h
                              rw [hbb71]
                              obtain ⟨k72, hk72, h⟩ := bnd_ex h
                              refine r_lsplitk (γ := Unit) 7 (fun (o73 : Bool) _ => [(2, .one (.int .i64) n24), (9, .one (.raw (.pointer none)) v26), (12, .one (.raw (.pointer none)) v51), (13, .one (.int .i64) s68.1), (132, .one .bool o73)]) (fun _ _ => [Res.disk Try.prog dI v51 r70.2, Res.disk Try.prog dI v26 r50.2.2, Res.disk Try.prog dI v34 o48.2, Res.disk Try.prog dI v3 r25.2.2, Res.diskif Try.prog dI v10 o21.2.2 r9.1, Res.var b1 41 Y41 a1]) k72 r ?_ ?_
                              · rcases Bool.eq_false_or_eq_true b71 with hh | hh
                                · rw [hh] at h ⊢
                                  rw [if_pos rfl] at h
                                  refine r_pure tabOk 7 [2, 9, 12, 13, 132] (E' := [(2, .one (.int .i64) n24), (9, .one (.raw (.pointer none)) v26), (12, .one (.raw (.pointer none)) v51), (13, .one (.int .i64) s68.1), (132, .one .bool true)]) rfl ?_
                                  refine r_nil ?_
                                  refine r_less [2, 9, 12, 13, 132] rfl ?_
                                  refine r_then ?_
                                  exact r_meetk true () h rfl rfl
                                · rw [hh] at h ⊢
                                  rw [if_neg (by decide)] at h
                                  refine r_pure tabOk 3 [2, 9, 12, 13, 14, 125, 128] (E' := [(2, .one (.int .i64) n24), (9, .one (.raw (.pointer none)) v26), (12, .one (.raw (.pointer none)) v51), (13, .one (.int .i64) s68.1), (14, .one (.int .i64) r70.1), (125, .one .bool false), (128, .one .bool (r70.1 != 0))]) rfl ?_
                                  obtain ⟨b74, hbb74, h⟩ := bnd_ex h
                                  rw [hbb74]
                                  refine r_lsplit (γ := Unit) 3 (fun _ => [(2, .one (.int .i64) n24), (9, .one (.raw (.pointer none)) v26), (12, .one (.raw (.pointer none)) v51), (13, .one (.int .i64) s68.1), (125, .one .bool false), (131, .one .bool (b74 && (r70.1 != 40)))]) (fun _ => [Res.disk Try.prog dI v51 r70.2, Res.disk Try.prog dI v26 r50.2.2, Res.disk Try.prog dI v34 o48.2, Res.disk Try.prog dI v3 r25.2.2, Res.diskif Try.prog dI v10 o21.2.2 r9.1, Res.var b1 41 Y41 a1]) ?_ (fun _ => ?_)
                                  · clear h
                                    cases b74 with
                                    | true =>
                                    refine r_pure tabOk 3 [2, 9, 12, 13, 125, 131] (E' := [(2, .one (.int .i64) n24), (9, .one (.raw (.pointer none)) v26), (12, .one (.raw (.pointer none)) v51), (13, .one (.int .i64) s68.1), (125, .one .bool false), (131, .one .bool (r70.1 != 40))]) rfl ?_
                                    refine r_nil ?_
                                    refine r_then ?_
                                    exact r_meetg () rfl rfl
                                    | false =>
                                    refine r_pure tabOk 3 [2, 9, 12, 13, 125, 131] (E' := [(2, .one (.int .i64) n24), (9, .one (.raw (.pointer none)) v26), (12, .one (.raw (.pointer none)) v51), (13, .one (.int .i64) s68.1), (125, .one .bool false), (131, .one .bool false)]) rfl ?_
                                    refine r_nil ?_
                                    refine r_then ?_
                                    exact r_meetg () rfl rfl
                                  refine r_pure tabOk 1 [2, 9, 12, 13, 132] (E' := [(2, .one (.int .i64) n24), (9, .one (.raw (.pointer none)) v26), (12, .one (.raw (.pointer none)) v51), (13, .one (.int .i64) s68.1), (132, .one .bool (b74 && (r70.1 != 40)))]) rfl ?_
                                  refine r_nil ?_
                                  refine r_less [2, 9, 12, 13, 132] rfl ?_
                                  refine r_then ?_
                                  exact r_meetk (b74 && (r70.1 != 40)) () h rfl rfl
                              · intro o73 _ h
                                rw [← hk72] at h
                                try dsimp only at h
                                refine r_nil ?_
                                refine r_then ?_
                                refine r_if (b := o73) rfl (fun hc => ?_) (fun hc => ?_)
                                · rw [if_pos hc] at h
                                  refine r_seq ?_
                                  refine r_region ?_
                                  refine r_pure tabOk 1 [6] (E' := [(6, .one .bool false)]) rfl ?_
                                  refine r_nil ?_
                                  refine r_then ?_
                                  refine r_ret ?_
                                  refine t_block ?_
                                  refine t_then ?_
                                  refine t_then ?_
                                  refine t_block ?_
                                  refine t_then ?_
                                  obtain rfl := Option.some.inj h
                                  exact r_ret1 rfl (.tmp rfl) (fun _ _ g => g) (fun _ _ _ => List.nil_sublist _)
                                · rw [if_neg (ne_true_of_eq_false hc)] at h
                                  refine r_skip ?_
                                  refine r_inblock ?_
                                  refine r_then ?_
                                  refine r_region ?_
                                  refine r_pure tabOk 3 [2, 9, 12, 13] (E' := [(2, .one (.int .i64) n24), (9, .one (.raw (.pointer none)) v26), (12, .one (.raw (.pointer none)) v51), (13, .one (.int .i64) (IntKind.wrap .i64 (s68.1 + 1)))]) rfl ?_
                                  obtain ⟨i75, hi75, h⟩ := bnd_ex h
                                  rw [hi75]
                                  refine r_nil ?_
                                  refine r_then ?_
                                  refine r_less [2, 9, 12, 13] rfl ?_
                                  exact r_backg (i75, r70.2) () (Nat.lt_succ_self _) h rfl rfl
                            · rw [if_neg (ne_true_of_eq_false hc)] at h
                              refine r_exit ?_
                              refine e_then ?_
                              refine e_then ?_
                              refine e_eq ?_
                              refine r_then ?_
                              refine r_less [2, 9, 12] rfl ?_
                              exact r_meetk s68.2 () h rfl rfl
                          · intro o55 gg h
                            rw [← hk54] at h
                            try dsimp only at h
                            refine r_seq ?_
                            refine r_region ?_
                            refine r_pure tabOk 1 [2, 9, 12, 133] (E' := [(2, .one (.int .i64) n24), (9, .one (.raw (.pointer none)) v26), (12, .one (.raw (.pointer none)) v51), (133, .one (.raw (.pointer none)) v51)]) rfl ?_
                            obtain ⟨r56, hr56, h⟩ := bind_ex h
                            refine r_call (Lo := [Res.disk Try.prog dI v26 r50.2.2, Res.disk Try.prog dI v34 o48.2, Res.disk Try.prog dI v3 r25.2.2, Res.diskif Try.prog dI v10 o21.2.2 r9.1, Res.var b1 41 Y41 a1]) (escrowlaw04_all_ok v51 o55 [97, 114, 109, 101, 100] _ hr56) (by kernel_rfl) (List.Perm.refl _) rfl rfl fun _ => ?_
                            refine r_pure tabOk 1 [2, 9, 12, 15] (E' := [(2, .one (.int .i64) n24), (9, .one (.raw (.pointer none)) v26), (12, .one (.raw (.pointer none)) v51), (15, .one .str r56)]) rfl ?_
                            refine r_nil ?_
                            refine r_then ?_
                            refine r_seq ?_
                            refine r_region ?_
                            refine r_pure tabOk 3 [2, 9, 12, 136, 137] (E' := [(2, .one (.int .i64) n24), (9, .one (.raw (.pointer none)) v26), (12, .one (.raw (.pointer none)) v51), (136, .one .bool (decide (n24 > 0))), (137, .one .str r56)]) rfl ?_
                            obtain ⟨hc, h⟩ := ite_ex h
                            refine y (y_sub (i := (0 : Int)) (j := 1) tabOk rfl rfl rfl hc.1 hc.2.1 hc.2.2 rfl) rfl ?_
                            refine r_pure tabOk 1 [2, 9, 12, 136, 139] (E' := [(2, .one (.int .i64) n24), (9, .one (.raw (.pointer none)) v26), (12, .one (.raw (.pointer none)) v51), (136, .one .bool (decide (n24 > 0))), (139, .one .bool ((List.drop 0 (List.take 1 r56)) == [51]))]) rfl ?_
                            refine y (y_beq rfl rfl Try.underlying4) rfl ?_
                            refine r_pure tabOk 1 [2, 9, 12, 141] (E' := [(2, .one (.int .i64) n24), (9, .one (.raw (.pointer none)) v26), (12, .one (.raw (.pointer none)) v51), (141, .one .bool ((decide (n24 > 0)) == ((List.drop 0 (List.take 1 r56)) == [51])))]) rfl ?_
                            obtain ⟨b57, hbb57, h⟩ := bnd_ex h
                            rw [hbb57]
                            obtain ⟨k58, hk58, h⟩ := bnd_ex h
                            refine r_lsplitk (γ := Unit) 4 (fun (o59 : Bool × DiskS) _ => [(2, .one (.int .i64) n24), (9, .one (.raw (.pointer none)) v26), (145, .one .bool o59.1)]) (fun (o59 : Bool × DiskS) _ => [Res.disk Try.prog dI v51 o59.2, Res.disk Try.prog dI v26 r50.2.2, Res.disk Try.prog dI v34 o48.2, Res.disk Try.prog dI v3 r25.2.2, Res.diskif Try.prog dI v10 o21.2.2 r9.1, Res.var b1 41 Y41 a1]) k58 r ?_ ?_
                            · rcases Bool.eq_false_or_eq_true b57 with hh | hh
                              · rw [hh] at h ⊢
                                rw [if_pos rfl] at h
                                refine r_pure tabOk 1 [2, 9, 141, 142] (E' := [(2, .one (.int .i64) n24), (9, .one (.raw (.pointer none)) v26), (141, .one .bool true), (142, .one (.raw (.pointer none)) v51)]) rfl ?_
                                refine r_guard (by rfl) rfl ?_
                                obtain ⟨r60, hr60, h⟩ := bind_ex h
                                refine r_call (Lo := [Res.disk Try.prog dI v26 r50.2.2, Res.disk Try.prog dI v34 o48.2, Res.disk Try.prog dI v3 r25.2.2, Res.diskif Try.prog dI v10 o21.2.2 r9.1, Res.var b1 41 Y41 a1]) (disk_Disk_Write_ok v51 o55 [97, 114, 109, 101, 100] 0 [52] _ hr60) (by kernel_rfl) (List.Perm.refl _) rfl rfl fun _ => ?_
                                refine r_pure tabOk 2 [2, 9, 145] (E' := [(2, .one (.int .i64) n24), (9, .one (.raw (.pointer none)) v26), (145, .one .bool (r60.1 == 0))]) rfl ?_
                                refine r_nil ?_
                                refine r_less [2, 9, 145] rfl ?_
                                refine r_then ?_
                                exact r_meetk ((r60.1 == 0), r60.2) () h rfl rfl
                              · rw [hh] at h ⊢
                                rw [if_neg (by decide)] at h
                                refine r_pure tabOk 4 [2, 9, 145] (E' := [(2, .one (.int .i64) n24), (9, .one (.raw (.pointer none)) v26), (145, .one .bool false)]) rfl ?_
                                refine r_nil ?_
                                refine r_less [2, 9, 145] rfl ?_
                                refine r_then ?_
                                exact r_meetk (false, o55) () h rfl rfl
                            · intro o59 _ h
                              rw [← hk58] at h
                              try dsimp only at h
                              refine r_pure tabOk 1 [2, 9, 146] (E' := [(2, .one (.int .i64) n24), (9, .one (.raw (.pointer none)) v26), (146, .one .bool o59.1)]) rfl ?_
                              obtain ⟨k62, hk62, h⟩ := bnd_ex h
                              refine r_lsplitk (γ := Unit) 4 (fun (o63 : Bool × DiskS) _ => [(150, .one .bool o63.1)]) (fun (o63 : Bool × DiskS) _ => [Res.disk Try.prog dI v51 o59.2, Res.disk Try.prog dI v26 o63.2, Res.disk Try.prog dI v34 o48.2, Res.disk Try.prog dI v3 r25.2.2, Res.diskif Try.prog dI v10 o21.2.2 r9.1, Res.var b1 41 Y41 a1]) k62 r ?_ ?_
                              · rcases Bool.eq_false_or_eq_true o59.1 with hh | hh
                                · rw [hh] at h ⊢
                                  rw [if_pos rfl] at h
                                  refine r_pure tabOk 2 [146, 147, 148] (E' := [(146, .one .bool true), (147, .one (.raw (.pointer none)) v26), (148, .one (.int .i64) n24)]) rfl ?_
                                  refine r_guard (by rfl) rfl ?_
                                  obtain ⟨r64, hr64, h⟩ := bind_ex h
                                  refine r_call (Lo := [Res.disk Try.prog dI v51 o59.2, Res.disk Try.prog dI v34 o48.2, Res.disk Try.prog dI v3 r25.2.2, Res.diskif Try.prog dI v10 o21.2.2 r9.1, Res.var b1 41 Y41 a1]) (escrowlaw04_fallen_ok v26 r50.2.2 n24 _ hr64) (by kernel_rfl) ((List.perm_middle (a := Res.disk Try.prog dI v26 r50.2.2) (l₁ := [Res.disk Try.prog dI v51 o59.2]) (l₂ := [Res.disk Try.prog dI v34 o48.2, Res.disk Try.prog dI v3 r25.2.2, Res.diskif Try.prog dI v10 o21.2.2 r9.1, Res.var b1 41 Y41 a1])).trans (.cons _ (List.Perm.refl _))) rfl rfl fun _ => ?_
                                  refine r_pure tabOk 1 [150] (E' := [(150, .one .bool r64.1)]) rfl ?_
                                  refine r_nil ?_
                                  refine r_less [150] rfl ?_
                                  refine r_perm (L' := [Res.disk Try.prog dI v51 o59.2, Res.disk Try.prog dI v26 r64.2, Res.disk Try.prog dI v34 o48.2, Res.disk Try.prog dI v3 r25.2.2, Res.diskif Try.prog dI v10 o21.2.2 r9.1, Res.var b1 41 Y41 a1]) ((List.perm_middle (a := Res.disk Try.prog dI v51 o59.2) (l₁ := [Res.disk Try.prog dI v26 r64.2]) (l₂ := [Res.disk Try.prog dI v34 o48.2, Res.disk Try.prog dI v3 r25.2.2, Res.diskif Try.prog dI v10 o21.2.2 r9.1, Res.var b1 41 Y41 a1])).trans (.cons _ (List.Perm.refl _))) ?_
                                  refine r_then ?_
                                  exact r_meetk (r64.1, r64.2) () h rfl rfl
                                · rw [hh] at h ⊢
                                  rw [if_neg (by decide)] at h
                                  refine r_pure tabOk 4 [150] (E' := [(150, .one .bool false)]) rfl ?_
                                  refine r_nil ?_
                                  refine r_less [150] rfl ?_
                                  refine r_then ?_
                                  exact r_meetk (false, r50.2.2) () h rfl rfl
                              · intro o63 _ h
                                rw [← hk62] at h
                                try dsimp only at h
                                refine r_pure tabOk 1 [6] (E' := [(6, .one .bool o63.1)]) rfl ?_
                                refine r_nil ?_
                                refine r_then ?_
                                refine r_ret ?_
                                obtain rfl := Option.some.inj h
                                exact r_ret1 rfl (.tmp rfl) (fun _ _ g => g) (fun _ _ _ => List.nil_sublist _)
end Sx
