/-
  Own work, printed by a program of the same hand. Each function of the code answers what its plain twin reckons.
-/
import Derived.Test.YtfgbjaoendfhdaaGreatDoorWalk1
namespace Sx
open Go Go.Proofs
set_option maxRecDepth 10000
set_option maxHeartbeats 1000000
attribute [local irreducible] wpList

theorem wal_Log_place_ok (p0 : Value) (p100 : Value) (a0 : Unit × List Int × Int × (List (Int × Int × Int × Unit)) × Int × Bool × Unit) (a1 : Int) (a100 : DiskS) (r : (Int × Int × Int × Unit) × Bool) (h : wal_Log_place a0 a1 a100 = some r) : Fn Tryz.prog 40 [tp p0, ti a1] [Res.cls (CLog p100) p0 a0, Res.disk Tryz.prog dI p100 a100] (fun _ => .tup [⟨Y77, r.1⟩, ⟨.bool, r.2⟩]) (fun _ => [Res.cls (CLog p100) p0 a0, Res.disk Tryz.prog dI p100 a100]) := by
 unfold wal_Log_place at h
 refine enter Tryz.func40 rfl 45 rfl rfl fun F => ?_
 refine r_unCLog fun b2 sv1 hp => ?_
 subst hp
 refine r_CLog (x := a0) (q := p100) ?_
 refine zu <| r_alloc (t := Y77) rfl zf77 rfl fun b3 => p 1 [0,1,4] rfl <| za <| zs <| zs <| pk [1,0,0] rfl <| r_unCLogb fun sv4 => ?_
 refine zr <| p 3 [0,1,4,9] rfl <| yl 0 ((.snd (.snd (.snd (.fst .here))))) tx2 rfl rfl rfl trivial rfl <| y (y_lenown tabOk 1 rfl rfl rfl) rfl ?_
 refine q 1 [(12, tb ((List.length a0.2.2.2.1 : Int) == 0))] [0,1,4] rfl <| za <| rI h rfl (fun hc h => ?_) fun hc h => ?_
 ·refine zu <| y (y_build rfl zf77 rfl rfl .nil) rfl ?_
  refine st 2 .here ty77 rfl rfl rfl rfl trivial <| p 1 [4,5] rfl <| zf <| zT <| r_CLog (x := a0) (q := p100) ?_
  cases h
  exact r_rets (rs := [.cell 4 77, .tmp 5]) rfl (.cons (.cell 1 .here rfl rfl (by first | rfl | (simp only [Pth.off, T.size]; omega)) ok_here ty77) (.cons (.tmp rfl) (.nil))) rfl (fun _ vs g => tup_ok vs g) (fun _ _ _ => (.cons_cons _ (.cons _ (.cons_cons _ .slnil))))
 refine zk <| zt <| zs ?_
 obtain ⟨hi5, h⟩ := ite_ex h
 refine r_expose 1 rfl (by omega) fun b6 c7 hv => ?_
 rw [hv]
 try clear hv
 refine h_start (S := AllIs [OwnIs b6 77 Y77 a0.2.2.2.1, VarIs b2 68 (.pair (.raw (.pointer none)) (.pair .str (.pair (.int .i64) (.pair (.raw (.slice none 0 0)) (.pair (.int .i64) (.pair .bool .unit)))))) (p100, a0.2.1, a0.2.2.1, (.slice (some ⟨b6, 0, none⟩) (List.length a0.2.2.2.1) c7), a0.2.2.2.2.1, a0.2.2.2.2.2.1, a0.2.2.2.2.2.2)]) (by kernel_rfl) ?_
 refine h_take (i := 0) (t := ptr b2 0) (blind_then blind_body) rfl (by kernel_rfl) (by kernel_rfl) (by kernel_rfl) (allis_cons (own_is 1 rfl (by omega)) (allis_cons (var_is 0 rfl) allis_nil)) (y_pure tabOk rfl) rfl ?_
 refine h_take (i := 1) (t := ptr b2 0) (blind_then blind_body) rfl (by kernel_rfl) (by kernel_rfl) (by kernel_rfl) (allis_cons (own_is 1 rfl (by omega)) (allis_cons (var_is 0 rfl) allis_nil)) (y_pure tabOk rfl) rfl ?_
 refine h_take (i := 2) (t := ptr b2 3) (blind_then blind_body) rfl (by kernel_rfl) (by kernel_rfl) (by kernel_rfl) (allis_cons (own_is 1 rfl (by omega)) (allis_cons (var_is 0 rfl) allis_nil)) (y_pure tabOk rfl) rfl ?_
 refine h_take (i := 3) (t := .one (.raw (.slice none 0 0)) (.slice (some ⟨b6, 0, none⟩) (List.length a0.2.2.2.1) c7)) (blind_then blind_body) rfl (by kernel_rfl) (by kernel_rfl) (by kernel_rfl) (allis_cons (own_is 1 rfl (by omega)) (allis_cons (var_is 0 rfl) allis_nil)) (y_held (S := fun w => AllIs [OwnIs b6 77 Y77 a0.2.2.2.1, VarIs b2 68 (.pair (.raw (.pointer none)) (.pair .str (.pair (.int .i64) (.pair (.raw (.slice none 0 0)) (.pair (.int .i64) (.pair .bool .unit)))))) (p100, a0.2.1, a0.2.2.1, (.slice (some ⟨b6, 0, none⟩) (List.length a0.2.2.2.1) c7), a0.2.2.2.2.1, a0.2.2.2.2.2.1, a0.2.2.2.2.2.2)] w) (allis_at 1 rfl) 0 ((.snd (.snd (.snd (.fst .here))))) rfl rfl rfl (by first | rfl | (simp only [Pth.off, T.size]; omega)) (ok_snd (ok_snd (ok_snd (ok_fst ok_here)))) tx2) rfl ?_
 refine h_take (i := 4) (t := ptr b2 0) (blind_then blind_body) rfl (by kernel_rfl) (by kernel_rfl) (by kernel_rfl) (allis_cons (own_is 1 rfl (by omega)) (allis_cons (var_is 0 rfl) allis_nil)) (y_pure tabOk rfl) rfl ?_
 refine h_take (i := 5) (t := ptr b2 0) (blind_then blind_body) rfl (by kernel_rfl) (by kernel_rfl) (by kernel_rfl) (allis_cons (own_is 1 rfl (by omega)) (allis_cons (var_is 0 rfl) allis_nil)) (y_pure tabOk rfl) rfl ?_
 refine h_take (i := 6) (t := ptr b2 3) (blind_then blind_body) rfl (by kernel_rfl) (by kernel_rfl) (by kernel_rfl) (allis_cons (own_is 1 rfl (by omega)) (allis_cons (var_is 0 rfl) allis_nil)) (y_pure tabOk rfl) rfl ?_
 refine h_take (i := 7) (t := .one (.raw (.slice none 0 0)) (.slice (some ⟨b6, 0, none⟩) (List.length a0.2.2.2.1) c7)) (blind_then blind_body) rfl (by kernel_rfl) (by kernel_rfl) (by kernel_rfl) (allis_cons (own_is 1 rfl (by omega)) (allis_cons (var_is 0 rfl) allis_nil)) (y_held (S := fun w => AllIs [OwnIs b6 77 Y77 a0.2.2.2.1, VarIs b2 68 (.pair (.raw (.pointer none)) (.pair .str (.pair (.int .i64) (.pair (.raw (.slice none 0 0)) (.pair (.int .i64) (.pair .bool .unit)))))) (p100, a0.2.1, a0.2.2.1, (.slice (some ⟨b6, 0, none⟩) (List.length a0.2.2.2.1) c7), a0.2.2.2.2.1, a0.2.2.2.2.2.1, a0.2.2.2.2.2.2)] w) (allis_at 1 rfl) 0 ((.snd (.snd (.snd (.fst .here))))) rfl rfl rfl (by first | rfl | (simp only [Pth.off, T.size]; omega)) (ok_snd (ok_snd (ok_snd (ok_fst ok_here)))) tx2) rfl ?_
 refine h_take (i := 8) (t := ti (List.length a0.2.2.2.1 : Int)) (blind_then blind_body) rfl (by kernel_rfl) (by kernel_rfl) (by kernel_rfl) (allis_cons (own_is 1 rfl (by omega)) (allis_cons (var_is 0 rfl) allis_nil)) (y_lenown (t := Y77) tabOk 1 rfl rfl rfl) rfl ?_
 refine h_take (i := 9) (t := ti (IntKind.wrap .i64 ((List.length a0.2.2.2.1 : Int) - 1))) (blind_then blind_body) rfl (by kernel_rfl) (by kernel_rfl) (by kernel_rfl) (allis_cons (own_is 1 rfl (by omega)) (allis_cons (var_is 0 rfl) allis_nil)) (y_pure tabOk rfl) rfl ?_
 refine h_take (i := 10) (t := ptr b6 (0 + (Int.toNat (IntKind.wrap .i64 ((List.length a0.2.2.2.1 : Int) - 1))) * 3)) (blind_then blind_body) rfl (by kernel_rfl) (by kernel_rfl) (by kernel_rfl) (allis_cons (own_is 1 rfl (by omega)) (allis_cons (var_is 0 rfl) allis_nil)) (y_iraw tabOk rfl rfl hi5.1 hi5.2 rfl ty77) rfl ?_
 refine h_take (i := 11) (t := .one Y77 (List.getD a0.2.2.2.1 (Int.toNat (IntKind.wrap .i64 ((List.length a0.2.2.2.1 : Int) - 1))) (0, 0, 0, ()))) (blind_then blind_body) rfl (by kernel_rfl) (by kernel_rfl) (by kernel_rfl) (allis_cons (own_is 1 rfl (by omega)) (allis_cons (var_is 0 rfl) allis_nil)) (y_heldown (S := fun w => AllIs [OwnIs b6 77 Y77 a0.2.2.2.1, VarIs b2 68 (.pair (.raw (.pointer none)) (.pair .str (.pair (.int .i64) (.pair (.raw (.slice none 0 0)) (.pair (.int .i64) (.pair .bool .unit)))))) (p100, a0.2.1, a0.2.2.1, (.slice (some ⟨b6, 0, none⟩) (List.length a0.2.2.2.1) c7), a0.2.2.2.2.1, a0.2.2.2.2.2.1, a0.2.2.2.2.2.2)] w) (allis_at 0 rfl) 1 (Int.toNat (IntKind.wrap .i64 ((List.length a0.2.2.2.1 : Int) - 1))) .here rfl rfl rfl (by omega) (by first | rfl | (simp only [Pth.off, T.size]; omega)) ok_here ty77) rfl ?_
 refine h_one (i := 12) (by kernel_rfl) rfl ?_
 refine r_alloc (t := Y77) rfl zf77 rfl fun b8 => za <| h_in (allis_cons (own_is 2 rfl (by omega)) (allis_cons (var_is 1 rfl) allis_nil)) ?_
 refine r_less [0,1,4,6,25] rfl <| h_one (i := 13) (by kernel_rfl) rfl ?_
 refine st 0 .here ty77 rfl rfl rfl rfl trivial <| za <| h_in (allis_cons (own_is 2 rfl (by omega)) (allis_cons (var_is 1 rfl) allis_nil)) ?_
 refine r_less [0,1,4,6] rfl <| h_end (by kernel_rfl) ?_
 refine zt <| zs <| zs <| r_drawn (by kernel_rfl) (by kernel_rfl) ?_
 refine q_pure tabOk 1 [0, 1, 4, 6, 26] (E' := [(0, ptr b2 0), (1, ti a1), (4, ptr b3 0), (6, ptr b8 0), (26, ptr b8 1)]) rfl ?_
 refine q_y (y_load 0 ((.snd (.fst .here))) rfl rfl (by first | rfl | (simp only [Pth.off, T.size]; omega)) (ok_snd (ok_fst ok_here)) ty3) rfl ?_
 refine q_pure tabOk 1 [0, 1, 4, 6, 28] (E' := [(0, ptr b2 0), (1, ti a1), (4, ptr b3 0), (6, ptr b8 0), (28, tb (decide (((List.getD a0.2.2.2.1 (Int.toNat (IntKind.wrap .i64 ((List.length a0.2.2.2.1 : Int) - 1))) (0, 0, 0, ())).2.1) > 0)))]) rfl ?_
 obtain ⟨t9, e, h⟩ := bnd_ex h; rw [e]
 refine q_pure tabOk 1 [0, 1, 4, 6, 29] (E' := [(0, ptr b2 0), (1, ti a1), (4, ptr b3 0), (6, ptr b8 0), (29, tb t9)]) rfl ?_
 refine bX h fun k11 hk11 h => ?_
 refine q_lsplitk 10 (fun (o12 : Bool) => [(4, ptr b3 0), (6, ptr b8 0), (39, tb o12)]) k11 r ?_ ?_
 ·rcases Bool.eq_false_or_eq_true t9 with hh | hh
  ·rw [hh] at h ⊢
   rw [if_pos rfl] at h
   refine q_pure tabOk 1 [0, 1, 4, 6, 29, 30] (E' := [(0, ptr b2 0), (1, ti a1), (4, ptr b3 0), (6, ptr b8 0), (29, tb true), (30, ptr b8 1)]) rfl ?_
   refine q_guard (by rfl) rfl ?_
   refine q_y (y_load 0 ((.snd (.fst .here))) rfl rfl (by first | rfl | (simp only [Pth.off, T.size]; omega)) (ok_snd (ok_fst ok_here)) ty3) rfl ?_
   refine q_pure tabOk 2 [0, 4, 6, 29, 33] (E' := [(0, ptr b2 0), (4, ptr b3 0), (6, ptr b8 0), (29, tb true), (33, ti (IntKind.wrap .i64 (((List.getD a0.2.2.2.1 (Int.toNat (IntKind.wrap .i64 ((List.length a0.2.2.2.1 : Int) - 1))) (0, 0, 0, ())).2.1) + a1)))]) rfl ?_
   obtain ⟨t13, e, h⟩ := bnd_ex h; rw [e]
   refine q_pure tabOk 3 [4, 6, 29, 33, 36] (E' := [(4, ptr b3 0), (6, ptr b8 0), (29, tb true), (33, ti t13), (36, ptr b2 2)]) rfl ?_
   refine q_guard (by rfl) rfl ?_
   refine q_y (y_load 1 ((.snd (.snd (.fst .here)))) rfl rfl (by first | rfl | (simp only [Pth.off, T.size]; omega)) (ok_snd (ok_snd (ok_fst ok_here))) ty3) rfl ?_
   refine q_pure tabOk 2 [4, 6, 39] (E' := [(4, ptr b3 0), (6, ptr b8 0), (39, tb (decide (t13 > a0.2.2.1)))]) rfl ?_
   refine q_lnil ?_
   exact q_meetk (decide (t13 > a0.2.2.1)) [4, 6, 39] h rfl
  rw [hh] at h ⊢
  rw [if_neg (by decide)] at h
  refine q_pure tabOk 10 [4, 6, 39] (E' := [(4, ptr b3 0), (6, ptr b8 0), (39, tb false)]) rfl ?_
  refine q_lnil ?_
  exact q_meetk false [4, 6, 39] h rfl
 intro o12 h
 rw [← hk11] at h
 try dsimp only at h
 refine q_nil ?_
 refine zt <| rI h rfl (fun hc h => ?_) fun hc h => ?_
 ·refine zu <| p 1 [4,40] rfl <| yl 0 ((.fst .here)) ty3 rfl rfl rfl trivial rfl <| q 1 [(42, ti (IntKind.wrap .i64 (((List.getD a0.2.2.2.1 (Int.toNat (IntKind.wrap .i64 ((List.length a0.2.2.2.1 : Int) - 1))) (0, 0, 0, ())).1) + 1)))] [4] rfl ?_
  obtain ⟨t14, e, h⟩ := bnd_ex h; rw [e]
  refine y (y_build rfl zf77 rfl rfl (.cons ((.fst .here)) rfl rfl ok_here .nil)) rfl ?_
  refine st 3 .here ty77 rfl rfl rfl rfl trivial <| p 1 [4,5] rfl <| zf <| zT <| pk [1,1,0,0,0] rfl <| r_CLog (x := a0) (q := p100) ?_
  cases h
  exact r_rets (rs := [.cell 4 77, .tmp 5]) rfl (.cons (.cell 2 .here rfl rfl (by first | rfl | (simp only [Pth.off, T.size]; omega)) ok_here ty77) (.cons (.tmp rfl) (.nil))) rfl (fun _ vs g => tup_ok vs g) (fun _ _ _ => (.cons_cons _ (.cons _ (.cons _ (.cons_cons _ .slnil)))))
 refine zy <| yl 0 .here ty77 rfl rfl rfl trivial rfl <| st 3 .here ty77 rfl rfl rfl rfl trivial <| p 1 [4,5] rfl <| zf <| pk [1,1,0,0,0] rfl <| r_CLog (x := a0) (q := p100) ?_
 cases h
 exact r_rets (rs := [.cell 4 77, .tmp 5]) rfl (.cons (.cell 2 .here rfl rfl (by first | rfl | (simp only [Pth.off, T.size]; omega)) ok_here ty77) (.cons (.tmp rfl) (.nil))) rfl (fun _ vs g => tup_ok vs g) (fun _ _ _ => (.cons_cons _ (.cons _ (.cons _ (.cons_cons _ .slnil)))))

theorem disk_isName_ok (a0 : List Int) (r : Bool) (h : disk_isName a0 = some r) : Pure Tryz.prog 23 [ts a0] (tb r) := by
 unfold disk_isName at h
 refine enter Tryz.func23 rfl 27 rfl rfl fun F => ?_
 refine zu <| p 1 [0] rfl <| za <| jK h (γ := Unit) (fun (o2 : Unit) _ => [(0, ts a0)]) (fun (o2 : Unit) _ => []) (fun k1 h => ?_) fun o2 gg h => ?_
 ·refine zu <| q 3 [(5, ti (List.length a0 : Int)), (6, ti 0)] [0] rfl <| za <| zb <| r_less [0,5,6] rfl <| r_loopg (γ := Unit) (fun (s5 : Int) _ => [(0, ts a0), (5, ti (List.length a0 : Int)), (6, ti s5)]) (fun (s5 : Int) _ => []) (disk_isName_l0 a0 k1) 0 () h rfl rfl ?_
  clear h
  intro m6 s5 gg h
  cases m6 with
  | zero => cases h
  | succ m6 =>
  simp only [disk_isName_l0] at h
  refine zu <| q 1 [(6, ti s5), (7, tb (decide (s5 < (List.length a0 : Int))))] [0,5] rfl <| za <| zs <| rI h rfl (fun hc h => ?_) fun hc h => ?_
  ·refine zk <| zt <| zs <| zb <| zu <| p 2 [0,3,5,6] rfl <| zz <| p 2 [0,3,5,6,9,10] rfl <| iE h fun hc h => y (y_byte tabOk rfl rfl hc.1 hc.2 rfl) rfl ?_
   refine q 2 [(13, tb (decide ((List.getD a0 (Int.toNat s5) 0) < 33)))] [0,3,5,6] rfl ?_
   obtain ⟨b7, e, h⟩ := bnd_ex h; rw [e]
   refine bX h fun k8 hk8 h => ?_
   refine r_lsplitk (γ := Unit) 5 (fun (o9 : Bool) _ => [(0, ts a0), (5, ti (List.length a0 : Int)), (6, ti s5), (18, tb o9)]) (fun _ _ => []) k8 r ?_ ?_
   ·rcases Bool.eq_false_or_eq_true b7 with hh | hh
    ·rw [hh] at h ⊢
     rw [if_pos rfl] at h
     exact p 5 [0,5,6,18] rfl <| zn <| r_less [0,5,6,18] rfl <| zt <| by exact r_meetk true () h rfl rfl
    rw [hh] at h ⊢
    rw [if_neg (by decide)] at h
    refine p 2 [0,5,6,13,14,15] rfl <| r_guard (by rfl) rfl ?_
    refine iE h fun hc h => y (y_byte tabOk rfl rfl hc.1 hc.2 rfl) rfl ?_
    exact q 2 [(18, tb (decide ((List.getD a0 (Int.toNat s5) 0) > 126)))] [0,5,6] rfl <| zn <| r_less [0,5,6,18] rfl <| zt <| by exact r_meetk (decide ((List.getD a0 (Int.toNat s5) 0) > 126)) () h rfl rfl
   intro o9 _ h
   rw [← hk8] at h
   try dsimp only at h
   exact za <| rI h rfl (fun hc h => zu <| p 1 [2] rfl <| zf <| zB <| zT <| zT <| zB <| zT <| by cases h; exact r_ret1 rfl (.tmp rfl) (fun _ _ g => g) (fun _ _ _ => List.nil_sublist _)) fun hc h => zk <| zi <| zt <| zr <| p 2 [0,5,6] rfl <| za <| r_less [0,5,6] rfl <| by exact r_backg (IntKind.wrap .i64 (s5 + 1)) () (Nat.lt_succ_self _) h rfl rfl
  exact zx <| ze <| ze <| zq <| zt <| r_less [0] rfl <| by exact r_meetk () () h rfl rfl
 refine zu <| q 3 [(0, ts a0), (22, tb (a0 != []))] [] rfl ?_
 obtain ⟨b3, e, h⟩ := bnd_ex h; rw [e]
 refine r_lsplit (γ := Unit) 4 (fun _ => [(26, tb (b3 && (decide ((List.length a0 : Int) ≤ 32))))]) (fun _ => []) ?_ (fun _ => ?_)
 ·clear h
  cases b3
  ·exact p 4 [26] rfl <| za <| by exact r_meetg () rfl rfl
  exact q 4 [(26, tb (decide ((List.length a0 : Int) ≤ 32)))] [] rfl <| r_less [26] rfl <| za <| by exact r_meetg () rfl rfl
 refine q 1 [(2, tb (b3 && (decide ((List.length a0 : Int) ≤ 32))))] [] rfl <| zf ?_
 cases h
 exact r_ret1 rfl (.tmp rfl) (fun _ _ g => g) (fun _ _ _ => List.nil_sublist _)

theorem disk_Disk_Used_ok (b0 : Nat) (mv0 : Value) (nm0 : List Int) (q0 : Value) (a0 : DiskS) (r : Int) (h : disk_Disk_Used a0 = some r) : Fn Tryz.prog 24 [ptr b0 0] [Res.var b0 54 DT (a0.1, mv0, a0.2.2.1, a0.2.2.2.1, a0.2.2.2.2.1, a0.2.2.2.2.2.1, a0.2.2.2.2.2.2, ()), Res.dat Tryz.prog dI mv0 a0.2.1 nm0 q0] (fun _ => ti r) (fun _ => [Res.var b0 54 DT (a0.1, mv0, a0.2.2.1, a0.2.2.2.1, a0.2.2.2.2.1, a0.2.2.2.2.2.1, a0.2.2.2.2.2.2, ()), Res.dat Tryz.prog dI mv0 a0.2.1 nm0 q0]) := by
 unfold disk_Disk_Used at h
 refine enter Tryz.func24 rfl 23 rfl rfl fun F => ?_
 refine zu <| p 1 [0] rfl <| zz <| p 1 [0,3] rfl <| za <| jK h (γ := Unit) (fun (o2 : Int) _ => [(3, ti o2)]) (fun (o2 : Int) _ => [Res.dat Tryz.prog dI mv0 a0.2.1 nm0 q0, Res.var b0 54 DT (a0.1, mv0, a0.2.2.1, a0.2.2.2.1, a0.2.2.2.2.1, a0.2.2.2.2.2.1, a0.2.2.2.2.2.2, ())]) (fun k1 h => ?_) fun o2 gg h => ?_
 ·refine zu <| p 3 [3,8] rfl <| yl 0 ((.snd (.fst .here))) ty52 rfl rfl rfl trivial rfl <| pk [1,0] rfl <| r_drangeq kstr rfl Tryz.underlying52 rfl fun it3 hn4 => ?_
  refine za <| zb <| cB h fun rr hall h => r_less [3,10] rfl <| r_rangeloop (step := disk_Disk_Used_l0 a0) (fun _ _ => True) (comm_disk_Disk_Used_l0 a0) hn4 trivial hall (γ := Unit) (fun (s6 : Int) _ => [(3, ti s6), (10, tp it3)]) (fun todo8 (s6 : Int) _ => [Res.diter Tryz.prog dI mv0 it3 a0.2.1 todo8 none (some (nm0, q0)), Res.var b0 54 DT (a0.1, mv0, a0.2.2.1, a0.2.2.2.1, a0.2.2.2.2.1, a0.2.2.2.2.2.1, a0.2.2.2.2.2.2, ())]) () rfl rfl fun todo8 s6 gg hend hone => ?_
  refine zu ?_
  refine r_dnext kstr rfl rfl (fun ht => ?_) (fun A9 k10 B11 q12 htk10 hk => ?_)
  ·obtain rfl := hend ht
   refine r_dunrangeq ?_
   refine p 1 [3,12] rfl <| za <| zs ?_
   refine r_if (b := false) rfl (fun hc => ?_) (fun hc => ?_)
   ·cases hc
   exact zx <| ze <| ze <| zq <| zt <| r_less [3] rfl <| by exact r_meetk s6 () h rfl rfl
  obtain ⟨sk10, hsk10⟩ := hone A9 k10 B11 htk10
  clear h
  have h := hsk10
  unfold disk_Disk_Used_l0 at h
  refine p 1 [3,10,12] rfl <| za <| zs ?_
  refine r_if (b := true) rfl (fun hc => ?_) (fun hc => ?_)
  ·refine zk <| zt <| zb <| zu <| y (y_dentry rfl 0 rfl) rfl ?_
   refine p 2 [3,5,10] rfl <| za <| cB h fun f14 hf14 h => r_difocus hf14 fun fb15 sv16 tv17 dv18 hq => ?_
   rw [hq]
   clear hq
   refine zr <| p 4 [10,15,18] rfl <| yl 0 ((.fst .here)) tx1 rfl rfl rfl trivial rfl <| y (y_lenown tabOk 1 rfl rfl rfl) rfl ?_
   refine q 2 [(3, ti (IntKind.wrap .i64 (s6 + (List.length f14.1 : Int))))] [10] rfl ?_
   obtain ⟨n19, e, h⟩ := bnd_ex h; rw [e]
   refine zn <| zi <| zt <| r_diunfocus_same (P := Tryz.prog) (I := dI) hf14 ?_
   refine r_imp_at (R' := Res.diter Tryz.prog dI mv0 it3 a0.2.1 (A9 ++ B11) none (some (nm0, q0))) 0 rfl diter_none <| r_less [3,10] rfl ?_
   obtain rfl := Option.some.inj h
   exact r_backR () htk10 hsk10 rfl rfl
  cases hc
 refine zu <| p 2 [2] rfl <| zf ?_
 cases h
 exact pk [1,0] rfl <| r_ret1 rfl (.tmp rfl) (fun _ _ g => g) (fun _ _ _ => (.cons_cons _ (.cons_cons _ .slnil)))

theorem disk_Disk_Write_ok (p0 : Value) (a0 : DiskS) (a1 : List Int) (a2 : Int) (a3 : List Int) (r : Int × DiskS) (h : disk_Disk_Write a0 a1 a2 a3 = some r) : Fn Tryz.prog 7 [tp p0, ts a1, ti a2, ts a3] [Res.disk Tryz.prog dI p0 a0] (fun _ => ti r.1) (fun _ => [Res.disk Tryz.prog dI p0 r.2]) := by
 unfold disk_Disk_Write at h
 refine enter Tryz.func7 rfl 144 rfl rfl fun F => ?_
 refine r_undisk fun b2 mv1 hp => ?_
 subst hp
 refine zu <| p 1 [0,1,2,3] rfl <| za <| zs <| zu <| p 3 [0,1,2,3,17] rfl <| yl 0 ((.snd (.snd (.snd (.snd (.snd (.fst .here))))))) ty4 rfl rfl rfl trivial rfl <| za <| rI h rfl (fun hc h => zu <| p 1 [8] rfl <| zf <| zT <| r_disk (P := Tryz.prog) (I := dI) (D := a0) <| by cases h; exact r_ret1 rfl (.tmp rfl) (fun _ _ g => g) (fun _ _ _ => (.cons_cons _ .slnil))) fun hc h => zy <| p 3 [0,1,2,3,22] rfl <| yl 0 ((.snd (.fst .here))) ty52 rfl rfl rfl trivial rfl <| p 1 [0,1,2,3,23,24] rfl <| pk [1,0] rfl ?_
 refine r_dlook kstr rfl rfl Tryz.underlying52 zNV rfl fun q3 => ?_
 refine q 5 [(9, tp q3), (10, tb (Option.isSome (pget .str a1 a0.2.1)))] [0,1,2,3] rfl ?_
 obtain ⟨there4, e, h⟩ := bnd_ex h; rw [e]
 refine zz <| p 1 [0,1,2,3,9,10,11] rfl <| za <| jK h (γ := Value) (fun (o6 : Int) g7 => [(0, ptr b2 0), (1, ts a1), (2, ti a2), (3, ts a3), (9, tp g7), (10, tb there4), (11, ti o6)]) (fun (o6 : Int) g7 => [Res.dat Tryz.prog dI mv1 a0.2.1 a1 g7, Res.var b2 54 DT (a0.1, mv1, a0.2.2.1, a0.2.2.2.1, a0.2.2.2.2.1, a0.2.2.2.2.2.1, a0.2.2.2.2.2.2, ())]) (fun k5 h => ?_) fun o6 g7 h => ?_
 ·refine zu <| p 1 [0,1,2,3,9,10,11,28] rfl <| za <| rI h rfl (fun hc h => ?_) fun hc h => ?_
  ·refine cB h fun f49 hf49 h => r_dfocus kstr hf49 fun fb50 sv51 tv52 dv53 hq => ?_
   rw [hq]
   clear hq
   refine zr <| p 3 [0,1,2,3,9,10,31] rfl <| yl 0 ((.fst .here)) tx1 rfl rfl rfl trivial rfl <| y (y_lenown tabOk 1 rfl rfl rfl) rfl ?_
   refine q 1 [(11, ti (List.length f49.1 : Int))] [0,1,2,3,9,10] rfl ?_
   obtain ⟨size54, e, h⟩ := bnd_ex h; rw [e]
   refine za <| r_dunfocus_same (P := Tryz.prog) (I := dI) kstr hf49 ?_
   exact r_less [0,1,2,3,9,10,11] rfl <| by exact r_meetk size54 (.pointer (some ⟨fb50, 0, none⟩)) h rfl rfl
  exact zk <| zt <| r_less [0,1,2,3,9,10,11] rfl <| by exact r_meetk 0 q3 h rfl rfl
 refine zs <| zb <| zu <| p 1 [0,1,2,3,9,10,11,35] rfl <| cB h fun r8 hr8 h => r_calls (disk_isName_ok _ _ hr8) (by kernel_rfl) rfl rfl <| p 2 [0,1,2,3,9,10,11,38] rfl ?_
 obtain ⟨b9, e, h⟩ := bnd_ex h; rw [e]
 refine r_lsplit (γ := Unit) 3 (fun _ => [(0, ptr b2 0), (1, ts a1), (2, ti a2), (3, ts a3), (9, tp g7), (10, tb there4), (11, ti o6), (41, tb (b9 || (decide (a2 < 0))))]) (fun _ => [Res.dat Tryz.prog dI mv1 a0.2.1 a1 g7, Res.var b2 54 DT (a0.1, mv1, a0.2.2.1, a0.2.2.2.1, a0.2.2.2.2.1, a0.2.2.2.2.2.1, a0.2.2.2.2.2.2, ())]) ?_ (fun _ => ?_)
 ·clear h
  cases b9
  ·exact p 3 [0,1,2,3,9,10,11,41] rfl <| za <| by exact r_meetg () rfl rfl
  exact p 3 [0,1,2,3,9,10,11,41] rfl <| za <| by exact r_meetg () rfl rfl
 refine p 1 [0,1,2,3,9,10,11,42] rfl ?_
 obtain ⟨b10, e, h⟩ := bnd_ex h; rw [e]
 refine r_lsplit (γ := Unit) 4 (fun _ => [(0, ptr b2 0), (1, ts a1), (2, ti a2), (3, ts a3), (9, tp g7), (10, tb there4), (11, ti o6), (46, tb (b10 || (decide (a2 > o6))))]) (fun _ => [Res.dat Tryz.prog dI mv1 a0.2.1 a1 g7, Res.var b2 54 DT (a0.1, mv1, a0.2.2.1, a0.2.2.2.1, a0.2.2.2.2.1, a0.2.2.2.2.2.1, a0.2.2.2.2.2.2, ())]) ?_ (fun _ => ?_)
 ·clear h
  cases b10
  ·exact p 4 [0,1,2,3,9,10,11,46] rfl <| za <| by exact r_meetg () rfl rfl
  exact p 4 [0,1,2,3,9,10,11,46] rfl <| za <| by exact r_meetg () rfl rfl
 refine p 1 [0,1,2,3,9,10,11,34] rfl <| za <| rI h rfl (fun hc h => zu <| p 1 [8] rfl <| zf <| zB <| zT <| r_imp_at (R' := Res.dfiles Tryz.prog dI mv1 a0.2.1) 0 rfl dat_dfiles <| pk [1,0] rfl <| r_disk (P := Tryz.prog) (I := dI) (D := a0) <| by cases h; exact r_ret1 rfl (.tmp rfl) (fun _ _ g => g) (fun _ _ _ => (.cons_cons _ .slnil))) fun hc h => zu <| q 6 [(47, tb (decide ((IntKind.wrap .i64 (a2 + (List.length a3 : Int))) > 1048576)))] [0,1,2,3,9,10,11] rfl <| za <| rI h rfl (fun hc h => zu <| p 1 [8] rfl <| zf <| zB <| zT <| r_imp_at (R' := Res.dfiles Tryz.prog dI mv1 a0.2.1) 0 rfl dat_dfiles <| pk [1,0] rfl <| r_disk (P := Tryz.prog) (I := dI) (D := a0) <| by cases h; exact r_ret1 rfl (.tmp rfl) (fun _ _ g => g) (fun _ _ _ => (.cons_cons _ .slnil))) fun hc h => zu <| p 3 [0,1,2,3,9,10,11,56] rfl ?_
 obtain ⟨b11, e, h⟩ := bnd_ex h; rw [e]
 refine bX h fun k12 hk12 h => ?_
 refine r_lsplitk (γ := Unit) 7 (fun (o13 : Bool) _ => [(0, ptr b2 0), (1, ts a1), (2, ti a2), (3, ts a3), (9, tp g7), (10, tb there4), (11, ti o6), (63, tb o13)]) (fun _ _ => [Res.dat Tryz.prog dI mv1 a0.2.1 a1 g7, Res.var b2 54 DT (a0.1, mv1, a0.2.2.1, a0.2.2.2.1, a0.2.2.2.2.1, a0.2.2.2.2.2.1, a0.2.2.2.2.2.2, ())]) k12 r ?_ ?_
 ·rcases Bool.eq_false_or_eq_true b11 with hh | hh
  ·rw [hh] at h ⊢
   rw [if_pos rfl] at h
   refine p 3 [0,1,2,3,9,10,11,56,59] rfl <| r_guard (by rfl) rfl ?_
   refine yl 1 ((.snd (.fst .here))) ty52 rfl rfl rfl trivial rfl <| r_guard (by rfl) rfl ?_
   refine iE h fun hc h => y (y_dlen kstr 0 rfl rfl Tryz.underlying52 hc) rfl ?_
   exact q 2 [(63, tb (decide ((List.length a0.2.1 : Int) ≥ 16)))] [0,1,2,3,9,10,11] rfl <| zn <| r_less [0,1,2,3,9,10,11,63] rfl <| zt <| by exact r_meetk (decide ((List.length a0.2.1 : Int) ≥ 16)) () h rfl rfl
  rw [hh] at h ⊢
  rw [if_neg (by decide)] at h
  exact p 7 [0,1,2,3,9,10,11,63] rfl <| zn <| r_less [0,1,2,3,9,10,11,63] rfl <| zt <| by exact r_meetk false () h rfl rfl
 intro o13 _ h
 rw [← hk12] at h
 try dsimp only at h
 refine p 1 [0,1,2,3,9,10,11,53] rfl <| za <| rI h rfl (fun hc h => zu <| p 1 [8] rfl <| zf <| zB <| zT <| r_imp_at (R' := Res.dfiles Tryz.prog dI mv1 a0.2.1) 0 rfl dat_dfiles <| pk [1,0] rfl <| r_disk (P := Tryz.prog) (I := dI) (D := a0) <| by cases h; exact r_ret1 rfl (.tmp rfl) (fun _ _ g => g) (fun _ _ _ => (.cons_cons _ .slnil))) fun hc h => zs <| r_any (by kernel_rfl) ?_
 refine a_float (i := 0) (t := ptr b2 0) (blind_then (blind_block (blind_then blind_body))) rfl (by kernel_rfl) (by kernel_rfl) (by kernel_rfl) (y_pure tabOk rfl) rfl ?_
 refine a_float (i := 2) (t := ti a2) (blind_then (blind_block (blind_then blind_body))) rfl (by kernel_rfl) (by kernel_rfl) (by kernel_rfl) (y_pure tabOk rfl) rfl ?_
 refine a_float (i := 3) (t := ts a3) (blind_then (blind_block (blind_then blind_body))) rfl (by kernel_rfl) (by kernel_rfl) (by kernel_rfl) (y_pure tabOk rfl) rfl ?_
 refine a_float (i := 4) (t := ti (List.length a3 : Int)) (blind_then (blind_block (blind_then blind_body))) rfl (by kernel_rfl) (by kernel_rfl) (by kernel_rfl) (y_pure tabOk rfl) rfl ?_
 refine a_float (i := 5) (t := ti (IntKind.wrap .i64 (a2 + (List.length a3 : Int)))) (blind_then (blind_block (blind_then blind_body))) rfl (by kernel_rfl) (by kernel_rfl) (by kernel_rfl) (y_pure tabOk rfl) rfl ?_
 refine a_float (i := 6) (t := ti o6) (blind_then (blind_block (blind_then blind_body))) rfl (by kernel_rfl) (by kernel_rfl) (by kernel_rfl) (y_pure tabOk rfl) rfl ?_
 refine a_float (i := 7) (t := ti (IntKind.wrap .i64 ((IntKind.wrap .i64 (a2 + (List.length a3 : Int))) - o6))) (blind_then (blind_block (blind_then blind_body))) rfl (by kernel_rfl) (by kernel_rfl) (by kernel_rfl) (y_pure tabOk rfl) rfl ?_
 refine a_float (i := 8) (t := ti (max 0 (IntKind.wrap .i64 ((IntKind.wrap .i64 (a2 + (List.length a3 : Int))) - o6)))) (blind_then (blind_block (blind_then blind_body))) rfl (by kernel_rfl) (by kernel_rfl) (by kernel_rfl) (y_max rfl rfl) rfl ?_
 refine a_float (i := 10) (t := ptr b2 0) (blind_then (blind_block (blind_then blind_body))) rfl (by kernel_rfl) (by kernel_rfl) (by kernel_rfl) (y_pure tabOk rfl) rfl ?_
 refine a_two (i := 1) (j := 11) (by kernel_rfl) rfl rfl ?_ ?_
 ·refine pk [1,0] rfl <| cB h fun r14 hr14 h => r_call (Lo := []) (disk_Disk_Used_ok b2 mv1 a1 g7 a0 _ hr14) (by kernel_rfl) (List.Perm.refl _) rfl rfl fun _ => ?_
  refine za <| r_less [0,1,2,3,9,10,11,66,73,75] rfl <| a_float (i := 9) (t := ti (IntKind.wrap .i64 (r14 + (max 0 (IntKind.wrap .i64 ((IntKind.wrap .i64 (a2 + (List.length a3 : Int))) - o6)))))) (blind_then (blind_block (blind_then blind_body))) rfl (by kernel_rfl) (by kernel_rfl) (by kernel_rfl) (y_pure tabOk rfl) rfl ?_
  refine a_one (i := 11) (by kernel_rfl) rfl ?_
  refine q 1 [(74, ti (IntKind.wrap .i64 (r14 + (max 0 (IntKind.wrap .i64 ((IntKind.wrap .i64 (a2 + (List.length a3 : Int))) - o6)))))), (76, ptr b2 0)] [0,1,2,3,9,10,11] rfl <| za <| r_less [0,1,2,3,9,10,11,74,76] rfl <| a_float (i := 12) (t := ptr b2 0) (blind_then (blind_block (blind_then blind_body))) rfl (by kernel_rfl) (by kernel_rfl) (by kernel_rfl) (y_pure tabOk rfl) rfl ?_
  refine a_one (i := 13) (by kernel_rfl) rfl ?_
  refine yl 0 ((.fst .here)) ty3 rfl rfl rfl trivial rfl <| za <| r_less [0,1,2,3,9,10,11,74,78] rfl <| a_float (i := 14) (t := tb (decide ((IntKind.wrap .i64 (r14 + (max 0 (IntKind.wrap .i64 ((IntKind.wrap .i64 (a2 + (List.length a3 : Int))) - o6))))) > a0.1))) (blind_then (blind_block (blind_then blind_body))) rfl (by kernel_rfl) (by kernel_rfl) (by kernel_rfl) (y_pure tabOk rfl) rfl ?_
  refine a_float (i := 15) (t := tb (decide ((IntKind.wrap .i64 (r14 + (max 0 (IntKind.wrap .i64 ((IntKind.wrap .i64 (a2 + (List.length a3 : Int))) - o6))))) > a0.1))) (blind_then (blind_block (blind_then blind_body))) rfl (by kernel_rfl) (by kernel_rfl) (by kernel_rfl) (y_pure tabOk rfl) rfl ?_
  refine a_end (by kernel_rfl) ?_
  refine zt <| rI h rfl (fun hc h => zu <| p 1 [8] rfl <| zf <| zB <| zT <| r_imp_at (R' := Res.dfiles Tryz.prog dI mv1 a0.2.1) 1 rfl dat_dfiles <| r_disk (P := Tryz.prog) (I := dI) (D := a0) <| by cases h; exact r_ret1 rfl (.tmp rfl) (fun _ _ g => g) (fun _ _ _ => (.cons_cons _ .slnil))) fun hc h => zk <| zi <| zt <| zs <| zu <| p 1 [0,1,2,3,9,10,11,80] rfl <| cB h fun r15 hr15 h => r_call (Lo := [Res.dat Tryz.prog dI mv1 a0.2.1 a1 g7]) (disk_Disk_counted_ok b2 mv1 a0 1 _ hr15) (by kernel_rfl) (List.Perm.refl _) rfl rfl fun _ => ?_
  refine q 1 [(12, ti r15.1)] [0,1,2,3,9,10,11] rfl <| zz <| q 2 [(83, tb (r15.1 != 0))] [0,1,2,3,9,10,11,12] rfl <| za <| rI h rfl (fun hc h => zu <| q 2 [(8, ti r15.1)] [] rfl <| zf <| zT <| r_imp_at (R' := Res.dfiles Tryz.prog dI mv1 a0.2.1) 1 rfl dat_dfiles <| r_disk (P := Tryz.prog) (I := dI) (D := (r15.2.1, a0.2.1, r15.2.2.2.1, r15.2.2.2.2.1, r15.2.2.2.2.2.1, r15.2.2.2.2.2.2.1, r15.2.2.2.2.2.2.2)) <| by cases h; exact r_ret1 rfl (.tmp rfl) (fun _ _ g => g) (fun _ _ _ => (.cons_cons _ .slnil))) fun hc h => zk <| zt <| jK h (γ := Value) (fun (o17 : (List (List Int × FileS))) g18 => [(2, ti a2), (3, ts a3), (9, tp g18), (11, ti o6)]) (fun (o17 : (List (List Int × FileS))) g18 => [Res.dat Tryz.prog dI mv1 o17 a1 g18, Res.var b2 54 DT (r15.2.1, mv1, r15.2.2.2.1, r15.2.2.2.2.1, r15.2.2.2.2.2.1, r15.2.2.2.2.2.2.1, r15.2.2.2.2.2.2.2, ())]) (fun k16 h => ?_) fun o17 g18 h => ?_
  ·refine zu <| p 2 [0,1,2,3,9,11,86] rfl <| za <| rI h rfl (fun hc h => ?_) fun hc h => ?_
   ·refine zu <| r_makeMap 3 (.int .i64) (.int .i64) rfl fun v47 => ?_
    refine r_redirty (P := Tryz.prog) (I := dI) (keys := []) 0 rfl rfl ?_
    refine y (y_build rfl zf60 rfl rfl (.cons ((.snd (.snd (.fst .here)))) rfl rfl (ok_snd (ok_snd (ok_fst ok_here))) .nil)) rfl ?_
    refine r_box rfl rfl fun b48 => r_nilown (.slice none 0 0) rfl 5 (.int .u8) ?_
    refine r_nilown (.slice none 0 0) rfl 5 (.int .u8) ?_
    refine p 1 [0,1,2,3,9,11] rfl <| za <| zr <| p 3 [1,2,3,9,11,92] rfl <| yl 4 ((.snd (.fst .here))) ty52 rfl rfl rfl trivial rfl <| p 2 [2,3,9,11,93,94,95] rfl <| r_imp_at (R' := Res.dfiles Tryz.prog dI mv1 a0.2.1) 5 rfl dat_dfiles <| iE h fun hc h => pk [2,0,0,0,1,0] rfl <| r_dinsert (P := Tryz.prog) (I := dI) kstr rfl rfl rfl Tryz.underlying52 hc ?_
    exact za <| r_less [2,3,9,11] rfl <| by exact r_meetk (pput .str a1 ([], [], []) a0.2.1) (.pointer (some ⟨b48, 0, none⟩)) h rfl rfl
   exact zk <| zt <| r_less [2,3,9,11] rfl <| pk [1,0] rfl <| by exact r_meetk a0.2.1 g7 h rfl rfl
  refine jK h (γ := Value) (fun (o20 : (List (List Int × FileS))) g21 => [(2, ti a2), (3, ts a3), (9, tp g21)]) (fun (o20 : (List (List Int × FileS))) g21 => [Res.dat Tryz.prog dI mv1 o20 a1 g21, Res.var b2 54 DT (r15.2.1, mv1, r15.2.2.2.1, r15.2.2.2.2.1, r15.2.2.2.2.2.1, r15.2.2.2.2.2.2.1, r15.2.2.2.2.2.2.2, ())]) (fun k19 h => ?_) fun o20 g21 h => ?_
  ·refine zu <| q 5 [(2, ti a2), (3, ts a3), (9, tp g18), (11, ti o6), (13, ti (IntKind.wrap .i64 (a2 + (List.length a3 : Int))))] [] rfl ?_
   obtain ⟨end40, e, h⟩ := bnd_ex h; rw [e]
   refine zz <| p 3 [2,3,9,11,13,102] rfl <| za <| rI h rfl (fun hc h => ?_) fun hc h => ?_
   ·refine cB h fun f41 hf41 h => r_dfocus kstr hf41 fun fb42 sv43 tv44 dv45 hq => ?_
    rw [hq]
    clear hq
    refine zr <| p 4 [2,3,9,11,13,103,106] rfl <| yl 0 ((.fst .here)) tx1 rfl rfl rfl trivial rfl <| p 3 [2,3,9,103,107,110] rfl <| iE h fun hc h => r_appendn tabOk zf5 1 rfl rfl rfl hc.1 rfl el5 Tryz.underlying3 hc.2 rfl fun v46 => ?_
    refine p 2 [2,3,9,111,113] rfl <| st 0 ((.fst .here)) tx1 rfl rfl rfl rfl trivial <| za <| r_dunfocus (P := Tryz.prog) (I := dI) kstr ?_
    exact r_less [2,3,9] rfl <| by exact r_meetk (pset .str a1 ((f41.1 ++ List.replicate (Int.toNat (IntKind.wrap .i64 (end40 - o6))) 0), f41.2.1, f41.2.2) o17) (.pointer (some ⟨fb42, 0, none⟩)) h rfl rfl
   exact zk <| zt <| r_less [2,3,9] rfl <| by exact r_meetk o17 g18 h rfl rfl
  refine zs <| cB h fun f22 hf22 h => r_dfocus kstr hf22 fun fb23 sv24 tv25 dv26 hq => ?_
  rw [hq]
  clear hq
  refine zr <| p 3 [2,3,9,116] rfl <| yl 0 ((.fst .here)) tx1 rfl rfl rfl trivial rfl <| p 1 [2,3,9,117,118] rfl ?_
  obtain ⟨hs27, h⟩ := ite_ex h
  refine y (y_osub tabOk (i := a2) (j := (List.length f22.1 : Int)) rfl (sub_own 1 rfl) rfl rfl hs27.1 hs27.2.1 hs27.2.2 rfl ty5) rfl ?_
  refine q 1 [(119, .one (.raw (.slice none 0 0)) (subv (T.size (.int .u8)) sv24 (Int.toNat a2) (Int.toNat (List.length f22.1 : Int)))), (120, ts a3)] [2,3,9] rfl <| r_copyo tabOk 1 (i := (Int.toNat a2)) rfl rfl rfl (by have := hs27.2.1; omega) rfl ty5 rfl fun m28 => ?_
  refine za <| jK h (γ := Unit) (fun (o30 : List Int) _ => []) (fun (o30 : List Int) _ => [Res.var fb23 60 FT (sv24, tv25, dv26, ()), Res.own sv24 5 (.int .u8) (laidOver f22.1 (Int.toNat a2) a3), Res.own tv25 5 (.int .u8) f22.2.1, Res.dirty Tryz.prog dI dv26 o30, Res.dhole Tryz.prog dI mv1 o20 a1 (.pointer (some ⟨fb23, 0, none⟩)), Res.var b2 54 DT (r15.2.1, mv1, r15.2.2.2.1, r15.2.2.2.2.1, r15.2.2.2.2.2.1, r15.2.2.2.2.2.2.1, r15.2.2.2.2.2.2.2, ())]) (fun k29 h => ?_) fun o30 gg h => ?_
  ·refine zu <| p 3 [2,3,9,14] rfl ?_
   obtain ⟨s31, e, h⟩ := bnd_ex h; rw [e]
   refine za <| zb <| r_less [2,3,9,14] rfl <| r_loopg (γ := Unit) (fun (s34 : Int × List Int) _ => [(2, ti a2), (3, ts a3), (9, ptr fb23 0), (14, ti s34.1)]) (fun (s34 : Int × List Int) _ => [Res.var fb23 60 FT (sv24, tv25, dv26, ()), Res.own sv24 5 (.int .u8) (laidOver f22.1 (Int.toNat a2) a3), Res.own tv25 5 (.int .u8) f22.2.1, Res.dirty Tryz.prog dI dv26 s34.2, Res.dhole Tryz.prog dI mv1 o20 a1 (.pointer (some ⟨fb23, 0, none⟩)), Res.var b2 54 DT (r15.2.1, mv1, r15.2.2.2.1, r15.2.2.2.2.1, r15.2.2.2.2.2.1, r15.2.2.2.2.2.2.1, r15.2.2.2.2.2.2.2, ())]) (disk_Disk_Write_l0 a2 a3 k29) (s31, f22.2.2) () h rfl rfl ?_
   clear h
   intro m35 s34 gg h
   cases m35 with
   | zero => cases h
   | succ m35 =>
   simp only [disk_Disk_Write_l0] at h
   refine zs <| zu <| q 7 [(14, ti s34.1), (130, tb (decide ((IntKind.wrap .i64 (s34.1 * 64)) < (IntKind.wrap .i64 (a2 + (List.length a3 : Int))))))] [2,3,9] rfl ?_
   obtain ⟨t36, e, h⟩ := bnd_ex h; rw [e]
   refine p 1 [2,3,9,14,131] rfl ?_
   refine r_lsplit (γ := Unit) 3 (fun _ => [(2, ti a2), (3, ts a3), (9, ptr fb23 0), (14, ti s34.1), (134, tb (t36 && (a3 != [])))]) (fun _ => [Res.var fb23 60 FT (sv24, tv25, dv26, ()), Res.own sv24 5 (.int .u8) (laidOver f22.1 (Int.toNat a2) a3), Res.own tv25 5 (.int .u8) f22.2.1, Res.dirty Tryz.prog dI dv26 s34.2, Res.dhole Tryz.prog dI mv1 o20 a1 (.pointer (some ⟨fb23, 0, none⟩)), Res.var b2 54 DT (r15.2.1, mv1, r15.2.2.2.1, r15.2.2.2.2.1, r15.2.2.2.2.2.1, r15.2.2.2.2.2.2.1, r15.2.2.2.2.2.2.2, ())]) ?_ (fun _ => ?_)
   ·clear h
    rcases Bool.eq_false_or_eq_true t36 with hh | hh
    ·rw [hh]
     exact q 3 [(134, tb (a3 != []))] [2,3,9,14] rfl <| r_less [2,3,9,14,134] rfl <| za <| by exact r_meetg () rfl rfl
    rw [hh]
    exact p 3 [2,3,9,14,134] rfl <| za <| by exact r_meetg () rfl rfl
   refine za <| rI h rfl (fun hc h => ?_) fun hc h => ?_
   ·refine zk <| zt <| zs <| zb <| zr <| p 3 [2,3,9,14,139] rfl <| yl 0 ((.snd (.snd (.fst .here)))) ty58 rfl rfl rfl trivial rfl <| q 1 [(140, .one (.raw (.map none)) dv26), (141, ti s34.1)] [2,3,9,14] rfl <| r_undirty 3 rfl fun l38 hl38 => ?_
    refine y (y_look 3 rfl rfl rfl kint Tryz.underlying58 zf3 rfl) rfl ?_
    refine q 1 [(143, ti (IntKind.wrap .i64 (((pget (.int .i64) s34.1 l38).getD 0) + 1)))] [2,3,9,14,140,141] rfl <| iE h fun hc h => r_mapUpdate 3 rfl rfl rfl rfl kint Tryz.underlying58 (by rw [← hl38, List.length_map] at hc; exact hc) ?_
    refine r_redirty (P := Tryz.prog) (I := dI) (keys := kput s34.1 s34.2) 3 rfl (by rw [kput_keys, hl38]) ?_
    refine zn <| zi <| zt <| zr <| q 3 [(14, ti (IntKind.wrap .i64 (s34.1 + 1)))] [2,3,9] rfl ?_
    obtain ⟨s39, e, h⟩ := bnd_ex h; rw [e]
    exact za <| r_less [2,3,9,14] rfl <| by exact r_backg (s39, (kput s34.1 s34.2)) () (Nat.lt_succ_self _) h rfl rfl
   exact zx <| ze <| ze <| zq <| zt <| r_less [] rfl <| by exact r_meetk s34.2 () h rfl rfl
  refine zu <| p 1 [8] rfl <| zf <| r_dunfocus (P := Tryz.prog) (I := dI) kstr ?_
  refine r_imp_at (R' := Res.dfiles Tryz.prog dI mv1 (pset .str a1 ((laidOver f22.1 (Int.toNat a2) a3), f22.2.1, o30) o20)) 0 rfl dat_dfiles <| pk [1,0] rfl <| r_disk (P := Tryz.prog) (I := dI) (D := (r15.2.1, (pset .str a1 ((laidOver f22.1 (Int.toNat a2) a3), f22.2.1, o30) o20), r15.2.2.2.1, r15.2.2.2.2.1, r15.2.2.2.2.2.1, r15.2.2.2.2.2.2.1, r15.2.2.2.2.2.2.2)) ?_
  cases h
  exact r_ret1 rfl (.tmp rfl) (fun _ _ g => g) (fun _ _ _ => (.cons_cons _ .slnil))
 refine q 1 [(65, ptr b2 0), (73, ti (max 0 (IntKind.wrap .i64 ((IntKind.wrap .i64 (a2 + (List.length a3 : Int))) - o6)))), (76, ptr b2 0)] [0,1,2,3,9,10,11] rfl <| za <| r_less [0,1,2,3,9,10,11,65,73,76] rfl <| a_float (i := 12) (t := ptr b2 0) (blind_then (blind_block (blind_then blind_body))) rfl (by kernel_rfl) (by kernel_rfl) (by kernel_rfl) (y_pure tabOk rfl) rfl ?_
 refine a_two (i := 1) (j := 13) (by kernel_rfl) rfl rfl ?_ ?_
 ·refine pk [1,0] rfl <| cB h fun r14 hr14 h => r_call (Lo := []) (disk_Disk_Used_ok b2 mv1 a1 g7 a0 _ hr14) (by kernel_rfl) (List.Perm.refl _) rfl rfl fun _ => ?_
  refine za <| r_less [0,1,2,3,9,10,11,66,73,77] rfl <| a_float (i := 9) (t := ti (IntKind.wrap .i64 (r14 + (max 0 (IntKind.wrap .i64 ((IntKind.wrap .i64 (a2 + (List.length a3 : Int))) - o6)))))) (blind_then (blind_block (blind_then blind_body))) rfl (by kernel_rfl) (by kernel_rfl) (by kernel_rfl) (y_pure tabOk rfl) rfl ?_
  refine a_one (i := 13) (by kernel_rfl) rfl ?_
  refine yl 0 ((.fst .here)) ty3 rfl rfl rfl trivial rfl <| za <| r_less [0,1,2,3,9,10,11,74,78] rfl <| a_float (i := 14) (t := tb (decide ((IntKind.wrap .i64 (r14 + (max 0 (IntKind.wrap .i64 ((IntKind.wrap .i64 (a2 + (List.length a3 : Int))) - o6))))) > a0.1))) (blind_then (blind_block (blind_then blind_body))) rfl (by kernel_rfl) (by kernel_rfl) (by kernel_rfl) (y_pure tabOk rfl) rfl ?_
  refine a_float (i := 15) (t := tb (decide ((IntKind.wrap .i64 (r14 + (max 0 (IntKind.wrap .i64 ((IntKind.wrap .i64 (a2 + (List.length a3 : Int))) - o6))))) > a0.1))) (blind_then (blind_block (blind_then blind_body))) rfl (by kernel_rfl) (by kernel_rfl) (by kernel_rfl) (y_pure tabOk rfl) rfl ?_
  refine a_end (by kernel_rfl) ?_
  refine zt <| rI h rfl (fun hc h => zu <| p 1 [8] rfl <| zf <| zB <| zT <| r_imp_at (R' := Res.dfiles Tryz.prog dI mv1 a0.2.1) 1 rfl dat_dfiles <| r_disk (P := Tryz.prog) (I := dI) (D := a0) <| by cases h; exact r_ret1 rfl (.tmp rfl) (fun _ _ g => g) (fun _ _ _ => (.cons_cons _ .slnil))) fun hc h => zk <| zi <| zt <| zs <| zu <| p 1 [0,1,2,3,9,10,11,80] rfl <| cB h fun r15 hr15 h => r_call (Lo := [Res.dat Tryz.prog dI mv1 a0.2.1 a1 g7]) (disk_Disk_counted_ok b2 mv1 a0 1 _ hr15) (by kernel_rfl) (List.Perm.refl _) rfl rfl fun _ => ?_
  refine q 1 [(12, ti r15.1)] [0,1,2,3,9,10,11] rfl <| zz <| q 2 [(83, tb (r15.1 != 0))] [0,1,2,3,9,10,11,12] rfl <| za <| rI h rfl (fun hc h => zu <| q 2 [(8, ti r15.1)] [] rfl <| zf <| zT <| r_imp_at (R' := Res.dfiles Tryz.prog dI mv1 a0.2.1) 1 rfl dat_dfiles <| r_disk (P := Tryz.prog) (I := dI) (D := (r15.2.1, a0.2.1, r15.2.2.2.1, r15.2.2.2.2.1, r15.2.2.2.2.2.1, r15.2.2.2.2.2.2.1, r15.2.2.2.2.2.2.2)) <| by cases h; exact r_ret1 rfl (.tmp rfl) (fun _ _ g => g) (fun _ _ _ => (.cons_cons _ .slnil))) fun hc h => zk <| zt <| jK h (γ := Value) (fun (o17 : (List (List Int × FileS))) g18 => [(2, ti a2), (3, ts a3), (9, tp g18), (11, ti o6)]) (fun (o17 : (List (List Int × FileS))) g18 => [Res.dat Tryz.prog dI mv1 o17 a1 g18, Res.var b2 54 DT (r15.2.1, mv1, r15.2.2.2.1, r15.2.2.2.2.1, r15.2.2.2.2.2.1, r15.2.2.2.2.2.2.1, r15.2.2.2.2.2.2.2, ())]) (fun k16 h => ?_) fun o17 g18 h => ?_
  ·refine zu <| p 2 [0,1,2,3,9,11,86] rfl <| za <| rI h rfl (fun hc h => ?_) fun hc h => ?_
   ·refine zu <| r_makeMap 3 (.int .i64) (.int .i64) rfl fun v47 => ?_
    refine r_redirty (P := Tryz.prog) (I := dI) (keys := []) 0 rfl rfl ?_
    refine y (y_build rfl zf60 rfl rfl (.cons ((.snd (.snd (.fst .here)))) rfl rfl (ok_snd (ok_snd (ok_fst ok_here))) .nil)) rfl ?_
    refine r_box rfl rfl fun b48 => r_nilown (.slice none 0 0) rfl 5 (.int .u8) ?_
    refine r_nilown (.slice none 0 0) rfl 5 (.int .u8) ?_
    refine p 1 [0,1,2,3,9,11] rfl <| za <| zr <| p 3 [1,2,3,9,11,92] rfl <| yl 4 ((.snd (.fst .here))) ty52 rfl rfl rfl trivial rfl <| p 2 [2,3,9,11,93,94,95] rfl <| r_imp_at (R' := Res.dfiles Tryz.prog dI mv1 a0.2.1) 5 rfl dat_dfiles <| iE h fun hc h => pk [2,0,0,0,1,0] rfl <| r_dinsert (P := Tryz.prog) (I := dI) kstr rfl rfl rfl Tryz.underlying52 hc ?_
    exact za <| r_less [2,3,9,11] rfl <| by exact r_meetk (pput .str a1 ([], [], []) a0.2.1) (.pointer (some ⟨b48, 0, none⟩)) h rfl rfl
   exact zk <| zt <| r_less [2,3,9,11] rfl <| pk [1,0] rfl <| by exact r_meetk a0.2.1 g7 h rfl rfl
  refine jK h (γ := Value) (fun (o20 : (List (List Int × FileS))) g21 => [(2, ti a2), (3, ts a3), (9, tp g21)]) (fun (o20 : (List (List Int × FileS))) g21 => [Res.dat Tryz.prog dI mv1 o20 a1 g21, Res.var b2 54 DT (r15.2.1, mv1, r15.2.2.2.1, r15.2.2.2.2.1, r15.2.2.2.2.2.1, r15.2.2.2.2.2.2.1, r15.2.2.2.2.2.2.2, ())]) (fun k19 h => ?_) fun o20 g21 h => ?_
  ·refine zu <| q 5 [(2, ti a2), (3, ts a3), (9, tp g18), (11, ti o6), (13, ti (IntKind.wrap .i64 (a2 + (List.length a3 : Int))))] [] rfl ?_
   obtain ⟨end40, e, h⟩ := bnd_ex h; rw [e]
   refine zz <| p 3 [2,3,9,11,13,102] rfl <| za <| rI h rfl (fun hc h => ?_) fun hc h => ?_
   ·refine cB h fun f41 hf41 h => r_dfocus kstr hf41 fun fb42 sv43 tv44 dv45 hq => ?_
    rw [hq]
    clear hq
    refine zr <| p 4 [2,3,9,11,13,103,106] rfl <| yl 0 ((.fst .here)) tx1 rfl rfl rfl trivial rfl <| p 3 [2,3,9,103,107,110] rfl <| iE h fun hc h => r_appendn tabOk zf5 1 rfl rfl rfl hc.1 rfl el5 Tryz.underlying3 hc.2 rfl fun v46 => ?_
    refine p 2 [2,3,9,111,113] rfl <| st 0 ((.fst .here)) tx1 rfl rfl rfl rfl trivial <| za <| r_dunfocus (P := Tryz.prog) (I := dI) kstr ?_
    exact r_less [2,3,9] rfl <| by exact r_meetk (pset .str a1 ((f41.1 ++ List.replicate (Int.toNat (IntKind.wrap .i64 (end40 - o6))) 0), f41.2.1, f41.2.2) o17) (.pointer (some ⟨fb42, 0, none⟩)) h rfl rfl
   exact zk <| zt <| r_less [2,3,9] rfl <| by exact r_meetk o17 g18 h rfl rfl
  refine zs <| cB h fun f22 hf22 h => r_dfocus kstr hf22 fun fb23 sv24 tv25 dv26 hq => ?_
  rw [hq]
  clear hq
  refine zr <| p 3 [2,3,9,116] rfl <| yl 0 ((.fst .here)) tx1 rfl rfl rfl trivial rfl <| p 1 [2,3,9,117,118] rfl ?_
  obtain ⟨hs27, h⟩ := ite_ex h
  refine y (y_osub tabOk (i := a2) (j := (List.length f22.1 : Int)) rfl (sub_own 1 rfl) rfl rfl hs27.1 hs27.2.1 hs27.2.2 rfl ty5) rfl ?_
  refine q 1 [(119, .one (.raw (.slice none 0 0)) (subv (T.size (.int .u8)) sv24 (Int.toNat a2) (Int.toNat (List.length f22.1 : Int)))), (120, ts a3)] [2,3,9] rfl <| r_copyo tabOk 1 (i := (Int.toNat a2)) rfl rfl rfl (by have := hs27.2.1; omega) rfl ty5 rfl fun m28 => ?_
  refine za <| jK h (γ := Unit) (fun (o30 : List Int) _ => []) (fun (o30 : List Int) _ => [Res.var fb23 60 FT (sv24, tv25, dv26, ()), Res.own sv24 5 (.int .u8) (laidOver f22.1 (Int.toNat a2) a3), Res.own tv25 5 (.int .u8) f22.2.1, Res.dirty Tryz.prog dI dv26 o30, Res.dhole Tryz.prog dI mv1 o20 a1 (.pointer (some ⟨fb23, 0, none⟩)), Res.var b2 54 DT (r15.2.1, mv1, r15.2.2.2.1, r15.2.2.2.2.1, r15.2.2.2.2.2.1, r15.2.2.2.2.2.2.1, r15.2.2.2.2.2.2.2, ())]) (fun k29 h => ?_) fun o30 gg h => ?_
  ·refine zu <| p 3 [2,3,9,14] rfl ?_
   obtain ⟨s31, e, h⟩ := bnd_ex h; rw [e]
   refine za <| zb <| r_less [2,3,9,14] rfl <| r_loopg (γ := Unit) (fun (s34 : Int × List Int) _ => [(2, ti a2), (3, ts a3), (9, ptr fb23 0), (14, ti s34.1)]) (fun (s34 : Int × List Int) _ => [Res.var fb23 60 FT (sv24, tv25, dv26, ()), Res.own sv24 5 (.int .u8) (laidOver f22.1 (Int.toNat a2) a3), Res.own tv25 5 (.int .u8) f22.2.1, Res.dirty Tryz.prog dI dv26 s34.2, Res.dhole Tryz.prog dI mv1 o20 a1 (.pointer (some ⟨fb23, 0, none⟩)), Res.var b2 54 DT (r15.2.1, mv1, r15.2.2.2.1, r15.2.2.2.2.1, r15.2.2.2.2.2.1, r15.2.2.2.2.2.2.1, r15.2.2.2.2.2.2.2, ())]) (disk_Disk_Write_l0 a2 a3 k29) (s31, f22.2.2) () h rfl rfl ?_
   clear h
   intro m35 s34 gg h
   cases m35 with
   | zero => cases h
   | succ m35 =>
   simp only [disk_Disk_Write_l0] at h
   refine zs <| zu <| q 7 [(14, ti s34.1), (130, tb (decide ((IntKind.wrap .i64 (s34.1 * 64)) < (IntKind.wrap .i64 (a2 + (List.length a3 : Int))))))] [2,3,9] rfl ?_
   obtain ⟨t36, e, h⟩ := bnd_ex h; rw [e]
   refine p 1 [2,3,9,14,131] rfl ?_
   refine r_lsplit (γ := Unit) 3 (fun _ => [(2, ti a2), (3, ts a3), (9, ptr fb23 0), (14, ti s34.1), (134, tb (t36 && (a3 != [])))]) (fun _ => [Res.var fb23 60 FT (sv24, tv25, dv26, ()), Res.own sv24 5 (.int .u8) (laidOver f22.1 (Int.toNat a2) a3), Res.own tv25 5 (.int .u8) f22.2.1, Res.dirty Tryz.prog dI dv26 s34.2, Res.dhole Tryz.prog dI mv1 o20 a1 (.pointer (some ⟨fb23, 0, none⟩)), Res.var b2 54 DT (r15.2.1, mv1, r15.2.2.2.1, r15.2.2.2.2.1, r15.2.2.2.2.2.1, r15.2.2.2.2.2.2.1, r15.2.2.2.2.2.2.2, ())]) ?_ (fun _ => ?_)
   ·clear h
    rcases Bool.eq_false_or_eq_true t36 with hh | hh
    ·rw [hh]
     exact q 3 [(134, tb (a3 != []))] [2,3,9,14] rfl <| r_less [2,3,9,14,134] rfl <| za <| by exact r_meetg () rfl rfl
    rw [hh]
    exact p 3 [2,3,9,14,134] rfl <| za <| by exact r_meetg () rfl rfl
   refine za <| rI h rfl (fun hc h => ?_) fun hc h => ?_
   ·refine zk <| zt <| zs <| zb <| zr <| p 3 [2,3,9,14,139] rfl <| yl 0 ((.snd (.snd (.fst .here)))) ty58 rfl rfl rfl trivial rfl <| q 1 [(140, .one (.raw (.map none)) dv26), (141, ti s34.1)] [2,3,9,14] rfl <| r_undirty 3 rfl fun l38 hl38 => ?_
    refine y (y_look 3 rfl rfl rfl kint Tryz.underlying58 zf3 rfl) rfl ?_
    refine q 1 [(143, ti (IntKind.wrap .i64 (((pget (.int .i64) s34.1 l38).getD 0) + 1)))] [2,3,9,14,140,141] rfl <| iE h fun hc h => r_mapUpdate 3 rfl rfl rfl rfl kint Tryz.underlying58 (by rw [← hl38, List.length_map] at hc; exact hc) ?_
    refine r_redirty (P := Tryz.prog) (I := dI) (keys := kput s34.1 s34.2) 3 rfl (by rw [kput_keys, hl38]) ?_
    refine zn <| zi <| zt <| zr <| q 3 [(14, ti (IntKind.wrap .i64 (s34.1 + 1)))] [2,3,9] rfl ?_
    obtain ⟨s39, e, h⟩ := bnd_ex h; rw [e]
    exact za <| r_less [2,3,9,14] rfl <| by exact r_backg (s39, (kput s34.1 s34.2)) () (Nat.lt_succ_self _) h rfl rfl
   exact zx <| ze <| ze <| zq <| zt <| r_less [] rfl <| by exact r_meetk s34.2 () h rfl rfl
  refine zu <| p 1 [8] rfl <| zf <| r_dunfocus (P := Tryz.prog) (I := dI) kstr ?_
  refine r_imp_at (R' := Res.dfiles Tryz.prog dI mv1 (pset .str a1 ((laidOver f22.1 (Int.toNat a2) a3), f22.2.1, o30) o20)) 0 rfl dat_dfiles <| pk [1,0] rfl <| r_disk (P := Tryz.prog) (I := dI) (D := (r15.2.1, (pset .str a1 ((laidOver f22.1 (Int.toNat a2) a3), f22.2.1, o30) o20), r15.2.2.2.1, r15.2.2.2.2.1, r15.2.2.2.2.2.1, r15.2.2.2.2.2.2.1, r15.2.2.2.2.2.2.2)) ?_
  cases h
  exact r_ret1 rfl (.tmp rfl) (fun _ _ g => g) (fun _ _ _ => (.cons_cons _ .slnil))
 refine yl 1 ((.fst .here)) ty3 rfl rfl rfl trivial rfl <| za <| r_less [0,1,2,3,9,10,11,65,73,78] rfl <| a_one (i := 1) (by kernel_rfl) rfl ?_
 refine pk [1,0] rfl <| cB h fun r14 hr14 h => r_call (Lo := []) (disk_Disk_Used_ok b2 mv1 a1 g7 a0 _ hr14) (by kernel_rfl) (List.Perm.refl _) rfl rfl fun _ => ?_
 refine za <| r_less [0,1,2,3,9,10,11,66,73,78] rfl <| a_float (i := 9) (t := ti (IntKind.wrap .i64 (r14 + (max 0 (IntKind.wrap .i64 ((IntKind.wrap .i64 (a2 + (List.length a3 : Int))) - o6)))))) (blind_then (blind_block (blind_then blind_body))) rfl (by kernel_rfl) (by kernel_rfl) (by kernel_rfl) (y_pure tabOk rfl) rfl ?_
 refine a_float (i := 14) (t := tb (decide ((IntKind.wrap .i64 (r14 + (max 0 (IntKind.wrap .i64 ((IntKind.wrap .i64 (a2 + (List.length a3 : Int))) - o6))))) > a0.1))) (blind_then (blind_block (blind_then blind_body))) rfl (by kernel_rfl) (by kernel_rfl) (by kernel_rfl) (y_pure tabOk rfl) rfl ?_
 refine a_float (i := 15) (t := tb (decide ((IntKind.wrap .i64 (r14 + (max 0 (IntKind.wrap .i64 ((IntKind.wrap .i64 (a2 + (List.length a3 : Int))) - o6))))) > a0.1))) (blind_then (blind_block (blind_then blind_body))) rfl (by kernel_rfl) (by kernel_rfl) (by kernel_rfl) (y_pure tabOk rfl) rfl ?_
 refine a_end (by kernel_rfl) ?_
 refine zt <| rI h rfl (fun hc h => zu <| p 1 [8] rfl <| zf <| zB <| zT <| r_imp_at (R' := Res.dfiles Tryz.prog dI mv1 a0.2.1) 1 rfl dat_dfiles <| r_disk (P := Tryz.prog) (I := dI) (D := a0) <| by cases h; exact r_ret1 rfl (.tmp rfl) (fun _ _ g => g) (fun _ _ _ => (.cons_cons _ .slnil))) fun hc h => zk <| zi <| zt <| zs <| zu <| p 1 [0,1,2,3,9,10,11,80] rfl <| cB h fun r15 hr15 h => r_call (Lo := [Res.dat Tryz.prog dI mv1 a0.2.1 a1 g7]) (disk_Disk_counted_ok b2 mv1 a0 1 _ hr15) (by kernel_rfl) (List.Perm.refl _) rfl rfl fun _ => ?_
 refine q 1 [(12, ti r15.1)] [0,1,2,3,9,10,11] rfl <| zz <| q 2 [(83, tb (r15.1 != 0))] [0,1,2,3,9,10,11,12] rfl <| za <| rI h rfl (fun hc h => zu <| q 2 [(8, ti r15.1)] [] rfl <| zf <| zT <| r_imp_at (R' := Res.dfiles Tryz.prog dI mv1 a0.2.1) 1 rfl dat_dfiles <| r_disk (P := Tryz.prog) (I := dI) (D := (r15.2.1, a0.2.1, r15.2.2.2.1, r15.2.2.2.2.1, r15.2.2.2.2.2.1, r15.2.2.2.2.2.2.1, r15.2.2.2.2.2.2.2)) <| by cases h; exact r_ret1 rfl (.tmp rfl) (fun _ _ g => g) (fun _ _ _ => (.cons_cons _ .slnil))) fun hc h => zk <| zt <| jK h (γ := Value) (fun (o17 : (List (List Int × FileS))) g18 => [(2, ti a2), (3, ts a3), (9, tp g18), (11, ti o6)]) (fun (o17 : (List (List Int × FileS))) g18 => [Res.dat Tryz.prog dI mv1 o17 a1 g18, Res.var b2 54 DT (r15.2.1, mv1, r15.2.2.2.1, r15.2.2.2.2.1, r15.2.2.2.2.2.1, r15.2.2.2.2.2.2.1, r15.2.2.2.2.2.2.2, ())]) (fun k16 h => ?_) fun o17 g18 h => ?_
 ·refine zu <| p 2 [0,1,2,3,9,11,86] rfl <| za <| rI h rfl (fun hc h => ?_) fun hc h => ?_
  ·refine zu <| r_makeMap 3 (.int .i64) (.int .i64) rfl fun v47 => ?_
   refine r_redirty (P := Tryz.prog) (I := dI) (keys := []) 0 rfl rfl ?_
   refine y (y_build rfl zf60 rfl rfl (.cons ((.snd (.snd (.fst .here)))) rfl rfl (ok_snd (ok_snd (ok_fst ok_here))) .nil)) rfl ?_
   refine r_box rfl rfl fun b48 => r_nilown (.slice none 0 0) rfl 5 (.int .u8) ?_
   refine r_nilown (.slice none 0 0) rfl 5 (.int .u8) ?_
   refine p 1 [0,1,2,3,9,11] rfl <| za <| zr <| p 3 [1,2,3,9,11,92] rfl <| yl 4 ((.snd (.fst .here))) ty52 rfl rfl rfl trivial rfl <| p 2 [2,3,9,11,93,94,95] rfl <| r_imp_at (R' := Res.dfiles Tryz.prog dI mv1 a0.2.1) 5 rfl dat_dfiles <| iE h fun hc h => pk [2,0,0,0,1,0] rfl <| r_dinsert (P := Tryz.prog) (I := dI) kstr rfl rfl rfl Tryz.underlying52 hc ?_
   exact za <| r_less [2,3,9,11] rfl <| by exact r_meetk (pput .str a1 ([], [], []) a0.2.1) (.pointer (some ⟨b48, 0, none⟩)) h rfl rfl
  exact zk <| zt <| r_less [2,3,9,11] rfl <| pk [1,0] rfl <| by exact r_meetk a0.2.1 g7 h rfl rfl
 refine jK h (γ := Value) (fun (o20 : (List (List Int × FileS))) g21 => [(2, ti a2), (3, ts a3), (9, tp g21)]) (fun (o20 : (List (List Int × FileS))) g21 => [Res.dat Tryz.prog dI mv1 o20 a1 g21, Res.var b2 54 DT (r15.2.1, mv1, r15.2.2.2.1, r15.2.2.2.2.1, r15.2.2.2.2.2.1, r15.2.2.2.2.2.2.1, r15.2.2.2.2.2.2.2, ())]) (fun k19 h => ?_) fun o20 g21 h => ?_
 ·refine zu <| q 5 [(2, ti a2), (3, ts a3), (9, tp g18), (11, ti o6), (13, ti (IntKind.wrap .i64 (a2 + (List.length a3 : Int))))] [] rfl ?_
  obtain ⟨end40, e, h⟩ := bnd_ex h; rw [e]
  refine zz <| p 3 [2,3,9,11,13,102] rfl <| za <| rI h rfl (fun hc h => ?_) fun hc h => ?_
  ·refine cB h fun f41 hf41 h => r_dfocus kstr hf41 fun fb42 sv43 tv44 dv45 hq => ?_
   rw [hq]
   clear hq
   refine zr <| p 4 [2,3,9,11,13,103,106] rfl <| yl 0 ((.fst .here)) tx1 rfl rfl rfl trivial rfl <| p 3 [2,3,9,103,107,110] rfl <| iE h fun hc h => r_appendn tabOk zf5 1 rfl rfl rfl hc.1 rfl el5 Tryz.underlying3 hc.2 rfl fun v46 => ?_
   refine p 2 [2,3,9,111,113] rfl <| st 0 ((.fst .here)) tx1 rfl rfl rfl rfl trivial <| za <| r_dunfocus (P := Tryz.prog) (I := dI) kstr ?_
   exact r_less [2,3,9] rfl <| by exact r_meetk (pset .str a1 ((f41.1 ++ List.replicate (Int.toNat (IntKind.wrap .i64 (end40 - o6))) 0), f41.2.1, f41.2.2) o17) (.pointer (some ⟨fb42, 0, none⟩)) h rfl rfl
  exact zk <| zt <| r_less [2,3,9] rfl <| by exact r_meetk o17 g18 h rfl rfl
 refine zs <| cB h fun f22 hf22 h => r_dfocus kstr hf22 fun fb23 sv24 tv25 dv26 hq => ?_
 rw [hq]
 clear hq
 refine zr <| p 3 [2,3,9,116] rfl <| yl 0 ((.fst .here)) tx1 rfl rfl rfl trivial rfl <| p 1 [2,3,9,117,118] rfl ?_
 obtain ⟨hs27, h⟩ := ite_ex h
 refine y (y_osub tabOk (i := a2) (j := (List.length f22.1 : Int)) rfl (sub_own 1 rfl) rfl rfl hs27.1 hs27.2.1 hs27.2.2 rfl ty5) rfl ?_
 refine q 1 [(119, .one (.raw (.slice none 0 0)) (subv (T.size (.int .u8)) sv24 (Int.toNat a2) (Int.toNat (List.length f22.1 : Int)))), (120, ts a3)] [2,3,9] rfl <| r_copyo tabOk 1 (i := (Int.toNat a2)) rfl rfl rfl (by have := hs27.2.1; omega) rfl ty5 rfl fun m28 => ?_
 refine za <| jK h (γ := Unit) (fun (o30 : List Int) _ => []) (fun (o30 : List Int) _ => [Res.var fb23 60 FT (sv24, tv25, dv26, ()), Res.own sv24 5 (.int .u8) (laidOver f22.1 (Int.toNat a2) a3), Res.own tv25 5 (.int .u8) f22.2.1, Res.dirty Tryz.prog dI dv26 o30, Res.dhole Tryz.prog dI mv1 o20 a1 (.pointer (some ⟨fb23, 0, none⟩)), Res.var b2 54 DT (r15.2.1, mv1, r15.2.2.2.1, r15.2.2.2.2.1, r15.2.2.2.2.2.1, r15.2.2.2.2.2.2.1, r15.2.2.2.2.2.2.2, ())]) (fun k29 h => ?_) fun o30 gg h => ?_
 ·refine zu <| p 3 [2,3,9,14] rfl ?_
  obtain ⟨s31, e, h⟩ := bnd_ex h; rw [e]
  refine za <| zb <| r_less [2,3,9,14] rfl <| r_loopg (γ := Unit) (fun (s34 : Int × List Int) _ => [(2, ti a2), (3, ts a3), (9, ptr fb23 0), (14, ti s34.1)]) (fun (s34 : Int × List Int) _ => [Res.var fb23 60 FT (sv24, tv25, dv26, ()), Res.own sv24 5 (.int .u8) (laidOver f22.1 (Int.toNat a2) a3), Res.own tv25 5 (.int .u8) f22.2.1, Res.dirty Tryz.prog dI dv26 s34.2, Res.dhole Tryz.prog dI mv1 o20 a1 (.pointer (some ⟨fb23, 0, none⟩)), Res.var b2 54 DT (r15.2.1, mv1, r15.2.2.2.1, r15.2.2.2.2.1, r15.2.2.2.2.2.1, r15.2.2.2.2.2.2.1, r15.2.2.2.2.2.2.2, ())]) (disk_Disk_Write_l0 a2 a3 k29) (s31, f22.2.2) () h rfl rfl ?_
  clear h
  intro m35 s34 gg h
  cases m35 with
  | zero => cases h
  | succ m35 =>
  simp only [disk_Disk_Write_l0] at h
  refine zs <| zu <| q 7 [(14, ti s34.1), (130, tb (decide ((IntKind.wrap .i64 (s34.1 * 64)) < (IntKind.wrap .i64 (a2 + (List.length a3 : Int))))))] [2,3,9] rfl ?_
  obtain ⟨t36, e, h⟩ := bnd_ex h; rw [e]
  refine p 1 [2,3,9,14,131] rfl ?_
  refine r_lsplit (γ := Unit) 3 (fun _ => [(2, ti a2), (3, ts a3), (9, ptr fb23 0), (14, ti s34.1), (134, tb (t36 && (a3 != [])))]) (fun _ => [Res.var fb23 60 FT (sv24, tv25, dv26, ()), Res.own sv24 5 (.int .u8) (laidOver f22.1 (Int.toNat a2) a3), Res.own tv25 5 (.int .u8) f22.2.1, Res.dirty Tryz.prog dI dv26 s34.2, Res.dhole Tryz.prog dI mv1 o20 a1 (.pointer (some ⟨fb23, 0, none⟩)), Res.var b2 54 DT (r15.2.1, mv1, r15.2.2.2.1, r15.2.2.2.2.1, r15.2.2.2.2.2.1, r15.2.2.2.2.2.2.1, r15.2.2.2.2.2.2.2, ())]) ?_ (fun _ => ?_)
  ·clear h
   rcases Bool.eq_false_or_eq_true t36 with hh | hh
   ·rw [hh]
    exact q 3 [(134, tb (a3 != []))] [2,3,9,14] rfl <| r_less [2,3,9,14,134] rfl <| za <| by exact r_meetg () rfl rfl
   rw [hh]
   exact p 3 [2,3,9,14,134] rfl <| za <| by exact r_meetg () rfl rfl
  refine za <| rI h rfl (fun hc h => ?_) fun hc h => ?_
  ·refine zk <| zt <| zs <| zb <| zr <| p 3 [2,3,9,14,139] rfl <| yl 0 ((.snd (.snd (.fst .here)))) ty58 rfl rfl rfl trivial rfl <| q 1 [(140, .one (.raw (.map none)) dv26), (141, ti s34.1)] [2,3,9,14] rfl <| r_undirty 3 rfl fun l38 hl38 => ?_
   refine y (y_look 3 rfl rfl rfl kint Tryz.underlying58 zf3 rfl) rfl ?_
   refine q 1 [(143, ti (IntKind.wrap .i64 (((pget (.int .i64) s34.1 l38).getD 0) + 1)))] [2,3,9,14,140,141] rfl <| iE h fun hc h => r_mapUpdate 3 rfl rfl rfl rfl kint Tryz.underlying58 (by rw [← hl38, List.length_map] at hc; exact hc) ?_
   refine r_redirty (P := Tryz.prog) (I := dI) (keys := kput s34.1 s34.2) 3 rfl (by rw [kput_keys, hl38]) ?_
   refine zn <| zi <| zt <| zr <| q 3 [(14, ti (IntKind.wrap .i64 (s34.1 + 1)))] [2,3,9] rfl ?_
   obtain ⟨s39, e, h⟩ := bnd_ex h; rw [e]
   exact za <| r_less [2,3,9,14] rfl <| by exact r_backg (s39, (kput s34.1 s34.2)) () (Nat.lt_succ_self _) h rfl rfl
  exact zx <| ze <| ze <| zq <| zt <| r_less [] rfl <| by exact r_meetk s34.2 () h rfl rfl
 refine zu <| p 1 [8] rfl <| zf <| r_dunfocus (P := Tryz.prog) (I := dI) kstr ?_
 refine r_imp_at (R' := Res.dfiles Tryz.prog dI mv1 (pset .str a1 ((laidOver f22.1 (Int.toNat a2) a3), f22.2.1, o30) o20)) 0 rfl dat_dfiles <| pk [1,0] rfl <| r_disk (P := Tryz.prog) (I := dI) (D := (r15.2.1, (pset .str a1 ((laidOver f22.1 (Int.toNat a2) a3), f22.2.1, o30) o20), r15.2.2.2.1, r15.2.2.2.2.1, r15.2.2.2.2.2.1, r15.2.2.2.2.2.2.1, r15.2.2.2.2.2.2.2)) ?_
 cases h
 exact r_ret1 rfl (.tmp rfl) (fun _ _ g => g) (fun _ _ _ => (.cons_cons _ .slnil))

theorem disk_Disk_Remove_ok (p0 : Value) (a0 : DiskS) (a1 : List Int) (r : Int × DiskS) (h : disk_Disk_Remove a0 a1 = some r) : Fn Tryz.prog 54 [tp p0, ts a1] [Res.disk Tryz.prog dI p0 a0] (fun _ => ti r.1) (fun _ => [Res.disk Tryz.prog dI p0 r.2]) := by
 unfold disk_Disk_Remove at h
 refine enter Tryz.func54 rfl 21 rfl rfl fun F => ?_
 refine r_undisk fun b2 mv1 hp => ?_
 subst hp
 refine zu <| p 1 [0,1] rfl <| za <| zs <| zu <| p 2 [0,1,8,9] rfl <| cB h fun r3 hr3 h => r_call (Lo := []) (disk_Disk_found_ok b2 mv1 a0 a1 _ hr3) (by kernel_rfl) (List.Perm.refl _) rfl rfl fun v4 => ?_
 refine p 5 [0,1,6] rfl <| zz <| p 2 [0,1,6,14] rfl <| za <| rI h rfl (fun hc h => zu <| p 2 [4] rfl <| zf <| zT <| r_imp_at (R' := Res.dfiles Tryz.prog dI mv1 a0.2.1) 1 rfl dfound_dfiles <| r_disk (P := Tryz.prog) (I := dI) (D := a0) <| by cases h; exact r_ret1 rfl (.tmp rfl) (fun _ _ g => g) (fun _ _ _ => (.cons_cons _ .slnil))) fun hc h => zy <| p 3 [1,18] rfl <| yl 0 ((.snd (.fst .here))) ty52 rfl rfl rfl trivial rfl <| p 1 [19,20] rfl <| r_imp_at (R' := Res.dfiles Tryz.prog dI mv1 a0.2.1) 1 rfl dfound_dfiles <| pk [1,0] rfl <| r_ddelete kstr rfl rfl Tryz.underlying52 rfl ?_
 refine zz <| p 1 [4] rfl <| zf <| pk [1,0] rfl <| r_disk (P := Tryz.prog) (I := dI) (D := (a0.1, (pdel .str a1 a0.2.1), a0.2.2.1, a0.2.2.2.1, a0.2.2.2.2.1, a0.2.2.2.2.2.1, a0.2.2.2.2.2.2)) ?_
 cases h
 exact r_ret1 rfl (.tmp rfl) (fun _ _ g => g) (fun _ _ _ => (.cons_cons _ .slnil))

theorem wal_Log_back_ok (p0 : Value) (p100 : Value) (a0 : Unit × List Int × Int × (List (Int × Int × Int × Unit)) × Int × Bool × Unit) (a1 : Int × Int × Int × Unit) (a2 : Bool) (a100 : DiskS) (r : Int × DiskS) (h : wal_Log_back a0 a1 a2 a100 = some r) : FnT Tryz.prog tabs 41 [tp p0, .one Y77 a1, tb a2] [Res.cls (CLog p100) p0 a0, Res.disk Tryz.prog dI p100 a100] (fun _ => ti r.1) (fun _ => [Res.cls (CLog p100) p0 a0, Res.disk Tryz.prog dI p100 r.2]) := by
 unfold wal_Log_back at h
 refine enterT Tryz.func41 rfl 28 rfl rfl fun F hT => ?_
 refine r_unCLog fun b2 sv1 hp => ?_
 subst hp
 refine r_CLog (x := a0) (q := p100) ?_
 refine zu <| r_box rfl rfl fun b3 => p 1 [0,2,4] rfl <| za <| zs <| zu <| p 1 [0,4,7] rfl <| za <| rI h rfl (fun hc h => ?_) fun hc h => ?_
 ·refine jK h (γ := Unit) (fun (o5 : Int × DiskS) _ => [(6, ti o5.1)]) (fun (o5 : Int × DiskS) _ => [Res.cls (CLog p100) (.pointer (some ⟨b2, 0, none⟩)) a0, Res.disk Tryz.prog dI p100 o5.2, Res.var b3 77 Y77 a1]) (fun k4 h => ?_) fun o5 gg h => ?_
  ·refine pk [1,0,0] rfl <| r_unCLogb fun sv6 => ?_
   refine r_any (by kernel_rfl) ?_
   refine a_float (i := 0) (t := ptr b2 0) (blind_then (blind_then blind_body)) rfl (by kernel_rfl) (by kernel_rfl) (by kernel_rfl) (y_pure tabOk rfl) rfl ?_
   refine a_float (i := 4) (t := ptr b2 0) (blind_then (blind_then blind_body)) rfl (by kernel_rfl) (by kernel_rfl) (by kernel_rfl) (y_pure tabOk rfl) rfl ?_
   refine a_float (i := 5) (t := ptr b3 0) (blind_then (blind_then blind_body)) rfl (by kernel_rfl) (by kernel_rfl) (by kernel_rfl) (y_pure tabOk rfl) rfl ?_
   refine a_two (i := 1) (j := 6) (by kernel_rfl) rfl rfl ?_ ?_
   ·refine p 1 [9,12,13] rfl <| za <| r_less [9,12,13] rfl <| a_float (i := 2) (t := ptr b2 0) (blind_then (blind_then blind_body)) rfl (by kernel_rfl) (by kernel_rfl) (by kernel_rfl) (y_pure tabOk rfl) rfl ?_
    refine a_two (i := 3) (j := 6) (by kernel_rfl) rfl rfl ?_ ?_
    ·refine yl 0 ((.fst .here)) ty23 rfl rfl rfl trivial rfl <| za <| r_less [11,12,13] rfl <| a_one (i := 6) (by kernel_rfl) rfl ?_
     refine yl 2 ((.fst .here)) ty3 rfl rfl rfl trivial rfl <| za <| r_less [11,12,14] rfl <| a_one (i := 7) (by kernel_rfl) rfl ?_
     refine cB h fun r7 hr7 h => rcT hT [0] (wal_Log_file_ok _ _ _ _ _ _ hr7) (by kernel_rfl) rfl rfl rfl fun _ => za <| r_less [11,15] rfl <| a_one (i := 8) (by kernel_rfl) rfl ?_
     refine cB h fun r8 hr8 h => rc [3] (disk_Disk_Remove_ok _ _ _ _ hr8) (by kernel_rfl) rfl rfl rfl fun _ => za <| r_less [16] rfl <| a_float (i := 9) (t := ti r8.1) (blind_then (blind_then blind_body)) rfl (by kernel_rfl) (by kernel_rfl) (by kernel_rfl) (y_pure tabOk rfl) rfl ?_
     refine a_end (by kernel_rfl) ?_
     refine zt <| pk [1,1,0,0] rfl <| r_CLog (x := a0) (q := p100) ?_
     exact r_less [6] rfl <| by exact r_meetk (r8.1, r8.2) () h rfl rfl
    refine yl 2 ((.fst .here)) ty3 rfl rfl rfl trivial rfl <| za <| r_less [10,12,14] rfl ?_
    refine a_two (i := 3) (j := 7) (by kernel_rfl) rfl rfl ?_ ?_
    ·refine yl 0 ((.fst .here)) ty23 rfl rfl rfl trivial rfl <| za <| r_less [11,12,14] rfl <| a_one (i := 7) (by kernel_rfl) rfl ?_
     refine cB h fun r7 hr7 h => rcT hT [0] (wal_Log_file_ok _ _ _ _ _ _ hr7) (by kernel_rfl) rfl rfl rfl fun _ => za <| r_less [11,15] rfl <| a_one (i := 8) (by kernel_rfl) rfl ?_
     refine cB h fun r8 hr8 h => rc [3] (disk_Disk_Remove_ok _ _ _ _ hr8) (by kernel_rfl) rfl rfl rfl fun _ => za <| r_less [16] rfl <| a_float (i := 9) (t := ti r8.1) (blind_then (blind_then blind_body)) rfl (by kernel_rfl) (by kernel_rfl) (by kernel_rfl) (y_pure tabOk rfl) rfl ?_
     refine a_end (by kernel_rfl) ?_
     refine zt <| pk [1,1,0,0] rfl <| r_CLog (x := a0) (q := p100) ?_
     exact r_less [6] rfl <| by exact r_meetk (r8.1, r8.2) () h rfl rfl
    refine cB h fun r7 hr7 h => rcT hT [0] (wal_Log_file_ok _ _ _ _ _ _ hr7) (by kernel_rfl) rfl rfl rfl fun _ => za <| r_less [10,15] rfl <| a_one (i := 3) (by kernel_rfl) rfl ?_
    refine yl 0 ((.fst .here)) ty23 rfl rfl rfl trivial rfl <| za <| r_less [11,15] rfl <| a_one (i := 8) (by kernel_rfl) rfl ?_
    refine cB h fun r8 hr8 h => rc [3] (disk_Disk_Remove_ok _ _ _ _ hr8) (by kernel_rfl) rfl rfl rfl fun _ => za <| r_less [16] rfl <| a_float (i := 9) (t := ti r8.1) (blind_then (blind_then blind_body)) rfl (by kernel_rfl) (by kernel_rfl) (by kernel_rfl) (y_pure tabOk rfl) rfl ?_
    refine a_end (by kernel_rfl) ?_
    refine zt <| pk [1,1,0,0] rfl <| r_CLog (x := a0) (q := p100) ?_
    exact r_less [6] rfl <| by exact r_meetk (r8.1, r8.2) () h rfl rfl
   refine yl 2 ((.fst .here)) ty3 rfl rfl rfl trivial rfl <| za <| r_less [8,12,14] rfl ?_
   refine a_two (i := 1) (j := 7) (by kernel_rfl) rfl rfl ?_ ?_
   ·refine q 1 [(9, ptr b2 0), (12, ptr b2 0), (14, ti a1.1)] [] rfl <| za <| r_less [9,12,14] rfl <| a_float (i := 2) (t := ptr b2 0) (blind_then (blind_then blind_body)) rfl (by kernel_rfl) (by kernel_rfl) (by kernel_rfl) (y_pure tabOk rfl) rfl ?_
    refine a_two (i := 3) (j := 7) (by kernel_rfl) rfl rfl ?_ ?_
    ·refine yl 0 ((.fst .here)) ty23 rfl rfl rfl trivial rfl <| za <| r_less [11,12,14] rfl <| a_one (i := 7) (by kernel_rfl) rfl ?_
     refine cB h fun r7 hr7 h => rcT hT [0] (wal_Log_file_ok _ _ _ _ _ _ hr7) (by kernel_rfl) rfl rfl rfl fun _ => za <| r_less [11,15] rfl <| a_one (i := 8) (by kernel_rfl) rfl ?_
     refine cB h fun r8 hr8 h => rc [3] (disk_Disk_Remove_ok _ _ _ _ hr8) (by kernel_rfl) rfl rfl rfl fun _ => za <| r_less [16] rfl <| a_float (i := 9) (t := ti r8.1) (blind_then (blind_then blind_body)) rfl (by kernel_rfl) (by kernel_rfl) (by kernel_rfl) (y_pure tabOk rfl) rfl ?_
     refine a_end (by kernel_rfl) ?_
     refine zt <| pk [1,1,0,0] rfl <| r_CLog (x := a0) (q := p100) ?_
     exact r_less [6] rfl <| by exact r_meetk (r8.1, r8.2) () h rfl rfl
    refine cB h fun r7 hr7 h => rcT hT [0] (wal_Log_file_ok _ _ _ _ _ _ hr7) (by kernel_rfl) rfl rfl rfl fun _ => za <| r_less [10,15] rfl <| a_one (i := 3) (by kernel_rfl) rfl ?_
    refine yl 0 ((.fst .here)) ty23 rfl rfl rfl trivial rfl <| za <| r_less [11,15] rfl <| a_one (i := 8) (by kernel_rfl) rfl ?_
    refine cB h fun r8 hr8 h => rc [3] (disk_Disk_Remove_ok _ _ _ _ hr8) (by kernel_rfl) rfl rfl rfl fun _ => za <| r_less [16] rfl <| a_float (i := 9) (t := ti r8.1) (blind_then (blind_then blind_body)) rfl (by kernel_rfl) (by kernel_rfl) (by kernel_rfl) (y_pure tabOk rfl) rfl ?_
    refine a_end (by kernel_rfl) ?_
    refine zt <| pk [1,1,0,0] rfl <| r_CLog (x := a0) (q := p100) ?_
    exact r_less [6] rfl <| by exact r_meetk (r8.1, r8.2) () h rfl rfl
   refine cB h fun r7 hr7 h => rcT hT [0] (wal_Log_file_ok _ _ _ _ _ _ hr7) (by kernel_rfl) rfl rfl rfl fun _ => za <| r_less [8,15] rfl <| a_one (i := 1) (by kernel_rfl) rfl ?_
   refine p 1 [9,15] rfl <| za <| r_less [9,15] rfl <| a_float (i := 2) (t := ptr b2 0) (blind_then (blind_then blind_body)) rfl (by kernel_rfl) (by kernel_rfl) (by kernel_rfl) (y_pure tabOk rfl) rfl ?_
   refine a_one (i := 3) (by kernel_rfl) rfl ?_
   refine yl 0 ((.fst .here)) ty23 rfl rfl rfl trivial rfl <| za <| r_less [11,15] rfl <| a_one (i := 8) (by kernel_rfl) rfl ?_
   refine cB h fun r8 hr8 h => rc [3] (disk_Disk_Remove_ok _ _ _ _ hr8) (by kernel_rfl) rfl rfl rfl fun _ => za <| r_less [16] rfl <| a_float (i := 9) (t := ti r8.1) (blind_then (blind_then blind_body)) rfl (by kernel_rfl) (by kernel_rfl) (by kernel_rfl) (y_pure tabOk rfl) rfl ?_
   refine a_end (by kernel_rfl) ?_
   refine zt <| pk [1,1,0,0] rfl <| r_CLog (x := a0) (q := p100) ?_
   exact r_less [6] rfl <| by exact r_meetk (r8.1, r8.2) () h rfl rfl
  refine zR <| zT ?_
  cases h
  exact r_ret1 rfl (.tmp rfl) (fun _ _ g => g) (fun _ _ _ => (.cons_cons _ (.cons_cons _ (.cons _ .slnil))))
 refine zk <| zt <| zs <| pk [1,0,0] rfl <| r_unCLogb fun sv9 => ?_
 refine h_start (S := AllIs [VarIs b2 68 (.pair (.raw (.pointer none)) (.pair .str (.pair (.int .i64) (.pair (.raw (.slice none 0 0)) (.pair (.int .i64) (.pair .bool .unit)))))) (p100, a0.2.1, a0.2.2.1, sv9, a0.2.2.2.2.1, a0.2.2.2.2.2.1, a0.2.2.2.2.2.2), VarIs b3 77 Y77 a1]) (by kernel_rfl) ?_
 refine h_take (i := 0) (t := ptr b2 0) (blind_then blind_body) rfl (by kernel_rfl) (by kernel_rfl) (by kernel_rfl) (allis_cons (var_is 0 rfl) (allis_cons (var_is 2 rfl) allis_nil)) (y_pure tabOk rfl) rfl ?_
 refine h_take (i := 1) (t := ptr b2 0) (blind_then blind_body) rfl (by kernel_rfl) (by kernel_rfl) (by kernel_rfl) (allis_cons (var_is 0 rfl) (allis_cons (var_is 2 rfl) allis_nil)) (y_pure tabOk rfl) rfl ?_
 refine h_take (i := 2) (t := ptr b2 0) (blind_then blind_body) rfl (by kernel_rfl) (by kernel_rfl) (by kernel_rfl) (allis_cons (var_is 0 rfl) (allis_cons (var_is 2 rfl) allis_nil)) (y_pure tabOk rfl) rfl ?_
 refine h_take (i := 3) (t := tp p100) (blind_then blind_body) rfl (by kernel_rfl) (by kernel_rfl) (by kernel_rfl) (allis_cons (var_is 0 rfl) (allis_cons (var_is 2 rfl) allis_nil)) (y_held (S := fun w => AllIs [VarIs b2 68 (.pair (.raw (.pointer none)) (.pair .str (.pair (.int .i64) (.pair (.raw (.slice none 0 0)) (.pair (.int .i64) (.pair .bool .unit)))))) (p100, a0.2.1, a0.2.2.1, sv9, a0.2.2.2.2.1, a0.2.2.2.2.2.1, a0.2.2.2.2.2.2), VarIs b3 77 Y77 a1] w) (allis_at 0 rfl) 0 ((.fst .here)) rfl rfl rfl (by first | rfl | (simp only [Pth.off, T.size]; omega)) (ok_fst ok_here) ty23) rfl ?_
 refine h_take (i := 4) (t := ptr b2 0) (blind_then blind_body) rfl (by kernel_rfl) (by kernel_rfl) (by kernel_rfl) (allis_cons (var_is 0 rfl) (allis_cons (var_is 2 rfl) allis_nil)) (y_pure tabOk rfl) rfl ?_
 refine h_take (i := 5) (t := ptr b3 0) (blind_then blind_body) rfl (by kernel_rfl) (by kernel_rfl) (by kernel_rfl) (allis_cons (var_is 0 rfl) (allis_cons (var_is 2 rfl) allis_nil)) (y_pure tabOk rfl) rfl ?_
 refine h_take (i := 6) (t := ti a1.1) (blind_then blind_body) rfl (by kernel_rfl) (by kernel_rfl) (by kernel_rfl) (allis_cons (var_is 0 rfl) (allis_cons (var_is 2 rfl) allis_nil)) (y_held (S := fun w => AllIs [VarIs b2 68 (.pair (.raw (.pointer none)) (.pair .str (.pair (.int .i64) (.pair (.raw (.slice none 0 0)) (.pair (.int .i64) (.pair .bool .unit)))))) (p100, a0.2.1, a0.2.2.1, sv9, a0.2.2.2.2.1, a0.2.2.2.2.2.1, a0.2.2.2.2.2.2), VarIs b3 77 Y77 a1] w) (allis_at 1 rfl) 2 ((.fst .here)) rfl rfl rfl (by first | rfl | (simp only [Pth.off, T.size]; omega)) (ok_fst ok_here) ty3) rfl ?_
 refine h_take (i := 8) (t := ptr b3 1) (blind_then blind_body) rfl (by kernel_rfl) (by kernel_rfl) (by kernel_rfl) (allis_cons (var_is 0 rfl) (allis_cons (var_is 2 rfl) allis_nil)) (y_pure tabOk rfl) rfl ?_
 refine h_take (i := 9) (t := ti a1.2.1) (blind_then blind_body) rfl (by kernel_rfl) (by kernel_rfl) (by kernel_rfl) (allis_cons (var_is 0 rfl) (allis_cons (var_is 2 rfl) allis_nil)) (y_held (S := fun w => AllIs [VarIs b2 68 (.pair (.raw (.pointer none)) (.pair .str (.pair (.int .i64) (.pair (.raw (.slice none 0 0)) (.pair (.int .i64) (.pair .bool .unit)))))) (p100, a0.2.1, a0.2.2.1, sv9, a0.2.2.2.2.1, a0.2.2.2.2.2.1, a0.2.2.2.2.2.2), VarIs b3 77 Y77 a1] w) (allis_at 1 rfl) 2 ((.snd (.fst .here))) rfl rfl rfl (by first | rfl | (simp only [Pth.off, T.size]; omega)) (ok_snd (ok_fst ok_here)) ty3) rfl ?_
 refine h_one (i := 7) (by kernel_rfl) rfl ?_
 refine cB h fun r10 hr10 h => rcT hT [0] (wal_Log_file_ok _ _ _ _ _ _ hr10) (by kernel_rfl) rfl rfl rfl fun _ => za <| h_in (allis_cons (var_is 0 rfl) (allis_cons (var_is 2 rfl) allis_nil)) ?_
 refine r_less [20,24,26] rfl <| h_one (i := 10) (by kernel_rfl) rfl ?_
 refine cB h fun r11 hr11 h => rc [3] (disk_Disk_Truncate_ok _ _ _ _ _ hr11) (by kernel_rfl) rfl rfl rfl fun _ => za <| h_in (allis_cons (var_is 1 rfl) (allis_cons (var_is 3 rfl) allis_nil)) ?_
 refine r_less [27] rfl <| h_take (i := 11) (t := ti r11.1) (blind_then blind_body) rfl (by kernel_rfl) (by kernel_rfl) (by kernel_rfl) (allis_cons (var_is 1 rfl) (allis_cons (var_is 3 rfl) allis_nil)) (y_pure tabOk rfl) rfl ?_
 refine h_end (by kernel_rfl) ?_
 refine zt <| zR <| pk [1,1,0,0] rfl <| r_CLog (x := a0) (q := p100) ?_
 cases h
 exact r_ret1 rfl (.tmp rfl) (fun _ _ g => g) (fun _ _ _ => (.cons_cons _ (.cons_cons _ (.cons _ .slnil))))

theorem wal_Log_Append_ok (p0 : Value) (p100 : Value) (a0 : Unit × List Int × Int × (List (Int × Int × Int × Unit)) × Int × Bool × Unit) (a1 : List Int) (a100 : DiskS) (r : Int × (Unit × List Int × Int × (List (Int × Int × Int × Unit)) × Int × Bool × Unit) × DiskS) (h : wal_Log_Append a0 a1 a100 = some r) : FnT Tryz.prog tabs 22 [tp p0, ts a1] [Res.cls (CLog p100) p0 a0, Res.disk Tryz.prog dI p100 a100] (fun _ => ti r.1) (fun _ => [Res.cls (CLog p100) p0 r.2.1, Res.disk Tryz.prog dI p100 r.2.2]) := by
 unfold wal_Log_Append at h
 refine enterT Tryz.func22 rfl 133 rfl rfl fun F hT => ?_
 refine r_unCLog fun b2 sv1 hp => ?_
 subst hp
 refine r_CLog (x := a0) (q := p100) ?_
 refine zu <| p 1 [0,1] rfl <| za <| zs <| zs <| r_unCLogb fun sv3 => ?_
 refine zr <| p 3 [0,1,13] rfl <| yl 0 ((.snd (.snd (.snd (.snd (.snd (.fst .here))))))) ty4 rfl rfl rfl trivial rfl <| za <| rI h rfl (fun hc h => ?_) fun hc h => ?_
 ·refine zu <| p 1 [4] rfl <| zf <| zT <| r_CLog (x := a0) (q := p100) ?_
  cases h
  exact r_ret1 rfl (.tmp rfl) (fun _ _ g => g) (fun _ _ _ => (.cons_cons _ (.cons_cons _ .slnil)))
 refine zk <| zt <| zs <| zu <| q 3 [(17, tb (decide ((List.length a1 : Int) > 65536)))] [0,1] rfl <| za <| rI h rfl (fun hc h => ?_) fun hc h => ?_
 ·refine zu <| p 1 [4] rfl <| zf <| zT <| r_CLog (x := a0) (q := p100) ?_
  cases h
  exact r_ret1 rfl (.tmp rfl) (fun _ _ g => g) (fun _ _ _ => (.cons_cons _ (.cons_cons _ .slnil)))
 refine zk <| zt <| zs <| zu <| p 3 [0,1,20] rfl <| yl 0 ((.snd (.snd (.snd (.snd (.fst .here)))))) ty2 rfl rfl rfl trivial rfl <| q 1 [(22, tb (decide (a0.2.2.2.2.1 ≥ 1152921504606846976)))] [0,1] rfl <| za <| rI h rfl (fun hc h => ?_) fun hc h => ?_
 ·refine zu <| p 1 [4] rfl <| zf <| zT <| r_CLog (x := a0) (q := p100) ?_
  cases h
  exact r_ret1 rfl (.tmp rfl) (fun _ _ g => g) (fun _ _ _ => (.cons_cons _ (.cons_cons _ .slnil)))
 refine zy <| p 3 [0,1,26] rfl <| yl 0 ((.snd (.snd (.snd (.snd (.fst .here)))))) ty2 rfl rfl rfl trivial rfl <| q 1 [(27, ti a0.2.2.2.2.1), (28, ts a1)] [0] rfl <| cB h fun r4 hr4 h => r_calls (frame_Frame_ok _ _ _ hr4) (by kernel_rfl) rfl rfl <| q 5 [(5, ts r4.1), (6, ti r4.2)] [0] rfl <| za <| zs <| zu <| q 2 [(33, tb (r4.2 != 0))] [0,5,6] rfl <| za <| rI h rfl (fun hc h => ?_) fun hc h => ?_
 ·refine zu <| q 2 [(4, ti r4.2)] [] rfl <| zf <| zT <| r_CLog (x := a0) (q := p100) ?_
  cases h
  exact r_ret1 rfl (.tmp rfl) (fun _ _ g => g) (fun _ _ _ => (.cons_cons _ (.cons_cons _ .slnil)))
 refine zy <| q 3 [(36, ptr b2 0), (38, ti (List.length r4.1 : Int))] [0,5] rfl <| r_CLog (x := a0) (q := p100) ?_
 refine cB h fun r5 hr5 h => rc [0,0] (wal_Log_place_ok _ _ _ _ _ _ hr5) (by kernel_rfl) rfl rfl rfl fun _ => q 3 [(40, .one Y77 r5.1), (41, tb r5.2)] [0,5] rfl <| r_alloc (t := Y77) rfl zf77 rfl fun b6 => st 0 .here ty77 rfl rfl rfl rfl trivial <| q 1 [(7, ptr b6 0), (8, tb r5.2)] [0,5] rfl <| za <| zs <| zu <| p 1 [0,5,7,8,42] rfl <| yl 0 ((.fst .here)) ty3 rfl rfl rfl trivial rfl <| q 1 [(44, tb (decide (r5.1.1 > 9999999)))] [0,5,7,8] rfl <| za <| rI h rfl (fun hc h => zu <| p 1 [4] rfl <| zf <| zT <| by cases h; exact r_ret1 rfl (.tmp rfl) (fun _ _ g => g) (fun _ _ _ => (.cons _ (.cons_cons _ (.cons_cons _ .slnil))))) fun hc h => ?_
 refine zk <| zt <| zs <| zs <| pk [1,0,0] rfl <| r_unCLogb fun sv7 => ?_
 refine h_start (S := AllIs [VarIs b2 68 (.pair (.raw (.pointer none)) (.pair .str (.pair (.int .i64) (.pair (.raw (.slice none 0 0)) (.pair (.int .i64) (.pair .bool .unit)))))) (p100, a0.2.1, a0.2.2.1, sv7, a0.2.2.2.2.1, a0.2.2.2.2.2.1, a0.2.2.2.2.2.2), VarIs b6 77 Y77 r5.1]) (by kernel_rfl) ?_
 refine h_take (i := 0) (t := ptr b2 0) (blind_then (blind_then blind_body)) rfl (by kernel_rfl) (by kernel_rfl) (by kernel_rfl) (allis_cons (var_is 0 rfl) (allis_cons (var_is 2 rfl) allis_nil)) (y_pure tabOk rfl) rfl ?_
 refine h_take (i := 1) (t := ptr b2 0) (blind_then (blind_then blind_body)) rfl (by kernel_rfl) (by kernel_rfl) (by kernel_rfl) (allis_cons (var_is 0 rfl) (allis_cons (var_is 2 rfl) allis_nil)) (y_pure tabOk rfl) rfl ?_
 refine h_take (i := 2) (t := ptr b2 0) (blind_then (blind_then blind_body)) rfl (by kernel_rfl) (by kernel_rfl) (by kernel_rfl) (allis_cons (var_is 0 rfl) (allis_cons (var_is 2 rfl) allis_nil)) (y_pure tabOk rfl) rfl ?_
 refine h_take (i := 3) (t := tp p100) (blind_then (blind_then blind_body)) rfl (by kernel_rfl) (by kernel_rfl) (by kernel_rfl) (allis_cons (var_is 0 rfl) (allis_cons (var_is 2 rfl) allis_nil)) (y_held (S := fun w => AllIs [VarIs b2 68 (.pair (.raw (.pointer none)) (.pair .str (.pair (.int .i64) (.pair (.raw (.slice none 0 0)) (.pair (.int .i64) (.pair .bool .unit)))))) (p100, a0.2.1, a0.2.2.1, sv7, a0.2.2.2.2.1, a0.2.2.2.2.2.1, a0.2.2.2.2.2.2), VarIs b6 77 Y77 r5.1] w) (allis_at 0 rfl) 0 ((.fst .here)) rfl rfl rfl (by first | rfl | (simp only [Pth.off, T.size]; omega)) (ok_fst ok_here) ty23) rfl ?_
 refine h_take (i := 4) (t := ptr b2 0) (blind_then (blind_then blind_body)) rfl (by kernel_rfl) (by kernel_rfl) (by kernel_rfl) (allis_cons (var_is 0 rfl) (allis_cons (var_is 2 rfl) allis_nil)) (y_pure tabOk rfl) rfl ?_
 refine h_take (i := 5) (t := ptr b6 0) (blind_then (blind_then blind_body)) rfl (by kernel_rfl) (by kernel_rfl) (by kernel_rfl) (allis_cons (var_is 0 rfl) (allis_cons (var_is 2 rfl) allis_nil)) (y_pure tabOk rfl) rfl ?_
 refine h_take (i := 6) (t := ti r5.1.1) (blind_then (blind_then blind_body)) rfl (by kernel_rfl) (by kernel_rfl) (by kernel_rfl) (allis_cons (var_is 0 rfl) (allis_cons (var_is 2 rfl) allis_nil)) (y_held (S := fun w => AllIs [VarIs b2 68 (.pair (.raw (.pointer none)) (.pair .str (.pair (.int .i64) (.pair (.raw (.slice none 0 0)) (.pair (.int .i64) (.pair .bool .unit)))))) (p100, a0.2.1, a0.2.2.1, sv7, a0.2.2.2.2.1, a0.2.2.2.2.2.1, a0.2.2.2.2.2.2), VarIs b6 77 Y77 r5.1] w) (allis_at 1 rfl) 2 ((.fst .here)) rfl rfl rfl (by first | rfl | (simp only [Pth.off, T.size]; omega)) (ok_fst ok_here) ty3) rfl ?_
 refine h_take (i := 8) (t := ptr b6 1) (blind_then (blind_then blind_body)) rfl (by kernel_rfl) (by kernel_rfl) (by kernel_rfl) (allis_cons (var_is 0 rfl) (allis_cons (var_is 2 rfl) allis_nil)) (y_pure tabOk rfl) rfl ?_
 refine h_take (i := 9) (t := ti r5.1.2.1) (blind_then (blind_then blind_body)) rfl (by kernel_rfl) (by kernel_rfl) (by kernel_rfl) (allis_cons (var_is 0 rfl) (allis_cons (var_is 2 rfl) allis_nil)) (y_held (S := fun w => AllIs [VarIs b2 68 (.pair (.raw (.pointer none)) (.pair .str (.pair (.int .i64) (.pair (.raw (.slice none 0 0)) (.pair (.int .i64) (.pair .bool .unit)))))) (p100, a0.2.1, a0.2.2.1, sv7, a0.2.2.2.2.1, a0.2.2.2.2.2.1, a0.2.2.2.2.2.2), VarIs b6 77 Y77 r5.1] w) (allis_at 1 rfl) 2 ((.snd (.fst .here))) rfl rfl rfl (by first | rfl | (simp only [Pth.off, T.size]; omega)) (ok_snd (ok_fst ok_here)) ty3) rfl ?_
 refine h_take (i := 10) (t := ts r4.1) (blind_then (blind_then blind_body)) rfl (by kernel_rfl) (by kernel_rfl) (by kernel_rfl) (allis_cons (var_is 0 rfl) (allis_cons (var_is 2 rfl) allis_nil)) (y_pure tabOk rfl) rfl ?_
 refine h_one (i := 7) (by kernel_rfl) rfl ?_
 refine cB h fun r8 hr8 h => rcT hT [0] (wal_Log_file_ok _ _ _ _ _ _ hr8) (by kernel_rfl) rfl rfl rfl fun _ => za <| h_in (allis_cons (var_is 0 rfl) (allis_cons (var_is 2 rfl) allis_nil)) ?_
 refine r_less [0,5,7,8,48,52,54,55] rfl <| h_one (i := 11) (by kernel_rfl) rfl ?_
 refine cB h fun r9 hr9 h => rc [3] (disk_Disk_Write_ok _ _ _ _ _ _ hr9) (by kernel_rfl) rfl rfl rfl fun _ => za <| h_in (allis_cons (var_is 1 rfl) (allis_cons (var_is 3 rfl) allis_nil)) ?_
 refine r_less [0,5,7,8,56] rfl <| h_take (i := 12) (t := ti r9.1) (blind_then (blind_then blind_body)) rfl (by kernel_rfl) (by kernel_rfl) (by kernel_rfl) (allis_cons (var_is 1 rfl) (allis_cons (var_is 3 rfl) allis_nil)) (y_pure tabOk rfl) rfl ?_
 refine h_end (by kernel_rfl) ?_
 refine zt <| zu <| q 2 [(9, ti r9.1), (58, tb (r9.1 != 0))] [0,5,7,8] rfl <| za <| rI h rfl (fun hc h => ?_) fun hc h => ?_
 ·refine zu <| q 5 [(61, tb (r9.1 == 9)), (63, ptr b2 5)] [9] rfl <| st 1 ((.snd (.snd (.snd (.snd (.snd (.fst .here))))))) ty4 rfl rfl rfl rfl trivial <| zz <| q 2 [(4, ti r9.1)] [] rfl <| zf <| zT <| pk [1,1,0,0] rfl <| r_CLog (x := ((), a0.2.1, a0.2.2.1, a0.2.2.2.1, a0.2.2.2.2.1, (r9.1 == 9), a0.2.2.2.2.2.2)) (q := p100) ?_
  cases h
  exact r_ret1 rfl (.tmp rfl) (fun _ _ g => g) (fun _ _ _ => (.cons_cons _ (.cons_cons _ (.cons _ .slnil))))
 refine zk <| zt <| zs <| jK h (γ := Unit) (fun (o11 : Int × DiskS) _ => [(0, ptr b2 0), (5, ts r4.1), (7, ptr b6 0), (8, tb r5.2), (10, ti o11.1)]) (fun (o11 : Int × DiskS) _ => [Res.disk Tryz.prog dI p100 o11.2, Res.var b2 68 (.pair (.raw (.pointer none)) (.pair .str (.pair (.int .i64) (.pair (.raw (.slice none 0 0)) (.pair (.int .i64) (.pair .bool .unit)))))) (p100, a0.2.1, a0.2.2.1, sv7, a0.2.2.2.2.1, a0.2.2.2.2.2.1, a0.2.2.2.2.2.2), Res.own sv7 77 Y77 a0.2.2.2.1, Res.var b6 77 Y77 r5.1]) (fun k10 h => ?_) fun o11 gg h => ?_
 ·refine r_any (by kernel_rfl) ?_
  refine a_float (i := 0) (t := ptr b2 0) (blind_then (blind_then blind_body)) rfl (by kernel_rfl) (by kernel_rfl) (by kernel_rfl) (y_pure tabOk rfl) rfl ?_
  refine a_float (i := 4) (t := ptr b2 0) (blind_then (blind_then blind_body)) rfl (by kernel_rfl) (by kernel_rfl) (by kernel_rfl) (y_pure tabOk rfl) rfl ?_
  refine a_float (i := 5) (t := ptr b6 0) (blind_then (blind_then blind_body)) rfl (by kernel_rfl) (by kernel_rfl) (by kernel_rfl) (y_pure tabOk rfl) rfl ?_
  refine a_two (i := 1) (j := 6) (by kernel_rfl) rfl rfl ?_ ?_
  ·refine p 1 [0,5,7,8,66,69,70] rfl <| za <| r_less [0,5,7,8,66,69,70] rfl <| a_float (i := 2) (t := ptr b2 0) (blind_then (blind_then blind_body)) rfl (by kernel_rfl) (by kernel_rfl) (by kernel_rfl) (y_pure tabOk rfl) rfl ?_
   refine a_two (i := 3) (j := 6) (by kernel_rfl) rfl rfl ?_ ?_
   ·refine yl 1 ((.fst .here)) ty23 rfl rfl rfl trivial rfl <| za <| r_less [0,5,7,8,68,69,70] rfl <| a_one (i := 6) (by kernel_rfl) rfl ?_
    refine yl 3 ((.fst .here)) ty3 rfl rfl rfl trivial rfl <| za <| r_less [0,5,7,8,68,69,71] rfl <| a_one (i := 7) (by kernel_rfl) rfl ?_
    refine cB h fun r27 hr27 h => rcT hT [1] (wal_Log_file_ok _ _ _ _ _ _ hr27) (by kernel_rfl) rfl rfl rfl fun _ => za <| r_less [0,5,7,8,68,72] rfl <| a_one (i := 8) (by kernel_rfl) rfl ?_
    refine cB h fun r28 hr28 h => rc [1] (disk_Disk_Sync_ok _ _ _ _ hr28) (by kernel_rfl) rfl rfl rfl fun _ => za <| r_less [0,5,7,8,73] rfl <| a_float (i := 9) (t := ti r28.1) (blind_then (blind_then blind_body)) rfl (by kernel_rfl) (by kernel_rfl) (by kernel_rfl) (y_pure tabOk rfl) rfl ?_
    refine a_end (by kernel_rfl) ?_
    exact zt <| r_less [0,5,7,8,10] rfl <| by exact r_meetk (r28.1, r28.2) () h rfl rfl
   refine yl 3 ((.fst .here)) ty3 rfl rfl rfl trivial rfl <| za <| r_less [0,5,7,8,67,69,71] rfl ?_
   refine a_two (i := 3) (j := 7) (by kernel_rfl) rfl rfl ?_ ?_
   ·refine yl 1 ((.fst .here)) ty23 rfl rfl rfl trivial rfl <| za <| r_less [0,5,7,8,68,69,71] rfl <| a_one (i := 7) (by kernel_rfl) rfl ?_
    refine cB h fun r27 hr27 h => rcT hT [1] (wal_Log_file_ok _ _ _ _ _ _ hr27) (by kernel_rfl) rfl rfl rfl fun _ => za <| r_less [0,5,7,8,68,72] rfl <| a_one (i := 8) (by kernel_rfl) rfl ?_
    refine cB h fun r28 hr28 h => rc [1] (disk_Disk_Sync_ok _ _ _ _ hr28) (by kernel_rfl) rfl rfl rfl fun _ => za <| r_less [0,5,7,8,73] rfl <| a_float (i := 9) (t := ti r28.1) (blind_then (blind_then blind_body)) rfl (by kernel_rfl) (by kernel_rfl) (by kernel_rfl) (y_pure tabOk rfl) rfl ?_
    refine a_end (by kernel_rfl) ?_
    exact zt <| r_less [0,5,7,8,10] rfl <| by exact r_meetk (r28.1, r28.2) () h rfl rfl
   refine cB h fun r27 hr27 h => rcT hT [1] (wal_Log_file_ok _ _ _ _ _ _ hr27) (by kernel_rfl) rfl rfl rfl fun _ => za <| r_less [0,5,7,8,67,72] rfl <| a_one (i := 3) (by kernel_rfl) rfl ?_
   refine yl 0 ((.fst .here)) ty23 rfl rfl rfl trivial rfl <| za <| r_less [0,5,7,8,68,72] rfl <| a_one (i := 8) (by kernel_rfl) rfl ?_
   refine cB h fun r28 hr28 h => rc [1] (disk_Disk_Sync_ok _ _ _ _ hr28) (by kernel_rfl) rfl rfl rfl fun _ => za <| r_less [0,5,7,8,73] rfl <| a_float (i := 9) (t := ti r28.1) (blind_then (blind_then blind_body)) rfl (by kernel_rfl) (by kernel_rfl) (by kernel_rfl) (y_pure tabOk rfl) rfl ?_
   refine a_end (by kernel_rfl) ?_
   exact zt <| r_less [0,5,7,8,10] rfl <| by exact r_meetk (r28.1, r28.2) () h rfl rfl
  refine yl 3 ((.fst .here)) ty3 rfl rfl rfl trivial rfl <| za <| r_less [0,5,7,8,65,69,71] rfl ?_
  refine a_two (i := 1) (j := 7) (by kernel_rfl) rfl rfl ?_ ?_
  ·refine q 1 [(66, ptr b2 0), (69, ptr b2 0), (71, ti r5.1.1)] [0,5,7,8] rfl <| za <| r_less [0,5,7,8,66,69,71] rfl <| a_float (i := 2) (t := ptr b2 0) (blind_then (blind_then blind_body)) rfl (by kernel_rfl) (by kernel_rfl) (by kernel_rfl) (y_pure tabOk rfl) rfl ?_
   refine a_two (i := 3) (j := 7) (by kernel_rfl) rfl rfl ?_ ?_
   ·refine yl 1 ((.fst .here)) ty23 rfl rfl rfl trivial rfl <| za <| r_less [0,5,7,8,68,69,71] rfl <| a_one (i := 7) (by kernel_rfl) rfl ?_
    refine cB h fun r27 hr27 h => rcT hT [1] (wal_Log_file_ok _ _ _ _ _ _ hr27) (by kernel_rfl) rfl rfl rfl fun _ => za <| r_less [0,5,7,8,68,72] rfl <| a_one (i := 8) (by kernel_rfl) rfl ?_
    refine cB h fun r28 hr28 h => rc [1] (disk_Disk_Sync_ok _ _ _ _ hr28) (by kernel_rfl) rfl rfl rfl fun _ => za <| r_less [0,5,7,8,73] rfl <| a_float (i := 9) (t := ti r28.1) (blind_then (blind_then blind_body)) rfl (by kernel_rfl) (by kernel_rfl) (by kernel_rfl) (y_pure tabOk rfl) rfl ?_
    refine a_end (by kernel_rfl) ?_
    exact zt <| r_less [0,5,7,8,10] rfl <| by exact r_meetk (r28.1, r28.2) () h rfl rfl
   refine cB h fun r27 hr27 h => rcT hT [1] (wal_Log_file_ok _ _ _ _ _ _ hr27) (by kernel_rfl) rfl rfl rfl fun _ => za <| r_less [0,5,7,8,67,72] rfl <| a_one (i := 3) (by kernel_rfl) rfl ?_
   refine yl 0 ((.fst .here)) ty23 rfl rfl rfl trivial rfl <| za <| r_less [0,5,7,8,68,72] rfl <| a_one (i := 8) (by kernel_rfl) rfl ?_
   refine cB h fun r28 hr28 h => rc [1] (disk_Disk_Sync_ok _ _ _ _ hr28) (by kernel_rfl) rfl rfl rfl fun _ => za <| r_less [0,5,7,8,73] rfl <| a_float (i := 9) (t := ti r28.1) (blind_then (blind_then blind_body)) rfl (by kernel_rfl) (by kernel_rfl) (by kernel_rfl) (y_pure tabOk rfl) rfl ?_
   refine a_end (by kernel_rfl) ?_
   exact zt <| r_less [0,5,7,8,10] rfl <| by exact r_meetk (r28.1, r28.2) () h rfl rfl
  refine cB h fun r27 hr27 h => rcT hT [1] (wal_Log_file_ok _ _ _ _ _ _ hr27) (by kernel_rfl) rfl rfl rfl fun _ => za <| r_less [0,5,7,8,65,72] rfl <| a_one (i := 1) (by kernel_rfl) rfl ?_
  refine p 1 [0,5,7,8,66,72] rfl <| za <| r_less [0,5,7,8,66,72] rfl <| a_float (i := 2) (t := ptr b2 0) (blind_then (blind_then blind_body)) rfl (by kernel_rfl) (by kernel_rfl) (by kernel_rfl) (y_pure tabOk rfl) rfl ?_
  refine a_one (i := 3) (by kernel_rfl) rfl ?_
  refine yl 0 ((.fst .here)) ty23 rfl rfl rfl trivial rfl <| za <| r_less [0,5,7,8,68,72] rfl <| a_one (i := 8) (by kernel_rfl) rfl ?_
  refine cB h fun r28 hr28 h => rc [1] (disk_Disk_Sync_ok _ _ _ _ hr28) (by kernel_rfl) rfl rfl rfl fun _ => za <| r_less [0,5,7,8,73] rfl <| a_float (i := 9) (t := ti r28.1) (blind_then (blind_then blind_body)) rfl (by kernel_rfl) (by kernel_rfl) (by kernel_rfl) (y_pure tabOk rfl) rfl ?_
  refine a_end (by kernel_rfl) ?_
  exact zt <| r_less [0,5,7,8,10] rfl <| by exact r_meetk (r28.1, r28.2) () h rfl rfl
 refine zu <| q 2 [(0, ptr b2 0), (5, ts r4.1), (7, ptr b6 0), (8, tb r5.2), (10, ti o11.1), (75, tb (o11.1 != 0))] [] rfl <| za <| rI h rfl (fun hc h => ?_) fun hc h => ?_
 ·refine zu <| q 4 [(76, ptr b2 0), (79, tb (o11.1 != 40))] [0,7,8,10] rfl <| pk [1,1,0,0] rfl <| r_CLog (x := a0) (q := p100) ?_
  obtain ⟨b13, e, h⟩ := bnd_ex h; rw [e]
  refine bX h fun k14 hk14 h => ?_
  refine r_lsplitk (γ := Unit) 6 (fun (o15 : Bool × DiskS) _ => [(10, ti o11.1), (76, ptr b2 0), (85, tb o15.1)]) (fun (o15 : Bool × DiskS) _ => [Res.cls (CLog p100) (.pointer (some ⟨b2, 0, none⟩)) a0, Res.disk Tryz.prog dI p100 o15.2, Res.var b6 77 Y77 r5.1]) k14 r ?_ ?_
  ·rcases Bool.eq_false_or_eq_true b13 with hh | hh
   ·rw [hh] at h ⊢
    rw [if_pos rfl] at h
    exact p 6 [10,76,85] rfl <| zn <| r_less [10,76,85] rfl <| zt <| by exact r_meetk (true, o11.2) () h rfl rfl
   rw [hh] at h ⊢
   rw [if_neg (by decide)] at h
   refine p 1 [7,8,10,76,79,80] rfl <| r_guard (by rfl) rfl ?_
   refine yl 2 .here ty77 rfl rfl rfl trivial rfl <| q 1 [(81, .one Y77 r5.1), (82, tb r5.2)] [10,76,79,80] rfl <| r_guard (by rfl) rfl ?_
   exact cB h fun r16 hr16 h => rcT hT [0,0] (wal_Log_back_ok _ _ _ _ _ _ _ hr16) (by kernel_rfl) rfl rfl rfl fun _ => q 2 [(85, tb (r16.1 != 0))] [10,76] rfl <| zn <| r_less [10,76,85] rfl <| zt <| by exact r_meetk ((r16.1 != 0), r16.2) () h rfl rfl
  intro o15 _ h
  rw [← hk14] at h
  try dsimp only at h
  refine r_unCLogb fun sv17 => ?_
  refine q 2 [(85, tb o15.1), (87, ptr b2 5)] [10] rfl <| st 0 ((.snd (.snd (.snd (.snd (.snd (.fst .here))))))) ty4 rfl rfl rfl rfl trivial <| zz <| q 2 [(4, ti o11.1)] [] rfl <| zf <| zT <| r_CLog (x := ((), a0.2.1, a0.2.2.1, a0.2.2.2.1, a0.2.2.2.2.1, o15.1, a0.2.2.2.2.2.2)) (q := p100) ?_
  cases h
  exact r_ret1 rfl (.tmp rfl) (fun _ _ g => g) (fun _ _ _ => (.cons_cons _ (.cons_cons _ (.cons _ .slnil))))
 refine zy <| p 3 [0,5,7,8,89,91] rfl <| yl 1 ((.snd (.snd (.snd (.snd (.fst .here)))))) ty2 rfl rfl rfl trivial rfl <| q 3 [(93, ti (IntKind.wrap .i64 (a0.2.2.2.2.1 + 1))), (95, ptr b2 4)] [0,5,7,8] rfl <| st 1 ((.snd (.snd (.snd (.snd (.fst .here)))))) ty2 rfl rfl rfl rfl trivial <| zz <| p 1 [0,5,7,8,96] rfl <| yl 3 ((.snd (.fst .here))) ty3 rfl rfl rfl trivial rfl <| q 4 [(100, ti (IntKind.wrap .i64 (r5.1.2.1 + (List.length r4.1 : Int)))), (101, ptr b6 1)] [0,7,8] rfl <| st 3 ((.snd (.fst .here))) ty3 rfl rfl rfl rfl trivial <| zz <| p 3 [0,7,8,104] rfl <| yl 1 ((.snd (.snd (.snd (.snd (.fst .here)))))) ty2 rfl rfl rfl trivial rfl <| q 1 [(105, ti (IntKind.wrap .i64 (a0.2.2.2.2.1 + 1))), (106, ptr b6 2)] [0,7,8] rfl ?_
 refine st 3 ((.snd (.snd (.fst .here)))) ty2 rfl rfl rfl rfl trivial <| za <| jK h (γ := Value) (fun (o19 : (List (Int × Int × Int × Unit))) g20 => [(0, ptr b2 0), (7, ptr b6 0)]) (fun (o19 : (List (Int × Int × Int × Unit))) g20 => [Res.disk Tryz.prog dI p100 o11.2, Res.var b2 68 (.pair (.raw (.pointer none)) (.pair .str (.pair (.int .i64) (.pair (.raw (.slice none 0 0)) (.pair (.int .i64) (.pair .bool .unit)))))) (p100, a0.2.1, a0.2.2.1, g20, (IntKind.wrap .i64 (a0.2.2.2.2.1 + 1)), a0.2.2.2.2.2.1, a0.2.2.2.2.2.2), Res.own g20 77 Y77 o19, Res.var b6 77 Y77 (r5.1.1, (IntKind.wrap .i64 (r5.1.2.1 + (List.length r4.1 : Int))), (IntKind.wrap .i64 (a0.2.2.2.2.1 + 1)), r5.1.2.2.2)]) (fun k18 h => ?_) fun o19 g20 h => ?_
 ·refine zu <| q 2 [(108, tb (!r5.2))] [0,7] rfl <| za <| rI h rfl (fun hc h => ?_) fun hc h => ?_
  ·refine r_any (by kernel_rfl) ?_
   refine a_float (i := 0) (t := ptr b2 0) (blind_then blind_body) rfl (by kernel_rfl) (by kernel_rfl) (by kernel_rfl) (y_pure tabOk rfl) rfl ?_
   refine a_float (i := 1) (t := ptr b2 0) (blind_then blind_body) rfl (by kernel_rfl) (by kernel_rfl) (by kernel_rfl) (y_pure tabOk rfl) rfl ?_
   refine a_float (i := 5) (t := ptr b2 0) (blind_then blind_body) rfl (by kernel_rfl) (by kernel_rfl) (by kernel_rfl) (y_pure tabOk rfl) rfl ?_
   refine a_pref (fuel := 2) [2, 3, 4, 6, 7, 8, 9, 10, 11, 12] #[true, true, true, true, true, true, true, true, true, true, true, true, true, false, false] (by kernel_rfl) ?_
   refine q_pure tabOk 2 [0, 7, 109, 112, 114] (E' := [(0, ptr b2 0), (7, ptr b6 0), (109, ptr b2 0), (112, ptr b2 3), (114, ptr b2 0)]) rfl ?_
   refine q_y (y_load 1 ((.snd (.snd (.snd (.fst .here))))) rfl rfl (by first | rfl | (simp only [Pth.off, T.size]; omega)) (ok_snd (ok_snd (ok_snd (ok_fst ok_here)))) tx2) rfl ?_
   refine q_pure tabOk 2 [0, 7, 109, 113, 116] (E' := [(0, ptr b2 0), (7, ptr b6 0), (109, ptr b2 0), (113, .one (.raw (.slice none 0 0)) sv7), (116, ptr b2 3)]) rfl ?_
   refine q_y (y_load 1 ((.snd (.snd (.snd (.fst .here))))) rfl rfl (by first | rfl | (simp only [Pth.off, T.size]; omega)) (ok_snd (ok_snd (ok_snd (ok_fst ok_here)))) tx2) rfl ?_
   refine q_y (y_lenown tabOk 2 rfl rfl rfl) rfl ?_
   refine q_pure tabOk 1 [0, 7, 109, 113, 119] (E' := [(0, ptr b2 0), (7, ptr b6 0), (109, ptr b2 0), (113, .one (.raw (.slice none 0 0)) sv7), (119, ti (IntKind.wrap .i64 ((List.length a0.2.2.2.1 : Int) - 1)))]) rfl ?_
   obtain ⟨hs26, h⟩ := ite_ex h
   refine q_y (y_osub tabOk (i := (0 : Int)) (j := (IntKind.wrap .i64 ((List.length a0.2.2.2.1 : Int) - 1))) rfl (sub_own 2 rfl) rfl rfl hs26.1 hs26.2.1 hs26.2.2 rfl ty77) rfl ?_
   refine q_pure tabOk 1 [0, 7, 120, 121] (E' := [(0, ptr b2 0), (7, ptr b6 0), (120, .one (.raw (.slice none 0 0)) (subv (T.size Y77) sv7 (Int.toNat (0 : Int)) (Int.toNat (IntKind.wrap .i64 ((List.length a0.2.2.2.1 : Int) - 1))))), (121, ptr b2 0)]) rfl ?_
   refine q_nil ?_
   refine r_less [0,7,120,121] rfl <| a_float (i := 13) (t := ptr b2 3) (blind_then blind_body) rfl (by kernel_rfl) (by kernel_rfl) (by kernel_rfl) (y_pure tabOk rfl) rfl ?_
   refine a_one (i := 14) (by kernel_rfl) rfl ?_
   refine r_ownsub (j := (Int.toNat (IntKind.wrap .i64 ((List.length a0.2.2.2.1 : Int) - 1)))) 2 rfl (by have := hs26.2.2; omega) ?_
   refine st 1 ((.snd (.snd (.snd (.fst .here))))) tx2 rfl rfl rfl rfl trivial <| za <| r_less [0,7] rfl <| a_end (by kernel_rfl) ?_
   exact zt <| r_less [0,7] rfl <| by exact r_meetk (List.take (Int.toNat (IntKind.wrap .i64 ((List.length a0.2.2.2.1 : Int) - 1))) a0.2.2.2.1) (subv (T.size Y77) sv7 0 (Int.toNat (IntKind.wrap .i64 ((List.length a0.2.2.2.1 : Int) - 1)))) h rfl rfl
  exact zk <| zt <| r_less [0,7] rfl <| by exact r_meetk a0.2.2.2.1 sv7 h rfl rfl
 refine jK h (γ := Value) (fun (o22 : (List (Int × Int × Int × Unit))) g23 => []) (fun (o22 : (List (Int × Int × Int × Unit))) g23 => [Res.disk Tryz.prog dI p100 o11.2, Res.var b2 68 (.pair (.raw (.pointer none)) (.pair .str (.pair (.int .i64) (.pair (.raw (.slice none 0 0)) (.pair (.int .i64) (.pair .bool .unit)))))) (p100, a0.2.1, a0.2.2.1, g23, (IntKind.wrap .i64 (a0.2.2.2.2.1 + 1)), a0.2.2.2.2.2.1, a0.2.2.2.2.2.2), Res.own g23 77 Y77 o22, Res.var b6 77 Y77 (r5.1.1, (IntKind.wrap .i64 (r5.1.2.1 + (List.length r4.1 : Int))), (IntKind.wrap .i64 (a0.2.2.2.2.1 + 1)), r5.1.2.2.2)]) (fun k21 h => ?_) fun o22 g23 h => ?_
 ·refine r_any (by kernel_rfl) ?_
  refine a_float (i := 0) (t := ptr b2 0) (blind_then blind_body) rfl (by kernel_rfl) (by kernel_rfl) (by kernel_rfl) (y_pure tabOk rfl) rfl ?_
  refine a_float (i := 1) (t := ptr b2 0) (blind_then blind_body) rfl (by kernel_rfl) (by kernel_rfl) (by kernel_rfl) (y_pure tabOk rfl) rfl ?_
  refine a_two (i := 2) (j := 5) (by kernel_rfl) rfl rfl ?_ ?_
  ·refine p 1 [7,123,125] rfl <| za <| r_less [7,123,125] rfl <| a_float (i := 3) (t := ptr b2 3) (blind_then blind_body) rfl (by kernel_rfl) (by kernel_rfl) (by kernel_rfl) (y_pure tabOk rfl) rfl ?_
   refine a_two (i := 4) (j := 5) (by kernel_rfl) rfl rfl ?_ ?_
   ·refine yl 1 ((.snd (.snd (.snd (.fst .here))))) tx2 rfl rfl rfl trivial rfl <| za <| r_less [7,123,127] rfl <| a_one (i := 5) (by kernel_rfl) rfl ?_
    refine yl 3 .here ty77 rfl rfl rfl trivial rfl <| za <| r_less [123,127,128] rfl <| a_one (i := 6) (by kernel_rfl) rfl ?_
    refine r_lits (B := 24) tabOk rfl el77 rfl rfl rfl (.cons rfl .nil) rfl fun v24 => ?_
    refine za <| r_less [123,127,129] rfl <| a_one (i := 7) (by kernel_rfl) rfl ?_
    refine iE h fun hc h => r_append (B := 24) tabOk 3 rfl rfl (src_own 0 rfl rfl) rfl el77 rfl rfl hc rfl fun v25 => ?_
    refine pk [1,1,1,1] rfl <| za <| r_less [123,130] rfl <| a_one (i := 8) (by kernel_rfl) rfl ?_
    refine p 1 [130,131] rfl <| za <| r_less [130,131] rfl <| a_float (i := 9) (t := ptr b2 3) (blind_then blind_body) rfl (by kernel_rfl) (by kernel_rfl) (by kernel_rfl) (y_pure tabOk rfl) rfl ?_
    refine a_one (i := 10) (by kernel_rfl) rfl ?_
    refine st 1 ((.snd (.snd (.snd (.fst .here))))) tx2 rfl rfl rfl rfl trivial <| za <| r_less [] rfl <| a_end (by kernel_rfl) ?_
    exact zt <| r_less [] rfl <| by exact r_meetk (o19 ++ [(r5.1.1, (IntKind.wrap .i64 (r5.1.2.1 + (List.length r4.1 : Int))), (IntKind.wrap .i64 (a0.2.2.2.2.1 + 1)), r5.1.2.2.2)]) v25 h rfl rfl
   refine yl 3 .here ty77 rfl rfl rfl trivial rfl <| za <| r_less [123,126,128] rfl ?_
   refine a_two (i := 4) (j := 6) (by kernel_rfl) rfl rfl ?_ ?_
   ·refine yl 1 ((.snd (.snd (.snd (.fst .here))))) tx2 rfl rfl rfl trivial rfl <| za <| r_less [123,127,128] rfl <| a_one (i := 6) (by kernel_rfl) rfl ?_
    refine r_lits (B := 24) tabOk rfl el77 rfl rfl rfl (.cons rfl .nil) rfl fun v24 => ?_
    refine za <| r_less [123,127,129] rfl <| a_one (i := 7) (by kernel_rfl) rfl ?_
    refine iE h fun hc h => r_append (B := 24) tabOk 3 rfl rfl (src_own 0 rfl rfl) rfl el77 rfl rfl hc rfl fun v25 => ?_
    refine pk [1,1,1,1] rfl <| za <| r_less [123,130] rfl <| a_one (i := 8) (by kernel_rfl) rfl ?_
    refine p 1 [130,131] rfl <| za <| r_less [130,131] rfl <| a_float (i := 9) (t := ptr b2 3) (blind_then blind_body) rfl (by kernel_rfl) (by kernel_rfl) (by kernel_rfl) (y_pure tabOk rfl) rfl ?_
    refine a_one (i := 10) (by kernel_rfl) rfl ?_
    refine st 1 ((.snd (.snd (.snd (.fst .here))))) tx2 rfl rfl rfl rfl trivial <| za <| r_less [] rfl <| a_end (by kernel_rfl) ?_
    exact zt <| r_less [] rfl <| by exact r_meetk (o19 ++ [(r5.1.1, (IntKind.wrap .i64 (r5.1.2.1 + (List.length r4.1 : Int))), (IntKind.wrap .i64 (a0.2.2.2.2.1 + 1)), r5.1.2.2.2)]) v25 h rfl rfl
   refine r_lits (B := 24) tabOk rfl el77 rfl rfl rfl (.cons rfl .nil) rfl fun v24 => ?_
   refine za <| r_less [123,126,129] rfl <| a_one (i := 4) (by kernel_rfl) rfl ?_
   refine yl 2 ((.snd (.snd (.snd (.fst .here))))) tx2 rfl rfl rfl trivial rfl <| za <| r_less [123,127,129] rfl <| a_one (i := 7) (by kernel_rfl) rfl ?_
   refine iE h fun hc h => r_append (B := 24) tabOk 3 rfl rfl (src_own 0 rfl rfl) rfl el77 rfl rfl hc rfl fun v25 => ?_
   refine pk [1,1,1,1] rfl <| za <| r_less [123,130] rfl <| a_one (i := 8) (by kernel_rfl) rfl ?_
   refine p 1 [130,131] rfl <| za <| r_less [130,131] rfl <| a_float (i := 9) (t := ptr b2 3) (blind_then blind_body) rfl (by kernel_rfl) (by kernel_rfl) (by kernel_rfl) (y_pure tabOk rfl) rfl ?_
   refine a_one (i := 10) (by kernel_rfl) rfl ?_
   refine st 1 ((.snd (.snd (.snd (.fst .here))))) tx2 rfl rfl rfl rfl trivial <| za <| r_less [] rfl <| a_end (by kernel_rfl) ?_
   exact zt <| r_less [] rfl <| by exact r_meetk (o19 ++ [(r5.1.1, (IntKind.wrap .i64 (r5.1.2.1 + (List.length r4.1 : Int))), (IntKind.wrap .i64 (a0.2.2.2.2.1 + 1)), r5.1.2.2.2)]) v25 h rfl rfl
  refine yl 3 .here ty77 rfl rfl rfl trivial rfl <| za <| r_less [123,124,128] rfl ?_
  refine a_two (i := 2) (j := 6) (by kernel_rfl) rfl rfl ?_ ?_
  ·refine q 1 [(123, ptr b2 0), (125, ptr b2 0), (128, .one Y77 (r5.1.1, (IntKind.wrap .i64 (r5.1.2.1 + (List.length r4.1 : Int))), (IntKind.wrap .i64 (a0.2.2.2.2.1 + 1)), r5.1.2.2.2))] [] rfl <| za <| r_less [123,125,128] rfl <| a_float (i := 3) (t := ptr b2 3) (blind_then blind_body) rfl (by kernel_rfl) (by kernel_rfl) (by kernel_rfl) (y_pure tabOk rfl) rfl ?_
   refine a_two (i := 4) (j := 6) (by kernel_rfl) rfl rfl ?_ ?_
   ·refine yl 1 ((.snd (.snd (.snd (.fst .here))))) tx2 rfl rfl rfl trivial rfl <| za <| r_less [123,127,128] rfl <| a_one (i := 6) (by kernel_rfl) rfl ?_
    refine r_lits (B := 24) tabOk rfl el77 rfl rfl rfl (.cons rfl .nil) rfl fun v24 => ?_
    refine za <| r_less [123,127,129] rfl <| a_one (i := 7) (by kernel_rfl) rfl ?_
    refine iE h fun hc h => r_append (B := 24) tabOk 3 rfl rfl (src_own 0 rfl rfl) rfl el77 rfl rfl hc rfl fun v25 => ?_
    refine pk [1,1,1,1] rfl <| za <| r_less [123,130] rfl <| a_one (i := 8) (by kernel_rfl) rfl ?_
    refine p 1 [130,131] rfl <| za <| r_less [130,131] rfl <| a_float (i := 9) (t := ptr b2 3) (blind_then blind_body) rfl (by kernel_rfl) (by kernel_rfl) (by kernel_rfl) (y_pure tabOk rfl) rfl ?_
    refine a_one (i := 10) (by kernel_rfl) rfl ?_
    refine st 1 ((.snd (.snd (.snd (.fst .here))))) tx2 rfl rfl rfl rfl trivial <| za <| r_less [] rfl <| a_end (by kernel_rfl) ?_
    exact zt <| r_less [] rfl <| by exact r_meetk (o19 ++ [(r5.1.1, (IntKind.wrap .i64 (r5.1.2.1 + (List.length r4.1 : Int))), (IntKind.wrap .i64 (a0.2.2.2.2.1 + 1)), r5.1.2.2.2)]) v25 h rfl rfl
   refine r_lits (B := 24) tabOk rfl el77 rfl rfl rfl (.cons rfl .nil) rfl fun v24 => ?_
   refine za <| r_less [123,126,129] rfl <| a_one (i := 4) (by kernel_rfl) rfl ?_
   refine yl 2 ((.snd (.snd (.snd (.fst .here))))) tx2 rfl rfl rfl trivial rfl <| za <| r_less [123,127,129] rfl <| a_one (i := 7) (by kernel_rfl) rfl ?_
   refine iE h fun hc h => r_append (B := 24) tabOk 3 rfl rfl (src_own 0 rfl rfl) rfl el77 rfl rfl hc rfl fun v25 => ?_
   refine pk [1,1,1,1] rfl <| za <| r_less [123,130] rfl <| a_one (i := 8) (by kernel_rfl) rfl ?_
   refine p 1 [130,131] rfl <| za <| r_less [130,131] rfl <| a_float (i := 9) (t := ptr b2 3) (blind_then blind_body) rfl (by kernel_rfl) (by kernel_rfl) (by kernel_rfl) (y_pure tabOk rfl) rfl ?_
   refine a_one (i := 10) (by kernel_rfl) rfl ?_
   refine st 1 ((.snd (.snd (.snd (.fst .here))))) tx2 rfl rfl rfl rfl trivial <| za <| r_less [] rfl <| a_end (by kernel_rfl) ?_
   exact zt <| r_less [] rfl <| by exact r_meetk (o19 ++ [(r5.1.1, (IntKind.wrap .i64 (r5.1.2.1 + (List.length r4.1 : Int))), (IntKind.wrap .i64 (a0.2.2.2.2.1 + 1)), r5.1.2.2.2)]) v25 h rfl rfl
  refine r_lits (B := 24) tabOk rfl el77 rfl rfl rfl (.cons rfl .nil) rfl fun v24 => ?_
  refine za <| r_less [123,124,129] rfl <| a_one (i := 2) (by kernel_rfl) rfl ?_
  refine p 1 [123,125,129] rfl <| za <| r_less [123,125,129] rfl <| a_float (i := 3) (t := ptr b2 3) (blind_then blind_body) rfl (by kernel_rfl) (by kernel_rfl) (by kernel_rfl) (y_pure tabOk rfl) rfl ?_
  refine a_one (i := 4) (by kernel_rfl) rfl ?_
  refine yl 2 ((.snd (.snd (.snd (.fst .here))))) tx2 rfl rfl rfl trivial rfl <| za <| r_less [123,127,129] rfl <| a_one (i := 7) (by kernel_rfl) rfl ?_
  refine iE h fun hc h => r_append (B := 24) tabOk 3 rfl rfl (src_own 0 rfl rfl) rfl el77 rfl rfl hc rfl fun v25 => ?_
  refine pk [1,1,1,1] rfl <| za <| r_less [123,130] rfl <| a_one (i := 8) (by kernel_rfl) rfl ?_
  refine p 1 [130,131] rfl <| za <| r_less [130,131] rfl <| a_float (i := 9) (t := ptr b2 3) (blind_then blind_body) rfl (by kernel_rfl) (by kernel_rfl) (by kernel_rfl) (y_pure tabOk rfl) rfl ?_
  refine a_one (i := 10) (by kernel_rfl) rfl ?_
  refine st 1 ((.snd (.snd (.snd (.fst .here))))) tx2 rfl rfl rfl rfl trivial <| za <| r_less [] rfl <| a_end (by kernel_rfl) ?_
  exact zt <| r_less [] rfl <| by exact r_meetk (o19 ++ [(r5.1.1, (IntKind.wrap .i64 (r5.1.2.1 + (List.length r4.1 : Int))), (IntKind.wrap .i64 (a0.2.2.2.2.1 + 1)), r5.1.2.2.2)]) v25 h rfl rfl
 refine zu <| p 1 [4] rfl <| zf <| pk [1,1,0,0] rfl <| r_CLog (x := ((), a0.2.1, a0.2.2.1, o22, (IntKind.wrap .i64 (a0.2.2.2.2.1 + 1)), a0.2.2.2.2.2.1, a0.2.2.2.2.2.2)) (q := p100) ?_
 cases h
 exact r_ret1 rfl (.tmp rfl) (fun _ _ g => g) (fun _ _ _ => (.cons_cons _ (.cons_cons _ (.cons _ .slnil))))

theorem disk_Disk_Fall_ok (p0 : Value) (a0 : DiskS) (a1 : Int) (r : DiskS) (h : disk_Disk_Fall a0 a1 = some r) : Fn Tryz.prog 20 [tp p0, ti a1] [Res.disk Tryz.prog dI p0 a0] (fun _ => .tup []) (fun _ => [Res.disk Tryz.prog dI p0 r]) := by
 unfold disk_Disk_Fall at h
 refine enter Tryz.func20 rfl 9 rfl rfl fun F => ?_
 refine r_undisk fun b2 mv1 hp => ?_
 subst hp
 refine zr <| p 2 [4,5] rfl <| y (y_max rfl rfl) rfl ?_
 refine p 2 [6,8] rfl <| st 0 ((.snd (.snd (.snd (.snd (.fst .here)))))) ty3 rfl rfl rfl rfl trivial <| zn <| r_disk (P := Tryz.prog) (I := dI) (D := (a0.1, a0.2.1, a0.2.2.1, a0.2.2.2.1, (max a1 0), a0.2.2.2.2.2.1, a0.2.2.2.2.2.2)) ?_
 cases h
 exact r_end0 rfl (fun _ => tup_ok [] .nil) ((.cons_cons _ .slnil))

theorem disk_fateOf_ok (a0 : List (List Int × Int × Int × List Int × Unit)) (a1 : List Int) (a2 : Int) (r : (List Int × Int × Int × List Int × Unit)) (h : disk_fateOf a0 a1 a2 = some r) : Pure Tryz.prog 53 [.one (.sl 107 Y107) a0, ts a1, ti a2] (.one Y107 r) := by
 unfold disk_fateOf at h
 refine enter Tryz.func53 rfl 28 rfl rfl fun F => ?_
 refine zu <| r_alloc (t := Y107) rfl zf107 rfl fun b1 => za <| jK h (γ := Unit) (fun (o3 : Unit) _ => [(6, ptr b1 0)]) (fun (o3 : Unit) _ => [Res.var b1 107 Y107 ([], 0, 0, [], ())]) (fun k2 h => ?_) fun o3 gg h => ?_
 ·refine zu <| q 3 [(1, ts a1), (2, ti a2), (6, ptr b1 0), (9, .one (.sl 107 Y107) a0), (10, ti (List.length a0 : Int)), (11, ti 0)] [] rfl <| za <| zb <| r_less [1,2,6,9,10,11] rfl <| r_loopg (γ := Unit) (fun (s5 : Int) _ => [(1, ts a1), (2, ti a2), (6, ptr b1 0), (9, .one (.sl 107 Y107) a0), (10, ti (List.length a0 : Int)), (11, ti s5)]) (fun (s5 : Int) _ => [Res.var b1 107 Y107 ([], 0, 0, [], ())]) (disk_fateOf_l0 a0 a1 a2 k2) 0 () h rfl rfl ?_
  clear h
  intro m6 s5 gg h
  cases m6 with
  | zero => cases h
  | succ m6 =>
  simp only [disk_fateOf_l0] at h
  refine zu <| q 1 [(11, ti s5), (12, tb (decide (s5 < (List.length a0 : Int))))] [1,2,6,9,10] rfl <| za <| zs <| rI h rfl (fun hc h => ?_) fun hc h => ?_
  ·refine zk <| zt <| zs <| zb <| zu <| iE h fun hc h => y (y_iref tabOk rfl rfl hc.1 hc.2 rfl ty107) rfl ?_
   refine y (y_ref rfl ty107) rfl ?_
   refine r_alloc (t := Y107) rfl zf107 rfl fun b7 => st 0 .here ty107 rfl rfl rfl rfl trivial <| zz <| p 1 [1,2,6,8,9,10,11,15] rfl <| yl 0 ((.fst .here)) ty9 rfl rfl rfl trivial rfl <| q 3 [(19, tb (((List.getD a0 (Int.toNat s5) ([], 0, 0, [], ())).1) == a1))] [1,2,6,8,9,10,11] rfl ?_
   obtain ⟨b8, e, h⟩ := bnd_ex h; rw [e]
   refine r_lsplit (γ := Unit) 5 (fun _ => [(1, ts a1), (2, ti a2), (6, ptr b1 0), (8, ptr b7 0), (9, .one (.sl 107 Y107) a0), (10, ti (List.length a0 : Int)), (11, ti s5), (24, tb (b8 && (((List.getD a0 (Int.toNat s5) ([], 0, 0, [], ())).2.1) == a2)))]) (fun _ => [Res.var b7 107 Y107 (List.getD a0 (Int.toNat s5) ([], 0, 0, [], ())), Res.var b1 107 Y107 ([], 0, 0, [], ())]) ?_ (fun _ => ?_)
   ·clear h
    cases b8
    ·exact p 5 [1,2,6,8,9,10,11,24] rfl <| za <| by exact r_meetg () rfl rfl
    refine p 1 [1,2,6,8,9,10,11,19,20] rfl <| r_guard (by rfl) rfl ?_
    exact yl 0 ((.snd (.fst .here))) ty3 rfl rfl rfl trivial rfl <| q 3 [(24, tb (((List.getD a0 (Int.toNat s5) ([], 0, 0, [], ())).2.1) == a2))] [1,2,6,8,9,10,11] rfl <| r_less [1,2,6,8,9,10,11,24] rfl <| za <| by exact r_meetg () rfl rfl
   exact za <| rI h rfl (fun hc h => zu <| yl 0 .here ty107 rfl rfl rfl trivial rfl <| st 1 .here ty107 rfl rfl rfl rfl trivial <| zf <| zB <| zT <| zT <| zB <| zT <| by cases h; exact r_ret1 rfl (.cell 1 .here rfl rfl (by first | rfl | (simp only [Pth.off, T.size]; omega)) ok_here ty107) (fun _ _ g => g) (fun _ _ _ => List.nil_sublist _)) fun hc h => zk <| zi <| zt <| zr <| p 2 [1,2,6,9,10,11] rfl <| za <| pk [1] rfl <| r_less [1,2,6,9,10,11] rfl <| by exact r_backg (IntKind.wrap .i64 (s5 + 1)) () (Nat.lt_succ_self _) h rfl rfl
  exact zx <| ze <| ze <| zq <| zt <| r_less [6] rfl <| by exact r_meetk () () h rfl rfl
 refine zu <| y (y_build rfl zf107 rfl rfl .nil) rfl ?_
 refine st 0 .here ty107 rfl rfl rfl rfl trivial <| zf ?_
 cases h
 exact r_ret1 rfl (.cell 0 .here rfl rfl (by first | rfl | (simp only [Pth.off, T.size]; omega)) ok_here ty107) (fun _ _ g => g) (fun _ _ _ => List.nil_sublist _)

theorem disk_file_fall_ok (p0 : Value) (a0 : FileS) (a1 : List Int) (a2 : List (List Int × Int × Int × List Int × Unit)) (r : FileS) (h : disk_file_fall a0 a1 a2 = some r) : Fn Tryz.prog 34 [tp p0, ts a1, .one (.sl 107 Y107) a2] [Res.file Tryz.prog dI p0 a0] (fun _ => .tup []) (fun _ => [Res.file Tryz.prog dI p0 r]) := by
 unfold disk_file_fall at h
 refine enter Tryz.func34 rfl 142 rfl rfl fun F => ?_
 refine r_unfile fun b4 sv1 tv2 dv3 hp => ?_
 subst hp
 refine zu <| p 3 [0,1,2,18] rfl <| yl 0 ((.snd (.fst .here))) tx1 rfl rfl rfl trivial rfl <| y (y_lenown tabOk 2 rfl rfl rfl) rfl ?_
 refine q 1 [(6, ti (List.length a0.2.1 : Int))] [0,1,2] rfl ?_
 obtain ⟨size5, e, h⟩ := bnd_ex h; rw [e]
 refine zz <| r_makeMap 3 (.int .i64) Y107 rfl fun v6 => ?_
 refine p 1 [0,1,2,6,7] rfl <| za <| jK h (γ := Unit) (fun (o8 : Int × (List (Int × (List Int × Int × Int × List Int × Unit)))) _ => [(0, ptr b4 0), (6, ti o8.1), (7, .one (.raw (.map none)) v6)]) (fun (o8 : Int × (List (Int × (List Int × Int × Int × List Int × Unit)))) _ => [Res.dirty Tryz.prog dI dv3 a0.2.2, Res.map Tryz.prog 3 (.int .i64) Y107 v6 o8.2, Res.var b4 60 FT (sv1, tv2, dv3, ()), Res.own sv1 5 (.int .u8) a0.1, Res.own tv2 5 (.int .u8) a0.2.1]) (fun k7 h => ?_) fun o8 gg h => ?_
 ·refine zu <| p 3 [0,1,2,6,7,24] rfl <| yl 1 ((.snd (.snd (.fst .here)))) ty58 rfl rfl rfl trivial rfl <| pk [4,0,0,0,0] rfl <| r_krange (P := Tryz.prog) (I := dI) kint rfl Tryz.underlying58 rfl fun it51 hn52 => ?_
  refine za <| zb <| cB h fun rr hall h => r_less [0,1,2,6,7,26] rfl <| r_rangeloop (step := disk_file_fall_l1 a0 a1 a2) (fun s l => l.Nodup ∧ ∀ k ∈ l, pget (.int .i64) k s.2 = none) (comm_disk_file_fall_l1 a0 a1 a2) hn52 ⟨hn52, fun _ _ => rfl⟩ hall (γ := Unit) (fun (s55 : Int × (List (Int × (List Int × Int × Int × List Int × Unit)))) _ => [(0, ptr b4 0), (1, ts a1), (2, .one (.sl 107 Y107) a2), (6, ti s55.1), (7, .one (.raw (.map none)) v6), (26, tp it51)]) (fun todo57 (s55 : Int × (List (Int × (List Int × Int × Int × List Int × Unit)))) _ => [Res.kiter Tryz.prog dI dv3 it51 a0.2.2 todo57 none, Res.map Tryz.prog 3 (.int .i64) Y107 v6 s55.2, Res.var b4 60 FT (sv1, tv2, dv3, ()), Res.own sv1 5 (.int .u8) a0.1, Res.own tv2 5 (.int .u8) a0.2.1]) () rfl rfl fun todo57 s55 gg hend hone => ?_
  refine zu ?_
  refine r_knext (P := Tryz.prog) (I := dI) kint rfl rfl (fun ht => ?_) (fun A58 k59 B60 c62 htk59 hk => ?_)
  ·obtain rfl := hend ht
   refine r_kunrange ?_
   refine q 1 [(6, ti s55.1), (28, tb false)] [0,1,2,7] rfl <| za <| zs ?_
   refine r_if (b := false) rfl (fun hc => ?_) (fun hc => ?_)
   ·cases hc
   exact zx <| ze <| ze <| zq <| zt <| r_less [0,6,7] rfl <| by exact r_meetk (s55.1, s55.2) () h rfl rfl
  obtain ⟨sk59, hsk59⟩ := hone A58 k59 B60 htk59
  clear h
  have h := hsk59
  unfold disk_file_fall_l1 at h
  refine q 1 [(6, ti s55.1), (26, tp it51), (28, tb true)] [0,1,2,7] rfl <| za <| zs ?_
  refine r_if (b := true) rfl (fun hc => ?_) (fun hc => ?_)
  ·refine zk <| zt <| zb <| zu <| y_kentry (P := Tryz.prog) (I := dI) rfl 0 rfl rfl fun c63 => ?_
   refine p 2 [0,1,2,6,7,8,26] rfl <| zz <| p 3 [0,1,2,6,7,8,26,31,32,33] rfl <| cB h fun r64 hr64 h => r_calls (disk_fateOf_ok _ _ _ _ hr64) (by kernel_rfl) rfl rfl <| r_alloc (t := Y107) rfl zf107 rfl fun b65 => st 0 .here ty107 rfl rfl rfl rfl trivial <| zz <| p 2 [0,1,2,6,7,8,9,26,35,36] rfl <| yl 0 .here ty107 rfl rfl rfl trivial rfl <| iE h fun hc h => r_mapUpdate 2 rfl rfl rfl rfl ktc3 Tryz.underlying105 hc ?_
   refine zz <| p 1 [0,1,2,6,7,8,9,26,38] rfl <| yl 0 ((.snd (.snd (.fst .here)))) ty3 rfl rfl rfl trivial rfl <| q 2 [(41, tb (r64.2.2.1 == 1))] [0,1,2,6,7,8,9,26] rfl ?_
   obtain ⟨b66, e, h⟩ := bnd_ex h; rw [e]
   refine r_lsplit (γ := Unit) 4 (fun _ => [(0, ptr b4 0), (1, ts a1), (2, .one (.sl 107 Y107) a2), (6, ti s55.1), (7, .one (.raw (.map none)) v6), (8, ti k59), (26, tp it51), (45, tb (b66 || (r64.2.2.1 == 2)))]) (fun _ => [Res.var b65 107 Y107 r64, Res.kiter Tryz.prog dI dv3 it51 a0.2.2 (A58 ++ B60) (some k59), Res.map Tryz.prog 3 (.int .i64) Y107 v6 (pput (.int .i64) k59 r64 s55.2), Res.var b4 60 FT (sv1, tv2, dv3, ()), Res.own sv1 5 (.int .u8) a0.1, Res.own tv2 5 (.int .u8) a0.2.1]) ?_ (fun _ => ?_)
   ·clear h
    cases b66
    ·refine p 1 [0,1,2,6,7,8,26,41,42] rfl <| r_guard (by rfl) rfl ?_
     exact yl 0 ((.snd (.snd (.fst .here)))) ty3 rfl rfl rfl trivial rfl <| q 2 [(45, tb (r64.2.2.1 == 2))] [0,1,2,6,7,8,26] rfl <| r_less [0,1,2,6,7,8,26,45] rfl <| za <| by exact r_meetg () rfl rfl
    exact p 4 [0,1,2,6,7,8,26,45] rfl <| za <| by exact r_meetg () rfl rfl
   refine za <| rI h rfl (fun hc h => ?_) fun hc h => ?_
   ·refine zr <| q 7 [(46, ti s55.1), (49, ti (IntKind.wrap .i64 ((IntKind.wrap .i64 (k59 + 1)) * 64))), (52, ptr b4 0)] [0,1,2,7,26] rfl <| yl 3 ((.fst .here)) tx1 rfl rfl rfl trivial rfl <| y (y_lenown tabOk 4 rfl rfl rfl) rfl ?_
    refine y (y_min rfl rfl) rfl ?_
    refine y (y_max rfl rfl) rfl ?_
    refine q 1 [(6, ti (max s55.1 (min (IntKind.wrap .i64 ((IntKind.wrap .i64 (k59 + 1)) * 64)) (List.length a0.1 : Int))))] [0,1,2,7,26] rfl ?_
    obtain ⟨size67, e, h⟩ := bnd_ex h; rw [e]
    refine zn <| zi <| zt <| pk [1,1,1,1,1] rfl <| r_imp_at (R' := Res.kiter Tryz.prog dI dv3 it51 a0.2.2 (A58 ++ B60) none) 0 rfl kiter_none <| r_less [0,1,2,6,7,26] rfl ?_
    obtain rfl := Option.some.inj h
    exact r_backR () htk59 hsk59 rfl rfl
   refine zk <| zi <| zt <| pk [1,1,1,1,1] rfl <| r_imp_at (R' := Res.kiter Tryz.prog dI dv3 it51 a0.2.2 (A58 ++ B60) none) 0 rfl kiter_none <| r_less [0,1,2,6,7,26] rfl ?_
   obtain rfl := Option.some.inj h
   exact r_backR () htk59 hsk59 rfl rfl
  cases hc
 refine zu <| q 3 [(0, ptr b4 0), (6, ti o8.1), (7, .one (.raw (.map none)) v6), (59, ptr b4 0)] [] rfl <| yl 2 ((.fst .here)) tx1 rfl rfl rfl trivial rfl <| q 1 [(60, .one (.raw (.slice none 0 0)) sv1), (61, ti o8.1)] [0,7] rfl ?_
 obtain ⟨hs9, h⟩ := ite_ex h
 refine y (y_osub tabOk (i := (0 : Int)) (j := o8.1) rfl (sub_own 3 rfl) rfl rfl hs9.1 hs9.2.1 hs9.2.2 rfl ty5) rfl ?_
 refine cB h fun r10 hr10 h => r_callwo (slices_Clone__byte_byte_ok (List.take (Int.toNat o8.1) a0.1) _ hr10) (by kernel_rfl) (fun _ => rfl) (fun _ r hr => by rcases List.mem_singleton.1 hr with rfl; exact Res.free_own rfl) (.sub rfl (sub_sub (sub_own 3 rfl) hs9.1 hs9.2.1 hs9.2.2) .nil) rfl fun v11 => ?_
 refine p 1 [0,7,10] rfl <| za <| jK h (γ := Value × Value) (fun (o13 : List (Int)) g16 => [(0, ptr b4 0), (10, .one (.raw (.slice none 0 0)) g16.1)]) (fun (o13 : List (Int)) g16 => [Res.own g16.1 5 (.int .u8) o13, Res.dirty Tryz.prog dI dv3 a0.2.2, Res.map Tryz.prog 3 (.int .i64) Y107 v6 o8.2, Res.var b4 60 FT (sv1, g16.2, dv3, ()), Res.own sv1 5 (.int .u8) a0.1, Res.own g16.2 5 (.int .u8) a0.2.1]) (fun k12 h => ?_) fun o13 g16 h => ?_
 ·refine zu <| p 1 [0,7,10,64] rfl <| y (y_lenown tabOk 0 rfl rfl rfl) rfl ?_
  refine q 1 [(65, ti (List.length r10 : Int)), (66, ti 0)] [0,7,10] rfl <| za <| zb <| r_less [0,7,10,65,66] rfl <| r_loopg (γ := Value × Value) (fun (s25 : Int × List (Int)) g28 => [(0, ptr b4 0), (7, .one (.raw (.map none)) v6), (10, .one (.raw (.slice none 0 0)) g28.1), (65, ti (List.length r10 : Int)), (66, ti s25.1)]) (fun (s25 : Int × List (Int)) g28 => [Res.own g28.1 5 (.int .u8) s25.2, Res.dirty Tryz.prog dI dv3 a0.2.2, Res.map Tryz.prog 3 (.int .i64) Y107 v6 o8.2, Res.var b4 60 FT (sv1, g28.2, dv3, ()), Res.own sv1 5 (.int .u8) a0.1, Res.own g28.2 5 (.int .u8) a0.2.1]) (disk_file_fall_l0 a0 o8 r10 k12) (0, r10) (v11, tv2) h rfl rfl ?_
  clear h
  intro m29 s25 g28 h
  cases m29 with
  | zero => cases h
  | succ m29 =>
  simp only [disk_file_fall_l0] at h
  refine zu <| q 1 [(10, .one (.raw (.slice none 0 0)) g28.1), (66, ti s25.1), (67, tb (decide (s25.1 < (List.length r10 : Int))))] [0,7,65] rfl <| za <| zs <| rI h rfl (fun hc h => ?_) fun hc h => ?_
  ·refine zk <| zt <| jK h (γ := Value × Value) (fun (o31 : List (Int)) g34 => [(0, ptr b4 0), (7, .one (.raw (.map none)) v6), (10, .one (.raw (.slice none 0 0)) g34.1), (65, ti (List.length r10 : Int)), (66, ti s25.1)]) (fun (o31 : List (Int)) g34 => [Res.own g34.1 5 (.int .u8) o31, Res.dirty Tryz.prog dI dv3 a0.2.2, Res.map Tryz.prog 3 (.int .i64) Y107 v6 o8.2, Res.var b4 60 FT (sv1, g34.2, dv3, ()), Res.own sv1 5 (.int .u8) a0.1, Res.own g34.2 5 (.int .u8) a0.2.1]) (fun k30 h => ?_) fun o31 g34 h => ?_
   ·refine zb <| zu <| q 2 [(11, ti s25.1)] [0,7,10,65,66] rfl <| zz <| q 3 [(12, ti (IntKind.wrap .i64 (Int.tdiv s25.1 64)))] [0,7,10,11,65,66] rfl ?_
    obtain ⟨s35, e, h⟩ := bnd_ex h; rw [e]
    refine zz <| p 2 [0,7,10,11,12,65,66,72,73] rfl <| y (y_lookok 2 rfl rfl rfl ktc3 Tryz.underlying105 zf107 rfl) rfl ?_
    refine q 3 [(75, .one Y107 (Option.getD (pget (.int .i64) s35 o8.2) ([], 0, 0, [], ()))), (76, tb (Option.isSome (pget (.int .i64) s35 o8.2)))] [0,7,10,11,12,65,66] rfl <| r_alloc (t := Y107) rfl zf107 rfl fun b36 => st 0 .here ty107 rfl rfl rfl rfl trivial <| q 1 [(13, ptr b36 0), (14, tb (Option.isSome (pget (.int .i64) s35 o8.2)))] [0,7,10,11,12,65,66] rfl ?_
    obtain ⟨dirty37, e, h⟩ := bnd_ex h; rw [e]
    refine za <| zb <| zu <| p 3 [0,7,10,11,12,13,65,66,100] rfl ?_
    obtain ⟨b38, e, h⟩ := bnd_ex h; rw [e]
    refine r_lsplit (γ := Unit) 4 (fun _ => [(0, ptr b4 0), (7, .one (.raw (.map none)) v6), (10, .one (.raw (.slice none 0 0)) g28.1), (11, ti s25.1), (12, ti s35), (13, ptr b36 0), (65, ti (List.length r10 : Int)), (66, ti s25.1), (104, tb (b38 || (((Option.getD (pget (.int .i64) s35 o8.2) ([], 0, 0, [], ())).2.2.1) == 1)))]) (fun _ => [Res.var b36 107 Y107 (Option.getD (pget (.int .i64) s35 o8.2) ([], 0, 0, [], ())), Res.own g28.1 5 (.int .u8) s25.2, Res.dirty Tryz.prog dI dv3 a0.2.2, Res.map Tryz.prog 3 (.int .i64) Y107 v6 o8.2, Res.var b4 60 FT (sv1, g28.2, dv3, ()), Res.own sv1 5 (.int .u8) a0.1, Res.own g28.2 5 (.int .u8) a0.2.1]) ?_ (fun _ => ?_)
    ·clear h
     cases b38
     ·refine p 1 [0,7,10,11,12,13,65,66,100,101] rfl <| r_guard (by rfl) rfl ?_
      exact yl 0 ((.snd (.snd (.fst .here)))) ty3 rfl rfl rfl trivial rfl <| q 2 [(104, tb (((Option.getD (pget (.int .i64) s35 o8.2) ([], 0, 0, [], ())).2.2.1) == 1))] [0,7,10,11,12,13,65,66] rfl <| r_less [0,7,10,11,12,13,65,66,104] rfl <| za <| by exact r_meetg () rfl rfl
     exact p 4 [0,7,10,11,12,13,65,66,104] rfl <| za <| by exact r_meetg () rfl rfl
    refine q 1 [(97, tb (b38 || (((Option.getD (pget (.int .i64) s35 o8.2) ([], 0, 0, [], ())).2.2.1) == 1)))] [0,7,10,11,12,13,65,66] rfl <| za <| rI h rfl (fun hc h => zk <| zi <| zi <| zt <| pk [1,1,1,1,1,1] rfl <| r_less [0,7,10,65,66] rfl <| by exact r_meetk s25.2 (g28.1, g28.2) h rfl rfl) fun hc h => zu <| p 1 [0,7,10,11,12,13,65,66,106] rfl <| yl 0 ((.snd (.snd (.fst .here)))) ty3 rfl rfl rfl trivial rfl <| q 2 [(105, tb (((Option.getD (pget (.int .i64) s35 o8.2) ([], 0, 0, [], ())).2.2.1) == 2))] [0,7,10,11,12,13,65,66] rfl <| za <| rI h rfl (fun hc h => ?_) fun hc h => ?_
    ·refine zu <| q 2 [(109, .one (.raw (.slice none 0 0)) g28.1), (110, ti s25.1)] [0,7,10,11,12,13,65,66] rfl <| iE h fun hc h => r_expose 1 rfl (by first | omega | (simp only [List.length_set] at hc ⊢; omega)) fun b39 c40 hv => ?_
     rw [hv]
     try clear hv
     refine y (y_iraw tabOk rfl rfl hc.1 (by first | exact hc.2 | simpa using hc.2) rfl ty5) rfl ?_
     refine r_sown 1 (Int.toNat s25.1) .here rfl rfl rfl (by first | omega | (simp only [List.length_set] at hc ⊢; omega)) (by first | rfl | (simp only [Pth.off, T.size]; omega)) ok_here ty5 ?_
     refine zz <| q 5 [(10, .one (.raw (.slice none 0 0)) (.slice (some ⟨b39, 0, none⟩) (List.length s25.2) c40)), (15, ti (IntKind.wrap .i64 (s25.1 - (IntKind.wrap .i64 (s35 * 64)))))] [0,7,11,13,65,66] rfl ?_
     obtain ⟨i41, e, h⟩ := bnd_ex h; rw [e]
     refine zz <| p 2 [0,7,10,11,13,15,65,66,116,117] rfl <| yl 0 ((.snd (.snd (.snd (.fst .here))))) ty9 rfl rfl rfl trivial rfl <| q 2 [(120, tb (decide (i41 < (List.length ((Option.getD (pget (.int .i64) s35 o8.2) ([], 0, 0, [], ())).2.2.2.1) : Int))))] [0,7,10,11,13,15,65,66] rfl ?_
     obtain ⟨t42, e, h⟩ := bnd_ex h; rw [e]
     refine za <| rI h rfl (fun hc h => ?_) fun hc h => ?_
     ·refine zr <| q 3 [(121, .one (.raw (.slice none 0 0)) (.slice (some ⟨b39, 0, none⟩) (List.length s25.2) c40)), (122, ti s25.1), (123, ptr b36 3)] [0,7,10,15,65,66] rfl <| yl 0 ((.snd (.snd (.snd (.fst .here))))) ty9 rfl rfl rfl trivial rfl <| q 1 [(124, ts ((Option.getD (pget (.int .i64) s35 o8.2) ([], 0, 0, [], ())).2.2.2.1)), (125, ti i41)] [0,7,10,65,66,121,122] rfl <| iE h fun hc h => y (y_byte tabOk rfl rfl hc.1 hc.2 rfl) rfl ?_
      refine iE h fun hc h => y (y_iraw tabOk rfl rfl hc.1 (by first | exact hc.2 | simpa using hc.2) rfl ty5) rfl ?_
      refine r_sown 1 (Int.toNat s25.1) .here rfl rfl rfl (by first | omega | (simp only [List.length_set] at hc ⊢; omega)) (by first | rfl | (simp only [Pth.off, T.size]; omega)) ok_here ty5 ?_
      exact zn <| zi <| zi <| zt <| pk [1,1,1,1,1,1] rfl <| r_less [0,7,10,65,66] rfl <| by exact r_meetk (List.set (List.set s25.2 (Int.toNat s25.1) 0) (Int.toNat s25.1) (List.getD ((Option.getD (pget (.int .i64) s35 o8.2) ([], 0, 0, [], ())).2.2.2.1) (Int.toNat i41) 0)) ((.slice (some ⟨b39, 0, none⟩) (List.length s25.2) c40), g28.2) h rfl rfl
     exact zk <| zi <| zi <| zt <| pk [1,1,1,1,1,1] rfl <| r_less [0,7,10,65,66] rfl <| by exact r_meetk (List.set s25.2 (Int.toNat s25.1) 0) ((.slice (some ⟨b39, 0, none⟩) (List.length s25.2) c40), g28.2) h rfl rfl
    refine zu <| q 2 [(77, .one (.raw (.slice none 0 0)) g28.1), (78, ti s25.1)] [0,7,10,11,65,66] rfl <| iE h fun hc h => r_expose 1 rfl (by first | omega | (simp only [List.length_set] at hc ⊢; omega)) fun b45 c46 hv => ?_
    rw [hv]
    try clear hv
    refine y (y_iraw tabOk rfl rfl hc.1 (by first | exact hc.2 | simpa using hc.2) rfl ty5) rfl ?_
    refine r_sown 1 (Int.toNat s25.1) .here rfl rfl rfl (by first | omega | (simp only [List.length_set] at hc ⊢; omega)) (by first | rfl | (simp only [Pth.off, T.size]; omega)) ok_here ty5 ?_
    refine zz <| q 4 [(10, .one (.raw (.slice none 0 0)) (.slice (some ⟨b45, 0, none⟩) (List.length s25.2) c46)), (80, ti s25.1), (83, ptr b4 1)] [0,7,11,65,66] rfl <| yl 4 ((.snd (.fst .here))) tx1 rfl rfl rfl trivial rfl <| y (y_lenown tabOk 6 rfl rfl rfl) rfl ?_
    refine q 1 [(86, tb (decide (s25.1 < (List.length a0.2.1 : Int))))] [0,7,10,11,65,66] rfl <| za <| rI h rfl (fun hc h => ?_) fun hc h => ?_
    ·refine zr <| q 5 [(87, .one (.raw (.slice none 0 0)) (.slice (some ⟨b45, 0, none⟩) (List.length s25.2) c46)), (88, ti s25.1), (91, ptr b4 1)] [0,7,10,11,65,66] rfl <| yl 4 ((.snd (.fst .here))) tx1 rfl rfl rfl trivial rfl <| q 1 [(92, .one (.raw (.slice none 0 0)) g28.2), (93, ti s25.1)] [0,7,10,65,66,87,88] rfl <| iE h fun hc h => r_expose 6 rfl (by first | omega | (simp only [List.length_set] at hc ⊢; omega)) fun b47 c48 hv => ?_
     rw [hv]
     try clear hv
     refine y (y_iraw tabOk rfl rfl hc.1 (by first | exact hc.2 | simpa using hc.2) rfl ty5) rfl ?_
     refine y (y_lown 6 (Int.toNat s25.1) .here rfl rfl (by first | omega | (simp only [List.length_set] at hc ⊢; omega)) (by first | rfl | (simp only [Pth.off, T.size]; omega)) ok_here ty5) rfl ?_
     refine iE h fun hc h => y (y_iraw tabOk rfl rfl hc.1 (by first | exact hc.2 | simpa using hc.2) rfl ty5) rfl ?_
     refine r_sown 1 (Int.toNat s25.1) .here rfl rfl rfl (by first | omega | (simp only [List.length_set] at hc ⊢; omega)) (by first | rfl | (simp only [Pth.off, T.size]; omega)) ok_here ty5 ?_
     exact zn <| zi <| zi <| zt <| pk [1,1,1,1,1,1] rfl <| r_less [0,7,10,65,66] rfl <| by exact r_meetk (List.set (List.set s25.2 (Int.toNat s25.1) 0) (Int.toNat s25.1) (List.getD a0.2.1 (Int.toNat s25.1) 0)) ((.slice (some ⟨b45, 0, none⟩) (List.length s25.2) c46), (.slice (some ⟨b47, 0, none⟩) (List.length a0.2.1) c48)) h rfl rfl
    exact zk <| zi <| zi <| zt <| pk [1,1,1,1,1,1] rfl <| r_less [0,7,10,65,66] rfl <| by exact r_meetk (List.set s25.2 (Int.toNat s25.1) 0) ((.slice (some ⟨b45, 0, none⟩) (List.length s25.2) c46), g28.2) h rfl rfl
   exact zr <| q 2 [(0, ptr b4 0), (7, .one (.raw (.map none)) v6), (10, .one (.raw (.slice none 0 0)) g34.1), (65, ti (List.length r10 : Int)), (66, ti (IntKind.wrap .i64 (s25.1 + 1)))] [] rfl <| za <| r_less [0,7,10,65,66] rfl <| by exact r_backg ((IntKind.wrap .i64 (s25.1 + 1)), o31) (g34.1, g34.2) (Nat.lt_succ_self _) h rfl rfl
  exact zx <| ze <| ze <| zq <| zt <| r_less [0,10] rfl <| by exact r_meetk s25.2 (g28.1, g28.2) h rfl rfl
 refine zu <| q 4 [(0, ptr b4 0), (129, ptr b4 0), (130, ptr b4 0), (131, .one (.raw (.slice none 0 0)) g16.1), (132, .one (.raw (.slice none 0 0)) g16.1)] [] rfl <| cB h fun r17 hr17 h => r_callwo (slices_Clone__byte_byte_ok o13 _ hr17) (by kernel_rfl) (fun _ => rfl) (fun _ r hr => by rcases List.mem_singleton.1 hr with rfl; exact Res.free_own rfl) (.sub rfl (sub_own 0 rfl) .nil) rfl fun v18 => ?_
 refine p 2 [0,130,131,133,135] rfl <| st 4 ((.fst .here)) tx1 rfl rfl rfl rfl trivial <| pk [0,0,0,0,0,1] rfl <| p 2 [0,133,137] rfl <| st 4 ((.snd (.fst .here))) tx1 rfl rfl rfl rfl trivial <| pk [0,0,0,0,0] rfl <| za <| zr <| p 3 [140] rfl <| yl 4 ((.snd (.snd (.fst .here)))) ty58 rfl rfl rfl trivial rfl <| r_undirty 2 rfl fun l19 hl19 => ?_
 refine r_clear 2 rfl rfl Tryz.underlying58 ?_
 refine r_redirty (P := Tryz.prog) (I := dI) (keys := []) 2 rfl rfl ?_
 refine zn <| pk [4,1,0,0,0] rfl <| r_file (P := Tryz.prog) (I := dI) ?_
 cases h
 exact r_end0 rfl (fun _ => tup_ok [] .nil) ((.cons_cons _ (.cons _ .slnil)))

theorem disk_Disk_Crash_ok (p0 : Value) (a0 : DiskS) (a1 : List (List Int × Int × Int × List Int × Unit)) (r : DiskS) (h : disk_Disk_Crash a0 a1 = some r) : Fn Tryz.prog 12 [tp p0, .one (.sl 107 Y107) a1] [Res.disk Tryz.prog dI p0 a0] (fun _ => .tup []) (fun _ => [Res.disk Tryz.prog dI p0 r]) := by
 unfold disk_Disk_Crash at h
 refine enter Tryz.func12 rfl 43 rfl rfl fun F => ?_
 refine r_undisk fun b2 mv1 hp => ?_
 subst hp
 refine zs <| zu <| p 3 [0,1,8] rfl <| yl 0 ((.snd (.snd (.snd (.snd (.snd (.fst .here))))))) ty4 rfl rfl rfl trivial rfl <| q 1 [(10, tb a0.2.2.2.2.2.1)] [0,1] rfl ?_
 refine r_lsplit (γ := Unit) 6 (fun _ => [(0, ptr b2 0), (1, .one (.sl 107 Y107) a1), (16, tb (a0.2.2.2.2.2.1 && (!a0.2.2.2.2.2.2)))]) (fun _ => [Res.var b2 54 DT (a0.1, mv1, a0.2.2.1, a0.2.2.2.1, a0.2.2.2.2.1, a0.2.2.2.2.2.1, a0.2.2.2.2.2.2, ()), Res.dfiles Tryz.prog dI mv1 a0.2.1]) ?_ (fun _ => ?_)
 ·clear h
  rcases Bool.eq_false_or_eq_true a0.2.2.2.2.2.1 with hh | hh
  ·refine r_setb 10 hh rfl ?_
   refine p 3 [0,1,10,13] rfl <| r_guard (by rfl) rfl ?_
   exact yl 0 ((.snd (.snd (.snd (.snd (.snd (.snd (.fst .here)))))))) ty4 rfl rfl rfl trivial rfl <| q 2 [(16, tb (!a0.2.2.2.2.2.2))] [0,1] rfl <| r_less [0,1,16] rfl <| za <| by exact r_meetg () (by first | rfl | (rw [hh]; done) | (rw [hh]; rfl)) rfl
  refine r_setb 10 hh rfl ?_
  exact p 6 [0,1,16] rfl <| za <| by exact r_meetg () (by first | rfl | (rw [hh]; done) | (rw [hh]; rfl)) rfl
 refine za <| rI h rfl (fun hc h => zR <| zT <| r_disk (P := Tryz.prog) (I := dI) (D := a0) <| by cases h; exact r_ret0 rfl (fun _ => tup_ok [] .nil) ((.cons_cons _ .slnil))) fun hc h => zk <| zt <| jK h (γ := Unit) (fun (o5 : (List (List Int × FileS))) _ => [(0, ptr b2 0)]) (fun (o5 : (List (List Int × FileS))) _ => [Res.dfiles Tryz.prog dI mv1 o5, Res.var b2 54 DT (a0.1, mv1, a0.2.2.1, a0.2.2.2.1, a0.2.2.2.2.1, a0.2.2.2.2.2.1, a0.2.2.2.2.2.2, ())]) (fun k4 h => ?_) fun o5 gg h => ?_
 ·refine zu <| p 3 [0,1,19] rfl <| yl 0 ((.snd (.fst .here))) ty52 rfl rfl rfl trivial rfl <| pk [1,0] rfl <| r_drange kstr rfl Tryz.underlying52 rfl fun it6 hn7 => ?_
  refine za <| zb <| cB h fun rr hall h => r_less [0,1,21] rfl <| r_rangeloop (step := disk_Disk_Crash_l0 a1) (fun _ _ => True) (comm_disk_Disk_Crash_l0 a1) hn7 trivial hall (γ := Unit) (fun (s10 : (List (List Int × FileS))) _ => [(0, ptr b2 0), (1, .one (.sl 107 Y107) a1), (21, tp it6)]) (fun todo12 (s10 : (List (List Int × FileS))) _ => [Res.diter Tryz.prog dI mv1 it6 s10 todo12 none none, Res.var b2 54 DT (a0.1, mv1, a0.2.2.1, a0.2.2.2.1, a0.2.2.2.2.1, a0.2.2.2.2.2.1, a0.2.2.2.2.2.2, ())]) () rfl rfl fun todo12 s10 gg hend hone => ?_
  refine zu ?_
  refine r_dnext kstr rfl rfl (fun ht => ?_) (fun A13 k14 B15 q16 htk14 hk => ?_)
  ·obtain rfl := hend ht
   refine r_dunrange ?_
   refine p 1 [0,1,23] rfl <| za <| zs ?_
   refine r_if (b := false) rfl (fun hc => ?_) (fun hc => ?_)
   ·cases hc
   exact zx <| ze <| ze <| zq <| zt <| r_less [0] rfl <| by exact r_meetk s10 () h rfl rfl
  obtain ⟨sk14, hsk14⟩ := hone A13 k14 B15 htk14
  clear h
  have h := hsk14
  unfold disk_Disk_Crash_l0 at h
  refine p 1 [0,1,21,23] rfl <| za <| zs ?_
  refine r_if (b := true) rfl (fun hc => ?_) (fun hc => ?_)
  ·refine zk <| zt <| zb <| zu <| y (y_dentry rfl 0 rfl) rfl ?_
   refine p 4 [0,1,4,5,21] rfl <| za <| zr <| p 3 [0,1,21,27,28,29] rfl <| cB h fun f18 hf18 h => r_difocus hf18 fun fb19 sv20 tv21 dv22 hq => ?_
   rw [hq]
   clear hq
   refine r_file (P := Tryz.prog) (I := dI) ?_
   refine cB h fun r23 hr23 h => rc [0] (disk_file_fall_ok _ _ _ _ _ hr23) (by kernel_rfl) rfl rfl rfl fun _ => zn <| zi <| zt <| r_unfileb fun sv24 tv25 dv26 => ?_
   refine r_diunfocus (P := Tryz.prog) (I := dI) ?_
   refine r_imp_at (R' := Res.diter Tryz.prog dI mv1 it6 (pset .str k14 r23 s10) (A13 ++ B15) none none) 0 rfl diter_none <| r_less [0,1,21] rfl ?_
   obtain rfl := Option.some.inj h
   exact r_backR () htk14 hsk14 rfl rfl
  cases hc
 refine zr <| p 6 [32,33,34,36] rfl <| st 1 ((.snd (.snd (.snd (.snd (.snd (.fst .here))))))) ty4 rfl rfl rfl rfl trivial <| p 2 [33,34,38] rfl <| st 1 ((.snd (.snd (.snd (.snd (.snd (.snd (.fst .here)))))))) ty4 rfl rfl rfl rfl trivial <| p 2 [34,40] rfl <| st 1 ((.snd (.snd (.fst .here)))) ty3 rfl rfl rfl rfl trivial <| p 2 [42] rfl <| st 1 ((.snd (.snd (.snd (.snd (.fst .here)))))) ty3 rfl rfl rfl rfl trivial <| zn <| pk [1,0] rfl <| r_disk (P := Tryz.prog) (I := dI) (D := (a0.1, o5, 0, a0.2.2.2.1, 0, true, false)) ?_
 cases h
 exact r_end0 rfl (fun _ => tup_ok [] .nil) ((.cons_cons _ .slnil))

theorem disk_Disk_On_ok (p0 : Value) (a0 : DiskS) (r : DiskS) (h : disk_Disk_On a0 = some r) : Fn Tryz.prog 13 [tp p0] [Res.disk Tryz.prog dI p0 a0] (fun _ => .tup []) (fun _ => [Res.disk Tryz.prog dI p0 r]) := by
 unfold disk_Disk_On at h
 refine enter Tryz.func13 rfl 11 rfl rfl fun F => ?_
 refine r_undisk fun b2 mv1 hp => ?_
 subst hp
 refine jK h (γ := Unit) (fun (o4 : DiskS) _ => [(0, ptr b2 0)]) (fun (o4 : DiskS) _ => [Res.disk Tryz.prog dI (.pointer (some ⟨b2, 0, none⟩)) o4]) (fun k3 h => ?_) fun o4 gg h => ?_
 ·refine zu <| p 3 [0,4] rfl <| yl 0 ((.snd (.snd (.snd (.snd (.snd (.snd (.fst .here)))))))) ty4 rfl rfl rfl trivial rfl <| za <| rI h rfl (fun hc h => ?_) fun hc h => ?_
  ·refine zr <| p 1 [0,6] rfl <| r_disk (P := Tryz.prog) (I := dI) (D := a0) <| cB h fun r6 hr6 h => r_calla (Lo := []) (disk_Disk_Crash_ok (.pointer (some ⟨b2, 0, none⟩)) a0 [] _ hr6) (by kernel_rfl) (takeR_perm (is := [0]) rfl) (.val rfl (.nilsl .nil)) rfl fun _ => ?_
   exact za <| r_less [0] rfl <| by exact r_meetk r6 () h rfl rfl
  exact zk <| zt <| r_disk (P := Tryz.prog) (I := dI) (D := a0) <| r_less [0] rfl <| by exact r_meetk a0 () h rfl rfl
 refine r_undiskb fun mv5 => ?_
 refine zr <| p 3 [10] rfl <| st 0 ((.snd (.snd (.snd (.snd (.snd (.fst .here))))))) ty4 rfl rfl rfl rfl trivial <| zn <| r_disk (P := Tryz.prog) (I := dI) (D := (o4.1, o4.2.1, o4.2.2.1, o4.2.2.2.1, o4.2.2.2.2.1, false, o4.2.2.2.2.2.2)) ?_
 cases h
 exact r_end0 rfl (fun _ => tup_ok [] .nil) ((.cons_cons _ .slnil))

theorem escrowlaw06_sameTexts_ok (a0 : List (List Int)) (a1 : List (List Int)) (r : Bool) (h : escrowlaw06_sameTexts a0 a1 = some r) : Pure Tryz.prog 14 [.one (.sl 9 .str) a0, .one (.sl 9 .str) a1] (tb r) := by
 unfold escrowlaw06_sameTexts at h
 refine enter Tryz.func14 rfl 26 rfl rfl fun F => ?_
 refine zu <| p 1 [0,1] rfl <| za <| zs <| zu <| q 5 [(10, tb ((List.length a0 : Int) != (List.length a1 : Int)))] [0,1] rfl <| za <| rI h rfl (fun hc h => zu <| p 1 [4] rfl <| zf <| zT <| by cases h; exact r_ret1 rfl (.tmp rfl) (fun _ _ g => g) (fun _ _ _ => List.nil_sublist _)) fun hc h => zk <| zt <| jK h (γ := Unit) (fun (o2 : Unit) _ => []) (fun (o2 : Unit) _ => []) (fun k1 h => ?_) fun o2 gg h => ?_
 ·refine zu <| p 1 [0,1,5] rfl <| za <| zb <| r_less [0,1,5] rfl <| r_loopg (γ := Unit) (fun (s4 : Int) _ => [(0, .one (.sl 9 .str) a0), (1, .one (.sl 9 .str) a1), (5, ti s4)]) (fun (s4 : Int) _ => []) (escrowlaw06_sameTexts_l0 a0 a1 k1) 0 () h rfl rfl ?_
  clear h
  intro m5 s4 gg h
  cases m5 with
  | zero => cases h
  | succ m5 =>
  simp only [escrowlaw06_sameTexts_l0] at h
  refine zs <| zu <| q 4 [(5, ti s4), (14, tb (decide (s4 < (List.length a0 : Int))))] [0,1] rfl <| za <| rI h rfl (fun hc h => ?_) fun hc h => ?_
  ·refine zk <| zt <| zs <| zb <| zs <| r_drawn (by kernel_rfl) (by kernel_rfl) ?_
   refine q_pure tabOk 2 [0, 1, 5, 17, 18] (E' := [(0, .one (.sl 9 .str) a0), (1, .one (.sl 9 .str) a1), (5, ti s4), (17, .one (.sl 9 .str) a0), (18, ti s4)]) rfl ?_
   refine iE h fun hc h => q_y (y_iref tabOk rfl rfl hc.1 hc.2 rfl ty9) rfl ?_
   refine q_y (y_ref rfl ty9) rfl ?_
   refine q_pure tabOk 2 [0, 1, 5, 20, 21, 22] (E' := [(0, .one (.sl 9 .str) a0), (1, .one (.sl 9 .str) a1), (5, ti s4), (20, ts (List.getD a0 (Int.toNat s4) [])), (21, .one (.sl 9 .str) a1), (22, ti s4)]) rfl ?_
   refine iE h fun hc h => q_y (y_iref tabOk rfl rfl hc.1 hc.2 rfl ty9) rfl ?_
   refine q_y (y_ref rfl ty9) rfl ?_
   refine q_pure tabOk 1 [0, 1, 5, 25] (E' := [(0, .one (.sl 9 .str) a0), (1, .one (.sl 9 .str) a1), (5, ti s4), (25, tb ((List.getD a0 (Int.toNat s4) []) != (List.getD a1 (Int.toNat s4) [])))]) rfl ?_
   refine q_nil ?_
   refine zt <| rI h rfl (fun hc h => zu <| p 1 [4] rfl <| zf <| zB <| zT <| zT <| zB <| zT <| by cases h; exact r_ret1 rfl (.tmp rfl) (fun _ _ g => g) (fun _ _ _ => List.nil_sublist _)) fun hc h => zk <| zi <| zt <| zr <| p 3 [0,1,5] rfl ?_
   obtain ⟨i6, e, h⟩ := bnd_ex h; rw [e]
   exact za <| r_less [0,1,5] rfl <| by exact r_backg i6 () (Nat.lt_succ_self _) h rfl rfl
  exact zx <| ze <| ze <| zq <| zt <| r_less [] rfl <| by exact r_meetk () () h rfl rfl
 refine zu <| p 1 [4] rfl <| zf ?_
 cases h
 exact r_ret1 rfl (.tmp rfl) (fun _ _ g => g) (fun _ _ _ => List.nil_sublist _)

theorem wal_Log_Next_ok (p0 : Value) (p100 : Value) (a0 : Unit × List Int × Int × (List (Int × Int × Int × Unit)) × Int × Bool × Unit) (a100 : DiskS) (r : Int) (h : wal_Log_Next a0 a100 = some r) : Fn Tryz.prog 10 [tp p0] [Res.cls (CLog p100) p0 a0, Res.disk Tryz.prog dI p100 a100] (fun _ => ti r) (fun _ => [Res.cls (CLog p100) p0 a0, Res.disk Tryz.prog dI p100 a100]) := by
 unfold wal_Log_Next at h
 refine enter Tryz.func10 rfl 7 rfl rfl fun F => ?_
 refine r_unCLog fun b2 sv1 hp => ?_
 subst hp
 refine r_CLog (x := a0) (q := p100) ?_
 refine zu <| p 1 [0] rfl <| za <| zs <| r_unCLogb fun sv3 => ?_
 refine zr <| p 3 [5] rfl <| yl 0 ((.snd (.snd (.snd (.snd (.fst .here)))))) ty2 rfl rfl rfl trivial rfl <| q 1 [(2, ti a0.2.2.2.2.1)] [] rfl <| zf <| r_CLog (x := a0) (q := p100) ?_
 cases h
 exact r_ret1 rfl (.tmp rfl) (fun _ _ g => g) (fun _ _ _ => (.cons_cons _ (.cons_cons _ .slnil)))

theorem wal_Log_Names_ok (p0 : Value) (p100 : Value) (a0 : Unit × List Int × Int × (List (Int × Int × Int × Unit)) × Int × Bool × Unit) (a100 : DiskS) (r : List (List Int)) (h : wal_Log_Names a0 a100 = some r) : FnT Tryz.prog tabs 11 [tp p0] [Res.cls (CLog p100) p0 a0, Res.disk Tryz.prog dI p100 a100] (fun v => .one (.raw (.slice none 0 0)) v) (fun v => [Res.cls (CLog p100) p0 a0, Res.disk Tryz.prog dI p100 a100, Res.own v 9 .str r]) := by
 unfold wal_Log_Names at h
 refine enterT Tryz.func11 rfl 24 rfl rfl fun F hT => ?_
 refine r_unCLog fun b2 sv1 hp => ?_
 subst hp
 refine r_CLog (x := a0) (q := p100) ?_
 refine zu <| p 1 [0] rfl <| zz <| p 1 [0,3] rfl <| r_nilown (.slice none 0 0) rfl 9 .str ?_
 refine za <| jK h (γ := Value) (fun (o4 : List (List Int)) g5 => [(3, .one (.raw (.slice none 0 0)) g5)]) (fun (o4 : List (List Int)) g5 => [Res.cls (CLog p100) (.pointer (some ⟨b2, 0, none⟩)) a0, Res.own g5 9 .str o4, Res.disk Tryz.prog dI p100 a100]) (fun k3 h => ?_) fun o4 g5 h => ?_
 ·refine zs <| pk [1,0,0] rfl <| r_unCLogb fun sv6 => ?_
  refine zr <| p 3 [0,3,8] rfl <| yl 0 ((.snd (.snd (.snd (.fst .here))))) tx2 rfl rfl rfl trivial rfl <| y (y_lenown tabOk 1 rfl rfl rfl) rfl ?_
  refine q 1 [(9, .one (.raw (.slice none 0 0)) sv6), (10, ti (List.length a0.2.2.2.1 : Int)), (11, ti 0)] [0,3] rfl <| za <| zb <| r_less [0,3,9,10,11] rfl <| r_loopg (γ := Value × Value) (fun (s12 : Int × List (List Int)) g15 => [(0, ptr b2 0), (3, .one (.raw (.slice none 0 0)) g15.2), (9, .one (.raw (.slice none 0 0)) g15.1), (10, ti (List.length a0.2.2.2.1 : Int)), (11, ti s12.1)]) (fun (s12 : Int × List (List Int)) g15 => [Res.var b2 68 (.pair (.raw (.pointer none)) (.pair .str (.pair (.int .i64) (.pair (.raw (.slice none 0 0)) (.pair (.int .i64) (.pair .bool .unit)))))) (p100, a0.2.1, a0.2.2.1, g15.1, a0.2.2.2.2.1, a0.2.2.2.2.2.1, a0.2.2.2.2.2.2), Res.own g15.1 77 Y77 a0.2.2.2.1, Res.own g15.2 9 .str s12.2, Res.disk Tryz.prog dI p100 a100]) (wal_Log_Names_l0 a0 k3) (0, []) (sv6, (.slice none 0 0)) h rfl rfl ?_
  clear h
  intro m16 s12 g15 h
  cases m16 with
  | zero => cases h
  | succ m16 =>
  simp only [wal_Log_Names_l0] at h
  refine zu <| q 1 [(3, .one (.raw (.slice none 0 0)) g15.2), (9, .one (.raw (.slice none 0 0)) g15.1), (11, ti s12.1), (12, tb (decide (s12.1 < (List.length a0.2.2.2.1 : Int))))] [0,10] rfl <| za <| zs <| rI h rfl (fun hc h => ?_) fun hc h => ?_
  ·refine zk <| zt <| zs <| zb <| zu <| iE h fun hc h => r_expose 1 rfl (by first | omega | (simp only [List.length_set] at hc ⊢; omega)) fun b17 c18 hv => ?_
   rw [hv]
   try clear hv
   refine y (y_iraw tabOk rfl rfl hc.1 (by first | exact hc.2 | simpa using hc.2) rfl ty77) rfl ?_
   refine y (y_lown 1 (Int.toNat s12.1) .here rfl rfl (by first | omega | (simp only [List.length_set] at hc ⊢; omega)) (by first | rfl | (simp only [Pth.off, T.size]; omega)) ok_here ty77) rfl ?_
   refine r_alloc (t := Y77) rfl zf77 rfl fun b19 => st 0 .here ty77 rfl rfl rfl rfl trivial <| za <| zr <| q 3 [(9, .one (.raw (.slice none 0 0)) (.slice (some ⟨b17, 0, none⟩) (List.length a0.2.2.2.1) c18)), (15, .one (.raw (.slice none 0 0)) g15.2), (16, ptr b2 0), (17, ptr b19 0)] [0,10,11] rfl <| yl 0 ((.fst .here)) ty3 rfl rfl rfl trivial rfl <| cB h fun r20 hr20 h => rcT hT [1] (wal_Log_file_ok _ _ _ _ _ _ hr20) (by kernel_rfl) rfl rfl rfl fun _ => r_lits (B := 16) tabOk rfl el9 rfl rfl rfl (.cons rfl .nil) rfl fun v21 => ?_
   refine iE h fun hc h => r_append (B := 16) tabOk 4 rfl rfl (src_own 0 rfl rfl) rfl el9 rfl rfl hc rfl fun v22 => ?_
   exact pk [1,1,1,1,1] rfl <| p 1 [0,3,9,10,11] rfl <| zn <| zi <| zt <| zr <| q 2 [(11, ti (IntKind.wrap .i64 (s12.1 + 1)))] [0,3,9,10] rfl <| za <| pk [0,1,1,1] rfl <| r_less [0,3,9,10,11] rfl <| by exact r_backg ((IntKind.wrap .i64 (s12.1 + 1)), (s12.2 ++ [r20])) ((.slice (some ⟨b17, 0, none⟩) (List.length a0.2.2.2.1) c18), v22) (Nat.lt_succ_self _) h rfl rfl
  refine zx <| ze <| ze <| zq <| zt <| r_CLog (x := a0) (q := p100) ?_
  exact r_less [3] rfl <| by exact r_meetk s12.2 g15.2 h rfl rfl
 refine zu <| p 2 [2] rfl <| zf ?_
 cases h
 exact pk [0,1,0] rfl <| r_ret1 rfl (.tmp rfl) (fun _ _ g => holds_raw.2 ⟨rfl, by rw [(holds_raw.1 g).1]; exact (holds_raw.1 g).2⟩) (fun _ _ g => by obtain ⟨rfl, _⟩ := holds_raw.1 g; exact List.Sublist.refl _)

theorem escrowlaw06_first_ok  (r : Bool) (h : escrowlaw06_first  = some r) : FnT Tryz.prog tabs 6 [] [] (fun _ => tb r) (fun _ => []) := by
 unfold escrowlaw06_first at h
 refine enterT Tryz.func6 rfl 109 rfl rfl fun F hT => ?_
 refine zu <| p 1 [] rfl <| zz <| cB h fun r1 hr1 h => r_call (Lo := []) (disk_New_ok 100000 _ hr1) (by kernel_rfl) (List.Perm.refl _) rfl rfl fun v2 => ?_
 refine q 5 [(1, tp (tupv v2 0)), (2, ti r1.1)] [] rfl <| za <| zs <| zu <| p 1 [1,2,19] rfl <| y (y_dnil 0 rfl rfl Tryz.underlying23) rfl ?_
 refine q 1 [(21, tb (r1.1 != 0))] [1,2] rfl ?_
 obtain ⟨b3, e, h⟩ := bnd_ex h; rw [e]
 refine r_lsplit (γ := Unit) 3 (fun _ => [(1, tp (tupv v2 0)), (24, tb (b3 || (r1.1 != 0)))]) (fun _ => [Res.diskif Tryz.prog dI (tupv v2 0) r1.2 r1.1]) ?_ (fun _ => ?_)
 ·clear h
  cases b3
  ·exact q 3 [(24, tb (r1.1 != 0))] [1] rfl <| r_less [1,24] rfl <| za <| by exact r_meetg () rfl rfl
  exact p 3 [1,24] rfl <| za <| by exact r_meetg () rfl rfl
 refine za <| rI h rfl (fun hc h => zu <| p 1 [0] rfl <| zf <| zT <| by cases h; exact r_ret1 rfl (.tmp rfl) (fun _ _ g => g) (fun _ _ _ => List.nil_sublist _)) fun hc h => zy <| p 1 [1,26] rfl ?_
 obtain ⟨he4, h⟩ := ite_ex h
 refine r_imp_at (R' := Res.disk Tryz.prog dI (tupv v2 0) r1.2) 0 rfl (diskif_disk he4) <| cB h fun r5 hr5 h => rcT hT [0] (wal_Open_ok _ _ _ _ _ _ hr5) (by kernel_rfl) rfl rfl rfl fun v6 => q 7 [(2, ti r5.2.2.1), (3, tp (tupv v6 0)), (4, .one (.raw (.slice none 0 0)) (tupv v6 1))] [1] rfl <| za <| zs <| zu <| p 1 [1,2,3,4,31] rfl <| y (y_cnil 1 rfl rfl Tryz.underlying33) rfl ?_
 refine q 1 [(33, tb (r5.1.1 != 0))] [1,2,3,4] rfl ?_
 obtain ⟨b7, e, h⟩ := bnd_ex h; rw [e]
 refine r_lsplit (γ := Unit) 3 (fun _ => [(1, tp (tupv v2 0)), (3, tp (tupv v6 0)), (4, .one (.raw (.slice none 0 0)) (tupv v6 1)), (36, tb (b7 || (r5.2.2.1 != 0)))]) (fun _ => [Res.disk Tryz.prog dI (tupv v2 0) r5.2.2.2, Res.clsif (CLog (tupv v2 0)) (tupv v6 0) r5.1.2 r5.1.1, Res.own (tupv v6 1) 9 .str r5.2.1]) ?_ (fun _ => ?_)
 ·clear h
  cases b7
  ·exact q 3 [(36, tb (r5.2.2.1 != 0))] [1,3,4] rfl <| r_less [1,3,4,36] rfl <| za <| by exact r_meetg () rfl rfl
  exact p 3 [1,3,4,36] rfl <| za <| by exact r_meetg () rfl rfl
 refine q 1 [(37, tb (b7 || (r5.2.2.1 != 0)))] [1,3,4] rfl ?_
 obtain ⟨b8, e, h⟩ := bnd_ex h; rw [e]
 refine r_lsplit (γ := Unit) 4 (fun _ => [(1, tp (tupv v2 0)), (3, tp (tupv v6 0)), (41, tb (b8 || ((List.length r5.2.1 : Int) != 0)))]) (fun _ => [Res.disk Tryz.prog dI (tupv v2 0) r5.2.2.2, Res.clsif (CLog (tupv v2 0)) (tupv v6 0) r5.1.2 r5.1.1, Res.own (tupv v6 1) 9 .str r5.2.1]) ?_ (fun _ => ?_)
 ·clear h
  cases b8
  ·refine p 1 [1,3,37,38] rfl <| r_guard (by rfl) rfl ?_
   refine y (y_lenown tabOk 2 rfl rfl rfl) rfl ?_
   exact q 2 [(41, tb ((List.length r5.2.1 : Int) != 0))] [1,3] rfl <| r_less [1,3,41] rfl <| za <| by exact r_meetg () rfl rfl
  exact p 4 [1,3,41] rfl <| za <| by exact r_meetg () rfl rfl
 refine za <| rI h rfl (fun hc h => zu <| p 1 [0] rfl <| zf <| zT <| by cases h; exact r_ret1 rfl (.tmp rfl) (fun _ _ g => g) (fun _ _ _ => List.nil_sublist _)) fun hc h => zy <| p 1 [1,3,42] rfl ?_
 obtain ⟨he9, h⟩ := ite_ex h
 refine r_imp_at (R' := Res.cls (CLog (tupv v2 0)) (tupv v6 0) r5.1.2) 1 rfl (clsif_cls he9) <| cB h fun r10 hr10 h => rcT hT [1,0] (wal_Log_Append_ok _ _ _ _ _ _ hr10) (by kernel_rfl) rfl rfl rfl fun _ => q 1 [(5, ti r10.1)] [1,3] rfl <| zz <| p 1 [1,3,5,44] rfl <| cB h fun r11 hr11 h => rc [1] (disk_Disk_Fall_ok _ _ _ _ hr11) (by kernel_rfl) rfl rfl rfl fun _ => zz <| p 1 [1,5,46] rfl <| cB h fun r12 hr12 h => rcT hT [1,0] (wal_Log_Append_ok _ _ _ _ _ _ hr12) (by kernel_rfl) rfl rfl rfl fun _ => q 1 [(6, ti r12.1)] [1,5] rfl <| zz ?_
 refine p 1 [1,5,6,48] rfl <| cB h fun r13 hr13 h => r_calla (Lo := [Res.cls (CLog (tupv v2 0)) (tupv v6 0) r12.2.1, Res.own (tupv v6 1) 9 .str r5.2.1]) (disk_Disk_Crash_ok (tupv v2 0) r12.2.2 [] _ hr13) (by kernel_rfl) (takeR_perm (is := [1]) rfl) (.val rfl (.nilsl .nil)) rfl fun _ => ?_
 refine zz <| p 1 [1,5,6,50] rfl <| cB h fun r14 hr14 h => rc [0] (disk_Disk_On_ok _ _ _ hr14) (by kernel_rfl) rfl rfl rfl fun _ => zz <| p 1 [1,5,6,53] rfl <| cB h fun r15 hr15 h => rcT hT [0] (wal_Open_ok _ _ _ _ _ _ hr15) (by kernel_rfl) rfl rfl rfl fun v16 => q 7 [(7, tp (tupv v16 0)), (8, .one (.raw (.slice none 0 0)) (tupv v16 1)), (9, ti r15.2.2.1)] [1,5,6] rfl <| za <| zs <| zu <| p 1 [1,5,6,7,8,9,58] rfl <| y (y_cnil 1 rfl rfl Tryz.underlying33) rfl ?_
 refine q 1 [(60, tb (r15.1.1 != 0))] [1,5,6,7,8,9] rfl ?_
 obtain ⟨b17, e, h⟩ := bnd_ex h; rw [e]
 refine r_lsplit (γ := Unit) 3 (fun _ => [(1, tp (tupv v2 0)), (6, ti r12.1), (7, tp (tupv v16 0)), (8, .one (.raw (.slice none 0 0)) (tupv v16 1)), (9, ti r15.2.2.1), (63, tb (b17 || (r10.1 != 0)))]) (fun _ => [Res.disk Tryz.prog dI (tupv v2 0) r15.2.2.2, Res.clsif (CLog (tupv v2 0)) (tupv v16 0) r15.1.2 r15.1.1, Res.own (tupv v16 1) 9 .str r15.2.1, Res.cls (CLog (tupv v2 0)) (tupv v6 0) r12.2.1, Res.own (tupv v6 1) 9 .str r5.2.1]) ?_ (fun _ => ?_)
 ·clear h
  cases b17
  ·exact q 3 [(63, tb (r10.1 != 0))] [1,6,7,8,9] rfl <| r_less [1,6,7,8,9,63] rfl <| za <| by exact r_meetg () rfl rfl
  exact p 3 [1,6,7,8,9,63] rfl <| za <| by exact r_meetg () rfl rfl
 refine q 1 [(64, tb (b17 || (r10.1 != 0)))] [1,6,7,8,9] rfl ?_
 obtain ⟨b18, e, h⟩ := bnd_ex h; rw [e]
 refine r_lsplit (γ := Unit) 3 (fun _ => [(1, tp (tupv v2 0)), (7, tp (tupv v16 0)), (8, .one (.raw (.slice none 0 0)) (tupv v16 1)), (9, ti r15.2.2.1), (67, tb (b18 || (r12.1 != 9)))]) (fun _ => [Res.disk Tryz.prog dI (tupv v2 0) r15.2.2.2, Res.clsif (CLog (tupv v2 0)) (tupv v16 0) r15.1.2 r15.1.1, Res.own (tupv v16 1) 9 .str r15.2.1, Res.cls (CLog (tupv v2 0)) (tupv v6 0) r12.2.1, Res.own (tupv v6 1) 9 .str r5.2.1]) ?_ (fun _ => ?_)
 ·clear h
  cases b18
  ·exact q 3 [(67, tb (r12.1 != 9))] [1,7,8,9] rfl <| r_less [1,7,8,9,67] rfl <| za <| by exact r_meetg () rfl rfl
  exact p 3 [1,7,8,9,67] rfl <| za <| by exact r_meetg () rfl rfl
 refine q 1 [(68, tb (b18 || (r12.1 != 9)))] [1,7,8,9] rfl ?_
 obtain ⟨b19, e, h⟩ := bnd_ex h; rw [e]
 refine r_lsplit (γ := Unit) 3 (fun _ => [(1, tp (tupv v2 0)), (7, tp (tupv v16 0)), (8, .one (.raw (.slice none 0 0)) (tupv v16 1)), (71, tb (b19 || (r15.2.2.1 != 0)))]) (fun _ => [Res.disk Tryz.prog dI (tupv v2 0) r15.2.2.2, Res.clsif (CLog (tupv v2 0)) (tupv v16 0) r15.1.2 r15.1.1, Res.own (tupv v16 1) 9 .str r15.2.1, Res.cls (CLog (tupv v2 0)) (tupv v6 0) r12.2.1, Res.own (tupv v6 1) 9 .str r5.2.1]) ?_ (fun _ => ?_)
 ·clear h
  cases b19
  ·exact q 3 [(71, tb (r15.2.2.1 != 0))] [1,7,8] rfl <| r_less [1,7,8,71] rfl <| za <| by exact r_meetg () rfl rfl
  exact p 3 [1,7,8,71] rfl <| za <| by exact r_meetg () rfl rfl
 refine q 1 [(72, tb (b19 || (r15.2.2.1 != 0)))] [1,7,8] rfl ?_
 obtain ⟨b20, e, h⟩ := bnd_ex h; rw [e]
 refine bX h fun k21 hk21 h => ?_
 refine r_lsplitk (γ := Unit) 5 (fun (o22 : Bool) _ => [(1, tp (tupv v2 0)), (7, tp (tupv v16 0)), (77, tb o22)]) (fun _ _ => [Res.disk Tryz.prog dI (tupv v2 0) r15.2.2.2, Res.clsif (CLog (tupv v2 0)) (tupv v16 0) r15.1.2 r15.1.1, Res.cls (CLog (tupv v2 0)) (tupv v6 0) r12.2.1, Res.own (tupv v6 1) 9 .str r5.2.1]) k21 r ?_ ?_
 ·rcases Bool.eq_false_or_eq_true b20 with hh | hh
  ·rw [hh] at h ⊢
   rw [if_pos rfl] at h
   exact p 5 [1,7,77] rfl <| zn <| r_less [1,7,77] rfl <| pk [0,0,1,1] rfl <| zt <| by exact r_meetk true () h rfl rfl
  rw [hh] at h ⊢
  rw [if_neg (by decide)] at h
  refine p 1 [1,7,72,73] rfl <| r_guard (by rfl) rfl ?_
  refine r_lits (B := 16) tabOk rfl el9 rfl rfl rfl (.cons rfl .nil) rfl fun v23 => ?_
  refine r_guard (by rfl) rfl ?_
  refine r_freeze (i := 3) (k := 73) rfl rfl ?_
  refine r_freeze (i := 0) (k := 74) rfl rfl ?_
  exact cB h fun r24 hr24 h => r_calls (escrowlaw06_sameTexts_ok _ _ _ hr24) (by kernel_rfl) rfl rfl <| p 2 [1,7,77] rfl <| zn <| r_less [1,7,77] rfl <| zt <| by exact r_meetk (!r24) () h rfl rfl
 intro o22 _ h
 rw [← hk21] at h
 try dsimp only at h
 refine p 1 [1,7,78] rfl <| bX h fun k26 hk26 h => ?_
 refine r_lsplitk (γ := Unit) 4 (fun (o27 : Bool) _ => [(1, tp (tupv v2 0)), (7, tp (tupv v16 0)), (82, tb o27)]) (fun _ _ => [Res.disk Tryz.prog dI (tupv v2 0) r15.2.2.2, Res.clsif (CLog (tupv v2 0)) (tupv v16 0) r15.1.2 r15.1.1, Res.cls (CLog (tupv v2 0)) (tupv v6 0) r12.2.1, Res.own (tupv v6 1) 9 .str r5.2.1]) k26 r ?_ ?_
 ·rcases Bool.eq_false_or_eq_true o22 with hh | hh
  ·rw [hh] at h ⊢
   rw [if_pos rfl] at h
   exact p 4 [1,7,82] rfl <| zn <| r_less [1,7,82] rfl <| zt <| by exact r_meetk true () h rfl rfl
  rw [hh] at h ⊢
  rw [if_neg (by decide)] at h
  refine p 1 [1,7,78,79] rfl <| r_guard (by rfl) rfl ?_
  obtain ⟨he28, h⟩ := ite_ex h
  exact r_imp_at (R' := Res.cls (CLog (tupv v2 0)) (tupv v16 0) r15.1.2) 1 rfl (clsif_cls he28) <| cB h fun r29 hr29 h => rc [1,0] (wal_Log_Next_ok _ _ _ _ _ hr29) (by kernel_rfl) rfl rfl rfl fun _ => p 2 [1,7,82] rfl <| zn <| r_less [1,7,82] rfl <| r_imp_at (R' := Res.clsif (CLog (tupv v2 0)) (tupv v16 0) r15.1.2 r15.1.1) 0 rfl (clsif_of he28) <| pk [1,0,0,0] rfl <| zt <| by exact r_meetk (r29 != 1) () h rfl rfl
 intro o27 _ h
 rw [← hk26] at h
 try dsimp only at h
 refine za <| rI h rfl (fun hc h => zu <| p 1 [0] rfl <| zf <| zT <| by cases h; exact r_ret1 rfl (.tmp rfl) (fun _ _ g => g) (fun _ _ _ => List.nil_sublist _)) fun hc h => zy <| p 1 [1,7,83] rfl ?_
 obtain ⟨he30, h⟩ := ite_ex h
 refine r_imp_at (R' := Res.cls (CLog (tupv v2 0)) (tupv v16 0) r15.1.2) 1 rfl (clsif_cls he30) <| cB h fun r31 hr31 h => rcT hT [1,0] (wal_Log_Append_ok _ _ _ _ _ _ hr31) (by kernel_rfl) rfl rfl rfl fun _ => q 1 [(10, ti r31.1)] [1,7] rfl <| zz <| p 1 [1,10,85] rfl <| cB h fun r32 hr32 h => rcT hT [0,0] (wal_Log_Names_ok _ _ _ _ _ hr32) (by kernel_rfl) rfl rfl rfl fun v33 => p 1 [1,10,11] rfl <| zz <| p 1 [10,11,88] rfl <| cB h fun r34 hr34 h => rcT hT [1] (wal_Open_ok _ _ _ _ _ _ hr34) (by kernel_rfl) rfl rfl rfl fun v35 => q 7 [(13, .one (.raw (.slice none 0 0)) (tupv v35 1)), (14, ti r34.2.2.1)] [10,11] rfl ?_
 refine zz <| q 3 [(95, tb (r31.1 == 0))] [11,13,14] rfl ?_
 obtain ⟨b36, e, h⟩ := bnd_ex h; rw [e]
 refine r_lsplit (γ := Unit) 3 (fun _ => [(11, .one (.raw (.slice none 0 0)) v33), (13, .one (.raw (.slice none 0 0)) (tupv v35 1)), (98, tb (b36 && (r34.2.2.1 == 0)))]) (fun _ => [Res.disk Tryz.prog dI (tupv v2 0) r34.2.2.2, Res.clsif (CLog (tupv v2 0)) (tupv v35 0) r34.1.2 r34.1.1, Res.own (tupv v35 1) 9 .str r34.2.1, Res.cls (CLog (tupv v2 0)) (tupv v16 0) r31.2.1, Res.own v33 9 .str r32, Res.cls (CLog (tupv v2 0)) (tupv v6 0) r12.2.1, Res.own (tupv v6 1) 9 .str r5.2.1]) ?_ (fun _ => ?_)
 ·clear h
  cases b36
  ·exact p 3 [11,13,98] rfl <| za <| by exact r_meetg () rfl rfl
  exact q 3 [(98, tb (r34.2.2.1 == 0))] [11,13] rfl <| r_less [11,13,98] rfl <| za <| by exact r_meetg () rfl rfl
 refine q 1 [(99, tb (b36 && (r34.2.2.1 == 0)))] [11,13] rfl ?_
 obtain ⟨b37, e, h⟩ := bnd_ex h; rw [e]
 refine bX h fun k38 hk38 h => ?_
 refine r_lsplitk (γ := Unit) 4 (fun (o39 : Bool) _ => [(11, .one (.raw (.slice none 0 0)) v33), (103, tb o39)]) (fun _ _ => [Res.disk Tryz.prog dI (tupv v2 0) r34.2.2.2, Res.clsif (CLog (tupv v2 0)) (tupv v35 0) r34.1.2 r34.1.1, Res.cls (CLog (tupv v2 0)) (tupv v16 0) r31.2.1, Res.own v33 9 .str r32, Res.cls (CLog (tupv v2 0)) (tupv v6 0) r12.2.1, Res.own (tupv v6 1) 9 .str r5.2.1]) k38 r ?_ ?_
 ·rcases Bool.eq_false_or_eq_true b37 with hh | hh
  ·rw [hh] at h ⊢
   rw [if_pos rfl] at h
   refine p 1 [11,99,100] rfl <| r_guard (by rfl) rfl ?_
   refine r_lits (B := 16) tabOk rfl el9 rfl rfl rfl (.cons rfl .nil) rfl fun v40 => ?_
   refine r_guard (by rfl) rfl ?_
   refine r_freeze (i := 3) (k := 100) rfl rfl ?_
   refine r_freeze (i := 0) (k := 101) rfl rfl ?_
   exact cB h fun r41 hr41 h => r_calls (escrowlaw06_sameTexts_ok _ _ _ hr41) (by kernel_rfl) rfl rfl <| p 1 [11,103] rfl <| zn <| r_less [11,103] rfl <| zt <| by exact r_meetk r41 () h rfl rfl
  rw [hh] at h ⊢
  rw [if_neg (by decide)] at h
  exact p 4 [11,103] rfl <| zn <| r_less [11,103] rfl <| pk [0,0,1,1,1,1] rfl <| zt <| by exact r_meetk false () h rfl rfl
 intro o39 _ h
 rw [← hk38] at h
 try dsimp only at h
 refine p 1 [11,104] rfl <| bX h fun k43 hk43 h => ?_
 refine r_lsplitk (γ := Unit) 4 (fun (o44 : Bool) _ => [(108, tb o44)]) (fun _ _ => [Res.disk Tryz.prog dI (tupv v2 0) r34.2.2.2, Res.clsif (CLog (tupv v2 0)) (tupv v35 0) r34.1.2 r34.1.1, Res.cls (CLog (tupv v2 0)) (tupv v16 0) r31.2.1, Res.cls (CLog (tupv v2 0)) (tupv v6 0) r12.2.1, Res.own (tupv v6 1) 9 .str r5.2.1]) k43 r ?_ ?_
 ·rcases Bool.eq_false_or_eq_true o39 with hh | hh
  ·rw [hh] at h ⊢
   rw [if_pos rfl] at h
   refine p 1 [104,105] rfl <| r_guard (by rfl) rfl ?_
   refine r_lits (B := 16) tabOk rfl el9 rfl rfl rfl (.cons rfl (.cons rfl .nil)) rfl fun v45 => ?_
   refine r_guard (by rfl) rfl ?_
   refine r_freeze (i := 4) (k := 105) rfl rfl ?_
   refine r_freeze (i := 0) (k := 106) rfl rfl ?_
   exact cB h fun r46 hr46 h => r_calls (escrowlaw06_sameTexts_ok _ _ _ hr46) (by kernel_rfl) rfl rfl <| p 1 [108] rfl <| zn <| r_less [108] rfl <| zt <| by exact r_meetk r46 () h rfl rfl
  rw [hh] at h ⊢
  rw [if_neg (by decide)] at h
  exact p 4 [108] rfl <| zn <| r_less [108] rfl <| pk [0,0,0,1,1] rfl <| zt <| by exact r_meetk false () h rfl rfl
 intro o44 _ h
 rw [← hk43] at h
 try dsimp only at h
 refine p 1 [0] rfl <| zf ?_
 cases h
 exact r_ret1 rfl (.tmp rfl) (fun _ _ g => g) (fun _ _ _ => List.nil_sublist _)

theorem escrowlaw06_bytes_ok (p0 : Value) (a0 : DiskS) (a1 : List (List Int)) (r : Bool) (h : escrowlaw06_bytes a0 a1 = some r) : Fn Tryz.prog 15 [tp p0, .one (.sl 9 .str) a1] [Res.disk Tryz.prog dI p0 a0] (fun _ => tb r) (fun _ => [Res.disk Tryz.prog dI p0 a0]) := by
 unfold escrowlaw06_bytes at h
 refine enter Tryz.func15 rfl 25 rfl rfl fun F => ?_
 refine zu <| p 1 [0,1] rfl <| za <| jK h (γ := Unit) (fun (o2 : Unit) _ => []) (fun (o2 : Unit) _ => [Res.disk Tryz.prog dI p0 a0]) (fun k1 h => ?_) fun o2 gg h => ?_
 ·refine zu <| p 1 [0,1,5] rfl <| za <| zb <| r_less [0,1,5] rfl <| r_loopg (γ := Unit) (fun (s4 : Int) _ => [(0, tp p0), (1, .one (.sl 9 .str) a1), (5, ti s4)]) (fun (s4 : Int) _ => [Res.disk Tryz.prog dI p0 a0]) (escrowlaw06_bytes_l0 a0 a1 k1) 0 () h rfl rfl ?_
  clear h
  intro m5 s4 gg h
  cases m5 with
  | zero => cases h
  | succ m5 =>
  simp only [escrowlaw06_bytes_l0] at h
  refine zs <| zu <| q 4 [(5, ti s4), (11, tb (decide (s4 < (List.length a1 : Int))))] [0,1] rfl <| za <| rI h rfl (fun hc h => ?_) fun hc h => ?_
  ·refine zk <| zt <| zs <| zb <| zu <| p 3 [0,1,5,15,16,17] rfl <| iE h fun hc h => y (y_iref tabOk rfl rfl hc.1 hc.2 rfl ty9) rfl ?_
   refine y (y_ref rfl ty9) rfl ?_
   refine cB h fun r6 hr6 h => rc [0] (disk_Disk_Size_ok _ _ _ _ hr6) (by kernel_rfl) rfl rfl rfl fun _ => q 5 [(6, ti r6.1)] [0,1,5] rfl <| zz <| q 2 [(24, tb (decide (r6.1 > 0)))] [0,1,5] rfl <| za <| rI h rfl (fun hc h => zu <| p 1 [4] rfl <| zf <| zB <| zT <| zT <| zB <| zT <| by cases h; exact r_ret1 rfl (.tmp rfl) (fun _ _ g => g) (fun _ _ _ => (.cons_cons _ .slnil))) fun hc h => zk <| zi <| zt <| zr <| p 3 [0,1,5] rfl ?_
   obtain ⟨i7, e, h⟩ := bnd_ex h; rw [e]
   exact za <| r_less [0,1,5] rfl <| by exact r_backg i7 () (Nat.lt_succ_self _) h rfl rfl
  exact zx <| ze <| ze <| zq <| zt <| r_less [] rfl <| by exact r_meetk () () h rfl rfl
 refine zu <| p 1 [4] rfl <| zf ?_
 cases h
 exact r_ret1 rfl (.tmp rfl) (fun _ _ g => g) (fun _ _ _ => (.cons_cons _ .slnil))

theorem escrowlaw06_WalAgain_ok (a0 : List (Int × List Int × List Int × Int × Int × Int × (List (List Int × Int × Int × List Int × Unit)) × Unit)) (a1 : List Int) (a2 : Int) (a3 : Int) (a4 : Int) (r : Bool) (h : escrowlaw06_WalAgain a0 a1 a2 a3 a4 = some r) : FnT Tryz.prog tabs 3 [.one (.sl 31 Y31) a0, ts a1, ti a2, ti a3, ti a4] [] (fun _ => tb r) (fun _ => []) := by
 unfold escrowlaw06_WalAgain at h
 refine enterT Tryz.func3 rfl 241 rfl rfl fun F hT => ?_
 refine zu <| p 1 [0,1,2,3,4] rfl <| zz <| cB h fun r1 hr1 h => r_call (Lo := []) (disk_New_ok 1000000 _ hr1) (by kernel_rfl) (List.Perm.refl _) rfl rfl fun v2 => ?_
 refine q 5 [(11, tp (tupv v2 0)), (12, ti r1.1)] [0,1,2,3,4] rfl <| za <| zs <| zu <| p 1 [0,1,2,3,4,11,12,33] rfl <| y (y_dnil 0 rfl rfl Tryz.underlying23) rfl ?_
 refine q 1 [(35, tb (r1.1 != 0))] [0,1,2,3,4,11,12] rfl ?_
 obtain ⟨b3, e, h⟩ := bnd_ex h; rw [e]
 refine r_lsplit (γ := Unit) 3 (fun _ => [(0, .one (.sl 31 Y31) a0), (1, ts a1), (2, ti a2), (3, ti a3), (4, ti a4), (11, tp (tupv v2 0)), (38, tb (b3 || (r1.1 != 0)))]) (fun _ => [Res.diskif Tryz.prog dI (tupv v2 0) r1.2 r1.1]) ?_ (fun _ => ?_)
 ·clear h
  cases b3
  ·exact q 3 [(38, tb (r1.1 != 0))] [0,1,2,3,4,11] rfl <| r_less [0,1,2,3,4,11,38] rfl <| za <| by exact r_meetg () rfl rfl
  exact p 3 [0,1,2,3,4,11,38] rfl <| za <| by exact r_meetg () rfl rfl
 refine q 1 [(39, tb (b3 || (r1.1 != 0)))] [0,1,2,3,4,11] rfl ?_
 obtain ⟨b4, e, h⟩ := bnd_ex h; rw [e]
 refine bX h fun k5 hk5 h => ?_
 refine r_lsplitk (γ := Unit) 3 (fun (o6 : Bool) _ => [(0, .one (.sl 31 Y31) a0), (1, ts a1), (2, ti a2), (3, ti a3), (4, ti a4), (11, tp (tupv v2 0)), (42, tb o6)]) (fun _ _ => [Res.diskif Tryz.prog dI (tupv v2 0) r1.2 r1.1]) k5 r ?_ ?_
 ·rcases Bool.eq_false_or_eq_true b4 with hh | hh
  ·rw [hh] at h ⊢
   rw [if_pos rfl] at h
   exact p 3 [0,1,2,3,4,11,42] rfl <| zn <| r_less [0,1,2,3,4,11,42] rfl <| zt <| by exact r_meetk true () h rfl rfl
  rw [hh] at h ⊢
  rw [if_neg (by decide)] at h
  refine r_guard (by rfl) rfl ?_
  exact cB h fun r7 hr7 h => rcT hT [] (escrowlaw06_first_ok _ hr7) (by kernel_rfl) rfl rfl rfl fun _ => p 2 [0,1,2,3,4,11,42] rfl <| zn <| r_less [0,1,2,3,4,11,42] rfl <| zt <| by exact r_meetk (!r7) () h rfl rfl
 intro o6 _ h
 rw [← hk5] at h
 try dsimp only at h
 refine za <| rI h rfl (fun hc h => zu <| p 1 [10] rfl <| zf <| zT <| by cases h; exact r_ret1 rfl (.tmp rfl) (fun _ _ g => g) (fun _ _ _ => List.nil_sublist _)) fun hc h => zk <| zt <| jK h (γ := Unit) (fun (o9 : DiskS) _ => [(1, ts a1), (2, ti a2), (3, ti a3), (4, ti a4), (11, tp (tupv v2 0))]) (fun (o9 : DiskS) _ => [Res.diskif Tryz.prog dI (tupv v2 0) o9 r1.1]) (fun k8 h => ?_) fun o9 gg h => ?_
 ·refine zu <| p 1 [0,1,2,3,4,11,13] rfl <| za <| zb <| r_less [0,1,2,3,4,11,13] rfl <| r_loopg (γ := Unit) (fun (s104 : Int × DiskS) _ => [(0, .one (.sl 31 Y31) a0), (1, ts a1), (2, ti a2), (3, ti a3), (4, ti a4), (11, tp (tupv v2 0)), (13, ti s104.1)]) (fun (s104 : Int × DiskS) _ => [Res.diskif Tryz.prog dI (tupv v2 0) s104.2 r1.1]) (escrowlaw06_WalAgain_l2 a0 r1 k8) (0, r1.2) () h rfl rfl ?_
  clear h
  intro m105 s104 gg h
  cases m105 with
  | zero => cases h
  | succ m105 =>
  simp only [escrowlaw06_WalAgain_l2] at h
  refine zs <| zu <| q 4 [(13, ti s104.1), (46, tb (decide (s104.1 < (List.length a0 : Int))))] [0,1,2,3,4,11] rfl <| za <| rI h rfl (fun hc h => ?_) fun hc h => ?_
  ·refine zk <| zt <| jK h (γ := Unit) (fun (o107 : DiskS) _ => [(0, .one (.sl 31 Y31) a0), (1, ts a1), (2, ti a2), (3, ti a3), (4, ti a4), (11, tp (tupv v2 0)), (13, ti s104.1)]) (fun (o107 : DiskS) _ => [Res.diskif Tryz.prog dI (tupv v2 0) o107 r1.1]) (fun k106 h => ?_) fun o107 gg h => ?_
   ·refine zb <| zs ?_
    obtain ⟨hi109, h⟩ := ite_ex h
    refine r_pin (k := 0) rfl (by omega) fun b110 of111 c112 => ?_
    refine h_start (S := AllIs [PinIs b110 of111 Y31 a0]) (by kernel_rfl) ?_
    refine h_take (i := 0) (t := tp (tupv v2 0)) (blind_then (blind_block (blind_then (blind_then (blind_block (blind_then blind_body)))))) rfl (by kernel_rfl) (by kernel_rfl) (by kernel_rfl) (allis_cons (pin_is 0 rfl) allis_nil) (y_pure tabOk rfl) rfl ?_
    refine h_take (i := 1) (t := .one (.raw (.slice none 0 0)) (.slice (some ⟨b110, of111, none⟩) (List.length a0) c112)) (blind_then (blind_block (blind_then (blind_then (blind_block (blind_then blind_body)))))) rfl (by kernel_rfl) (by kernel_rfl) (by kernel_rfl) (allis_cons (pin_is 0 rfl) allis_nil) (y_pure tabOk rfl) rfl ?_
    refine h_take (i := 2) (t := ti s104.1) (blind_then (blind_block (blind_then (blind_then (blind_block (blind_then blind_body)))))) rfl (by kernel_rfl) (by kernel_rfl) (by kernel_rfl) (allis_cons (pin_is 0 rfl) allis_nil) (y_pure tabOk rfl) rfl ?_
    refine h_take (i := 3) (t := ptr b110 (of111 + (Int.toNat s104.1) * 7)) (blind_then (blind_block (blind_then (blind_then (blind_block (blind_then blind_body)))))) rfl (by kernel_rfl) (by kernel_rfl) (by kernel_rfl) (allis_cons (pin_is 0 rfl) allis_nil) (y_iraw tabOk rfl rfl hi109.1 hi109.2 rfl ty31) rfl ?_
    refine h_take (i := 4) (t := ptr b110 ((of111 + (Int.toNat s104.1) * 7) + 2)) (blind_then (blind_block (blind_then (blind_then (blind_block (blind_then blind_body)))))) rfl (by kernel_rfl) (by kernel_rfl) (by kernel_rfl) (allis_cons (pin_is 0 rfl) allis_nil) (y_pure tabOk rfl) rfl ?_
    refine h_take (i := 5) (t := ts ((List.getD a0 (Int.toNat s104.1) (0, [], [], 0, 0, 0, [], ())).2.2.1)) (blind_then (blind_block (blind_then (blind_then (blind_block (blind_then blind_body)))))) rfl (by kernel_rfl) (by kernel_rfl) (by kernel_rfl) (allis_cons (pin_is 0 rfl) allis_nil) (y_heldpin (S := fun w => AllIs [PinIs b110 of111 Y31 a0] w) (allis_at 0 rfl) 0 (Int.toNat s104.1) ((.snd (.snd (.fst .here)))) rfl rfl rfl (by omega) (by first | rfl | (simp only [Pth.off, T.size]; omega)) (ok_snd (ok_snd (ok_fst ok_here))) ty9) rfl ?_
    refine h_take (i := 6) (t := .one (.raw (.slice none 0 0)) (.slice (some ⟨b110, of111, none⟩) (List.length a0) c112)) (blind_then (blind_block (blind_then (blind_then (blind_block (blind_then blind_body)))))) rfl (by kernel_rfl) (by kernel_rfl) (by kernel_rfl) (allis_cons (pin_is 0 rfl) allis_nil) (y_pure tabOk rfl) rfl ?_
    refine h_take (i := 7) (t := ti s104.1) (blind_then (blind_block (blind_then (blind_then (blind_block (blind_then blind_body)))))) rfl (by kernel_rfl) (by kernel_rfl) (by kernel_rfl) (allis_cons (pin_is 0 rfl) allis_nil) (y_pure tabOk rfl) rfl ?_
    refine h_take (i := 8) (t := ptr b110 (of111 + (Int.toNat s104.1) * 7)) (blind_then (blind_block (blind_then (blind_then (blind_block (blind_then blind_body)))))) rfl (by kernel_rfl) (by kernel_rfl) (by kernel_rfl) (allis_cons (pin_is 0 rfl) allis_nil) (y_iraw tabOk rfl rfl hi109.1 hi109.2 rfl ty31) rfl ?_
    refine h_take (i := 9) (t := ptr b110 ((of111 + (Int.toNat s104.1) * 7) + 3)) (blind_then (blind_block (blind_then (blind_then (blind_block (blind_then blind_body)))))) rfl (by kernel_rfl) (by kernel_rfl) (by kernel_rfl) (allis_cons (pin_is 0 rfl) allis_nil) (y_pure tabOk rfl) rfl ?_
    refine h_take (i := 10) (t := ti ((List.getD a0 (Int.toNat s104.1) (0, [], [], 0, 0, 0, [], ())).2.2.2.1)) (blind_then (blind_block (blind_then (blind_then (blind_block (blind_then blind_body)))))) rfl (by kernel_rfl) (by kernel_rfl) (by kernel_rfl) (allis_cons (pin_is 0 rfl) allis_nil) (y_heldpin (S := fun w => AllIs [PinIs b110 of111 Y31 a0] w) (allis_at 0 rfl) 0 (Int.toNat s104.1) ((.snd (.snd (.snd (.fst .here))))) rfl rfl rfl (by omega) (by first | rfl | (simp only [Pth.off, T.size]; omega)) (ok_snd (ok_snd (ok_snd (ok_fst ok_here)))) ty3) rfl ?_
    refine h_take (i := 11) (t := .one (.raw (.slice none 0 0)) (.slice (some ⟨b110, of111, none⟩) (List.length a0) c112)) (blind_then (blind_block (blind_then (blind_then (blind_block (blind_then blind_body)))))) rfl (by kernel_rfl) (by kernel_rfl) (by kernel_rfl) (allis_cons (pin_is 0 rfl) allis_nil) (y_pure tabOk rfl) rfl ?_
    refine h_take (i := 12) (t := ti s104.1) (blind_then (blind_block (blind_then (blind_then (blind_block (blind_then blind_body)))))) rfl (by kernel_rfl) (by kernel_rfl) (by kernel_rfl) (allis_cons (pin_is 0 rfl) allis_nil) (y_pure tabOk rfl) rfl ?_
    refine h_take (i := 13) (t := ptr b110 (of111 + (Int.toNat s104.1) * 7)) (blind_then (blind_block (blind_then (blind_then (blind_block (blind_then blind_body)))))) rfl (by kernel_rfl) (by kernel_rfl) (by kernel_rfl) (allis_cons (pin_is 0 rfl) allis_nil) (y_iraw tabOk rfl rfl hi109.1 hi109.2 rfl ty31) rfl ?_
    refine h_take (i := 14) (t := ptr b110 ((of111 + (Int.toNat s104.1) * 7) + 1)) (blind_then (blind_block (blind_then (blind_then (blind_block (blind_then blind_body)))))) rfl (by kernel_rfl) (by kernel_rfl) (by kernel_rfl) (allis_cons (pin_is 0 rfl) allis_nil) (y_pure tabOk rfl) rfl ?_
    refine h_take (i := 15) (t := ts ((List.getD a0 (Int.toNat s104.1) (0, [], [], 0, 0, 0, [], ())).2.1)) (blind_then (blind_block (blind_then (blind_then (blind_block (blind_then blind_body)))))) rfl (by kernel_rfl) (by kernel_rfl) (by kernel_rfl) (allis_cons (pin_is 0 rfl) allis_nil) (y_heldpin (S := fun w => AllIs [PinIs b110 of111 Y31 a0] w) (allis_at 0 rfl) 0 (Int.toNat s104.1) ((.snd (.fst .here))) rfl rfl rfl (by omega) (by first | rfl | (simp only [Pth.off, T.size]; omega)) (ok_snd (ok_fst ok_here)) ty9) rfl ?_
    refine h_one (i := 16) (by kernel_rfl) rfl ?_
    obtain ⟨he113, h⟩ := ite_ex h
    refine r_imp_at (R' := Res.disk Tryz.prog dI (tupv v2 0) s104.2) 1 rfl (diskif_disk he113) <| cB h fun r114 hr114 h => rc [1] (disk_Disk_Write_ok _ _ _ _ _ _ hr114) (by kernel_rfl) rfl rfl rfl fun _ => za <| h_in (allis_cons (pin_is 1 rfl) allis_nil) ?_
    refine r_less [0,1,2,3,4,11,13] rfl <| h_end (by kernel_rfl) ?_
    refine r_unpin 31 0 1 rfl rfl ?_
    refine pk [0] rfl <| zt <| zu <| q 2 [(66, .one (.sl 31 Y31) a0), (67, ti s104.1)] [0,1,2,3,4,11,13] rfl <| iE h fun hc h => y (y_iref tabOk rfl rfl hc.1 hc.2 rfl ty31) rfl ?_
    refine y (y_fref tabOk ((.fst .here)) rfl rfl rfl rfl (ok_fst ok_here)) rfl ?_
    refine y (y_ref rfl ty3) rfl ?_
    refine q 2 [(72, tb ((iand .i64 ((List.getD a0 (Int.toNat s104.1) (0, [], [], 0, 0, 0, [], ())).1) 1) == 1))] [0,1,2,3,4,11,13] rfl <| za <| rI h rfl (fun hc h => ?_) fun hc h => ?_
    ·refine zr <| q 3 [(73, tp (tupv v2 0)), (74, .one (.sl 31 Y31) a0), (75, ti s104.1)] [0,1,2,3,4,11,13] rfl <| iE h fun hc h => y (y_iref tabOk rfl rfl hc.1 hc.2 rfl ty31) rfl ?_
     refine y (y_fref tabOk ((.snd (.snd (.fst .here)))) rfl rfl rfl rfl (ok_snd (ok_snd (ok_fst ok_here)))) rfl ?_
     refine y (y_ref rfl ty9) rfl ?_
     exact cB h fun r115 hr115 h => rc [0] (disk_Disk_Sync_ok _ _ _ _ hr115) (by kernel_rfl) rfl rfl rfl fun _ => zn <| zi <| zt <| r_imp_at (R' := Res.diskif Tryz.prog dI (tupv v2 0) r115.2 r1.1) 0 rfl (diskif_of he113) <| r_less [0,1,2,3,4,11,13] rfl <| by exact r_meetk r115.2 () h rfl rfl
    exact zk <| zi <| zt <| r_imp_at (R' := Res.diskif Tryz.prog dI (tupv v2 0) r114.2 r1.1) 0 rfl (diskif_of he113) <| r_less [0,1,2,3,4,11,13] rfl <| by exact r_meetk r114.2 () h rfl rfl
   refine zr <| q 3 [(0, .one (.sl 31 Y31) a0), (1, ts a1), (2, ti a2), (3, ti a3), (4, ti a4), (11, tp (tupv v2 0)), (13, ti (IntKind.wrap .i64 (s104.1 + 1)))] [] rfl ?_
   obtain ⟨i108, e, h⟩ := bnd_ex h; rw [e]
   exact za <| r_less [0,1,2,3,4,11,13] rfl <| by exact r_backg (i108, o107) () (Nat.lt_succ_self _) h rfl rfl
  exact zx <| ze <| ze <| zq <| zt <| r_less [1,2,3,4,11] rfl <| by exact r_meetk s104.2 () h rfl rfl
 refine zu <| p 4 [1,2,3,4,11,81,82,83,84] rfl ?_
 obtain ⟨he10, h⟩ := ite_ex h
 refine r_imp_at (R' := Res.disk Tryz.prog dI (tupv v2 0) o9) 0 rfl (diskif_disk he10) <| cB h fun r11 hr11 h => rcT hT [0] (wal_Open_ok _ _ _ _ _ _ hr11) (by kernel_rfl) rfl rfl rfl fun v12 => q 7 [(12, ti r11.2.2.1), (14, tp (tupv v12 0)), (15, .one (.raw (.slice none 0 0)) (tupv v12 1))] [1,2,3,4,11] rfl <| za <| zs <| zu <| q 2 [(90, tb (r11.2.2.1 != 0))] [1,2,3,4,11,14,15] rfl <| za <| rI h rfl (fun hc h => ?_) fun hc h => ?_
 ·refine zu <| p 1 [15,91] rfl <| y (y_cnil 1 rfl rfl Tryz.underlying33) rfl ?_
  refine q 1 [(93, tb (r11.1.1 != 0))] [15] rfl ?_
  obtain ⟨b13, e, h⟩ := bnd_ex h; rw [e]
  refine r_lsplit (γ := Unit) 4 (fun _ => [(97, tb (b13 && ((List.length r11.2.1 : Int) == 0)))]) (fun _ => [Res.disk Tryz.prog dI (tupv v2 0) r11.2.2.2, Res.clsif (CLog (tupv v2 0)) (tupv v12 0) r11.1.2 r11.1.1, Res.own (tupv v12 1) 9 .str r11.2.1]) ?_ (fun _ => ?_)
  ·clear h
   cases b13
   ·exact p 4 [97] rfl <| za <| by exact r_meetg () rfl rfl
   refine p 1 [93,94] rfl <| r_guard (by rfl) rfl ?_
   refine y (y_lenown tabOk 2 rfl rfl rfl) rfl ?_
   exact q 2 [(97, tb ((List.length r11.2.1 : Int) == 0))] [] rfl <| r_less [97] rfl <| za <| by exact r_meetg () rfl rfl
  refine q 1 [(10, tb (b13 && ((List.length r11.2.1 : Int) == 0)))] [] rfl <| zf <| zT ?_
  cases h
  exact r_ret1 rfl (.tmp rfl) (fun _ _ g => g) (fun _ _ _ => List.nil_sublist _)
 refine zk <| zt <| zs <| zu <| p 1 [1,2,3,4,11,14,15,98] rfl <| y (y_cnil 1 rfl rfl Tryz.underlying33) rfl ?_
 refine q 1 [(100, tb (r11.1.1 != 0))] [1,2,3,4,11,14,15] rfl ?_
 obtain ⟨b14, e, h⟩ := bnd_ex h; rw [e]
 refine bX h fun k15 hk15 h => ?_
 refine r_lsplitk (γ := Unit) 8 (fun (o16 : Bool) _ => [(1, ts a1), (2, ti a2), (3, ti a3), (4, ti a4), (11, tp (tupv v2 0)), (14, tp (tupv v12 0)), (15, .one (.raw (.slice none 0 0)) (tupv v12 1)), (108, tb o16)]) (fun _ _ => [Res.disk Tryz.prog dI (tupv v2 0) r11.2.2.2, Res.clsif (CLog (tupv v2 0)) (tupv v12 0) r11.1.2 r11.1.1, Res.own (tupv v12 1) 9 .str r11.2.1]) k15 r ?_ ?_
 ·rcases Bool.eq_false_or_eq_true b14 with hh | hh
  ·rw [hh] at h ⊢
   rw [if_pos rfl] at h
   exact p 8 [1,2,3,4,11,14,15,108] rfl <| zn <| r_less [1,2,3,4,11,14,15,108] rfl <| zt <| by exact r_meetk true () h rfl rfl
  rw [hh] at h ⊢
  rw [if_neg (by decide)] at h
  refine p 1 [1,2,3,4,11,14,15,100,101] rfl <| r_guard (by rfl) rfl ?_
  obtain ⟨he17, h⟩ := ite_ex h
  refine r_imp_at (R' := Res.cls (CLog (tupv v2 0)) (tupv v12 0) r11.1.2) 1 rfl (clsif_cls he17) <| cB h fun r18 hr18 h => rc [1,0] (wal_Log_Next_ok _ _ _ _ _ hr18) (by kernel_rfl) rfl rfl rfl fun _ => p 2 [1,2,3,4,11,14,15,100,102,103,104] rfl <| r_guard (by rfl) rfl ?_
  refine y (y_lenown tabOk 2 rfl rfl rfl) rfl ?_
  exact q 3 [(108, tb (r18 != (IntKind.wrap .i64 (a3 + (List.length r11.2.1 : Int)))))] [1,2,3,4,11,14,15] rfl <| zn <| r_less [1,2,3,4,11,14,15,108] rfl <| r_imp_at (R' := Res.clsif (CLog (tupv v2 0)) (tupv v12 0) r11.1.2 r11.1.1) 0 rfl (clsif_of he17) <| pk [1,0,0] rfl <| zt <| by exact r_meetk (r18 != (IntKind.wrap .i64 (a3 + (List.length r11.2.1 : Int)))) () h rfl rfl
 intro o16 _ h
 rw [← hk15] at h
 try dsimp only at h
 refine za <| rI h rfl (fun hc h => zu <| p 1 [10] rfl <| zf <| zT <| by cases h; exact r_ret1 rfl (.tmp rfl) (fun _ _ g => g) (fun _ _ _ => List.nil_sublist _)) fun hc h => zy <| p 1 [1,2,3,4,11,14,15,109] rfl ?_
 obtain ⟨he19, h⟩ := ite_ex h
 refine r_imp_at (R' := Res.cls (CLog (tupv v2 0)) (tupv v12 0) r11.1.2) 1 rfl (clsif_cls he19) <| cB h fun r20 hr20 h => rcT hT [1,0] (wal_Log_Names_ok _ _ _ _ _ hr20) (by kernel_rfl) rfl rfl rfl fun v21 => p 1 [1,2,3,4,11,14,15,16] rfl <| zz <| p 1 [1,2,3,4,11,14,15,16,17] rfl <| r_nilown (.slice none 0 0) rfl 9 .str ?_
 refine zz <| p 2 [1,2,3,4,11,14,15,16,111,112] rfl <| iE h fun hc h => r_append (B := 16) tabOk 0 rfl rfl (src_own 3 rfl rfl) rfl el9 rfl rfl hc rfl fun v22 => ?_
 refine p 1 [1,2,3,4,11,14,15,16,17] rfl <| za <| jK h (γ := Value) (fun (o24 : List (List Int)) g25 => [(1, ts a1), (2, ti a2), (3, ti a3), (4, ti a4), (11, tp (tupv v2 0)), (14, tp (tupv v12 0)), (15, .one (.raw (.slice none 0 0)) (tupv v12 1)), (17, .one (.raw (.slice none 0 0)) v22)]) (fun (o24 : List (List Int)) g25 => [Res.own v22 9 .str ([] ++ r20), Res.cls (CLog (tupv v2 0)) (tupv v12 0) r11.1.2, Res.disk Tryz.prog dI (tupv v2 0) r11.2.2.2, Res.own g25 9 .str o24, Res.own (tupv v12 1) 9 .str r11.2.1]) (fun k23 h => ?_) fun o24 g25 h => ?_
 ·refine zu <| p 1 [1,2,3,4,11,14,15,16,17,18] rfl <| za <| zb <| r_less [1,2,3,4,11,14,15,16,17,18] rfl <| r_loopg (γ := Value) (fun (s95 : Int × List (List Int)) g96 => [(1, ts a1), (2, ti a2), (3, ti a3), (4, ti a4), (11, tp (tupv v2 0)), (14, tp (tupv v12 0)), (15, .one (.raw (.slice none 0 0)) (tupv v12 1)), (16, .one (.raw (.slice none 0 0)) g96), (17, .one (.raw (.slice none 0 0)) v22), (18, ti s95.1)]) (fun (s95 : Int × List (List Int)) g96 => [Res.own v22 9 .str ([] ++ r20), Res.cls (CLog (tupv v2 0)) (tupv v12 0) r11.1.2, Res.disk Tryz.prog dI (tupv v2 0) r11.2.2.2, Res.own g96 9 .str s95.2, Res.own (tupv v12 1) 9 .str r11.2.1]) (escrowlaw06_WalAgain_l1 k23) (0, r20) v21 h rfl rfl ?_
  clear h
  intro m97 s95 g96 h
  cases m97 with
  | zero => cases h
  | succ m97 =>
  simp only [escrowlaw06_WalAgain_l1] at h
  refine zs <| zu <| q 2 [(16, .one (.raw (.slice none 0 0)) g96), (18, ti s95.1), (114, ti s95.1), (115, .one (.raw (.slice none 0 0)) g96)] [1,2,3,4,11,14,15,17] rfl <| y (y_lenown tabOk 3 rfl rfl rfl) rfl ?_
  refine q 1 [(117, tb (decide (s95.1 < (List.length s95.2 : Int))))] [1,2,3,4,11,14,15,16,17,18] rfl <| za <| rI h rfl (fun hc h => ?_) fun hc h => ?_
  ·refine zk <| zt <| zs <| zb <| zr <| q 2 [(120, .one (.raw (.slice none 0 0)) g96), (121, ti s95.1)] [1,2,3,4,11,14,15,16,17,18] rfl <| iE h fun hc h => r_expose 3 rfl (by first | omega | (simp only [List.length_set] at hc ⊢; omega)) fun b98 c99 hv => ?_
   rw [hv]
   try clear hv
   refine y (y_iraw tabOk rfl rfl hc.1 (by first | exact hc.2 | simpa using hc.2) rfl ty9) rfl ?_
   refine r_sown 3 (Int.toNat s95.1) .here rfl rfl rfl (by first | omega | (simp only [List.length_set] at hc ⊢; omega)) (by first | rfl | (simp only [Pth.off, T.size]; omega)) ok_here ty9 ?_
   refine zn <| zi <| zt <| zr <| q 3 [(16, .one (.raw (.slice none 0 0)) (.slice (some ⟨b98, 0, none⟩) (List.length s95.2) c99)), (18, ti (IntKind.wrap .i64 (s95.1 + 1)))] [1,2,3,4,11,14,15,17] rfl ?_
   obtain ⟨i100, e, h⟩ := bnd_ex h; rw [e]
   exact za <| r_less [1,2,3,4,11,14,15,16,17,18] rfl <| by exact r_backg (i100, (List.set s95.2 (Int.toNat s95.1) [119, 114, 105, 116, 116, 101, 110])) (.slice (some ⟨b98, 0, none⟩) (List.length s95.2) c99) (Nat.lt_succ_self _) h rfl rfl
  exact zx <| ze <| ze <| zq <| zt <| r_less [1,2,3,4,11,14,15,17] rfl <| by exact r_meetk s95.2 g96 h rfl rfl
 refine zu <| p 1 [1,2,3,4,11,14,15,17,123] rfl <| cB h fun r26 hr26 h => r_calla (Lo := [Res.own v22 9 .str ([] ++ r20), Res.cls (CLog (tupv v2 0)) (tupv v12 0) r11.1.2, Res.own g25 9 .str o24, Res.own (tupv v12 1) 9 .str r11.2.1]) (disk_Disk_Crash_ok (tupv v2 0) r11.2.2.2 [] _ hr26) (by kernel_rfl) (takeR_perm (is := [2]) rfl) (.val rfl (.nilsl .nil)) rfl fun _ => ?_
 refine zz <| p 1 [1,2,3,4,11,14,15,17,125] rfl <| cB h fun r27 hr27 h => rc [0] (disk_Disk_On_ok _ _ _ hr27) (by kernel_rfl) rfl rfl rfl fun _ => zz <| p 4 [1,2,3,4,11,14,15,17,128,129,130,131] rfl <| cB h fun r28 hr28 h => rcT hT [0] (wal_Open_ok _ _ _ _ _ _ hr28) (by kernel_rfl) rfl rfl rfl fun v29 => q 7 [(19, tp (tupv v29 0)), (20, .one (.raw (.slice none 0 0)) (tupv v29 1)), (21, ti r28.2.2.1)] [1,2,3,4,11,14,15,17] rfl <| za <| zs <| zu <| q 3 [(138, tb (r28.2.2.1 != 0))] [1,2,3,4,11,14,15,17,19,20] rfl ?_
 obtain ⟨b30, e, h⟩ := bnd_ex h; rw [e]
 refine r_lsplit (γ := Unit) 3 (fun _ => [(1, ts a1), (2, ti a2), (3, ti a3), (4, ti a4), (11, tp (tupv v2 0)), (14, tp (tupv v12 0)), (15, .one (.raw (.slice none 0 0)) (tupv v12 1)), (17, .one (.raw (.slice none 0 0)) v22), (19, tp (tupv v29 0)), (20, .one (.raw (.slice none 0 0)) (tupv v29 1)), (141, tb (b30 || (r28.1.1 != 0)))]) (fun _ => [Res.disk Tryz.prog dI (tupv v2 0) r28.2.2.2, Res.clsif (CLog (tupv v2 0)) (tupv v29 0) r28.1.2 r28.1.1, Res.own (tupv v29 1) 9 .str r28.2.1, Res.own v22 9 .str ([] ++ r20), Res.cls (CLog (tupv v2 0)) (tupv v12 0) r11.1.2, Res.own g25 9 .str o24, Res.own (tupv v12 1) 9 .str r11.2.1]) ?_ (fun _ => ?_)
 ·clear h
  cases b30
  ·refine p 1 [1,2,3,4,11,14,15,17,19,20,138,139] rfl <| r_guard (by rfl) rfl ?_
   refine y (y_cnil 1 rfl rfl Tryz.underlying33) rfl ?_
   exact q 1 [(141, tb (r28.1.1 != 0))] [1,2,3,4,11,14,15,17,19,20] rfl <| r_less [1,2,3,4,11,14,15,17,19,20,141] rfl <| za <| by exact r_meetg () rfl rfl
  exact p 3 [1,2,3,4,11,14,15,17,19,20,141] rfl <| za <| by exact r_meetg () rfl rfl
 refine q 1 [(142, tb (b30 || (r28.1.1 != 0)))] [1,2,3,4,11,14,15,17,19,20] rfl ?_
 obtain ⟨b31, e, h⟩ := bnd_ex h; rw [e]
 refine bX h fun k32 hk32 h => ?_
 refine r_lsplitk (γ := Unit) 5 (fun (o33 : Bool) _ => [(1, ts a1), (2, ti a2), (3, ti a3), (4, ti a4), (11, tp (tupv v2 0)), (14, tp (tupv v12 0)), (15, .one (.raw (.slice none 0 0)) (tupv v12 1)), (17, .one (.raw (.slice none 0 0)) v22), (19, tp (tupv v29 0)), (20, .one (.raw (.slice none 0 0)) (tupv v29 1)), (147, tb o33)]) (fun _ _ => [Res.disk Tryz.prog dI (tupv v2 0) r28.2.2.2, Res.clsif (CLog (tupv v2 0)) (tupv v29 0) r28.1.2 r28.1.1, Res.own (tupv v29 1) 9 .str r28.2.1, Res.own v22 9 .str ([] ++ r20), Res.cls (CLog (tupv v2 0)) (tupv v12 0) r11.1.2, Res.own g25 9 .str o24, Res.own (tupv v12 1) 9 .str r11.2.1]) k32 r ?_ ?_
 ·rcases Bool.eq_false_or_eq_true b31 with hh | hh
  ·rw [hh] at h ⊢
   rw [if_pos rfl] at h
   exact p 5 [1,2,3,4,11,14,15,17,19,20,147] rfl <| zn <| r_less [1,2,3,4,11,14,15,17,19,20,147] rfl <| zt <| by exact r_meetk true () h rfl rfl
  rw [hh] at h ⊢
  rw [if_neg (by decide)] at h
  refine p 2 [1,2,3,4,11,14,15,17,19,20,142,143,144] rfl <| r_guard (by rfl) rfl ?_
  refine cB h fun r34 hr34 h => r_callw (escrowlaw06_sameTexts_ok r28.2.1 r11.2.1 _ hr34) (by kernel_rfl) rfl (.own 2 rfl rfl (.own 6 rfl rfl .nil)) rfl ?_
  exact p 2 [1,2,3,4,11,14,15,17,19,20,147] rfl <| zn <| r_less [1,2,3,4,11,14,15,17,19,20,147] rfl <| zt <| by exact r_meetk (!r34) () h rfl rfl
 intro o33 _ h
 rw [← hk32] at h
 try dsimp only at h
 refine p 1 [1,2,3,4,11,14,15,17,19,20,148] rfl <| bX h fun k36 hk36 h => ?_
 refine r_lsplitk (γ := Unit) 6 (fun (o37 : Bool) _ => [(1, ts a1), (2, ti a2), (3, ti a3), (4, ti a4), (11, tp (tupv v2 0)), (14, tp (tupv v12 0)), (15, .one (.raw (.slice none 0 0)) (tupv v12 1)), (17, .one (.raw (.slice none 0 0)) v22), (19, tp (tupv v29 0)), (20, .one (.raw (.slice none 0 0)) (tupv v29 1)), (154, tb o37)]) (fun _ _ => [Res.disk Tryz.prog dI (tupv v2 0) r28.2.2.2, Res.clsif (CLog (tupv v2 0)) (tupv v29 0) r28.1.2 r28.1.1, Res.own (tupv v29 1) 9 .str r28.2.1, Res.own v22 9 .str ([] ++ r20), Res.cls (CLog (tupv v2 0)) (tupv v12 0) r11.1.2, Res.own g25 9 .str o24, Res.own (tupv v12 1) 9 .str r11.2.1]) k36 r ?_ ?_
 ·rcases Bool.eq_false_or_eq_true o33 with hh | hh
  ·rw [hh] at h ⊢
   rw [if_pos rfl] at h
   exact p 6 [1,2,3,4,11,14,15,17,19,20,154] rfl <| zn <| r_less [1,2,3,4,11,14,15,17,19,20,154] rfl <| zt <| by exact r_meetk true () h rfl rfl
  rw [hh] at h ⊢
  rw [if_neg (by decide)] at h
  refine p 1 [1,2,3,4,11,14,15,17,19,20,148,149] rfl <| r_guard (by rfl) rfl ?_
  obtain ⟨he38, h⟩ := ite_ex h
  refine r_imp_at (R' := Res.cls (CLog (tupv v2 0)) (tupv v29 0) r28.1.2) 1 rfl (clsif_cls he38) <| cB h fun r39 hr39 h => rcT hT [1,0] (wal_Log_Names_ok _ _ _ _ _ hr39) (by kernel_rfl) rfl rfl rfl fun v40 => p 1 [1,2,3,4,11,14,15,17,19,20,148,150,151] rfl <| r_guard (by rfl) rfl ?_
  refine r_freeze (i := 2) (k := 150) rfl rfl ?_
  refine cB h fun r41 hr41 h => r_callw (escrowlaw06_sameTexts_ok r39 ([] ++ r20) _ hr41) (by kernel_rfl) rfl (.val rfl (.own 3 rfl rfl .nil)) rfl ?_
  exact p 2 [1,2,3,4,11,14,15,17,19,20,154] rfl <| zn <| r_less [1,2,3,4,11,14,15,17,19,20,154] rfl <| r_imp_at (R' := Res.clsif (CLog (tupv v2 0)) (tupv v29 0) r28.1.2 r28.1.1) 0 rfl (clsif_of he38) <| pk [1,0,0,0,0,0,0] rfl <| zt <| by exact r_meetk (!r41) () h rfl rfl
 intro o37 _ h
 rw [← hk36] at h
 try dsimp only at h
 refine p 1 [1,2,3,4,11,14,15,17,19,20,155] rfl <| bX h fun k43 hk43 h => ?_
 refine r_lsplitk (γ := Unit) 6 (fun (o44 : Bool) _ => [(1, ts a1), (2, ti a2), (3, ti a3), (4, ti a4), (11, tp (tupv v2 0)), (14, tp (tupv v12 0)), (15, .one (.raw (.slice none 0 0)) (tupv v12 1)), (17, .one (.raw (.slice none 0 0)) v22), (19, tp (tupv v29 0)), (20, .one (.raw (.slice none 0 0)) (tupv v29 1)), (161, tb o44)]) (fun _ _ => [Res.disk Tryz.prog dI (tupv v2 0) r28.2.2.2, Res.clsif (CLog (tupv v2 0)) (tupv v29 0) r28.1.2 r28.1.1, Res.own (tupv v29 1) 9 .str r28.2.1, Res.own v22 9 .str ([] ++ r20), Res.cls (CLog (tupv v2 0)) (tupv v12 0) r11.1.2, Res.own g25 9 .str o24, Res.own (tupv v12 1) 9 .str r11.2.1]) k43 r ?_ ?_
 ·rcases Bool.eq_false_or_eq_true o37 with hh | hh
  ·rw [hh] at h ⊢
   rw [if_pos rfl] at h
   exact p 6 [1,2,3,4,11,14,15,17,19,20,161] rfl <| zn <| r_less [1,2,3,4,11,14,15,17,19,20,161] rfl <| zt <| by exact r_meetk true () h rfl rfl
  rw [hh] at h ⊢
  rw [if_neg (by decide)] at h
  refine p 1 [1,2,3,4,11,14,15,17,19,20,155,156] rfl <| r_guard (by rfl) rfl ?_
  refine cB h fun r45 hr45 h => rcT hT [4,0] (wal_Log_Names_ok _ _ _ _ _ hr45) (by kernel_rfl) rfl rfl rfl fun v46 => p 1 [1,2,3,4,11,14,15,17,19,20,155,157,158] rfl <| r_guard (by rfl) rfl ?_
  refine r_freeze (i := 2) (k := 157) rfl rfl ?_
  refine cB h fun r47 hr47 h => r_callw (escrowlaw06_sameTexts_ok r45 ([] ++ r20) _ hr47) (by kernel_rfl) rfl (.val rfl (.own 4 rfl rfl .nil)) rfl ?_
  exact p 2 [1,2,3,4,11,14,15,17,19,20,161] rfl <| zn <| r_less [1,2,3,4,11,14,15,17,19,20,161] rfl <| pk [1,1,1,1,0,0,0] rfl <| zt <| by exact r_meetk (!r47) () h rfl rfl
 intro o44 _ h
 rw [← hk43] at h
 try dsimp only at h
 refine p 1 [1,2,3,4,11,14,15,17,19,20,162] rfl <| bX h fun k49 hk49 h => ?_
 refine r_lsplitk (γ := Unit) 6 (fun (o50 : Bool) _ => [(1, ts a1), (2, ti a2), (3, ti a3), (4, ti a4), (11, tp (tupv v2 0)), (15, .one (.raw (.slice none 0 0)) (tupv v12 1)), (17, .one (.raw (.slice none 0 0)) v22), (19, tp (tupv v29 0)), (20, .one (.raw (.slice none 0 0)) (tupv v29 1)), (168, tb o50)]) (fun _ _ => [Res.disk Tryz.prog dI (tupv v2 0) r28.2.2.2, Res.clsif (CLog (tupv v2 0)) (tupv v29 0) r28.1.2 r28.1.1, Res.own (tupv v29 1) 9 .str r28.2.1, Res.own v22 9 .str ([] ++ r20), Res.cls (CLog (tupv v2 0)) (tupv v12 0) r11.1.2, Res.own g25 9 .str o24, Res.own (tupv v12 1) 9 .str r11.2.1]) k49 r ?_ ?_
 ·rcases Bool.eq_false_or_eq_true o44 with hh | hh
  ·rw [hh] at h ⊢
   rw [if_pos rfl] at h
   exact p 6 [1,2,3,4,11,15,17,19,20,168] rfl <| zn <| r_less [1,2,3,4,11,15,17,19,20,168] rfl <| zt <| by exact r_meetk true () h rfl rfl
  rw [hh] at h ⊢
  rw [if_neg (by decide)] at h
  refine p 1 [1,2,3,4,11,14,15,17,19,20,162,163] rfl <| r_guard (by rfl) rfl ?_
  obtain ⟨he51, h⟩ := ite_ex h
  refine r_imp_at (R' := Res.cls (CLog (tupv v2 0)) (tupv v29 0) r28.1.2) 1 rfl (clsif_cls he51) <| cB h fun r52 hr52 h => rc [1,0] (wal_Log_Next_ok _ _ _ _ _ hr52) (by kernel_rfl) rfl rfl rfl fun _ => p 1 [1,2,3,4,11,15,17,19,20,162,164,165] rfl <| r_guard (by rfl) rfl ?_
  exact cB h fun r53 hr53 h => rc [4,1] (wal_Log_Next_ok _ _ _ _ _ hr53) (by kernel_rfl) rfl rfl rfl fun _ => p 2 [1,2,3,4,11,15,17,19,20,168] rfl <| zn <| r_less [1,2,3,4,11,15,17,19,20,168] rfl <| r_imp_at (R' := Res.clsif (CLog (tupv v2 0)) (tupv v29 0) r28.1.2 r28.1.1) 2 rfl (clsif_of he51) <| pk [1,1,1,1,0,0,0] rfl <| zt <| by exact r_meetk (r52 != r53) () h rfl rfl
 intro o50 _ h
 rw [← hk49] at h
 try dsimp only at h
 refine za <| rI h rfl (fun hc h => zu <| p 1 [10] rfl <| zf <| zT <| by cases h; exact r_ret1 rfl (.tmp rfl) (fun _ _ g => g) (fun _ _ _ => List.nil_sublist _)) fun hc h => zy <| p 3 [1,2,3,11,15,17,19,20,170,171] rfl <| y (y_lenown tabOk 6 rfl rfl rfl) rfl ?_
 refine q 1 [(173, ti (IntKind.wrap .i64 ((List.length r11.2.1 : Int) + 1)))] [1,2,3,11,15,17,19,20,170] rfl <| iE h fun hc h => y (y_rem rfl rfl hc) rfl ?_
 refine q 2 [(174, ti (Int.tmod (iand .i64 a4 1048575) (IntKind.wrap .i64 ((List.length r11.2.1 : Int) + 1)))), (176, ti (IntKind.wrap .i64 (1152921504606846976 - a3)))] [1,2,3,11,15,17,19,20] rfl <| y (y_min rfl rfl) rfl ?_
 refine q 1 [(4, ti (min (Int.tmod (iand .i64 a4 1048575) (IntKind.wrap .i64 ((List.length r11.2.1 : Int) + 1))) (IntKind.wrap .i64 (1152921504606846976 - a3))))] [1,2,3,11,15,17,19,20] rfl ?_
 obtain ⟨by54, e, h⟩ := bnd_ex h; rw [e]
 refine za <| jK h (γ := Value) (fun (o56 : List (List Int)) g57 => [(1, ts a1), (2, ti a2), (3, ti a3), (4, ti by54), (11, tp (tupv v2 0)), (15, .one (.raw (.slice none 0 0)) (tupv v12 1)), (17, .one (.raw (.slice none 0 0)) v22), (19, tp (tupv v29 0))]) (fun (o56 : List (List Int)) g57 => [Res.disk Tryz.prog dI (tupv v2 0) r28.2.2.2, Res.clsif (CLog (tupv v2 0)) (tupv v29 0) r28.1.2 r28.1.1, Res.own g57 9 .str o56, Res.own v22 9 .str ([] ++ r20), Res.cls (CLog (tupv v2 0)) (tupv v12 0) r11.1.2, Res.own g25 9 .str o24, Res.own (tupv v12 1) 9 .str r11.2.1]) (fun k55 h => ?_) fun o56 g57 h => ?_
 ·refine zu <| p 1 [1,2,3,4,11,15,17,19,20,22] rfl <| za <| zb <| r_less [1,2,3,4,11,15,17,19,20,22] rfl <| r_loopg (γ := Value) (fun (s86 : Int × List (List Int)) g87 => [(1, ts a1), (2, ti a2), (3, ti a3), (4, ti by54), (11, tp (tupv v2 0)), (15, .one (.raw (.slice none 0 0)) (tupv v12 1)), (17, .one (.raw (.slice none 0 0)) v22), (19, tp (tupv v29 0)), (20, .one (.raw (.slice none 0 0)) g87), (22, ti s86.1)]) (fun (s86 : Int × List (List Int)) g87 => [Res.disk Tryz.prog dI (tupv v2 0) r28.2.2.2, Res.clsif (CLog (tupv v2 0)) (tupv v29 0) r28.1.2 r28.1.1, Res.own g87 9 .str s86.2, Res.own v22 9 .str ([] ++ r20), Res.cls (CLog (tupv v2 0)) (tupv v12 0) r11.1.2, Res.own g25 9 .str o24, Res.own (tupv v12 1) 9 .str r11.2.1]) (escrowlaw06_WalAgain_l0 k55) (0, r28.2.1) (tupv v29 1) h rfl rfl ?_
  clear h
  intro m88 s86 g87 h
  cases m88 with
  | zero => cases h
  | succ m88 =>
  simp only [escrowlaw06_WalAgain_l0] at h
  refine zs <| zu <| q 2 [(20, .one (.raw (.slice none 0 0)) g87), (22, ti s86.1), (178, ti s86.1), (179, .one (.raw (.slice none 0 0)) g87)] [1,2,3,4,11,15,17,19] rfl <| y (y_lenown tabOk 2 rfl rfl rfl) rfl ?_
  refine q 1 [(181, tb (decide (s86.1 < (List.length s86.2 : Int))))] [1,2,3,4,11,15,17,19,20,22] rfl <| za <| rI h rfl (fun hc h => ?_) fun hc h => ?_
  ·refine zk <| zt <| zs <| zb <| zr <| q 2 [(184, .one (.raw (.slice none 0 0)) g87), (185, ti s86.1)] [1,2,3,4,11,15,17,19,20,22] rfl <| iE h fun hc h => r_expose 2 rfl (by first | omega | (simp only [List.length_set] at hc ⊢; omega)) fun b89 c90 hv => ?_
   rw [hv]
   try clear hv
   refine y (y_iraw tabOk rfl rfl hc.1 (by first | exact hc.2 | simpa using hc.2) rfl ty9) rfl ?_
   refine r_sown 2 (Int.toNat s86.1) .here rfl rfl rfl (by first | omega | (simp only [List.length_set] at hc ⊢; omega)) (by first | rfl | (simp only [Pth.off, T.size]; omega)) ok_here ty9 ?_
   refine zn <| zi <| zt <| zr <| q 3 [(20, .one (.raw (.slice none 0 0)) (.slice (some ⟨b89, 0, none⟩) (List.length s86.2) c90)), (22, ti (IntKind.wrap .i64 (s86.1 + 1)))] [1,2,3,4,11,15,17,19] rfl ?_
   obtain ⟨i91, e, h⟩ := bnd_ex h; rw [e]
   exact za <| r_less [1,2,3,4,11,15,17,19,20,22] rfl <| by exact r_backg (i91, (List.set s86.2 (Int.toNat s86.1) [119, 114, 105, 116, 116, 101, 110])) (.slice (some ⟨b89, 0, none⟩) (List.length s86.2) c90) (Nat.lt_succ_self _) h rfl rfl
  exact zx <| ze <| ze <| zq <| zt <| r_less [1,2,3,4,11,15,17,19] rfl <| by exact r_meetk s86.2 g87 h rfl rfl
 refine zu <| p 6 [1,2,4,11,15,17,19,188,189,190,193] rfl <| cB h fun r58 hr58 h => rcT hT [0] (wal_Open_ok _ _ _ _ _ _ hr58) (by kernel_rfl) rfl rfl rfl fun v59 => q 7 [(24, .one (.raw (.slice none 0 0)) (tupv v59 1)), (25, ti r58.2.2.1)] [1,2,4,11,15,17,19] rfl <| zz <| p 4 [4,11,15,17,19,24,25,199,200,201,202] rfl ?_
 obtain ⟨he60, h⟩ := ite_ex h
 refine r_imp_at (R' := Res.cls (CLog (tupv v2 0)) (tupv v29 0) r28.1.2) 3 rfl (clsif_cls he60) <| cB h fun r61 hr61 h => rc [3,0] (wal_Log_Next_ok _ _ _ _ _ hr61) (by kernel_rfl) rfl rfl rfl fun _ => p 1 [4,11,15,17,19,24,25,199,200,201,204] rfl <| cB h fun r62 hr62 h => rcT hT [1] (wal_Open_ok _ _ _ _ _ _ hr62) (by kernel_rfl) rfl rfl rfl fun v63 => q 7 [(28, ti r62.2.2.1)] [4,11,15,17,19,24,25] rfl <| za <| zs <| r_freeze (i := 10) (k := 15) rfl rfl ?_
 refine zr <| q 3 [(15, .one (.sl 9 .str) r11.2.1), (211, tb (r58.2.2.1 == 0))] [4,11,17,19,24,28] rfl ?_
 obtain ⟨b64, e, h⟩ := bnd_ex h; rw [e]
 refine bX h fun k65 hk65 h => ?_
 refine r_lsplitk (γ := Unit) 6 (fun (o66 : Bool) _ => [(11, tp (tupv v2 0)), (15, .one (.sl 9 .str) r11.2.1), (17, .one (.raw (.slice none 0 0)) v22), (19, tp (tupv v29 0)), (28, ti r62.2.2.1), (217, tb o66)]) (fun _ _ => [Res.disk Tryz.prog dI (tupv v2 0) r62.2.2.2, Res.clsif (CLog (tupv v2 0)) (tupv v63 0) r62.1.2 r62.1.1, Res.own (tupv v63 1) 9 .str r62.2.1, Res.cls (CLog (tupv v2 0)) (tupv v29 0) r28.1.2, Res.clsif (CLog (tupv v2 0)) (tupv v59 0) r58.1.2 r58.1.1, Res.own g57 9 .str o56, Res.own v22 9 .str ([] ++ r20), Res.cls (CLog (tupv v2 0)) (tupv v12 0) r11.1.2, Res.own g25 9 .str o24]) k65 r ?_ ?_
 ·rcases Bool.eq_false_or_eq_true b64 with hh | hh
  ·rw [hh] at h ⊢
   rw [if_pos rfl] at h
   refine q 3 [(211, tb true), (212, .one (.raw (.slice none 0 0)) (tupv v59 1)), (213, .one (.sl 9 .str) r11.2.1), (214, ti by54)] [11,15,17,19,28] rfl <| r_guard (by rfl) rfl ?_
   refine iE h fun hc h => y (y_slsub (i := by54) (j := (List.length r11.2.1 : Int)) tabOk rfl rfl rfl hc.1 hc.2.1 hc.2.2 rfl ty9) rfl ?_
   refine r_guard (by rfl) rfl ?_
   refine r_freeze (i := 5) (k := 212) rfl rfl ?_
   exact cB h fun r67 hr67 h => r_calls (escrowlaw06_sameTexts_ok _ _ _ hr67) (by kernel_rfl) rfl rfl <| p 1 [11,15,17,19,28,217] rfl <| zn <| r_less [11,15,17,19,28,217] rfl <| zt <| by exact r_meetk r67 () h rfl rfl
  rw [hh] at h ⊢
  rw [if_neg (by decide)] at h
  exact p 6 [11,15,17,19,28,217] rfl <| zn <| r_less [11,15,17,19,28,217] rfl <| pk [0,0,0,0,0,1,1,1,1] rfl <| zt <| by exact r_meetk false () h rfl rfl
 intro o66 _ h
 rw [← hk65] at h
 try dsimp only at h
 refine p 1 [11,15,17,19,28,218] rfl <| bX h fun k69 hk69 h => ?_
 refine r_lsplitk (γ := Unit) 22 (fun (o70 : Bool) _ => [(240, tb o70)]) (fun _ _ => [Res.disk Tryz.prog dI (tupv v2 0) r62.2.2.2, Res.clsif (CLog (tupv v2 0)) (tupv v63 0) r62.1.2 r62.1.1, Res.own (tupv v63 1) 9 .str r62.2.1, Res.cls (CLog (tupv v2 0)) (tupv v29 0) r28.1.2, Res.clsif (CLog (tupv v2 0)) (tupv v59 0) r58.1.2 r58.1.1, Res.own g57 9 .str o56, Res.cls (CLog (tupv v2 0)) (tupv v12 0) r11.1.2, Res.own g25 9 .str o24]) k69 r ?_ ?_
 ·rcases Bool.eq_false_or_eq_true o66 with hh | hh
  ·rw [hh] at h ⊢
   rw [if_pos rfl] at h
   refine q 6 [(218, tb true), (220, tb (r62.2.2.1 != 0)), (224, tb (decide ((List.length r11.2.1 : Int) > 0)))] [11,17,19] rfl ?_
   obtain ⟨b71, e, h⟩ := bnd_ex h; rw [e]
   refine bX h fun k72 hk72 h => ?_
   refine r_lsplitk (γ := Unit) 9 (fun (o73 : Bool) _ => [(19, tp (tupv v29 0)), (218, tb true), (220, tb (r62.2.2.1 != 0)), (233, tb o73)]) (fun _ _ => [Res.disk Tryz.prog dI (tupv v2 0) r62.2.2.2, Res.clsif (CLog (tupv v2 0)) (tupv v63 0) r62.1.2 r62.1.1, Res.own (tupv v63 1) 9 .str r62.2.1, Res.cls (CLog (tupv v2 0)) (tupv v29 0) r28.1.2, Res.clsif (CLog (tupv v2 0)) (tupv v59 0) r58.1.2 r58.1.1, Res.own g57 9 .str o56, Res.cls (CLog (tupv v2 0)) (tupv v12 0) r11.1.2, Res.own g25 9 .str o24]) k72 r ?_ ?_
   ·rcases Bool.eq_false_or_eq_true b71 with hh | hh
    ·rw [hh] at h ⊢
     rw [if_pos rfl] at h
     exact p 9 [19,218,220,233] rfl <| zn <| r_less [19,218,220,233] rfl <| pk [0,0,0,0,0,0,1,1] rfl <| zt <| by exact r_meetk true () h rfl rfl
    rw [hh] at h ⊢
    rw [if_neg (by decide)] at h
    refine p 1 [11,17,19,218,220,224,225] rfl <| r_guard (by rfl) rfl ?_
    refine y (y_lenown tabOk 6 rfl rfl rfl) rfl ?_
    refine q 2 [(228, tb (decide ((List.length ([] ++ r20) : Int) > 0)))] [11,17,19,218,220,224] rfl ?_
    obtain ⟨b74, e, h⟩ := bnd_ex h; rw [e]
    refine bX h fun k75 hk75 h => ?_
    refine r_lsplitk (γ := Unit) 4 (fun (o76 : Bool) _ => [(19, tp (tupv v29 0)), (218, tb true), (220, tb (r62.2.2.1 != 0)), (224, tb false), (232, tb o76)]) (fun _ _ => [Res.disk Tryz.prog dI (tupv v2 0) r62.2.2.2, Res.clsif (CLog (tupv v2 0)) (tupv v63 0) r62.1.2 r62.1.1, Res.own (tupv v63 1) 9 .str r62.2.1, Res.cls (CLog (tupv v2 0)) (tupv v29 0) r28.1.2, Res.clsif (CLog (tupv v2 0)) (tupv v59 0) r58.1.2 r58.1.1, Res.own g57 9 .str o56, Res.cls (CLog (tupv v2 0)) (tupv v12 0) r11.1.2, Res.own g25 9 .str o24]) k75 r ?_ ?_
    ·rcases Bool.eq_false_or_eq_true b74 with hh | hh
     ·rw [hh] at h ⊢
      rw [if_pos rfl] at h
      refine p 2 [19,218,220,224,228,229,230] rfl <| r_guard (by rfl) rfl ?_
      refine r_freeze (i := 6) (k := 230) rfl rfl ?_
      exact cB h fun r77 hr77 h => rc [0] (escrowlaw06_bytes_ok _ _ _ _ hr77) (by kernel_rfl) rfl rfl rfl fun _ => p 1 [19,218,220,224,232] rfl <| zn <| r_less [19,218,220,224,232] rfl <| zt <| by exact r_meetk r77 () h rfl rfl
     rw [hh] at h ⊢
     rw [if_neg (by decide)] at h
     exact p 4 [19,218,220,224,232] rfl <| zn <| r_less [19,218,220,224,232] rfl <| pk [0,0,0,0,0,0,1,1] rfl <| zt <| by exact r_meetk false () h rfl rfl
    intro o76 _ h
    rw [← hk75] at h
    try dsimp only at h
    exact p 1 [19,218,220,233] rfl <| zn <| r_less [19,218,220,233] rfl <| zt <| by exact r_meetk o76 () h rfl rfl
   intro o73 _ h
   rw [← hk72] at h
   try dsimp only at h
   refine p 1 [19,218,220,234] rfl <| bX h fun k79 hk79 h => ?_
   refine r_lsplitk (γ := Unit) 4 (fun (o80 : Bool) _ => [(218, tb true), (220, tb (r62.2.2.1 != 0)), (238, tb o80)]) (fun _ _ => [Res.disk Tryz.prog dI (tupv v2 0) r62.2.2.2, Res.clsif (CLog (tupv v2 0)) (tupv v63 0) r62.1.2 r62.1.1, Res.own (tupv v63 1) 9 .str r62.2.1, Res.cls (CLog (tupv v2 0)) (tupv v29 0) r28.1.2, Res.clsif (CLog (tupv v2 0)) (tupv v59 0) r58.1.2 r58.1.1, Res.own g57 9 .str o56, Res.cls (CLog (tupv v2 0)) (tupv v12 0) r11.1.2, Res.own g25 9 .str o24]) k79 r ?_ ?_
   ·rcases Bool.eq_false_or_eq_true o73 with hh | hh
    ·rw [hh] at h ⊢
     rw [if_pos rfl] at h
     exact p 4 [218,220,238] rfl <| zn <| r_less [218,220,238] rfl <| zt <| by exact r_meetk true () h rfl rfl
    rw [hh] at h ⊢
    rw [if_neg (by decide)] at h
    refine p 1 [218,220,234,235] rfl <| r_guard (by rfl) rfl ?_
    exact cB h fun r81 hr81 h => rc [3,0] (wal_Log_Next_ok _ _ _ _ _ hr81) (by kernel_rfl) rfl rfl rfl fun _ => p 2 [218,220,238] rfl <| zn <| r_less [218,220,238] rfl <| pk [1,1,1,0,0,0,0,0] rfl <| zt <| by exact r_meetk (decide (r81 ≥ 1152921504606846976)) () h rfl rfl
   intro o80 _ h
   rw [← hk79] at h
   try dsimp only at h
   refine r_guard (by rfl) rfl ?_
   refine y (y_beq rfl rfl Tryz.underlying4) rfl ?_
   exact q 1 [(240, tb ((r62.2.2.1 != 0) == o80))] [] rfl <| zn <| r_less [240] rfl <| zt <| by exact r_meetk ((r62.2.2.1 != 0) == o80) () h rfl rfl
  rw [hh] at h ⊢
  rw [if_neg (by decide)] at h
  exact p 22 [240] rfl <| zn <| r_less [240] rfl <| pk [0,0,0,0,0,0,1,1] rfl <| zt <| by exact r_meetk false () h rfl rfl
 intro o70 _ h
 rw [← hk69] at h
 try dsimp only at h
 refine p 1 [10] rfl <| zf ?_
 cases h
 exact r_ret1 rfl (.tmp rfl) (fun _ _ g => g) (fun _ _ _ => List.nil_sublist _)

end Sx
