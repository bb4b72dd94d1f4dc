/-
  Own work, printed by a program of the same hand. Each function of the code answers what its plain twin reckons.
-/
import Derived.Test.YtfdhpfodjaaloaaDoorWalk2
namespace Sx
open Go Go.Proofs
set_option maxRecDepth 10000
set_option maxHeartbeats 1000000
attribute [local irreducible] wpList

theorem escrowlaw25_same_ok (a0 : List (Int × (Int × Int × List (List (Int)) × List (List (Int)) × Int × Int × Unit) × (Int × Int × (Int × Int × Int × Int × List (Int) × List Int × List Int × (List (List Int × Int × Int × List Int × Unit)) × Unit) × Unit) × Int × Int × Unit)) (a1 : List (Int × (Int × Int × List (List (Int)) × List (List (Int)) × Int × Int × Unit) × (Int × Int × (Int × Int × Int × Int × List (Int) × List Int × List Int × (List (List Int × Int × Int × List Int × Unit)) × Unit) × Unit) × Int × Int × Unit)) (r : Bool) (h : escrowlaw25_same a0 a1 = some r) : Pure Tryd.prog 13 [.one (.sl 55 Y55) a0, .one (.sl 55 Y55) a1] (tb r) := by
 unfold escrowlaw25_same at h
 refine enter Tryd.func13 rfl 134 rfl rfl fun F => ?_
 refine zu <| p 1 [0,1] rfl <| za <| zs <| zu <| q 5 [(14, tb ((List.length a0 : Int) != (List.length a1 : Int)))] [0,1] rfl <| za <| rI h rfl (fun hc h => zu <| p 1 [4] rfl <| zf <| zT <| by cases h; exact r_ret1 rfl (.tmp rfl) (fun _ _ g => g) (fun _ _ _ => List.nil_sublist _)) fun hc h => zk <| zt <| jK h (γ := Unit) (fun (o2 : Unit) _ => []) (fun (o2 : Unit) _ => []) (fun k1 h => ?_) fun o2 gg h => ?_
 ·refine zu <| p 1 [0,1,5] rfl <| za <| zb <| r_less [0,1,5] rfl <| r_loopg (γ := Unit) (fun (s4 : Int) _ => [(0, .one (.sl 55 Y55) a0), (1, .one (.sl 55 Y55) a1), (5, ti s4)]) (fun (s4 : Int) _ => []) (escrowlaw25_same_l0 a0 a1 k1) 0 () h rfl rfl ?_
  clear h
  intro m5 s4 gg h
  cases m5 with
  | zero => cases h
  | succ m5 =>
  simp only [escrowlaw25_same_l0] at h
  refine zs <| zu <| q 4 [(5, ti s4), (18, tb (decide (s4 < (List.length a0 : Int))))] [0,1] rfl <| za <| rI h rfl (fun hc h => ?_) fun hc h => ?_
  ·refine zk <| zt <| zs <| zb <| zu <| p 2 [0,1,5,21,22] rfl <| iE h fun hc h => y (y_iref tabOk rfl rfl hc.1 hc.2 rfl ty55) rfl ?_
   refine y (y_ref rfl ty55) rfl ?_
   refine r_alloc (t := Y55) rfl zf55 rfl fun b6 => st 0 .here ty55 rfl rfl rfl rfl trivial <| zz <| p 2 [0,1,5,6,25,26] rfl <| iE h fun hc h => y (y_iref tabOk rfl rfl hc.1 hc.2 rfl ty55) rfl ?_
   refine y (y_ref rfl ty55) rfl ?_
   refine r_alloc (t := Y55) rfl zf55 rfl fun b7 => st 0 .here ty55 rfl rfl rfl rfl trivial <| zz <| p 2 [0,1,5,6,7,30] rfl <| yl 1 ((.snd (.snd (.fst ((.snd (.snd (.fst .here)))))))) ty48 rfl rfl rfl trivial rfl <| r_alloc (t := Y48) rfl zf48 rfl fun b8 => st 0 .here ty48 rfl rfl rfl rfl trivial <| zz <| p 2 [0,1,5,6,7,8,33] rfl <| yl 1 ((.snd (.snd (.fst ((.snd (.snd (.fst .here)))))))) ty48 rfl rfl rfl trivial rfl <| r_alloc (t := Y48) rfl zf48 rfl fun b9 => st 0 .here ty48 rfl rfl rfl rfl trivial <| za <| zs ?_
   refine zu <| p 1 [0,1,5,6,7,8,9,35] rfl <| yl 3 ((.fst .here)) ty3 rfl rfl rfl trivial rfl <| q 1 [(36, ti ((List.getD a0 (Int.toNat s4) (0, (0, 0, (List.replicate 2 ((List.replicate 32 (0 : Int)) : List (Int))), (List.replicate 2 ((List.replicate 32 (0 : Int)) : List (Int))), 0, 0, ()), (0, 0, (0, 0, 0, 0, (List.replicate 32 (0 : Int)), [], [], [], ()), ()), 0, 0, ())).1)), (37, ptr b7 0)] [0,1,5,6,7,8,9] rfl <| yl 2 ((.fst .here)) ty3 rfl rfl rfl trivial rfl <| q 1 [(39, tb (((List.getD a0 (Int.toNat s4) (0, (0, 0, (List.replicate 2 ((List.replicate 32 (0 : Int)) : List (Int))), (List.replicate 2 ((List.replicate 32 (0 : Int)) : List (Int))), 0, 0, ()), (0, 0, (0, 0, 0, 0, (List.replicate 32 (0 : Int)), [], [], [], ()), ()), 0, 0, ())).1) != ((List.getD a1 (Int.toNat s4) (0, (0, 0, (List.replicate 2 ((List.replicate 32 (0 : Int)) : List (Int))), (List.replicate 2 ((List.replicate 32 (0 : Int)) : List (Int))), 0, 0, ()), (0, 0, (0, 0, 0, 0, (List.replicate 32 (0 : Int)), [], [], [], ()), ()), 0, 0, ())).1)))] [0,1,5,6,7,8,9] rfl ?_
   obtain ⟨t10, e, h⟩ := bnd_ex h; rw [e]
   refine p 1 [0,1,5,6,7,8,9,40] rfl ?_
   refine r_lsplit (γ := Unit) 6 (fun _ => [(0, .one (.sl 55 Y55) a0), (1, .one (.sl 55 Y55) a1), (5, ti s4), (6, ptr b6 0), (7, ptr b7 0), (8, ptr b8 0), (9, ptr b9 0), (46, tb (t10 || (!eqD (.pair (.int .i64) (.pair (.int .i64) (.pair (.arr 2 (.arr 32 (.int .u8))) (.pair (.arr 2 (.arr 32 (.int .u8))) (.pair (.int .i64) (.pair (.int .i64) .unit)))))) ((List.getD a0 (Int.toNat s4) (0, (0, 0, (List.replicate 2 ((List.replicate 32 (0 : Int)) : List (Int))), (List.replicate 2 ((List.replicate 32 (0 : Int)) : List (Int))), 0, 0, ()), (0, 0, (0, 0, 0, 0, (List.replicate 32 (0 : Int)), [], [], [], ()), ()), 0, 0, ())).2.1) ((List.getD a1 (Int.toNat s4) (0, (0, 0, (List.replicate 2 ((List.replicate 32 (0 : Int)) : List (Int))), (List.replicate 2 ((List.replicate 32 (0 : Int)) : List (Int))), 0, 0, ()), (0, 0, (0, 0, 0, 0, (List.replicate 32 (0 : Int)), [], [], [], ()), ()), 0, 0, ())).2.1))))]) (fun _ => [Res.var b9 48 Y48 (((List.getD a1 (Int.toNat s4) (0, (0, 0, (List.replicate 2 ((List.replicate 32 (0 : Int)) : List (Int))), (List.replicate 2 ((List.replicate 32 (0 : Int)) : List (Int))), 0, 0, ()), (0, 0, (0, 0, 0, 0, (List.replicate 32 (0 : Int)), [], [], [], ()), ()), 0, 0, ())).2.2.1).2.2.1), Res.var b8 48 Y48 (((List.getD a0 (Int.toNat s4) (0, (0, 0, (List.replicate 2 ((List.replicate 32 (0 : Int)) : List (Int))), (List.replicate 2 ((List.replicate 32 (0 : Int)) : List (Int))), 0, 0, ()), (0, 0, (0, 0, 0, 0, (List.replicate 32 (0 : Int)), [], [], [], ()), ()), 0, 0, ())).2.2.1).2.2.1), Res.var b7 55 Y55 (List.getD a1 (Int.toNat s4) (0, (0, 0, (List.replicate 2 ((List.replicate 32 (0 : Int)) : List (Int))), (List.replicate 2 ((List.replicate 32 (0 : Int)) : List (Int))), 0, 0, ()), (0, 0, (0, 0, 0, 0, (List.replicate 32 (0 : Int)), [], [], [], ()), ()), 0, 0, ())), Res.var b6 55 Y55 (List.getD a0 (Int.toNat s4) (0, (0, 0, (List.replicate 2 ((List.replicate 32 (0 : Int)) : List (Int))), (List.replicate 2 ((List.replicate 32 (0 : Int)) : List (Int))), 0, 0, ()), (0, 0, (0, 0, 0, 0, (List.replicate 32 (0 : Int)), [], [], [], ()), ()), 0, 0, ()))]) ?_ (fun _ => ?_)
   ·clear h
    rcases Bool.eq_false_or_eq_true t10 with hh | hh
    ·rw [hh]
     exact p 6 [0,1,5,6,7,8,9,46] rfl <| za <| by exact r_meetg () rfl rfl
    rw [hh]
    refine p 1 [0,1,5,6,7,8,9,40,41] rfl <| r_guard (by rfl) rfl ?_
    refine yl 3 ((.snd (.fst .here))) ty53 rfl rfl rfl trivial rfl <| q 1 [(42, .one Y53 ((List.getD a0 (Int.toNat s4) (0, (0, 0, (List.replicate 2 ((List.replicate 32 (0 : Int)) : List (Int))), (List.replicate 2 ((List.replicate 32 (0 : Int)) : List (Int))), 0, 0, ()), (0, 0, (0, 0, 0, 0, (List.replicate 32 (0 : Int)), [], [], [], ()), ()), 0, 0, ())).2.1)), (43, ptr b7 1)] [0,1,5,6,7,8,9,40] rfl <| r_guard (by rfl) rfl ?_
    refine yl 2 ((.snd (.fst .here))) ty53 rfl rfl rfl trivial rfl <| r_guard (by rfl) rfl ?_
    refine y (y_nes 20 rfl rfl rfl rfl ty53 rfl kt53 eg53) rfl ?_
    exact q 1 [(46, tb (!eqD (.pair (.int .i64) (.pair (.int .i64) (.pair (.arr 2 (.arr 32 (.int .u8))) (.pair (.arr 2 (.arr 32 (.int .u8))) (.pair (.int .i64) (.pair (.int .i64) .unit)))))) ((List.getD a0 (Int.toNat s4) (0, (0, 0, (List.replicate 2 ((List.replicate 32 (0 : Int)) : List (Int))), (List.replicate 2 ((List.replicate 32 (0 : Int)) : List (Int))), 0, 0, ()), (0, 0, (0, 0, 0, 0, (List.replicate 32 (0 : Int)), [], [], [], ()), ()), 0, 0, ())).2.1) ((List.getD a1 (Int.toNat s4) (0, (0, 0, (List.replicate 2 ((List.replicate 32 (0 : Int)) : List (Int))), (List.replicate 2 ((List.replicate 32 (0 : Int)) : List (Int))), 0, 0, ()), (0, 0, (0, 0, 0, 0, (List.replicate 32 (0 : Int)), [], [], [], ()), ()), 0, 0, ())).2.1)))] [0,1,5,6,7,8,9] rfl <| r_less [0,1,5,6,7,8,9,46] rfl <| za <| by exact r_meetg () rfl rfl
   refine q 1 [(47, tb (t10 || (!eqD (.pair (.int .i64) (.pair (.int .i64) (.pair (.arr 2 (.arr 32 (.int .u8))) (.pair (.arr 2 (.arr 32 (.int .u8))) (.pair (.int .i64) (.pair (.int .i64) .unit)))))) ((List.getD a0 (Int.toNat s4) (0, (0, 0, (List.replicate 2 ((List.replicate 32 (0 : Int)) : List (Int))), (List.replicate 2 ((List.replicate 32 (0 : Int)) : List (Int))), 0, 0, ()), (0, 0, (0, 0, 0, 0, (List.replicate 32 (0 : Int)), [], [], [], ()), ()), 0, 0, ())).2.1) ((List.getD a1 (Int.toNat s4) (0, (0, 0, (List.replicate 2 ((List.replicate 32 (0 : Int)) : List (Int))), (List.replicate 2 ((List.replicate 32 (0 : Int)) : List (Int))), 0, 0, ()), (0, 0, (0, 0, 0, 0, (List.replicate 32 (0 : Int)), [], [], [], ()), ()), 0, 0, ())).2.1))))] [0,1,5,6,7,8,9] rfl ?_
   obtain ⟨t12, e, h⟩ := bnd_ex h; rw [e]
   refine bX h fun k14 hk14 h => ?_
   refine r_lsplitk (γ := Unit) 6 (fun (o15 : Bool) _ => [(0, .one (.sl 55 Y55) a0), (1, .one (.sl 55 Y55) a1), (5, ti s4), (6, ptr b6 0), (7, ptr b7 0), (8, ptr b8 0), (9, ptr b9 0), (53, tb o15)]) (fun _ _ => [Res.var b9 48 Y48 (((List.getD a1 (Int.toNat s4) (0, (0, 0, (List.replicate 2 ((List.replicate 32 (0 : Int)) : List (Int))), (List.replicate 2 ((List.replicate 32 (0 : Int)) : List (Int))), 0, 0, ()), (0, 0, (0, 0, 0, 0, (List.replicate 32 (0 : Int)), [], [], [], ()), ()), 0, 0, ())).2.2.1).2.2.1), Res.var b8 48 Y48 (((List.getD a0 (Int.toNat s4) (0, (0, 0, (List.replicate 2 ((List.replicate 32 (0 : Int)) : List (Int))), (List.replicate 2 ((List.replicate 32 (0 : Int)) : List (Int))), 0, 0, ()), (0, 0, (0, 0, 0, 0, (List.replicate 32 (0 : Int)), [], [], [], ()), ()), 0, 0, ())).2.2.1).2.2.1), Res.var b7 55 Y55 (List.getD a1 (Int.toNat s4) (0, (0, 0, (List.replicate 2 ((List.replicate 32 (0 : Int)) : List (Int))), (List.replicate 2 ((List.replicate 32 (0 : Int)) : List (Int))), 0, 0, ()), (0, 0, (0, 0, 0, 0, (List.replicate 32 (0 : Int)), [], [], [], ()), ()), 0, 0, ())), Res.var b6 55 Y55 (List.getD a0 (Int.toNat s4) (0, (0, 0, (List.replicate 2 ((List.replicate 32 (0 : Int)) : List (Int))), (List.replicate 2 ((List.replicate 32 (0 : Int)) : List (Int))), 0, 0, ()), (0, 0, (0, 0, 0, 0, (List.replicate 32 (0 : Int)), [], [], [], ()), ()), 0, 0, ()))]) k14 r ?_ ?_
   ·rcases Bool.eq_false_or_eq_true t12 with hh | hh
    ·rw [hh] at h ⊢
     rw [if_pos rfl] at h
     exact p 6 [0,1,5,6,7,8,9,53] rfl <| zn <| r_less [0,1,5,6,7,8,9,53] rfl <| zt <| by exact r_meetk true () h rfl rfl
    rw [hh] at h ⊢
    rw [if_neg (by decide)] at h
    refine p 1 [0,1,5,6,7,8,9,47,48] rfl <| r_guard (by rfl) rfl ?_
    refine yl 3 ((.snd (.snd (.snd (.fst .here))))) ty2 rfl rfl rfl trivial rfl <| q 1 [(49, ti ((List.getD a0 (Int.toNat s4) (0, (0, 0, (List.replicate 2 ((List.replicate 32 (0 : Int)) : List (Int))), (List.replicate 2 ((List.replicate 32 (0 : Int)) : List (Int))), 0, 0, ()), (0, 0, (0, 0, 0, 0, (List.replicate 32 (0 : Int)), [], [], [], ()), ()), 0, 0, ())).2.2.2.1)), (50, ptr b7 174)] [0,1,5,6,7,8,9,47] rfl <| r_guard (by rfl) rfl ?_
    refine yl 2 ((.snd (.snd (.snd (.fst .here))))) ty2 rfl rfl rfl trivial rfl <| q 1 [(52, tb (((List.getD a0 (Int.toNat s4) (0, (0, 0, (List.replicate 2 ((List.replicate 32 (0 : Int)) : List (Int))), (List.replicate 2 ((List.replicate 32 (0 : Int)) : List (Int))), 0, 0, ()), (0, 0, (0, 0, 0, 0, (List.replicate 32 (0 : Int)), [], [], [], ()), ()), 0, 0, ())).2.2.2.1) != ((List.getD a1 (Int.toNat s4) (0, (0, 0, (List.replicate 2 ((List.replicate 32 (0 : Int)) : List (Int))), (List.replicate 2 ((List.replicate 32 (0 : Int)) : List (Int))), 0, 0, ()), (0, 0, (0, 0, 0, 0, (List.replicate 32 (0 : Int)), [], [], [], ()), ()), 0, 0, ())).2.2.2.1)))] [0,1,5,6,7,8,9,47] rfl ?_
    obtain ⟨t16, e, h⟩ := bnd_ex h; rw [e]
    exact p 1 [0,1,5,6,7,8,9,53] rfl <| zn <| r_less [0,1,5,6,7,8,9,53] rfl <| zt <| by exact r_meetk t16 () h rfl rfl
   intro o15 _ h
   rw [← hk14] at h
   try dsimp only at h
   refine p 1 [0,1,5,6,7,8,9,54] rfl <| bX h fun k18 hk18 h => ?_
   refine r_lsplitk (γ := Unit) 6 (fun (o19 : Bool) _ => [(0, .one (.sl 55 Y55) a0), (1, .one (.sl 55 Y55) a1), (5, ti s4), (6, ptr b6 0), (7, ptr b7 0), (8, ptr b8 0), (9, ptr b9 0), (60, tb o19)]) (fun _ _ => [Res.var b9 48 Y48 (((List.getD a1 (Int.toNat s4) (0, (0, 0, (List.replicate 2 ((List.replicate 32 (0 : Int)) : List (Int))), (List.replicate 2 ((List.replicate 32 (0 : Int)) : List (Int))), 0, 0, ()), (0, 0, (0, 0, 0, 0, (List.replicate 32 (0 : Int)), [], [], [], ()), ()), 0, 0, ())).2.2.1).2.2.1), Res.var b8 48 Y48 (((List.getD a0 (Int.toNat s4) (0, (0, 0, (List.replicate 2 ((List.replicate 32 (0 : Int)) : List (Int))), (List.replicate 2 ((List.replicate 32 (0 : Int)) : List (Int))), 0, 0, ()), (0, 0, (0, 0, 0, 0, (List.replicate 32 (0 : Int)), [], [], [], ()), ()), 0, 0, ())).2.2.1).2.2.1), Res.var b7 55 Y55 (List.getD a1 (Int.toNat s4) (0, (0, 0, (List.replicate 2 ((List.replicate 32 (0 : Int)) : List (Int))), (List.replicate 2 ((List.replicate 32 (0 : Int)) : List (Int))), 0, 0, ()), (0, 0, (0, 0, 0, 0, (List.replicate 32 (0 : Int)), [], [], [], ()), ()), 0, 0, ())), Res.var b6 55 Y55 (List.getD a0 (Int.toNat s4) (0, (0, 0, (List.replicate 2 ((List.replicate 32 (0 : Int)) : List (Int))), (List.replicate 2 ((List.replicate 32 (0 : Int)) : List (Int))), 0, 0, ()), (0, 0, (0, 0, 0, 0, (List.replicate 32 (0 : Int)), [], [], [], ()), ()), 0, 0, ()))]) k18 r ?_ ?_
   ·rcases Bool.eq_false_or_eq_true o15 with hh | hh
    ·rw [hh] at h ⊢
     rw [if_pos rfl] at h
     exact p 6 [0,1,5,6,7,8,9,60] rfl <| zn <| r_less [0,1,5,6,7,8,9,60] rfl <| zt <| by exact r_meetk true () h rfl rfl
    rw [hh] at h ⊢
    rw [if_neg (by decide)] at h
    refine p 1 [0,1,5,6,7,8,9,54,55] rfl <| r_guard (by rfl) rfl ?_
    refine yl 3 ((.snd (.snd (.snd (.snd (.fst .here)))))) ty3 rfl rfl rfl trivial rfl <| q 1 [(56, ti ((List.getD a0 (Int.toNat s4) (0, (0, 0, (List.replicate 2 ((List.replicate 32 (0 : Int)) : List (Int))), (List.replicate 2 ((List.replicate 32 (0 : Int)) : List (Int))), 0, 0, ()), (0, 0, (0, 0, 0, 0, (List.replicate 32 (0 : Int)), [], [], [], ()), ()), 0, 0, ())).2.2.2.2.1)), (57, ptr b7 175)] [0,1,5,6,7,8,9,54] rfl <| r_guard (by rfl) rfl ?_
    refine yl 2 ((.snd (.snd (.snd (.snd (.fst .here)))))) ty3 rfl rfl rfl trivial rfl <| q 1 [(59, tb (((List.getD a0 (Int.toNat s4) (0, (0, 0, (List.replicate 2 ((List.replicate 32 (0 : Int)) : List (Int))), (List.replicate 2 ((List.replicate 32 (0 : Int)) : List (Int))), 0, 0, ()), (0, 0, (0, 0, 0, 0, (List.replicate 32 (0 : Int)), [], [], [], ()), ()), 0, 0, ())).2.2.2.2.1) != ((List.getD a1 (Int.toNat s4) (0, (0, 0, (List.replicate 2 ((List.replicate 32 (0 : Int)) : List (Int))), (List.replicate 2 ((List.replicate 32 (0 : Int)) : List (Int))), 0, 0, ()), (0, 0, (0, 0, 0, 0, (List.replicate 32 (0 : Int)), [], [], [], ()), ()), 0, 0, ())).2.2.2.2.1)))] [0,1,5,6,7,8,9,54] rfl ?_
    obtain ⟨t20, e, h⟩ := bnd_ex h; rw [e]
    exact p 1 [0,1,5,6,7,8,9,60] rfl <| zn <| r_less [0,1,5,6,7,8,9,60] rfl <| zt <| by exact r_meetk t20 () h rfl rfl
   intro o19 _ h
   rw [← hk18] at h
   try dsimp only at h
   refine p 1 [0,1,5,6,7,8,9,61] rfl <| bX h fun k22 hk22 h => ?_
   refine r_lsplitk (γ := Unit) 8 (fun (o23 : Bool) _ => [(0, .one (.sl 55 Y55) a0), (1, .one (.sl 55 Y55) a1), (5, ti s4), (6, ptr b6 0), (7, ptr b7 0), (8, ptr b8 0), (9, ptr b9 0), (69, tb o23)]) (fun _ _ => [Res.var b9 48 Y48 (((List.getD a1 (Int.toNat s4) (0, (0, 0, (List.replicate 2 ((List.replicate 32 (0 : Int)) : List (Int))), (List.replicate 2 ((List.replicate 32 (0 : Int)) : List (Int))), 0, 0, ()), (0, 0, (0, 0, 0, 0, (List.replicate 32 (0 : Int)), [], [], [], ()), ()), 0, 0, ())).2.2.1).2.2.1), Res.var b8 48 Y48 (((List.getD a0 (Int.toNat s4) (0, (0, 0, (List.replicate 2 ((List.replicate 32 (0 : Int)) : List (Int))), (List.replicate 2 ((List.replicate 32 (0 : Int)) : List (Int))), 0, 0, ()), (0, 0, (0, 0, 0, 0, (List.replicate 32 (0 : Int)), [], [], [], ()), ()), 0, 0, ())).2.2.1).2.2.1), Res.var b7 55 Y55 (List.getD a1 (Int.toNat s4) (0, (0, 0, (List.replicate 2 ((List.replicate 32 (0 : Int)) : List (Int))), (List.replicate 2 ((List.replicate 32 (0 : Int)) : List (Int))), 0, 0, ()), (0, 0, (0, 0, 0, 0, (List.replicate 32 (0 : Int)), [], [], [], ()), ()), 0, 0, ())), Res.var b6 55 Y55 (List.getD a0 (Int.toNat s4) (0, (0, 0, (List.replicate 2 ((List.replicate 32 (0 : Int)) : List (Int))), (List.replicate 2 ((List.replicate 32 (0 : Int)) : List (Int))), 0, 0, ()), (0, 0, (0, 0, 0, 0, (List.replicate 32 (0 : Int)), [], [], [], ()), ()), 0, 0, ()))]) k22 r ?_ ?_
   ·rcases Bool.eq_false_or_eq_true o19 with hh | hh
    ·rw [hh] at h ⊢
     rw [if_pos rfl] at h
     exact p 8 [0,1,5,6,7,8,9,69] rfl <| zn <| r_less [0,1,5,6,7,8,9,69] rfl <| zt <| by exact r_meetk true () h rfl rfl
    rw [hh] at h ⊢
    rw [if_neg (by decide)] at h
    refine p 2 [0,1,5,6,7,8,9,61,63] rfl <| r_guard (by rfl) rfl ?_
    refine yl 3 ((.snd (.snd (.fst ((.fst .here)))))) ty3 rfl rfl rfl trivial rfl <| q 2 [(64, ti (((List.getD a0 (Int.toNat s4) (0, (0, 0, (List.replicate 2 ((List.replicate 32 (0 : Int)) : List (Int))), (List.replicate 2 ((List.replicate 32 (0 : Int)) : List (Int))), 0, 0, ()), (0, 0, (0, 0, 0, 0, (List.replicate 32 (0 : Int)), [], [], [], ()), ()), 0, 0, ())).2.2.1).1)), (66, ptr b7 133)] [0,1,5,6,7,8,9,61] rfl <| r_guard (by rfl) rfl ?_
    refine yl 2 ((.snd (.snd (.fst ((.fst .here)))))) ty3 rfl rfl rfl trivial rfl <| q 1 [(68, tb ((((List.getD a0 (Int.toNat s4) (0, (0, 0, (List.replicate 2 ((List.replicate 32 (0 : Int)) : List (Int))), (List.replicate 2 ((List.replicate 32 (0 : Int)) : List (Int))), 0, 0, ()), (0, 0, (0, 0, 0, 0, (List.replicate 32 (0 : Int)), [], [], [], ()), ()), 0, 0, ())).2.2.1).1) != (((List.getD a1 (Int.toNat s4) (0, (0, 0, (List.replicate 2 ((List.replicate 32 (0 : Int)) : List (Int))), (List.replicate 2 ((List.replicate 32 (0 : Int)) : List (Int))), 0, 0, ()), (0, 0, (0, 0, 0, 0, (List.replicate 32 (0 : Int)), [], [], [], ()), ()), 0, 0, ())).2.2.1).1)))] [0,1,5,6,7,8,9,61] rfl ?_
    obtain ⟨t24, e, h⟩ := bnd_ex h; rw [e]
    exact p 1 [0,1,5,6,7,8,9,69] rfl <| zn <| r_less [0,1,5,6,7,8,9,69] rfl <| zt <| by exact r_meetk t24 () h rfl rfl
   intro o23 _ h
   rw [← hk22] at h
   try dsimp only at h
   refine p 1 [0,1,5,6,7,8,9,70] rfl <| bX h fun k26 hk26 h => ?_
   refine r_lsplitk (γ := Unit) 8 (fun (o27 : Bool) _ => [(0, .one (.sl 55 Y55) a0), (1, .one (.sl 55 Y55) a1), (5, ti s4), (8, ptr b8 0), (9, ptr b9 0), (78, tb o27)]) (fun _ _ => [Res.var b9 48 Y48 (((List.getD a1 (Int.toNat s4) (0, (0, 0, (List.replicate 2 ((List.replicate 32 (0 : Int)) : List (Int))), (List.replicate 2 ((List.replicate 32 (0 : Int)) : List (Int))), 0, 0, ()), (0, 0, (0, 0, 0, 0, (List.replicate 32 (0 : Int)), [], [], [], ()), ()), 0, 0, ())).2.2.1).2.2.1), Res.var b8 48 Y48 (((List.getD a0 (Int.toNat s4) (0, (0, 0, (List.replicate 2 ((List.replicate 32 (0 : Int)) : List (Int))), (List.replicate 2 ((List.replicate 32 (0 : Int)) : List (Int))), 0, 0, ()), (0, 0, (0, 0, 0, 0, (List.replicate 32 (0 : Int)), [], [], [], ()), ()), 0, 0, ())).2.2.1).2.2.1), Res.var b7 55 Y55 (List.getD a1 (Int.toNat s4) (0, (0, 0, (List.replicate 2 ((List.replicate 32 (0 : Int)) : List (Int))), (List.replicate 2 ((List.replicate 32 (0 : Int)) : List (Int))), 0, 0, ()), (0, 0, (0, 0, 0, 0, (List.replicate 32 (0 : Int)), [], [], [], ()), ()), 0, 0, ())), Res.var b6 55 Y55 (List.getD a0 (Int.toNat s4) (0, (0, 0, (List.replicate 2 ((List.replicate 32 (0 : Int)) : List (Int))), (List.replicate 2 ((List.replicate 32 (0 : Int)) : List (Int))), 0, 0, ()), (0, 0, (0, 0, 0, 0, (List.replicate 32 (0 : Int)), [], [], [], ()), ()), 0, 0, ()))]) k26 r ?_ ?_
   ·rcases Bool.eq_false_or_eq_true o23 with hh | hh
    ·rw [hh] at h ⊢
     rw [if_pos rfl] at h
     exact p 8 [0,1,5,8,9,78] rfl <| zn <| r_less [0,1,5,8,9,78] rfl <| zt <| by exact r_meetk true () h rfl rfl
    rw [hh] at h ⊢
    rw [if_neg (by decide)] at h
    refine p 2 [0,1,5,7,8,9,70,72] rfl <| r_guard (by rfl) rfl ?_
    refine yl 3 ((.snd (.snd (.fst ((.snd (.fst .here))))))) ty3 rfl rfl rfl trivial rfl <| q 2 [(73, ti (((List.getD a0 (Int.toNat s4) (0, (0, 0, (List.replicate 2 ((List.replicate 32 (0 : Int)) : List (Int))), (List.replicate 2 ((List.replicate 32 (0 : Int)) : List (Int))), 0, 0, ()), (0, 0, (0, 0, 0, 0, (List.replicate 32 (0 : Int)), [], [], [], ()), ()), 0, 0, ())).2.2.1).2.1)), (75, ptr b7 134)] [0,1,5,8,9,70] rfl <| r_guard (by rfl) rfl ?_
    refine yl 2 ((.snd (.snd (.fst ((.snd (.fst .here))))))) ty3 rfl rfl rfl trivial rfl <| q 1 [(77, tb ((((List.getD a0 (Int.toNat s4) (0, (0, 0, (List.replicate 2 ((List.replicate 32 (0 : Int)) : List (Int))), (List.replicate 2 ((List.replicate 32 (0 : Int)) : List (Int))), 0, 0, ()), (0, 0, (0, 0, 0, 0, (List.replicate 32 (0 : Int)), [], [], [], ()), ()), 0, 0, ())).2.2.1).2.1) != (((List.getD a1 (Int.toNat s4) (0, (0, 0, (List.replicate 2 ((List.replicate 32 (0 : Int)) : List (Int))), (List.replicate 2 ((List.replicate 32 (0 : Int)) : List (Int))), 0, 0, ()), (0, 0, (0, 0, 0, 0, (List.replicate 32 (0 : Int)), [], [], [], ()), ()), 0, 0, ())).2.2.1).2.1)))] [0,1,5,8,9,70] rfl ?_
    obtain ⟨t28, e, h⟩ := bnd_ex h; rw [e]
    exact p 1 [0,1,5,8,9,78] rfl <| zn <| r_less [0,1,5,8,9,78] rfl <| zt <| by exact r_meetk t28 () h rfl rfl
   intro o27 _ h
   rw [← hk26] at h
   try dsimp only at h
   refine za <| rI h rfl (fun hc h => zu <| p 1 [4] rfl <| zf <| zT <| zB <| zT <| zT <| zB <| zT <| by cases h; exact r_ret1 rfl (.tmp rfl) (fun _ _ g => g) (fun _ _ _ => List.nil_sublist _)) fun hc h => zy <| p 1 [0,1,5,8,9,79] rfl <| yl 1 ((.fst .here)) ty3 rfl rfl rfl trivial rfl <| q 1 [(80, ti ((((List.getD a0 (Int.toNat s4) (0, (0, 0, (List.replicate 2 ((List.replicate 32 (0 : Int)) : List (Int))), (List.replicate 2 ((List.replicate 32 (0 : Int)) : List (Int))), 0, 0, ()), (0, 0, (0, 0, 0, 0, (List.replicate 32 (0 : Int)), [], [], [], ()), ()), 0, 0, ())).2.2.1).2.2.1).1)), (81, ptr b9 0)] [0,1,5,8,9] rfl <| yl 0 ((.fst .here)) ty3 rfl rfl rfl trivial rfl <| q 1 [(83, tb (((((List.getD a0 (Int.toNat s4) (0, (0, 0, (List.replicate 2 ((List.replicate 32 (0 : Int)) : List (Int))), (List.replicate 2 ((List.replicate 32 (0 : Int)) : List (Int))), 0, 0, ()), (0, 0, (0, 0, 0, 0, (List.replicate 32 (0 : Int)), [], [], [], ()), ()), 0, 0, ())).2.2.1).2.2.1).1) != ((((List.getD a1 (Int.toNat s4) (0, (0, 0, (List.replicate 2 ((List.replicate 32 (0 : Int)) : List (Int))), (List.replicate 2 ((List.replicate 32 (0 : Int)) : List (Int))), 0, 0, ()), (0, 0, (0, 0, 0, 0, (List.replicate 32 (0 : Int)), [], [], [], ()), ()), 0, 0, ())).2.2.1).2.2.1).1)))] [0,1,5,8,9] rfl ?_
   obtain ⟨t29, e, h⟩ := bnd_ex h; rw [e]
   refine p 1 [0,1,5,8,9,84] rfl <| bX h fun k31 hk31 h => ?_
   refine r_lsplitk (γ := Unit) 6 (fun (o32 : Bool) _ => [(0, .one (.sl 55 Y55) a0), (1, .one (.sl 55 Y55) a1), (5, ti s4), (8, ptr b8 0), (9, ptr b9 0), (90, tb o32)]) (fun _ _ => [Res.var b9 48 Y48 (((List.getD a1 (Int.toNat s4) (0, (0, 0, (List.replicate 2 ((List.replicate 32 (0 : Int)) : List (Int))), (List.replicate 2 ((List.replicate 32 (0 : Int)) : List (Int))), 0, 0, ()), (0, 0, (0, 0, 0, 0, (List.replicate 32 (0 : Int)), [], [], [], ()), ()), 0, 0, ())).2.2.1).2.2.1), Res.var b8 48 Y48 (((List.getD a0 (Int.toNat s4) (0, (0, 0, (List.replicate 2 ((List.replicate 32 (0 : Int)) : List (Int))), (List.replicate 2 ((List.replicate 32 (0 : Int)) : List (Int))), 0, 0, ()), (0, 0, (0, 0, 0, 0, (List.replicate 32 (0 : Int)), [], [], [], ()), ()), 0, 0, ())).2.2.1).2.2.1), Res.var b7 55 Y55 (List.getD a1 (Int.toNat s4) (0, (0, 0, (List.replicate 2 ((List.replicate 32 (0 : Int)) : List (Int))), (List.replicate 2 ((List.replicate 32 (0 : Int)) : List (Int))), 0, 0, ()), (0, 0, (0, 0, 0, 0, (List.replicate 32 (0 : Int)), [], [], [], ()), ()), 0, 0, ())), Res.var b6 55 Y55 (List.getD a0 (Int.toNat s4) (0, (0, 0, (List.replicate 2 ((List.replicate 32 (0 : Int)) : List (Int))), (List.replicate 2 ((List.replicate 32 (0 : Int)) : List (Int))), 0, 0, ()), (0, 0, (0, 0, 0, 0, (List.replicate 32 (0 : Int)), [], [], [], ()), ()), 0, 0, ()))]) k31 r ?_ ?_
   ·rcases Bool.eq_false_or_eq_true t29 with hh | hh
    ·rw [hh] at h ⊢
     rw [if_pos rfl] at h
     exact p 6 [0,1,5,8,9,90] rfl <| zn <| r_less [0,1,5,8,9,90] rfl <| zt <| by exact r_meetk true () h rfl rfl
    rw [hh] at h ⊢
    rw [if_neg (by decide)] at h
    refine p 1 [0,1,5,8,9,84,85] rfl <| r_guard (by rfl) rfl ?_
    refine yl 1 ((.snd (.fst .here))) ty2 rfl rfl rfl trivial rfl <| q 1 [(86, ti ((((List.getD a0 (Int.toNat s4) (0, (0, 0, (List.replicate 2 ((List.replicate 32 (0 : Int)) : List (Int))), (List.replicate 2 ((List.replicate 32 (0 : Int)) : List (Int))), 0, 0, ()), (0, 0, (0, 0, 0, 0, (List.replicate 32 (0 : Int)), [], [], [], ()), ()), 0, 0, ())).2.2.1).2.2.1).2.1)), (87, ptr b9 1)] [0,1,5,8,9,84] rfl <| r_guard (by rfl) rfl ?_
    refine yl 0 ((.snd (.fst .here))) ty2 rfl rfl rfl trivial rfl <| q 1 [(89, tb (((((List.getD a0 (Int.toNat s4) (0, (0, 0, (List.replicate 2 ((List.replicate 32 (0 : Int)) : List (Int))), (List.replicate 2 ((List.replicate 32 (0 : Int)) : List (Int))), 0, 0, ()), (0, 0, (0, 0, 0, 0, (List.replicate 32 (0 : Int)), [], [], [], ()), ()), 0, 0, ())).2.2.1).2.2.1).2.1) != ((((List.getD a1 (Int.toNat s4) (0, (0, 0, (List.replicate 2 ((List.replicate 32 (0 : Int)) : List (Int))), (List.replicate 2 ((List.replicate 32 (0 : Int)) : List (Int))), 0, 0, ()), (0, 0, (0, 0, 0, 0, (List.replicate 32 (0 : Int)), [], [], [], ()), ()), 0, 0, ())).2.2.1).2.2.1).2.1)))] [0,1,5,8,9,84] rfl ?_
    obtain ⟨t33, e, h⟩ := bnd_ex h; rw [e]
    exact p 1 [0,1,5,8,9,90] rfl <| zn <| r_less [0,1,5,8,9,90] rfl <| zt <| by exact r_meetk t33 () h rfl rfl
   intro o32 _ h
   rw [← hk31] at h
   try dsimp only at h
   refine p 1 [0,1,5,8,9,91] rfl <| bX h fun k35 hk35 h => ?_
   refine r_lsplitk (γ := Unit) 6 (fun (o36 : Bool) _ => [(0, .one (.sl 55 Y55) a0), (1, .one (.sl 55 Y55) a1), (5, ti s4), (8, ptr b8 0), (9, ptr b9 0), (97, tb o36)]) (fun _ _ => [Res.var b9 48 Y48 (((List.getD a1 (Int.toNat s4) (0, (0, 0, (List.replicate 2 ((List.replicate 32 (0 : Int)) : List (Int))), (List.replicate 2 ((List.replicate 32 (0 : Int)) : List (Int))), 0, 0, ()), (0, 0, (0, 0, 0, 0, (List.replicate 32 (0 : Int)), [], [], [], ()), ()), 0, 0, ())).2.2.1).2.2.1), Res.var b8 48 Y48 (((List.getD a0 (Int.toNat s4) (0, (0, 0, (List.replicate 2 ((List.replicate 32 (0 : Int)) : List (Int))), (List.replicate 2 ((List.replicate 32 (0 : Int)) : List (Int))), 0, 0, ()), (0, 0, (0, 0, 0, 0, (List.replicate 32 (0 : Int)), [], [], [], ()), ()), 0, 0, ())).2.2.1).2.2.1), Res.var b7 55 Y55 (List.getD a1 (Int.toNat s4) (0, (0, 0, (List.replicate 2 ((List.replicate 32 (0 : Int)) : List (Int))), (List.replicate 2 ((List.replicate 32 (0 : Int)) : List (Int))), 0, 0, ()), (0, 0, (0, 0, 0, 0, (List.replicate 32 (0 : Int)), [], [], [], ()), ()), 0, 0, ())), Res.var b6 55 Y55 (List.getD a0 (Int.toNat s4) (0, (0, 0, (List.replicate 2 ((List.replicate 32 (0 : Int)) : List (Int))), (List.replicate 2 ((List.replicate 32 (0 : Int)) : List (Int))), 0, 0, ()), (0, 0, (0, 0, 0, 0, (List.replicate 32 (0 : Int)), [], [], [], ()), ()), 0, 0, ()))]) k35 r ?_ ?_
   ·rcases Bool.eq_false_or_eq_true o32 with hh | hh
    ·rw [hh] at h ⊢
     rw [if_pos rfl] at h
     exact p 6 [0,1,5,8,9,97] rfl <| zn <| r_less [0,1,5,8,9,97] rfl <| zt <| by exact r_meetk true () h rfl rfl
    rw [hh] at h ⊢
    rw [if_neg (by decide)] at h
    refine p 1 [0,1,5,8,9,91,92] rfl <| r_guard (by rfl) rfl ?_
    refine yl 1 ((.snd (.snd (.fst .here)))) ty2 rfl rfl rfl trivial rfl <| q 1 [(93, ti ((((List.getD a0 (Int.toNat s4) (0, (0, 0, (List.replicate 2 ((List.replicate 32 (0 : Int)) : List (Int))), (List.replicate 2 ((List.replicate 32 (0 : Int)) : List (Int))), 0, 0, ()), (0, 0, (0, 0, 0, 0, (List.replicate 32 (0 : Int)), [], [], [], ()), ()), 0, 0, ())).2.2.1).2.2.1).2.2.1)), (94, ptr b9 2)] [0,1,5,8,9,91] rfl <| r_guard (by rfl) rfl ?_
    refine yl 0 ((.snd (.snd (.fst .here)))) ty2 rfl rfl rfl trivial rfl <| q 1 [(96, tb (((((List.getD a0 (Int.toNat s4) (0, (0, 0, (List.replicate 2 ((List.replicate 32 (0 : Int)) : List (Int))), (List.replicate 2 ((List.replicate 32 (0 : Int)) : List (Int))), 0, 0, ()), (0, 0, (0, 0, 0, 0, (List.replicate 32 (0 : Int)), [], [], [], ()), ()), 0, 0, ())).2.2.1).2.2.1).2.2.1) != ((((List.getD a1 (Int.toNat s4) (0, (0, 0, (List.replicate 2 ((List.replicate 32 (0 : Int)) : List (Int))), (List.replicate 2 ((List.replicate 32 (0 : Int)) : List (Int))), 0, 0, ()), (0, 0, (0, 0, 0, 0, (List.replicate 32 (0 : Int)), [], [], [], ()), ()), 0, 0, ())).2.2.1).2.2.1).2.2.1)))] [0,1,5,8,9,91] rfl ?_
    obtain ⟨t37, e, h⟩ := bnd_ex h; rw [e]
    exact p 1 [0,1,5,8,9,97] rfl <| zn <| r_less [0,1,5,8,9,97] rfl <| zt <| by exact r_meetk t37 () h rfl rfl
   intro o36 _ h
   rw [← hk35] at h
   try dsimp only at h
   refine p 1 [0,1,5,8,9,98] rfl <| bX h fun k39 hk39 h => ?_
   refine r_lsplitk (γ := Unit) 6 (fun (o40 : Bool) _ => [(0, .one (.sl 55 Y55) a0), (1, .one (.sl 55 Y55) a1), (5, ti s4), (8, ptr b8 0), (9, ptr b9 0), (104, tb o40)]) (fun _ _ => [Res.var b9 48 Y48 (((List.getD a1 (Int.toNat s4) (0, (0, 0, (List.replicate 2 ((List.replicate 32 (0 : Int)) : List (Int))), (List.replicate 2 ((List.replicate 32 (0 : Int)) : List (Int))), 0, 0, ()), (0, 0, (0, 0, 0, 0, (List.replicate 32 (0 : Int)), [], [], [], ()), ()), 0, 0, ())).2.2.1).2.2.1), Res.var b8 48 Y48 (((List.getD a0 (Int.toNat s4) (0, (0, 0, (List.replicate 2 ((List.replicate 32 (0 : Int)) : List (Int))), (List.replicate 2 ((List.replicate 32 (0 : Int)) : List (Int))), 0, 0, ()), (0, 0, (0, 0, 0, 0, (List.replicate 32 (0 : Int)), [], [], [], ()), ()), 0, 0, ())).2.2.1).2.2.1), Res.var b7 55 Y55 (List.getD a1 (Int.toNat s4) (0, (0, 0, (List.replicate 2 ((List.replicate 32 (0 : Int)) : List (Int))), (List.replicate 2 ((List.replicate 32 (0 : Int)) : List (Int))), 0, 0, ()), (0, 0, (0, 0, 0, 0, (List.replicate 32 (0 : Int)), [], [], [], ()), ()), 0, 0, ())), Res.var b6 55 Y55 (List.getD a0 (Int.toNat s4) (0, (0, 0, (List.replicate 2 ((List.replicate 32 (0 : Int)) : List (Int))), (List.replicate 2 ((List.replicate 32 (0 : Int)) : List (Int))), 0, 0, ()), (0, 0, (0, 0, 0, 0, (List.replicate 32 (0 : Int)), [], [], [], ()), ()), 0, 0, ()))]) k39 r ?_ ?_
   ·rcases Bool.eq_false_or_eq_true o36 with hh | hh
    ·rw [hh] at h ⊢
     rw [if_pos rfl] at h
     exact p 6 [0,1,5,8,9,104] rfl <| zn <| r_less [0,1,5,8,9,104] rfl <| zt <| by exact r_meetk true () h rfl rfl
    rw [hh] at h ⊢
    rw [if_neg (by decide)] at h
    refine p 1 [0,1,5,8,9,98,99] rfl <| r_guard (by rfl) rfl ?_
    refine yl 1 ((.snd (.snd (.snd (.fst .here))))) ty2 rfl rfl rfl trivial rfl <| q 1 [(100, ti ((((List.getD a0 (Int.toNat s4) (0, (0, 0, (List.replicate 2 ((List.replicate 32 (0 : Int)) : List (Int))), (List.replicate 2 ((List.replicate 32 (0 : Int)) : List (Int))), 0, 0, ()), (0, 0, (0, 0, 0, 0, (List.replicate 32 (0 : Int)), [], [], [], ()), ()), 0, 0, ())).2.2.1).2.2.1).2.2.2.1)), (101, ptr b9 3)] [0,1,5,8,9,98] rfl <| r_guard (by rfl) rfl ?_
    refine yl 0 ((.snd (.snd (.snd (.fst .here))))) ty2 rfl rfl rfl trivial rfl <| q 1 [(103, tb (((((List.getD a0 (Int.toNat s4) (0, (0, 0, (List.replicate 2 ((List.replicate 32 (0 : Int)) : List (Int))), (List.replicate 2 ((List.replicate 32 (0 : Int)) : List (Int))), 0, 0, ()), (0, 0, (0, 0, 0, 0, (List.replicate 32 (0 : Int)), [], [], [], ()), ()), 0, 0, ())).2.2.1).2.2.1).2.2.2.1) != ((((List.getD a1 (Int.toNat s4) (0, (0, 0, (List.replicate 2 ((List.replicate 32 (0 : Int)) : List (Int))), (List.replicate 2 ((List.replicate 32 (0 : Int)) : List (Int))), 0, 0, ()), (0, 0, (0, 0, 0, 0, (List.replicate 32 (0 : Int)), [], [], [], ()), ()), 0, 0, ())).2.2.1).2.2.1).2.2.2.1)))] [0,1,5,8,9,98] rfl ?_
    obtain ⟨t41, e, h⟩ := bnd_ex h; rw [e]
    exact p 1 [0,1,5,8,9,104] rfl <| zn <| r_less [0,1,5,8,9,104] rfl <| zt <| by exact r_meetk t41 () h rfl rfl
   intro o40 _ h
   rw [← hk39] at h
   try dsimp only at h
   refine p 1 [0,1,5,8,9,105] rfl ?_
   refine r_lsplit (γ := Unit) 6 (fun _ => [(0, .one (.sl 55 Y55) a0), (1, .one (.sl 55 Y55) a1), (5, ti s4), (8, ptr b8 0), (9, ptr b9 0), (111, tb (o40 || (!eqD (.arr 32 (.int .u8)) ((((List.getD a0 (Int.toNat s4) (0, (0, 0, (List.replicate 2 ((List.replicate 32 (0 : Int)) : List (Int))), (List.replicate 2 ((List.replicate 32 (0 : Int)) : List (Int))), 0, 0, ()), (0, 0, (0, 0, 0, 0, (List.replicate 32 (0 : Int)), [], [], [], ()), ()), 0, 0, ())).2.2.1).2.2.1).2.2.2.2.1) ((((List.getD a1 (Int.toNat s4) (0, (0, 0, (List.replicate 2 ((List.replicate 32 (0 : Int)) : List (Int))), (List.replicate 2 ((List.replicate 32 (0 : Int)) : List (Int))), 0, 0, ()), (0, 0, (0, 0, 0, 0, (List.replicate 32 (0 : Int)), [], [], [], ()), ()), 0, 0, ())).2.2.1).2.2.1).2.2.2.2.1))))]) (fun _ => [Res.var b9 48 Y48 (((List.getD a1 (Int.toNat s4) (0, (0, 0, (List.replicate 2 ((List.replicate 32 (0 : Int)) : List (Int))), (List.replicate 2 ((List.replicate 32 (0 : Int)) : List (Int))), 0, 0, ()), (0, 0, (0, 0, 0, 0, (List.replicate 32 (0 : Int)), [], [], [], ()), ()), 0, 0, ())).2.2.1).2.2.1), Res.var b8 48 Y48 (((List.getD a0 (Int.toNat s4) (0, (0, 0, (List.replicate 2 ((List.replicate 32 (0 : Int)) : List (Int))), (List.replicate 2 ((List.replicate 32 (0 : Int)) : List (Int))), 0, 0, ()), (0, 0, (0, 0, 0, 0, (List.replicate 32 (0 : Int)), [], [], [], ()), ()), 0, 0, ())).2.2.1).2.2.1), Res.var b7 55 Y55 (List.getD a1 (Int.toNat s4) (0, (0, 0, (List.replicate 2 ((List.replicate 32 (0 : Int)) : List (Int))), (List.replicate 2 ((List.replicate 32 (0 : Int)) : List (Int))), 0, 0, ()), (0, 0, (0, 0, 0, 0, (List.replicate 32 (0 : Int)), [], [], [], ()), ()), 0, 0, ())), Res.var b6 55 Y55 (List.getD a0 (Int.toNat s4) (0, (0, 0, (List.replicate 2 ((List.replicate 32 (0 : Int)) : List (Int))), (List.replicate 2 ((List.replicate 32 (0 : Int)) : List (Int))), 0, 0, ()), (0, 0, (0, 0, 0, 0, (List.replicate 32 (0 : Int)), [], [], [], ()), ()), 0, 0, ()))]) ?_ (fun _ => ?_)
   ·clear h
    rcases Bool.eq_false_or_eq_true o40 with hh | hh
    ·rw [hh]
     exact p 6 [0,1,5,8,9,111] rfl <| za <| by exact r_meetg () rfl rfl
    rw [hh]
    refine p 1 [0,1,5,8,9,105,106] rfl <| r_guard (by rfl) rfl ?_
    refine yl 1 ((.snd (.snd (.snd (.snd (.fst .here)))))) ty34 rfl rfl rfl trivial rfl <| q 1 [(107, .one (.arr 32 (.int .u8)) ((((List.getD a0 (Int.toNat s4) (0, (0, 0, (List.replicate 2 ((List.replicate 32 (0 : Int)) : List (Int))), (List.replicate 2 ((List.replicate 32 (0 : Int)) : List (Int))), 0, 0, ()), (0, 0, (0, 0, 0, 0, (List.replicate 32 (0 : Int)), [], [], [], ()), ()), 0, 0, ())).2.2.1).2.2.1).2.2.2.2.1)), (108, ptr b9 4)] [0,1,5,8,9,105] rfl <| r_guard (by rfl) rfl ?_
    refine yl 0 ((.snd (.snd (.snd (.snd (.fst .here)))))) ty34 rfl rfl rfl trivial rfl <| r_guard (by rfl) rfl ?_
    refine y (y_nes 20 rfl rfl rfl rfl ty34 rfl kt34 eg34) rfl ?_
    exact q 1 [(111, tb (!eqD (.arr 32 (.int .u8)) ((((List.getD a0 (Int.toNat s4) (0, (0, 0, (List.replicate 2 ((List.replicate 32 (0 : Int)) : List (Int))), (List.replicate 2 ((List.replicate 32 (0 : Int)) : List (Int))), 0, 0, ()), (0, 0, (0, 0, 0, 0, (List.replicate 32 (0 : Int)), [], [], [], ()), ()), 0, 0, ())).2.2.1).2.2.1).2.2.2.2.1) ((((List.getD a1 (Int.toNat s4) (0, (0, 0, (List.replicate 2 ((List.replicate 32 (0 : Int)) : List (Int))), (List.replicate 2 ((List.replicate 32 (0 : Int)) : List (Int))), 0, 0, ()), (0, 0, (0, 0, 0, 0, (List.replicate 32 (0 : Int)), [], [], [], ()), ()), 0, 0, ())).2.2.1).2.2.1).2.2.2.2.1)))] [0,1,5,8,9] rfl <| r_less [0,1,5,8,9,111] rfl <| za <| by exact r_meetg () rfl rfl
   refine q 1 [(112, tb (o40 || (!eqD (.arr 32 (.int .u8)) ((((List.getD a0 (Int.toNat s4) (0, (0, 0, (List.replicate 2 ((List.replicate 32 (0 : Int)) : List (Int))), (List.replicate 2 ((List.replicate 32 (0 : Int)) : List (Int))), 0, 0, ()), (0, 0, (0, 0, 0, 0, (List.replicate 32 (0 : Int)), [], [], [], ()), ()), 0, 0, ())).2.2.1).2.2.1).2.2.2.2.1) ((((List.getD a1 (Int.toNat s4) (0, (0, 0, (List.replicate 2 ((List.replicate 32 (0 : Int)) : List (Int))), (List.replicate 2 ((List.replicate 32 (0 : Int)) : List (Int))), 0, 0, ()), (0, 0, (0, 0, 0, 0, (List.replicate 32 (0 : Int)), [], [], [], ()), ()), 0, 0, ())).2.2.1).2.2.1).2.2.2.2.1))))] [0,1,5,8,9] rfl ?_
   obtain ⟨t43, e, h⟩ := bnd_ex h; rw [e]
   refine bX h fun k45 hk45 h => ?_
   refine r_lsplitk (γ := Unit) 6 (fun (o46 : Bool) _ => [(0, .one (.sl 55 Y55) a0), (1, .one (.sl 55 Y55) a1), (5, ti s4), (8, ptr b8 0), (9, ptr b9 0), (118, tb o46)]) (fun _ _ => [Res.var b9 48 Y48 (((List.getD a1 (Int.toNat s4) (0, (0, 0, (List.replicate 2 ((List.replicate 32 (0 : Int)) : List (Int))), (List.replicate 2 ((List.replicate 32 (0 : Int)) : List (Int))), 0, 0, ()), (0, 0, (0, 0, 0, 0, (List.replicate 32 (0 : Int)), [], [], [], ()), ()), 0, 0, ())).2.2.1).2.2.1), Res.var b8 48 Y48 (((List.getD a0 (Int.toNat s4) (0, (0, 0, (List.replicate 2 ((List.replicate 32 (0 : Int)) : List (Int))), (List.replicate 2 ((List.replicate 32 (0 : Int)) : List (Int))), 0, 0, ()), (0, 0, (0, 0, 0, 0, (List.replicate 32 (0 : Int)), [], [], [], ()), ()), 0, 0, ())).2.2.1).2.2.1), Res.var b7 55 Y55 (List.getD a1 (Int.toNat s4) (0, (0, 0, (List.replicate 2 ((List.replicate 32 (0 : Int)) : List (Int))), (List.replicate 2 ((List.replicate 32 (0 : Int)) : List (Int))), 0, 0, ()), (0, 0, (0, 0, 0, 0, (List.replicate 32 (0 : Int)), [], [], [], ()), ()), 0, 0, ())), Res.var b6 55 Y55 (List.getD a0 (Int.toNat s4) (0, (0, 0, (List.replicate 2 ((List.replicate 32 (0 : Int)) : List (Int))), (List.replicate 2 ((List.replicate 32 (0 : Int)) : List (Int))), 0, 0, ()), (0, 0, (0, 0, 0, 0, (List.replicate 32 (0 : Int)), [], [], [], ()), ()), 0, 0, ()))]) k45 r ?_ ?_
   ·rcases Bool.eq_false_or_eq_true t43 with hh | hh
    ·rw [hh] at h ⊢
     rw [if_pos rfl] at h
     exact p 6 [0,1,5,8,9,118] rfl <| zn <| r_less [0,1,5,8,9,118] rfl <| zt <| by exact r_meetk true () h rfl rfl
    rw [hh] at h ⊢
    rw [if_neg (by decide)] at h
    refine p 1 [0,1,5,8,9,112,113] rfl <| r_guard (by rfl) rfl ?_
    refine yl 1 ((.snd (.snd (.snd (.snd (.snd (.fst .here))))))) ty9 rfl rfl rfl trivial rfl <| q 1 [(114, ts ((((List.getD a0 (Int.toNat s4) (0, (0, 0, (List.replicate 2 ((List.replicate 32 (0 : Int)) : List (Int))), (List.replicate 2 ((List.replicate 32 (0 : Int)) : List (Int))), 0, 0, ()), (0, 0, (0, 0, 0, 0, (List.replicate 32 (0 : Int)), [], [], [], ()), ()), 0, 0, ())).2.2.1).2.2.1).2.2.2.2.2.1)), (115, ptr b9 36)] [0,1,5,8,9,112] rfl <| r_guard (by rfl) rfl ?_
    refine yl 0 ((.snd (.snd (.snd (.snd (.snd (.fst .here))))))) ty9 rfl rfl rfl trivial rfl <| q 1 [(117, tb (((((List.getD a0 (Int.toNat s4) (0, (0, 0, (List.replicate 2 ((List.replicate 32 (0 : Int)) : List (Int))), (List.replicate 2 ((List.replicate 32 (0 : Int)) : List (Int))), 0, 0, ()), (0, 0, (0, 0, 0, 0, (List.replicate 32 (0 : Int)), [], [], [], ()), ()), 0, 0, ())).2.2.1).2.2.1).2.2.2.2.2.1) != ((((List.getD a1 (Int.toNat s4) (0, (0, 0, (List.replicate 2 ((List.replicate 32 (0 : Int)) : List (Int))), (List.replicate 2 ((List.replicate 32 (0 : Int)) : List (Int))), 0, 0, ()), (0, 0, (0, 0, 0, 0, (List.replicate 32 (0 : Int)), [], [], [], ()), ()), 0, 0, ())).2.2.1).2.2.1).2.2.2.2.2.1)))] [0,1,5,8,9,112] rfl ?_
    obtain ⟨t47, e, h⟩ := bnd_ex h; rw [e]
    exact p 1 [0,1,5,8,9,118] rfl <| zn <| r_less [0,1,5,8,9,118] rfl <| zt <| by exact r_meetk t47 () h rfl rfl
   intro o46 _ h
   rw [← hk45] at h
   try dsimp only at h
   refine p 1 [0,1,5,8,9,119] rfl <| bX h fun k49 hk49 h => ?_
   refine r_lsplitk (γ := Unit) 6 (fun (o50 : Bool) _ => [(0, .one (.sl 55 Y55) a0), (1, .one (.sl 55 Y55) a1), (5, ti s4), (8, ptr b8 0), (9, ptr b9 0), (125, tb o50)]) (fun _ _ => [Res.var b9 48 Y48 (((List.getD a1 (Int.toNat s4) (0, (0, 0, (List.replicate 2 ((List.replicate 32 (0 : Int)) : List (Int))), (List.replicate 2 ((List.replicate 32 (0 : Int)) : List (Int))), 0, 0, ()), (0, 0, (0, 0, 0, 0, (List.replicate 32 (0 : Int)), [], [], [], ()), ()), 0, 0, ())).2.2.1).2.2.1), Res.var b8 48 Y48 (((List.getD a0 (Int.toNat s4) (0, (0, 0, (List.replicate 2 ((List.replicate 32 (0 : Int)) : List (Int))), (List.replicate 2 ((List.replicate 32 (0 : Int)) : List (Int))), 0, 0, ()), (0, 0, (0, 0, 0, 0, (List.replicate 32 (0 : Int)), [], [], [], ()), ()), 0, 0, ())).2.2.1).2.2.1), Res.var b7 55 Y55 (List.getD a1 (Int.toNat s4) (0, (0, 0, (List.replicate 2 ((List.replicate 32 (0 : Int)) : List (Int))), (List.replicate 2 ((List.replicate 32 (0 : Int)) : List (Int))), 0, 0, ()), (0, 0, (0, 0, 0, 0, (List.replicate 32 (0 : Int)), [], [], [], ()), ()), 0, 0, ())), Res.var b6 55 Y55 (List.getD a0 (Int.toNat s4) (0, (0, 0, (List.replicate 2 ((List.replicate 32 (0 : Int)) : List (Int))), (List.replicate 2 ((List.replicate 32 (0 : Int)) : List (Int))), 0, 0, ()), (0, 0, (0, 0, 0, 0, (List.replicate 32 (0 : Int)), [], [], [], ()), ()), 0, 0, ()))]) k49 r ?_ ?_
   ·rcases Bool.eq_false_or_eq_true o46 with hh | hh
    ·rw [hh] at h ⊢
     rw [if_pos rfl] at h
     exact p 6 [0,1,5,8,9,125] rfl <| zn <| r_less [0,1,5,8,9,125] rfl <| zt <| by exact r_meetk true () h rfl rfl
    rw [hh] at h ⊢
    rw [if_neg (by decide)] at h
    refine p 1 [0,1,5,8,9,119,120] rfl <| r_guard (by rfl) rfl ?_
    refine yl 1 ((.snd (.snd (.snd (.snd (.snd (.snd (.fst .here)))))))) ty9 rfl rfl rfl trivial rfl <| q 1 [(121, ts ((((List.getD a0 (Int.toNat s4) (0, (0, 0, (List.replicate 2 ((List.replicate 32 (0 : Int)) : List (Int))), (List.replicate 2 ((List.replicate 32 (0 : Int)) : List (Int))), 0, 0, ()), (0, 0, (0, 0, 0, 0, (List.replicate 32 (0 : Int)), [], [], [], ()), ()), 0, 0, ())).2.2.1).2.2.1).2.2.2.2.2.2.1)), (122, ptr b9 37)] [0,1,5,8,9,119] rfl <| r_guard (by rfl) rfl ?_
    refine yl 0 ((.snd (.snd (.snd (.snd (.snd (.snd (.fst .here)))))))) ty9 rfl rfl rfl trivial rfl <| q 1 [(124, tb (((((List.getD a0 (Int.toNat s4) (0, (0, 0, (List.replicate 2 ((List.replicate 32 (0 : Int)) : List (Int))), (List.replicate 2 ((List.replicate 32 (0 : Int)) : List (Int))), 0, 0, ()), (0, 0, (0, 0, 0, 0, (List.replicate 32 (0 : Int)), [], [], [], ()), ()), 0, 0, ())).2.2.1).2.2.1).2.2.2.2.2.2.1) != ((((List.getD a1 (Int.toNat s4) (0, (0, 0, (List.replicate 2 ((List.replicate 32 (0 : Int)) : List (Int))), (List.replicate 2 ((List.replicate 32 (0 : Int)) : List (Int))), 0, 0, ()), (0, 0, (0, 0, 0, 0, (List.replicate 32 (0 : Int)), [], [], [], ()), ()), 0, 0, ())).2.2.1).2.2.1).2.2.2.2.2.2.1)))] [0,1,5,8,9,119] rfl ?_
    obtain ⟨t51, e, h⟩ := bnd_ex h; rw [e]
    exact p 1 [0,1,5,8,9,125] rfl <| zn <| r_less [0,1,5,8,9,125] rfl <| zt <| by exact r_meetk t51 () h rfl rfl
   intro o50 _ h
   rw [← hk49] at h
   try dsimp only at h
   refine p 1 [0,1,5,8,9,126] rfl <| bX h fun k53 hk53 h => ?_
   refine r_lsplitk (γ := Unit) 7 (fun (o54 : Bool) _ => [(0, .one (.sl 55 Y55) a0), (1, .one (.sl 55 Y55) a1), (5, ti s4), (133, tb o54)]) (fun _ _ => [Res.var b9 48 Y48 (((List.getD a1 (Int.toNat s4) (0, (0, 0, (List.replicate 2 ((List.replicate 32 (0 : Int)) : List (Int))), (List.replicate 2 ((List.replicate 32 (0 : Int)) : List (Int))), 0, 0, ()), (0, 0, (0, 0, 0, 0, (List.replicate 32 (0 : Int)), [], [], [], ()), ()), 0, 0, ())).2.2.1).2.2.1), Res.var b8 48 Y48 (((List.getD a0 (Int.toNat s4) (0, (0, 0, (List.replicate 2 ((List.replicate 32 (0 : Int)) : List (Int))), (List.replicate 2 ((List.replicate 32 (0 : Int)) : List (Int))), 0, 0, ()), (0, 0, (0, 0, 0, 0, (List.replicate 32 (0 : Int)), [], [], [], ()), ()), 0, 0, ())).2.2.1).2.2.1), Res.var b7 55 Y55 (List.getD a1 (Int.toNat s4) (0, (0, 0, (List.replicate 2 ((List.replicate 32 (0 : Int)) : List (Int))), (List.replicate 2 ((List.replicate 32 (0 : Int)) : List (Int))), 0, 0, ()), (0, 0, (0, 0, 0, 0, (List.replicate 32 (0 : Int)), [], [], [], ()), ()), 0, 0, ())), Res.var b6 55 Y55 (List.getD a0 (Int.toNat s4) (0, (0, 0, (List.replicate 2 ((List.replicate 32 (0 : Int)) : List (Int))), (List.replicate 2 ((List.replicate 32 (0 : Int)) : List (Int))), 0, 0, ()), (0, 0, (0, 0, 0, 0, (List.replicate 32 (0 : Int)), [], [], [], ()), ()), 0, 0, ()))]) k53 r ?_ ?_
   ·rcases Bool.eq_false_or_eq_true o50 with hh | hh
    ·rw [hh] at h ⊢
     rw [if_pos rfl] at h
     exact p 7 [0,1,5,133] rfl <| zn <| r_less [0,1,5,133] rfl <| zt <| by exact r_meetk true () h rfl rfl
    rw [hh] at h ⊢
    rw [if_neg (by decide)] at h
    refine p 1 [0,1,5,9,126,127] rfl <| r_guard (by rfl) rfl ?_
    refine yl 1 ((.snd (.snd (.snd (.snd (.snd (.snd (.snd (.fst .here))))))))) ty46 rfl rfl rfl trivial rfl <| q 1 [(128, .one (.sl 61 Y61) ((((List.getD a0 (Int.toNat s4) (0, (0, 0, (List.replicate 2 ((List.replicate 32 (0 : Int)) : List (Int))), (List.replicate 2 ((List.replicate 32 (0 : Int)) : List (Int))), 0, 0, ()), (0, 0, (0, 0, 0, 0, (List.replicate 32 (0 : Int)), [], [], [], ()), ()), 0, 0, ())).2.2.1).2.2.1).2.2.2.2.2.2.2.1)), (129, ptr b9 38)] [0,1,5,126] rfl <| r_guard (by rfl) rfl ?_
    refine yl 0 ((.snd (.snd (.snd (.snd (.snd (.snd (.snd (.fst .here))))))))) ty46 rfl rfl rfl trivial rfl <| r_guard (by rfl) rfl ?_
    exact cB h fun r55 hr55 h => r_calls (escrowref25_SameFates_ok _ _ _ hr55) (by kernel_rfl) rfl rfl <| p 2 [0,1,5,133] rfl <| zn <| r_less [0,1,5,133] rfl <| zt <| by exact r_meetk (!r55) () h rfl rfl
   intro o54 _ h
   rw [← hk53] at h
   try dsimp only at h
   refine za <| rI h rfl (fun hc h => zu <| p 1 [4] rfl <| zf <| zB <| zT <| zT <| zB <| zT <| by cases h; exact r_ret1 rfl (.tmp rfl) (fun _ _ g => g) (fun _ _ _ => List.nil_sublist _)) fun hc h => zk <| zi <| zt <| zr <| p 3 [0,1,5] rfl ?_
   obtain ⟨i56, e, h⟩ := bnd_ex h; rw [e]
   exact za <| pk [] rfl <| r_less [0,1,5] rfl <| by exact r_backg i56 () (Nat.lt_succ_self _) h rfl rfl
  exact zx <| ze <| ze <| zq <| zt <| r_less [] rfl <| by exact r_meetk () () h rfl rfl
 refine zu <| p 1 [4] rfl <| zf ?_
 cases h
 exact r_ret1 rfl (.tmp rfl) (fun _ _ g => g) (fun _ _ _ => List.nil_sublist _)

theorem escrowlaw25_ScriptParses_ok (a0 : List Int) (r : Bool) (h : escrowlaw25_ScriptParses a0 = some r) : FnT Tryd.prog tabs 3 [ts a0] [] (fun _ => tb r) (fun _ => []) := by
 unfold escrowlaw25_ScriptParses at h
 refine enterT Tryd.func3 rfl 28 rfl rfl fun F hT => ?_
 refine zu <| p 1 [0] rfl <| za <| zs <| zu <| cB h fun r1 hr1 h => rcT hT [] (escrowlaw25_head_ok _ hr1) (by kernel_rfl) rfl rfl rfl fun _ => p 1 [0,8] rfl <| za <| rI h rfl (fun hc h => zu <| p 1 [2] rfl <| zf <| zT <| by cases h; exact r_ret1 rfl (.tmp rfl) (fun _ _ g => g) (fun _ _ _ => List.nil_sublist _)) fun hc h => ?_
 refine zy <| p 1 [0,10] rfl <| cB h fun r2 hr2 h => rcT hT [] (script_Parse_ok _ _ hr2) (by kernel_rfl) rfl rfl rfl fun v3 => q 5 [(3, .one (.raw (.slice none 0 0)) (tupv v3 0)), (4, ti r2.2)] [0] rfl <| zz <| p 1 [3,4,15] rfl <| cB h fun r4 hr4 h => rc [] (escrowref25_Parse_ok _ _ hr4) (by kernel_rfl) rfl rfl rfl fun v5 => q 5 [(5, .one (.raw (.slice none 0 0)) (tupv v5 0)), (6, ti r4.2)] [3,4] rfl <| zz <| q 4 [(22, tb (r2.2 == r4.2))] [3,5] rfl ?_
 obtain ⟨b6, e, h⟩ := bnd_ex h; rw [e]
 refine bX h fun k7 hk7 h => ?_
 refine r_lsplitk (γ := Unit) 5 (fun (o8 : Bool) _ => [(27, tb o8)]) (fun _ _ => []) k7 r ?_ ?_
 ·rcases Bool.eq_false_or_eq_true b6 with hh | hh
  ·rw [hh] at h ⊢
   rw [if_pos rfl] at h
   refine p 2 [22,23,24] rfl <| r_guard (by rfl) rfl ?_
   refine r_freeze (i := 0) (k := 24) rfl rfl ?_
   refine cB h fun r9 hr9 h => rc [] (escrowlaw25_own_ok _ _ hr9) (by kernel_rfl) rfl rfl rfl fun v10 => r_guard (by rfl) rfl ?_
   refine r_freeze (i := 1) (k := 23) rfl rfl ?_
   refine r_freeze (i := 0) (k := 25) rfl rfl ?_
   exact cB h fun r11 hr11 h => r_calls (escrowlaw25_same_ok _ _ _ hr11) (by kernel_rfl) rfl rfl <| p 1 [27] rfl <| zn <| r_less [27] rfl <| zt <| by exact r_meetk r11 () h rfl rfl
  rw [hh] at h ⊢
  rw [if_neg (by decide)] at h
  exact p 5 [27] rfl <| zn <| r_less [27] rfl <| pk [] rfl <| zt <| by exact r_meetk false () h rfl rfl
 intro o8 _ h
 rw [← hk7] at h
 try dsimp only at h
 refine p 1 [2] rfl <| zf ?_
 cases h
 exact r_ret1 rfl (.tmp rfl) (fun _ _ g => g) (fun _ _ _ => List.nil_sublist _)

end Sx
