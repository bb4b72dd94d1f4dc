/-
  Own work, printed by a program of the same hand. Each function of the code answers what its plain twin reckons.
-/
import Derived.Test.YtfdhpfodjaaloaaDoorWalk1
namespace Sx
open Go Go.Proofs
set_option maxRecDepth 10000
set_option maxHeartbeats 1000000
attribute [local irreducible] wpList

theorem escrowlaw25_same_ok (a0 : List (Int × (Int × Int × List (List (Int)) × List (List (Int)) × Int × Int × Unit) × (Int × Int × (Int × Int × Int × Int × List (Int) × List Int × List Int × (List (List Int × Int × Int × List Int × Unit)) × Unit) × Unit) × Int × Int × Unit)) (a1 : List (Int × (Int × Int × List (List (Int)) × List (List (Int)) × Int × Int × Unit) × (Int × Int × (Int × Int × Int × Int × List (Int) × List Int × List Int × (List (List Int × Int × Int × List Int × Unit)) × Unit) × Unit) × Int × Int × Unit)) (r : Bool) (h : escrowlaw25_same a0 a1 = some r) : Pure Tryd.prog 13 [.one (.sl 55 Y55) a0, .one (.sl 55 Y55) a1] (tb r) := by
 unfold escrowlaw25_same at h
 refine enter Tryd.func13 rfl 134 rfl rfl fun F => ?_
 refine zu <| p 1 [0,1] rfl <| za <| zs <| zu <| q 5 [(14, tb ((List.length a0 : Int) != (List.length a1 : Int)))] [0,1] rfl <| za <| rI h rfl (fun hc h => zu <| p 1 [4] rfl <| zf <| zT <| by cases h; exact r_ret1 rfl (.tmp rfl) (fun _ _ g => g) (fun _ _ _ => List.nil_sublist _)) fun hc h => zk <| zt <| jK h (γ := Unit) (fun (o2 : Unit) _ => []) (fun (o2 : Unit) _ => []) (fun k1 h => ?_) fun o2 gg h => ?_
 ·refine zu <| p 1 [0,1,5] rfl <| za <| zb <| r_less [0,1,5] rfl <| r_loopg (γ := Unit) (fun (s4 : Int) _ => [(0, .one (.sl 55 Y55) a0), (1, .one (.sl 55 Y55) a1), (5, ti s4)]) (fun (s4 : Int) _ => []) (escrowlaw25_same_l0 a0 a1 k1) 0 () h rfl rfl ?_
  clear h
  intro m5 s4 gg h
  cases m5 with
  | zero => cases h
  | succ m5 =>
  simp only [escrowlaw25_same_l0] at h
  refine zs <| zu <| q 4 [(5, ti s4), (18, tb (decide (s4 < (List.length a0 : Int))))] [0,1] rfl <| za <| rI h rfl (fun hc h => ?_) fun hc h => ?_
  ·refine zk <| zt <| zs <| zb <| zu <| p 2 [0,1,5,21,22] rfl <| iE h fun hc h => y (y_iref tabOk rfl rfl hc.1 hc.2 rfl ty55) rfl ?_
   refine y (y_ref rfl ty55) rfl ?_
   refine r_alloc (t := Y55) rfl zf55 rfl fun b6 => st 0 .here ty55 rfl rfl rfl rfl trivial <| zz <| p 2 [0,1,5,6,25,26] rfl <| iE h fun hc h => y (y_iref tabOk rfl rfl hc.1 hc.2 rfl ty55) rfl ?_
   refine y (y_ref rfl ty55) rfl ?_
   refine r_alloc (t := Y55) rfl zf55 rfl fun b7 => st 0 .here ty55 rfl rfl rfl rfl trivial <| zz <| p 2 [0,1,5,6,7,30] rfl <| yl 1 ((.snd (.snd (.fst ((.snd (.snd (.fst .here)))))))) ty48 rfl rfl rfl trivial rfl <| r_alloc (t := Y48) rfl zf48 rfl fun b8 => st 0 .here ty48 rfl rfl rfl rfl trivial <| zz <| p 2 [0,1,5,6,7,8,33] rfl <| yl 1 ((.snd (.snd (.fst ((.snd (.snd (.fst .here)))))))) ty48 rfl rfl rfl trivial rfl <| r_alloc (t := Y48) rfl zf48 rfl fun b9 => st 0 .here ty48 rfl rfl rfl rfl trivial <| za <| zs ?_
   refine zu <| p 1 [0,1,5,6,7,8,9,35] rfl <| yl 3 ((.fst .here)) ty3 rfl rfl rfl trivial rfl <| q 1 [(36, ti ((List.getD a0 (Int.toNat s4) (0, (0, 0, (List.replicate 2 ((List.replicate 32 (0 : Int)) : List (Int))), (List.replicate 2 ((List.replicate 32 (0 : Int)) : List (Int))), 0, 0, ()), (0, 0, (0, 0, 0, 0, (List.replicate 32 (0 : Int)), [], [], [], ()), ()), 0, 0, ())).1)), (37, ptr b7 0)] [0,1,5,6,7,8,9] rfl <| yl 2 ((.fst .here)) ty3 rfl rfl rfl trivial rfl <| q 1 [(39, tb (((List.getD a0 (Int.toNat s4) (0, (0, 0, (List.replicate 2 ((List.replicate 32 (0 : Int)) : List (Int))), (List.replicate 2 ((List.replicate 32 (0 : Int)) : List (Int))), 0, 0, ()), (0, 0, (0, 0, 0, 0, (List.replicate 32 (0 : Int)), [], [], [], ()), ()), 0, 0, ())).1) != ((List.getD a1 (Int.toNat s4) (0, (0, 0, (List.replicate 2 ((List.replicate 32 (0 : Int)) : List (Int))), (List.replicate 2 ((List.replicate 32 (0 : Int)) : List (Int))), 0, 0, ()), (0, 0, (0, 0, 0, 0, (List.replicate 32 (0 : Int)), [], [], [], ()), ()), 0, 0, ())).1)))] [0,1,5,6,7,8,9] rfl ?_
   obtain ⟨t10, e, h⟩ := bnd_ex h; rw [e]
   refine p 1 [0,1,5,6,7,8,9,40] rfl ?_
   refine r_lsplit (γ := Unit) 6 (fun _ => [(0, .one (.sl 55 Y55) a0), (1, .one (.sl 55 Y55) a1), (5, ti s4), (6, ptr b6 0), (7, ptr b7 0), (8, ptr b8 0), (9, ptr b9 0), (46, tb (t10 || (!eqD (.pair (.int .i64) (.pair (.int .i64) (.pair (.arr 2 (.arr 32 (.int .u8))) (.pair (.arr 2 (.arr 32 (.int .u8))) (.pair (.int .i64) (.pair (.int .i64) .unit)))))) ((List.getD a0 (Int.toNat s4) (0, (0, 0, (List.replicate 2 ((List.replicate 32 (0 : Int)) : List (Int))), (List.replicate 2 ((List.replicate 32 (0 : Int)) : List (Int))), 0, 0, ()), (0, 0, (0, 0, 0, 0, (List.replicate 32 (0 : Int)), [], [], [], ()), ()), 0, 0, ())).2.1) ((List.getD a1 (Int.toNat s4) (0, (0, 0, (List.replicate 2 ((List.replicate 32 (0 : Int)) : List (Int))), (List.replicate 2 ((List.replicate 32 (0 : Int)) : List (Int))), 0, 0, ()), (0, 0, (0, 0, 0, 0, (List.replicate 32 (0 : Int)), [], [], [], ()), ()), 0, 0, ())).2.1))))]) (fun _ => [Res.var b9 48 Y48 (((List.getD a1 (Int.toNat s4) (0, (0, 0, (List.replicate 2 ((List.replicate 32 (0 : Int)) : List (Int))), (List.replicate 2 ((List.replicate 32 (0 : Int)) : List (Int))), 0, 0, ()), (0, 0, (0, 0, 0, 0, (List.replicate 32 (0 : Int)), [], [], [], ()), ()), 0, 0, ())).2.2.1).2.2.1), Res.var b8 48 Y48 (((List.getD a0 (Int.toNat s4) (0, (0, 0, (List.replicate 2 ((List.replicate 32 (0 : Int)) : List (Int))), (List.replicate 2 ((List.replicate 32 (0 : Int)) : List (Int))), 0, 0, ()), (0, 0, (0, 0, 0, 0, (List.replicate 32 (0 : Int)), [], [], [], ()), ()), 0, 0, ())).2.2.1).2.2.1), Res.var b7 55 Y55 (List.getD a1 (Int.toNat s4) (0, (0, 0, (List.replicate 2 ((List.replicate 32 (0 : Int)) : List (Int))), (List.replicate 2 ((List.replicate 32 (0 : Int)) : List (Int))), 0, 0, ()), (0, 0, (0, 0, 0, 0, (List.replicate 32 (0 : Int)), [], [], [], ()), ()), 0, 0, ())), Res.var b6 55 Y55 (List.getD a0 (Int.toNat s4) (0, (0, 0, (List.replicate 2 ((List.replicate 32 (0 : Int)) : List (Int))), (List.replicate 2 ((List.replicate 32 (0 : Int)) : List (Int))), 0, 0, ()), (0, 0, (0, 0, 0, 0, (List.replicate 32 (0 : Int)), [], [], [], ()), ()), 0, 0, ()))]) ?_ (fun _ => ?_)
   ·clear h
    rcases Bool.eq_false_or_eq_true t10 with hh | hh
    ·rw [hh]
     exact p 6 [0,1,5,6,7,8,9,46] rfl <| za <| by exact r_meetg () rfl rfl
    rw [hh]
    refine p 1 [0,1,5,6,7,8,9,40,41] rfl <| r_guard (by rfl) rfl ?_
    refine yl 3 ((.snd (.fst .here))) ty53 rfl rfl rfl trivial rfl <| q 1 [(42, .one Y53 ((List.getD a0 (Int.toNat s4) (0, (0, 0, (List.replicate 2 ((List.replicate 32 (0 : Int)) : List (Int))), (List.replicate 2 ((List.replicate 32 (0 : Int)) : List (Int))), 0, 0, ()), (0, 0, (0, 0, 0, 0, (List.replicate 32 (0 : Int)), [], [], [], ()), ()), 0, 0, ())).2.1)), (43, ptr b7 1)] [0,1,5,6,7,8,9,40] rfl <| r_guard (by rfl) rfl ?_
    refine yl 2 ((.snd (.fst .here))) ty53 rfl rfl rfl trivial rfl <| r_guard (by rfl) rfl ?_
    refine y (y_nes 20 rfl rfl rfl rfl ty53 rfl kt53 eg53) rfl ?_
    exact q 1 [(46, tb (!eqD (.pair (.int .i64) (.pair (.int .i64) (.pair (.arr 2 (.arr 32 (.int .u8))) (.pair (.arr 2 (.arr 32 (.int .u8))) (.pair (.int .i64) (.pair (.int .i64) .unit)))))) ((List.getD a0 (Int.toNat s4) (0, (0, 0, (List.replicate 2 ((List.replicate 32 (0 : Int)) : List (Int))), (List.replicate 2 ((List.replicate 32 (0 : Int)) : List (Int))), 0, 0, ()), (0, 0, (0, 0, 0, 0, (List.replicate 32 (0 : Int)), [], [], [], ()), ()), 0, 0, ())).2.1) ((List.getD a1 (Int.toNat s4) (0, (0, 0, (List.replicate 2 ((List.replicate 32 (0 : Int)) : List (Int))), (List.replicate 2 ((List.replicate 32 (0 : Int)) : List (Int))), 0, 0, ()), (0, 0, (0, 0, 0, 0, (List.replicate 32 (0 : Int)), [], [], [], ()), ()), 0, 0, ())).2.1)))] [0,1,5,6,7,8,9] rfl <| r_less [0,1,5,6,7,8,9,46] rfl <| za <| by exact r_meetg () rfl rfl
   refine q 1 [(47, tb (t10 || (!eqD (.pair (.int .i64) (.pair (.int .i64) (.pair (.arr 2 (.arr 32 (.int .u8))) (.pair (.arr 2 (.arr 32 (.int .u8))) (.pair (.int .i64) (.pair (.int .i64) .unit)))))) ((List.getD a0 (Int.toNat s4) (0, (0, 0, (List.replicate 2 ((List.replicate 32 (0 : Int)) : List (Int))), (List.replicate 2 ((List.replicate 32 (0 : Int)) : List (Int))), 0, 0, ()), (0, 0, (0, 0, 0, 0, (List.replicate 32 (0 : Int)), [], [], [], ()), ()), 0, 0, ())).2.1) ((List.getD a1 (Int.toNat s4) (0, (0, 0, (List.replicate 2 ((List.replicate 32 (0 : Int)) : List (Int))), (List.replicate 2 ((List.replicate 32 (0 : Int)) : List (Int))), 0, 0, ()), (0, 0, (0, 0, 0, 0, (List.replicate 32 (0 : Int)), [], [], [], ()), ()), 0, 0, ())).2.1))))] [0,1,5,6,7,8,9] rfl ?_
   obtain ⟨t12, e, h⟩ := bnd_ex h; rw [e]
   refine bX h fun k14 hk14 h => ?_
   refine r_lsplitk (γ := Unit) 6 (fun (o15 : Bool) _ => [(0, .one (.sl 55 Y55) a0), (1, .one (.sl 55 Y55) a1), (5, ti s4), (6, ptr b6 0), (7, ptr b7 0), (8, ptr b8 0), (9, ptr b9 0), (53, tb o15)]) (fun _ _ => [Res.var b9 48 Y48 (((List.getD a1 (Int.toNat s4) (0, (0, 0, (List.replicate 2 ((List.replicate 32 (0 : Int)) : List (Int))), (List.replicate 2 ((List.replicate 32 (0 : Int)) : List (Int))), 0, 0, ()), (0, 0, (0, 0, 0, 0, (List.replicate 32 (0 : Int)), [], [], [], ()), ()), 0, 0, ())).2.2.1).2.2.1), Res.var b8 48 Y48 (((List.getD a0 (Int.toNat s4) (0, (0, 0, (List.replicate 2 ((List.replicate 32 (0 : Int)) : List (Int))), (List.replicate 2 ((List.replicate 32 (0 : Int)) : List (Int))), 0, 0, ()), (0, 0, (0, 0, 0, 0, (List.replicate 32 (0 : Int)), [], [], [], ()), ()), 0, 0, ())).2.2.1).2.2.1), Res.var b7 55 Y55 (List.getD a1 (Int.toNat s4) (0, (0, 0, (List.replicate 2 ((List.replicate 32 (0 : Int)) : List (Int))), (List.replicate 2 ((List.replicate 32 (0 : Int)) : List (Int))), 0, 0, ()), (0, 0, (0, 0, 0, 0, (List.replicate 32 (0 : Int)), [], [], [], ()), ()), 0, 0, ())), Res.var b6 55 Y55 (List.getD a0 (Int.toNat s4) (0, (0, 0, (List.replicate 2 ((List.replicate 32 (0 : Int)) : List (Int))), (List.replicate 2 ((List.replicate 32 (0 : Int)) : List (Int))), 0, 0, ()), (0, 0, (0, 0, 0, 0, (List.replicate 32 (0 : Int)), [], [], [], ()), ()), 0, 0, ()))]) k14 r ?_ ?_
   ·rcases Bool.eq_false_or_eq_true t12 with hh | hh
    ·rw [hh] at h ⊢
     rw [if_pos rfl] at h
     exact p 6 [0,1,5,6,7,8,9,53] rfl <| zn <| r_less [0,1,5,6,7,8,9,53] rfl <| zt <| by exact r_meetk true () h rfl rfl
    rw [hh] at h ⊢
    rw [if_neg (by decide)] at h
    refine p 1 [0,1,5,6,7,8,9,47,48] rfl <| r_guard (by rfl) rfl ?_
    refine yl 3 ((.snd (.snd (.snd (.fst .here))))) ty2 rfl rfl rfl trivial rfl <| q 1 [(49, ti ((List.getD a0 (Int.toNat s4) (0, (0, 0, (List.replicate 2 ((List.replicate 32 (0 : Int)) : List (Int))), (List.replicate 2 ((List.replicate 32 (0 : Int)) : List (Int))), 0, 0, ()), (0, 0, (0, 0, 0, 0, (List.replicate 32 (0 : Int)), [], [], [], ()), ()), 0, 0, ())).2.2.2.1)), (50, ptr b7 174)] [0,1,5,6,7,8,9,47] rfl <| r_guard (by rfl) rfl ?_
    refine yl 2 ((.snd (.snd (.snd (.fst .here))))) ty2 rfl rfl rfl trivial rfl <| q 1 [(52, tb (((List.getD a0 (Int.toNat s4) (0, (0, 0, (List.replicate 2 ((List.replicate 32 (0 : Int)) : List (Int))), (List.replicate 2 ((List.replicate 32 (0 : Int)) : List (Int))), 0, 0, ()), (0, 0, (0, 0, 0, 0, (List.replicate 32 (0 : Int)), [], [], [], ()), ()), 0, 0, ())).2.2.2.1) != ((List.getD a1 (Int.toNat s4) (0, (0, 0, (List.replicate 2 ((List.replicate 32 (0 : Int)) : List (Int))), (List.replicate 2 ((List.replicate 32 (0 : Int)) : List (Int))), 0, 0, ()), (0, 0, (0, 0, 0, 0, (List.replicate 32 (0 : Int)), [], [], [], ()), ()), 0, 0, ())).2.2.2.1)))] [0,1,5,6,7,8,9,47] rfl ?_
    obtain ⟨t16, e, h⟩ := bnd_ex h; rw [e]
    exact p 1 [0,1,5,6,7,8,9,53] rfl <| zn <| r_less [0,1,5,6,7,8,9,53] rfl <| zt <| by exact r_meetk t16 () h rfl rfl
   intro o15 _ h
   rw [← hk14] at h
   try dsimp only at h
   refine p 1 [0,1,5,6,7,8,9,54] rfl <| bX h fun k18 hk18 h => ?_
   refine r_lsplitk (γ := Unit) 6 (fun (o19 : Bool) _ => [(0, .one (.sl 55 Y55) a0), (1, .one (.sl 55 Y55) a1), (5, ti s4), (6, ptr b6 0), (7, ptr b7 0), (8, ptr b8 0), (9, ptr b9 0), (60, tb o19)]) (fun _ _ => [Res.var b9 48 Y48 (((List.getD a1 (Int.toNat s4) (0, (0, 0, (List.replicate 2 ((List.replicate 32 (0 : Int)) : List (Int))), (List.replicate 2 ((List.replicate 32 (0 : Int)) : List (Int))), 0, 0, ()), (0, 0, (0, 0, 0, 0, (List.replicate 32 (0 : Int)), [], [], [], ()), ()), 0, 0, ())).2.2.1).2.2.1), Res.var b8 48 Y48 (((List.getD a0 (Int.toNat s4) (0, (0, 0, (List.replicate 2 ((List.replicate 32 (0 : Int)) : List (Int))), (List.replicate 2 ((List.replicate 32 (0 : Int)) : List (Int))), 0, 0, ()), (0, 0, (0, 0, 0, 0, (List.replicate 32 (0 : Int)), [], [], [], ()), ()), 0, 0, ())).2.2.1).2.2.1), Res.var b7 55 Y55 (List.getD a1 (Int.toNat s4) (0, (0, 0, (List.replicate 2 ((List.replicate 32 (0 : Int)) : List (Int))), (List.replicate 2 ((List.replicate 32 (0 : Int)) : List (Int))), 0, 0, ()), (0, 0, (0, 0, 0, 0, (List.replicate 32 (0 : Int)), [], [], [], ()), ()), 0, 0, ())), Res.var b6 55 Y55 (List.getD a0 (Int.toNat s4) (0, (0, 0, (List.replicate 2 ((List.replicate 32 (0 : Int)) : List (Int))), (List.replicate 2 ((List.replicate 32 (0 : Int)) : List (Int))), 0, 0, ()), (0, 0, (0, 0, 0, 0, (List.replicate 32 (0 : Int)), [], [], [], ()), ()), 0, 0, ()))]) k18 r ?_ ?_
   ·rcases Bool.eq_false_or_eq_true o15 with hh | hh
    ·rw [hh] at h ⊢
     rw [if_pos rfl] at h
     exact p 6 [0,1,5,6,7,8,9,60] rfl <| zn <| r_less [0,1,5,6,7,8,9,60] rfl <| zt <| by exact r_meetk true () h rfl rfl
    rw [hh] at h ⊢
    rw [if_neg (by decide)] at h
    refine p 1 [0,1,5,6,7,8,9,54,55] rfl <| r_guard (by rfl) rfl ?_
    refine yl 3 ((.snd (.snd (.snd (.snd (.fst .here)))))) ty3 rfl rfl rfl trivial rfl <| q 1 [(56, ti ((List.getD a0 (Int.toNat s4) (0, (0, 0, (List.replicate 2 ((List.replicate 32 (0 : Int)) : List (Int))), (List.replicate 2 ((List.replicate 32 (0 : Int)) : List (Int))), 0, 0, ()), (0, 0, (0, 0, 0, 0, (List.replicate 32 (0 : Int)), [], [], [], ()), ()), 0, 0, ())).2.2.2.2.1)), (57, ptr b7 175)] [0,1,5,6,7,8,9,54] rfl <| r_guard (by rfl) rfl ?_
    refine yl 2 ((.snd (.snd (.snd (.snd (.fst .here)))))) ty3 rfl rfl rfl trivial rfl <| q 1 [(59, tb (((List.getD a0 (Int.toNat s4) (0, (0, 0, (List.replicate 2 ((List.replicate 32 (0 : Int)) : List (Int))), (List.replicate 2 ((List.replicate 32 (0 : Int)) : List (Int))), 0, 0, ()), (0, 0, (0, 0, 0, 0, (List.replicate 32 (0 : Int)), [], [], [], ()), ()), 0, 0, ())).2.2.2.2.1) != ((List.getD a1 (Int.toNat s4) (0, (0, 0, (List.replicate 2 ((List.replicate 32 (0 : Int)) : List (Int))), (List.replicate 2 ((List.replicate 32 (0 : Int)) : List (Int))), 0, 0, ()), (0, 0, (0, 0, 0, 0, (List.replicate 32 (0 : Int)), [], [], [], ()), ()), 0, 0, ())).2.2.2.2.1)))] [0,1,5,6,7,8,9,54] rfl ?_
    obtain ⟨t20, e, h⟩ := bnd_ex h; rw [e]
    exact p 1 [0,1,5,6,7,8,9,60] rfl <| zn <| r_less [0,1,5,6,7,8,9,60] rfl <| zt <| by exact r_meetk t20 () h rfl rfl
   intro o19 _ h
   rw [← hk18] at h
   try dsimp only at h
   refine p 1 [0,1,5,6,7,8,9,61] rfl <| bX h fun k22 hk22 h => ?_
   refine r_lsplitk (γ := Unit) 8 (fun (o23 : Bool) _ => [(0, .one (.sl 55 Y55) a0), (1, .one (.sl 55 Y55) a1), (5, ti s4), (6, ptr b6 0), (7, ptr b7 0), (8, ptr b8 0), (9, ptr b9 0), (69, tb o23)]) (fun _ _ => [Res.var b9 48 Y48 (((List.getD a1 (Int.toNat s4) (0, (0, 0, (List.replicate 2 ((List.replicate 32 (0 : Int)) : List (Int))), (List.replicate 2 ((List.replicate 32 (0 : Int)) : List (Int))), 0, 0, ()), (0, 0, (0, 0, 0, 0, (List.replicate 32 (0 : Int)), [], [], [], ()), ()), 0, 0, ())).2.2.1).2.2.1), Res.var b8 48 Y48 (((List.getD a0 (Int.toNat s4) (0, (0, 0, (List.replicate 2 ((List.replicate 32 (0 : Int)) : List (Int))), (List.replicate 2 ((List.replicate 32 (0 : Int)) : List (Int))), 0, 0, ()), (0, 0, (0, 0, 0, 0, (List.replicate 32 (0 : Int)), [], [], [], ()), ()), 0, 0, ())).2.2.1).2.2.1), Res.var b7 55 Y55 (List.getD a1 (Int.toNat s4) (0, (0, 0, (List.replicate 2 ((List.replicate 32 (0 : Int)) : List (Int))), (List.replicate 2 ((List.replicate 32 (0 : Int)) : List (Int))), 0, 0, ()), (0, 0, (0, 0, 0, 0, (List.replicate 32 (0 : Int)), [], [], [], ()), ()), 0, 0, ())), Res.var b6 55 Y55 (List.getD a0 (Int.toNat s4) (0, (0, 0, (List.replicate 2 ((List.replicate 32 (0 : Int)) : List (Int))), (List.replicate 2 ((List.replicate 32 (0 : Int)) : List (Int))), 0, 0, ()), (0, 0, (0, 0, 0, 0, (List.replicate 32 (0 : Int)), [], [], [], ()), ()), 0, 0, ()))]) k22 r ?_ ?_
   ·rcases Bool.eq_false_or_eq_true o19 with hh | hh
    ·rw [hh] at h ⊢
     rw [if_pos rfl] at h
     exact p 8 [0,1,5,6,7,8,9,69] rfl <| zn <| r_less [0,1,5,6,7,8,9,69] rfl <| zt <| by exact r_meetk true () h rfl rfl
    rw [hh] at h ⊢
    rw [if_neg (by decide)] at h
    refine p 2 [0,1,5,6,7,8,9,61,63] rfl <| r_guard (by rfl) rfl ?_
    refine yl 3 ((.snd (.snd (.fst ((.fst .here)))))) ty3 rfl rfl rfl trivial rfl <| q 2 [(64, ti (((List.getD a0 (Int.toNat s4) (0, (0, 0, (List.replicate 2 ((List.replicate 32 (0 : Int)) : List (Int))), (List.replicate 2 ((List.replicate 32 (0 : Int)) : List (Int))), 0, 0, ()), (0, 0, (0, 0, 0, 0, (List.replicate 32 (0 : Int)), [], [], [], ()), ()), 0, 0, ())).2.2.1).1)), (66, ptr b7 133)] [0,1,5,6,7,8,9,61] rfl <| r_guard (by rfl) rfl ?_
    refine yl 2 ((.snd (.snd (.fst ((.fst .here)))))) ty3 rfl rfl rfl trivial rfl <| q 1 [(68, tb ((((List.getD a0 (Int.toNat s4) (0, (0, 0, (List.replicate 2 ((List.replicate 32 (0 : Int)) : List (Int))), (List.replicate 2 ((List.replicate 32 (0 : Int)) : List (Int))), 0, 0, ()), (0, 0, (0, 0, 0, 0, (List.replicate 32 (0 : Int)), [], [], [], ()), ()), 0, 0, ())).2.2.1).1) != (((List.getD a1 (Int.toNat s4) (0, (0, 0, (List.replicate 2 ((List.replicate 32 (0 : Int)) : List (Int))), (List.replicate 2 ((List.replicate 32 (0 : Int)) : List (Int))), 0, 0, ()), (0, 0, (0, 0, 0, 0, (List.replicate 32 (0 : Int)), [], [], [], ()), ()), 0, 0, ())).2.2.1).1)))] [0,1,5,6,7,8,9,61] rfl ?_
    obtain ⟨t24, e, h⟩ := bnd_ex h; rw [e]
    exact p 1 [0,1,5,6,7,8,9,69] rfl <| zn <| r_less [0,1,5,6,7,8,9,69] rfl <| zt <| by exact r_meetk t24 () h rfl rfl
   intro o23 _ h
   rw [← hk22] at h
   try dsimp only at h
   refine p 1 [0,1,5,6,7,8,9,70] rfl <| bX h fun k26 hk26 h => ?_
   refine r_lsplitk (γ := Unit) 8 (fun (o27 : Bool) _ => [(0, .one (.sl 55 Y55) a0), (1, .one (.sl 55 Y55) a1), (5, ti s4), (8, ptr b8 0), (9, ptr b9 0), (78, tb o27)]) (fun _ _ => [Res.var b9 48 Y48 (((List.getD a1 (Int.toNat s4) (0, (0, 0, (List.replicate 2 ((List.replicate 32 (0 : Int)) : List (Int))), (List.replicate 2 ((List.replicate 32 (0 : Int)) : List (Int))), 0, 0, ()), (0, 0, (0, 0, 0, 0, (List.replicate 32 (0 : Int)), [], [], [], ()), ()), 0, 0, ())).2.2.1).2.2.1), Res.var b8 48 Y48 (((List.getD a0 (Int.toNat s4) (0, (0, 0, (List.replicate 2 ((List.replicate 32 (0 : Int)) : List (Int))), (List.replicate 2 ((List.replicate 32 (0 : Int)) : List (Int))), 0, 0, ()), (0, 0, (0, 0, 0, 0, (List.replicate 32 (0 : Int)), [], [], [], ()), ()), 0, 0, ())).2.2.1).2.2.1), Res.var b7 55 Y55 (List.getD a1 (Int.toNat s4) (0, (0, 0, (List.replicate 2 ((List.replicate 32 (0 : Int)) : List (Int))), (List.replicate 2 ((List.replicate 32 (0 : Int)) : List (Int))), 0, 0, ()), (0, 0, (0, 0, 0, 0, (List.replicate 32 (0 : Int)), [], [], [], ()), ()), 0, 0, ())), Res.var b6 55 Y55 (List.getD a0 (Int.toNat s4) (0, (0, 0, (List.replicate 2 ((List.replicate 32 (0 : Int)) : List (Int))), (List.replicate 2 ((List.replicate 32 (0 : Int)) : List (Int))), 0, 0, ()), (0, 0, (0, 0, 0, 0, (List.replicate 32 (0 : Int)), [], [], [], ()), ()), 0, 0, ()))]) k26 r ?_ ?_
   ·rcases Bool.eq_false_or_eq_true o23 with hh | hh
    ·rw [hh] at h ⊢
     rw [if_pos rfl] at h
     exact p 8 [0,1,5,8,9,78] rfl <| zn <| r_less [0,1,5,8,9,78] rfl <| zt <| by exact r_meetk true () h rfl rfl
    rw [hh] at h ⊢
    rw [if_neg (by decide)] at h
    refine p 2 [0,1,5,7,8,9,70,72] rfl <| r_guard (by rfl) rfl ?_
    refine yl 3 ((.snd (.snd (.fst ((.snd (.fst .here))))))) ty3 rfl rfl rfl trivial rfl <| q 2 [(73, ti (((List.getD a0 (Int.toNat s4) (0, (0, 0, (List.replicate 2 ((List.replicate 32 (0 : Int)) : List (Int))), (List.replicate 2 ((List.replicate 32 (0 : Int)) : List (Int))), 0, 0, ()), (0, 0, (0, 0, 0, 0, (List.replicate 32 (0 : Int)), [], [], [], ()), ()), 0, 0, ())).2.2.1).2.1)), (75, ptr b7 134)] [0,1,5,8,9,70] rfl <| r_guard (by rfl) rfl ?_
    refine yl 2 ((.snd (.snd (.fst ((.snd (.fst .here))))))) ty3 rfl rfl rfl trivial rfl <| q 1 [(77, tb ((((List.getD a0 (Int.toNat s4) (0, (0, 0, (List.replicate 2 ((List.replicate 32 (0 : Int)) : List (Int))), (List.replicate 2 ((List.replicate 32 (0 : Int)) : List (Int))), 0, 0, ()), (0, 0, (0, 0, 0, 0, (List.replicate 32 (0 : Int)), [], [], [], ()), ()), 0, 0, ())).2.2.1).2.1) != (((List.getD a1 (Int.toNat s4) (0, (0, 0, (List.replicate 2 ((List.replicate 32 (0 : Int)) : List (Int))), (List.replicate 2 ((List.replicate 32 (0 : Int)) : List (Int))), 0, 0, ()), (0, 0, (0, 0, 0, 0, (List.replicate 32 (0 : Int)), [], [], [], ()), ()), 0, 0, ())).2.2.1).2.1)))] [0,1,5,8,9,70] rfl ?_
    obtain ⟨t28, e, h⟩ := bnd_ex h; rw [e]
    exact p 1 [0,1,5,8,9,78] rfl <| zn <| r_less [0,1,5,8,9,78] rfl <| zt <| by exact r_meetk t28 () h rfl rfl
   intro o27 _ h
   rw [← hk26] at h
   try dsimp only at h
   refine za <| rI h rfl (fun hc h => zu <| p 1 [4] rfl <| zf <| zT <| zB <| zT <| zT <| zB <| zT <| by cases h; exact r_ret1 rfl (.tmp rfl) (fun _ _ g => g) (fun _ _ _ => List.nil_sublist _)) fun hc h => zy <| p 1 [0,1,5,8,9,79] rfl <| yl 1 ((.fst .here)) ty3 rfl rfl rfl trivial rfl <| q 1 [(80, ti ((((List.getD a0 (Int.toNat s4) (0, (0, 0, (List.replicate 2 ((List.replicate 32 (0 : Int)) : List (Int))), (List.replicate 2 ((List.replicate 32 (0 : Int)) : List (Int))), 0, 0, ()), (0, 0, (0, 0, 0, 0, (List.replicate 32 (0 : Int)), [], [], [], ()), ()), 0, 0, ())).2.2.1).2.2.1).1)), (81, ptr b9 0)] [0,1,5,8,9] rfl <| yl 0 ((.fst .here)) ty3 rfl rfl rfl trivial rfl <| q 1 [(83, tb (((((List.getD a0 (Int.toNat s4) (0, (0, 0, (List.replicate 2 ((List.replicate 32 (0 : Int)) : List (Int))), (List.replicate 2 ((List.replicate 32 (0 : Int)) : List (Int))), 0, 0, ()), (0, 0, (0, 0, 0, 0, (List.replicate 32 (0 : Int)), [], [], [], ()), ()), 0, 0, ())).2.2.1).2.2.1).1) != ((((List.getD a1 (Int.toNat s4) (0, (0, 0, (List.replicate 2 ((List.replicate 32 (0 : Int)) : List (Int))), (List.replicate 2 ((List.replicate 32 (0 : Int)) : List (Int))), 0, 0, ()), (0, 0, (0, 0, 0, 0, (List.replicate 32 (0 : Int)), [], [], [], ()), ()), 0, 0, ())).2.2.1).2.2.1).1)))] [0,1,5,8,9] rfl ?_
   obtain ⟨t29, e, h⟩ := bnd_ex h; rw [e]
   refine p 1 [0,1,5,8,9,84] rfl <| bX h fun k31 hk31 h => ?_
   refine r_lsplitk (γ := Unit) 6 (fun (o32 : Bool) _ => [(0, .one (.sl 55 Y55) a0), (1, .one (.sl 55 Y55) a1), (5, ti s4), (8, ptr b8 0), (9, ptr b9 0), (90, tb o32)]) (fun _ _ => [Res.var b9 48 Y48 (((List.getD a1 (Int.toNat s4) (0, (0, 0, (List.replicate 2 ((List.replicate 32 (0 : Int)) : List (Int))), (List.replicate 2 ((List.replicate 32 (0 : Int)) : List (Int))), 0, 0, ()), (0, 0, (0, 0, 0, 0, (List.replicate 32 (0 : Int)), [], [], [], ()), ()), 0, 0, ())).2.2.1).2.2.1), Res.var b8 48 Y48 (((List.getD a0 (Int.toNat s4) (0, (0, 0, (List.replicate 2 ((List.replicate 32 (0 : Int)) : List (Int))), (List.replicate 2 ((List.replicate 32 (0 : Int)) : List (Int))), 0, 0, ()), (0, 0, (0, 0, 0, 0, (List.replicate 32 (0 : Int)), [], [], [], ()), ()), 0, 0, ())).2.2.1).2.2.1), Res.var b7 55 Y55 (List.getD a1 (Int.toNat s4) (0, (0, 0, (List.replicate 2 ((List.replicate 32 (0 : Int)) : List (Int))), (List.replicate 2 ((List.replicate 32 (0 : Int)) : List (Int))), 0, 0, ()), (0, 0, (0, 0, 0, 0, (List.replicate 32 (0 : Int)), [], [], [], ()), ()), 0, 0, ())), Res.var b6 55 Y55 (List.getD a0 (Int.toNat s4) (0, (0, 0, (List.replicate 2 ((List.replicate 32 (0 : Int)) : List (Int))), (List.replicate 2 ((List.replicate 32 (0 : Int)) : List (Int))), 0, 0, ()), (0, 0, (0, 0, 0, 0, (List.replicate 32 (0 : Int)), [], [], [], ()), ()), 0, 0, ()))]) k31 r ?_ ?_
   ·rcases Bool.eq_false_or_eq_true t29 with hh | hh
    ·rw [hh] at h ⊢
     rw [if_pos rfl] at h
     exact p 6 [0,1,5,8,9,90] rfl <| zn <| r_less [0,1,5,8,9,90] rfl <| zt <| by exact r_meetk true () h rfl rfl
    rw [hh] at h ⊢
    rw [if_neg (by decide)] at h
    refine p 1 [0,1,5,8,9,84,85] rfl <| r_guard (by rfl) rfl ?_
    refine yl 1 ((.snd (.fst .here))) ty2 rfl rfl rfl trivial rfl <| q 1 [(86, ti ((((List.getD a0 (Int.toNat s4) (0, (0, 0, (List.replicate 2 ((List.replicate 32 (0 : Int)) : List (Int))), (List.replicate 2 ((List.replicate 32 (0 : Int)) : List (Int))), 0, 0, ()), (0, 0, (0, 0, 0, 0, (List.replicate 32 (0 : Int)), [], [], [], ()), ()), 0, 0, ())).2.2.1).2.2.1).2.1)), (87, ptr b9 1)] [0,1,5,8,9,84] rfl <| r_guard (by rfl) rfl ?_
    refine yl 0 ((.snd (.fst .here))) ty2 rfl rfl rfl trivial rfl <| q 1 [(89, tb (((((List.getD a0 (Int.toNat s4) (0, (0, 0, (List.replicate 2 ((List.replicate 32 (0 : Int)) : List (Int))), (List.replicate 2 ((List.replicate 32 (0 : Int)) : List (Int))), 0, 0, ()), (0, 0, (0, 0, 0, 0, (List.replicate 32 (0 : Int)), [], [], [], ()), ()), 0, 0, ())).2.2.1).2.2.1).2.1) != ((((List.getD a1 (Int.toNat s4) (0, (0, 0, (List.replicate 2 ((List.replicate 32 (0 : Int)) : List (Int))), (List.replicate 2 ((List.replicate 32 (0 : Int)) : List (Int))), 0, 0, ()), (0, 0, (0, 0, 0, 0, (List.replicate 32 (0 : Int)), [], [], [], ()), ()), 0, 0, ())).2.2.1).2.2.1).2.1)))] [0,1,5,8,9,84] rfl ?_
    obtain ⟨t33, e, h⟩ := bnd_ex h; rw [e]
    exact p 1 [0,1,5,8,9,90] rfl <| zn <| r_less [0,1,5,8,9,90] rfl <| zt <| by exact r_meetk t33 () h rfl rfl
   intro o32 _ h
   rw [← hk31] at h
   try dsimp only at h
   refine p 1 [0,1,5,8,9,91] rfl <| bX h fun k35 hk35 h => ?_
   refine r_lsplitk (γ := Unit) 6 (fun (o36 : Bool) _ => [(0, .one (.sl 55 Y55) a0), (1, .one (.sl 55 Y55) a1), (5, ti s4), (8, ptr b8 0), (9, ptr b9 0), (97, tb o36)]) (fun _ _ => [Res.var b9 48 Y48 (((List.getD a1 (Int.toNat s4) (0, (0, 0, (List.replicate 2 ((List.replicate 32 (0 : Int)) : List (Int))), (List.replicate 2 ((List.replicate 32 (0 : Int)) : List (Int))), 0, 0, ()), (0, 0, (0, 0, 0, 0, (List.replicate 32 (0 : Int)), [], [], [], ()), ()), 0, 0, ())).2.2.1).2.2.1), Res.var b8 48 Y48 (((List.getD a0 (Int.toNat s4) (0, (0, 0, (List.replicate 2 ((List.replicate 32 (0 : Int)) : List (Int))), (List.replicate 2 ((List.replicate 32 (0 : Int)) : List (Int))), 0, 0, ()), (0, 0, (0, 0, 0, 0, (List.replicate 32 (0 : Int)), [], [], [], ()), ()), 0, 0, ())).2.2.1).2.2.1), Res.var b7 55 Y55 (List.getD a1 (Int.toNat s4) (0, (0, 0, (List.replicate 2 ((List.replicate 32 (0 : Int)) : List (Int))), (List.replicate 2 ((List.replicate 32 (0 : Int)) : List (Int))), 0, 0, ()), (0, 0, (0, 0, 0, 0, (List.replicate 32 (0 : Int)), [], [], [], ()), ()), 0, 0, ())), Res.var b6 55 Y55 (List.getD a0 (Int.toNat s4) (0, (0, 0, (List.replicate 2 ((List.replicate 32 (0 : Int)) : List (Int))), (List.replicate 2 ((List.replicate 32 (0 : Int)) : List (Int))), 0, 0, ()), (0, 0, (0, 0, 0, 0, (List.replicate 32 (0 : Int)), [], [], [], ()), ()), 0, 0, ()))]) k35 r ?_ ?_
   ·rcases Bool.eq_false_or_eq_true o32 with hh | hh
    ·rw [hh] at h ⊢
     rw [if_pos rfl] at h
     exact p 6 [0,1,5,8,9,97] rfl <| zn <| r_less [0,1,5,8,9,97] rfl <| zt <| by exact r_meetk true () h rfl rfl
    rw [hh] at h ⊢
    rw [if_neg (by decide)] at h
    refine p 1 [0,1,5,8,9,91,92] rfl <| r_guard (by rfl) rfl ?_
    refine yl 1 ((.snd (.snd (.fst .here)))) ty2 rfl rfl rfl trivial rfl <| q 1 [(93, ti ((((List.getD a0 (Int.toNat s4) (0, (0, 0, (List.replicate 2 ((List.replicate 32 (0 : Int)) : List (Int))), (List.replicate 2 ((List.replicate 32 (0 : Int)) : List (Int))), 0, 0, ()), (0, 0, (0, 0, 0, 0, (List.replicate 32 (0 : Int)), [], [], [], ()), ()), 0, 0, ())).2.2.1).2.2.1).2.2.1)), (94, ptr b9 2)] [0,1,5,8,9,91] rfl <| r_guard (by rfl) rfl ?_
    refine yl 0 ((.snd (.snd (.fst .here)))) ty2 rfl rfl rfl trivial rfl <| q 1 [(96, tb (((((List.getD a0 (Int.toNat s4) (0, (0, 0, (List.replicate 2 ((List.replicate 32 (0 : Int)) : List (Int))), (List.replicate 2 ((List.replicate 32 (0 : Int)) : List (Int))), 0, 0, ()), (0, 0, (0, 0, 0, 0, (List.replicate 32 (0 : Int)), [], [], [], ()), ()), 0, 0, ())).2.2.1).2.2.1).2.2.1) != ((((List.getD a1 (Int.toNat s4) (0, (0, 0, (List.replicate 2 ((List.replicate 32 (0 : Int)) : List (Int))), (List.replicate 2 ((List.replicate 32 (0 : Int)) : List (Int))), 0, 0, ()), (0, 0, (0, 0, 0, 0, (List.replicate 32 (0 : Int)), [], [], [], ()), ()), 0, 0, ())).2.2.1).2.2.1).2.2.1)))] [0,1,5,8,9,91] rfl ?_
    obtain ⟨t37, e, h⟩ := bnd_ex h; rw [e]
    exact p 1 [0,1,5,8,9,97] rfl <| zn <| r_less [0,1,5,8,9,97] rfl <| zt <| by exact r_meetk t37 () h rfl rfl
   intro o36 _ h
   rw [← hk35] at h
   try dsimp only at h
   refine p 1 [0,1,5,8,9,98] rfl <| bX h fun k39 hk39 h => ?_
   refine r_lsplitk (γ := Unit) 6 (fun (o40 : Bool) _ => [(0, .one (.sl 55 Y55) a0), (1, .one (.sl 55 Y55) a1), (5, ti s4), (8, ptr b8 0), (9, ptr b9 0), (104, tb o40)]) (fun _ _ => [Res.var b9 48 Y48 (((List.getD a1 (Int.toNat s4) (0, (0, 0, (List.replicate 2 ((List.replicate 32 (0 : Int)) : List (Int))), (List.replicate 2 ((List.replicate 32 (0 : Int)) : List (Int))), 0, 0, ()), (0, 0, (0, 0, 0, 0, (List.replicate 32 (0 : Int)), [], [], [], ()), ()), 0, 0, ())).2.2.1).2.2.1), Res.var b8 48 Y48 (((List.getD a0 (Int.toNat s4) (0, (0, 0, (List.replicate 2 ((List.replicate 32 (0 : Int)) : List (Int))), (List.replicate 2 ((List.replicate 32 (0 : Int)) : List (Int))), 0, 0, ()), (0, 0, (0, 0, 0, 0, (List.replicate 32 (0 : Int)), [], [], [], ()), ()), 0, 0, ())).2.2.1).2.2.1), Res.var b7 55 Y55 (List.getD a1 (Int.toNat s4) (0, (0, 0, (List.replicate 2 ((List.replicate 32 (0 : Int)) : List (Int))), (List.replicate 2 ((List.replicate 32 (0 : Int)) : List (Int))), 0, 0, ()), (0, 0, (0, 0, 0, 0, (List.replicate 32 (0 : Int)), [], [], [], ()), ()), 0, 0, ())), Res.var b6 55 Y55 (List.getD a0 (Int.toNat s4) (0, (0, 0, (List.replicate 2 ((List.replicate 32 (0 : Int)) : List (Int))), (List.replicate 2 ((List.replicate 32 (0 : Int)) : List (Int))), 0, 0, ()), (0, 0, (0, 0, 0, 0, (List.replicate 32 (0 : Int)), [], [], [], ()), ()), 0, 0, ()))]) k39 r ?_ ?_
   ·rcases Bool.eq_false_or_eq_true o36 with hh | hh
    ·rw [hh] at h ⊢
     rw [if_pos rfl] at h
     exact p 6 [0,1,5,8,9,104] rfl <| zn <| r_less [0,1,5,8,9,104] rfl <| zt <| by exact r_meetk true () h rfl rfl
    rw [hh] at h ⊢
    rw [if_neg (by decide)] at h
    refine p 1 [0,1,5,8,9,98,99] rfl <| r_guard (by rfl) rfl ?_
    refine yl 1 ((.snd (.snd (.snd (.fst .here))))) ty2 rfl rfl rfl trivial rfl <| q 1 [(100, ti ((((List.getD a0 (Int.toNat s4) (0, (0, 0, (List.replicate 2 ((List.replicate 32 (0 : Int)) : List (Int))), (List.replicate 2 ((List.replicate 32 (0 : Int)) : List (Int))), 0, 0, ()), (0, 0, (0, 0, 0, 0, (List.replicate 32 (0 : Int)), [], [], [], ()), ()), 0, 0, ())).2.2.1).2.2.1).2.2.2.1)), (101, ptr b9 3)] [0,1,5,8,9,98] rfl <| r_guard (by rfl) rfl ?_
    refine yl 0 ((.snd (.snd (.snd (.fst .here))))) ty2 rfl rfl rfl trivial rfl <| q 1 [(103, tb (((((List.getD a0 (Int.toNat s4) (0, (0, 0, (List.replicate 2 ((List.replicate 32 (0 : Int)) : List (Int))), (List.replicate 2 ((List.replicate 32 (0 : Int)) : List (Int))), 0, 0, ()), (0, 0, (0, 0, 0, 0, (List.replicate 32 (0 : Int)), [], [], [], ()), ()), 0, 0, ())).2.2.1).2.2.1).2.2.2.1) != ((((List.getD a1 (Int.toNat s4) (0, (0, 0, (List.replicate 2 ((List.replicate 32 (0 : Int)) : List (Int))), (List.replicate 2 ((List.replicate 32 (0 : Int)) : List (Int))), 0, 0, ()), (0, 0, (0, 0, 0, 0, (List.replicate 32 (0 : Int)), [], [], [], ()), ()), 0, 0, ())).2.2.1).2.2.1).2.2.2.1)))] [0,1,5,8,9,98] rfl ?_
    obtain ⟨t41, e, h⟩ := bnd_ex h; rw [e]
    exact p 1 [0,1,5,8,9,104] rfl <| zn <| r_less [0,1,5,8,9,104] rfl <| zt <| by exact r_meetk t41 () h rfl rfl
   intro o40 _ h
   rw [← hk39] at h
   try dsimp only at h
   refine p 1 [0,1,5,8,9,105] rfl ?_
   refine r_lsplit (γ := Unit) 6 (fun _ => [(0, .one (.sl 55 Y55) a0), (1, .one (.sl 55 Y55) a1), (5, ti s4), (8, ptr b8 0), (9, ptr b9 0), (111, tb (o40 || (!eqD (.arr 32 (.int .u8)) ((((List.getD a0 (Int.toNat s4) (0, (0, 0, (List.replicate 2 ((List.replicate 32 (0 : Int)) : List (Int))), (List.replicate 2 ((List.replicate 32 (0 : Int)) : List (Int))), 0, 0, ()), (0, 0, (0, 0, 0, 0, (List.replicate 32 (0 : Int)), [], [], [], ()), ()), 0, 0, ())).2.2.1).2.2.1).2.2.2.2.1) ((((List.getD a1 (Int.toNat s4) (0, (0, 0, (List.replicate 2 ((List.replicate 32 (0 : Int)) : List (Int))), (List.replicate 2 ((List.replicate 32 (0 : Int)) : List (Int))), 0, 0, ()), (0, 0, (0, 0, 0, 0, (List.replicate 32 (0 : Int)), [], [], [], ()), ()), 0, 0, ())).2.2.1).2.2.1).2.2.2.2.1))))]) (fun _ => [Res.var b9 48 Y48 (((List.getD a1 (Int.toNat s4) (0, (0, 0, (List.replicate 2 ((List.replicate 32 (0 : Int)) : List (Int))), (List.replicate 2 ((List.replicate 32 (0 : Int)) : List (Int))), 0, 0, ()), (0, 0, (0, 0, 0, 0, (List.replicate 32 (0 : Int)), [], [], [], ()), ()), 0, 0, ())).2.2.1).2.2.1), Res.var b8 48 Y48 (((List.getD a0 (Int.toNat s4) (0, (0, 0, (List.replicate 2 ((List.replicate 32 (0 : Int)) : List (Int))), (List.replicate 2 ((List.replicate 32 (0 : Int)) : List (Int))), 0, 0, ()), (0, 0, (0, 0, 0, 0, (List.replicate 32 (0 : Int)), [], [], [], ()), ()), 0, 0, ())).2.2.1).2.2.1), Res.var b7 55 Y55 (List.getD a1 (Int.toNat s4) (0, (0, 0, (List.replicate 2 ((List.replicate 32 (0 : Int)) : List (Int))), (List.replicate 2 ((List.replicate 32 (0 : Int)) : List (Int))), 0, 0, ()), (0, 0, (0, 0, 0, 0, (List.replicate 32 (0 : Int)), [], [], [], ()), ()), 0, 0, ())), Res.var b6 55 Y55 (List.getD a0 (Int.toNat s4) (0, (0, 0, (List.replicate 2 ((List.replicate 32 (0 : Int)) : List (Int))), (List.replicate 2 ((List.replicate 32 (0 : Int)) : List (Int))), 0, 0, ()), (0, 0, (0, 0, 0, 0, (List.replicate 32 (0 : Int)), [], [], [], ()), ()), 0, 0, ()))]) ?_ (fun _ => ?_)
   ·clear h
    rcases Bool.eq_false_or_eq_true o40 with hh | hh
    ·rw [hh]
     exact p 6 [0,1,5,8,9,111] rfl <| za <| by exact r_meetg () rfl rfl
    rw [hh]
    refine p 1 [0,1,5,8,9,105,106] rfl <| r_guard (by rfl) rfl ?_
    refine yl 1 ((.snd (.snd (.snd (.snd (.fst .here)))))) ty34 rfl rfl rfl trivial rfl <| q 1 [(107, .one (.arr 32 (.int .u8)) ((((List.getD a0 (Int.toNat s4) (0, (0, 0, (List.replicate 2 ((List.replicate 32 (0 : Int)) : List (Int))), (List.replicate 2 ((List.replicate 32 (0 : Int)) : List (Int))), 0, 0, ()), (0, 0, (0, 0, 0, 0, (List.replicate 32 (0 : Int)), [], [], [], ()), ()), 0, 0, ())).2.2.1).2.2.1).2.2.2.2.1)), (108, ptr b9 4)] [0,1,5,8,9,105] rfl <| r_guard (by rfl) rfl ?_
    refine yl 0 ((.snd (.snd (.snd (.snd (.fst .here)))))) ty34 rfl rfl rfl trivial rfl <| r_guard (by rfl) rfl ?_
    refine y (y_nes 20 rfl rfl rfl rfl ty34 rfl kt34 eg34) rfl ?_
    exact q 1 [(111, tb (!eqD (.arr 32 (.int .u8)) ((((List.getD a0 (Int.toNat s4) (0, (0, 0, (List.replicate 2 ((List.replicate 32 (0 : Int)) : List (Int))), (List.replicate 2 ((List.replicate 32 (0 : Int)) : List (Int))), 0, 0, ()), (0, 0, (0, 0, 0, 0, (List.replicate 32 (0 : Int)), [], [], [], ()), ()), 0, 0, ())).2.2.1).2.2.1).2.2.2.2.1) ((((List.getD a1 (Int.toNat s4) (0, (0, 0, (List.replicate 2 ((List.replicate 32 (0 : Int)) : List (Int))), (List.replicate 2 ((List.replicate 32 (0 : Int)) : List (Int))), 0, 0, ()), (0, 0, (0, 0, 0, 0, (List.replicate 32 (0 : Int)), [], [], [], ()), ()), 0, 0, ())).2.2.1).2.2.1).2.2.2.2.1)))] [0,1,5,8,9] rfl <| r_less [0,1,5,8,9,111] rfl <| za <| by exact r_meetg () rfl rfl
   refine q 1 [(112, tb (o40 || (!eqD (.arr 32 (.int .u8)) ((((List.getD a0 (Int.toNat s4) (0, (0, 0, (List.replicate 2 ((List.replicate 32 (0 : Int)) : List (Int))), (List.replicate 2 ((List.replicate 32 (0 : Int)) : List (Int))), 0, 0, ()), (0, 0, (0, 0, 0, 0, (List.replicate 32 (0 : Int)), [], [], [], ()), ()), 0, 0, ())).2.2.1).2.2.1).2.2.2.2.1) ((((List.getD a1 (Int.toNat s4) (0, (0, 0, (List.replicate 2 ((List.replicate 32 (0 : Int)) : List (Int))), (List.replicate 2 ((List.replicate 32 (0 : Int)) : List (Int))), 0, 0, ()), (0, 0, (0, 0, 0, 0, (List.replicate 32 (0 : Int)), [], [], [], ()), ()), 0, 0, ())).2.2.1).2.2.1).2.2.2.2.1))))] [0,1,5,8,9] rfl ?_
   obtain ⟨t43, e, h⟩ := bnd_ex h; rw [e]
   refine bX h fun k45 hk45 h => ?_
   refine r_lsplitk (γ := Unit) 6 (fun (o46 : Bool) _ => [(0, .one (.sl 55 Y55) a0), (1, .one (.sl 55 Y55) a1), (5, ti s4), (8, ptr b8 0), (9, ptr b9 0), (118, tb o46)]) (fun _ _ => [Res.var b9 48 Y48 (((List.getD a1 (Int.toNat s4) (0, (0, 0, (List.replicate 2 ((List.replicate 32 (0 : Int)) : List (Int))), (List.replicate 2 ((List.replicate 32 (0 : Int)) : List (Int))), 0, 0, ()), (0, 0, (0, 0, 0, 0, (List.replicate 32 (0 : Int)), [], [], [], ()), ()), 0, 0, ())).2.2.1).2.2.1), Res.var b8 48 Y48 (((List.getD a0 (Int.toNat s4) (0, (0, 0, (List.replicate 2 ((List.replicate 32 (0 : Int)) : List (Int))), (List.replicate 2 ((List.replicate 32 (0 : Int)) : List (Int))), 0, 0, ()), (0, 0, (0, 0, 0, 0, (List.replicate 32 (0 : Int)), [], [], [], ()), ()), 0, 0, ())).2.2.1).2.2.1), Res.var b7 55 Y55 (List.getD a1 (Int.toNat s4) (0, (0, 0, (List.replicate 2 ((List.replicate 32 (0 : Int)) : List (Int))), (List.replicate 2 ((List.replicate 32 (0 : Int)) : List (Int))), 0, 0, ()), (0, 0, (0, 0, 0, 0, (List.replicate 32 (0 : Int)), [], [], [], ()), ()), 0, 0, ())), Res.var b6 55 Y55 (List.getD a0 (Int.toNat s4) (0, (0, 0, (List.replicate 2 ((List.replicate 32 (0 : Int)) : List (Int))), (List.replicate 2 ((List.replicate 32 (0 : Int)) : List (Int))), 0, 0, ()), (0, 0, (0, 0, 0, 0, (List.replicate 32 (0 : Int)), [], [], [], ()), ()), 0, 0, ()))]) k45 r ?_ ?_
   ·rcases Bool.eq_false_or_eq_true t43 with hh | hh
    ·rw [hh] at h ⊢
     rw [if_pos rfl] at h
     exact p 6 [0,1,5,8,9,118] rfl <| zn <| r_less [0,1,5,8,9,118] rfl <| zt <| by exact r_meetk true () h rfl rfl
    rw [hh] at h ⊢
    rw [if_neg (by decide)] at h
    refine p 1 [0,1,5,8,9,112,113] rfl <| r_guard (by rfl) rfl ?_
    refine yl 1 ((.snd (.snd (.snd (.snd (.snd (.fst .here))))))) ty9 rfl rfl rfl trivial rfl <| q 1 [(114, ts ((((List.getD a0 (Int.toNat s4) (0, (0, 0, (List.replicate 2 ((List.replicate 32 (0 : Int)) : List (Int))), (List.replicate 2 ((List.replicate 32 (0 : Int)) : List (Int))), 0, 0, ()), (0, 0, (0, 0, 0, 0, (List.replicate 32 (0 : Int)), [], [], [], ()), ()), 0, 0, ())).2.2.1).2.2.1).2.2.2.2.2.1)), (115, ptr b9 36)] [0,1,5,8,9,112] rfl <| r_guard (by rfl) rfl ?_
    refine yl 0 ((.snd (.snd (.snd (.snd (.snd (.fst .here))))))) ty9 rfl rfl rfl trivial rfl <| q 1 [(117, tb (((((List.getD a0 (Int.toNat s4) (0, (0, 0, (List.replicate 2 ((List.replicate 32 (0 : Int)) : List (Int))), (List.replicate 2 ((List.replicate 32 (0 : Int)) : List (Int))), 0, 0, ()), (0, 0, (0, 0, 0, 0, (List.replicate 32 (0 : Int)), [], [], [], ()), ()), 0, 0, ())).2.2.1).2.2.1).2.2.2.2.2.1) != ((((List.getD a1 (Int.toNat s4) (0, (0, 0, (List.replicate 2 ((List.replicate 32 (0 : Int)) : List (Int))), (List.replicate 2 ((List.replicate 32 (0 : Int)) : List (Int))), 0, 0, ()), (0, 0, (0, 0, 0, 0, (List.replicate 32 (0 : Int)), [], [], [], ()), ()), 0, 0, ())).2.2.1).2.2.1).2.2.2.2.2.1)))] [0,1,5,8,9,112] rfl ?_
    obtain ⟨t47, e, h⟩ := bnd_ex h; rw [e]
    exact p 1 [0,1,5,8,9,118] rfl <| zn <| r_less [0,1,5,8,9,118] rfl <| zt <| by exact r_meetk t47 () h rfl rfl
   intro o46 _ h
   rw [← hk45] at h
   try dsimp only at h
   refine p 1 [0,1,5,8,9,119] rfl <| bX h fun k49 hk49 h => ?_
   refine r_lsplitk (γ := Unit) 6 (fun (o50 : Bool) _ => [(0, .one (.sl 55 Y55) a0), (1, .one (.sl 55 Y55) a1), (5, ti s4), (8, ptr b8 0), (9, ptr b9 0), (125, tb o50)]) (fun _ _ => [Res.var b9 48 Y48 (((List.getD a1 (Int.toNat s4) (0, (0, 0, (List.replicate 2 ((List.replicate 32 (0 : Int)) : List (Int))), (List.replicate 2 ((List.replicate 32 (0 : Int)) : List (Int))), 0, 0, ()), (0, 0, (0, 0, 0, 0, (List.replicate 32 (0 : Int)), [], [], [], ()), ()), 0, 0, ())).2.2.1).2.2.1), Res.var b8 48 Y48 (((List.getD a0 (Int.toNat s4) (0, (0, 0, (List.replicate 2 ((List.replicate 32 (0 : Int)) : List (Int))), (List.replicate 2 ((List.replicate 32 (0 : Int)) : List (Int))), 0, 0, ()), (0, 0, (0, 0, 0, 0, (List.replicate 32 (0 : Int)), [], [], [], ()), ()), 0, 0, ())).2.2.1).2.2.1), Res.var b7 55 Y55 (List.getD a1 (Int.toNat s4) (0, (0, 0, (List.replicate 2 ((List.replicate 32 (0 : Int)) : List (Int))), (List.replicate 2 ((List.replicate 32 (0 : Int)) : List (Int))), 0, 0, ()), (0, 0, (0, 0, 0, 0, (List.replicate 32 (0 : Int)), [], [], [], ()), ()), 0, 0, ())), Res.var b6 55 Y55 (List.getD a0 (Int.toNat s4) (0, (0, 0, (List.replicate 2 ((List.replicate 32 (0 : Int)) : List (Int))), (List.replicate 2 ((List.replicate 32 (0 : Int)) : List (Int))), 0, 0, ()), (0, 0, (0, 0, 0, 0, (List.replicate 32 (0 : Int)), [], [], [], ()), ()), 0, 0, ()))]) k49 r ?_ ?_
   ·rcases Bool.eq_false_or_eq_true o46 with hh | hh
    ·rw [hh] at h ⊢
     rw [if_pos rfl] at h
     exact p 6 [0,1,5,8,9,125] rfl <| zn <| r_less [0,1,5,8,9,125] rfl <| zt <| by exact r_meetk true () h rfl rfl
    rw [hh] at h ⊢
    rw [if_neg (by decide)] at h
    refine p 1 [0,1,5,8,9,119,120] rfl <| r_guard (by rfl) rfl ?_
    refine yl 1 ((.snd (.snd (.snd (.snd (.snd (.snd (.fst .here)))))))) ty9 rfl rfl rfl trivial rfl <| q 1 [(121, ts ((((List.getD a0 (Int.toNat s4) (0, (0, 0, (List.replicate 2 ((List.replicate 32 (0 : Int)) : List (Int))), (List.replicate 2 ((List.replicate 32 (0 : Int)) : List (Int))), 0, 0, ()), (0, 0, (0, 0, 0, 0, (List.replicate 32 (0 : Int)), [], [], [], ()), ()), 0, 0, ())).2.2.1).2.2.1).2.2.2.2.2.2.1)), (122, ptr b9 37)] [0,1,5,8,9,119] rfl <| r_guard (by rfl) rfl ?_
    refine yl 0 ((.snd (.snd (.snd (.snd (.snd (.snd (.fst .here)))))))) ty9 rfl rfl rfl trivial rfl <| q 1 [(124, tb (((((List.getD a0 (Int.toNat s4) (0, (0, 0, (List.replicate 2 ((List.replicate 32 (0 : Int)) : List (Int))), (List.replicate 2 ((List.replicate 32 (0 : Int)) : List (Int))), 0, 0, ()), (0, 0, (0, 0, 0, 0, (List.replicate 32 (0 : Int)), [], [], [], ()), ()), 0, 0, ())).2.2.1).2.2.1).2.2.2.2.2.2.1) != ((((List.getD a1 (Int.toNat s4) (0, (0, 0, (List.replicate 2 ((List.replicate 32 (0 : Int)) : List (Int))), (List.replicate 2 ((List.replicate 32 (0 : Int)) : List (Int))), 0, 0, ()), (0, 0, (0, 0, 0, 0, (List.replicate 32 (0 : Int)), [], [], [], ()), ()), 0, 0, ())).2.2.1).2.2.1).2.2.2.2.2.2.1)))] [0,1,5,8,9,119] rfl ?_
    obtain ⟨t51, e, h⟩ := bnd_ex h; rw [e]
    exact p 1 [0,1,5,8,9,125] rfl <| zn <| r_less [0,1,5,8,9,125] rfl <| zt <| by exact r_meetk t51 () h rfl rfl
   intro o50 _ h
   rw [← hk49] at h
   try dsimp only at h
   refine p 1 [0,1,5,8,9,126] rfl <| bX h fun k53 hk53 h => ?_
   refine r_lsplitk (γ := Unit) 7 (fun (o54 : Bool) _ => [(0, .one (.sl 55 Y55) a0), (1, .one (.sl 55 Y55) a1), (5, ti s4), (133, tb o54)]) (fun _ _ => [Res.var b9 48 Y48 (((List.getD a1 (Int.toNat s4) (0, (0, 0, (List.replicate 2 ((List.replicate 32 (0 : Int)) : List (Int))), (List.replicate 2 ((List.replicate 32 (0 : Int)) : List (Int))), 0, 0, ()), (0, 0, (0, 0, 0, 0, (List.replicate 32 (0 : Int)), [], [], [], ()), ()), 0, 0, ())).2.2.1).2.2.1), Res.var b8 48 Y48 (((List.getD a0 (Int.toNat s4) (0, (0, 0, (List.replicate 2 ((List.replicate 32 (0 : Int)) : List (Int))), (List.replicate 2 ((List.replicate 32 (0 : Int)) : List (Int))), 0, 0, ()), (0, 0, (0, 0, 0, 0, (List.replicate 32 (0 : Int)), [], [], [], ()), ()), 0, 0, ())).2.2.1).2.2.1), Res.var b7 55 Y55 (List.getD a1 (Int.toNat s4) (0, (0, 0, (List.replicate 2 ((List.replicate 32 (0 : Int)) : List (Int))), (List.replicate 2 ((List.replicate 32 (0 : Int)) : List (Int))), 0, 0, ()), (0, 0, (0, 0, 0, 0, (List.replicate 32 (0 : Int)), [], [], [], ()), ()), 0, 0, ())), Res.var b6 55 Y55 (List.getD a0 (Int.toNat s4) (0, (0, 0, (List.replicate 2 ((List.replicate 32 (0 : Int)) : List (Int))), (List.replicate 2 ((List.replicate 32 (0 : Int)) : List (Int))), 0, 0, ()), (0, 0, (0, 0, 0, 0, (List.replicate 32 (0 : Int)), [], [], [], ()), ()), 0, 0, ()))]) k53 r ?_ ?_
   ·rcases Bool.eq_false_or_eq_true o50 with hh | hh
    ·rw [hh] at h ⊢
     rw [if_pos rfl] at h
     exact p 7 [0,1,5,133] rfl <| zn <| r_less [0,1,5,133] rfl <| zt <| by exact r_meetk true () h rfl rfl
    rw [hh] at h ⊢
    rw [if_neg (by decide)] at h
    refine p 1 [0,1,5,9,126,127] rfl <| r_guard (by rfl) rfl ?_
    refine yl 1 ((.snd (.snd (.snd (.snd (.snd (.snd (.snd (.fst .here))))))))) ty46 rfl rfl rfl trivial rfl <| q 1 [(128, .one (.sl 61 Y61) ((((List.getD a0 (Int.toNat s4) (0, (0, 0, (List.replicate 2 ((List.replicate 32 (0 : Int)) : List (Int))), (List.replicate 2 ((List.replicate 32 (0 : Int)) : List (Int))), 0, 0, ()), (0, 0, (0, 0, 0, 0, (List.replicate 32 (0 : Int)), [], [], [], ()), ()), 0, 0, ())).2.2.1).2.2.1).2.2.2.2.2.2.2.1)), (129, ptr b9 38)] [0,1,5,126] rfl <| r_guard (by rfl) rfl ?_
    refine yl 0 ((.snd (.snd (.snd (.snd (.snd (.snd (.snd (.fst .here))))))))) ty46 rfl rfl rfl trivial rfl <| r_guard (by rfl) rfl ?_
    exact cB h fun r55 hr55 h => r_calls (escrowref25_SameFates_ok _ _ _ hr55) (by kernel_rfl) rfl rfl <| p 2 [0,1,5,133] rfl <| zn <| r_less [0,1,5,133] rfl <| zt <| by exact r_meetk (!r55) () h rfl rfl
   intro o54 _ h
   rw [← hk53] at h
   try dsimp only at h
   refine za <| rI h rfl (fun hc h => zu <| p 1 [4] rfl <| zf <| zB <| zT <| zT <| zB <| zT <| by cases h; exact r_ret1 rfl (.tmp rfl) (fun _ _ g => g) (fun _ _ _ => List.nil_sublist _)) fun hc h => zk <| zi <| zt <| zr <| p 3 [0,1,5] rfl ?_
   obtain ⟨i56, e, h⟩ := bnd_ex h; rw [e]
   exact za <| pk [] rfl <| r_less [0,1,5] rfl <| by exact r_backg i56 () (Nat.lt_succ_self _) h rfl rfl
  exact zx <| ze <| ze <| zq <| zt <| r_less [] rfl <| by exact r_meetk () () h rfl rfl
 refine zu <| p 1 [4] rfl <| zf ?_
 cases h
 exact r_ret1 rfl (.tmp rfl) (fun _ _ g => g) (fun _ _ _ => List.nil_sublist _)

theorem escrowlaw25_ScriptLines_ok (a0 : List Int) (a1 : List Int) (a2 : List Int) (r : Bool) (h : escrowlaw25_ScriptLines a0 a1 a2 = some r) : FnT Tryd.prog tabs 6 [ts a0, ts a1, ts a2] [] (fun _ => tb r) (fun _ => []) := by
 unfold escrowlaw25_ScriptLines at h
 refine enterT Tryd.func6 rfl 141 rfl rfl fun F hT => ?_
 refine zu <| p 1 [0,1,2] rfl <| za <| zs <| zu <| cB h fun r1 hr1 h => rcT hT [] (escrowlaw25_head_ok _ hr1) (by kernel_rfl) rfl rfl rfl fun _ => p 1 [0,1,2,24] rfl <| za <| rI h rfl (fun hc h => zu <| p 1 [6] rfl <| zf <| zT <| by cases h; exact r_ret1 rfl (.tmp rfl) (fun _ _ g => g) (fun _ _ _ => List.nil_sublist _)) fun hc h => ?_
 refine zk <| zt <| zs <| zu <| p 1 [0,1,2,25] rfl <| cB h fun r2 hr2 h => r_calls (escrowlaw25_few_ok _ _ hr2) (by kernel_rfl) rfl rfl <| p 2 [0,1,2,28] rfl ?_
 obtain ⟨b3, e, h⟩ := bnd_ex h; rw [e]
 refine bX h fun k4 hk4 h => ?_
 refine r_lsplitk (γ := Unit) 4 (fun (o5 : Bool) _ => [(0, ts a0), (1, ts a1), (2, ts a2), (32, tb o5)]) (fun _ _ => []) k4 r ?_ ?_
 ·rcases Bool.eq_false_or_eq_true b3 with hh | hh
  ·rw [hh] at h ⊢
   rw [if_pos rfl] at h
   exact p 4 [0,1,2,32] rfl <| zn <| r_less [0,1,2,32] rfl <| zt <| by exact r_meetk true () h rfl rfl
  rw [hh] at h ⊢
  rw [if_neg (by decide)] at h
  refine p 1 [0,1,2,28,29] rfl <| r_guard (by rfl) rfl ?_
  exact cB h fun r6 hr6 h => r_calls (escrowlaw25_few_ok _ _ hr6) (by kernel_rfl) rfl rfl <| p 2 [0,1,2,32] rfl <| zn <| r_less [0,1,2,32] rfl <| zt <| by exact r_meetk (!r6) () h rfl rfl
 intro o5 _ h
 rw [← hk4] at h
 try dsimp only at h
 refine p 1 [0,1,2,33] rfl ?_
 refine r_lsplit (γ := Unit) 4 (fun _ => [(0, ts a0), (1, ts a1), (2, ts a2), (37, tb (o5 || (decide ((List.length a2 : Int) > 20))))]) (fun _ => []) ?_ (fun _ => ?_)
 ·clear h
  rcases Bool.eq_false_or_eq_true o5 with hh | hh
  ·rw [hh]
   exact p 4 [0,1,2,37] rfl <| za <| by exact r_meetg () rfl rfl
  rw [hh]
  exact q 4 [(37, tb (decide ((List.length a2 : Int) > 20)))] [0,1,2] rfl <| r_less [0,1,2,37] rfl <| za <| by exact r_meetg () rfl rfl
 refine za <| rI h rfl (fun hc h => zu <| p 1 [6] rfl <| zf <| zT <| by cases h; exact r_ret1 rfl (.tmp rfl) (fun _ _ g => g) (fun _ _ _ => List.nil_sublist _)) fun hc h => zk <| zt <| jK h (γ := Unit) (fun (o9 : Unit) _ => [(0, ts a0), (1, ts a1), (2, ts a2)]) (fun (o9 : Unit) _ => []) (fun k8 h => ?_) fun o9 gg h => ?_
 ·refine zu <| p 1 [0,1,2,7] rfl <| za <| zb <| r_less [0,1,2,7] rfl <| r_loopg (γ := Unit) (fun (s49 : Int) _ => [(0, ts a0), (1, ts a1), (2, ts a2), (7, ti s49)]) (fun (s49 : Int) _ => []) (escrowlaw25_ScriptLines_l1 a2 k8) 0 () h rfl rfl ?_
  clear h
  intro m50 s49 gg h
  cases m50 with
  | zero => cases h
  | succ m50 =>
  simp only [escrowlaw25_ScriptLines_l1] at h
  refine zs <| zu <| q 4 [(7, ti s49), (41, tb (decide (s49 < (List.length a2 : Int))))] [0,1,2] rfl <| za <| rI h rfl (fun hc h => ?_) fun hc h => ?_
  ·refine zk <| zt <| zs <| zb <| zu <| p 2 [0,1,2,7,44,45] rfl <| iE h fun hc h => y (y_byte tabOk rfl rfl hc.1 hc.2 rfl) rfl ?_
   refine q 1 [(47, tb ((List.getD a2 (Int.toNat s49) 0) == 10))] [0,1,2,7] rfl <| za <| rI h rfl (fun hc h => zu <| p 1 [6] rfl <| zf <| zB <| zT <| zT <| zB <| zT <| by cases h; exact r_ret1 rfl (.tmp rfl) (fun _ _ g => g) (fun _ _ _ => List.nil_sublist _)) fun hc h => zk <| zi <| zt <| zr <| p 3 [0,1,2,7] rfl ?_
   obtain ⟨i51, e, h⟩ := bnd_ex h; rw [e]
   exact za <| r_less [0,1,2,7] rfl <| by exact r_backg i51 () (Nat.lt_succ_self _) h rfl rfl
  exact zx <| ze <| ze <| zq <| zt <| r_less [0,1,2] rfl <| by exact r_meetk () () h rfl rfl
 refine zu <| p 1 [0,1,2,49] rfl <| cB h fun r10 hr10 h => rcT hT [] (script_Parse_ok _ _ hr10) (by kernel_rfl) rfl rfl rfl fun v11 => q 5 [(8, .one (.raw (.slice none 0 0)) (tupv v11 0)), (9, ti r10.2)] [0,1,2] rfl <| zz <| p 1 [0,1,2,8,9,54] rfl <| cB h fun r12 hr12 h => r_calls (escrowlaw25_ended_ok _ _ hr12) (by kernel_rfl) rfl rfl <| cB h fun r13 hr13 h => rcT hT [] (script_Parse_ok _ _ hr13) (by kernel_rfl) rfl rfl rfl fun v14 => q 5 [(10, .one (.raw (.slice none 0 0)) (tupv v14 0)), (11, ti r13.2)] [0,1,2,8,9] rfl <| za <| zs ?_
 refine zu <| q 4 [(62, tb (r10.2 != r13.2))] [0,1,2,8,9,10] rfl ?_
 obtain ⟨b15, e, h⟩ := bnd_ex h; rw [e]
 refine bX h fun k16 hk16 h => ?_
 refine r_lsplitk (γ := Unit) 5 (fun (o17 : Bool) _ => [(0, ts a0), (1, ts a1), (2, ts a2), (8, .one (.raw (.slice none 0 0)) (tupv v11 0)), (9, ti r10.2), (67, tb o17)]) (fun _ _ => [Res.own (tupv v11 0) 55 Y55 r10.1]) k16 r ?_ ?_
 ·rcases Bool.eq_false_or_eq_true b15 with hh | hh
  ·rw [hh] at h ⊢
   rw [if_pos rfl] at h
   exact p 5 [0,1,2,8,9,67] rfl <| zn <| r_less [0,1,2,8,9,67] rfl <| pk [1] rfl <| zt <| by exact r_meetk true () h rfl rfl
  rw [hh] at h ⊢
  rw [if_neg (by decide)] at h
  refine p 2 [0,1,2,8,9,62,63,64] rfl <| r_guard (by rfl) rfl ?_
  refine r_freeze (i := 0) (k := 64) rfl rfl ?_
  refine cB h fun r18 hr18 h => r_callw (escrowlaw25_same_ok r10.1 r13.1 _ hr18) (by kernel_rfl) rfl (.own 0 rfl rfl (.val rfl .nil)) rfl ?_
  exact p 2 [0,1,2,8,9,67] rfl <| zn <| r_less [0,1,2,8,9,67] rfl <| zt <| by exact r_meetk (!r18) () h rfl rfl
 intro o17 _ h
 rw [← hk16] at h
 try dsimp only at h
 refine za <| rI h rfl (fun hc h => zu <| p 1 [6] rfl <| zf <| zT <| by cases h; exact r_ret1 rfl (.tmp rfl) (fun _ _ g => g) (fun _ _ _ => List.nil_sublist _)) fun hc h => zy <| q 1 [(12, ts [])] [0,1,2,8,9] rfl <| zz <| p 1 [0,1,2,8,9,12,13] rfl <| zz <| p 1 [1,2,8,9,12,13,68] rfl <| cB h fun r19 hr19 h => r_calls (escrowlaw25_ended_ok _ _ hr19) (by kernel_rfl) rfl rfl <| p 1 [1,2,8,9,12,13,14] rfl <| za <| jK h (γ := Unit) (fun (o21 : List Int) _ => [(1, ts a1), (8, .one (.raw (.slice none 0 0)) (tupv v11 0)), (9, ti r10.2), (12, ts o21), (14, ts r19)]) (fun (o21 : List Int) _ => [Res.own (tupv v11 0) 55 Y55 r10.1]) (fun k20 h => ?_) fun o21 gg h => ?_
 ·refine zu <| p 1 [1,2,8,9,12,13,14,15] rfl <| za <| zb <| r_less [1,2,8,9,12,13,14,15] rfl <| r_loopg (γ := Unit) (fun (s41 : List Int × Int × Int) _ => [(1, ts a1), (2, ts a2), (8, .one (.raw (.slice none 0 0)) (tupv v11 0)), (9, ti r10.2), (12, ts s41.1), (13, ti s41.2.1), (14, ts r19), (15, ti s41.2.2)]) (fun (s41 : List Int × Int × Int) _ => [Res.own (tupv v11 0) 55 Y55 r10.1]) (escrowlaw25_ScriptLines_l0 a2 r19 k20) ([], 0, 0) () h rfl rfl ?_
  clear h
  intro m42 s41 gg h
  cases m42 with
  | zero => cases h
  | succ m42 =>
  simp only [escrowlaw25_ScriptLines_l0] at h
  refine zs <| zu <| q 4 [(12, ts s41.1), (13, ti s41.2.1), (15, ti s41.2.2), (73, tb (decide (s41.2.2 < (List.length r19 : Int))))] [1,2,8,9,14] rfl <| za <| rI h rfl (fun hc h => ?_) fun hc h => ?_
  ·refine zk <| zt <| jK h (γ := Unit) (fun (o44 : List Int × Int) _ => [(1, ts a1), (2, ts a2), (8, .one (.raw (.slice none 0 0)) (tupv v11 0)), (9, ti r10.2), (12, ts o44.1), (13, ti o44.2), (14, ts r19), (15, ti s41.2.2)]) (fun (o44 : List Int × Int) _ => [Res.own (tupv v11 0) 55 Y55 r10.1]) (fun k43 h => ?_) fun o44 gg h => ?_
   ·refine zb <| zu <| q 2 [(76, ts r19), (77, ti s41.2.2)] [1,2,8,9,12,13,14,15] rfl <| iE h fun hc h => y (y_byte tabOk rfl rfl hc.1 hc.2 rfl) rfl ?_
    refine q 1 [(79, tb ((List.getD r19 (Int.toNat s41.2.2) 0) == 10))] [1,2,8,9,12,13,14,15] rfl <| za <| rI h rfl (fun hc h => ?_) fun hc h => ?_
    ·refine zu <| q 1 [(80, ts s41.1)] [1,2,8,9,13,14,15] rfl <| iE h fun hc h => y (y_cat rfl rfl hc) rfl ?_
     refine q 1 [(81, ts (s41.1 ++ [10, 35])), (82, ts a2)] [1,2,8,9,13,14,15] rfl <| iE h fun hc h => y (y_cat rfl rfl hc) rfl ?_
     refine iE h fun hc h => y (y_cat rfl rfl hc) rfl ?_
     refine q 4 [(84, ts (((s41.1 ++ [10, 35]) ++ a2) ++ [10])), (85, ts r19), (86, ti s41.2.1), (88, ti (IntKind.wrap .i64 (s41.2.2 + 1)))] [1,2,8,9,14,15] rfl <| iE h fun hc h => y (y_sub (i := s41.2.1) (j := (IntKind.wrap .i64 (s41.2.2 + 1))) tabOk rfl rfl rfl hc.1 hc.2.1 hc.2.2 rfl) rfl ?_
     refine iE h fun hc h => y (y_cat rfl rfl hc) rfl ?_
     refine q 1 [(12, ts ((((s41.1 ++ [10, 35]) ++ a2) ++ [10]) ++ (List.drop (Int.toNat s41.2.1) (List.take (Int.toNat (IntKind.wrap .i64 (s41.2.2 + 1))) r19))))] [1,2,8,9,14,15] rfl ?_
     obtain ⟨x46, e, h⟩ := bnd_ex h; rw [e]
     refine za <| zr <| q 3 [(12, ts x46), (13, ti (IntKind.wrap .i64 (s41.2.2 + 1)))] [1,2,8,9,14,15] rfl ?_
     obtain ⟨from47, e, h⟩ := bnd_ex h; rw [e]
     exact zn <| zi <| zt <| r_less [1,2,8,9,12,13,14,15] rfl <| by exact r_meetk (x46, from47) () h rfl rfl
    exact zk <| zi <| zt <| r_less [1,2,8,9,12,13,14,15] rfl <| by exact r_meetk (s41.1, s41.2.1) () h rfl rfl
   refine zr <| q 3 [(1, ts a1), (2, ts a2), (8, .one (.raw (.slice none 0 0)) (tupv v11 0)), (9, ti r10.2), (12, ts o44.1), (13, ti o44.2), (14, ts r19), (15, ti (IntKind.wrap .i64 (s41.2.2 + 1)))] [] rfl ?_
   obtain ⟨i45, e, h⟩ := bnd_ex h; rw [e]
   exact za <| r_less [1,2,8,9,12,13,14,15] rfl <| by exact r_backg (o44.1, o44.2, i45) () (Nat.lt_succ_self _) h rfl rfl
  exact zx <| ze <| ze <| zq <| zt <| r_less [1,8,9,12,14] rfl <| by exact r_meetk s41.1 () h rfl rfl
 refine jK h (γ := Unit) (fun (o23 : Unit) _ => [(1, ts a1), (8, .one (.raw (.slice none 0 0)) (tupv v11 0)), (9, ti r10.2), (14, ts r19)]) (fun (o23 : Unit) _ => [Res.own (tupv v11 0) 55 Y55 r10.1]) (fun k22 h => ?_) fun o23 gg h => ?_
 ·refine zu <| q 3 [(1, ts a1), (8, .one (.raw (.slice none 0 0)) (tupv v11 0)), (9, ti r10.2), (12, ts o21), (14, ts r19), (95, tb (decide ((List.length o21 : Int) ≤ 60000)))] [] rfl <| za <| rI h rfl (fun hc h => ?_) fun hc h => ?_
  ·refine zu <| p 1 [1,8,9,14,97] rfl <| cB h fun r34 hr34 h => rcT hT [] (script_Parse_ok _ _ hr34) (by kernel_rfl) rfl rfl rfl fun v35 => q 5 [(16, .one (.raw (.slice none 0 0)) (tupv v35 0)), (17, ti r34.2)] [1,8,9,14] rfl <| zz <| q 4 [(104, tb (r34.2 != r10.2))] [1,8,9,14,16] rfl ?_
   obtain ⟨b36, e, h⟩ := bnd_ex h; rw [e]
   refine bX h fun k37 hk37 h => ?_
   refine r_lsplitk (γ := Unit) 5 (fun (o38 : Bool) _ => [(1, ts a1), (8, .one (.raw (.slice none 0 0)) (tupv v11 0)), (9, ti r10.2), (14, ts r19), (109, tb o38)]) (fun _ _ => [Res.own (tupv v11 0) 55 Y55 r10.1]) k37 r ?_ ?_
   ·rcases Bool.eq_false_or_eq_true b36 with hh | hh
    ·rw [hh] at h ⊢
     rw [if_pos rfl] at h
     exact p 5 [1,8,9,14,109] rfl <| zn <| r_less [1,8,9,14,109] rfl <| pk [1] rfl <| zt <| by exact r_meetk true () h rfl rfl
    rw [hh] at h ⊢
    rw [if_neg (by decide)] at h
    refine p 2 [1,8,9,14,104,105,106] rfl <| r_guard (by rfl) rfl ?_
    refine r_freeze (i := 0) (k := 106) rfl rfl ?_
    refine cB h fun r39 hr39 h => r_callw (escrowlaw25_same_ok r10.1 r34.1 _ hr39) (by kernel_rfl) rfl (.own 0 rfl rfl (.val rfl .nil)) rfl ?_
    exact p 2 [1,8,9,14,109] rfl <| zn <| r_less [1,8,9,14,109] rfl <| zt <| by exact r_meetk (!r39) () h rfl rfl
   intro o38 _ h
   rw [← hk37] at h
   try dsimp only at h
   exact za <| rI h rfl (fun hc h => zu <| p 1 [6] rfl <| zf <| zT <| by cases h; exact r_ret1 rfl (.tmp rfl) (fun _ _ g => g) (fun _ _ _ => List.nil_sublist _)) fun hc h => zk <| zt <| r_less [1,8,9,14] rfl <| by exact r_meetk () () h rfl rfl
  exact zk <| zt <| r_less [1,8,9,14] rfl <| by exact r_meetk () () h rfl rfl
 refine zs <| zu <| q 2 [(1, ts a1), (8, .one (.raw (.slice none 0 0)) (tupv v11 0)), (14, ts r19), (111, tb (r10.2 != 0))] [] rfl <| za <| rI h rfl (fun hc h => ?_) fun hc h => ?_
 ·refine zu <| p 1 [112] rfl <| y (y_lenown tabOk 0 rfl rfl rfl) rfl ?_
  refine q 2 [(6, tb ((List.length r10.1 : Int) == 0))] [] rfl <| zf <| zT ?_
  cases h
  exact r_ret1 rfl (.tmp rfl) (fun _ _ g => g) (fun _ _ _ => List.nil_sublist _)
 refine zy <| p 1 [1,8,14,116] rfl <| cB h fun r24 hr24 h => rcT hT [] (script_Parse_ok _ _ hr24) (by kernel_rfl) rfl rfl rfl fun v25 => q 5 [(18, .one (.raw (.slice none 0 0)) (tupv v25 0)), (19, ti r24.2)] [1,8,14] rfl <| za <| zs <| zu <| q 2 [(121, tb (r24.2 != 0))] [1,8,14,18] rfl <| za <| rI h rfl (fun hc h => zu <| p 1 [6] rfl <| zf <| zT <| by cases h; exact r_ret1 rfl (.tmp rfl) (fun _ _ g => g) (fun _ _ _ => List.nil_sublist _)) fun hc h => ?_
 refine zy <| p 2 [8,18,123,124] rfl <| iE h fun hc h => y (y_cat rfl rfl hc) rfl ?_
 refine cB h fun r26 hr26 h => rcT hT [] (script_Parse_ok _ _ hr26) (by kernel_rfl) rfl rfl rfl fun v27 => q 5 [(20, .one (.raw (.slice none 0 0)) (tupv v27 0)), (21, ti r26.2)] [8,18] rfl <| zz <| p 1 [8,18,20,21,22] rfl <| r_nilown (.slice none 0 0) rfl 55 Y55 ?_
 refine zz <| p 2 [18,20,21,129,130] rfl <| iE h fun hc h => r_append (B := 320) tabOk 0 rfl rfl (src_own 3 rfl rfl) rfl el55 rfl rfl hc rfl fun v28 => ?_
 refine pk [0,0,0] rfl <| p 1 [20,21,131,132] rfl <| iE h fun hc h => r_append (B := 320) tabOk 0 rfl rfl (src_own 2 rfl rfl) rfl el55 rfl rfl hc rfl fun v29 => ?_
 refine pk [0,0] rfl <| p 1 [20,21,22] rfl <| zz <| q 3 [(136, tb (r26.2 == 0))] [20,22] rfl ?_
 obtain ⟨b30, e, h⟩ := bnd_ex h; rw [e]
 refine bX h fun k31 hk31 h => ?_
 refine r_lsplitk (γ := Unit) 4 (fun (o32 : Bool) _ => [(140, tb o32)]) (fun _ _ => []) k31 r ?_ ?_
 ·rcases Bool.eq_false_or_eq_true b30 with hh | hh
  ·rw [hh] at h ⊢
   rw [if_pos rfl] at h
   refine p 2 [136,137,138] rfl <| r_guard (by rfl) rfl ?_
   refine r_freeze (i := 1) (k := 137) rfl rfl ?_
   refine r_freeze (i := 0) (k := 138) rfl rfl ?_
   exact cB h fun r33 hr33 h => r_calls (escrowlaw25_same_ok _ _ _ hr33) (by kernel_rfl) rfl rfl <| p 1 [140] rfl <| zn <| r_less [140] rfl <| zt <| by exact r_meetk r33 () h rfl rfl
  rw [hh] at h ⊢
  rw [if_neg (by decide)] at h
  exact p 4 [140] rfl <| zn <| r_less [140] rfl <| pk [] rfl <| zt <| by exact r_meetk false () h rfl rfl
 intro o32 _ h
 rw [← hk31] at h
 try dsimp only at h
 refine p 1 [6] rfl <| zf ?_
 cases h
 exact r_ret1 rfl (.tmp rfl) (fun _ _ g => g) (fun _ _ _ => List.nil_sublist _)

end Sx
