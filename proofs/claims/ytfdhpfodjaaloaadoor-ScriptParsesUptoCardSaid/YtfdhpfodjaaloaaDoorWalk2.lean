/-
  Own work, printed by a program of the same hand. Each function of the code answers what its plain twin reckons.
-/
import Derived.Test.YtfdhpfodjaaloaaDoorWalk1
namespace Sx
open Go Go.Proofs
set_option maxRecDepth 10000
set_option maxHeartbeats 1000000
attribute [local irreducible] wpList

theorem escrowref25_words_ok (a0 : List Int) (r : (List (Bool × List Int × Unit)) × Bool) (h : escrowref25_words a0 = some r) : Fn Tryd.prog 32 [ts a0] [] (fun v => .tup [⟨.raw (.slice none 0 0), tupv v 0⟩, ⟨.bool, r.2⟩]) (fun v => [Res.own (tupv v 0) 121 (.pair .bool (.pair .str .unit)) r.1]) := by
 unfold escrowref25_words at h
 refine enter Tryd.func32 rfl 73 rfl rfl fun F => ?_
 refine zu <| p 2 [0] rfl <| zz <| p 1 [0,4] rfl <| r_nilown (.slice none 0 0) rfl 121 (.pair .bool (.pair .str .unit)) ?_
 refine zz <| p 1 [0,4,5] rfl <| za <| zb <| r_less [0,4,5] rfl <| r_loopg (γ := Value) (fun (s4 : Int × (List (Bool × List Int × Unit))) g5 => [(0, ts a0), (4, .one (.raw (.slice none 0 0)) g5), (5, ti s4.1)]) (fun (s4 : Int × (List (Bool × List Int × Unit))) g5 => [Res.own g5 121 (.pair .bool (.pair .str .unit)) s4.2]) (escrowref25_words_l0 a0) (0, []) (.slice none 0 0) h rfl rfl ?_
 clear h
 intro m6 s4 g5 h
 cases m6 with
 | zero => cases h
 | succ m6 =>
 simp only [escrowref25_words_l0] at h
 refine zb <| zs <| zu <| q 4 [(4, .one (.raw (.slice none 0 0)) g5), (5, ti s4.1), (12, tb (decide (s4.1 ≥ (List.length a0 : Int))))] [0] rfl <| za <| rI h rfl (fun hc h => ?_) fun hc h => ?_
 ·refine zu <| p 2 [2,3] rfl <| zf <| zT <| zB <| zT <| zB <| r_nilown (.slice none 0 0) rfl 121 (.pair .bool (.pair .str .unit)) ?_
  cases h
  exact r_rets (rs := [.tmp 2, .tmp 3]) rfl (.cons (.tmp rfl) (.cons (.tmp rfl) (.nil))) rfl (fun _ vs g => by cases g with | cons h0 g => cases g with | cons h1 g => cases g; exact ⟨_, rfl, .cons (raw_self h0) (.cons h1 (.nil))⟩) (fun _ vs g => by cases g with | cons h0 g => cases g with | cons h1 g => cases g; rw [raw_eq h0]; exact (.cons_cons _ (.cons _ .slnil)))
 refine zk <| zt <| jK h (γ := Value) (fun (o8 : Int × (List (Bool × List Int × Unit))) g9 => [(0, ts a0), (4, .one (.raw (.slice none 0 0)) g9), (5, ti o8.1)]) (fun (o8 : Int × (List (Bool × List Int × Unit))) g9 => [Res.own g9 121 (.pair .bool (.pair .str .unit)) o8.2]) (fun k7 h => ?_) fun o8 g9 h => ?_
 ·refine zu <| q 2 [(13, ts a0), (14, ti s4.1)] [0,4,5] rfl <| iE h fun hc h => y (y_byte tabOk rfl rfl hc.1 hc.2 rfl) rfl ?_
  refine q 1 [(16, tb ((List.getD a0 (Int.toNat s4.1) 0) == 34))] [0,4,5] rfl <| za <| rI h rfl (fun hc h => ?_) fun hc h => ?_
  ·refine zu <| q 2 [(18, ts a0), (19, ti s4.1)] [0,4] rfl <| cB h fun r11 hr11 h => r_calls (escrowref25_quoted_ok _ _ _ hr11) (by kernel_rfl) rfl rfl <| q 5 [(6, ts r11.1), (7, ti r11.2)] [0,4] rfl <| za <| zs <| zu <| q 2 [(24, tb (decide (r11.2 < 0)))] [0,4,6,7] rfl <| za <| rI h rfl (fun hc h => ?_) fun hc h => ?_
   ·refine zu <| p 2 [2,3] rfl <| zf <| zT <| zT <| zB <| zT <| zB <| r_nilown (.slice none 0 0) rfl 121 (.pair .bool (.pair .str .unit)) ?_
    cases h
    exact r_rets (rs := [.tmp 2, .tmp 3]) rfl (.cons (.tmp rfl) (.cons (.tmp rfl) (.nil))) rfl (fun _ vs g => by cases g with | cons h0 g => cases g with | cons h1 g => cases g; exact ⟨_, rfl, .cons (raw_self h0) (.cons h1 (.nil))⟩) (fun _ vs g => by cases g with | cons h0 g => cases g with | cons h1 g => cases g; rw [raw_eq h0]; exact (.cons_cons _ (.cons _ .slnil)))
   refine zy <| q 2 [(25, .one (.raw (.slice none 0 0)) g5), (26, ts r11.1)] [0,7] rfl <| y (y_build rfl zf121 rfl rfl (.cons ((.fst .here)) rfl rfl ok_here (.cons ((.snd (.fst .here))) rfl rfl ok_here .nil))) rfl ?_
   refine r_lits (B := 24) tabOk rfl el121 rfl rfl rfl (.cons rfl .nil) rfl fun v12 => ?_
   refine iE h fun hc h => r_append (B := 24) tabOk 1 rfl rfl (src_own 0 rfl rfl) rfl el121 rfl rfl hc rfl fun v13 => ?_
   exact pk [1] rfl <| p 1 [0,4,7] rfl <| za <| zr <| q 2 [(5, ti r11.2)] [0,4] rfl <| za <| r_less [0,4,5] rfl <| by exact r_meetk (r11.2, (s4.2 ++ [(true, r11.1, ())])) v13 h rfl rfl
  refine zu <| q 2 [(8, ti s4.1)] [0,4,5] rfl <| za <| jK h (γ := Unit) (fun (o15 : Int) _ => [(0, ts a0), (4, .one (.raw (.slice none 0 0)) g5), (5, ti s4.1), (8, ti o15)]) (fun (o15 : Int) _ => [Res.own g5 121 (.pair .bool (.pair .str .unit)) s4.2]) (fun k14 h => ?_) fun o15 gg h => ?_
  ·refine zb <| r_less [0,4,5,8] rfl <| r_loopg (γ := Unit) (fun (s19 : Int) _ => [(0, ts a0), (4, .one (.raw (.slice none 0 0)) g5), (5, ti s4.1), (8, ti s19)]) (fun (s19 : Int) _ => [Res.own g5 121 (.pair .bool (.pair .str .unit)) s4.2]) (escrowref25_words_l1 a0 k14) s4.1 () h rfl rfl ?_
   clear h
   intro m20 s19 gg h
   cases m20 with
   | zero => cases h
   | succ m20 =>
   simp only [escrowref25_words_l1] at h
   refine zs <| zu <| q 5 [(8, ti s19), (36, tb (decide (s19 < (List.length a0 : Int))))] [0,4,5] rfl ?_
   obtain ⟨b21, e, h⟩ := bnd_ex h; rw [e]
   refine bX h fun k22 hk22 h => ?_
   refine r_lsplitk (γ := Unit) 5 (fun (o23 : Bool) _ => [(0, ts a0), (4, .one (.raw (.slice none 0 0)) g5), (5, ti s4.1), (8, ti s19), (41, tb o23)]) (fun _ _ => [Res.own g5 121 (.pair .bool (.pair .str .unit)) s4.2]) k22 r ?_ ?_
   ·rcases Bool.eq_false_or_eq_true b21 with hh | hh
    ·rw [hh] at h ⊢
     rw [if_pos rfl] at h
     refine p 2 [0,4,5,8,36,37,38] rfl <| r_guard (by rfl) rfl ?_
     refine iE h fun hc h => y (y_byte tabOk rfl rfl hc.1 hc.2 rfl) rfl ?_
     exact q 2 [(41, tb ((List.getD a0 (Int.toNat s19) 0) != 32))] [0,4,5,8] rfl <| zn <| r_less [0,4,5,8,41] rfl <| zt <| by exact r_meetk ((List.getD a0 (Int.toNat s19) 0) != 32) () h rfl rfl
    rw [hh] at h ⊢
    rw [if_neg (by decide)] at h
    exact p 5 [0,4,5,8,41] rfl <| zn <| r_less [0,4,5,8,41] rfl <| zt <| by exact r_meetk false () h rfl rfl
   intro o23 _ h
   rw [← hk22] at h
   try dsimp only at h
   refine p 1 [0,4,5,8,42] rfl <| bX h fun k25 hk25 h => ?_
   refine r_lsplitk (γ := Unit) 5 (fun (o26 : Bool) _ => [(0, ts a0), (4, .one (.raw (.slice none 0 0)) g5), (5, ti s4.1), (8, ti s19), (47, tb o26)]) (fun _ _ => [Res.own g5 121 (.pair .bool (.pair .str .unit)) s4.2]) k25 r ?_ ?_
   ·rcases Bool.eq_false_or_eq_true o23 with hh | hh
    ·rw [hh] at h ⊢
     rw [if_pos rfl] at h
     refine p 2 [0,4,5,8,42,43,44] rfl <| r_guard (by rfl) rfl ?_
     refine iE h fun hc h => y (y_byte tabOk rfl rfl hc.1 hc.2 rfl) rfl ?_
     exact q 2 [(47, tb ((List.getD a0 (Int.toNat s19) 0) != 34))] [0,4,5,8] rfl <| zn <| r_less [0,4,5,8,47] rfl <| zt <| by exact r_meetk ((List.getD a0 (Int.toNat s19) 0) != 34) () h rfl rfl
    rw [hh] at h ⊢
    rw [if_neg (by decide)] at h
    exact p 5 [0,4,5,8,47] rfl <| zn <| r_less [0,4,5,8,47] rfl <| zt <| by exact r_meetk false () h rfl rfl
   intro o26 _ h
   rw [← hk25] at h
   try dsimp only at h
   refine za <| rI h rfl (fun hc h => ?_) fun hc h => ?_
   ·refine zk <| zt <| zb <| zr <| p 3 [0,4,5,8] rfl ?_
    obtain ⟨end27, e, h⟩ := bnd_ex h; rw [e]
    exact zn <| zi <| zt <| r_less [0,4,5,8] rfl <| by exact r_backg end27 () (Nat.lt_succ_self _) h rfl rfl
   exact zx <| ze <| ze <| zq <| zt <| r_less [0,4,5,8] rfl <| by exact r_meetk s19 () h rfl rfl
  refine zs <| zu <| q 3 [(0, ts a0), (4, .one (.raw (.slice none 0 0)) g5), (5, ti s4.1), (8, ti o15), (52, tb (o15 == s4.1))] [] rfl <| za <| rI h rfl (fun hc h => ?_) fun hc h => ?_
  ·refine zu <| p 2 [2,3] rfl <| zf <| zT <| zT <| zB <| zT <| zB <| r_nilown (.slice none 0 0) rfl 121 (.pair .bool (.pair .str .unit)) ?_
   cases h
   exact r_rets (rs := [.tmp 2, .tmp 3]) rfl (.cons (.tmp rfl) (.cons (.tmp rfl) (.nil))) rfl (fun _ vs g => by cases g with | cons h0 g => cases g with | cons h1 g => cases g; exact ⟨_, rfl, .cons (raw_self h0) (.cons h1 (.nil))⟩) (fun _ vs g => by cases g with | cons h0 g => cases g with | cons h1 g => cases g; rw [raw_eq h0]; exact (.cons_cons _ (.cons _ .slnil)))
  refine zy <| q 4 [(53, .one (.raw (.slice none 0 0)) g5), (54, ts a0), (55, ti s4.1), (56, ti o15)] [0,8] rfl <| iE h fun hc h => y (y_sub (i := s4.1) (j := o15) tabOk rfl rfl rfl hc.1 hc.2.1 hc.2.2 rfl) rfl ?_
  refine y (y_build rfl zf121 rfl rfl (.cons ((.snd (.fst .here))) rfl rfl ok_here .nil)) rfl ?_
  refine r_lits (B := 24) tabOk rfl el121 rfl rfl rfl (.cons rfl .nil) rfl fun v16 => ?_
  refine iE h fun hc h => r_append (B := 24) tabOk 1 rfl rfl (src_own 0 rfl rfl) rfl el121 rfl rfl hc rfl fun v17 => ?_
  exact pk [1] rfl <| p 1 [0,4,8] rfl <| za <| zr <| p 2 [0,4,5] rfl <| za <| r_less [0,4,5] rfl <| by exact r_meetk (o15, (s4.2 ++ [(false, (List.drop (Int.toNat s4.1) (List.take (Int.toNat o15) a0)), ())])) v17 h rfl rfl
 refine zs <| zu <| q 4 [(0, ts a0), (4, .one (.raw (.slice none 0 0)) g9), (5, ti o8.1), (65, tb (o8.1 == (List.length a0 : Int)))] [] rfl <| za <| rI h rfl (fun hc h => zu <| p 3 [2,3] rfl <| zf <| zT <| zB <| zT <| zB <| by cases h; exact r_rets (rs := [.tmp 2, .tmp 3]) rfl (.cons (.tmp rfl) (.cons (.tmp rfl) (.nil))) rfl (fun _ vs g => by cases g with | cons h0 g => cases g with | cons h1 g => cases g; exact ⟨_, rfl, .cons (raw_self h0) (.cons h1 (.nil))⟩) (fun _ vs g => by cases g with | cons h0 g => cases g with | cons h1 g => cases g; rw [raw_eq h0]; exact (.cons_cons _ .slnil))) fun hc h => zk <| zt <| zs <| zu <| q 2 [(67, ts a0), (68, ti o8.1)] [0,4,5] rfl <| iE h fun hc h => y (y_byte tabOk rfl rfl hc.1 hc.2 rfl) rfl ?_
 refine q 1 [(70, tb ((List.getD a0 (Int.toNat o8.1) 0) != 32))] [0,4,5] rfl <| za <| rI h rfl (fun hc h => ?_) fun hc h => ?_
 ·refine zu <| p 2 [2,3] rfl <| zf <| zT <| zB <| zT <| zB <| r_nilown (.slice none 0 0) rfl 121 (.pair .bool (.pair .str .unit)) ?_
  cases h
  exact r_rets (rs := [.tmp 2, .tmp 3]) rfl (.cons (.tmp rfl) (.cons (.tmp rfl) (.nil))) rfl (fun _ vs g => by cases g with | cons h0 g => cases g with | cons h1 g => cases g; exact ⟨_, rfl, .cons (raw_self h0) (.cons h1 (.nil))⟩) (fun _ vs g => by cases g with | cons h0 g => cases g with | cons h1 g => cases g; rw [raw_eq h0]; exact (.cons_cons _ (.cons _ .slnil)))
 refine zk <| zt <| zr <| q 3 [(5, ti (IntKind.wrap .i64 (o8.1 + 1)))] [0,4] rfl ?_
 obtain ⟨at10, e, h⟩ := bnd_ex h; rw [e]
 exact zn <| zi <| zt <| r_less [0,4,5] rfl <| by exact r_backg (at10, o8.2) g9 (Nat.lt_succ_self _) h rfl rfl

theorem escrowref25_number_ok (a0 : Bool × List Int × Unit) (r : Int × Bool) (h : escrowref25_number a0 = some r) : Pure Tryd.prog 81 [.one (.pair .bool (.pair .str .unit)) a0] (.tup [⟨(.int .i64), r.1⟩, ⟨.bool, r.2⟩]) := by
 unfold escrowref25_number at h
 refine enter Tryd.func81 rfl 80 rfl rfl fun F => ?_
 refine zu <| r_box rfl rfl fun b1 => p 2 [1] rfl <| zz <| p 1 [1,8] rfl <| yl 0 ((.snd (.fst .here))) ty9 rfl rfl rfl trivial rfl <| q 1 [(4, ts a0.2.1)] [1] rfl <| zz <| q 4 [(13, tb (decide ((List.length a0.2.1 : Int) > 0)))] [1,4] rfl ?_
 obtain ⟨b2, e, h⟩ := bnd_ex h; rw [e]
 refine bX h fun k3 hk3 h => ?_
 refine r_lsplitk (γ := Unit) 4 (fun (o4 : Bool) _ => [(1, ptr b1 0), (4, ts a0.2.1), (17, tb o4)]) (fun _ _ => [Res.var b1 121 (.pair .bool (.pair .str .unit)) a0]) k3 r ?_ ?_
 ·rcases Bool.eq_false_or_eq_true b2 with hh | hh
  ·rw [hh] at h ⊢
   rw [if_pos rfl] at h
   refine q 1 [(13, tb true), (14, ts a0.2.1)] [1,4] rfl <| r_guard (by rfl) rfl ?_
   refine iE h fun hc h => y (y_byte tabOk rfl rfl hc.1 hc.2 rfl) rfl ?_
   exact q 2 [(17, tb ((List.getD a0.2.1 0 0) == 45))] [1,4] rfl <| zn <| r_less [1,4,17] rfl <| zt <| by exact r_meetk ((List.getD a0.2.1 0 0) == 45) () h rfl rfl
  rw [hh] at h ⊢
  rw [if_neg (by decide)] at h
  exact p 4 [1,4,17] rfl <| zn <| r_less [1,4,17] rfl <| zt <| by exact r_meetk false () h rfl rfl
 intro o4 _ h
 rw [← hk3] at h
 try dsimp only at h
 refine p 1 [1,4,5] rfl <| za <| jK h (γ := Unit) (fun (o6 : List Int) _ => [(1, ptr b1 0), (4, ts o6), (5, tb o4)]) (fun (o6 : List Int) _ => [Res.var b1 121 (.pair .bool (.pair .str .unit)) a0]) (fun k5 h => ?_) fun o6 gg h => ?_
 ·refine zu <| p 1 [1,4,5,18] rfl <| za <| rI h rfl (fun hc h => ?_) fun hc h => ?_
  ·refine zr <| q 1 [(19, ts a0.2.1)] [1,5] rfl <| iE h fun hc h => y (y_sub (i := 1) (j := (List.length a0.2.1 : Int)) tabOk rfl rfl rfl hc.1 hc.2.1 hc.2.2 rfl) rfl ?_
   refine q 1 [(4, ts (List.drop 1 (List.take (Int.toNat (List.length a0.2.1 : Int)) a0.2.1)))] [1,5] rfl ?_
   obtain ⟨s26, e, h⟩ := bnd_ex h; rw [e]
   exact za <| r_less [1,4,5] rfl <| by exact r_meetk s26 () h rfl rfl
  exact zk <| zt <| r_less [1,4,5] rfl <| by exact r_meetk a0.2.1 () h rfl rfl
 refine zs <| zu <| p 1 [4,5,21] rfl <| yl 0 ((.fst .here)) ty4 rfl rfl rfl trivial rfl <| q 1 [(23, tb a0.1)] [4,5] rfl ?_
 refine r_lsplit (γ := Unit) 4 (fun _ => [(4, ts o6), (5, tb o4), (27, tb (a0.1 || (decide ((List.length o6 : Int) < 1))))]) (fun _ => [Res.var b1 121 (.pair .bool (.pair .str .unit)) a0]) ?_ (fun _ => ?_)
 ·clear h
  rcases Bool.eq_false_or_eq_true a0.1 with hh | hh
  ·rw [hh]
   exact p 4 [4,5,27] rfl <| za <| by exact r_meetg () rfl rfl
  rw [hh]
  exact q 4 [(27, tb (decide ((List.length o6 : Int) < 1)))] [4,5] rfl <| r_less [4,5,27] rfl <| za <| by exact r_meetg () rfl rfl
 refine q 1 [(28, tb (a0.1 || (decide ((List.length o6 : Int) < 1))))] [4,5] rfl ?_
 obtain ⟨b8, e, h⟩ := bnd_ex h; rw [e]
 refine r_lsplit (γ := Unit) 4 (fun _ => [(4, ts o6), (5, tb o4), (32, tb (b8 || (decide ((List.length o6 : Int) > 19))))]) (fun _ => [Res.var b1 121 (.pair .bool (.pair .str .unit)) a0]) ?_ (fun _ => ?_)
 ·clear h
  cases b8
  ·exact q 4 [(32, tb (decide ((List.length o6 : Int) > 19)))] [4,5] rfl <| r_less [4,5,32] rfl <| za <| by exact r_meetg () rfl rfl
  exact p 4 [4,5,32] rfl <| za <| by exact r_meetg () rfl rfl
 refine q 1 [(33, tb (b8 || (decide ((List.length o6 : Int) > 19))))] [4,5] rfl ?_
 obtain ⟨b9, e, h⟩ := bnd_ex h; rw [e]
 refine bX h fun k10 hk10 h => ?_
 refine r_lsplitk (γ := Unit) 12 (fun (o11 : Bool) _ => [(4, ts o6), (5, tb o4), (45, tb o11)]) (fun _ _ => [Res.var b1 121 (.pair .bool (.pair .str .unit)) a0]) k10 r ?_ ?_
 ·rcases Bool.eq_false_or_eq_true b9 with hh | hh
  ·rw [hh] at h ⊢
   rw [if_pos rfl] at h
   exact p 12 [4,5,45] rfl <| zn <| r_less [4,5,45] rfl <| zt <| by exact r_meetk true () h rfl rfl
  rw [hh] at h ⊢
  rw [if_neg (by decide)] at h
  refine p 1 [4,5,33,34] rfl <| r_guard (by rfl) rfl ?_
  refine iE h fun hc h => y (y_byte tabOk rfl rfl hc.1 hc.2 rfl) rfl ?_
  refine q 2 [(37, tb ((List.getD o6 0 0) == 48))] [4,5,33] rfl ?_
  obtain ⟨b12, e, h⟩ := bnd_ex h; rw [e]
  refine bX h fun k13 hk13 h => ?_
  refine r_lsplitk (γ := Unit) 7 (fun (o14 : Bool) _ => [(4, ts o6), (5, tb o4), (33, tb false), (44, tb o14)]) (fun _ _ => [Res.var b1 121 (.pair .bool (.pair .str .unit)) a0]) k13 r ?_ ?_
  ·rcases Bool.eq_false_or_eq_true b12 with hh | hh
   ·rw [hh] at h ⊢
    rw [if_pos rfl] at h
    refine q 4 [(37, tb true), (41, tb (decide ((List.length o6 : Int) > 1)))] [4,5,33] rfl ?_
    obtain ⟨b15, e, h⟩ := bnd_ex h; rw [e]
    refine r_lsplit (γ := Unit) 2 (fun _ => [(4, ts o6), (5, tb o4), (33, tb false), (37, tb true), (43, tb (b15 || o4))]) (fun _ => [Res.var b1 121 (.pair .bool (.pair .str .unit)) a0]) ?_ (fun _ => ?_)
    ·clear h
     cases b15
     ·exact p 2 [4,5,33,37,43] rfl <| za <| by exact r_meetg () rfl rfl
     exact p 2 [4,5,33,37,43] rfl <| za <| by exact r_meetg () rfl rfl
    exact p 1 [4,5,33,44] rfl <| zn <| r_less [4,5,33,44] rfl <| zt <| by exact r_meetk (b15 || o4) () h rfl rfl
   rw [hh] at h ⊢
   rw [if_neg (by decide)] at h
   exact p 7 [4,5,33,44] rfl <| zn <| r_less [4,5,33,44] rfl <| zt <| by exact r_meetk false () h rfl rfl
  intro o14 _ h
  rw [← hk13] at h
  try dsimp only at h
  exact p 1 [4,5,45] rfl <| zn <| r_less [4,5,45] rfl <| zt <| by exact r_meetk o14 () h rfl rfl
 intro o11 _ h
 rw [← hk10] at h
 try dsimp only at h
 refine za <| rI h rfl (fun hc h => zu <| p 2 [2,3] rfl <| zf <| zT <| by cases h; exact r_rets (rs := [.tmp 2, .tmp 3]) rfl (.cons (.tmp rfl) (.cons (.tmp rfl) (.nil))) rfl (fun _ vs g => tup_ok vs g) (fun _ _ _ => List.nil_sublist _)) fun hc h => zy <| p 1 [4,5,6] rfl <| za <| jK h (γ := Unit) (fun (o17 : Int) _ => [(5, tb o4), (6, .one (.int .u64) o17)]) (fun (o17 : Int) _ => [Res.var b1 121 (.pair .bool (.pair .str .unit)) a0]) (fun k16 h => ?_) fun o17 gg h => ?_
 ·refine zu <| p 1 [4,5,6,7] rfl <| za <| zb <| r_less [4,5,6,7] rfl <| r_loopg (γ := Unit) (fun (s19 : Int × Int) _ => [(4, ts o6), (5, tb o4), (6, .one (.int .u64) s19.1), (7, ti s19.2)]) (fun (s19 : Int × Int) _ => [Res.var b1 121 (.pair .bool (.pair .str .unit)) a0]) (escrowref25_number_l0 o6 k16) (0, 0) () h rfl rfl ?_
  clear h
  intro m20 s19 gg h
  cases m20 with
  | zero => cases h
  | succ m20 =>
  simp only [escrowref25_number_l0] at h
  refine zs <| zu <| q 4 [(6, .one (.int .u64) s19.1), (7, ti s19.2), (49, tb (decide (s19.2 < (List.length o6 : Int))))] [4,5] rfl <| za <| rI h rfl (fun hc h => ?_) fun hc h => ?_
  ·refine zk <| zt <| zs <| zb <| zs <| zu <| q 2 [(52, ts o6), (53, ti s19.2)] [4,5,6,7] rfl <| iE h fun hc h => y (y_byte tabOk rfl rfl hc.1 hc.2 rfl) rfl ?_
   refine q 2 [(56, tb (decide ((List.getD o6 (Int.toNat s19.2) 0) < 48)))] [4,5,6,7] rfl ?_
   obtain ⟨b21, e, h⟩ := bnd_ex h; rw [e]
   refine bX h fun k22 hk22 h => ?_
   refine r_lsplitk (γ := Unit) 5 (fun (o23 : Bool) _ => [(4, ts o6), (5, tb o4), (6, .one (.int .u64) s19.1), (7, ti s19.2), (61, tb o23)]) (fun _ _ => [Res.var b1 121 (.pair .bool (.pair .str .unit)) a0]) k22 r ?_ ?_
   ·rcases Bool.eq_false_or_eq_true b21 with hh | hh
    ·rw [hh] at h ⊢
     rw [if_pos rfl] at h
     exact p 5 [4,5,6,7,61] rfl <| zn <| r_less [4,5,6,7,61] rfl <| zt <| by exact r_meetk true () h rfl rfl
    rw [hh] at h ⊢
    rw [if_neg (by decide)] at h
    refine q 2 [(56, tb false), (57, ts o6), (58, ti s19.2)] [4,5,6,7] rfl <| r_guard (by rfl) rfl ?_
    refine iE h fun hc h => y (y_byte tabOk rfl rfl hc.1 hc.2 rfl) rfl ?_
    exact q 2 [(61, tb (decide ((List.getD o6 (Int.toNat s19.2) 0) > 57)))] [4,5,6,7] rfl <| zn <| r_less [4,5,6,7,61] rfl <| zt <| by exact r_meetk (decide ((List.getD o6 (Int.toNat s19.2) 0) > 57)) () h rfl rfl
   intro o23 _ h
   rw [← hk22] at h
   try dsimp only at h
   refine za <| rI h rfl (fun hc h => zu <| p 2 [2,3] rfl <| zf <| zT <| zB <| zT <| zT <| zB <| zT <| by cases h; exact r_rets (rs := [.tmp 2, .tmp 3]) rfl (.cons (.tmp rfl) (.cons (.tmp rfl) (.nil))) rfl (fun _ vs g => tup_ok vs g) (fun _ _ _ => List.nil_sublist _)) fun hc h => zk <| zt <| zr <| q 4 [(63, .one (.int .u64) (IntKind.wrap .u64 (s19.1 * 10))), (64, ts o6), (65, ti s19.2)] [4,5,7] rfl <| iE h fun hc h => y (y_byte tabOk rfl rfl hc.1 hc.2 rfl) rfl ?_
   refine q 3 [(69, .one (.int .u64) (IntKind.wrap .u64 ((IntKind.wrap .u64 (s19.1 * 10)) + (IntKind.wrap .u64 (IntKind.wrap .u8 ((List.getD o6 (Int.toNat s19.2) 0) - 48))))))] [4,5,7] rfl ?_
   obtain ⟨t24, e, h⟩ := bnd_ex h; rw [e]
   refine p 1 [4,5,6,7] rfl <| zn <| zi <| zt <| zr <| q 3 [(7, ti (IntKind.wrap .i64 (s19.2 + 1)))] [4,5,6] rfl ?_
   obtain ⟨i25, e, h⟩ := bnd_ex h; rw [e]
   exact za <| r_less [4,5,6,7] rfl <| by exact r_backg (t24, i25) () (Nat.lt_succ_self _) h rfl rfl
  exact zx <| ze <| ze <| zq <| zt <| r_less [5,6] rfl <| by exact r_meetk s19.1 () h rfl rfl
 refine zs <| zu <| p 1 [6,70] rfl <| za <| rI h rfl (fun hc h => zu <| p 7 [2,3] rfl <| zf <| zT <| by cases h; exact r_rets (rs := [.tmp 2, .tmp 3]) rfl (.cons (.tmp rfl) (.cons (.tmp rfl) (.nil))) rfl (fun _ vs g => tup_ok vs g) (fun _ _ _ => List.nil_sublist _)) fun hc h => zy <| p 6 [2,3] rfl <| zf ?_
 cases h
 exact r_rets (rs := [.tmp 2, .tmp 3]) rfl (.cons (.tmp rfl) (.cons (.tmp rfl) (.nil))) rfl (fun _ vs g => tup_ok vs g) (fun _ _ _ => List.nil_sublist _)

theorem escrowref25_hash_ok (a0 : Bool × List Int × Unit) (r : List (Int) × Bool) (h : escrowref25_hash a0 = some r) : Pure Tryd.prog 82 [.one (.pair .bool (.pair .str .unit)) a0] (.tup [⟨(.arr 32 (.int .u8)), r.1⟩, ⟨.bool, r.2⟩]) := by
 unfold escrowref25_hash at h
 refine enter Tryd.func82 rfl 49 rfl rfl fun F => ?_
 refine zu <| r_box rfl rfl fun b1 => r_alloc (t := (.arr 32 (.int .u8))) rfl zf34 rfl fun b2 => p 1 [1,2] rfl <| zz <| r_alloc (t := (.arr 32 (.int .u8))) rfl zf34 rfl fun b3 => za <| zs <| zu <| p 1 [1,2,4,8] rfl <| yl 2 ((.fst .here)) ty4 rfl rfl rfl trivial rfl <| q 1 [(10, tb a0.1)] [1,2,4] rfl ?_
 refine r_lsplit (γ := Unit) 5 (fun _ => [(1, ptr b1 0), (2, ptr b2 0), (4, ptr b3 0), (15, tb (a0.1 || ((List.length a0.2.1 : Int) != 64)))]) (fun _ => [Res.var b3 34 (.arr 32 (.int .u8)) (List.replicate 32 (0 : Int)), Res.var b2 34 (.arr 32 (.int .u8)) (List.replicate 32 (0 : Int)), Res.var b1 121 (.pair .bool (.pair .str .unit)) a0]) ?_ (fun _ => ?_)
 ·clear h
  rcases Bool.eq_false_or_eq_true a0.1 with hh | hh
  ·rw [hh]
   exact p 5 [1,2,4,15] rfl <| za <| by exact r_meetg () rfl rfl
  rw [hh]
  refine p 1 [1,2,4,10,11] rfl <| r_guard (by rfl) rfl ?_
  exact yl 2 ((.snd (.fst .here))) ty9 rfl rfl rfl trivial rfl <| q 3 [(15, tb ((List.length a0.2.1 : Int) != 64))] [1,2,4] rfl <| r_less [1,2,4,15] rfl <| za <| by exact r_meetg () rfl rfl
 refine za <| rI h rfl (fun hc h => zu <| yl 0 .here ty34 rfl rfl rfl trivial rfl <| st 1 .here ty34 rfl rfl rfl rfl trivial <| p 1 [2,3] rfl <| zf <| zT <| by cases h; exact r_rets (rs := [.cell 2 34, .tmp 3]) rfl (.cons (.cell 1 .here rfl rfl (by first | rfl | (simp only [Pth.off, T.size]; omega)) ok_here ty34) (.cons (.tmp rfl) (.nil))) rfl (fun _ vs g => tup_ok vs g) (fun _ _ _ => List.nil_sublist _)) fun hc h => zk <| zt <| jK h (γ := Unit) (fun (o6 : List (Int)) _ => [(2, ptr b2 0), (4, ptr b3 0)]) (fun (o6 : List (Int)) _ => [Res.var b3 34 (.arr 32 (.int .u8)) o6, Res.var b2 34 (.arr 32 (.int .u8)) (List.replicate 32 (0 : Int)), Res.var b1 121 (.pair .bool (.pair .str .unit)) a0]) (fun k5 h => ?_) fun o6 gg h => ?_
 ·refine zu <| p 1 [1,2,4,5] rfl <| za <| zb <| r_less [1,2,4,5] rfl <| r_loopg (γ := Unit) (fun (s9 : Int × List (Int)) _ => [(1, ptr b1 0), (2, ptr b2 0), (4, ptr b3 0), (5, ti s9.1)]) (fun (s9 : Int × List (Int)) _ => [Res.var b3 34 (.arr 32 (.int .u8)) s9.2, Res.var b2 34 (.arr 32 (.int .u8)) (List.replicate 32 (0 : Int)), Res.var b1 121 (.pair .bool (.pair .str .unit)) a0]) (escrowref25_hash_l0 a0 k5) (0, (List.replicate 32 (0 : Int))) () h rfl rfl ?_
  clear h
  intro m10 s9 gg h
  cases m10 with
  | zero => cases h
  | succ m10 =>
  simp only [escrowref25_hash_l0] at h
  refine zs <| zu <| q 2 [(5, ti s9.1), (18, tb (decide (s9.1 < 32)))] [1,2,4] rfl <| za <| rI h rfl (fun hc h => ?_) fun hc h => ?_
  ·refine zk <| zt <| zs <| zb <| zu <| p 1 [1,2,4,5,21] rfl <| yl 2 ((.snd (.fst .here))) ty9 rfl rfl rfl trivial rfl <| q 2 [(22, ts a0.2.1), (24, ti (IntKind.wrap .i64 (2 * s9.1)))] [1,2,4,5] rfl <| iE h fun hc h => y (y_byte tabOk rfl rfl hc.1 hc.2 rfl) rfl ?_
   refine cB h fun r11 hr11 h => r_calls (escrowref25_digit_ok _ _ hr11) (by kernel_rfl) rfl rfl <| p 1 [1,2,4,5,6] rfl <| zz <| p 1 [1,2,4,5,6,27] rfl <| yl 2 ((.snd (.fst .here))) ty9 rfl rfl rfl trivial rfl <| q 3 [(28, ts a0.2.1), (31, ti (IntKind.wrap .i64 ((IntKind.wrap .i64 (2 * s9.1)) + 1)))] [1,2,4,5,6] rfl <| iE h fun hc h => y (y_byte tabOk rfl rfl hc.1 hc.2 rfl) rfl ?_
   refine cB h fun r12 hr12 h => r_calls (escrowref25_digit_ok _ _ hr12) (by kernel_rfl) rfl rfl <| p 1 [1,2,4,5,6,7] rfl <| za <| zs <| zu <| p 3 [1,2,4,5,6,7,36] rfl ?_
   obtain ⟨b13, e, h⟩ := bnd_ex h; rw [e]
   refine r_lsplit (γ := Unit) 3 (fun _ => [(1, ptr b1 0), (2, ptr b2 0), (4, ptr b3 0), (5, ti s9.1), (6, ti r11), (7, ti r12), (39, tb (b13 || (decide (r12 < 0))))]) (fun _ => [Res.var b3 34 (.arr 32 (.int .u8)) s9.2, Res.var b2 34 (.arr 32 (.int .u8)) (List.replicate 32 (0 : Int)), Res.var b1 121 (.pair .bool (.pair .str .unit)) a0]) ?_ (fun _ => ?_)
   ·clear h
    cases b13
    ·exact p 3 [1,2,4,5,6,7,39] rfl <| za <| by exact r_meetg () rfl rfl
    exact p 3 [1,2,4,5,6,7,39] rfl <| za <| by exact r_meetg () rfl rfl
   refine za <| rI h rfl (fun hc h => ?_) fun hc h => ?_
   ·refine zu <| y (y_build rfl zf34 rfl rfl .nil) rfl ?_
    refine st 1 .here ty34 rfl rfl rfl rfl trivial <| p 1 [2,3] rfl <| zf <| zT <| zB <| zT <| zT <| zB <| zT ?_
    cases h
    exact r_rets (rs := [.cell 2 34, .tmp 3]) rfl (.cons (.cell 1 .here rfl rfl (by first | rfl | (simp only [Pth.off, T.size]; omega)) ok_here ty34) (.cons (.tmp rfl) (.nil))) rfl (fun _ vs g => tup_ok vs g) (fun _ _ _ => List.nil_sublist _)
   refine zk <| zt <| zr <| q 6 [(41, ti s9.1), (46, .one (.int .u8) (IntKind.wrap .u8 (IntKind.wrap .i64 ((IntKind.wrap .i64 (16 * r11)) + r12))))] [1,2,4,5] rfl <| iE h fun hc h => y (y_ivar rfl rfl hc.1 hc.2 un34 ty5) rfl ?_
   refine r_store 0 (.elem (Int.toNat s9.1) .here) rfl rfl rfl (by first | rfl | (simp only [Pth.off, T.size]; omega)) (ok_elem (by first | omega | (simp only [List.length_set] at hc ⊢; omega)) ok_here) ty5 <| zn <| zi <| zt <| zr <| q 3 [(5, ti (IntKind.wrap .i64 (s9.1 + 1)))] [1,2,4] rfl ?_
   obtain ⟨i14, e, h⟩ := bnd_ex h; rw [e]
   exact za <| r_less [1,2,4,5] rfl <| by exact r_backg (i14, (List.set s9.2 (Int.toNat s9.1) (IntKind.wrap .u8 (IntKind.wrap .i64 ((IntKind.wrap .i64 (16 * r11)) + r12))))) () (Nat.lt_succ_self _) h rfl rfl
  exact zx <| ze <| ze <| zq <| zt <| r_less [2,4] rfl <| by exact r_meetk s9.2 () h rfl rfl
 refine zu <| yl 0 .here ty34 rfl rfl rfl trivial rfl <| st 1 .here ty34 rfl rfl rfl rfl trivial <| p 1 [2,3] rfl <| zf ?_
 cases h
 exact r_rets (rs := [.cell 2 34, .tmp 3]) rfl (.cons (.cell 1 .here rfl rfl (by first | rfl | (simp only [Pth.off, T.size]; omega)) ok_here ty34) (.cons (.tmp rfl) (.nil))) rfl (fun _ vs g => tup_ok vs g) (fun _ _ _ => List.nil_sublist _)

theorem escrowref25_like_ok (a0 : List (Bool × List Int × Unit)) (a1 : List Int) (r : Bool) (h : escrowref25_like a0 a1 = some r) : Pure Tryd.prog 55 [.one Y76 a0, ts a1] (tb r) := by
 unfold escrowref25_like at h
 refine enter Tryd.func55 rfl 48 rfl rfl fun F => ?_
 refine zu <| p 1 [0,1] rfl <| za <| zs <| zu <| q 5 [(11, tb ((List.length a0 : Int) != (List.length a1 : Int)))] [0,1] rfl <| za <| rI h rfl (fun hc h => zu <| p 1 [4] rfl <| zf <| zT <| by cases h; exact r_ret1 rfl (.tmp rfl) (fun _ _ g => g) (fun _ _ _ => List.nil_sublist _)) fun hc h => zk <| zt <| jK h (γ := Unit) (fun (o2 : Unit) _ => []) (fun (o2 : Unit) _ => []) (fun k1 h => ?_) fun o2 gg h => ?_
 ·refine zu <| p 1 [0,1,5] rfl <| za <| zb <| r_less [0,1,5] rfl <| r_loopg (γ := Unit) (fun (s4 : Int) _ => [(0, .one Y76 a0), (1, ts a1), (5, ti s4)]) (fun (s4 : Int) _ => []) (escrowref25_like_l0 a0 a1 k1) 0 () h rfl rfl ?_
  clear h
  intro m5 s4 gg h
  cases m5 with
  | zero => cases h
  | succ m5 =>
  simp only [escrowref25_like_l0] at h
  refine zs <| zu <| q 4 [(5, ti s4), (15, tb (decide (s4 < (List.length a0 : Int))))] [0,1] rfl <| za <| rI h rfl (fun hc h => ?_) fun hc h => ?_
  ·refine zk <| zt <| zs <| zb <| zu <| p 2 [0,1,5,18,19] rfl <| iE h fun hc h => y (y_iref tabOk rfl rfl hc.1 hc.2 rfl ty121) rfl ?_
   refine y (y_fref tabOk ((.fst .here)) rfl rfl rfl rfl (ok_fst ok_here)) rfl ?_
   refine y (y_ref rfl ty4) rfl ?_
   refine q 1 [(6, tb ((List.getD a0 (Int.toNat s4) (false, [], ())).1))] [0,1,5] rfl ?_
   obtain ⟨ok6, e, h⟩ := bnd_ex h; rw [e]
   refine za <| jK h (γ := Unit) (fun (o8 : Bool) _ => [(0, .one Y76 a0), (1, ts a1), (5, ti s4), (6, tb o8)]) (fun (o8 : Bool) _ => []) (fun k7 h => ?_) fun o8 gg h => ?_
   ·refine zu <| p 2 [0,1,5,6,23,24] rfl <| iE h fun hc h => y (y_byte tabOk rfl rfl hc.1 hc.2 rfl) rfl ?_
    refine za <| zb <| zu <| q 2 [(25, .one (.int .u8) (List.getD a1 (Int.toNat s4) 0)), (26, tb ((List.getD a1 (Int.toNat s4) 0) == 110))] [0,1,5,6] rfl <| za <| rI h rfl (fun hc h => ?_) fun hc h => ?_
    ·refine zr <| p 2 [0,1,5,29,30] rfl <| iE h fun hc h => y (y_iref tabOk rfl rfl hc.1 hc.2 rfl ty121) rfl ?_
     refine y (y_ref rfl ty121) rfl ?_
     exact cB h fun r10 hr10 h => r_calls (escrowref25_number_ok _ _ hr10) (by kernel_rfl) rfl rfl <| q 4 [(6, tb r10.2)] [0,1,5] rfl <| zn <| zi <| zt <| r_less [0,1,5,6] rfl <| by exact r_meetk r10.2 () h rfl rfl
    refine zu <| q 2 [(36, tb ((List.getD a1 (Int.toNat s4) 0) == 104))] [0,1,5,6] rfl <| za <| rI h rfl (fun hc h => ?_) fun hc h => ?_
    ·refine zr <| p 2 [0,1,5,39,40] rfl <| iE h fun hc h => y (y_iref tabOk rfl rfl hc.1 hc.2 rfl ty121) rfl ?_
     refine y (y_ref rfl ty121) rfl ?_
     exact cB h fun r11 hr11 h => r_calls (escrowref25_hash_ok _ _ hr11) (by kernel_rfl) rfl rfl <| q 4 [(6, tb r11.2)] [0,1,5] rfl <| zn <| zi <| zt <| r_less [0,1,5,6] rfl <| by exact r_meetk r11.2 () h rfl rfl
    exact zk <| zi <| zt <| r_less [0,1,5,6] rfl <| by exact r_meetk ok6 () h rfl rfl
   refine zu <| p 2 [0,1,5,47] rfl <| za <| rI h rfl (fun hc h => zu <| p 1 [4] rfl <| zf <| zB <| zT <| zT <| zB <| zT <| by cases h; exact r_ret1 rfl (.tmp rfl) (fun _ _ g => g) (fun _ _ _ => List.nil_sublist _)) fun hc h => zk <| zi <| zt <| zr <| p 3 [0,1,5] rfl ?_
   obtain ⟨i9, e, h⟩ := bnd_ex h; rw [e]
   exact za <| r_less [0,1,5] rfl <| by exact r_backg i9 () (Nat.lt_succ_self _) h rfl rfl
  exact zx <| ze <| ze <| zq <| zt <| r_less [] rfl <| by exact r_meetk () () h rfl rfl
 refine zu <| p 1 [4] rfl <| zf ?_
 cases h
 exact r_ret1 rfl (.tmp rfl) (fun _ _ g => g) (fun _ _ _ => List.nil_sublist _)

theorem escrowref25_num_ok (a0 : Bool × List Int × Unit) (r : Int) (h : escrowref25_num a0 = some r) : Pure Tryd.prog 56 [.one (.pair .bool (.pair .str .unit)) a0] (ti r) := by
 unfold escrowref25_num at h
 refine enter Tryd.func56 rfl 11 rfl rfl fun F => ?_
 refine zu <| r_box rfl rfl fun b1 => p 1 [1] rfl <| zz <| yl 0 .here ty121 rfl rfl rfl trivial rfl <| cB h fun r2 hr2 h => r_calls (escrowref25_number_ok _ _ hr2) (by kernel_rfl) rfl rfl <| q 5 [(3, ti r2.1)] [] rfl <| zz <| q 2 [(2, ti r2.1)] [] rfl <| zf ?_
 cases h
 exact r_ret1 rfl (.tmp rfl) (fun _ _ g => g) (fun _ _ _ => List.nil_sublist _)

theorem escrowref25_sum_ok (a0 : Bool × List Int × Unit) (r : List (Int)) (h : escrowref25_sum a0 = some r) : Pure Tryd.prog 57 [.one (.pair .bool (.pair .str .unit)) a0] (.one (.arr 32 (.int .u8)) r) := by
 unfold escrowref25_sum at h
 refine enter Tryd.func57 rfl 11 rfl rfl fun F => ?_
 refine zu <| r_box rfl rfl fun b1 => r_alloc (t := (.arr 32 (.int .u8))) rfl zf34 rfl fun b2 => zz <| yl 1 .here ty121 rfl rfl rfl trivial rfl <| cB h fun r3 hr3 h => r_calls (escrowref25_hash_ok _ _ hr3) (by kernel_rfl) rfl rfl <| q 3 [(2, ptr b2 0), (8, .one (.arr 32 (.int .u8)) r3.1), (9, tb r3.2)] [] rfl <| r_alloc (t := (.arr 32 (.int .u8))) rfl zf34 rfl fun b4 => st 0 .here ty34 rfl rfl rfl rfl trivial <| p 1 [2,3] rfl <| zz <| yl 0 .here ty34 rfl rfl rfl trivial rfl <| st 1 .here ty34 rfl rfl rfl rfl trivial ?_
 refine zf ?_
 cases h
 exact r_ret1 rfl (.cell 1 .here rfl rfl (by first | rfl | (simp only [Pth.off, T.size]; omega)) ok_here ty34) (fun _ _ g => g) (fun _ _ _ => List.nil_sublist _)

theorem escrowref25_fates_ok (a0 : List (Bool × List Int × Unit)) (r : (List (List Int × Int × Int × List Int × Unit)) × Bool) (h : escrowref25_fates a0 = some r) : Fn Tryd.prog 83 [.one Y76 a0] [] (fun v => .tup [⟨.raw (.slice none 0 0), tupv v 0⟩, ⟨.bool, r.2⟩]) (fun v => [Res.own (tupv v 0) 61 Y61 r.1]) := by
 unfold escrowref25_fates at h
 refine enter Tryd.func83 rfl 65 rfl rfl fun F => ?_
 refine zu <| p 2 [0] rfl <| zz <| p 1 [0,4] rfl <| r_nilown (.slice none 0 0) rfl 61 Y61 ?_
 refine za <| jK h (γ := Value) (fun (o2 : (List (List Int × Int × Int × List Int × Unit))) g3 => [(4, .one (.raw (.slice none 0 0)) g3)]) (fun (o2 : (List (List Int × Int × Int × List Int × Unit))) g3 => [Res.own g3 61 Y61 o2]) (fun k1 h => ?_) fun o2 g3 h => ?_
 ·refine zb <| r_less [0,4] rfl <| r_loopg (γ := Value) (fun (s7 : (List (Bool × List Int × Unit)) × (List (List Int × Int × Int × List Int × Unit))) g8 => [(0, .one Y76 s7.1), (4, .one (.raw (.slice none 0 0)) g8)]) (fun (s7 : (List (Bool × List Int × Unit)) × (List (List Int × Int × Int × List Int × Unit))) g8 => [Res.own g8 61 Y61 s7.2]) (escrowref25_fates_l0 k1) (a0, []) (.slice none 0 0) h rfl rfl ?_
  clear h
  intro m9 s7 g8 h
  cases m9 with
  | zero => cases h
  | succ m9 =>
  simp only [escrowref25_fates_l0] at h
  refine zs <| zu <| q 3 [(0, .one Y76 s7.1), (4, .one (.raw (.slice none 0 0)) g8), (9, tb (decide ((List.length s7.1 : Int) > 0)))] [] rfl <| za <| rI h rfl (fun hc h => ?_) fun hc h => ?_
  ·refine zk <| zt <| zb <| zu <| y (y_build rfl zf61 rfl rfl .nil) rfl ?_
   refine r_alloc (t := Y61) rfl zf61 rfl fun b10 => st 0 .here ty61 rfl rfl rfl rfl trivial <| zz <| p 1 [0,4,5,6] rfl <| za <| jK h (γ := Unit) (fun (o12 : Int × (List Int × Int × Int × List Int × Unit)) _ => [(0, .one Y76 s7.1), (4, .one (.raw (.slice none 0 0)) g8), (5, ptr b10 0), (6, ti o12.1)]) (fun (o12 : Int × (List Int × Int × Int × List Int × Unit)) _ => [Res.var b10 61 Y61 o12.2, Res.own g8 61 Y61 s7.2]) (fun k11 h => ?_) fun o12 gg h => ?_
   ·refine zu <| q 1 [(11, .one Y76 s7.1)] [0,4,5,6] rfl <| iE h fun hc h => y (y_iref tabOk rfl rfl hc.1 hc.2 rfl ty121) rfl ?_
    refine y (y_ref rfl ty121) rfl ?_
    refine za <| zb <| zu <| y (y_build rfl zf121 rfl rfl (.cons ((.snd (.fst .here))) rfl rfl ok_here .nil)) rfl ?_
    refine y (y_eqs 20 rfl rfl rfl rfl ty121 rfl kt121 eg121) rfl ?_
    refine q 1 [(13, .one (.pair .bool (.pair .str .unit)) (List.getD s7.1 0 (false, [], ()))), (14, tb (eqD (.pair .bool (.pair .str .unit)) (List.getD s7.1 0 (false, [], ())) (false, [108, 111, 115, 116], ())))] [0,4,5,6] rfl ?_
    obtain ⟨t23, e, h⟩ := bnd_ex h; rw [e]
    refine za <| rI h rfl (fun hc h => zr <| p 1 [0,4,5,6,17] rfl <| st 0 ((.snd (.snd (.fst .here)))) ty3 rfl rfl rfl rfl trivial <| zn <| zi <| zt <| r_less [0,4,5,6] rfl <| by exact r_meetk (3, ([], 0, 0, [], ())) () h rfl rfl) fun hc h => zu <| y (y_build rfl zf121 rfl rfl (.cons ((.snd (.fst .here))) rfl rfl ok_here .nil)) rfl ?_
    refine y (y_eqs 20 rfl rfl rfl rfl ty121 rfl kt121 eg121) rfl ?_
    refine q 1 [(18, tb (eqD (.pair .bool (.pair .str .unit)) (List.getD s7.1 0 (false, [], ())) (false, [107, 101, 112, 116], ())))] [0,4,5,6,13] rfl ?_
    obtain ⟨t24, e, h⟩ := bnd_ex h; rw [e]
    refine za <| rI h rfl (fun hc h => zr <| p 1 [0,4,5,6,21] rfl <| st 0 ((.snd (.snd (.fst .here)))) ty3 rfl rfl rfl rfl trivial <| zn <| zi <| zt <| r_less [0,4,5,6] rfl <| by exact r_meetk (3, ([], 0, 1, [], ())) () h rfl rfl) fun hc h => zu <| y (y_build rfl zf121 rfl rfl (.cons ((.snd (.fst .here))) rfl rfl ok_here .nil)) rfl ?_
    refine y (y_eqs 20 rfl rfl rfl rfl ty121 rfl kt121 eg121) rfl ?_
    refine q 1 [(22, tb (eqD (.pair .bool (.pair .str .unit)) (List.getD s7.1 0 (false, [], ())) (false, [114, 101, 112, 108, 97, 99, 101], ())))] [0,4,5] rfl ?_
    obtain ⟨t25, e, h⟩ := bnd_ex h; rw [e]
    refine za <| rI h rfl (fun hc h => zu <| p 1 [0,4,5,25] rfl <| st 0 ((.snd (.snd (.fst .here)))) ty3 rfl rfl rfl rfl trivial <| za <| zr <| p 1 [0,4,5,6] rfl <| zn <| zi <| zt <| r_less [0,4,5,6] rfl <| by exact r_meetk (4, ([], 0, 2, [], ())) () h rfl rfl) fun hc h => zu <| p 2 [2,3] rfl <| zf <| zB <| zT <| zB <| zT <| zB <| zT <| r_nilown (.slice none 0 0) rfl 61 Y61 ?_
    cases h
    exact r_rets (rs := [.tmp 2, .tmp 3]) rfl (.cons (.tmp rfl) (.cons (.tmp rfl) (.nil))) rfl (fun _ vs g => by cases g with | cons h0 g => cases g with | cons h1 g => cases g; exact ⟨_, rfl, .cons (raw_self h0) (.cons h1 (.nil))⟩) (fun _ vs g => by cases g with | cons h0 g => cases g with | cons h1 g => cases g; rw [raw_eq h0]; exact (.cons_cons _ (.cons _ (.cons _ .slnil))))
   refine zs <| zs <| r_drawn (by kernel_rfl) (by kernel_rfl) ?_
   refine q_pure tabOk 5 [0, 4, 5, 6, 30] (E' := [(0, .one Y76 s7.1), (4, .one (.raw (.slice none 0 0)) g8), (5, ptr b10 0), (6, ti o12.1), (30, tb (decide ((List.length s7.1 : Int) < o12.1)))]) rfl ?_
   obtain ⟨b13, e, h⟩ := bnd_ex h; rw [e]
   refine bX h fun k14 hk14 h => ?_
   refine q_lsplitk 9 (fun (o15 : Bool) => [(0, .one Y76 s7.1), (4, .one (.raw (.slice none 0 0)) g8), (5, ptr b10 0), (6, ti o12.1), (39, tb o15)]) k14 r ?_ ?_
   ·rcases Bool.eq_false_or_eq_true b13 with hh | hh
    ·rw [hh] at h ⊢
     rw [if_pos rfl] at h
     refine q_pure tabOk 9 [0, 4, 5, 6, 39] (E' := [(0, .one Y76 s7.1), (4, .one (.raw (.slice none 0 0)) g8), (5, ptr b10 0), (6, ti o12.1), (39, tb true)]) rfl ?_
     refine q_lnil ?_
     exact q_meetk true [0, 4, 5, 6, 39] h rfl
    rw [hh] at h ⊢
    rw [if_neg (by decide)] at h
    refine q_pure tabOk 2 [0, 4, 5, 6, 30, 31, 32] (E' := [(0, .one Y76 s7.1), (4, .one (.raw (.slice none 0 0)) g8), (5, ptr b10 0), (6, ti o12.1), (30, tb false), (31, .one Y76 s7.1), (32, ti o12.1)]) rfl ?_
    refine q_guard (by rfl) rfl ?_
    refine iE h fun hc h => q_y (y_slsub (i := 1) (j := o12.1) tabOk rfl rfl rfl hc.1 hc.2.1 hc.2.2 rfl ty121) rfl ?_
    refine q_pure tabOk 2 [0, 4, 5, 6, 30, 33, 35] (E' := [(0, .one Y76 s7.1), (4, .one (.raw (.slice none 0 0)) g8), (5, ptr b10 0), (6, ti o12.1), (30, tb false), (33, .one Y76 (List.drop 1 (List.take (Int.toNat o12.1) s7.1))), (35, ti (IntKind.wrap .i64 (o12.1 - 1)))]) rfl ?_
    refine q_guard (by rfl) rfl ?_
    refine iE h fun hc h => q_y (y_sub (i := (0 : Int)) (j := (IntKind.wrap .i64 (o12.1 - 1))) tabOk rfl rfl rfl hc.1 hc.2.1 hc.2.2 rfl) rfl ?_
    refine q_guard (by rfl) rfl ?_
    refine cB h fun r16 hr16 h => q_calls (escrowref25_like_ok (List.drop 1 (List.take (Int.toNat o12.1) s7.1)) (List.drop 0 (List.take (Int.toNat (IntKind.wrap .i64 (o12.1 - 1))) [113, 110, 113])) _ hr16) (by kernel_rfl) rfl rfl rfl ?_
    refine q_pure tabOk 2 [0, 4, 5, 6, 39] (E' := [(0, .one Y76 s7.1), (4, .one (.raw (.slice none 0 0)) g8), (5, ptr b10 0), (6, ti o12.1), (39, tb (!r16))]) rfl ?_
    refine q_lnil ?_
    exact q_meetk (!r16) [0, 4, 5, 6, 39] h rfl
   intro o15 h
   rw [← hk14] at h
   try dsimp only at h
   refine q_nil ?_
   refine zt <| rI h rfl (fun hc h => ?_) fun hc h => ?_
   ·refine zu <| p 2 [2,3] rfl <| zf <| zT <| zB <| zT <| zB <| zT <| r_nilown (.slice none 0 0) rfl 61 Y61 ?_
    cases h
    exact r_rets (rs := [.tmp 2, .tmp 3]) rfl (.cons (.tmp rfl) (.cons (.tmp rfl) (.nil))) rfl (fun _ vs g => by cases g with | cons h0 g => cases g with | cons h1 g => cases g; exact ⟨_, rfl, .cons (raw_self h0) (.cons h1 (.nil))⟩) (fun _ vs g => by cases g with | cons h0 g => cases g with | cons h1 g => cases g; rw [raw_eq h0]; exact (.cons_cons _ (.cons _ (.cons _ .slnil))))
   refine zy <| q 1 [(0, .one Y76 s7.1), (4, .one (.raw (.slice none 0 0)) g8), (5, ptr b10 0), (6, ti o12.1), (40, .one Y76 s7.1)] [] rfl <| iE h fun hc h => y (y_iref tabOk rfl rfl hc.1 hc.2 rfl ty121) rfl ?_
   refine y (y_fref tabOk ((.snd (.fst .here))) rfl rfl rfl rfl (ok_snd (ok_fst ok_here))) rfl ?_
   refine y (y_ref rfl ty9) rfl ?_
   refine q 1 [(43, ts ((List.getD s7.1 1 (false, [], ())).2.1)), (44, ptr b10 0)] [0,4,5,6] rfl <| st 0 ((.fst .here)) ty9 rfl rfl rfl rfl trivial <| zz <| q 1 [(45, .one Y76 s7.1)] [0,4,5,6] rfl <| iE h fun hc h => y (y_iref tabOk rfl rfl hc.1 hc.2 rfl ty121) rfl ?_
   refine y (y_ref rfl ty121) rfl ?_
   refine cB h fun r17 hr17 h => r_calls (escrowref25_num_ok _ _ hr17) (by kernel_rfl) rfl rfl <| p 1 [0,4,5,6,48,49] rfl <| st 0 ((.snd (.fst .here))) ty3 rfl rfl rfl rfl trivial <| za <| jK h (γ := Unit) (fun (o19 : (List Int × Int × Int × List Int × Unit)) _ => [(0, .one Y76 s7.1), (4, .one (.raw (.slice none 0 0)) g8), (5, ptr b10 0), (6, ti o12.1)]) (fun (o19 : (List Int × Int × Int × List Int × Unit)) _ => [Res.var b10 61 Y61 o19, Res.own g8 61 Y61 s7.2]) (fun k18 h => ?_) fun o19 gg h => ?_
   ·refine zu <| q 2 [(51, tb (o12.1 == 4))] [0,4,5,6] rfl <| za <| rI h rfl (fun hc h => ?_) fun hc h => ?_
    ·refine zr <| q 1 [(52, .one Y76 s7.1)] [0,4,5,6] rfl <| iE h fun hc h => y (y_iref tabOk rfl rfl hc.1 hc.2 rfl ty121) rfl ?_
     refine y (y_fref tabOk ((.snd (.fst .here))) rfl rfl rfl rfl (ok_snd (ok_fst ok_here))) rfl ?_
     refine y (y_ref rfl ty9) rfl ?_
     exact q 1 [(55, ts ((List.getD s7.1 3 (false, [], ())).2.1)), (56, ptr b10 3)] [0,4,5,6] rfl <| st 0 ((.snd (.snd (.snd (.fst .here))))) ty9 rfl rfl rfl rfl trivial <| za <| r_less [0,4,5,6] rfl <| by exact r_meetk ((List.getD s7.1 1 (false, [], ())).2.1, r17, o12.2.2.2.1, (List.getD s7.1 3 (false, [], ())).2.1, o12.2.2.2.2.2) () h rfl rfl
    exact zk <| zt <| r_less [0,4,5,6] rfl <| by exact r_meetk ((List.getD s7.1 1 (false, [], ())).2.1, r17, o12.2.2.2) () h rfl rfl
   refine zu <| q 1 [(0, .one Y76 s7.1), (5, ptr b10 0), (6, ti o12.1), (57, .one (.raw (.slice none 0 0)) g8)] [] rfl <| yl 0 .here ty61 rfl rfl rfl trivial rfl <| r_lits (B := 48) tabOk rfl el61 rfl rfl rfl (.cons rfl .nil) rfl fun v20 => ?_
   refine iE h fun hc h => r_append (B := 48) tabOk 2 rfl rfl (src_own 0 rfl rfl) rfl el61 rfl rfl hc rfl fun v21 => ?_
   refine pk [1,1] rfl <| p 1 [0,4,6] rfl <| za <| zr <| q 2 [(61, .one Y76 s7.1), (62, ti o12.1)] [4] rfl <| iE h fun hc h => y (y_slsub (i := o12.1) (j := (List.length s7.1 : Int)) tabOk rfl rfl rfl hc.1 hc.2.1 hc.2.2 rfl ty121) rfl ?_
   refine q 1 [(0, .one Y76 (List.drop (Int.toNat o12.1) (List.take (Int.toNat (List.length s7.1 : Int)) s7.1)))] [4] rfl ?_
   obtain ⟨l22, e, h⟩ := bnd_ex h; rw [e]
   exact zn <| zi <| zt <| pk [1] rfl <| r_less [0,4] rfl <| by exact r_backg (l22, (s7.2 ++ [o19])) v21 (Nat.lt_succ_self _) h rfl rfl
  exact zx <| ze <| ze <| zq <| zt <| r_less [4] rfl <| by exact r_meetk s7.2 g8 h rfl rfl
 refine zu <| p 3 [2,3] rfl <| zf ?_
 cases h
 exact r_rets (rs := [.tmp 2, .tmp 3]) rfl (.cons (.tmp rfl) (.cons (.tmp rfl) (.nil))) rfl (fun _ vs g => by cases g with | cons h0 g => cases g with | cons h1 g => cases g; exact ⟨_, rfl, .cons (raw_self h0) (.cons h1 (.nil))⟩) (fun _ vs g => by cases g with | cons h0 g => cases g with | cons h1 g => cases g; rw [raw_eq h0]; exact (.cons_cons _ .slnil))

theorem escrowref25_bare_ok (a0 : Int) (r : List Int) (h : escrowref25_bare a0 = some r) : Pure Tryd.prog 84 [ti a0] (ts r) := by
 unfold escrowref25_bare at h
 refine enter Tryd.func84 rfl 16 rfl rfl fun F => ?_
 refine zu <| p 1 [0] rfl <| za <| zs <| zu <| p 1 [3] rfl <| za <| zb <| zu <| p 2 [3,4] rfl <| za <| rI h rfl (fun hc h => zu <| q 1 [(2, ts [115, 105, 103, 110])] [] rfl <| zf <| zB <| zT <| by cases h; exact r_ret1 rfl (.tmp rfl) (fun _ _ g => g) (fun _ _ _ => List.nil_sublist _)) fun hc h => ?_
 refine zu <| p 2 [3,6] rfl <| za <| rI h rfl (fun hc h => zu <| q 1 [(2, ts [99, 108, 111, 115, 101])] [] rfl <| zf <| zB <| zT <| by cases h; exact r_ret1 rfl (.tmp rfl) (fun _ _ g => g) (fun _ _ _ => List.nil_sublist _)) fun hc h => zu <| p 2 [3,8] rfl <| za <| rI h rfl (fun hc h => zu <| q 1 [(2, ts [99, 111, 110, 110, 101, 99, 116])] [] rfl <| zf <| zB <| zT <| by cases h; exact r_ret1 rfl (.tmp rfl) (fun _ _ g => g) (fun _ _ _ => List.nil_sublist _)) fun hc h => zu <| p 2 [3,10] rfl <| za <| rI h rfl (fun hc h => zu <| q 1 [(2, ts [100, 105, 115, 99, 111, 110, 110, 101, 99, 116])] [] rfl <| zf <| zB <| zT <| by cases h; exact r_ret1 rfl (.tmp rfl) (fun _ _ g => g) (fun _ _ _ => List.nil_sublist _)) fun hc h => ?_
 refine zu <| p 2 [3,12] rfl <| za <| rI h rfl (fun hc h => zu <| q 1 [(2, ts [99, 104, 101, 99, 107, 112, 111, 105, 110, 116])] [] rfl <| zf <| zB <| zT <| by cases h; exact r_ret1 rfl (.tmp rfl) (fun _ _ g => g) (fun _ _ _ => List.nil_sublist _)) fun hc h => zu <| p 2 [14] rfl <| za <| rI h rfl (fun hc h => zu <| q 1 [(2, ts [111, 112, 101, 110])] [] rfl <| zf <| zB <| zT <| by cases h; exact r_ret1 rfl (.tmp rfl) (fun _ _ g => g) (fun _ _ _ => List.nil_sublist _)) fun hc h => zk <| zi <| zt <| zu <| q 1 [(2, ts [])] [] rfl <| zf ?_
 cases h
 exact r_ret1 rfl (.tmp rfl) (fun _ _ g => g) (fun _ _ _ => List.nil_sublist _)

theorem escrowref25_step_ok (a0 : List (Bool × List Int × Unit)) (r : (Int × Int × Int × Int × List (Int) × List Int × List Int × (List (List Int × Int × Int × List Int × Unit)) × Unit) × Bool) (h : escrowref25_step a0 = some r) : Pure Tryd.prog 58 [.one Y76 a0] (.tup [⟨Y80, r.1⟩, ⟨.bool, r.2⟩]) := by
 unfold escrowref25_step at h
 refine enter Tryd.func58 rfl 135 rfl rfl fun F => ?_
 refine zu <| r_alloc (t := Y80) rfl zf80 rfl fun b1 => p 1 [0,2] rfl <| za <| zs <| zu <| q 4 [(11, tb ((List.length a0 : Int) == 0))] [0,2] rfl ?_
 obtain ⟨b2, e, h⟩ := bnd_ex h; rw [e]
 refine bX h fun k3 hk3 h => ?_
 refine r_lsplitk (γ := Unit) 5 (fun (o4 : Bool) _ => [(0, .one Y76 a0), (2, ptr b1 0), (16, tb o4)]) (fun _ _ => [Res.var b1 80 Y80 (0, 0, 0, 0, (List.replicate 32 (0 : Int)), [], [], [], ())]) k3 r ?_ ?_
 ·rcases Bool.eq_false_or_eq_true b2 with hh | hh
  ·rw [hh] at h ⊢
   rw [if_pos rfl] at h
   exact p 5 [0,2,16] rfl <| zn <| r_less [0,2,16] rfl <| zt <| by exact r_meetk true () h rfl rfl
  rw [hh] at h ⊢
  rw [if_neg (by decide)] at h
  refine p 1 [0,2,11,12] rfl <| r_guard (by rfl) rfl ?_
  refine iE h fun hc h => y (y_iref tabOk rfl rfl hc.1 hc.2 rfl ty121) rfl ?_
  refine r_guard (by rfl) rfl ?_
  refine y (y_fref tabOk ((.fst .here)) rfl rfl rfl rfl (ok_fst ok_here)) rfl ?_
  refine r_guard (by rfl) rfl ?_
  refine y (y_ref rfl ty4) rfl ?_
  exact q 1 [(16, tb ((List.getD a0 0 (false, [], ())).1))] [0,2] rfl <| zn <| r_less [0,2,16] rfl <| zt <| by exact r_meetk ((List.getD a0 0 (false, [], ())).1) () h rfl rfl
 intro o4 _ h
 rw [← hk3] at h
 try dsimp only at h
 refine za <| rI h rfl (fun hc h => ?_) fun hc h => ?_
 ·refine zu <| y (y_build rfl zf80 rfl rfl .nil) rfl ?_
  refine st 0 .here ty80 rfl rfl rfl rfl trivial <| p 1 [2,3] rfl <| zf <| zT ?_
  cases h
  exact r_rets (rs := [.cell 2 80, .tmp 3]) rfl (.cons (.cell 0 .here rfl rfl (by first | rfl | (simp only [Pth.off, T.size]; omega)) ok_here ty80) (.cons (.tmp rfl) (.nil))) rfl (fun _ vs g => tup_ok vs g) (fun _ _ _ => List.nil_sublist _)
 refine zy <| p 1 [0,2,18] rfl <| iE h fun hc h => y (y_slsub (i := 1) (j := (List.length a0 : Int)) tabOk rfl rfl rfl hc.1 hc.2.1 hc.2.2 rfl ty121) rfl ?_
 refine q 1 [(4, .one Y76 (List.drop 1 (List.take (Int.toNat (List.length a0 : Int)) a0)))] [0,2] rfl ?_
 obtain ⟨rest5, e, h⟩ := bnd_ex h; rw [e]
 refine za <| jK h (γ := Unit) (fun (o7 : Unit) _ => [(0, .one Y76 a0), (2, ptr b1 0), (4, .one Y76 rest5)]) (fun (o7 : Unit) _ => [Res.var b1 80 Y80 (0, 0, 0, 0, (List.replicate 32 (0 : Int)), [], [], [], ())]) (fun k6 h => ?_) fun o7 gg h => ?_
 ·refine zu <| p 1 [0,2,4,20] rfl <| iE h fun hc h => y (y_iref tabOk rfl rfl hc.1 hc.2 rfl ty121) rfl ?_
  refine y (y_fref tabOk ((.snd (.fst .here))) rfl rfl rfl rfl (ok_snd (ok_fst ok_here))) rfl ?_
  refine y (y_ref rfl ty9) rfl ?_
  refine za <| zb <| zu <| q 2 [(23, ts ((List.getD a0 0 (false, [], ())).2.1)), (24, tb (((List.getD a0 0 (false, [], ())).2.1) == [111, 102, 102, 101, 114]))] [0,2,4] rfl <| za <| rI h rfl (fun hc h => ?_) fun hc h => ?_
  ·refine zu <| p 1 [0,2,4,26] rfl <| cB h fun r19 hr19 h => r_calls (escrowref25_like_ok _ _ _ hr19) (by kernel_rfl) rfl rfl <| za <| rI h rfl (fun hc h => ?_) fun hc h => ?_
   ·refine zs <| r_any (by kernel_rfl) ?_
    refine a_float (i := 0) (t := .one Y76 rest5) (blind_then (blind_block (blind_then blind_body))) rfl (by kernel_rfl) (by kernel_rfl) (by kernel_rfl) (y_pure tabOk rfl) rfl ?_
    refine iE h fun hc h => a_float (i := 1) (t := .ref (.pair .bool (.pair .str .unit)) (List.getD rest5 0 (false, [], ()))) (blind_then (blind_block (blind_then blind_body))) rfl (by kernel_rfl) (by kernel_rfl) (by kernel_rfl) (y_iref tabOk rfl rfl hc.1 hc.2 rfl ty121) rfl ?_
    refine a_float (i := 4) (t := .one Y76 rest5) (blind_then (blind_block (blind_then blind_body))) rfl (by kernel_rfl) (by kernel_rfl) (by kernel_rfl) (y_pure tabOk rfl) rfl ?_
    refine iE h fun hc h => a_float (i := 5) (t := .ref (.pair .bool (.pair .str .unit)) (List.getD rest5 1 (false, [], ()))) (blind_then (blind_block (blind_then blind_body))) rfl (by kernel_rfl) (by kernel_rfl) (by kernel_rfl) (y_iref tabOk rfl rfl hc.1 hc.2 rfl ty121) rfl ?_
    refine a_pref (fuel := 2) [2, 3, 6, 7, 8] #[true, true, true, true, true, true, true, true, true, false, false] (by kernel_rfl) ?_
    refine q_y (y_ref rfl ty121) rfl ?_
    refine cB h fun r20 hr20 h => q_calls (escrowref25_num_ok (List.getD rest5 0 (false, [], ())) _ hr20) (by kernel_rfl) rfl rfl rfl ?_
    refine q_y (y_ref rfl ty121) rfl ?_
    refine cB h fun r21 hr21 h => q_calls (escrowref25_sum_ok (List.getD rest5 1 (false, [], ())) _ hr21) (by kernel_rfl) rfl rfl rfl ?_
    refine q_y (y_build rfl zf80 rfl rfl (.cons ((.fst .here)) rfl rfl ok_here (.cons ((.snd (.fst .here))) rfl rfl ok_here (.cons ((.snd (.snd (.snd (.snd (.fst .here)))))) rfl rfl ok_here .nil)))) rfl ?_
    refine q_nil ?_
    refine r_less [2,36] rfl <| a_one (i := 9) (by kernel_rfl) rfl ?_
    refine st 0 .here ty80 rfl rfl rfl rfl trivial <| za <| r_less [2] rfl <| a_float (i := 10) (t := tb true) (blind_then (blind_block (blind_then blind_body))) rfl (by kernel_rfl) (by kernel_rfl) (by kernel_rfl) (y_pure tabOk rfl) rfl ?_
    refine a_end (by kernel_rfl) ?_
    refine zt <| zR <| zB <| zT ?_
    cases h
    exact r_rets (rs := [.cell 2 80, .tmp 3]) rfl (.cons (.cell 0 .here rfl rfl (by first | rfl | (simp only [Pth.off, T.size]; omega)) ok_here ty80) (.cons (.tmp rfl) (.nil))) rfl (fun _ vs g => tup_ok vs g) (fun _ _ _ => List.nil_sublist _)
   exact zk <| zi <| zt <| r_less [0,2,4] rfl <| by exact r_meetk () () h rfl rfl
  refine zu <| q 2 [(37, tb (((List.getD a0 0 (false, [], ())).2.1) == [115, 101, 116, 116, 108, 101]))] [0,2,4,23] rfl <| za <| rI h rfl (fun hc h => ?_) fun hc h => ?_
  ·refine zu <| p 1 [0,2,4,39] rfl <| cB h fun r22 hr22 h => r_calls (escrowref25_like_ok _ _ _ hr22) (by kernel_rfl) rfl rfl <| za <| rI h rfl (fun hc h => ?_) fun hc h => ?_
   ·refine zs <| r_any (by kernel_rfl) ?_
    refine a_float (i := 0) (t := .one Y76 rest5) (blind_then (blind_block (blind_then blind_body))) rfl (by kernel_rfl) (by kernel_rfl) (by kernel_rfl) (y_pure tabOk rfl) rfl ?_
    refine iE h fun hc h => a_float (i := 1) (t := .ref (.pair .bool (.pair .str .unit)) (List.getD rest5 0 (false, [], ()))) (blind_then (blind_block (blind_then blind_body))) rfl (by kernel_rfl) (by kernel_rfl) (by kernel_rfl) (y_iref tabOk rfl rfl hc.1 hc.2 rfl ty121) rfl ?_
    refine a_float (i := 4) (t := .one Y76 rest5) (blind_then (blind_block (blind_then blind_body))) rfl (by kernel_rfl) (by kernel_rfl) (by kernel_rfl) (y_pure tabOk rfl) rfl ?_
    refine iE h fun hc h => a_float (i := 5) (t := .ref (.pair .bool (.pair .str .unit)) (List.getD rest5 1 (false, [], ()))) (blind_then (blind_block (blind_then blind_body))) rfl (by kernel_rfl) (by kernel_rfl) (by kernel_rfl) (y_iref tabOk rfl rfl hc.1 hc.2 rfl ty121) rfl ?_
    refine a_pref (fuel := 2) [2, 3, 6, 7, 8] #[true, true, true, true, true, true, true, true, true, false, false] (by kernel_rfl) ?_
    refine q_y (y_ref rfl ty121) rfl ?_
    refine cB h fun r23 hr23 h => q_calls (escrowref25_num_ok (List.getD rest5 0 (false, [], ())) _ hr23) (by kernel_rfl) rfl rfl rfl ?_
    refine q_y (y_ref rfl ty121) rfl ?_
    refine cB h fun r24 hr24 h => q_calls (escrowref25_sum_ok (List.getD rest5 1 (false, [], ())) _ hr24) (by kernel_rfl) rfl rfl rfl ?_
    refine q_y (y_build rfl zf80 rfl rfl (.cons ((.fst .here)) rfl rfl ok_here (.cons ((.snd (.snd (.fst .here)))) rfl rfl ok_here (.cons ((.snd (.snd (.snd (.snd (.fst .here)))))) rfl rfl ok_here .nil)))) rfl ?_
    refine q_nil ?_
    refine r_less [2,49] rfl <| a_one (i := 9) (by kernel_rfl) rfl ?_
    refine st 0 .here ty80 rfl rfl rfl rfl trivial <| za <| r_less [2] rfl <| a_float (i := 10) (t := tb true) (blind_then (blind_block (blind_then blind_body))) rfl (by kernel_rfl) (by kernel_rfl) (by kernel_rfl) (y_pure tabOk rfl) rfl ?_
    refine a_end (by kernel_rfl) ?_
    refine zt <| zR <| zB <| zT ?_
    cases h
    exact r_rets (rs := [.cell 2 80, .tmp 3]) rfl (.cons (.cell 0 .here rfl rfl (by first | rfl | (simp only [Pth.off, T.size]; omega)) ok_here ty80) (.cons (.tmp rfl) (.nil))) rfl (fun _ vs g => tup_ok vs g) (fun _ _ _ => List.nil_sublist _)
   exact zk <| zi <| zt <| r_less [0,2,4] rfl <| by exact r_meetk () () h rfl rfl
  refine zu <| q 2 [(50, tb (((List.getD a0 0 (false, [], ())).2.1) == [114, 101, 102, 117, 115, 101]))] [0,2,4,23] rfl <| za <| rI h rfl (fun hc h => ?_) fun hc h => ?_
  ·refine zu <| p 1 [0,2,4,52] rfl <| cB h fun r25 hr25 h => r_calls (escrowref25_like_ok _ _ _ hr25) (by kernel_rfl) rfl rfl <| za <| rI h rfl (fun hc h => ?_) fun hc h => ?_
   ·refine zs <| r_any (by kernel_rfl) ?_
    refine a_float (i := 0) (t := .one Y76 rest5) (blind_then (blind_block (blind_then blind_body))) rfl (by kernel_rfl) (by kernel_rfl) (by kernel_rfl) (y_pure tabOk rfl) rfl ?_
    refine iE h fun hc h => a_float (i := 1) (t := .ref (.pair .bool (.pair .str .unit)) (List.getD rest5 0 (false, [], ()))) (blind_then (blind_block (blind_then blind_body))) rfl (by kernel_rfl) (by kernel_rfl) (by kernel_rfl) (y_iref tabOk rfl rfl hc.1 hc.2 rfl ty121) rfl ?_
    refine a_float (i := 4) (t := .one Y76 rest5) (blind_then (blind_block (blind_then blind_body))) rfl (by kernel_rfl) (by kernel_rfl) (by kernel_rfl) (y_pure tabOk rfl) rfl ?_
    refine iE h fun hc h => a_float (i := 5) (t := .ref (.pair .bool (.pair .str .unit)) (List.getD rest5 1 (false, [], ()))) (blind_then (blind_block (blind_then blind_body))) rfl (by kernel_rfl) (by kernel_rfl) (by kernel_rfl) (y_iref tabOk rfl rfl hc.1 hc.2 rfl ty121) rfl ?_
    refine a_pref (fuel := 2) [2, 3, 6, 7, 8] #[true, true, true, true, true, true, true, true, true, false, false] (by kernel_rfl) ?_
    refine q_y (y_ref rfl ty121) rfl ?_
    refine cB h fun r26 hr26 h => q_calls (escrowref25_num_ok (List.getD rest5 0 (false, [], ())) _ hr26) (by kernel_rfl) rfl rfl rfl ?_
    refine q_y (y_fref tabOk ((.snd (.fst .here))) rfl rfl rfl rfl (ok_snd (ok_fst ok_here))) rfl ?_
    refine q_y (y_ref rfl ty9) rfl ?_
    refine q_y (y_build rfl zf80 rfl rfl (.cons ((.fst .here)) rfl rfl ok_here (.cons ((.snd (.snd (.fst .here)))) rfl rfl ok_here (.cons ((.snd (.snd (.snd (.snd (.snd (.fst .here))))))) rfl rfl ok_here .nil)))) rfl ?_
    refine q_nil ?_
    refine r_less [2,62] rfl <| a_one (i := 9) (by kernel_rfl) rfl ?_
    refine st 0 .here ty80 rfl rfl rfl rfl trivial <| za <| r_less [2] rfl <| a_float (i := 10) (t := tb true) (blind_then (blind_block (blind_then blind_body))) rfl (by kernel_rfl) (by kernel_rfl) (by kernel_rfl) (y_pure tabOk rfl) rfl ?_
    refine a_end (by kernel_rfl) ?_
    refine zt <| zR <| zB <| zT ?_
    cases h
    exact r_rets (rs := [.cell 2 80, .tmp 3]) rfl (.cons (.cell 0 .here rfl rfl (by first | rfl | (simp only [Pth.off, T.size]; omega)) ok_here ty80) (.cons (.tmp rfl) (.nil))) rfl (fun _ vs g => tup_ok vs g) (fun _ _ _ => List.nil_sublist _)
   exact zk <| zi <| zt <| r_less [0,2,4] rfl <| by exact r_meetk () () h rfl rfl
  refine zu <| q 2 [(63, tb (((List.getD a0 0 (false, [], ())).2.1) == [116, 97, 107, 101]))] [0,2,4,23] rfl <| za <| rI h rfl (fun hc h => ?_) fun hc h => ?_
  ·refine zu <| p 1 [0,2,4,65] rfl <| cB h fun r27 hr27 h => r_calls (escrowref25_like_ok _ _ _ hr27) (by kernel_rfl) rfl rfl <| za <| rI h rfl (fun hc h => ?_) fun hc h => ?_
   ·refine zu <| p 1 [2,67] rfl <| iE h fun hc h => y (y_iref tabOk rfl rfl hc.1 hc.2 rfl ty121) rfl ?_
    refine y (y_fref tabOk ((.snd (.fst .here))) rfl rfl rfl rfl (ok_snd (ok_fst ok_here))) rfl ?_
    refine y (y_ref rfl ty9) rfl ?_
    refine y (y_build rfl zf80 rfl rfl (.cons ((.fst .here)) rfl rfl ok_here (.cons ((.snd (.snd (.snd (.snd (.snd (.snd (.fst .here)))))))) rfl rfl ok_here .nil))) rfl ?_
    refine st 0 .here ty80 rfl rfl rfl rfl trivial <| p 1 [2,3] rfl <| zf <| zB <| zT ?_
    cases h
    exact r_rets (rs := [.cell 2 80, .tmp 3]) rfl (.cons (.cell 0 .here rfl rfl (by first | rfl | (simp only [Pth.off, T.size]; omega)) ok_here ty80) (.cons (.tmp rfl) (.nil))) rfl (fun _ vs g => tup_ok vs g) (fun _ _ _ => List.nil_sublist _)
   exact zk <| zi <| zt <| r_less [0,2,4] rfl <| by exact r_meetk () () h rfl rfl
  refine zu <| q 2 [(72, tb (((List.getD a0 0 (false, [], ())).2.1) == [97, 114, 109]))] [0,2,4,23] rfl <| za <| rI h rfl (fun hc h => ?_) fun hc h => ?_
  ·refine zu <| p 1 [0,2,4,74] rfl <| cB h fun r28 hr28 h => r_calls (escrowref25_like_ok _ _ _ hr28) (by kernel_rfl) rfl rfl <| za <| rI h rfl (fun hc h => ?_) fun hc h => ?_
   ·refine zu <| p 1 [2,76] rfl <| iE h fun hc h => y (y_iref tabOk rfl rfl hc.1 hc.2 rfl ty121) rfl ?_
    refine y (y_ref rfl ty121) rfl ?_
    refine cB h fun r29 hr29 h => r_calls (escrowref25_num_ok _ _ hr29) (by kernel_rfl) rfl rfl <| y (y_build rfl zf80 rfl rfl (.cons ((.fst .here)) rfl rfl ok_here (.cons ((.snd (.snd (.snd (.fst .here))))) rfl rfl ok_here .nil))) rfl ?_
    refine st 0 .here ty80 rfl rfl rfl rfl trivial <| p 1 [2,3] rfl <| zf <| zB <| zT ?_
    cases h
    exact r_rets (rs := [.cell 2 80, .tmp 3]) rfl (.cons (.cell 0 .here rfl rfl (by first | rfl | (simp only [Pth.off, T.size]; omega)) ok_here ty80) (.cons (.tmp rfl) (.nil))) rfl (fun _ vs g => tup_ok vs g) (fun _ _ _ => List.nil_sublist _)
   exact zk <| zi <| zt <| r_less [0,2,4] rfl <| by exact r_meetk () () h rfl rfl
  refine zu <| q 2 [(81, tb (((List.getD a0 0 (false, [], ())).2.1) == [102, 97, 108, 108]))] [0,2,4,23] rfl <| za <| rI h rfl (fun hc h => ?_) fun hc h => ?_
  ·refine zu <| p 1 [0,2,4,83] rfl <| cB h fun r30 hr30 h => r_calls (escrowref25_like_ok _ _ _ hr30) (by kernel_rfl) rfl rfl <| za <| rI h rfl (fun hc h => ?_) fun hc h => ?_
   ·refine zu <| p 1 [2,85] rfl <| iE h fun hc h => y (y_iref tabOk rfl rfl hc.1 hc.2 rfl ty121) rfl ?_
    refine y (y_ref rfl ty121) rfl ?_
    refine cB h fun r31 hr31 h => r_calls (escrowref25_num_ok _ _ hr31) (by kernel_rfl) rfl rfl <| y (y_build rfl zf80 rfl rfl (.cons ((.fst .here)) rfl rfl ok_here (.cons ((.snd (.snd (.snd (.fst .here))))) rfl rfl ok_here .nil))) rfl ?_
    refine st 0 .here ty80 rfl rfl rfl rfl trivial <| p 1 [2,3] rfl <| zf <| zB <| zT ?_
    cases h
    exact r_rets (rs := [.cell 2 80, .tmp 3]) rfl (.cons (.cell 0 .here rfl rfl (by first | rfl | (simp only [Pth.off, T.size]; omega)) ok_here ty80) (.cons (.tmp rfl) (.nil))) rfl (fun _ vs g => tup_ok vs g) (fun _ _ _ => List.nil_sublist _)
   exact zk <| zi <| zt <| r_less [0,2,4] rfl <| by exact r_meetk () () h rfl rfl
  refine zu <| q 2 [(90, tb (((List.getD a0 0 (false, [], ())).2.1) == [99, 114, 97, 115, 104]))] [0,2,4] rfl <| za <| rI h rfl (fun hc h => ?_) fun hc h => ?_
  ·refine zu <| q 4 [(95, tb (decide ((List.length rest5 : Int) > 0)))] [0,2,4] rfl ?_
   obtain ⟨b32, e, h⟩ := bnd_ex h; rw [e]
   refine bX h fun k33 hk33 h => ?_
   refine r_lsplitk (γ := Unit) 4 (fun (o34 : Bool) _ => [(0, .one Y76 a0), (2, ptr b1 0), (4, .one Y76 rest5), (99, tb o34)]) (fun _ _ => [Res.var b1 80 Y80 (0, 0, 0, 0, (List.replicate 32 (0 : Int)), [], [], [], ())]) k33 r ?_ ?_
   ·rcases Bool.eq_false_or_eq_true b32 with hh | hh
    ·rw [hh] at h ⊢
     rw [if_pos rfl] at h
     refine p 1 [0,2,4,95,96] rfl <| r_guard (by rfl) rfl ?_
     refine iE h fun hc h => y (y_slsub (i := (0 : Int)) (j := 1) tabOk rfl rfl rfl hc.1 hc.2.1 hc.2.2 rfl ty121) rfl ?_
     refine r_guard (by rfl) rfl ?_
     exact cB h fun r35 hr35 h => r_calls (escrowref25_like_ok _ _ _ hr35) (by kernel_rfl) rfl rfl <| p 1 [0,2,4,99] rfl <| zn <| r_less [0,2,4,99] rfl <| zt <| by exact r_meetk r35 () h rfl rfl
    rw [hh] at h ⊢
    rw [if_neg (by decide)] at h
    exact p 4 [0,2,4,99] rfl <| zn <| r_less [0,2,4,99] rfl <| zt <| by exact r_meetk false () h rfl rfl
   intro o34 _ h
   rw [← hk33] at h
   try dsimp only at h
   refine za <| rI h rfl (fun hc h => ?_) fun hc h => ?_
   ·refine zu <| p 1 [2,4,101] rfl <| iE h fun hc h => y (y_slsub (i := 1) (j := (List.length rest5 : Int)) tabOk rfl rfl rfl hc.1 hc.2.1 hc.2.2 rfl ty121) rfl ?_
    refine cB h fun r36 hr36 h => rc [] (escrowref25_fates_ok _ _ hr36) (by kernel_rfl) rfl rfl rfl fun v37 => q 5 [(5, .one (.raw (.slice none 0 0)) (tupv v37 0)), (6, tb r36.2)] [2,4] rfl <| zz <| p 1 [2,5,6,106] rfl <| iE h fun hc h => y (y_iref tabOk rfl rfl hc.1 hc.2 rfl ty121) rfl ?_
    refine y (y_ref rfl ty121) rfl ?_
    refine cB h fun r38 hr38 h => r_calls (escrowref25_num_ok _ _ hr38) (by kernel_rfl) rfl rfl <| p 1 [2,6,109,110] rfl <| r_freeze (i := 0) (k := 110) rfl rfl ?_
    refine y (y_build rfl zf80 rfl rfl (.cons ((.fst .here)) rfl rfl ok_here (.cons ((.snd (.snd (.snd (.fst .here))))) rfl rfl ok_here (.cons ((.snd (.snd (.snd (.snd (.snd (.snd (.snd (.fst .here))))))))) rfl rfl ok_here .nil)))) rfl ?_
    refine q 1 [(111, .one Y80 (12, 0, 0, r38, (List.replicate 32 (0 : Int)), [], [], r36.1, ())), (112, tb r36.2)] [2] rfl <| st 0 .here ty80 rfl rfl rfl rfl trivial <| q 1 [(3, tb r36.2)] [2] rfl <| zf <| zB <| zT ?_
    cases h
    exact r_rets (rs := [.cell 2 80, .tmp 3]) rfl (.cons (.cell 0 .here rfl rfl (by first | rfl | (simp only [Pth.off, T.size]; omega)) ok_here ty80) (.cons (.tmp rfl) (.nil))) rfl (fun _ vs g => tup_ok vs g) (fun _ _ _ => List.nil_sublist _)
   exact zk <| zi <| zt <| r_less [0,2,4] rfl <| by exact r_meetk () () h rfl rfl
  exact zk <| zi <| zt <| r_less [0,2,4] rfl <| by exact r_meetk () () h rfl rfl
 refine jK h (γ := Unit) (fun (o9 : Unit) _ => [(2, ptr b1 0)]) (fun (o9 : Unit) _ => [Res.var b1 80 Y80 (0, 0, 0, 0, (List.replicate 32 (0 : Int)), [], [], [], ())]) (fun k8 h => ?_) fun o9 gg h => ?_
 ·refine zu <| p 1 [0,2,4,7] rfl <| za <| zb <| r_less [0,2,4,7] rfl <| r_loopg (γ := Unit) (fun (s11 : Int) _ => [(0, .one Y76 a0), (2, ptr b1 0), (4, .one Y76 rest5), (7, ti s11)]) (fun (s11 : Int) _ => [Res.var b1 80 Y80 (0, 0, 0, 0, (List.replicate 32 (0 : Int)), [], [], [], ())]) (escrowref25_step_l0 a0 rest5 k8) 4 () h rfl rfl ?_
  clear h
  intro m12 s11 gg h
  cases m12 with
  | zero => cases h
  | succ m12 =>
  simp only [escrowref25_step_l0] at h
  refine zs <| zu <| p 2 [0,2,4,7,114] rfl <| za <| rI h rfl (fun hc h => ?_) fun hc h => ?_
  ·refine zk <| zt <| zs <| zb <| zs <| r_drawn (by kernel_rfl) (by kernel_rfl) ?_
   refine q_pure tabOk 1 [0, 2, 4, 7, 117] (E' := [(0, .one Y76 a0), (2, ptr b1 0), (4, .one Y76 rest5), (7, ti s11), (117, ti s11)]) rfl ?_
   refine cB h fun r13 hr13 h => q_calls (escrowref25_bare_ok s11 _ hr13) (by kernel_rfl) rfl rfl rfl ?_
   refine q_pure tabOk 2 [0, 2, 4, 7, 120] (E' := [(0, .one Y76 a0), (2, ptr b1 0), (4, .one Y76 rest5), (7, ti s11), (120, tb (r13 != []))]) rfl ?_
   obtain ⟨b14, e, h⟩ := bnd_ex h; rw [e]
   refine bX h fun k15 hk15 h => ?_
   refine q_lsplitk 8 (fun (o16 : Bool) => [(0, .one Y76 a0), (2, ptr b1 0), (4, .one Y76 rest5), (7, ti s11), (128, tb o16)]) k15 r ?_ ?_
   ·rcases Bool.eq_false_or_eq_true b14 with hh | hh
    ·rw [hh] at h ⊢
     rw [if_pos rfl] at h
     refine q_pure tabOk 1 [0, 2, 4, 7, 120, 121] (E' := [(0, .one Y76 a0), (2, ptr b1 0), (4, .one Y76 rest5), (7, ti s11), (120, tb true), (121, ti s11)]) rfl ?_
     refine q_guard (by rfl) rfl ?_
     refine cB h fun r17 hr17 h => q_calls (escrowref25_bare_ok s11 _ hr17) (by kernel_rfl) rfl rfl rfl ?_
     refine q_pure tabOk 1 [0, 2, 4, 7, 120, 122, 123] (E' := [(0, .one Y76 a0), (2, ptr b1 0), (4, .one Y76 rest5), (7, ti s11), (120, tb true), (122, ts r17), (123, .one Y76 a0)]) rfl ?_
     refine q_guard (by rfl) rfl ?_
     refine iE h fun hc h => q_y (y_iref tabOk rfl rfl hc.1 hc.2 rfl ty121) rfl ?_
     refine q_guard (by rfl) rfl ?_
     refine q_y (y_fref tabOk ((.snd (.fst .here))) rfl rfl rfl rfl (ok_snd (ok_fst ok_here))) rfl ?_
     refine q_guard (by rfl) rfl ?_
     refine q_y (y_ref rfl ty9) rfl ?_
     refine q_pure tabOk 2 [0, 2, 4, 7, 128] (E' := [(0, .one Y76 a0), (2, ptr b1 0), (4, .one Y76 rest5), (7, ti s11), (128, tb (r17 == ((List.getD a0 0 (false, [], ())).2.1)))]) rfl ?_
     refine q_lnil ?_
     exact q_meetk (r17 == ((List.getD a0 0 (false, [], ())).2.1)) [0, 2, 4, 7, 128] h rfl
    rw [hh] at h ⊢
    rw [if_neg (by decide)] at h
    refine q_pure tabOk 8 [0, 2, 4, 7, 128] (E' := [(0, .one Y76 a0), (2, ptr b1 0), (4, .one Y76 rest5), (7, ti s11), (128, tb false)]) rfl ?_
    refine q_lnil ?_
    exact q_meetk false [0, 2, 4, 7, 128] h rfl
   intro o16 h
   rw [← hk15] at h
   try dsimp only at h
   refine q_nil ?_
   refine zt <| rI h rfl (fun hc h => ?_) fun hc h => ?_
   ·refine zu <| p 1 [2,4,129] rfl <| y (y_build rfl zf80 rfl rfl (.cons ((.fst .here)) rfl rfl ok_here .nil)) rfl ?_
    refine q 3 [(130, .one Y80 (s11, 0, 0, 0, (List.replicate 32 (0 : Int)), [], [], [], ())), (133, tb ((List.length rest5 : Int) == 0))] [2] rfl <| st 0 .here ty80 rfl rfl rfl rfl trivial <| q 1 [(3, tb ((List.length rest5 : Int) == 0))] [2] rfl <| zf <| zB <| zT <| zT <| zB <| zT ?_
    cases h
    exact r_rets (rs := [.cell 2 80, .tmp 3]) rfl (.cons (.cell 0 .here rfl rfl (by first | rfl | (simp only [Pth.off, T.size]; omega)) ok_here ty80) (.cons (.tmp rfl) (.nil))) rfl (fun _ vs g => tup_ok vs g) (fun _ _ _ => List.nil_sublist _)
   refine zk <| zi <| zt <| zr <| p 3 [0,2,4,7] rfl ?_
   obtain ⟨k18, e, h⟩ := bnd_ex h; rw [e]
   exact za <| r_less [0,2,4,7] rfl <| by exact r_backg k18 () (Nat.lt_succ_self _) h rfl rfl
  exact zx <| ze <| ze <| zq <| zt <| r_less [2] rfl <| by exact r_meetk () () h rfl rfl
 refine zu <| y (y_build rfl zf80 rfl rfl .nil) rfl ?_
 refine st 0 .here ty80 rfl rfl rfl rfl trivial <| p 1 [2,3] rfl <| zf ?_
 cases h
 exact r_rets (rs := [.cell 2 80, .tmp 3]) rfl (.cons (.cell 0 .here rfl rfl (by first | rfl | (simp only [Pth.off, T.size]; omega)) ok_here ty80) (.cons (.tmp rfl) (.nil))) rfl (fun _ vs g => tup_ok vs g) (fun _ _ _ => List.nil_sublist _)

theorem escrowref25_asks_ok (a0 : List Int) (r : Int) (h : escrowref25_asks a0 = some r) : Pure Tryd.prog 59 [ts a0] (ti r) := by
 unfold escrowref25_asks at h
 refine enter Tryd.func59 rfl 17 rfl rfl fun F => ?_
 refine zu <| p 1 [0] rfl <| zz <| y (y_build rfl zf128 rfl rfl (.cons (.elem 0 .here) rfl rfl (ok_elem (by first | omega | (simp only [List.length_set] at hc ⊢; omega)) ok_here) (.cons (.elem 1 .here) rfl rfl (ok_elem (by first | omega | (simp only [List.length_set] at hc ⊢; omega)) ok_here) (.cons (.elem 2 .here) rfl rfl (ok_elem (by first | omega | (simp only [List.length_set] at hc ⊢; omega)) ok_here) (.cons (.elem 3 .here) rfl rfl (ok_elem (by first | omega | (simp only [List.length_set] at hc ⊢; omega)) ok_here) (.cons (.elem 4 .here) rfl rfl (ok_elem (by first | omega | (simp only [List.length_set] at hc ⊢; omega)) ok_here) .nil)))))) rfl ?_
 refine r_alloc (t := (.arr 5 .str)) rfl zf128 rfl fun b1 => st 0 .here ty128 rfl rfl rfl rfl trivial <| za <| jK h (γ := Unit) (fun (o3 : Unit) _ => []) (fun (o3 : Unit) _ => [Res.var b1 128 (.arr 5 .str) ([[115, 116, 97, 116, 101], [108, 101, 100, 103, 101, 114], [109, 97, 114, 107], [112, 105, 112, 101], [102, 105, 108, 101, 115]])]) (fun k2 h => ?_) fun o3 gg h => ?_
 ·refine zu <| p 1 [0,3,4] rfl <| za <| zb <| r_less [0,3,4] rfl <| r_loopg (γ := Unit) (fun (s5 : Int) _ => [(0, ts a0), (3, ptr b1 0), (4, ti s5)]) (fun (s5 : Int) _ => [Res.var b1 128 (.arr 5 .str) ([[115, 116, 97, 116, 101], [108, 101, 100, 103, 101, 114], [109, 97, 114, 107], [112, 105, 112, 101], [102, 105, 108, 101, 115]])]) (escrowref25_asks_l0 a0 k2) 0 () h rfl rfl ?_
  clear h
  intro m6 s5 gg h
  cases m6 with
  | zero => cases h
  | succ m6 =>
  simp only [escrowref25_asks_l0] at h
  refine zs <| zu <| p 2 [0,3,4,7] rfl <| za <| rI h rfl (fun hc h => ?_) fun hc h => ?_
  ·refine zk <| zt <| zs <| zb <| zu <| p 1 [0,3,4,10] rfl <| iE h fun hc h => y (y_ivar rfl rfl hc.1 hc.2 un128 ty9) rfl ?_
   refine y (y_load 0 (.elem (Int.toNat s5) .here) rfl rfl (by first | rfl | (simp only [Pth.off, T.size]; omega)) (ok_elem (by first | omega | (simp only [List.length_set] at hc ⊢; omega)) ok_here) ty9) rfl ?_
   refine q 2 [(14, tb ((List.getD ([[115, 116, 97, 116, 101], [108, 101, 100, 103, 101, 114], [109, 97, 114, 107], [112, 105, 112, 101], [102, 105, 108, 101, 115]]) (Int.toNat s5) []) == a0))] [0,3,4] rfl ?_
   obtain ⟨t7, e, h⟩ := bnd_ex h; rw [e]
   refine za <| rI h rfl (fun hc h => zu <| p 3 [2] rfl <| zf <| zB <| zT <| zT <| zB <| zT <| by cases h; exact r_ret1 rfl (.tmp rfl) (fun _ _ g => g) (fun _ _ _ => List.nil_sublist _)) fun hc h => zk <| zi <| zt <| zr <| p 3 [0,3,4] rfl ?_
   obtain ⟨i8, e, h⟩ := bnd_ex h; rw [e]
   exact za <| r_less [0,3,4] rfl <| by exact r_backg i8 () (Nat.lt_succ_self _) h rfl rfl
  exact zx <| ze <| ze <| zq <| zt <| r_less [] rfl <| by exact r_meetk () () h rfl rfl
 refine zu <| p 1 [2] rfl <| zf ?_
 cases h
 exact r_ret1 rfl (.tmp rfl) (fun _ _ g => g) (fun _ _ _ => List.nil_sublist _)

theorem escrowref25_command_ok (a0 : List (Bool × List Int × Unit)) (r : (Int × (Int × Int × List (List (Int)) × List (List (Int)) × Int × Int × Unit) × (Int × Int × (Int × Int × Int × Int × List (Int) × List Int × List Int × (List (List Int × Int × Int × List Int × Unit)) × Unit) × Unit) × Int × Int × Unit) × Bool) (h : escrowref25_command a0 = some r) : Pure Tryd.prog 33 [.one Y76 a0] (.tup [⟨Y84, r.1⟩, ⟨.bool, r.2⟩]) := by
 unfold escrowref25_command at h
 refine enter Tryd.func33 rfl 147 rfl rfl fun F => ?_
 refine zu <| r_alloc (t := Y84) rfl zf84 rfl fun b1 => p 1 [0,2] rfl <| za <| zs <| zu <| p 1 [0,2,10] rfl <| iE h fun hc h => y (y_iref tabOk rfl rfl hc.1 hc.2 rfl ty121) rfl ?_
 refine y (y_fref tabOk ((.fst .here)) rfl rfl rfl rfl (ok_fst ok_here)) rfl ?_
 refine y (y_ref rfl ty4) rfl ?_
 refine za <| rI h rfl (fun hc h => ?_) fun hc h => ?_
 ·refine zu <| y (y_build rfl zf84 rfl rfl .nil) rfl ?_
  refine st 0 .here ty84 rfl rfl rfl rfl trivial <| p 1 [2,3] rfl <| zf <| zT ?_
  cases h
  exact r_rets (rs := [.cell 2 84, .tmp 3]) rfl (.cons (.cell 0 .here rfl rfl (by first | rfl | (simp only [Pth.off, T.size]; omega)) ok_here ty84) (.cons (.tmp rfl) (.nil))) rfl (fun _ vs g => tup_ok vs g) (fun _ _ _ => List.nil_sublist _)
 refine zy <| p 1 [0,2,15] rfl <| iE h fun hc h => y (y_iref tabOk rfl rfl hc.1 hc.2 rfl ty121) rfl ?_
 refine y (y_fref tabOk ((.snd (.fst .here))) rfl rfl rfl rfl (ok_snd (ok_fst ok_here))) rfl ?_
 refine y (y_ref rfl ty9) rfl ?_
 refine q 1 [(4, ts ((List.getD a0 0 (false, [], ())).2.1))] [0,2] rfl ?_
 obtain ⟨name2, e, h⟩ := bnd_ex h; rw [e]
 refine zz <| p 1 [2,4,19] rfl <| iE h fun hc h => y (y_slsub (i := 1) (j := (List.length a0 : Int)) tabOk rfl rfl rfl hc.1 hc.2.1 hc.2.2 rfl ty121) rfl ?_
 refine q 1 [(5, .one Y76 (List.drop 1 (List.take (Int.toNat (List.length a0 : Int)) a0)))] [2,4] rfl ?_
 obtain ⟨rest3, e, h⟩ := bnd_ex h; rw [e]
 refine za <| zs <| zu <| p 1 [2,4,5,21] rfl <| za <| zb <| zu <| q 2 [(22, tb (name2 == [119, 111, 114, 108, 100]))] [2,4,5,21] rfl <| za <| rI h rfl (fun hc h => ?_) fun hc h => ?_
 ·refine zs <| zu <| p 1 [2,5,24] rfl <| cB h fun r4 hr4 h => r_calls (escrowref25_like_ok _ _ _ hr4) (by kernel_rfl) rfl rfl <| p 1 [2,5,26] rfl <| za <| rI h rfl (fun hc h => ?_) fun hc h => ?_
  ·refine zu <| y (y_build rfl zf84 rfl rfl .nil) rfl ?_
   refine st 0 .here ty84 rfl rfl rfl rfl trivial <| p 1 [2,3] rfl <| zf <| zT <| zB <| zT ?_
   cases h
   exact r_rets (rs := [.cell 2 84, .tmp 3]) rfl (.cons (.cell 0 .here rfl rfl (by first | rfl | (simp only [Pth.off, T.size]; omega)) ok_here ty84) (.cons (.tmp rfl) (.nil))) rfl (fun _ vs g => tup_ok vs g) (fun _ _ _ => List.nil_sublist _)
  refine zk <| zt <| zs ?_
  obtain ⟨hi5, h⟩ := ite_ex h
  refine r_pin (k := 5) rfl (by omega) fun b6 of7 c8 => ?_
  obtain ⟨hi9, h⟩ := ite_ex h
  obtain ⟨hi10, h⟩ := ite_ex h
  obtain ⟨hi11, h⟩ := ite_ex h
  refine cB h fun r12 hr12 h => cB h fun r13 hr13 h => cB h fun r14 hr14 h => cB h fun r15 hr15 h => h_start (S := AllIs [PinIs b6 of7 (.pair .bool (.pair .str .unit)) rest3]) (by kernel_rfl) ?_
  refine h_meet (γ := Nat) (fun (b16 : Nat) => [(2, ptr b1 0), (5, .one Y76 rest3), (6, ptr b16 0)]) (fun (b16 : Nat) => [Res.var b16 79 Y79 (r12, r13, (List.replicate 2 ((List.replicate 32 (0 : Int)) : List (Int))), (List.replicate 2 ((List.replicate 32 (0 : Int)) : List (Int))), r14, r15, ()), Res.var b1 84 Y84 (0, (0, 0, (List.replicate 2 ((List.replicate 32 (0 : Int)) : List (Int))), (List.replicate 2 ((List.replicate 32 (0 : Int)) : List (Int))), 0, 0, ()), (0, 0, (0, 0, 0, 0, (List.replicate 32 (0 : Int)), [], [], [], ()), ()), 0, 0, ())]) (fun b16 => ?_) (fun rest21 => ?_)
  ·refine zt <| zs <| r_any (by kernel_rfl) ?_
   refine a_float (i := 0) (t := .one Y76 rest3) (blind_then (blind_block (blind_then blind_body))) rfl (by kernel_rfl) (by kernel_rfl) (by kernel_rfl) (y_pure tabOk rfl) rfl ?_
   refine iE h fun hc h => a_float (i := 1) (t := .ref (.pair .bool (.pair .str .unit)) (List.getD rest3 4 (false, [], ()))) (blind_then (blind_block (blind_then blind_body))) rfl (by kernel_rfl) (by kernel_rfl) (by kernel_rfl) (y_iref tabOk rfl rfl hc.1 hc.2 rfl ty121) rfl ?_
   refine a_float (i := 4) (t := .one Y76 rest3) (blind_then (blind_block (blind_then blind_body))) rfl (by kernel_rfl) (by kernel_rfl) (by kernel_rfl) (y_pure tabOk rfl) rfl ?_
   refine iE h fun hc h => a_float (i := 5) (t := .ref (.pair .bool (.pair .str .unit)) (List.getD rest3 5 (false, [], ()))) (blind_then (blind_block (blind_then blind_body))) rfl (by kernel_rfl) (by kernel_rfl) (by kernel_rfl) (y_iref tabOk rfl rfl hc.1 hc.2 rfl ty121) rfl ?_
   refine a_pref (fuel := 1) [2, 3, 6, 7, 8, 9] #[true, true, true, true, true, true, true, true, true, true, false] (by kernel_rfl) ?_
   refine q_y (y_ref rfl ty121) rfl ?_
   refine cB h fun r17 hr17 h => q_calls (escrowref25_sum_ok (List.getD rest3 4 (false, [], ())) _ hr17) (by kernel_rfl) rfl rfl rfl ?_
   refine q_y (y_ref rfl ty121) rfl ?_
   refine cB h fun r18 hr18 h => q_calls (escrowref25_sum_ok (List.getD rest3 5 (false, [], ())) _ hr18) (by kernel_rfl) rfl rfl rfl ?_
   refine q_y (y_build rfl zf51 rfl rfl (.cons (.elem 0 .here) rfl rfl (ok_elem (by first | omega | (simp only [List.length_set] at hc ⊢; omega)) ok_here) (.cons (.elem 1 .here) rfl rfl (ok_elem (by first | omega | (simp only [List.length_set] at hc ⊢; omega)) ok_here) .nil))) rfl ?_
   refine q_pure tabOk 1 [2, 5, 6, 53, 54] (E' := [(2, ptr b1 0), (5, .one Y76 rest3), (6, ptr b16 0), (53, .one (.arr 2 (.arr 32 (.int .u8))) [r17, r18]), (54, ptr b16 2)]) rfl ?_
   refine q_nil ?_
   refine r_less [2,5,6,53,54] rfl <| a_one (i := 10) (by kernel_rfl) rfl ?_
   refine st 0 ((.snd (.snd (.fst .here)))) ty51 rfl rfl rfl rfl trivial <| za <| r_less [2,5,6] rfl <| a_end (by kernel_rfl) ?_
   refine zt <| zs <| r_any (by kernel_rfl) ?_
   refine a_float (i := 0) (t := .one Y76 rest3) (blind_then (blind_block (blind_then blind_body))) rfl (by kernel_rfl) (by kernel_rfl) (by kernel_rfl) (y_pure tabOk rfl) rfl ?_
   refine iE h fun hc h => a_float (i := 1) (t := .ref (.pair .bool (.pair .str .unit)) (List.getD rest3 6 (false, [], ()))) (blind_then (blind_block (blind_then blind_body))) rfl (by kernel_rfl) (by kernel_rfl) (by kernel_rfl) (y_iref tabOk rfl rfl hc.1 hc.2 rfl ty121) rfl ?_
   refine a_float (i := 4) (t := .one Y76 rest3) (blind_then (blind_block (blind_then blind_body))) rfl (by kernel_rfl) (by kernel_rfl) (by kernel_rfl) (y_pure tabOk rfl) rfl ?_
   refine iE h fun hc h => a_float (i := 5) (t := .ref (.pair .bool (.pair .str .unit)) (List.getD rest3 7 (false, [], ()))) (blind_then (blind_block (blind_then blind_body))) rfl (by kernel_rfl) (by kernel_rfl) (by kernel_rfl) (y_iref tabOk rfl rfl hc.1 hc.2 rfl ty121) rfl ?_
   refine a_pref (fuel := 1) [2, 3, 6, 7, 8, 9] #[true, true, true, true, true, true, true, true, true, true, false] (by kernel_rfl) ?_
   refine q_y (y_ref rfl ty121) rfl ?_
   refine cB h fun r19 hr19 h => q_calls (escrowref25_sum_ok (List.getD rest3 6 (false, [], ())) _ hr19) (by kernel_rfl) rfl rfl rfl ?_
   refine q_y (y_ref rfl ty121) rfl ?_
   refine cB h fun r20 hr20 h => q_calls (escrowref25_sum_ok (List.getD rest3 7 (false, [], ())) _ hr20) (by kernel_rfl) rfl rfl rfl ?_
   refine q_y (y_build rfl zf51 rfl rfl (.cons (.elem 0 .here) rfl rfl (ok_elem (by first | omega | (simp only [List.length_set] at hc ⊢; omega)) ok_here) (.cons (.elem 1 .here) rfl rfl (ok_elem (by first | omega | (simp only [List.length_set] at hc ⊢; omega)) ok_here) .nil))) rfl ?_
   refine q_pure tabOk 1 [2, 6, 63, 64] (E' := [(2, ptr b1 0), (6, ptr b16 0), (63, .one (.arr 2 (.arr 32 (.int .u8))) [r19, r20]), (64, ptr b16 66)]) rfl ?_
   refine q_nil ?_
   refine r_less [2,6,63,64] rfl <| a_one (i := 10) (by kernel_rfl) rfl ?_
   refine st 0 ((.snd (.snd (.snd (.fst .here))))) ty51 rfl rfl rfl rfl trivial <| za <| r_less [2,6] rfl <| a_end (by kernel_rfl) ?_
   refine zt <| zu <| yl 0 .here ty79 rfl rfl rfl trivial rfl <| y (y_build rfl zf84 rfl rfl (.cons ((.fst .here)) rfl rfl ok_here (.cons ((.snd (.fst .here))) rfl rfl ok_here .nil))) rfl ?_
   refine st 1 .here ty84 rfl rfl rfl rfl trivial <| p 1 [2,3] rfl <| zf <| zB <| zT ?_
   cases h
   exact r_rets (rs := [.cell 2 84, .tmp 3]) rfl (.cons (.cell 1 .here rfl rfl (by first | rfl | (simp only [Pth.off, T.size]; omega)) ok_here ty84) (.cons (.tmp rfl) (.nil))) rfl (fun _ vs g => tup_ok vs g) (fun _ _ _ => List.nil_sublist _)
  refine h_take (i := 0) (t := .one (.raw (.slice none 0 0)) (.slice (some ⟨b6, of7, none⟩) (List.length rest3) c8)) (blind_then (blind_block (blind_then blind_body))) rfl (by kernel_rfl) (by kernel_rfl) (by kernel_rfl) (allis_cons (pin_is 0 rfl) allis_nil) (y_pure tabOk rfl) rfl ?_
  refine h_take (i := 1) (t := ptr b6 (of7 + 0 * 2)) (blind_then (blind_block (blind_then blind_body))) rfl (by kernel_rfl) (by kernel_rfl) (by kernel_rfl) (allis_cons (pin_is 0 rfl) allis_nil) (y_iraw tabOk rfl rfl hi5.1 hi5.2 rfl ty121) rfl ?_
  refine h_take (i := 2) (t := .one (.pair .bool (.pair .str .unit)) (List.getD rest3 0 (false, [], ()))) (blind_then (blind_block (blind_then blind_body))) rfl (by kernel_rfl) (by kernel_rfl) (by kernel_rfl) (allis_cons (pin_is 0 rfl) allis_nil) (y_heldpin (S := fun w => AllIs [PinIs b6 of7 (.pair .bool (.pair .str .unit)) rest3] w) (allis_at 0 rfl) 0 0 .here rfl rfl rfl (by omega) (by first | rfl | (simp only [Pth.off, T.size]; omega)) ok_here ty121) rfl ?_
  refine h_take (i := 4) (t := .one (.raw (.slice none 0 0)) (.slice (some ⟨b6, of7, none⟩) (List.length rest3) c8)) (blind_then (blind_block (blind_then blind_body))) rfl (by kernel_rfl) (by kernel_rfl) (by kernel_rfl) (allis_cons (pin_is 0 rfl) allis_nil) (y_pure tabOk rfl) rfl ?_
  refine h_take (i := 5) (t := ptr b6 (of7 + 1 * 2)) (blind_then (blind_block (blind_then blind_body))) rfl (by kernel_rfl) (by kernel_rfl) (by kernel_rfl) (allis_cons (pin_is 0 rfl) allis_nil) (y_iraw tabOk rfl rfl hi9.1 hi9.2 rfl ty121) rfl ?_
  refine h_take (i := 6) (t := .one (.pair .bool (.pair .str .unit)) (List.getD rest3 1 (false, [], ()))) (blind_then (blind_block (blind_then blind_body))) rfl (by kernel_rfl) (by kernel_rfl) (by kernel_rfl) (allis_cons (pin_is 0 rfl) allis_nil) (y_heldpin (S := fun w => AllIs [PinIs b6 of7 (.pair .bool (.pair .str .unit)) rest3] w) (allis_at 0 rfl) 0 1 .here rfl rfl rfl (by omega) (by first | rfl | (simp only [Pth.off, T.size]; omega)) ok_here ty121) rfl ?_
  refine h_take (i := 8) (t := .one (.raw (.slice none 0 0)) (.slice (some ⟨b6, of7, none⟩) (List.length rest3) c8)) (blind_then (blind_block (blind_then blind_body))) rfl (by kernel_rfl) (by kernel_rfl) (by kernel_rfl) (allis_cons (pin_is 0 rfl) allis_nil) (y_pure tabOk rfl) rfl ?_
  refine h_take (i := 9) (t := ptr b6 (of7 + 2 * 2)) (blind_then (blind_block (blind_then blind_body))) rfl (by kernel_rfl) (by kernel_rfl) (by kernel_rfl) (allis_cons (pin_is 0 rfl) allis_nil) (y_iraw tabOk rfl rfl hi10.1 hi10.2 rfl ty121) rfl ?_
  refine h_take (i := 10) (t := .one (.pair .bool (.pair .str .unit)) (List.getD rest3 2 (false, [], ()))) (blind_then (blind_block (blind_then blind_body))) rfl (by kernel_rfl) (by kernel_rfl) (by kernel_rfl) (allis_cons (pin_is 0 rfl) allis_nil) (y_heldpin (S := fun w => AllIs [PinIs b6 of7 (.pair .bool (.pair .str .unit)) rest3] w) (allis_at 0 rfl) 0 2 .here rfl rfl rfl (by omega) (by first | rfl | (simp only [Pth.off, T.size]; omega)) ok_here ty121) rfl ?_
  refine h_take (i := 12) (t := .one (.raw (.slice none 0 0)) (.slice (some ⟨b6, of7, none⟩) (List.length rest3) c8)) (blind_then (blind_block (blind_then blind_body))) rfl (by kernel_rfl) (by kernel_rfl) (by kernel_rfl) (allis_cons (pin_is 0 rfl) allis_nil) (y_pure tabOk rfl) rfl ?_
  refine h_take (i := 13) (t := ptr b6 (of7 + 3 * 2)) (blind_then (blind_block (blind_then blind_body))) rfl (by kernel_rfl) (by kernel_rfl) (by kernel_rfl) (allis_cons (pin_is 0 rfl) allis_nil) (y_iraw tabOk rfl rfl hi11.1 hi11.2 rfl ty121) rfl ?_
  refine h_take (i := 14) (t := .one (.pair .bool (.pair .str .unit)) (List.getD rest3 3 (false, [], ()))) (blind_then (blind_block (blind_then blind_body))) rfl (by kernel_rfl) (by kernel_rfl) (by kernel_rfl) (allis_cons (pin_is 0 rfl) allis_nil) (y_heldpin (S := fun w => AllIs [PinIs b6 of7 (.pair .bool (.pair .str .unit)) rest3] w) (allis_at 0 rfl) 0 3 .here rfl rfl rfl (by omega) (by first | rfl | (simp only [Pth.off, T.size]; omega)) ok_here ty121) rfl ?_
  refine h_two (i := 3) (j := 17) (by kernel_rfl) rfl rfl ?_ ?_
  ·refine r_calls (escrowref25_num_ok _ _ hr12) (by kernel_rfl) rfl rfl <| za <| h_in (allis_cons (pin_is 0 rfl) allis_nil) ?_
   refine r_less [2,5,31,34,38,42] rfl ?_
   refine h_two (i := 7) (j := 17) (by kernel_rfl) rfl rfl ?_ ?_
   ·refine r_calls (escrowref25_num_ok _ _ hr13) (by kernel_rfl) rfl rfl <| za <| h_in (allis_cons (pin_is 0 rfl) allis_nil) ?_
    refine r_less [2,5,31,35,38,42] rfl ?_
    refine h_two (i := 11) (j := 17) (by kernel_rfl) rfl rfl ?_ ?_
    ·refine r_calls (escrowref25_num_ok _ _ hr14) (by kernel_rfl) rfl rfl <| za <| h_in (allis_cons (pin_is 0 rfl) allis_nil) ?_
     refine r_less [2,5,31,35,39,42] rfl ?_
     refine h_two (i := 15) (j := 17) (by kernel_rfl) rfl rfl ?_ ?_
     ·refine r_calls (escrowref25_num_ok _ _ hr15) (by kernel_rfl) rfl rfl <| za <| h_in (allis_cons (pin_is 0 rfl) allis_nil) ?_
      refine r_less [2,5,31,35,39,43] rfl <| h_take (i := 16) (t := .one Y79 (r12, r13, (List.replicate 2 ((List.replicate 32 (0 : Int)) : List (Int))), (List.replicate 2 ((List.replicate 32 (0 : Int)) : List (Int))), r14, r15, ())) (blind_then (blind_block (blind_then blind_body))) rfl (by kernel_rfl) (by kernel_rfl) (by kernel_rfl) (allis_cons (pin_is 0 rfl) allis_nil) (y_build rfl zf79 rfl rfl (.cons ((.fst .here)) rfl rfl ok_here (.cons ((.snd (.fst .here))) rfl rfl ok_here (.cons ((.snd (.snd (.snd (.snd (.fst .here)))))) rfl rfl ok_here (.cons ((.snd (.snd (.snd (.snd (.snd (.fst .here))))))) rfl rfl ok_here .nil))))) rfl ?_
      refine h_one (i := 17) (by kernel_rfl) rfl ?_
      refine r_alloc (t := Y79) rfl zf79 rfl fun b22 => za <| h_in (allis_cons (pin_is 1 rfl) allis_nil) ?_
      refine r_less [2,5,6,44] rfl <| h_one (i := 18) (by kernel_rfl) rfl ?_
      refine st 0 .here ty79 rfl rfl rfl rfl trivial <| za <| h_in (allis_cons (pin_is 1 rfl) allis_nil) ?_
      refine r_less [2,5,6] rfl <| h_end (by kernel_rfl) ?_
      refine r_unpin 121 5 1 rfl rfl ?_
      exact pk [0,1] rfl <| r_less [2,5,6] rfl <| rest21 b22
     refine r_alloc (t := Y79) rfl zf79 rfl fun b23 => za <| h_in (allis_cons (pin_is 1 rfl) allis_nil) ?_
     refine r_less [2,5,6,31,35,39,42] rfl <| h_one (i := 15) (by kernel_rfl) rfl ?_
     refine r_calls (escrowref25_num_ok _ _ hr15) (by kernel_rfl) rfl rfl <| za <| h_in (allis_cons (pin_is 1 rfl) allis_nil) ?_
     refine r_less [2,5,6,31,35,39,43] rfl <| h_take (i := 16) (t := .one Y79 (r12, r13, (List.replicate 2 ((List.replicate 32 (0 : Int)) : List (Int))), (List.replicate 2 ((List.replicate 32 (0 : Int)) : List (Int))), r14, r15, ())) (blind_then (blind_block (blind_then blind_body))) rfl (by kernel_rfl) (by kernel_rfl) (by kernel_rfl) (allis_cons (pin_is 1 rfl) allis_nil) (y_build rfl zf79 rfl rfl (.cons ((.fst .here)) rfl rfl ok_here (.cons ((.snd (.fst .here))) rfl rfl ok_here (.cons ((.snd (.snd (.snd (.snd (.fst .here)))))) rfl rfl ok_here (.cons ((.snd (.snd (.snd (.snd (.snd (.fst .here))))))) rfl rfl ok_here .nil))))) rfl ?_
     refine h_one (i := 18) (by kernel_rfl) rfl ?_
     refine st 0 .here ty79 rfl rfl rfl rfl trivial <| za <| h_in (allis_cons (pin_is 1 rfl) allis_nil) ?_
     refine r_less [2,5,6] rfl <| h_end (by kernel_rfl) ?_
     refine r_unpin 121 5 1 rfl rfl ?_
     exact pk [0,1] rfl <| r_less [2,5,6] rfl <| rest21 b23
    refine r_alloc (t := Y79) rfl zf79 rfl fun b24 => za <| h_in (allis_cons (pin_is 1 rfl) allis_nil) ?_
    refine r_less [2,5,6,31,35,38,42] rfl <| h_one (i := 11) (by kernel_rfl) rfl ?_
    refine r_calls (escrowref25_num_ok _ _ hr14) (by kernel_rfl) rfl rfl <| za <| h_in (allis_cons (pin_is 1 rfl) allis_nil) ?_
    refine r_less [2,5,6,31,35,39,42] rfl <| h_one (i := 15) (by kernel_rfl) rfl ?_
    refine r_calls (escrowref25_num_ok _ _ hr15) (by kernel_rfl) rfl rfl <| za <| h_in (allis_cons (pin_is 1 rfl) allis_nil) ?_
    refine r_less [2,5,6,31,35,39,43] rfl <| h_take (i := 16) (t := .one Y79 (r12, r13, (List.replicate 2 ((List.replicate 32 (0 : Int)) : List (Int))), (List.replicate 2 ((List.replicate 32 (0 : Int)) : List (Int))), r14, r15, ())) (blind_then (blind_block (blind_then blind_body))) rfl (by kernel_rfl) (by kernel_rfl) (by kernel_rfl) (allis_cons (pin_is 1 rfl) allis_nil) (y_build rfl zf79 rfl rfl (.cons ((.fst .here)) rfl rfl ok_here (.cons ((.snd (.fst .here))) rfl rfl ok_here (.cons ((.snd (.snd (.snd (.snd (.fst .here)))))) rfl rfl ok_here (.cons ((.snd (.snd (.snd (.snd (.snd (.fst .here))))))) rfl rfl ok_here .nil))))) rfl ?_
    refine h_one (i := 18) (by kernel_rfl) rfl ?_
    refine st 0 .here ty79 rfl rfl rfl rfl trivial <| za <| h_in (allis_cons (pin_is 1 rfl) allis_nil) ?_
    refine r_less [2,5,6] rfl <| h_end (by kernel_rfl) ?_
    refine r_unpin 121 5 1 rfl rfl ?_
    exact pk [0,1] rfl <| r_less [2,5,6] rfl <| rest21 b24
   refine r_alloc (t := Y79) rfl zf79 rfl fun b25 => za <| h_in (allis_cons (pin_is 1 rfl) allis_nil) ?_
   refine r_less [2,5,6,31,34,38,42] rfl <| h_one (i := 7) (by kernel_rfl) rfl ?_
   refine r_calls (escrowref25_num_ok _ _ hr13) (by kernel_rfl) rfl rfl <| za <| h_in (allis_cons (pin_is 1 rfl) allis_nil) ?_
   refine r_less [2,5,6,31,35,38,42] rfl <| h_one (i := 11) (by kernel_rfl) rfl ?_
   refine r_calls (escrowref25_num_ok _ _ hr14) (by kernel_rfl) rfl rfl <| za <| h_in (allis_cons (pin_is 1 rfl) allis_nil) ?_
   refine r_less [2,5,6,31,35,39,42] rfl <| h_one (i := 15) (by kernel_rfl) rfl ?_
   refine r_calls (escrowref25_num_ok _ _ hr15) (by kernel_rfl) rfl rfl <| za <| h_in (allis_cons (pin_is 1 rfl) allis_nil) ?_
   refine r_less [2,5,6,31,35,39,43] rfl <| h_take (i := 16) (t := .one Y79 (r12, r13, (List.replicate 2 ((List.replicate 32 (0 : Int)) : List (Int))), (List.replicate 2 ((List.replicate 32 (0 : Int)) : List (Int))), r14, r15, ())) (blind_then (blind_block (blind_then blind_body))) rfl (by kernel_rfl) (by kernel_rfl) (by kernel_rfl) (allis_cons (pin_is 1 rfl) allis_nil) (y_build rfl zf79 rfl rfl (.cons ((.fst .here)) rfl rfl ok_here (.cons ((.snd (.fst .here))) rfl rfl ok_here (.cons ((.snd (.snd (.snd (.snd (.fst .here)))))) rfl rfl ok_here (.cons ((.snd (.snd (.snd (.snd (.snd (.fst .here))))))) rfl rfl ok_here .nil))))) rfl ?_
   refine h_one (i := 18) (by kernel_rfl) rfl ?_
   refine st 0 .here ty79 rfl rfl rfl rfl trivial <| za <| h_in (allis_cons (pin_is 1 rfl) allis_nil) ?_
   refine r_less [2,5,6] rfl <| h_end (by kernel_rfl) ?_
   refine r_unpin 121 5 1 rfl rfl ?_
   exact pk [0,1] rfl <| r_less [2,5,6] rfl <| rest21 b25
  refine r_alloc (t := Y79) rfl zf79 rfl fun b26 => za <| h_in (allis_cons (pin_is 1 rfl) allis_nil) ?_
  refine r_less [2,5,6,30,34,38,42] rfl <| h_one (i := 3) (by kernel_rfl) rfl ?_
  refine r_calls (escrowref25_num_ok _ _ hr12) (by kernel_rfl) rfl rfl <| za <| h_in (allis_cons (pin_is 1 rfl) allis_nil) ?_
  refine r_less [2,5,6,31,34,38,42] rfl <| h_one (i := 7) (by kernel_rfl) rfl ?_
  refine r_calls (escrowref25_num_ok _ _ hr13) (by kernel_rfl) rfl rfl <| za <| h_in (allis_cons (pin_is 1 rfl) allis_nil) ?_
  refine r_less [2,5,6,31,35,38,42] rfl <| h_one (i := 11) (by kernel_rfl) rfl ?_
  refine r_calls (escrowref25_num_ok _ _ hr14) (by kernel_rfl) rfl rfl <| za <| h_in (allis_cons (pin_is 1 rfl) allis_nil) ?_
  refine r_less [2,5,6,31,35,39,42] rfl <| h_one (i := 15) (by kernel_rfl) rfl ?_
  refine r_calls (escrowref25_num_ok _ _ hr15) (by kernel_rfl) rfl rfl <| za <| h_in (allis_cons (pin_is 1 rfl) allis_nil) ?_
  refine r_less [2,5,6,31,35,39,43] rfl <| h_take (i := 16) (t := .one Y79 (r12, r13, (List.replicate 2 ((List.replicate 32 (0 : Int)) : List (Int))), (List.replicate 2 ((List.replicate 32 (0 : Int)) : List (Int))), r14, r15, ())) (blind_then (blind_block (blind_then blind_body))) rfl (by kernel_rfl) (by kernel_rfl) (by kernel_rfl) (allis_cons (pin_is 1 rfl) allis_nil) (y_build rfl zf79 rfl rfl (.cons ((.fst .here)) rfl rfl ok_here (.cons ((.snd (.fst .here))) rfl rfl ok_here (.cons ((.snd (.snd (.snd (.snd (.fst .here)))))) rfl rfl ok_here (.cons ((.snd (.snd (.snd (.snd (.snd (.fst .here))))))) rfl rfl ok_here .nil))))) rfl ?_
  refine h_one (i := 18) (by kernel_rfl) rfl ?_
  refine st 0 .here ty79 rfl rfl rfl rfl trivial <| za <| h_in (allis_cons (pin_is 1 rfl) allis_nil) ?_
  refine r_less [2,5,6] rfl <| h_end (by kernel_rfl) ?_
  refine r_unpin 121 5 1 rfl rfl ?_
  exact pk [0,1] rfl <| r_less [2,5,6] rfl <| rest21 b26
 refine zu <| q 2 [(67, tb (name2 == [115, 116, 101, 112]))] [2,4,5,21] rfl <| za <| rI h rfl (fun hc h => ?_) fun hc h => ?_
 ·refine zs <| zu <| q 4 [(72, tb ((List.length rest3 : Int) == 0))] [2,5] rfl ?_
  obtain ⟨b27, e, h⟩ := bnd_ex h; rw [e]
  refine bX h fun k28 hk28 h => ?_
  refine r_lsplitk (γ := Unit) 5 (fun (o29 : Bool) _ => [(2, ptr b1 0), (5, .one Y76 rest3), (77, tb o29)]) (fun _ _ => [Res.var b1 84 Y84 (0, (0, 0, (List.replicate 2 ((List.replicate 32 (0 : Int)) : List (Int))), (List.replicate 2 ((List.replicate 32 (0 : Int)) : List (Int))), 0, 0, ()), (0, 0, (0, 0, 0, 0, (List.replicate 32 (0 : Int)), [], [], [], ()), ()), 0, 0, ())]) k28 r ?_ ?_
  ·rcases Bool.eq_false_or_eq_true b27 with hh | hh
   ·rw [hh] at h ⊢
    rw [if_pos rfl] at h
    exact p 5 [2,5,77] rfl <| zn <| r_less [2,5,77] rfl <| zt <| by exact r_meetk true () h rfl rfl
   rw [hh] at h ⊢
   rw [if_neg (by decide)] at h
   refine p 1 [2,5,72,73] rfl <| r_guard (by rfl) rfl ?_
   refine iE h fun hc h => y (y_slsub (i := (0 : Int)) (j := 1) tabOk rfl rfl rfl hc.1 hc.2.1 hc.2.2 rfl ty121) rfl ?_
   refine r_guard (by rfl) rfl ?_
   exact cB h fun r30 hr30 h => r_calls (escrowref25_like_ok _ _ _ hr30) (by kernel_rfl) rfl rfl <| p 2 [2,5,77] rfl <| zn <| r_less [2,5,77] rfl <| zt <| by exact r_meetk (!r30) () h rfl rfl
  intro o29 _ h
  rw [← hk28] at h
  try dsimp only at h
  refine za <| rI h rfl (fun hc h => ?_) fun hc h => ?_
  ·refine zu <| y (y_build rfl zf84 rfl rfl .nil) rfl ?_
   refine st 0 .here ty84 rfl rfl rfl rfl trivial <| p 1 [2,3] rfl <| zf <| zT <| zB <| zT ?_
   cases h
   exact r_rets (rs := [.cell 2 84, .tmp 3]) rfl (.cons (.cell 0 .here rfl rfl (by first | rfl | (simp only [Pth.off, T.size]; omega)) ok_here ty84) (.cons (.tmp rfl) (.nil))) rfl (fun _ vs g => tup_ok vs g) (fun _ _ _ => List.nil_sublist _)
  refine zy <| p 1 [2,5,80] rfl <| iE h fun hc h => y (y_slsub (i := 1) (j := (List.length rest3 : Int)) tabOk rfl rfl rfl hc.1 hc.2.1 hc.2.2 rfl ty121) rfl ?_
  refine cB h fun r31 hr31 h => r_calls (escrowref25_step_ok _ _ hr31) (by kernel_rfl) rfl rfl <| q 3 [(83, .one Y80 r31.1), (84, tb r31.2)] [2,5] rfl <| r_alloc (t := Y80) rfl zf80 rfl fun b32 => st 0 .here ty80 rfl rfl rfl rfl trivial <| q 1 [(7, ptr b32 0), (8, tb r31.2)] [2,5] rfl <| za <| zs <| r_any (by kernel_rfl) ?_
  refine a_float (i := 0) (t := .one Y76 rest3) (blind_then (blind_block (blind_then blind_body))) rfl (by kernel_rfl) (by kernel_rfl) (by kernel_rfl) (y_pure tabOk rfl) rfl ?_
  refine iE h fun hc h => a_float (i := 1) (t := .ref (.pair .bool (.pair .str .unit)) (List.getD rest3 0 (false, [], ()))) (blind_then (blind_block (blind_then blind_body))) rfl (by kernel_rfl) (by kernel_rfl) (by kernel_rfl) (y_iref tabOk rfl rfl hc.1 hc.2 rfl ty121) rfl ?_
  refine a_float (i := 7) (t := tb r31.2) (blind_then (blind_block (blind_then blind_body))) rfl (by kernel_rfl) (by kernel_rfl) (by kernel_rfl) (y_pure tabOk rfl) rfl ?_
  refine a_pref (fuel := 2) [2, 3, 4, 5, 6] #[true, true, true, true, true, true, true, true, false, false] (by kernel_rfl) ?_
  refine q_y (y_ref rfl ty121) rfl ?_
  refine cB h fun r33 hr33 h => q_calls (escrowref25_num_ok (List.getD rest3 0 (false, [], ())) _ hr33) (by kernel_rfl) rfl rfl rfl ?_
  refine q_y (y_load 0 .here rfl rfl (by first | rfl | (simp only [Pth.off, T.size]; omega)) ok_here ty80) rfl ?_
  refine q_y (y_build rfl zf82 rfl rfl (.cons ((.fst .here)) rfl rfl ok_here (.cons ((.snd (.fst .here))) rfl rfl ok_here (.cons ((.snd (.snd (.fst .here)))) rfl rfl ok_here .nil)))) rfl ?_
  refine q_y (y_build rfl zf84 rfl rfl (.cons ((.fst .here)) rfl rfl ok_here (.cons ((.snd (.snd (.fst .here)))) rfl rfl ok_here .nil))) rfl ?_
  refine q_nil ?_
  refine r_less [2,91,92] rfl <| a_one (i := 8) (by kernel_rfl) rfl ?_
  refine st 1 .here ty84 rfl rfl rfl rfl trivial <| za <| r_less [2,92] rfl <| a_float (i := 9) (t := tb r31.2) (blind_then (blind_block (blind_then blind_body))) rfl (by kernel_rfl) (by kernel_rfl) (by kernel_rfl) (y_pure tabOk rfl) rfl ?_
  refine a_end (by kernel_rfl) ?_
  refine zt <| zR <| zB <| zT ?_
  cases h
  exact r_rets (rs := [.cell 2 84, .tmp 3]) rfl (.cons (.cell 1 .here rfl rfl (by first | rfl | (simp only [Pth.off, T.size]; omega)) ok_here ty84) (.cons (.tmp rfl) (.nil))) rfl (fun _ vs g => tup_ok vs g) (fun _ _ _ => List.nil_sublist _)
 refine zu <| q 2 [(93, tb (name2 == [106, 111, 105, 110]))] [2,4,5,21] rfl <| za <| rI h rfl (fun hc h => ?_) fun hc h => ?_
 ·refine zu <| y (y_build rfl zf82 rfl rfl (.cons ((.fst .here)) rfl rfl ok_here .nil)) rfl ?_
  refine y (y_build rfl zf84 rfl rfl (.cons ((.fst .here)) rfl rfl ok_here (.cons ((.snd (.snd (.fst .here)))) rfl rfl ok_here .nil))) rfl ?_
  refine q 3 [(96, .one Y84 (2, (0, 0, (List.replicate 2 ((List.replicate 32 (0 : Int)) : List (Int))), (List.replicate 2 ((List.replicate 32 (0 : Int)) : List (Int))), 0, 0, ()), (2, 0, (0, 0, 0, 0, (List.replicate 32 (0 : Int)), [], [], [], ()), ()), 0, 0, ())), (99, tb ((List.length rest3 : Int) == 0))] [2] rfl <| st 0 .here ty84 rfl rfl rfl rfl trivial <| q 1 [(3, tb ((List.length rest3 : Int) == 0))] [2] rfl <| zf <| zB <| zT ?_
  cases h
  exact r_rets (rs := [.cell 2 84, .tmp 3]) rfl (.cons (.cell 0 .here rfl rfl (by first | rfl | (simp only [Pth.off, T.size]; omega)) ok_here ty84) (.cons (.tmp rfl) (.nil))) rfl (fun _ vs g => tup_ok vs g) (fun _ _ _ => List.nil_sublist _)
 refine zu <| q 2 [(100, tb (name2 == [99, 117, 116]))] [2,4,5,21] rfl <| za <| rI h rfl (fun hc h => ?_) fun hc h => ?_
 ·refine zu <| y (y_build rfl zf82 rfl rfl (.cons ((.fst .here)) rfl rfl ok_here .nil)) rfl ?_
  refine y (y_build rfl zf84 rfl rfl (.cons ((.fst .here)) rfl rfl ok_here (.cons ((.snd (.snd (.fst .here)))) rfl rfl ok_here .nil))) rfl ?_
  refine q 3 [(103, .one Y84 (2, (0, 0, (List.replicate 2 ((List.replicate 32 (0 : Int)) : List (Int))), (List.replicate 2 ((List.replicate 32 (0 : Int)) : List (Int))), 0, 0, ()), (3, 0, (0, 0, 0, 0, (List.replicate 32 (0 : Int)), [], [], [], ()), ()), 0, 0, ())), (106, tb ((List.length rest3 : Int) == 0))] [2] rfl <| st 0 .here ty84 rfl rfl rfl rfl trivial <| q 1 [(3, tb ((List.length rest3 : Int) == 0))] [2] rfl <| zf <| zB <| zT ?_
  cases h
  exact r_rets (rs := [.cell 2 84, .tmp 3]) rfl (.cons (.cell 0 .here rfl rfl (by first | rfl | (simp only [Pth.off, T.size]; omega)) ok_here ty84) (.cons (.tmp rfl) (.nil))) rfl (fun _ vs g => tup_ok vs g) (fun _ _ _ => List.nil_sublist _)
 refine zu <| q 2 [(107, tb (name2 == [106, 111, 105, 110, 101, 100]))] [2,4,5] rfl <| za <| rI h rfl (fun hc h => ?_) fun hc h => ?_
 ·refine zu <| y (y_build rfl zf84 rfl rfl (.cons ((.fst .here)) rfl rfl ok_here .nil)) rfl ?_
  refine q 3 [(109, .one Y84 (9, (0, 0, (List.replicate 2 ((List.replicate 32 (0 : Int)) : List (Int))), (List.replicate 2 ((List.replicate 32 (0 : Int)) : List (Int))), 0, 0, ()), (0, 0, (0, 0, 0, 0, (List.replicate 32 (0 : Int)), [], [], [], ()), ()), 0, 0, ())), (112, tb ((List.length rest3 : Int) == 0))] [2] rfl <| st 0 .here ty84 rfl rfl rfl rfl trivial <| q 1 [(3, tb ((List.length rest3 : Int) == 0))] [2] rfl <| zf <| zB <| zT ?_
  cases h
  exact r_rets (rs := [.cell 2 84, .tmp 3]) rfl (.cons (.cell 0 .here rfl rfl (by first | rfl | (simp only [Pth.off, T.size]; omega)) ok_here ty84) (.cons (.tmp rfl) (.nil))) rfl (fun _ vs g => tup_ok vs g) (fun _ _ _ => List.nil_sublist _)
 refine zk <| zi <| zt <| zs <| zu <| p 1 [2,4,5,113] rfl <| cB h fun r34 hr34 h => r_calls (escrowref25_like_ok _ _ _ hr34) (by kernel_rfl) rfl rfl <| p 1 [2,4,5,115] rfl <| za <| rI h rfl (fun hc h => ?_) fun hc h => ?_
 ·refine zu <| y (y_build rfl zf84 rfl rfl .nil) rfl ?_
  refine st 0 .here ty84 rfl rfl rfl rfl trivial <| p 1 [2,3] rfl <| zf <| zT ?_
  cases h
  exact r_rets (rs := [.cell 2 84, .tmp 3]) rfl (.cons (.cell 0 .here rfl rfl (by first | rfl | (simp only [Pth.off, T.size]; omega)) ok_here ty84) (.cons (.tmp rfl) (.nil))) rfl (fun _ vs g => tup_ok vs g) (fun _ _ _ => List.nil_sublist _)
 refine zy <| p 1 [2,4,117] rfl <| iE h fun hc h => y (y_iref tabOk rfl rfl hc.1 hc.2 rfl ty121) rfl ?_
 refine y (y_ref rfl ty121) rfl ?_
 refine cB h fun r35 hr35 h => r_calls (escrowref25_num_ok _ _ hr35) (by kernel_rfl) rfl rfl <| p 1 [2,4,9] rfl <| za <| zs <| zb <| zu <| q 3 [(121, tb (name2 == [100, 101, 108, 105, 118, 101, 114]))] [2,4,9] rfl <| za <| rI h rfl (fun hc h => ?_) fun hc h => ?_
 ·refine zu <| p 1 [2,124] rfl <| y (y_build rfl zf82 rfl rfl (.cons ((.fst .here)) rfl rfl ok_here (.cons ((.snd (.fst .here))) rfl rfl ok_here .nil))) rfl ?_
  refine y (y_build rfl zf84 rfl rfl (.cons ((.fst .here)) rfl rfl ok_here (.cons ((.snd (.snd (.fst .here)))) rfl rfl ok_here .nil))) rfl ?_
  refine st 0 .here ty84 rfl rfl rfl rfl trivial <| p 1 [2,3] rfl <| zf <| zB <| zT ?_
  cases h
  exact r_rets (rs := [.cell 2 84, .tmp 3]) rfl (.cons (.cell 0 .here rfl rfl (by first | rfl | (simp only [Pth.off, T.size]; omega)) ok_here ty84) (.cons (.tmp rfl) (.nil))) rfl (fun _ vs g => tup_ok vs g) (fun _ _ _ => List.nil_sublist _)
 refine zu <| q 3 [(127, tb (name2 == [108, 111, 115, 101]))] [2,4,9] rfl <| za <| rI h rfl (fun hc h => ?_) fun hc h => ?_
 ·refine zu <| p 1 [2,130] rfl <| y (y_build rfl zf82 rfl rfl (.cons ((.fst .here)) rfl rfl ok_here (.cons ((.snd (.fst .here))) rfl rfl ok_here .nil))) rfl ?_
  refine y (y_build rfl zf84 rfl rfl (.cons ((.fst .here)) rfl rfl ok_here (.cons ((.snd (.snd (.fst .here)))) rfl rfl ok_here .nil))) rfl ?_
  refine st 0 .here ty84 rfl rfl rfl rfl trivial <| p 1 [2,3] rfl <| zf <| zB <| zT ?_
  cases h
  exact r_rets (rs := [.cell 2 84, .tmp 3]) rfl (.cons (.cell 0 .here rfl rfl (by first | rfl | (simp only [Pth.off, T.size]; omega)) ok_here ty84) (.cons (.tmp rfl) (.nil))) rfl (fun _ vs g => tup_ok vs g) (fun _ _ _ => List.nil_sublist _)
 refine zu <| q 3 [(133, tb (name2 == [113, 117, 105, 101, 116]))] [2,4,9] rfl <| za <| rI h rfl (fun hc h => ?_) fun hc h => ?_
 ·refine zu <| p 1 [2,136] rfl <| y (y_build rfl zf84 rfl rfl (.cons ((.fst .here)) rfl rfl ok_here (.cons ((.snd (.snd (.snd (.fst .here))))) rfl rfl ok_here .nil))) rfl ?_
  refine st 0 .here ty84 rfl rfl rfl rfl trivial <| p 1 [2,3] rfl <| zf <| zB <| zT ?_
  cases h
  exact r_rets (rs := [.cell 2 84, .tmp 3]) rfl (.cons (.cell 0 .here rfl rfl (by first | rfl | (simp only [Pth.off, T.size]; omega)) ok_here ty84) (.cons (.tmp rfl) (.nil))) rfl (fun _ vs g => tup_ok vs g) (fun _ _ _ => List.nil_sublist _)
 refine zu <| p 1 [2,4,9,139] rfl <| cB h fun r36 hr36 h => r_calls (escrowref25_asks_ok _ _ hr36) (by kernel_rfl) rfl rfl <| p 2 [2,4,9,138] rfl <| za <| rI h rfl (fun hc h => ?_) fun hc h => ?_
 ·refine zu <| p 1 [2,9,142] rfl <| cB h fun r37 hr37 h => r_calls (escrowref25_asks_ok _ _ hr37) (by kernel_rfl) rfl rfl <| p 1 [2,143,144] rfl <| y (y_build rfl zf84 rfl rfl (.cons ((.fst .here)) rfl rfl ok_here (.cons ((.snd (.snd (.snd (.snd (.fst .here)))))) rfl rfl ok_here .nil))) rfl ?_
  refine st 0 .here ty84 rfl rfl rfl rfl trivial <| p 1 [2,3] rfl <| zf <| zB <| zT ?_
  cases h
  exact r_rets (rs := [.cell 2 84, .tmp 3]) rfl (.cons (.cell 0 .here rfl rfl (by first | rfl | (simp only [Pth.off, T.size]; omega)) ok_here ty84) (.cons (.tmp rfl) (.nil))) rfl (fun _ vs g => tup_ok vs g) (fun _ _ _ => List.nil_sublist _)
 refine zk <| zi <| zt <| zu <| y (y_build rfl zf84 rfl rfl .nil) rfl ?_
 refine st 0 .here ty84 rfl rfl rfl rfl trivial <| p 1 [2,3] rfl <| zf ?_
 cases h
 exact r_rets (rs := [.cell 2 84, .tmp 3]) rfl (.cons (.cell 0 .here rfl rfl (by first | rfl | (simp only [Pth.off, T.size]; omega)) ok_here ty84) (.cons (.tmp rfl) (.nil))) rfl (fun _ vs g => tup_ok vs g) (fun _ _ _ => List.nil_sublist _)

theorem escrowref25_Parse_ok (a0 : List Int) (r : (List (Int × (Int × Int × List (List (Int)) × List (List (Int)) × Int × Int × Unit) × (Int × Int × (Int × Int × Int × Int × List (Int) × List Int × List Int × (List (List Int × Int × Int × List Int × Unit)) × Unit) × Unit) × Int × Int × Unit)) × Int) (h : escrowref25_Parse a0 = some r) : Fn Tryd.prog 12 [ts a0] [] (fun v => .tup [⟨.raw (.slice none 0 0), tupv v 0⟩, ⟨(.int .i64), r.2⟩]) (fun v => [Res.own (tupv v 0) 84 Y84 r.1]) := by
 unfold escrowref25_Parse at h
 refine enter Tryd.func12 rfl 55 rfl rfl fun F => ?_
 refine zu <| p 2 [0] rfl <| za <| zs <| zu <| p 1 [0,10] rfl <| cB h fun r1 hr1 h => r_calls (escrowref25_long_ok _ _ hr1) (by kernel_rfl) rfl rfl <| za <| rI h rfl (fun hc h => ?_) fun hc h => ?_
 ·refine zu <| p 2 [2,3] rfl <| zf <| zT <| r_nilown (.slice none 0 0) rfl 84 Y84 ?_
  cases h
  exact r_rets (rs := [.tmp 2, .tmp 3]) rfl (.cons (.tmp rfl) (.cons (.tmp rfl) (.nil))) rfl (fun _ vs g => by cases g with | cons h0 g => cases g with | cons h1 g => cases g; exact ⟨_, rfl, .cons (raw_self h0) (.cons h1 (.nil))⟩) (fun _ vs g => by cases g with | cons h0 g => cases g with | cons h1 g => cases g; rw [raw_eq h0]; exact (.cons_cons _ .slnil))
 refine zy <| p 1 [12] rfl <| cB h fun r2 hr2 h => rc [] (escrowref25_Lines_ok _ _ hr2) (by kernel_rfl) rfl rfl rfl fun v3 => p 1 [4] rfl <| zz <| p 1 [4,5] rfl <| r_nilown (.slice none 0 0) rfl 84 Y84 ?_
 refine za <| jK h (γ := Value × Value) (fun (o5 : (List (Int × (Int × Int × List (List (Int)) × List (List (Int)) × Int × Int × Unit) × (Int × Int × (Int × Int × Int × Int × List (Int) × List Int × List Int × (List (List Int × Int × Int × List Int × Unit)) × Unit) × Unit) × Int × Int × Unit))) g8 => [(5, .one (.raw (.slice none 0 0)) g8.1)]) (fun (o5 : (List (Int × (Int × Int × List (List (Int)) × List (List (Int)) × Int × Int × Unit) × (Int × Int × (Int × Int × Int × Int × List (Int) × List Int × List Int × (List (List Int × Int × Int × List Int × Unit)) × Unit) × Unit) × Int × Int × Unit))) g8 => [Res.own g8.1 84 Y84 o5, Res.own g8.2 9 .str r2]) (fun k4 h => ?_) fun o5 g8 h => ?_
 ·refine zu <| p 1 [4,5,6] rfl <| za <| zb <| r_less [4,5,6] rfl <| r_loopg (γ := Value × Value) (fun (s14 : Int × (List (Int × (Int × Int × List (List (Int)) × List (List (Int)) × Int × Int × Unit) × (Int × Int × (Int × Int × Int × Int × List (Int) × List Int × List Int × (List (List Int × Int × Int × List Int × Unit)) × Unit) × Unit) × Int × Int × Unit))) g17 => [(4, .one (.raw (.slice none 0 0)) g17.2), (5, .one (.raw (.slice none 0 0)) g17.1), (6, ti s14.1)]) (fun (s14 : Int × (List (Int × (Int × Int × List (List (Int)) × List (List (Int)) × Int × Int × Unit) × (Int × Int × (Int × Int × Int × Int × List (Int) × List Int × List Int × (List (List Int × Int × Int × List Int × Unit)) × Unit) × Unit) × Int × Int × Unit))) g17 => [Res.own g17.1 84 Y84 s14.2, Res.own g17.2 9 .str r2]) (escrowref25_Parse_l0 r2 k4) (0, []) ((.slice none 0 0), v3) h rfl rfl ?_
  clear h
  intro m18 s14 g17 h
  cases m18 with
  | zero => cases h
  | succ m18 =>
  simp only [escrowref25_Parse_l0] at h
  refine zs <| zu <| q 2 [(4, .one (.raw (.slice none 0 0)) g17.2), (5, .one (.raw (.slice none 0 0)) g17.1), (6, ti s14.1), (14, ti s14.1), (15, .one (.raw (.slice none 0 0)) g17.2)] [] rfl <| y (y_lenown tabOk 1 rfl rfl rfl) rfl ?_
  refine q 1 [(17, tb (decide (s14.1 < (List.length r2 : Int))))] [4,5,6] rfl <| za <| rI h rfl (fun hc h => ?_) fun hc h => ?_
  ·refine zk <| zt <| jK h (γ := Value × Value) (fun (o20 : (List (Int × (Int × Int × List (List (Int)) × List (List (Int)) × Int × Int × Unit) × (Int × Int × (Int × Int × Int × Int × List (Int) × List Int × List Int × (List (List Int × Int × Int × List Int × Unit)) × Unit) × Unit) × Int × Int × Unit))) g23 => [(4, .one (.raw (.slice none 0 0)) g23.2), (5, .one (.raw (.slice none 0 0)) g23.1), (6, ti s14.1)]) (fun (o20 : (List (Int × (Int × Int × List (List (Int)) × List (List (Int)) × Int × Int × Unit) × (Int × Int × (Int × Int × Int × Int × List (Int) × List Int × List Int × (List (List Int × Int × Int × List Int × Unit)) × Unit) × Unit) × Int × Int × Unit))) g23 => [Res.own g23.1 84 Y84 o20, Res.own g23.2 9 .str r2]) (fun k19 h => ?_) fun o20 g23 h => ?_
   ·refine zb <| zs <| zu <| q 2 [(20, .one (.raw (.slice none 0 0)) g17.2), (21, ti s14.1)] [4,5,6] rfl <| iE h fun hc h => r_expose 1 rfl (by first | omega | (simp only [List.length_set] at hc ⊢; omega)) fun b25 c26 hv => ?_
    rw [hv]
    try clear hv
    refine y (y_iraw tabOk rfl rfl hc.1 (by first | exact hc.2 | simpa using hc.2) rfl ty9) rfl ?_
    refine y (y_lown 1 (Int.toNat s14.1) .here rfl rfl (by first | omega | (simp only [List.length_set] at hc ⊢; omega)) (by first | rfl | (simp only [Pth.off, T.size]; omega)) ok_here ty9) rfl ?_
    refine q 2 [(4, .one (.raw (.slice none 0 0)) (.slice (some ⟨b25, 0, none⟩) (List.length r2) c26)), (25, tb ((List.getD r2 (Int.toNat s14.1) []) == []))] [5,6] rfl ?_
    obtain ⟨b27, e, h⟩ := bnd_ex h; rw [e]
    refine bX h fun k28 hk28 h => ?_
    refine r_lsplitk (γ := Unit) 7 (fun (o29 : Bool) _ => [(4, .one (.raw (.slice none 0 0)) (.slice (some ⟨b25, 0, none⟩) (List.length r2) c26)), (5, .one (.raw (.slice none 0 0)) g17.1), (6, ti s14.1), (32, tb o29)]) (fun _ _ => [Res.own g17.1 84 Y84 s14.2, Res.own (.slice (some ⟨b25, 0, none⟩) (List.length r2) c26) 9 .str r2]) k28 r ?_ ?_
    ·rcases Bool.eq_false_or_eq_true b27 with hh | hh
     ·rw [hh] at h ⊢
      rw [if_pos rfl] at h
      exact p 7 [4,5,6,32] rfl <| zn <| r_less [4,5,6,32] rfl <| zt <| by exact r_meetk true () h rfl rfl
     rw [hh] at h ⊢
     rw [if_neg (by decide)] at h
     refine q 2 [(25, tb false), (26, .one (.raw (.slice none 0 0)) (.slice (some ⟨b25, 0, none⟩) (List.length r2) c26)), (27, ti s14.1)] [4,5,6] rfl <| r_guard (by rfl) rfl ?_
     refine iE h fun hc h => y (y_iraw tabOk rfl rfl hc.1 (by first | exact hc.2 | simpa using hc.2) rfl ty9) rfl ?_
     refine r_guard (by rfl) rfl ?_
     refine y (y_lown 1 (Int.toNat s14.1) .here rfl rfl (by first | omega | (simp only [List.length_set] at hc ⊢; omega)) (by first | rfl | (simp only [Pth.off, T.size]; omega)) ok_here ty9) rfl ?_
     refine r_guard (by rfl) rfl ?_
     refine iE h fun hc h => y (y_byte tabOk rfl rfl hc.1 hc.2 rfl) rfl ?_
     exact q 2 [(32, tb ((List.getD (List.getD r2 (Int.toNat s14.1) []) 0 0) == 35))] [4,5,6] rfl <| zn <| r_less [4,5,6,32] rfl <| zt <| by exact r_meetk ((List.getD (List.getD r2 (Int.toNat s14.1) []) 0 0) == 35) () h rfl rfl
    intro o29 _ h
    rw [← hk28] at h
    try dsimp only at h
    refine za <| rI h rfl (fun hc h => zx <| ze <| zq <| zt <| r_less [4,5,6] rfl <| by exact r_meetk s14.2 (g17.1, (.slice (some ⟨b25, 0, none⟩) (List.length r2) c26)) h rfl rfl) fun hc h => zy <| q 2 [(34, .one (.raw (.slice none 0 0)) (.slice (some ⟨b25, 0, none⟩) (List.length r2) c26)), (35, ti s14.1)] [4,5,6] rfl <| iE h fun hc h => y (y_iraw tabOk rfl rfl hc.1 (by first | exact hc.2 | simpa using hc.2) rfl ty9) rfl ?_
    refine y (y_lown 1 (Int.toNat s14.1) .here rfl rfl (by first | omega | (simp only [List.length_set] at hc ⊢; omega)) (by first | rfl | (simp only [Pth.off, T.size]; omega)) ok_here ty9) rfl ?_
    refine cB h fun r34 hr34 h => rc [] (escrowref25_words_ok _ _ hr34) (by kernel_rfl) rfl rfl rfl fun v35 => q 5 [(7, .one (.raw (.slice none 0 0)) (tupv v35 0)), (8, tb r34.2)] [4,5,6] rfl <| za <| zs <| zu <| q 2 [(42, tb (!r34.2))] [4,5,6,7] rfl <| za <| rI h rfl (fun hc h => ?_) fun hc h => ?_
    ·refine zu <| p 2 [2,3] rfl <| zf <| zT <| zB <| zT <| zT <| zB <| zT <| r_nilown (.slice none 0 0) rfl 84 Y84 ?_
     cases h
     exact r_rets (rs := [.tmp 2, .tmp 3]) rfl (.cons (.tmp rfl) (.cons (.tmp rfl) (.nil))) rfl (fun _ vs g => by cases g with | cons h0 g => cases g with | cons h1 g => cases g; exact ⟨_, rfl, .cons (raw_self h0) (.cons h1 (.nil))⟩) (fun _ vs g => by cases g with | cons h0 g => cases g with | cons h1 g => cases g; rw [raw_eq h0]; exact (.cons_cons _ (.cons _ (.cons _ (.cons _ .slnil)))))
    refine zy <| p 1 [4,5,6,44] rfl <| r_freeze (i := 0) (k := 44) rfl rfl ?_
    refine cB h fun r36 hr36 h => r_calls (escrowref25_command_ok _ _ hr36) (by kernel_rfl) rfl rfl <| q 3 [(46, .one Y84 r36.1), (47, tb r36.2)] [4,5,6] rfl <| r_alloc (t := Y84) rfl zf84 rfl fun b37 => st 0 .here ty84 rfl rfl rfl rfl trivial <| q 1 [(8, tb r36.2), (9, ptr b37 0)] [4,5,6] rfl <| za <| zs <| zu <| q 2 [(49, tb (!r36.2))] [4,5,6,9] rfl <| za <| rI h rfl (fun hc h => ?_) fun hc h => ?_
    ·refine zu <| p 2 [2,3] rfl <| zf <| zT <| zB <| zT <| zT <| zB <| zT <| r_nilown (.slice none 0 0) rfl 84 Y84 ?_
     cases h
     exact r_rets (rs := [.tmp 2, .tmp 3]) rfl (.cons (.tmp rfl) (.cons (.tmp rfl) (.nil))) rfl (fun _ vs g => by cases g with | cons h0 g => cases g with | cons h1 g => cases g; exact ⟨_, rfl, .cons (raw_self h0) (.cons h1 (.nil))⟩) (fun _ vs g => by cases g with | cons h0 g => cases g with | cons h1 g => cases g; rw [raw_eq h0]; exact (.cons_cons _ (.cons _ (.cons _ (.cons _ .slnil)))))
    refine zk <| zt <| zr <| q 1 [(50, .one (.raw (.slice none 0 0)) g17.1)] [4,6,9] rfl <| yl 0 .here ty84 rfl rfl rfl trivial rfl <| r_lits (B := 320) tabOk rfl el84 rfl rfl rfl (.cons rfl .nil) rfl fun v38 => ?_
    refine iE h fun hc h => r_append (B := 320) tabOk 2 rfl rfl (src_own 0 rfl rfl) rfl el84 rfl rfl hc rfl fun v39 => ?_
    exact pk [1,1,1] rfl <| p 1 [4,5,6] rfl <| zn <| zi <| zt <| pk [1,1] rfl <| r_less [4,5,6] rfl <| by exact r_meetk (s14.2 ++ [r36.1]) (v39, (.slice (some ⟨b25, 0, none⟩) (List.length r2) c26)) h rfl rfl
   refine zr <| q 3 [(4, .one (.raw (.slice none 0 0)) g23.2), (5, .one (.raw (.slice none 0 0)) g23.1), (6, ti (IntKind.wrap .i64 (s14.1 + 1)))] [] rfl ?_
   obtain ⟨i24, e, h⟩ := bnd_ex h; rw [e]
   exact za <| r_less [4,5,6] rfl <| by exact r_backg (i24, o20) (g23.1, g23.2) (Nat.lt_succ_self _) h rfl rfl
  exact zx <| ze <| ze <| zq <| zt <| r_less [5] rfl <| by exact r_meetk s14.2 (g17.1, g17.2) h rfl rfl
 refine zu <| q 3 [(2, .one (.raw (.slice none 0 0)) g8.1), (3, ti 0)] [] rfl <| zf ?_
 cases h
 exact r_rets (rs := [.tmp 2, .tmp 3]) rfl (.cons (.tmp rfl) (.cons (.tmp rfl) (.nil))) rfl (fun _ vs g => by cases g with | cons h0 g => cases g with | cons h1 g => cases g; exact ⟨_, rfl, .cons (raw_self h0) (.cons h1 (.nil))⟩) (fun _ vs g => by cases g with | cons h0 g => cases g with | cons h1 g => cases g; rw [raw_eq h0]; exact (.cons_cons _ (.cons _ .slnil)))

theorem escrowlaw25_fates_ok (a0 : List (List Int × Int × Int × List Int × Unit)) (r : (List (List Int × Int × Int × List Int × Unit))) (h : escrowlaw25_fates a0 = some r) : Fn Tryd.prog 34 [.one (.sl 61 Y61) a0] [] (fun v => .one (.raw (.slice none 0 0)) v) (fun v => [Res.own v 61 Y61 r]) := by
 unfold escrowlaw25_fates at h
 refine enter Tryd.func34 rfl 7 rfl rfl fun F => ?_
 refine zu <| p 1 [0] rfl <| zz <| p 1 [0,3] rfl <| r_nilown (.slice none 0 0) rfl 61 Y61 ?_
 refine zz <| p 2 [4,5] rfl <| iE h fun hc h => r_append (B := 48) tabOk 0 rfl rfl (src_sl rfl) rfl el61 rfl rfl hc rfl fun v1 => ?_
 refine p 1 [2] rfl <| zf ?_
 cases h
 exact r_ret1 rfl (.tmp rfl) (fun _ _ g => holds_raw.2 ⟨rfl, by rw [(holds_raw.1 g).1]; exact (holds_raw.1 g).2⟩) (fun _ _ g => by obtain ⟨rfl, _⟩ := holds_raw.1 g; exact (.cons_cons _ .slnil))

theorem escrowlaw25_own_ok (a0 : List (Int × (Int × Int × List (List (Int)) × List (List (Int)) × Int × Int × Unit) × (Int × Int × (Int × Int × Int × Int × List (Int) × List Int × List Int × (List (List Int × Int × Int × List Int × Unit)) × Unit) × Unit) × Int × Int × Unit)) (r : (List (Int × (Int × Int × List (List (Int)) × List (List (Int)) × Int × Int × Unit) × (Int × Int × (Int × Int × Int × Int × List (Int) × List Int × List Int × (List (List Int × Int × Int × List Int × Unit)) × Unit) × Unit) × Int × Int × Unit))) (h : escrowlaw25_own a0 = some r) : Fn Tryd.prog 14 [.one (.sl 84 Y84) a0] [] (fun v => .one (.raw (.slice none 0 0)) v) (fun v => [Res.own v 55 Y55 r]) := by
 unfold escrowlaw25_own at h
 refine enter Tryd.func14 rfl 72 rfl rfl fun F => ?_
 refine zu <| p 1 [0] rfl <| zz <| p 1 [0,3] rfl <| r_nilown (.slice none 0 0) rfl 55 Y55 ?_
 refine za <| jK h (γ := Value) (fun (o2 : (List (Int × (Int × Int × List (List (Int)) × List (List (Int)) × Int × Int × Unit) × (Int × Int × (Int × Int × Int × Int × List (Int) × List Int × List Int × (List (List Int × Int × Int × List Int × Unit)) × Unit) × Unit) × Int × Int × Unit))) g3 => [(3, .one (.raw (.slice none 0 0)) g3)]) (fun (o2 : (List (Int × (Int × Int × List (List (Int)) × List (List (Int)) × Int × Int × Unit) × (Int × Int × (Int × Int × Int × Int × List (Int) × List Int × List Int × (List (List Int × Int × Int × List Int × Unit)) × Unit) × Unit) × Int × Int × Unit))) g3 => [Res.own g3 55 Y55 o2]) (fun k1 h => ?_) fun o2 g3 h => ?_
 ·refine zu <| p 1 [0,3,4] rfl <| za <| zb <| r_less [0,3,4] rfl <| r_loopg (γ := Value) (fun (s7 : Int × (List (Int × (Int × Int × List (List (Int)) × List (List (Int)) × Int × Int × Unit) × (Int × Int × (Int × Int × Int × Int × List (Int) × List Int × List Int × (List (List Int × Int × Int × List Int × Unit)) × Unit) × Unit) × Int × Int × Unit))) g8 => [(0, .one (.sl 84 Y84) a0), (3, .one (.raw (.slice none 0 0)) g8), (4, ti s7.1)]) (fun (s7 : Int × (List (Int × (Int × Int × List (List (Int)) × List (List (Int)) × Int × Int × Unit) × (Int × Int × (Int × Int × Int × Int × List (Int) × List Int × List Int × (List (List Int × Int × Int × List Int × Unit)) × Unit) × Unit) × Int × Int × Unit))) g8 => [Res.own g8 55 Y55 s7.2]) (escrowlaw25_own_l0 a0 k1) (0, []) (.slice none 0 0) h rfl rfl ?_
  clear h
  intro m9 s7 g8 h
  cases m9 with
  | zero => cases h
  | succ m9 =>
  simp only [escrowlaw25_own_l0] at h
  refine zs <| zu <| q 4 [(3, .one (.raw (.slice none 0 0)) g8), (4, ti s7.1), (11, tb (decide (s7.1 < (List.length a0 : Int))))] [0] rfl <| za <| rI h rfl (fun hc h => ?_) fun hc h => ?_
  ·refine zk <| zt <| zs <| zb <| zu <| q 2 [(14, .one (.sl 84 Y84) a0), (15, ti s7.1)] [0,3,4] rfl <| iE h fun hc h => y (y_iref tabOk rfl rfl hc.1 hc.2 rfl ty84) rfl ?_
   refine y (y_ref rfl ty84) rfl ?_
   refine r_alloc (t := Y84) rfl zf84 rfl fun b10 => st 0 .here ty84 rfl rfl rfl rfl trivial <| zz <| p 1 [0,3,4,5,18] rfl <| yl 0 ((.snd (.fst .here))) ty79 rfl rfl rfl trivial rfl <| r_alloc (t := Y79) rfl zf79 rfl fun b11 => st 0 .here ty79 rfl rfl rfl rfl trivial <| zz <| p 2 [0,3,4,5,6,21] rfl <| yl 1 ((.snd (.snd (.fst ((.snd (.snd (.fst .here)))))))) ty80 rfl rfl rfl trivial rfl <| r_alloc (t := Y80) rfl zf80 rfl fun b12 => st 0 .here ty80 rfl rfl rfl rfl trivial <| za <| h_start (S := AllIs [VarIs b10 84 Y84 (List.getD a0 (Int.toNat s7.1) (0, (0, 0, (List.replicate 2 ((List.replicate 32 (0 : Int)) : List (Int))), (List.replicate 2 ((List.replicate 32 (0 : Int)) : List (Int))), 0, 0, ()), (0, 0, (0, 0, 0, 0, (List.replicate 32 (0 : Int)), [], [], [], ()), ()), 0, 0, ())), VarIs b11 79 Y79 (List.getD a0 (Int.toNat s7.1) (0, (0, 0, (List.replicate 2 ((List.replicate 32 (0 : Int)) : List (Int))), (List.replicate 2 ((List.replicate 32 (0 : Int)) : List (Int))), 0, 0, ()), (0, 0, (0, 0, 0, 0, (List.replicate 32 (0 : Int)), [], [], [], ()), ()), 0, 0, ())).2.1, VarIs b12 80 Y80 ((List.getD a0 (Int.toNat s7.1) (0, (0, 0, (List.replicate 2 ((List.replicate 32 (0 : Int)) : List (Int))), (List.replicate 2 ((List.replicate 32 (0 : Int)) : List (Int))), 0, 0, ()), (0, 0, (0, 0, 0, 0, (List.replicate 32 (0 : Int)), [], [], [], ()), ()), 0, 0, ())).2.2.1).2.2.1]) (by kernel_rfl) ?_
   refine h_take (i := 0) (t := .one (.raw (.slice none 0 0)) g8) (blind_block (blind_then (blind_then (blind_block (blind_then blind_body))))) rfl (by kernel_rfl) (by kernel_rfl) (by kernel_rfl) (allis_cons (var_is 2 rfl) (allis_cons (var_is 1 rfl) (allis_cons (var_is 0 rfl) allis_nil))) (y_pure tabOk rfl) rfl ?_
   refine h_take (i := 1) (t := ptr b10 0) (blind_block (blind_then (blind_then (blind_block (blind_then blind_body))))) rfl (by kernel_rfl) (by kernel_rfl) (by kernel_rfl) (allis_cons (var_is 2 rfl) (allis_cons (var_is 1 rfl) (allis_cons (var_is 0 rfl) allis_nil))) (y_pure tabOk rfl) rfl ?_
   refine h_take (i := 2) (t := ti ((List.getD a0 (Int.toNat s7.1) (0, (0, 0, (List.replicate 2 ((List.replicate 32 (0 : Int)) : List (Int))), (List.replicate 2 ((List.replicate 32 (0 : Int)) : List (Int))), 0, 0, ()), (0, 0, (0, 0, 0, 0, (List.replicate 32 (0 : Int)), [], [], [], ()), ()), 0, 0, ())).1)) (blind_block (blind_then (blind_then (blind_block (blind_then blind_body))))) rfl (by kernel_rfl) (by kernel_rfl) (by kernel_rfl) (allis_cons (var_is 2 rfl) (allis_cons (var_is 1 rfl) (allis_cons (var_is 0 rfl) allis_nil))) (y_held (S := fun w => AllIs [VarIs b10 84 Y84 (List.getD a0 (Int.toNat s7.1) (0, (0, 0, (List.replicate 2 ((List.replicate 32 (0 : Int)) : List (Int))), (List.replicate 2 ((List.replicate 32 (0 : Int)) : List (Int))), 0, 0, ()), (0, 0, (0, 0, 0, 0, (List.replicate 32 (0 : Int)), [], [], [], ()), ()), 0, 0, ())), VarIs b11 79 Y79 (List.getD a0 (Int.toNat s7.1) (0, (0, 0, (List.replicate 2 ((List.replicate 32 (0 : Int)) : List (Int))), (List.replicate 2 ((List.replicate 32 (0 : Int)) : List (Int))), 0, 0, ()), (0, 0, (0, 0, 0, 0, (List.replicate 32 (0 : Int)), [], [], [], ()), ()), 0, 0, ())).2.1, VarIs b12 80 Y80 ((List.getD a0 (Int.toNat s7.1) (0, (0, 0, (List.replicate 2 ((List.replicate 32 (0 : Int)) : List (Int))), (List.replicate 2 ((List.replicate 32 (0 : Int)) : List (Int))), 0, 0, ()), (0, 0, (0, 0, 0, 0, (List.replicate 32 (0 : Int)), [], [], [], ()), ()), 0, 0, ())).2.2.1).2.2.1] w) (allis_at 0 rfl) 2 ((.fst .here)) rfl rfl rfl (by first | rfl | (simp only [Pth.off, T.size]; omega)) (ok_fst ok_here) ty3) rfl ?_
   refine h_take (i := 3) (t := ptr b11 0) (blind_block (blind_then (blind_then (blind_block (blind_then blind_body))))) rfl (by kernel_rfl) (by kernel_rfl) (by kernel_rfl) (allis_cons (var_is 2 rfl) (allis_cons (var_is 1 rfl) (allis_cons (var_is 0 rfl) allis_nil))) (y_pure tabOk rfl) rfl ?_
   refine h_take (i := 4) (t := ti (((List.getD a0 (Int.toNat s7.1) (0, (0, 0, (List.replicate 2 ((List.replicate 32 (0 : Int)) : List (Int))), (List.replicate 2 ((List.replicate 32 (0 : Int)) : List (Int))), 0, 0, ()), (0, 0, (0, 0, 0, 0, (List.replicate 32 (0 : Int)), [], [], [], ()), ()), 0, 0, ())).2.1).1)) (blind_block (blind_then (blind_then (blind_block (blind_then blind_body))))) rfl (by kernel_rfl) (by kernel_rfl) (by kernel_rfl) (allis_cons (var_is 2 rfl) (allis_cons (var_is 1 rfl) (allis_cons (var_is 0 rfl) allis_nil))) (y_held (S := fun w => AllIs [VarIs b10 84 Y84 (List.getD a0 (Int.toNat s7.1) (0, (0, 0, (List.replicate 2 ((List.replicate 32 (0 : Int)) : List (Int))), (List.replicate 2 ((List.replicate 32 (0 : Int)) : List (Int))), 0, 0, ()), (0, 0, (0, 0, 0, 0, (List.replicate 32 (0 : Int)), [], [], [], ()), ()), 0, 0, ())), VarIs b11 79 Y79 (List.getD a0 (Int.toNat s7.1) (0, (0, 0, (List.replicate 2 ((List.replicate 32 (0 : Int)) : List (Int))), (List.replicate 2 ((List.replicate 32 (0 : Int)) : List (Int))), 0, 0, ()), (0, 0, (0, 0, 0, 0, (List.replicate 32 (0 : Int)), [], [], [], ()), ()), 0, 0, ())).2.1, VarIs b12 80 Y80 ((List.getD a0 (Int.toNat s7.1) (0, (0, 0, (List.replicate 2 ((List.replicate 32 (0 : Int)) : List (Int))), (List.replicate 2 ((List.replicate 32 (0 : Int)) : List (Int))), 0, 0, ()), (0, 0, (0, 0, 0, 0, (List.replicate 32 (0 : Int)), [], [], [], ()), ()), 0, 0, ())).2.2.1).2.2.1] w) (allis_at 1 rfl) 1 ((.fst .here)) rfl rfl rfl (by first | rfl | (simp only [Pth.off, T.size]; omega)) (ok_fst ok_here) ty2) rfl ?_
   refine h_take (i := 5) (t := ptr b11 1) (blind_block (blind_then (blind_then (blind_block (blind_then blind_body))))) rfl (by kernel_rfl) (by kernel_rfl) (by kernel_rfl) (allis_cons (var_is 2 rfl) (allis_cons (var_is 1 rfl) (allis_cons (var_is 0 rfl) allis_nil))) (y_pure tabOk rfl) rfl ?_
   refine h_take (i := 6) (t := ti (((List.getD a0 (Int.toNat s7.1) (0, (0, 0, (List.replicate 2 ((List.replicate 32 (0 : Int)) : List (Int))), (List.replicate 2 ((List.replicate 32 (0 : Int)) : List (Int))), 0, 0, ()), (0, 0, (0, 0, 0, 0, (List.replicate 32 (0 : Int)), [], [], [], ()), ()), 0, 0, ())).2.1).2.1)) (blind_block (blind_then (blind_then (blind_block (blind_then blind_body))))) rfl (by kernel_rfl) (by kernel_rfl) (by kernel_rfl) (allis_cons (var_is 2 rfl) (allis_cons (var_is 1 rfl) (allis_cons (var_is 0 rfl) allis_nil))) (y_held (S := fun w => AllIs [VarIs b10 84 Y84 (List.getD a0 (Int.toNat s7.1) (0, (0, 0, (List.replicate 2 ((List.replicate 32 (0 : Int)) : List (Int))), (List.replicate 2 ((List.replicate 32 (0 : Int)) : List (Int))), 0, 0, ()), (0, 0, (0, 0, 0, 0, (List.replicate 32 (0 : Int)), [], [], [], ()), ()), 0, 0, ())), VarIs b11 79 Y79 (List.getD a0 (Int.toNat s7.1) (0, (0, 0, (List.replicate 2 ((List.replicate 32 (0 : Int)) : List (Int))), (List.replicate 2 ((List.replicate 32 (0 : Int)) : List (Int))), 0, 0, ()), (0, 0, (0, 0, 0, 0, (List.replicate 32 (0 : Int)), [], [], [], ()), ()), 0, 0, ())).2.1, VarIs b12 80 Y80 ((List.getD a0 (Int.toNat s7.1) (0, (0, 0, (List.replicate 2 ((List.replicate 32 (0 : Int)) : List (Int))), (List.replicate 2 ((List.replicate 32 (0 : Int)) : List (Int))), 0, 0, ()), (0, 0, (0, 0, 0, 0, (List.replicate 32 (0 : Int)), [], [], [], ()), ()), 0, 0, ())).2.2.1).2.2.1] w) (allis_at 1 rfl) 1 ((.snd (.fst .here))) rfl rfl rfl (by first | rfl | (simp only [Pth.off, T.size]; omega)) (ok_snd (ok_fst ok_here)) ty2) rfl ?_
   refine h_take (i := 7) (t := ptr b11 2) (blind_block (blind_then (blind_then (blind_block (blind_then blind_body))))) rfl (by kernel_rfl) (by kernel_rfl) (by kernel_rfl) (allis_cons (var_is 2 rfl) (allis_cons (var_is 1 rfl) (allis_cons (var_is 0 rfl) allis_nil))) (y_pure tabOk rfl) rfl ?_
   refine h_take (i := 8) (t := .one (.arr 2 (.arr 32 (.int .u8))) (((List.getD a0 (Int.toNat s7.1) (0, (0, 0, (List.replicate 2 ((List.replicate 32 (0 : Int)) : List (Int))), (List.replicate 2 ((List.replicate 32 (0 : Int)) : List (Int))), 0, 0, ()), (0, 0, (0, 0, 0, 0, (List.replicate 32 (0 : Int)), [], [], [], ()), ()), 0, 0, ())).2.1).2.2.1)) (blind_block (blind_then (blind_then (blind_block (blind_then blind_body))))) rfl (by kernel_rfl) (by kernel_rfl) (by kernel_rfl) (allis_cons (var_is 2 rfl) (allis_cons (var_is 1 rfl) (allis_cons (var_is 0 rfl) allis_nil))) (y_held (S := fun w => AllIs [VarIs b10 84 Y84 (List.getD a0 (Int.toNat s7.1) (0, (0, 0, (List.replicate 2 ((List.replicate 32 (0 : Int)) : List (Int))), (List.replicate 2 ((List.replicate 32 (0 : Int)) : List (Int))), 0, 0, ()), (0, 0, (0, 0, 0, 0, (List.replicate 32 (0 : Int)), [], [], [], ()), ()), 0, 0, ())), VarIs b11 79 Y79 (List.getD a0 (Int.toNat s7.1) (0, (0, 0, (List.replicate 2 ((List.replicate 32 (0 : Int)) : List (Int))), (List.replicate 2 ((List.replicate 32 (0 : Int)) : List (Int))), 0, 0, ()), (0, 0, (0, 0, 0, 0, (List.replicate 32 (0 : Int)), [], [], [], ()), ()), 0, 0, ())).2.1, VarIs b12 80 Y80 ((List.getD a0 (Int.toNat s7.1) (0, (0, 0, (List.replicate 2 ((List.replicate 32 (0 : Int)) : List (Int))), (List.replicate 2 ((List.replicate 32 (0 : Int)) : List (Int))), 0, 0, ()), (0, 0, (0, 0, 0, 0, (List.replicate 32 (0 : Int)), [], [], [], ()), ()), 0, 0, ())).2.2.1).2.2.1] w) (allis_at 1 rfl) 1 ((.snd (.snd (.fst .here)))) rfl rfl rfl (by first | rfl | (simp only [Pth.off, T.size]; omega)) (ok_snd (ok_snd (ok_fst ok_here))) ty51) rfl ?_
   refine h_take (i := 9) (t := ptr b11 66) (blind_block (blind_then (blind_then (blind_block (blind_then blind_body))))) rfl (by kernel_rfl) (by kernel_rfl) (by kernel_rfl) (allis_cons (var_is 2 rfl) (allis_cons (var_is 1 rfl) (allis_cons (var_is 0 rfl) allis_nil))) (y_pure tabOk rfl) rfl ?_
   refine h_take (i := 10) (t := .one (.arr 2 (.arr 32 (.int .u8))) (((List.getD a0 (Int.toNat s7.1) (0, (0, 0, (List.replicate 2 ((List.replicate 32 (0 : Int)) : List (Int))), (List.replicate 2 ((List.replicate 32 (0 : Int)) : List (Int))), 0, 0, ()), (0, 0, (0, 0, 0, 0, (List.replicate 32 (0 : Int)), [], [], [], ()), ()), 0, 0, ())).2.1).2.2.2.1)) (blind_block (blind_then (blind_then (blind_block (blind_then blind_body))))) rfl (by kernel_rfl) (by kernel_rfl) (by kernel_rfl) (allis_cons (var_is 2 rfl) (allis_cons (var_is 1 rfl) (allis_cons (var_is 0 rfl) allis_nil))) (y_held (S := fun w => AllIs [VarIs b10 84 Y84 (List.getD a0 (Int.toNat s7.1) (0, (0, 0, (List.replicate 2 ((List.replicate 32 (0 : Int)) : List (Int))), (List.replicate 2 ((List.replicate 32 (0 : Int)) : List (Int))), 0, 0, ()), (0, 0, (0, 0, 0, 0, (List.replicate 32 (0 : Int)), [], [], [], ()), ()), 0, 0, ())), VarIs b11 79 Y79 (List.getD a0 (Int.toNat s7.1) (0, (0, 0, (List.replicate 2 ((List.replicate 32 (0 : Int)) : List (Int))), (List.replicate 2 ((List.replicate 32 (0 : Int)) : List (Int))), 0, 0, ()), (0, 0, (0, 0, 0, 0, (List.replicate 32 (0 : Int)), [], [], [], ()), ()), 0, 0, ())).2.1, VarIs b12 80 Y80 ((List.getD a0 (Int.toNat s7.1) (0, (0, 0, (List.replicate 2 ((List.replicate 32 (0 : Int)) : List (Int))), (List.replicate 2 ((List.replicate 32 (0 : Int)) : List (Int))), 0, 0, ()), (0, 0, (0, 0, 0, 0, (List.replicate 32 (0 : Int)), [], [], [], ()), ()), 0, 0, ())).2.2.1).2.2.1] w) (allis_at 1 rfl) 1 ((.snd (.snd (.snd (.fst .here))))) rfl rfl rfl (by first | rfl | (simp only [Pth.off, T.size]; omega)) (ok_snd (ok_snd (ok_snd (ok_fst ok_here)))) ty51) rfl ?_
   refine h_take (i := 11) (t := ptr b11 130) (blind_block (blind_then (blind_then (blind_block (blind_then blind_body))))) rfl (by kernel_rfl) (by kernel_rfl) (by kernel_rfl) (allis_cons (var_is 2 rfl) (allis_cons (var_is 1 rfl) (allis_cons (var_is 0 rfl) allis_nil))) (y_pure tabOk rfl) rfl ?_
   refine h_take (i := 12) (t := ti (((List.getD a0 (Int.toNat s7.1) (0, (0, 0, (List.replicate 2 ((List.replicate 32 (0 : Int)) : List (Int))), (List.replicate 2 ((List.replicate 32 (0 : Int)) : List (Int))), 0, 0, ()), (0, 0, (0, 0, 0, 0, (List.replicate 32 (0 : Int)), [], [], [], ()), ()), 0, 0, ())).2.1).2.2.2.2.1)) (blind_block (blind_then (blind_then (blind_block (blind_then blind_body))))) rfl (by kernel_rfl) (by kernel_rfl) (by kernel_rfl) (allis_cons (var_is 2 rfl) (allis_cons (var_is 1 rfl) (allis_cons (var_is 0 rfl) allis_nil))) (y_held (S := fun w => AllIs [VarIs b10 84 Y84 (List.getD a0 (Int.toNat s7.1) (0, (0, 0, (List.replicate 2 ((List.replicate 32 (0 : Int)) : List (Int))), (List.replicate 2 ((List.replicate 32 (0 : Int)) : List (Int))), 0, 0, ()), (0, 0, (0, 0, 0, 0, (List.replicate 32 (0 : Int)), [], [], [], ()), ()), 0, 0, ())), VarIs b11 79 Y79 (List.getD a0 (Int.toNat s7.1) (0, (0, 0, (List.replicate 2 ((List.replicate 32 (0 : Int)) : List (Int))), (List.replicate 2 ((List.replicate 32 (0 : Int)) : List (Int))), 0, 0, ()), (0, 0, (0, 0, 0, 0, (List.replicate 32 (0 : Int)), [], [], [], ()), ()), 0, 0, ())).2.1, VarIs b12 80 Y80 ((List.getD a0 (Int.toNat s7.1) (0, (0, 0, (List.replicate 2 ((List.replicate 32 (0 : Int)) : List (Int))), (List.replicate 2 ((List.replicate 32 (0 : Int)) : List (Int))), 0, 0, ()), (0, 0, (0, 0, 0, 0, (List.replicate 32 (0 : Int)), [], [], [], ()), ()), 0, 0, ())).2.2.1).2.2.1] w) (allis_at 1 rfl) 1 ((.snd (.snd (.snd (.snd (.fst .here)))))) rfl rfl rfl (by first | rfl | (simp only [Pth.off, T.size]; omega)) (ok_snd (ok_snd (ok_snd (ok_snd (ok_fst ok_here))))) ty3) rfl ?_
   refine h_take (i := 13) (t := ptr b11 131) (blind_block (blind_then (blind_then (blind_block (blind_then blind_body))))) rfl (by kernel_rfl) (by kernel_rfl) (by kernel_rfl) (allis_cons (var_is 2 rfl) (allis_cons (var_is 1 rfl) (allis_cons (var_is 0 rfl) allis_nil))) (y_pure tabOk rfl) rfl ?_
   refine h_take (i := 14) (t := ti (((List.getD a0 (Int.toNat s7.1) (0, (0, 0, (List.replicate 2 ((List.replicate 32 (0 : Int)) : List (Int))), (List.replicate 2 ((List.replicate 32 (0 : Int)) : List (Int))), 0, 0, ()), (0, 0, (0, 0, 0, 0, (List.replicate 32 (0 : Int)), [], [], [], ()), ()), 0, 0, ())).2.1).2.2.2.2.2.1)) (blind_block (blind_then (blind_then (blind_block (blind_then blind_body))))) rfl (by kernel_rfl) (by kernel_rfl) (by kernel_rfl) (allis_cons (var_is 2 rfl) (allis_cons (var_is 1 rfl) (allis_cons (var_is 0 rfl) allis_nil))) (y_held (S := fun w => AllIs [VarIs b10 84 Y84 (List.getD a0 (Int.toNat s7.1) (0, (0, 0, (List.replicate 2 ((List.replicate 32 (0 : Int)) : List (Int))), (List.replicate 2 ((List.replicate 32 (0 : Int)) : List (Int))), 0, 0, ()), (0, 0, (0, 0, 0, 0, (List.replicate 32 (0 : Int)), [], [], [], ()), ()), 0, 0, ())), VarIs b11 79 Y79 (List.getD a0 (Int.toNat s7.1) (0, (0, 0, (List.replicate 2 ((List.replicate 32 (0 : Int)) : List (Int))), (List.replicate 2 ((List.replicate 32 (0 : Int)) : List (Int))), 0, 0, ()), (0, 0, (0, 0, 0, 0, (List.replicate 32 (0 : Int)), [], [], [], ()), ()), 0, 0, ())).2.1, VarIs b12 80 Y80 ((List.getD a0 (Int.toNat s7.1) (0, (0, 0, (List.replicate 2 ((List.replicate 32 (0 : Int)) : List (Int))), (List.replicate 2 ((List.replicate 32 (0 : Int)) : List (Int))), 0, 0, ()), (0, 0, (0, 0, 0, 0, (List.replicate 32 (0 : Int)), [], [], [], ()), ()), 0, 0, ())).2.2.1).2.2.1] w) (allis_at 1 rfl) 1 ((.snd (.snd (.snd (.snd (.snd (.fst .here))))))) rfl rfl rfl (by first | rfl | (simp only [Pth.off, T.size]; omega)) (ok_snd (ok_snd (ok_snd (ok_snd (ok_snd (ok_fst ok_here)))))) ty3) rfl ?_
   refine h_take (i := 15) (t := .one Y53 (((List.getD a0 (Int.toNat s7.1) (0, (0, 0, (List.replicate 2 ((List.replicate 32 (0 : Int)) : List (Int))), (List.replicate 2 ((List.replicate 32 (0 : Int)) : List (Int))), 0, 0, ()), (0, 0, (0, 0, 0, 0, (List.replicate 32 (0 : Int)), [], [], [], ()), ()), 0, 0, ())).2.1).1, ((List.getD a0 (Int.toNat s7.1) (0, (0, 0, (List.replicate 2 ((List.replicate 32 (0 : Int)) : List (Int))), (List.replicate 2 ((List.replicate 32 (0 : Int)) : List (Int))), 0, 0, ()), (0, 0, (0, 0, 0, 0, (List.replicate 32 (0 : Int)), [], [], [], ()), ()), 0, 0, ())).2.1).2.1, ((List.getD a0 (Int.toNat s7.1) (0, (0, 0, (List.replicate 2 ((List.replicate 32 (0 : Int)) : List (Int))), (List.replicate 2 ((List.replicate 32 (0 : Int)) : List (Int))), 0, 0, ()), (0, 0, (0, 0, 0, 0, (List.replicate 32 (0 : Int)), [], [], [], ()), ()), 0, 0, ())).2.1).2.2.1, ((List.getD a0 (Int.toNat s7.1) (0, (0, 0, (List.replicate 2 ((List.replicate 32 (0 : Int)) : List (Int))), (List.replicate 2 ((List.replicate 32 (0 : Int)) : List (Int))), 0, 0, ()), (0, 0, (0, 0, 0, 0, (List.replicate 32 (0 : Int)), [], [], [], ()), ()), 0, 0, ())).2.1).2.2.2.1, ((List.getD a0 (Int.toNat s7.1) (0, (0, 0, (List.replicate 2 ((List.replicate 32 (0 : Int)) : List (Int))), (List.replicate 2 ((List.replicate 32 (0 : Int)) : List (Int))), 0, 0, ()), (0, 0, (0, 0, 0, 0, (List.replicate 32 (0 : Int)), [], [], [], ()), ()), 0, 0, ())).2.1).2.2.2.2.1, ((List.getD a0 (Int.toNat s7.1) (0, (0, 0, (List.replicate 2 ((List.replicate 32 (0 : Int)) : List (Int))), (List.replicate 2 ((List.replicate 32 (0 : Int)) : List (Int))), 0, 0, ()), (0, 0, (0, 0, 0, 0, (List.replicate 32 (0 : Int)), [], [], [], ()), ()), 0, 0, ())).2.1).2.2.2.2.2.1, ())) (blind_block (blind_then (blind_then (blind_block (blind_then blind_body))))) rfl (by kernel_rfl) (by kernel_rfl) (by kernel_rfl) (allis_cons (var_is 2 rfl) (allis_cons (var_is 1 rfl) (allis_cons (var_is 0 rfl) allis_nil))) (y_build rfl zf53 rfl rfl (.cons ((.fst .here)) rfl rfl ok_here (.cons ((.snd (.fst .here))) rfl rfl ok_here (.cons ((.snd (.snd (.fst .here)))) rfl rfl ok_here (.cons ((.snd (.snd (.snd (.fst .here))))) rfl rfl ok_here (.cons ((.snd (.snd (.snd (.snd (.fst .here)))))) rfl rfl ok_here (.cons ((.snd (.snd (.snd (.snd (.snd (.fst .here))))))) rfl rfl ok_here .nil))))))) rfl ?_
   refine h_take (i := 16) (t := ptr b10 133) (blind_block (blind_then (blind_then (blind_block (blind_then blind_body))))) rfl (by kernel_rfl) (by kernel_rfl) (by kernel_rfl) (allis_cons (var_is 2 rfl) (allis_cons (var_is 1 rfl) (allis_cons (var_is 0 rfl) allis_nil))) (y_pure tabOk rfl) rfl ?_
   refine h_take (i := 17) (t := ptr b10 133) (blind_block (blind_then (blind_then (blind_block (blind_then blind_body))))) rfl (by kernel_rfl) (by kernel_rfl) (by kernel_rfl) (allis_cons (var_is 2 rfl) (allis_cons (var_is 1 rfl) (allis_cons (var_is 0 rfl) allis_nil))) (y_pure tabOk rfl) rfl ?_
   refine h_take (i := 18) (t := ti (((List.getD a0 (Int.toNat s7.1) (0, (0, 0, (List.replicate 2 ((List.replicate 32 (0 : Int)) : List (Int))), (List.replicate 2 ((List.replicate 32 (0 : Int)) : List (Int))), 0, 0, ()), (0, 0, (0, 0, 0, 0, (List.replicate 32 (0 : Int)), [], [], [], ()), ()), 0, 0, ())).2.2.1).1)) (blind_block (blind_then (blind_then (blind_block (blind_then blind_body))))) rfl (by kernel_rfl) (by kernel_rfl) (by kernel_rfl) (allis_cons (var_is 2 rfl) (allis_cons (var_is 1 rfl) (allis_cons (var_is 0 rfl) allis_nil))) (y_held (S := fun w => AllIs [VarIs b10 84 Y84 (List.getD a0 (Int.toNat s7.1) (0, (0, 0, (List.replicate 2 ((List.replicate 32 (0 : Int)) : List (Int))), (List.replicate 2 ((List.replicate 32 (0 : Int)) : List (Int))), 0, 0, ()), (0, 0, (0, 0, 0, 0, (List.replicate 32 (0 : Int)), [], [], [], ()), ()), 0, 0, ())), VarIs b11 79 Y79 (List.getD a0 (Int.toNat s7.1) (0, (0, 0, (List.replicate 2 ((List.replicate 32 (0 : Int)) : List (Int))), (List.replicate 2 ((List.replicate 32 (0 : Int)) : List (Int))), 0, 0, ()), (0, 0, (0, 0, 0, 0, (List.replicate 32 (0 : Int)), [], [], [], ()), ()), 0, 0, ())).2.1, VarIs b12 80 Y80 ((List.getD a0 (Int.toNat s7.1) (0, (0, 0, (List.replicate 2 ((List.replicate 32 (0 : Int)) : List (Int))), (List.replicate 2 ((List.replicate 32 (0 : Int)) : List (Int))), 0, 0, ()), (0, 0, (0, 0, 0, 0, (List.replicate 32 (0 : Int)), [], [], [], ()), ()), 0, 0, ())).2.2.1).2.2.1] w) (allis_at 0 rfl) 2 ((.snd (.snd (.fst ((.fst .here)))))) rfl rfl rfl (by first | rfl | (simp only [Pth.off, T.size]; omega)) (ok_snd (ok_snd (ok_fst (ok_fst ok_here)))) ty3) rfl ?_
   refine h_take (i := 19) (t := ptr b10 133) (blind_block (blind_then (blind_then (blind_block (blind_then blind_body))))) rfl (by kernel_rfl) (by kernel_rfl) (by kernel_rfl) (allis_cons (var_is 2 rfl) (allis_cons (var_is 1 rfl) (allis_cons (var_is 0 rfl) allis_nil))) (y_pure tabOk rfl) rfl ?_
   refine h_take (i := 20) (t := ptr b10 134) (blind_block (blind_then (blind_then (blind_block (blind_then blind_body))))) rfl (by kernel_rfl) (by kernel_rfl) (by kernel_rfl) (allis_cons (var_is 2 rfl) (allis_cons (var_is 1 rfl) (allis_cons (var_is 0 rfl) allis_nil))) (y_pure tabOk rfl) rfl ?_
   refine h_take (i := 21) (t := ti (((List.getD a0 (Int.toNat s7.1) (0, (0, 0, (List.replicate 2 ((List.replicate 32 (0 : Int)) : List (Int))), (List.replicate 2 ((List.replicate 32 (0 : Int)) : List (Int))), 0, 0, ()), (0, 0, (0, 0, 0, 0, (List.replicate 32 (0 : Int)), [], [], [], ()), ()), 0, 0, ())).2.2.1).2.1)) (blind_block (blind_then (blind_then (blind_block (blind_then blind_body))))) rfl (by kernel_rfl) (by kernel_rfl) (by kernel_rfl) (allis_cons (var_is 2 rfl) (allis_cons (var_is 1 rfl) (allis_cons (var_is 0 rfl) allis_nil))) (y_held (S := fun w => AllIs [VarIs b10 84 Y84 (List.getD a0 (Int.toNat s7.1) (0, (0, 0, (List.replicate 2 ((List.replicate 32 (0 : Int)) : List (Int))), (List.replicate 2 ((List.replicate 32 (0 : Int)) : List (Int))), 0, 0, ()), (0, 0, (0, 0, 0, 0, (List.replicate 32 (0 : Int)), [], [], [], ()), ()), 0, 0, ())), VarIs b11 79 Y79 (List.getD a0 (Int.toNat s7.1) (0, (0, 0, (List.replicate 2 ((List.replicate 32 (0 : Int)) : List (Int))), (List.replicate 2 ((List.replicate 32 (0 : Int)) : List (Int))), 0, 0, ()), (0, 0, (0, 0, 0, 0, (List.replicate 32 (0 : Int)), [], [], [], ()), ()), 0, 0, ())).2.1, VarIs b12 80 Y80 ((List.getD a0 (Int.toNat s7.1) (0, (0, 0, (List.replicate 2 ((List.replicate 32 (0 : Int)) : List (Int))), (List.replicate 2 ((List.replicate 32 (0 : Int)) : List (Int))), 0, 0, ()), (0, 0, (0, 0, 0, 0, (List.replicate 32 (0 : Int)), [], [], [], ()), ()), 0, 0, ())).2.2.1).2.2.1] w) (allis_at 0 rfl) 2 ((.snd (.snd (.fst ((.snd (.fst .here))))))) rfl rfl rfl (by first | rfl | (simp only [Pth.off, T.size]; omega)) (ok_snd (ok_snd (ok_fst (ok_snd (ok_fst ok_here))))) ty3) rfl ?_
   refine h_take (i := 22) (t := ptr b12 0) (blind_block (blind_then (blind_then (blind_block (blind_then blind_body))))) rfl (by kernel_rfl) (by kernel_rfl) (by kernel_rfl) (allis_cons (var_is 2 rfl) (allis_cons (var_is 1 rfl) (allis_cons (var_is 0 rfl) allis_nil))) (y_pure tabOk rfl) rfl ?_
   refine h_take (i := 23) (t := ti ((((List.getD a0 (Int.toNat s7.1) (0, (0, 0, (List.replicate 2 ((List.replicate 32 (0 : Int)) : List (Int))), (List.replicate 2 ((List.replicate 32 (0 : Int)) : List (Int))), 0, 0, ()), (0, 0, (0, 0, 0, 0, (List.replicate 32 (0 : Int)), [], [], [], ()), ()), 0, 0, ())).2.2.1).2.2.1).1)) (blind_block (blind_then (blind_then (blind_block (blind_then blind_body))))) rfl (by kernel_rfl) (by kernel_rfl) (by kernel_rfl) (allis_cons (var_is 2 rfl) (allis_cons (var_is 1 rfl) (allis_cons (var_is 0 rfl) allis_nil))) (y_held (S := fun w => AllIs [VarIs b10 84 Y84 (List.getD a0 (Int.toNat s7.1) (0, (0, 0, (List.replicate 2 ((List.replicate 32 (0 : Int)) : List (Int))), (List.replicate 2 ((List.replicate 32 (0 : Int)) : List (Int))), 0, 0, ()), (0, 0, (0, 0, 0, 0, (List.replicate 32 (0 : Int)), [], [], [], ()), ()), 0, 0, ())), VarIs b11 79 Y79 (List.getD a0 (Int.toNat s7.1) (0, (0, 0, (List.replicate 2 ((List.replicate 32 (0 : Int)) : List (Int))), (List.replicate 2 ((List.replicate 32 (0 : Int)) : List (Int))), 0, 0, ()), (0, 0, (0, 0, 0, 0, (List.replicate 32 (0 : Int)), [], [], [], ()), ()), 0, 0, ())).2.1, VarIs b12 80 Y80 ((List.getD a0 (Int.toNat s7.1) (0, (0, 0, (List.replicate 2 ((List.replicate 32 (0 : Int)) : List (Int))), (List.replicate 2 ((List.replicate 32 (0 : Int)) : List (Int))), 0, 0, ()), (0, 0, (0, 0, 0, 0, (List.replicate 32 (0 : Int)), [], [], [], ()), ()), 0, 0, ())).2.2.1).2.2.1] w) (allis_at 2 rfl) 0 ((.fst .here)) rfl rfl rfl (by first | rfl | (simp only [Pth.off, T.size]; omega)) (ok_fst ok_here) ty3) rfl ?_
   refine h_take (i := 24) (t := ptr b12 1) (blind_block (blind_then (blind_then (blind_block (blind_then blind_body))))) rfl (by kernel_rfl) (by kernel_rfl) (by kernel_rfl) (allis_cons (var_is 2 rfl) (allis_cons (var_is 1 rfl) (allis_cons (var_is 0 rfl) allis_nil))) (y_pure tabOk rfl) rfl ?_
   refine h_take (i := 25) (t := ti ((((List.getD a0 (Int.toNat s7.1) (0, (0, 0, (List.replicate 2 ((List.replicate 32 (0 : Int)) : List (Int))), (List.replicate 2 ((List.replicate 32 (0 : Int)) : List (Int))), 0, 0, ()), (0, 0, (0, 0, 0, 0, (List.replicate 32 (0 : Int)), [], [], [], ()), ()), 0, 0, ())).2.2.1).2.2.1).2.1)) (blind_block (blind_then (blind_then (blind_block (blind_then blind_body))))) rfl (by kernel_rfl) (by kernel_rfl) (by kernel_rfl) (allis_cons (var_is 2 rfl) (allis_cons (var_is 1 rfl) (allis_cons (var_is 0 rfl) allis_nil))) (y_held (S := fun w => AllIs [VarIs b10 84 Y84 (List.getD a0 (Int.toNat s7.1) (0, (0, 0, (List.replicate 2 ((List.replicate 32 (0 : Int)) : List (Int))), (List.replicate 2 ((List.replicate 32 (0 : Int)) : List (Int))), 0, 0, ()), (0, 0, (0, 0, 0, 0, (List.replicate 32 (0 : Int)), [], [], [], ()), ()), 0, 0, ())), VarIs b11 79 Y79 (List.getD a0 (Int.toNat s7.1) (0, (0, 0, (List.replicate 2 ((List.replicate 32 (0 : Int)) : List (Int))), (List.replicate 2 ((List.replicate 32 (0 : Int)) : List (Int))), 0, 0, ()), (0, 0, (0, 0, 0, 0, (List.replicate 32 (0 : Int)), [], [], [], ()), ()), 0, 0, ())).2.1, VarIs b12 80 Y80 ((List.getD a0 (Int.toNat s7.1) (0, (0, 0, (List.replicate 2 ((List.replicate 32 (0 : Int)) : List (Int))), (List.replicate 2 ((List.replicate 32 (0 : Int)) : List (Int))), 0, 0, ()), (0, 0, (0, 0, 0, 0, (List.replicate 32 (0 : Int)), [], [], [], ()), ()), 0, 0, ())).2.2.1).2.2.1] w) (allis_at 2 rfl) 0 ((.snd (.fst .here))) rfl rfl rfl (by first | rfl | (simp only [Pth.off, T.size]; omega)) (ok_snd (ok_fst ok_here)) ty2) rfl ?_
   refine h_take (i := 26) (t := ptr b12 2) (blind_block (blind_then (blind_then (blind_block (blind_then blind_body))))) rfl (by kernel_rfl) (by kernel_rfl) (by kernel_rfl) (allis_cons (var_is 2 rfl) (allis_cons (var_is 1 rfl) (allis_cons (var_is 0 rfl) allis_nil))) (y_pure tabOk rfl) rfl ?_
   refine h_take (i := 27) (t := ti ((((List.getD a0 (Int.toNat s7.1) (0, (0, 0, (List.replicate 2 ((List.replicate 32 (0 : Int)) : List (Int))), (List.replicate 2 ((List.replicate 32 (0 : Int)) : List (Int))), 0, 0, ()), (0, 0, (0, 0, 0, 0, (List.replicate 32 (0 : Int)), [], [], [], ()), ()), 0, 0, ())).2.2.1).2.2.1).2.2.1)) (blind_block (blind_then (blind_then (blind_block (blind_then blind_body))))) rfl (by kernel_rfl) (by kernel_rfl) (by kernel_rfl) (allis_cons (var_is 2 rfl) (allis_cons (var_is 1 rfl) (allis_cons (var_is 0 rfl) allis_nil))) (y_held (S := fun w => AllIs [VarIs b10 84 Y84 (List.getD a0 (Int.toNat s7.1) (0, (0, 0, (List.replicate 2 ((List.replicate 32 (0 : Int)) : List (Int))), (List.replicate 2 ((List.replicate 32 (0 : Int)) : List (Int))), 0, 0, ()), (0, 0, (0, 0, 0, 0, (List.replicate 32 (0 : Int)), [], [], [], ()), ()), 0, 0, ())), VarIs b11 79 Y79 (List.getD a0 (Int.toNat s7.1) (0, (0, 0, (List.replicate 2 ((List.replicate 32 (0 : Int)) : List (Int))), (List.replicate 2 ((List.replicate 32 (0 : Int)) : List (Int))), 0, 0, ()), (0, 0, (0, 0, 0, 0, (List.replicate 32 (0 : Int)), [], [], [], ()), ()), 0, 0, ())).2.1, VarIs b12 80 Y80 ((List.getD a0 (Int.toNat s7.1) (0, (0, 0, (List.replicate 2 ((List.replicate 32 (0 : Int)) : List (Int))), (List.replicate 2 ((List.replicate 32 (0 : Int)) : List (Int))), 0, 0, ()), (0, 0, (0, 0, 0, 0, (List.replicate 32 (0 : Int)), [], [], [], ()), ()), 0, 0, ())).2.2.1).2.2.1] w) (allis_at 2 rfl) 0 ((.snd (.snd (.fst .here)))) rfl rfl rfl (by first | rfl | (simp only [Pth.off, T.size]; omega)) (ok_snd (ok_snd (ok_fst ok_here))) ty2) rfl ?_
   refine h_take (i := 28) (t := ptr b12 3) (blind_block (blind_then (blind_then (blind_block (blind_then blind_body))))) rfl (by kernel_rfl) (by kernel_rfl) (by kernel_rfl) (allis_cons (var_is 2 rfl) (allis_cons (var_is 1 rfl) (allis_cons (var_is 0 rfl) allis_nil))) (y_pure tabOk rfl) rfl ?_
   refine h_take (i := 29) (t := ti ((((List.getD a0 (Int.toNat s7.1) (0, (0, 0, (List.replicate 2 ((List.replicate 32 (0 : Int)) : List (Int))), (List.replicate 2 ((List.replicate 32 (0 : Int)) : List (Int))), 0, 0, ()), (0, 0, (0, 0, 0, 0, (List.replicate 32 (0 : Int)), [], [], [], ()), ()), 0, 0, ())).2.2.1).2.2.1).2.2.2.1)) (blind_block (blind_then (blind_then (blind_block (blind_then blind_body))))) rfl (by kernel_rfl) (by kernel_rfl) (by kernel_rfl) (allis_cons (var_is 2 rfl) (allis_cons (var_is 1 rfl) (allis_cons (var_is 0 rfl) allis_nil))) (y_held (S := fun w => AllIs [VarIs b10 84 Y84 (List.getD a0 (Int.toNat s7.1) (0, (0, 0, (List.replicate 2 ((List.replicate 32 (0 : Int)) : List (Int))), (List.replicate 2 ((List.replicate 32 (0 : Int)) : List (Int))), 0, 0, ()), (0, 0, (0, 0, 0, 0, (List.replicate 32 (0 : Int)), [], [], [], ()), ()), 0, 0, ())), VarIs b11 79 Y79 (List.getD a0 (Int.toNat s7.1) (0, (0, 0, (List.replicate 2 ((List.replicate 32 (0 : Int)) : List (Int))), (List.replicate 2 ((List.replicate 32 (0 : Int)) : List (Int))), 0, 0, ()), (0, 0, (0, 0, 0, 0, (List.replicate 32 (0 : Int)), [], [], [], ()), ()), 0, 0, ())).2.1, VarIs b12 80 Y80 ((List.getD a0 (Int.toNat s7.1) (0, (0, 0, (List.replicate 2 ((List.replicate 32 (0 : Int)) : List (Int))), (List.replicate 2 ((List.replicate 32 (0 : Int)) : List (Int))), 0, 0, ()), (0, 0, (0, 0, 0, 0, (List.replicate 32 (0 : Int)), [], [], [], ()), ()), 0, 0, ())).2.2.1).2.2.1] w) (allis_at 2 rfl) 0 ((.snd (.snd (.snd (.fst .here))))) rfl rfl rfl (by first | rfl | (simp only [Pth.off, T.size]; omega)) (ok_snd (ok_snd (ok_snd (ok_fst ok_here)))) ty2) rfl ?_
   refine h_take (i := 30) (t := ptr b12 4) (blind_block (blind_then (blind_then (blind_block (blind_then blind_body))))) rfl (by kernel_rfl) (by kernel_rfl) (by kernel_rfl) (allis_cons (var_is 2 rfl) (allis_cons (var_is 1 rfl) (allis_cons (var_is 0 rfl) allis_nil))) (y_pure tabOk rfl) rfl ?_
   refine h_take (i := 31) (t := .one (.arr 32 (.int .u8)) ((((List.getD a0 (Int.toNat s7.1) (0, (0, 0, (List.replicate 2 ((List.replicate 32 (0 : Int)) : List (Int))), (List.replicate 2 ((List.replicate 32 (0 : Int)) : List (Int))), 0, 0, ()), (0, 0, (0, 0, 0, 0, (List.replicate 32 (0 : Int)), [], [], [], ()), ()), 0, 0, ())).2.2.1).2.2.1).2.2.2.2.1)) (blind_block (blind_then (blind_then (blind_block (blind_then blind_body))))) rfl (by kernel_rfl) (by kernel_rfl) (by kernel_rfl) (allis_cons (var_is 2 rfl) (allis_cons (var_is 1 rfl) (allis_cons (var_is 0 rfl) allis_nil))) (y_held (S := fun w => AllIs [VarIs b10 84 Y84 (List.getD a0 (Int.toNat s7.1) (0, (0, 0, (List.replicate 2 ((List.replicate 32 (0 : Int)) : List (Int))), (List.replicate 2 ((List.replicate 32 (0 : Int)) : List (Int))), 0, 0, ()), (0, 0, (0, 0, 0, 0, (List.replicate 32 (0 : Int)), [], [], [], ()), ()), 0, 0, ())), VarIs b11 79 Y79 (List.getD a0 (Int.toNat s7.1) (0, (0, 0, (List.replicate 2 ((List.replicate 32 (0 : Int)) : List (Int))), (List.replicate 2 ((List.replicate 32 (0 : Int)) : List (Int))), 0, 0, ()), (0, 0, (0, 0, 0, 0, (List.replicate 32 (0 : Int)), [], [], [], ()), ()), 0, 0, ())).2.1, VarIs b12 80 Y80 ((List.getD a0 (Int.toNat s7.1) (0, (0, 0, (List.replicate 2 ((List.replicate 32 (0 : Int)) : List (Int))), (List.replicate 2 ((List.replicate 32 (0 : Int)) : List (Int))), 0, 0, ()), (0, 0, (0, 0, 0, 0, (List.replicate 32 (0 : Int)), [], [], [], ()), ()), 0, 0, ())).2.2.1).2.2.1] w) (allis_at 2 rfl) 0 ((.snd (.snd (.snd (.snd (.fst .here)))))) rfl rfl rfl (by first | rfl | (simp only [Pth.off, T.size]; omega)) (ok_snd (ok_snd (ok_snd (ok_snd (ok_fst ok_here))))) ty34) rfl ?_
   refine h_take (i := 32) (t := ptr b12 36) (blind_block (blind_then (blind_then (blind_block (blind_then blind_body))))) rfl (by kernel_rfl) (by kernel_rfl) (by kernel_rfl) (allis_cons (var_is 2 rfl) (allis_cons (var_is 1 rfl) (allis_cons (var_is 0 rfl) allis_nil))) (y_pure tabOk rfl) rfl ?_
   refine h_take (i := 33) (t := ts ((((List.getD a0 (Int.toNat s7.1) (0, (0, 0, (List.replicate 2 ((List.replicate 32 (0 : Int)) : List (Int))), (List.replicate 2 ((List.replicate 32 (0 : Int)) : List (Int))), 0, 0, ()), (0, 0, (0, 0, 0, 0, (List.replicate 32 (0 : Int)), [], [], [], ()), ()), 0, 0, ())).2.2.1).2.2.1).2.2.2.2.2.1)) (blind_block (blind_then (blind_then (blind_block (blind_then blind_body))))) rfl (by kernel_rfl) (by kernel_rfl) (by kernel_rfl) (allis_cons (var_is 2 rfl) (allis_cons (var_is 1 rfl) (allis_cons (var_is 0 rfl) allis_nil))) (y_held (S := fun w => AllIs [VarIs b10 84 Y84 (List.getD a0 (Int.toNat s7.1) (0, (0, 0, (List.replicate 2 ((List.replicate 32 (0 : Int)) : List (Int))), (List.replicate 2 ((List.replicate 32 (0 : Int)) : List (Int))), 0, 0, ()), (0, 0, (0, 0, 0, 0, (List.replicate 32 (0 : Int)), [], [], [], ()), ()), 0, 0, ())), VarIs b11 79 Y79 (List.getD a0 (Int.toNat s7.1) (0, (0, 0, (List.replicate 2 ((List.replicate 32 (0 : Int)) : List (Int))), (List.replicate 2 ((List.replicate 32 (0 : Int)) : List (Int))), 0, 0, ()), (0, 0, (0, 0, 0, 0, (List.replicate 32 (0 : Int)), [], [], [], ()), ()), 0, 0, ())).2.1, VarIs b12 80 Y80 ((List.getD a0 (Int.toNat s7.1) (0, (0, 0, (List.replicate 2 ((List.replicate 32 (0 : Int)) : List (Int))), (List.replicate 2 ((List.replicate 32 (0 : Int)) : List (Int))), 0, 0, ()), (0, 0, (0, 0, 0, 0, (List.replicate 32 (0 : Int)), [], [], [], ()), ()), 0, 0, ())).2.2.1).2.2.1] w) (allis_at 2 rfl) 0 ((.snd (.snd (.snd (.snd (.snd (.fst .here))))))) rfl rfl rfl (by first | rfl | (simp only [Pth.off, T.size]; omega)) (ok_snd (ok_snd (ok_snd (ok_snd (ok_snd (ok_fst ok_here)))))) ty9) rfl ?_
   refine h_take (i := 34) (t := ptr b12 37) (blind_block (blind_then (blind_then (blind_block (blind_then blind_body))))) rfl (by kernel_rfl) (by kernel_rfl) (by kernel_rfl) (allis_cons (var_is 2 rfl) (allis_cons (var_is 1 rfl) (allis_cons (var_is 0 rfl) allis_nil))) (y_pure tabOk rfl) rfl ?_
   refine h_take (i := 35) (t := ts ((((List.getD a0 (Int.toNat s7.1) (0, (0, 0, (List.replicate 2 ((List.replicate 32 (0 : Int)) : List (Int))), (List.replicate 2 ((List.replicate 32 (0 : Int)) : List (Int))), 0, 0, ()), (0, 0, (0, 0, 0, 0, (List.replicate 32 (0 : Int)), [], [], [], ()), ()), 0, 0, ())).2.2.1).2.2.1).2.2.2.2.2.2.1)) (blind_block (blind_then (blind_then (blind_block (blind_then blind_body))))) rfl (by kernel_rfl) (by kernel_rfl) (by kernel_rfl) (allis_cons (var_is 2 rfl) (allis_cons (var_is 1 rfl) (allis_cons (var_is 0 rfl) allis_nil))) (y_held (S := fun w => AllIs [VarIs b10 84 Y84 (List.getD a0 (Int.toNat s7.1) (0, (0, 0, (List.replicate 2 ((List.replicate 32 (0 : Int)) : List (Int))), (List.replicate 2 ((List.replicate 32 (0 : Int)) : List (Int))), 0, 0, ()), (0, 0, (0, 0, 0, 0, (List.replicate 32 (0 : Int)), [], [], [], ()), ()), 0, 0, ())), VarIs b11 79 Y79 (List.getD a0 (Int.toNat s7.1) (0, (0, 0, (List.replicate 2 ((List.replicate 32 (0 : Int)) : List (Int))), (List.replicate 2 ((List.replicate 32 (0 : Int)) : List (Int))), 0, 0, ()), (0, 0, (0, 0, 0, 0, (List.replicate 32 (0 : Int)), [], [], [], ()), ()), 0, 0, ())).2.1, VarIs b12 80 Y80 ((List.getD a0 (Int.toNat s7.1) (0, (0, 0, (List.replicate 2 ((List.replicate 32 (0 : Int)) : List (Int))), (List.replicate 2 ((List.replicate 32 (0 : Int)) : List (Int))), 0, 0, ()), (0, 0, (0, 0, 0, 0, (List.replicate 32 (0 : Int)), [], [], [], ()), ()), 0, 0, ())).2.2.1).2.2.1] w) (allis_at 2 rfl) 0 ((.snd (.snd (.snd (.snd (.snd (.snd (.fst .here)))))))) rfl rfl rfl (by first | rfl | (simp only [Pth.off, T.size]; omega)) (ok_snd (ok_snd (ok_snd (ok_snd (ok_snd (ok_snd (ok_fst ok_here))))))) ty9) rfl ?_
   refine h_take (i := 36) (t := ptr b12 38) (blind_block (blind_then (blind_then (blind_block (blind_then blind_body))))) rfl (by kernel_rfl) (by kernel_rfl) (by kernel_rfl) (allis_cons (var_is 2 rfl) (allis_cons (var_is 1 rfl) (allis_cons (var_is 0 rfl) allis_nil))) (y_pure tabOk rfl) rfl ?_
   refine h_take (i := 41) (t := ptr b10 174) (blind_block (blind_then (blind_then (blind_block (blind_then blind_body))))) rfl (by kernel_rfl) (by kernel_rfl) (by kernel_rfl) (allis_cons (var_is 2 rfl) (allis_cons (var_is 1 rfl) (allis_cons (var_is 0 rfl) allis_nil))) (y_pure tabOk rfl) rfl ?_
   refine h_take (i := 42) (t := ti ((List.getD a0 (Int.toNat s7.1) (0, (0, 0, (List.replicate 2 ((List.replicate 32 (0 : Int)) : List (Int))), (List.replicate 2 ((List.replicate 32 (0 : Int)) : List (Int))), 0, 0, ()), (0, 0, (0, 0, 0, 0, (List.replicate 32 (0 : Int)), [], [], [], ()), ()), 0, 0, ())).2.2.2.1)) (blind_block (blind_then (blind_then (blind_block (blind_then blind_body))))) rfl (by kernel_rfl) (by kernel_rfl) (by kernel_rfl) (allis_cons (var_is 2 rfl) (allis_cons (var_is 1 rfl) (allis_cons (var_is 0 rfl) allis_nil))) (y_held (S := fun w => AllIs [VarIs b10 84 Y84 (List.getD a0 (Int.toNat s7.1) (0, (0, 0, (List.replicate 2 ((List.replicate 32 (0 : Int)) : List (Int))), (List.replicate 2 ((List.replicate 32 (0 : Int)) : List (Int))), 0, 0, ()), (0, 0, (0, 0, 0, 0, (List.replicate 32 (0 : Int)), [], [], [], ()), ()), 0, 0, ())), VarIs b11 79 Y79 (List.getD a0 (Int.toNat s7.1) (0, (0, 0, (List.replicate 2 ((List.replicate 32 (0 : Int)) : List (Int))), (List.replicate 2 ((List.replicate 32 (0 : Int)) : List (Int))), 0, 0, ()), (0, 0, (0, 0, 0, 0, (List.replicate 32 (0 : Int)), [], [], [], ()), ()), 0, 0, ())).2.1, VarIs b12 80 Y80 ((List.getD a0 (Int.toNat s7.1) (0, (0, 0, (List.replicate 2 ((List.replicate 32 (0 : Int)) : List (Int))), (List.replicate 2 ((List.replicate 32 (0 : Int)) : List (Int))), 0, 0, ()), (0, 0, (0, 0, 0, 0, (List.replicate 32 (0 : Int)), [], [], [], ()), ()), 0, 0, ())).2.2.1).2.2.1] w) (allis_at 0 rfl) 2 ((.snd (.snd (.snd (.fst .here))))) rfl rfl rfl (by first | rfl | (simp only [Pth.off, T.size]; omega)) (ok_snd (ok_snd (ok_snd (ok_fst ok_here)))) ty2) rfl ?_
   refine h_take (i := 43) (t := ptr b10 175) (blind_block (blind_then (blind_then (blind_block (blind_then blind_body))))) rfl (by kernel_rfl) (by kernel_rfl) (by kernel_rfl) (allis_cons (var_is 2 rfl) (allis_cons (var_is 1 rfl) (allis_cons (var_is 0 rfl) allis_nil))) (y_pure tabOk rfl) rfl ?_
   refine h_take (i := 44) (t := ti ((List.getD a0 (Int.toNat s7.1) (0, (0, 0, (List.replicate 2 ((List.replicate 32 (0 : Int)) : List (Int))), (List.replicate 2 ((List.replicate 32 (0 : Int)) : List (Int))), 0, 0, ()), (0, 0, (0, 0, 0, 0, (List.replicate 32 (0 : Int)), [], [], [], ()), ()), 0, 0, ())).2.2.2.2.1)) (blind_block (blind_then (blind_then (blind_block (blind_then blind_body))))) rfl (by kernel_rfl) (by kernel_rfl) (by kernel_rfl) (allis_cons (var_is 2 rfl) (allis_cons (var_is 1 rfl) (allis_cons (var_is 0 rfl) allis_nil))) (y_held (S := fun w => AllIs [VarIs b10 84 Y84 (List.getD a0 (Int.toNat s7.1) (0, (0, 0, (List.replicate 2 ((List.replicate 32 (0 : Int)) : List (Int))), (List.replicate 2 ((List.replicate 32 (0 : Int)) : List (Int))), 0, 0, ()), (0, 0, (0, 0, 0, 0, (List.replicate 32 (0 : Int)), [], [], [], ()), ()), 0, 0, ())), VarIs b11 79 Y79 (List.getD a0 (Int.toNat s7.1) (0, (0, 0, (List.replicate 2 ((List.replicate 32 (0 : Int)) : List (Int))), (List.replicate 2 ((List.replicate 32 (0 : Int)) : List (Int))), 0, 0, ()), (0, 0, (0, 0, 0, 0, (List.replicate 32 (0 : Int)), [], [], [], ()), ()), 0, 0, ())).2.1, VarIs b12 80 Y80 ((List.getD a0 (Int.toNat s7.1) (0, (0, 0, (List.replicate 2 ((List.replicate 32 (0 : Int)) : List (Int))), (List.replicate 2 ((List.replicate 32 (0 : Int)) : List (Int))), 0, 0, ()), (0, 0, (0, 0, 0, 0, (List.replicate 32 (0 : Int)), [], [], [], ()), ()), 0, 0, ())).2.2.1).2.2.1] w) (allis_at 0 rfl) 2 ((.snd (.snd (.snd (.snd (.fst .here)))))) rfl rfl rfl (by first | rfl | (simp only [Pth.off, T.size]; omega)) (ok_snd (ok_snd (ok_snd (ok_snd (ok_fst ok_here))))) ty3) rfl ?_
   refine h_one (i := 37) (by kernel_rfl) rfl ?_
   refine yl 0 ((.snd (.snd (.snd (.snd (.snd (.snd (.snd (.fst .here))))))))) ty46 rfl rfl rfl trivial rfl <| za <| h_in (allis_cons (var_is 2 rfl) (allis_cons (var_is 1 rfl) (allis_cons (var_is 0 rfl) allis_nil))) ?_
   refine r_less [0,3,4,23,25,38,41,44,46,48,50,52,54,56,58,60,65,67] rfl <| h_one (i := 38) (by kernel_rfl) rfl ?_
   refine cB h fun r13 hr13 h => rc [] (escrowlaw25_fates_ok _ _ hr13) (by kernel_rfl) rfl rfl rfl fun v14 => za <| h_in (allis_cons (var_is 3 rfl) (allis_cons (var_is 2 rfl) (allis_cons (var_is 1 rfl) allis_nil))) ?_
   refine r_less [0,3,4,23,25,38,41,44,46,48,50,52,54,56,58,61,65,67] rfl <| h_one (i := 39) (by kernel_rfl) rfl ?_
   refine r_freeze (i := 0) (k := 61) rfl rfl ?_
   refine y (y_build rfl zf48 rfl rfl (.cons ((.fst .here)) rfl rfl ok_here (.cons ((.snd (.fst .here))) rfl rfl ok_here (.cons ((.snd (.snd (.fst .here)))) rfl rfl ok_here (.cons ((.snd (.snd (.snd (.fst .here))))) rfl rfl ok_here (.cons ((.snd (.snd (.snd (.snd (.fst .here)))))) rfl rfl ok_here (.cons ((.snd (.snd (.snd (.snd (.snd (.fst .here))))))) rfl rfl ok_here (.cons ((.snd (.snd (.snd (.snd (.snd (.snd (.fst .here)))))))) rfl rfl ok_here (.cons ((.snd (.snd (.snd (.snd (.snd (.snd (.snd (.fst .here))))))))) rfl rfl ok_here .nil))))))))) rfl ?_
   refine za <| h_in (allis_cons (var_is 2 rfl) (allis_cons (var_is 1 rfl) (allis_cons (var_is 0 rfl) allis_nil))) ?_
   refine r_less [0,3,4,23,25,38,41,44,62,65,67] rfl <| h_take (i := 40) (t := .one Y50 (((List.getD a0 (Int.toNat s7.1) (0, (0, 0, (List.replicate 2 ((List.replicate 32 (0 : Int)) : List (Int))), (List.replicate 2 ((List.replicate 32 (0 : Int)) : List (Int))), 0, 0, ()), (0, 0, (0, 0, 0, 0, (List.replicate 32 (0 : Int)), [], [], [], ()), ()), 0, 0, ())).2.2.1).1, ((List.getD a0 (Int.toNat s7.1) (0, (0, 0, (List.replicate 2 ((List.replicate 32 (0 : Int)) : List (Int))), (List.replicate 2 ((List.replicate 32 (0 : Int)) : List (Int))), 0, 0, ()), (0, 0, (0, 0, 0, 0, (List.replicate 32 (0 : Int)), [], [], [], ()), ()), 0, 0, ())).2.2.1).2.1, ((((List.getD a0 (Int.toNat s7.1) (0, (0, 0, (List.replicate 2 ((List.replicate 32 (0 : Int)) : List (Int))), (List.replicate 2 ((List.replicate 32 (0 : Int)) : List (Int))), 0, 0, ()), (0, 0, (0, 0, 0, 0, (List.replicate 32 (0 : Int)), [], [], [], ()), ()), 0, 0, ())).2.2.1).2.2.1).1, (((List.getD a0 (Int.toNat s7.1) (0, (0, 0, (List.replicate 2 ((List.replicate 32 (0 : Int)) : List (Int))), (List.replicate 2 ((List.replicate 32 (0 : Int)) : List (Int))), 0, 0, ()), (0, 0, (0, 0, 0, 0, (List.replicate 32 (0 : Int)), [], [], [], ()), ()), 0, 0, ())).2.2.1).2.2.1).2.1, (((List.getD a0 (Int.toNat s7.1) (0, (0, 0, (List.replicate 2 ((List.replicate 32 (0 : Int)) : List (Int))), (List.replicate 2 ((List.replicate 32 (0 : Int)) : List (Int))), 0, 0, ()), (0, 0, (0, 0, 0, 0, (List.replicate 32 (0 : Int)), [], [], [], ()), ()), 0, 0, ())).2.2.1).2.2.1).2.2.1, (((List.getD a0 (Int.toNat s7.1) (0, (0, 0, (List.replicate 2 ((List.replicate 32 (0 : Int)) : List (Int))), (List.replicate 2 ((List.replicate 32 (0 : Int)) : List (Int))), 0, 0, ()), (0, 0, (0, 0, 0, 0, (List.replicate 32 (0 : Int)), [], [], [], ()), ()), 0, 0, ())).2.2.1).2.2.1).2.2.2.1, (((List.getD a0 (Int.toNat s7.1) (0, (0, 0, (List.replicate 2 ((List.replicate 32 (0 : Int)) : List (Int))), (List.replicate 2 ((List.replicate 32 (0 : Int)) : List (Int))), 0, 0, ()), (0, 0, (0, 0, 0, 0, (List.replicate 32 (0 : Int)), [], [], [], ()), ()), 0, 0, ())).2.2.1).2.2.1).2.2.2.2.1, (((List.getD a0 (Int.toNat s7.1) (0, (0, 0, (List.replicate 2 ((List.replicate 32 (0 : Int)) : List (Int))), (List.replicate 2 ((List.replicate 32 (0 : Int)) : List (Int))), 0, 0, ()), (0, 0, (0, 0, 0, 0, (List.replicate 32 (0 : Int)), [], [], [], ()), ()), 0, 0, ())).2.2.1).2.2.1).2.2.2.2.2.1, (((List.getD a0 (Int.toNat s7.1) (0, (0, 0, (List.replicate 2 ((List.replicate 32 (0 : Int)) : List (Int))), (List.replicate 2 ((List.replicate 32 (0 : Int)) : List (Int))), 0, 0, ()), (0, 0, (0, 0, 0, 0, (List.replicate 32 (0 : Int)), [], [], [], ()), ()), 0, 0, ())).2.2.1).2.2.1).2.2.2.2.2.2.1, r13, ()), ())) (blind_block (blind_then (blind_then (blind_block (blind_then blind_body))))) rfl (by kernel_rfl) (by kernel_rfl) (by kernel_rfl) (allis_cons (var_is 2 rfl) (allis_cons (var_is 1 rfl) (allis_cons (var_is 0 rfl) allis_nil))) (y_build rfl zf50 rfl rfl (.cons ((.fst .here)) rfl rfl ok_here (.cons ((.snd (.fst .here))) rfl rfl ok_here (.cons ((.snd (.snd (.fst .here)))) rfl rfl ok_here .nil)))) rfl ?_
   refine h_take (i := 45) (t := .one Y55 ((List.getD a0 (Int.toNat s7.1) (0, (0, 0, (List.replicate 2 ((List.replicate 32 (0 : Int)) : List (Int))), (List.replicate 2 ((List.replicate 32 (0 : Int)) : List (Int))), 0, 0, ()), (0, 0, (0, 0, 0, 0, (List.replicate 32 (0 : Int)), [], [], [], ()), ()), 0, 0, ())).1, (((List.getD a0 (Int.toNat s7.1) (0, (0, 0, (List.replicate 2 ((List.replicate 32 (0 : Int)) : List (Int))), (List.replicate 2 ((List.replicate 32 (0 : Int)) : List (Int))), 0, 0, ()), (0, 0, (0, 0, 0, 0, (List.replicate 32 (0 : Int)), [], [], [], ()), ()), 0, 0, ())).2.1).1, ((List.getD a0 (Int.toNat s7.1) (0, (0, 0, (List.replicate 2 ((List.replicate 32 (0 : Int)) : List (Int))), (List.replicate 2 ((List.replicate 32 (0 : Int)) : List (Int))), 0, 0, ()), (0, 0, (0, 0, 0, 0, (List.replicate 32 (0 : Int)), [], [], [], ()), ()), 0, 0, ())).2.1).2.1, ((List.getD a0 (Int.toNat s7.1) (0, (0, 0, (List.replicate 2 ((List.replicate 32 (0 : Int)) : List (Int))), (List.replicate 2 ((List.replicate 32 (0 : Int)) : List (Int))), 0, 0, ()), (0, 0, (0, 0, 0, 0, (List.replicate 32 (0 : Int)), [], [], [], ()), ()), 0, 0, ())).2.1).2.2.1, ((List.getD a0 (Int.toNat s7.1) (0, (0, 0, (List.replicate 2 ((List.replicate 32 (0 : Int)) : List (Int))), (List.replicate 2 ((List.replicate 32 (0 : Int)) : List (Int))), 0, 0, ()), (0, 0, (0, 0, 0, 0, (List.replicate 32 (0 : Int)), [], [], [], ()), ()), 0, 0, ())).2.1).2.2.2.1, ((List.getD a0 (Int.toNat s7.1) (0, (0, 0, (List.replicate 2 ((List.replicate 32 (0 : Int)) : List (Int))), (List.replicate 2 ((List.replicate 32 (0 : Int)) : List (Int))), 0, 0, ()), (0, 0, (0, 0, 0, 0, (List.replicate 32 (0 : Int)), [], [], [], ()), ()), 0, 0, ())).2.1).2.2.2.2.1, ((List.getD a0 (Int.toNat s7.1) (0, (0, 0, (List.replicate 2 ((List.replicate 32 (0 : Int)) : List (Int))), (List.replicate 2 ((List.replicate 32 (0 : Int)) : List (Int))), 0, 0, ()), (0, 0, (0, 0, 0, 0, (List.replicate 32 (0 : Int)), [], [], [], ()), ()), 0, 0, ())).2.1).2.2.2.2.2.1, ()), (((List.getD a0 (Int.toNat s7.1) (0, (0, 0, (List.replicate 2 ((List.replicate 32 (0 : Int)) : List (Int))), (List.replicate 2 ((List.replicate 32 (0 : Int)) : List (Int))), 0, 0, ()), (0, 0, (0, 0, 0, 0, (List.replicate 32 (0 : Int)), [], [], [], ()), ()), 0, 0, ())).2.2.1).1, ((List.getD a0 (Int.toNat s7.1) (0, (0, 0, (List.replicate 2 ((List.replicate 32 (0 : Int)) : List (Int))), (List.replicate 2 ((List.replicate 32 (0 : Int)) : List (Int))), 0, 0, ()), (0, 0, (0, 0, 0, 0, (List.replicate 32 (0 : Int)), [], [], [], ()), ()), 0, 0, ())).2.2.1).2.1, ((((List.getD a0 (Int.toNat s7.1) (0, (0, 0, (List.replicate 2 ((List.replicate 32 (0 : Int)) : List (Int))), (List.replicate 2 ((List.replicate 32 (0 : Int)) : List (Int))), 0, 0, ()), (0, 0, (0, 0, 0, 0, (List.replicate 32 (0 : Int)), [], [], [], ()), ()), 0, 0, ())).2.2.1).2.2.1).1, (((List.getD a0 (Int.toNat s7.1) (0, (0, 0, (List.replicate 2 ((List.replicate 32 (0 : Int)) : List (Int))), (List.replicate 2 ((List.replicate 32 (0 : Int)) : List (Int))), 0, 0, ()), (0, 0, (0, 0, 0, 0, (List.replicate 32 (0 : Int)), [], [], [], ()), ()), 0, 0, ())).2.2.1).2.2.1).2.1, (((List.getD a0 (Int.toNat s7.1) (0, (0, 0, (List.replicate 2 ((List.replicate 32 (0 : Int)) : List (Int))), (List.replicate 2 ((List.replicate 32 (0 : Int)) : List (Int))), 0, 0, ()), (0, 0, (0, 0, 0, 0, (List.replicate 32 (0 : Int)), [], [], [], ()), ()), 0, 0, ())).2.2.1).2.2.1).2.2.1, (((List.getD a0 (Int.toNat s7.1) (0, (0, 0, (List.replicate 2 ((List.replicate 32 (0 : Int)) : List (Int))), (List.replicate 2 ((List.replicate 32 (0 : Int)) : List (Int))), 0, 0, ()), (0, 0, (0, 0, 0, 0, (List.replicate 32 (0 : Int)), [], [], [], ()), ()), 0, 0, ())).2.2.1).2.2.1).2.2.2.1, (((List.getD a0 (Int.toNat s7.1) (0, (0, 0, (List.replicate 2 ((List.replicate 32 (0 : Int)) : List (Int))), (List.replicate 2 ((List.replicate 32 (0 : Int)) : List (Int))), 0, 0, ()), (0, 0, (0, 0, 0, 0, (List.replicate 32 (0 : Int)), [], [], [], ()), ()), 0, 0, ())).2.2.1).2.2.1).2.2.2.2.1, (((List.getD a0 (Int.toNat s7.1) (0, (0, 0, (List.replicate 2 ((List.replicate 32 (0 : Int)) : List (Int))), (List.replicate 2 ((List.replicate 32 (0 : Int)) : List (Int))), 0, 0, ()), (0, 0, (0, 0, 0, 0, (List.replicate 32 (0 : Int)), [], [], [], ()), ()), 0, 0, ())).2.2.1).2.2.1).2.2.2.2.2.1, (((List.getD a0 (Int.toNat s7.1) (0, (0, 0, (List.replicate 2 ((List.replicate 32 (0 : Int)) : List (Int))), (List.replicate 2 ((List.replicate 32 (0 : Int)) : List (Int))), 0, 0, ()), (0, 0, (0, 0, 0, 0, (List.replicate 32 (0 : Int)), [], [], [], ()), ()), 0, 0, ())).2.2.1).2.2.1).2.2.2.2.2.2.1, r13, ()), ()), (List.getD a0 (Int.toNat s7.1) (0, (0, 0, (List.replicate 2 ((List.replicate 32 (0 : Int)) : List (Int))), (List.replicate 2 ((List.replicate 32 (0 : Int)) : List (Int))), 0, 0, ()), (0, 0, (0, 0, 0, 0, (List.replicate 32 (0 : Int)), [], [], [], ()), ()), 0, 0, ())).2.2.2.1, (List.getD a0 (Int.toNat s7.1) (0, (0, 0, (List.replicate 2 ((List.replicate 32 (0 : Int)) : List (Int))), (List.replicate 2 ((List.replicate 32 (0 : Int)) : List (Int))), 0, 0, ()), (0, 0, (0, 0, 0, 0, (List.replicate 32 (0 : Int)), [], [], [], ()), ()), 0, 0, ())).2.2.2.2.1, ())) (blind_block (blind_then (blind_then (blind_block (blind_then blind_body))))) rfl (by kernel_rfl) (by kernel_rfl) (by kernel_rfl) (allis_cons (var_is 2 rfl) (allis_cons (var_is 1 rfl) (allis_cons (var_is 0 rfl) allis_nil))) (y_build rfl zf55 rfl rfl (.cons ((.fst .here)) rfl rfl ok_here (.cons ((.snd (.fst .here))) rfl rfl ok_here (.cons ((.snd (.snd (.fst .here)))) rfl rfl ok_here (.cons ((.snd (.snd (.snd (.fst .here))))) rfl rfl ok_here (.cons ((.snd (.snd (.snd (.snd (.fst .here)))))) rfl rfl ok_here .nil)))))) rfl ?_
   refine h_one (i := 46) (by kernel_rfl) rfl ?_
   refine r_lits (B := 320) tabOk rfl el55 rfl rfl rfl (.cons rfl .nil) rfl fun v15 => ?_
   refine za <| h_in (allis_cons (var_is 3 rfl) (allis_cons (var_is 2 rfl) (allis_cons (var_is 1 rfl) allis_nil))) ?_
   refine r_less [0,3,4,23,69] rfl <| h_one (i := 47) (by kernel_rfl) rfl ?_
   refine iE h fun hc h => r_append (B := 320) tabOk 4 rfl rfl (src_own 0 rfl rfl) rfl el55 rfl rfl hc rfl fun v16 => ?_
   refine pk [1,1,1,1] rfl <| za <| h_in (allis_cons (var_is 2 rfl) (allis_cons (var_is 1 rfl) (allis_cons (var_is 0 rfl) allis_nil))) ?_
   refine r_less [0,4,70] rfl <| h_take (i := 48) (t := .one (.raw (.slice none 0 0)) v16) (blind_block (blind_then (blind_then (blind_block (blind_then blind_body))))) rfl (by kernel_rfl) (by kernel_rfl) (by kernel_rfl) (allis_cons (var_is 2 rfl) (allis_cons (var_is 1 rfl) (allis_cons (var_is 0 rfl) allis_nil))) (y_pure tabOk rfl) rfl ?_
   refine h_end (by kernel_rfl) ?_
   refine zi <| zt <| zr <| q 3 [(3, .one (.raw (.slice none 0 0)) v16), (4, ti (IntKind.wrap .i64 (s7.1 + 1)))] [0] rfl ?_
   obtain ⟨i17, e, h⟩ := bnd_ex h; rw [e]
   exact za <| pk [3] rfl <| r_less [0,3,4] rfl <| by exact r_backg (i17, (s7.2 ++ ([((List.getD a0 (Int.toNat s7.1) (0, (0, 0, (List.replicate 2 ((List.replicate 32 (0 : Int)) : List (Int))), (List.replicate 2 ((List.replicate 32 (0 : Int)) : List (Int))), 0, 0, ()), (0, 0, (0, 0, 0, 0, (List.replicate 32 (0 : Int)), [], [], [], ()), ()), 0, 0, ())).1, (((List.getD a0 (Int.toNat s7.1) (0, (0, 0, (List.replicate 2 ((List.replicate 32 (0 : Int)) : List (Int))), (List.replicate 2 ((List.replicate 32 (0 : Int)) : List (Int))), 0, 0, ()), (0, 0, (0, 0, 0, 0, (List.replicate 32 (0 : Int)), [], [], [], ()), ()), 0, 0, ())).2.1).1, ((List.getD a0 (Int.toNat s7.1) (0, (0, 0, (List.replicate 2 ((List.replicate 32 (0 : Int)) : List (Int))), (List.replicate 2 ((List.replicate 32 (0 : Int)) : List (Int))), 0, 0, ()), (0, 0, (0, 0, 0, 0, (List.replicate 32 (0 : Int)), [], [], [], ()), ()), 0, 0, ())).2.1).2.1, ((List.getD a0 (Int.toNat s7.1) (0, (0, 0, (List.replicate 2 ((List.replicate 32 (0 : Int)) : List (Int))), (List.replicate 2 ((List.replicate 32 (0 : Int)) : List (Int))), 0, 0, ()), (0, 0, (0, 0, 0, 0, (List.replicate 32 (0 : Int)), [], [], [], ()), ()), 0, 0, ())).2.1).2.2.1, ((List.getD a0 (Int.toNat s7.1) (0, (0, 0, (List.replicate 2 ((List.replicate 32 (0 : Int)) : List (Int))), (List.replicate 2 ((List.replicate 32 (0 : Int)) : List (Int))), 0, 0, ()), (0, 0, (0, 0, 0, 0, (List.replicate 32 (0 : Int)), [], [], [], ()), ()), 0, 0, ())).2.1).2.2.2.1, ((List.getD a0 (Int.toNat s7.1) (0, (0, 0, (List.replicate 2 ((List.replicate 32 (0 : Int)) : List (Int))), (List.replicate 2 ((List.replicate 32 (0 : Int)) : List (Int))), 0, 0, ()), (0, 0, (0, 0, 0, 0, (List.replicate 32 (0 : Int)), [], [], [], ()), ()), 0, 0, ())).2.1).2.2.2.2.1, ((List.getD a0 (Int.toNat s7.1) (0, (0, 0, (List.replicate 2 ((List.replicate 32 (0 : Int)) : List (Int))), (List.replicate 2 ((List.replicate 32 (0 : Int)) : List (Int))), 0, 0, ()), (0, 0, (0, 0, 0, 0, (List.replicate 32 (0 : Int)), [], [], [], ()), ()), 0, 0, ())).2.1).2.2.2.2.2.1, ()), (((List.getD a0 (Int.toNat s7.1) (0, (0, 0, (List.replicate 2 ((List.replicate 32 (0 : Int)) : List (Int))), (List.replicate 2 ((List.replicate 32 (0 : Int)) : List (Int))), 0, 0, ()), (0, 0, (0, 0, 0, 0, (List.replicate 32 (0 : Int)), [], [], [], ()), ()), 0, 0, ())).2.2.1).1, ((List.getD a0 (Int.toNat s7.1) (0, (0, 0, (List.replicate 2 ((List.replicate 32 (0 : Int)) : List (Int))), (List.replicate 2 ((List.replicate 32 (0 : Int)) : List (Int))), 0, 0, ()), (0, 0, (0, 0, 0, 0, (List.replicate 32 (0 : Int)), [], [], [], ()), ()), 0, 0, ())).2.2.1).2.1, ((((List.getD a0 (Int.toNat s7.1) (0, (0, 0, (List.replicate 2 ((List.replicate 32 (0 : Int)) : List (Int))), (List.replicate 2 ((List.replicate 32 (0 : Int)) : List (Int))), 0, 0, ()), (0, 0, (0, 0, 0, 0, (List.replicate 32 (0 : Int)), [], [], [], ()), ()), 0, 0, ())).2.2.1).2.2.1).1, (((List.getD a0 (Int.toNat s7.1) (0, (0, 0, (List.replicate 2 ((List.replicate 32 (0 : Int)) : List (Int))), (List.replicate 2 ((List.replicate 32 (0 : Int)) : List (Int))), 0, 0, ()), (0, 0, (0, 0, 0, 0, (List.replicate 32 (0 : Int)), [], [], [], ()), ()), 0, 0, ())).2.2.1).2.2.1).2.1, (((List.getD a0 (Int.toNat s7.1) (0, (0, 0, (List.replicate 2 ((List.replicate 32 (0 : Int)) : List (Int))), (List.replicate 2 ((List.replicate 32 (0 : Int)) : List (Int))), 0, 0, ()), (0, 0, (0, 0, 0, 0, (List.replicate 32 (0 : Int)), [], [], [], ()), ()), 0, 0, ())).2.2.1).2.2.1).2.2.1, (((List.getD a0 (Int.toNat s7.1) (0, (0, 0, (List.replicate 2 ((List.replicate 32 (0 : Int)) : List (Int))), (List.replicate 2 ((List.replicate 32 (0 : Int)) : List (Int))), 0, 0, ()), (0, 0, (0, 0, 0, 0, (List.replicate 32 (0 : Int)), [], [], [], ()), ()), 0, 0, ())).2.2.1).2.2.1).2.2.2.1, (((List.getD a0 (Int.toNat s7.1) (0, (0, 0, (List.replicate 2 ((List.replicate 32 (0 : Int)) : List (Int))), (List.replicate 2 ((List.replicate 32 (0 : Int)) : List (Int))), 0, 0, ()), (0, 0, (0, 0, 0, 0, (List.replicate 32 (0 : Int)), [], [], [], ()), ()), 0, 0, ())).2.2.1).2.2.1).2.2.2.2.1, (((List.getD a0 (Int.toNat s7.1) (0, (0, 0, (List.replicate 2 ((List.replicate 32 (0 : Int)) : List (Int))), (List.replicate 2 ((List.replicate 32 (0 : Int)) : List (Int))), 0, 0, ()), (0, 0, (0, 0, 0, 0, (List.replicate 32 (0 : Int)), [], [], [], ()), ()), 0, 0, ())).2.2.1).2.2.1).2.2.2.2.2.1, (((List.getD a0 (Int.toNat s7.1) (0, (0, 0, (List.replicate 2 ((List.replicate 32 (0 : Int)) : List (Int))), (List.replicate 2 ((List.replicate 32 (0 : Int)) : List (Int))), 0, 0, ()), (0, 0, (0, 0, 0, 0, (List.replicate 32 (0 : Int)), [], [], [], ()), ()), 0, 0, ())).2.2.1).2.2.1).2.2.2.2.2.2.1, r13, ()), ()), (List.getD a0 (Int.toNat s7.1) (0, (0, 0, (List.replicate 2 ((List.replicate 32 (0 : Int)) : List (Int))), (List.replicate 2 ((List.replicate 32 (0 : Int)) : List (Int))), 0, 0, ()), (0, 0, (0, 0, 0, 0, (List.replicate 32 (0 : Int)), [], [], [], ()), ()), 0, 0, ())).2.2.2.1, (List.getD a0 (Int.toNat s7.1) (0, (0, 0, (List.replicate 2 ((List.replicate 32 (0 : Int)) : List (Int))), (List.replicate 2 ((List.replicate 32 (0 : Int)) : List (Int))), 0, 0, ()), (0, 0, (0, 0, 0, 0, (List.replicate 32 (0 : Int)), [], [], [], ()), ()), 0, 0, ())).2.2.2.2.1, ())]))) v16 (Nat.lt_succ_self _) h rfl rfl
  exact zx <| ze <| ze <| zq <| zt <| r_less [3] rfl <| by exact r_meetk s7.2 g8 h rfl rfl
 refine zu <| p 2 [2] rfl <| zf ?_
 cases h
 exact r_ret1 rfl (.tmp rfl) (fun _ _ g => holds_raw.2 ⟨rfl, by rw [(holds_raw.1 g).1]; exact (holds_raw.1 g).2⟩) (fun _ _ g => by obtain ⟨rfl, _⟩ := holds_raw.1 g; exact (.cons_cons _ .slnil))

theorem escrowref25_SameFates_ok (a0 : List (List Int × Int × Int × List Int × Unit)) (a1 : List (List Int × Int × Int × List Int × Unit)) (r : Bool) (h : escrowref25_SameFates a0 a1 = some r) : Pure Tryd.prog 24 [.one (.sl 61 Y61) a0, .one (.sl 61 Y61) a1] (tb r) := by
 unfold escrowref25_SameFates at h
 refine enter Tryd.func24 rfl 26 rfl rfl fun F => ?_
 refine zu <| p 1 [0,1] rfl <| za <| zs <| zu <| q 5 [(10, tb ((List.length a0 : Int) != (List.length a1 : Int)))] [0,1] rfl <| za <| rI h rfl (fun hc h => zu <| p 1 [4] rfl <| zf <| zT <| by cases h; exact r_ret1 rfl (.tmp rfl) (fun _ _ g => g) (fun _ _ _ => List.nil_sublist _)) fun hc h => zk <| zt <| jK h (γ := Unit) (fun (o2 : Unit) _ => []) (fun (o2 : Unit) _ => []) (fun k1 h => ?_) fun o2 gg h => ?_
 ·refine zu <| p 1 [0,1,5] rfl <| za <| zb <| r_less [0,1,5] rfl <| r_loopg (γ := Unit) (fun (s4 : Int) _ => [(0, .one (.sl 61 Y61) a0), (1, .one (.sl 61 Y61) a1), (5, ti s4)]) (fun (s4 : Int) _ => []) (escrowref25_SameFates_l0 a0 a1 k1) 0 () h rfl rfl ?_
  clear h
  intro m5 s4 gg h
  cases m5 with
  | zero => cases h
  | succ m5 =>
  simp only [escrowref25_SameFates_l0] at h
  refine zs <| zu <| q 4 [(5, ti s4), (14, tb (decide (s4 < (List.length a0 : Int))))] [0,1] rfl <| za <| rI h rfl (fun hc h => ?_) fun hc h => ?_
  ·refine zk <| zt <| zs <| zb <| zs <| r_drawn (by kernel_rfl) (by kernel_rfl) ?_
   refine q_pure tabOk 2 [0, 1, 5, 17, 18] (E' := [(0, .one (.sl 61 Y61) a0), (1, .one (.sl 61 Y61) a1), (5, ti s4), (17, .one (.sl 61 Y61) a0), (18, ti s4)]) rfl ?_
   refine iE h fun hc h => q_y (y_iref tabOk rfl rfl hc.1 hc.2 rfl ty61) rfl ?_
   refine q_y (y_ref rfl ty61) rfl ?_
   refine q_pure tabOk 2 [0, 1, 5, 20, 21, 22] (E' := [(0, .one (.sl 61 Y61) a0), (1, .one (.sl 61 Y61) a1), (5, ti s4), (20, .one Y61 (List.getD a0 (Int.toNat s4) ([], 0, 0, [], ()))), (21, .one (.sl 61 Y61) a1), (22, ti s4)]) rfl ?_
   refine iE h fun hc h => q_y (y_iref tabOk rfl rfl hc.1 hc.2 rfl ty61) rfl ?_
   refine q_y (y_ref rfl ty61) rfl ?_
   refine q_y (y_nes 20 rfl rfl rfl rfl ty61 rfl kt61 eg61) rfl ?_
   refine q_nil ?_
   refine zt <| rI h rfl (fun hc h => zu <| p 1 [4] rfl <| zf <| zB <| zT <| zT <| zB <| zT <| by cases h; exact r_ret1 rfl (.tmp rfl) (fun _ _ g => g) (fun _ _ _ => List.nil_sublist _)) fun hc h => zk <| zi <| zt <| zr <| p 3 [0,1,5] rfl ?_
   obtain ⟨i6, e, h⟩ := bnd_ex h; rw [e]
   exact za <| r_less [0,1,5] rfl <| by exact r_backg i6 () (Nat.lt_succ_self _) h rfl rfl
  exact zx <| ze <| ze <| zq <| zt <| r_less [] rfl <| by exact r_meetk () () h rfl rfl
 refine zu <| p 1 [4] rfl <| zf ?_
 cases h
 exact r_ret1 rfl (.tmp rfl) (fun _ _ g => g) (fun _ _ _ => List.nil_sublist _)

end Sx
