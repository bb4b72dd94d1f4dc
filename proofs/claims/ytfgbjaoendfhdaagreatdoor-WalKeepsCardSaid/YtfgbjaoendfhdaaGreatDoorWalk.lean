/-
  Own work, printed by a program of the same hand. Each function of the code answers what its plain twin reckons.
-/
import Derived.Test.YtfgbjaoendfhdaaGreatDoorWalk2
namespace Sx
open Go Go.Proofs
set_option maxRecDepth 10000
set_option maxHeartbeats 1000000
attribute [local irreducible] wpList

theorem ufI (p0 : Value) (a0 : DiskS) (a1 : Int) (a2 : Int) (r : DiskS) (h : udl a0 a1 a2 = some r) : Fn Tryz.prog 19 [tp p0, ti a1, ti a2] [Res.disk Tryz.prog dI p0 a0] (fun _ => .tup []) (fun _ => [Res.disk Tryz.prog dI p0 r]) := by
 unfold udl at h
 refine enter Tryz.func19 rfl 24 rfl rfl fun F => ?_
 refine ucK fun b2 mv1 hp => ?_
 subst hp
 refine jK h (γ := Unit) (fun (o4 : Int) _ => [(0, ptr b2 0), (1, ti o4), (2, ti a2)]) (fun (o4 : Int) _ => [Res.var b2 54 DT (a0.1, mv1, a0.2.2.1, a0.2.2.2.1, a0.2.2.2.2.1, a0.2.2.2.2.2.1, a0.2.2.2.2.2.2, ()), Res.dfiles Tryz.prog dI mv1 a0.2.1]) (fun k3 h => ?_) fun o4 gg h => ?_
 ·refine zu <| p 3 [0,1,2,8] rfl ?_
  obtain ⟨b5, e, h⟩ := uao h; rw [e]
  refine uaG (γ := Unit) 3 (fun _ => [(0, ptr b2 0), (1, ti a1), (2, ti a2), (11, tb (b5 || (decide (a2 < 0))))]) (fun _ => [Res.var b2 54 DT (a0.1, mv1, a0.2.2.1, a0.2.2.2.1, a0.2.2.2.2.1, a0.2.2.2.2.2.1, a0.2.2.2.2.2.2, ()), Res.dfiles Tryz.prog dI mv1 a0.2.1]) ?_ (fun _ => ?_)
  ·clear h
   cases b5
   ·exact p 3 [0,1,2,11] rfl <| za <| by exact uau () rfl rfl
   exact p 3 [0,1,2,11] rfl <| za <| by exact uau () rfl rfl
  refine p 1 [0,1,2,12] rfl ?_
  obtain ⟨b6, e, h⟩ := uao h; rw [e]
  refine uaG (γ := Unit) 3 (fun _ => [(0, ptr b2 0), (1, ti a1), (2, ti a2), (15, tb (b6 || (decide (a2 > 2))))]) (fun _ => [Res.var b2 54 DT (a0.1, mv1, a0.2.2.1, a0.2.2.2.1, a0.2.2.2.2.1, a0.2.2.2.2.2.1, a0.2.2.2.2.2.2, ()), Res.dfiles Tryz.prog dI mv1 a0.2.1]) ?_ (fun _ => ?_)
  ·clear h
   cases b6
   ·exact p 3 [0,1,2,15] rfl <| za <| by exact uau () rfl rfl
   exact p 3 [0,1,2,15] rfl <| za <| by exact uau () rfl rfl
  exact za <| rI h rfl (fun hc h => zr <| p 1 [0,1,2] rfl <| za <| uab [0,1,2] rfl <| by exact uai 0 () h rfl rfl) fun hc h => zk <| zt <| uab [0,1,2] rfl <| by exact uai a1 () h rfl rfl
 refine zr <| p 6 [17,18,19,21] rfl <| st 0 ((.snd (.snd (.fst .here)))) ty3 rfl rfl rfl rfl trivial <| p 2 [19,23] rfl <| st 0 ((.snd (.snd (.snd (.fst .here))))) ty3 rfl rfl rfl rfl trivial <| zn <| ua3 (P := Tryz.prog) (I := dI) (D := (a0.1, a0.2.1, o4, a2, a0.2.2.2.2.1, a0.2.2.2.2.2.1, a0.2.2.2.2.2.2)) ?_
 cases h
 exact ugL rfl (fun _ => ubr [] .nil) ((.cons_cons _ .slnil))

theorem uey (a0 : List (List Int × Int × Int × List Int × Unit)) (r : Bool) (h : ubJ a0 = some r) : Pure Tryz.prog 37 [.one (.sl 107 Y107) a0] (tb r) := by
 unfold ubJ at h
 refine enter Tryz.func37 rfl 16 rfl rfl fun F => ?_
 refine zu <| p 1 [0] rfl <| za <| jK h (γ := Unit) (fun (o2 : Unit) _ => []) (fun (o2 : Unit) _ => []) (fun k1 h => ?_) fun o2 gg h => ?_
 ·refine zu <| p 1 [0,3] rfl <| za <| zb <| uab [0,3] rfl <| ubv (γ := Unit) (fun (s4 : Int) _ => [(0, .one (.sl 107 Y107) a0), (3, ti s4)]) (fun (s4 : Int) _ => []) (ubG a0 k1) 0 () h rfl rfl ?_
  clear h
  intro m5 s4 gg h
  cases m5 with
  | zero => cases h
  | succ m5 =>
  simp only [ubG] at h
  refine zs <| zu <| q 4 [(3, ti s4), (7, tb (decide (s4 < (List.length a0 : Int))))] [0] rfl <| za <| rI h rfl (fun hc h => ?_) fun hc h => ?_
  ·refine zk <| zt <| zs <| zb <| zu <| p 2 [0,3,10,11] rfl <| iE h fun hc h => y (ue5 tabOk rfl rfl hc.1 hc.2 rfl ty107) rfl ?_
   refine y (upe tabOk ((.snd (.snd (.fst .here)))) rfl rfl rfl rfl (uaw (uaw (uaC uam)))) rfl ?_
   refine y (y_ref rfl ty3) rfl ?_
   refine q 1 [(15, tb (((List.getD a0 (Int.toNat s4) ([], 0, 0, [], ())).2.2.1) == 2))] [0,3] rfl <| za <| rI h rfl (fun hc h => zu <| p 1 [2] rfl <| zf <| zB <| zT <| zT <| zB <| zT <| by cases h; exact uav rfl (.tmp rfl) (fun _ _ g => g) (fun _ _ _ => List.nil_sublist _)) fun hc h => zk <| zi <| zt <| zr <| p 3 [0,3] rfl ?_
   obtain ⟨i6, e, h⟩ := uao h; rw [e]
   exact za <| uab [0,3] rfl <| by exact ubp i6 () (Nat.lt_succ_self _) h rfl rfl
  exact zx <| ze <| ze <| zq <| zt <| uab [] rfl <| by exact uai () () h rfl rfl
 refine zu <| p 1 [2] rfl <| zf ?_
 cases h
 exact uav rfl (.tmp rfl) (fun _ _ g => g) (fun _ _ _ => List.nil_sublist _)

theorem ugD (a0 : List Int) (a1 : List Int) (r : Bool) (h : ubO a0 a1 = some r) : Pure Tryz.prog 38 [ts a0, ts a1] (tb r) := by
 unfold ubO at h
 refine enter Tryz.func38 rfl 51 rfl rfl fun F => ?_
 refine zu <| p 1 [0,1] rfl <| za <| zs <| zu <| q 6 [(12, tb ((List.length a0 : Int) != (List.length a1 : Int)))] [0,1] rfl ?_
 obtain ⟨b1, e, h⟩ := uao h; rw [e]
 refine uaG (γ := Unit) 4 (fun _ => [(0, ts a0), (1, ts a1), (16, tb (b1 || (a0 == a1)))]) (fun _ => []) ?_ (fun _ => ?_)
 ·clear h
  cases b1
  ·exact p 4 [0,1,16] rfl <| za <| by exact uau () rfl rfl
  exact p 4 [0,1,16] rfl <| za <| by exact uau () rfl rfl
 refine za <| rI h rfl (fun hc h => zu <| p 1 [4] rfl <| zf <| zT <| by cases h; exact uav rfl (.tmp rfl) (fun _ _ g => g) (fun _ _ _ => List.nil_sublist _)) fun hc h => zk <| zt <| jK h (γ := Unit) (fun (o3 : Unit) _ => []) (fun (o3 : Unit) _ => []) (fun k2 h => ?_) fun o3 gg h => ?_
 ·refine zu <| p 1 [0,1,5] rfl <| za <| zb <| uab [0,1,5] rfl <| ubv (γ := Unit) (fun (s5 : Int) _ => [(0, ts a0), (1, ts a1), (5, ti s5)]) (fun (s5 : Int) _ => []) (ubz a0 a1 k2) 0 () h rfl rfl ?_
  clear h
  intro m6 s5 gg h
  cases m6 with
  | zero => cases h
  | succ m6 =>
  simp only [ubz] at h
  refine zs <| zu <| q 4 [(5, ti s5), (20, tb (decide (s5 < (List.length a0 : Int))))] [0,1] rfl <| za <| rI h rfl (fun hc h => ?_) fun hc h => ?_
  ·refine zk <| zt <| zb <| zu <| q 7 [(22, ti (List.length a0 : Int)), (27, ti (IntKind.wrap .i64 ((IntKind.wrap .i64 ((IntKind.wrap .i64 (Int.tdiv (IntKind.wrap .i64 (s5 + 16)) 64)) * 64)) + 48)))] [0,1,5] rfl ?_
   obtain ⟨t7, e, h⟩ := uao h; rw [e]
   refine y (y_min rfl rfl) rfl ?_
   refine q 1 [(6, ti (min (List.length a0 : Int) t7))] [0,1,5] rfl ?_
   obtain ⟨end8, e, h⟩ := uao h; rw [e]
   refine za <| zs <| zs <| ud3 (S := AllIs []) (by kernel_rfl) ?_
   refine uap (i := 0) (t := ts a0) (uaa (uaa (uad (uaa (uad (uaa uac)))))) rfl (by kernel_rfl) (by kernel_rfl) (by kernel_rfl) uag (uaf tabOk rfl) rfl ?_
   refine uap (i := 1) (t := ti s5) (uaa (uaa (uad (uaa (uad (uaa uac)))))) rfl (by kernel_rfl) (by kernel_rfl) (by kernel_rfl) uag (uaf tabOk rfl) rfl ?_
   refine uap (i := 2) (t := ti end8) (uaa (uaa (uad (uaa (uad (uaa uac)))))) rfl (by kernel_rfl) (by kernel_rfl) (by kernel_rfl) uag (uaf tabOk rfl) rfl ?_
   refine iE h fun hc h => uap (i := 3) (t := ts (List.drop (Int.toNat s5) (List.take (Int.toNat end8) a0))) (uaa (uaa (uad (uaa (uad (uaa uac)))))) rfl (by kernel_rfl) (by kernel_rfl) (by kernel_rfl) uag (y_sub (i := s5) (j := end8) tabOk rfl rfl rfl hc.1 hc.2.1 hc.2.2 rfl) rfl ?_
   refine uap (i := 4) (t := ts a1) (uaa (uaa (uad (uaa (uad (uaa uac)))))) rfl (by kernel_rfl) (by kernel_rfl) (by kernel_rfl) uag (uaf tabOk rfl) rfl ?_
   refine uap (i := 5) (t := ti s5) (uaa (uaa (uad (uaa (uad (uaa uac)))))) rfl (by kernel_rfl) (by kernel_rfl) (by kernel_rfl) uag (uaf tabOk rfl) rfl ?_
   refine uap (i := 6) (t := ti end8) (uaa (uaa (uad (uaa (uad (uaa uac)))))) rfl (by kernel_rfl) (by kernel_rfl) (by kernel_rfl) uag (uaf tabOk rfl) rfl ?_
   refine iE h fun hc h => uap (i := 7) (t := ts (List.drop (Int.toNat s5) (List.take (Int.toNat end8) a1))) (uaa (uaa (uad (uaa (uad (uaa uac)))))) rfl (by kernel_rfl) (by kernel_rfl) (by kernel_rfl) uag (y_sub (i := s5) (j := end8) tabOk rfl rfl rfl hc.1 hc.2.1 hc.2.2 rfl) rfl ?_
   refine uap (i := 8) (t := tb ((List.drop (Int.toNat s5) (List.take (Int.toNat end8) a0)) != (List.drop (Int.toNat s5) (List.take (Int.toNat end8) a1)))) (uaa (uaa (uad (uaa (uad (uaa uac)))))) rfl (by kernel_rfl) (by kernel_rfl) (by kernel_rfl) uag (uaf tabOk rfl) rfl ?_
   refine uap (i := 9) (t := tb ((List.drop (Int.toNat s5) (List.take (Int.toNat end8) a0)) != (List.drop (Int.toNat s5) (List.take (Int.toNat end8) a1)))) (uaa (uaa (uad (uaa (uad (uaa uac)))))) rfl (by kernel_rfl) (by kernel_rfl) (by kernel_rfl) uag (uaf tabOk rfl) rfl ?_
   refine ulO (d := 38) (b := ((List.drop (Int.toNat s5) (List.take (Int.toNat end8) a0)) != (List.drop (Int.toNat s5) (List.take (Int.toNat end8) a1)))) rfl (fun hb => ?_) (fun hb => ?_)
   ·rw [if_pos hb] at h
    refine ucg (i := 10) (dj := 38) (t := ts a0) (uaa (uaa (uad (uaa (uad (uaa uac)))))) rfl (by kernel_rfl) (by kernel_rfl) (by kernel_rfl) uag (by kernel_rfl) rfl (uaf tabOk rfl) rfl ?_
    refine ucg (i := 11) (dj := 38) (t := ti s5) (uaa (uaa (uad (uaa (uad (uaa uac)))))) rfl (by kernel_rfl) (by kernel_rfl) (by kernel_rfl) uag (by kernel_rfl) rfl (uaf tabOk rfl) rfl ?_
    refine ucg (i := 12) (dj := 38) (t := ti end8) (uaa (uaa (uad (uaa (uad (uaa uac)))))) rfl (by kernel_rfl) (by kernel_rfl) (by kernel_rfl) uag (by kernel_rfl) rfl (uaf tabOk rfl) rfl ?_
    refine iE h fun hc h => ucg (i := 13) (dj := 38) (t := ts (List.drop (Int.toNat s5) (List.take (Int.toNat end8) a0))) (uaa (uaa (uad (uaa (uad (uaa uac)))))) rfl (by kernel_rfl) (by kernel_rfl) (by kernel_rfl) uag (by kernel_rfl) rfl (y_sub (i := s5) (j := end8) tabOk rfl rfl rfl hc.1 hc.2.1 hc.2.2 rfl) rfl ?_
    refine ucg (i := 14) (dj := 38) (t := ti end8) (uaa (uaa (uad (uaa (uad (uaa uac)))))) rfl (by kernel_rfl) (by kernel_rfl) (by kernel_rfl) uag (by kernel_rfl) rfl (uaf tabOk rfl) rfl ?_
    refine ucg (i := 15) (dj := 38) (t := ti s5) (uaa (uaa (uad (uaa (uad (uaa uac)))))) rfl (by kernel_rfl) (by kernel_rfl) (by kernel_rfl) uag (by kernel_rfl) rfl (uaf tabOk rfl) rfl ?_
    refine ucg (i := 16) (dj := 38) (t := ti (IntKind.wrap .i64 (end8 - s5))) (uaa (uaa (uad (uaa (uad (uaa uac)))))) rfl (by kernel_rfl) (by kernel_rfl) (by kernel_rfl) uag (by kernel_rfl) rfl (uaf tabOk rfl) rfl ?_
    refine h_one (i := 17) (by kernel_rfl) rfl ?_
    refine uaI (by rfl) rfl ?_
    refine iE h fun hc h => umQ (B := 1) tabOk rfl el5 rfl zf5 rfl rfl rfl hc.1 hc.2 rfl fun v9 => ?_
    refine za <| h_in uag ?_
    refine uab [0,1,6,38,42,46] rfl <| h_one (i := 18) (by kernel_rfl) rfl ?_
    refine uaI (by rfl) rfl ?_
    refine y (umR tabOk 0 rfl rfl rfl rfl rfl) rfl ?_
    refine za <| h_in uag ?_
    refine uab [0,1,6,38,42,47] rfl <| ucg (i := 19) (dj := 38) (t := tb ((List.drop (Int.toNat s5) (List.take (Int.toNat end8) a0)) != (List.replicate (Int.toNat (IntKind.wrap .i64 (end8 - s5))) (0 : Int)))) (uaa (uaa (uad (uaa (uad (uaa uac)))))) rfl (by kernel_rfl) (by kernel_rfl) (by kernel_rfl) uag (by kernel_rfl) rfl (uaf tabOk rfl) rfl ?_
    refine h_one (i := 20) (by kernel_rfl) rfl ?_
    refine q 1 [(6, ti end8), (49, tb ((List.drop (Int.toNat s5) (List.take (Int.toNat end8) a0)) != (List.replicate (Int.toNat (IntKind.wrap .i64 (end8 - s5))) (0 : Int))))] [0,1] rfl <| za <| h_in uag ?_
    refine uab [0,1,6,49] rfl <| h_end (by kernel_rfl) ?_
    exact zt <| rI h rfl (fun hc h => zu <| p 1 [4] rfl <| zf <| zT <| zB <| zT <| zB <| zT <| by cases h; exact uav rfl (.tmp rfl) (fun _ _ g => g) (fun _ _ _ => List.nil_sublist _)) fun hc h => zk <| zt <| zr <| p 2 [0,1,5] rfl <| zn <| zi <| zt <| pk [] rfl <| uab [0,1,5] rfl <| by exact ubp end8 () (Nat.lt_succ_self _) h rfl rfl
   rw [if_neg (ne_true_of_eq_false hb)] at h
   refine ucc (i := 10) (dj := 38) (uaa (uaa (uad (uaa (uad (uaa uac)))))) rfl (by kernel_rfl) (by kernel_rfl) (by kernel_rfl) uag (by kernel_rfl) rfl rfl ?_
   refine ucc (i := 11) (dj := 38) (uaa (uaa (uad (uaa (uad (uaa uac)))))) rfl (by kernel_rfl) (by kernel_rfl) (by kernel_rfl) uag (by kernel_rfl) rfl rfl ?_
   refine ucc (i := 12) (dj := 38) (uaa (uaa (uad (uaa (uad (uaa uac)))))) rfl (by kernel_rfl) (by kernel_rfl) (by kernel_rfl) uag (by kernel_rfl) rfl rfl ?_
   refine ucc (i := 13) (dj := 38) (uaa (uaa (uad (uaa (uad (uaa uac)))))) rfl (by kernel_rfl) (by kernel_rfl) (by kernel_rfl) uag (by kernel_rfl) rfl rfl ?_
   refine ucc (i := 14) (dj := 38) (uaa (uaa (uad (uaa (uad (uaa uac)))))) rfl (by kernel_rfl) (by kernel_rfl) (by kernel_rfl) uag (by kernel_rfl) rfl rfl ?_
   refine ucc (i := 15) (dj := 38) (uaa (uaa (uad (uaa (uad (uaa uac)))))) rfl (by kernel_rfl) (by kernel_rfl) (by kernel_rfl) uag (by kernel_rfl) rfl rfl ?_
   refine ucc (i := 16) (dj := 38) (uaa (uaa (uad (uaa (uad (uaa uac)))))) rfl (by kernel_rfl) (by kernel_rfl) (by kernel_rfl) uag (by kernel_rfl) rfl rfl ?_
   refine ucc (i := 17) (dj := 38) (uaa (uaa (uad (uaa (uad (uaa uac)))))) rfl (by kernel_rfl) (by kernel_rfl) (by kernel_rfl) uag (by kernel_rfl) rfl rfl ?_
   refine ucc (i := 18) (dj := 38) (uaa (uaa (uad (uaa (uad (uaa uac)))))) rfl (by kernel_rfl) (by kernel_rfl) (by kernel_rfl) uag (by kernel_rfl) rfl rfl ?_
   refine ucc (i := 19) (dj := 38) (uaa (uaa (uad (uaa (uad (uaa uac)))))) rfl (by kernel_rfl) (by kernel_rfl) (by kernel_rfl) uag (by kernel_rfl) rfl rfl ?_
   refine h_one (i := 20) (by kernel_rfl) rfl ?_
   refine p 1 [0,1,6,49] rfl <| za <| h_in uag ?_
   refine uab [0,1,6,49] rfl <| h_end (by kernel_rfl) ?_
   refine zt ?_
   refine r_if (b := false) rfl (fun hc => ?_) (fun hc => ?_)
   ·cases hc
   exact zk <| zt <| zr <| p 2 [0,1,5] rfl <| zn <| zi <| zt <| uab [0,1,5] rfl <| by exact ubp end8 () (Nat.lt_succ_self _) h rfl rfl
  exact zx <| ze <| ze <| zq <| zt <| uab [] rfl <| by exact uai () () h rfl rfl
 refine zu <| p 1 [4] rfl <| zf ?_
 cases h
 exact uav rfl (.tmp rfl) (fun _ _ g => g) (fun _ _ _ => List.nil_sublist _)

theorem ucf (p0 : Value) (p100 : Value) (a0 : Unit × (Int × Unit × List Int × Int × (List (Int × Int × Int × Unit)) × Int × Bool × Unit) × Int × Int × List (List Int) × List Int × Bool × Bool × Unit) (a1 : List (List Int × Int × Int × List Int × Unit)) (a2 : Int) (a100 : DiskS) (r : Bool × (Unit × (Int × Unit × List Int × Int × (List (Int × Int × Int × Unit)) × Int × Bool × Unit) × Int × Int × List (List Int) × List Int × Bool × Bool × Unit) × DiskS) (h : ubH a0 a1 a2 a100 = some r) : FnT Tryz.prog tabs 21 [tp p0, .one (.sl 107 Y107) a1, ti a2] [Res.cls (uct p100) p0 a0, Res.disk Tryz.prog dI p100 a100] (fun _ => tb r.1) (fun _ => [Res.cls (uct p100) p0 r.2.1, Res.disk Tryz.prog dI p100 r.2.2]) := by
 unfold ubH at h
 refine udW Tryz.func21 rfl 217 rfl rfl fun F hT => ?_
 refine ufY fun b3 sv1 sv2 hp => ?_
 subst hp
 refine ub0 (x := a0) (q := p100) ?_
 refine zu <| p 1 [0,1,2] rfl <| za <| zs <| ueL fun sv4 sv5 => ?_
 refine zr <| p 3 [0,1,2,14] rfl <| yl 0 ((.fst .here)) ty23 rfl rfl rfl trivial rfl <| p 1 [0,1,2,15,16] rfl <| cB h fun r6 hr6 h => rc [3] (udo _ _ _ _ hr6) (by kernel_rfl) rfl rfl rfl fun _ => zz <| p 3 [0,1,2,20] rfl <| yl 1 ((.fst .here)) ty23 rfl rfl rfl trivial rfl <| cB h fun r7 hr7 h => rc [0] (ueN _ _ _ hr7) (by kernel_rfl) rfl rfl rfl fun _ => zz <| p 3 [0,1,2,25] rfl <| yl 1 ((.fst .here)) ty23 rfl rfl rfl trivial rfl ?_
 refine p 2 [0,1,26,28] rfl <| cB h fun r8 hr8 h => rc [0] (uds _ _ _ _ hr8) (by kernel_rfl) rfl rfl rfl fun _ => za <| zs <| ud3 (S := AllIs [VarIs b3 45 (.pair (.raw (.pointer none)) (.pair (.raw (.pointer none)) (.pair (.int .i64) (.pair (.int .i64) (.pair (.raw (.slice none 0 0)) (.pair .str (.pair .bool (.pair .bool .unit)))))))) (p100, sv4, a0.2.2.1, a0.2.2.2.1, sv5, a0.2.2.2.2.2.1, a0.2.2.2.2.2.2.1, a0.2.2.2.2.2.2.2.1, a0.2.2.2.2.2.2.2.2)]) (by kernel_rfl) ?_
 refine uap (i := 0) (t := ptr b3 0) (uaa uac) rfl (by kernel_rfl) (by kernel_rfl) (by kernel_rfl) (uae (uaj 1 rfl) uag) (uaf tabOk rfl) rfl ?_
 refine uap (i := 1) (t := ptr b3 0) (uaa uac) rfl (by kernel_rfl) (by kernel_rfl) (by kernel_rfl) (uae (uaj 1 rfl) uag) (uaf tabOk rfl) rfl ?_
 refine uap (i := 2) (t := ptr b3 0) (uaa uac) rfl (by kernel_rfl) (by kernel_rfl) (by kernel_rfl) (uae (uaj 1 rfl) uag) (uaf tabOk rfl) rfl ?_
 refine uap (i := 3) (t := tp p100) (uaa uac) rfl (by kernel_rfl) (by kernel_rfl) (by kernel_rfl) (uae (uaj 1 rfl) uag) (ubQ (S := fun w => AllIs [VarIs b3 45 (.pair (.raw (.pointer none)) (.pair (.raw (.pointer none)) (.pair (.int .i64) (.pair (.int .i64) (.pair (.raw (.slice none 0 0)) (.pair .str (.pair .bool (.pair .bool .unit)))))))) (p100, sv4, a0.2.2.1, a0.2.2.2.1, sv5, a0.2.2.2.2.2.1, a0.2.2.2.2.2.2.1, a0.2.2.2.2.2.2.2.1, a0.2.2.2.2.2.2.2.2)] w) (uba 0 rfl) 1 ((.fst .here)) rfl rfl rfl (by first | rfl | (simp only [Pth.off, T.size]; omega)) (uaC uam) ty23) rfl ?_
 refine uap (i := 4) (t := ptr b3 0) (uaa uac) rfl (by kernel_rfl) (by kernel_rfl) (by kernel_rfl) (uae (uaj 1 rfl) uag) (uaf tabOk rfl) rfl ?_
 refine uap (i := 5) (t := ptr b3 0) (uaa uac) rfl (by kernel_rfl) (by kernel_rfl) (by kernel_rfl) (uae (uaj 1 rfl) uag) (uaf tabOk rfl) rfl ?_
 refine uap (i := 6) (t := ptr b3 2) (uaa uac) rfl (by kernel_rfl) (by kernel_rfl) (by kernel_rfl) (uae (uaj 1 rfl) uag) (uaf tabOk rfl) rfl ?_
 refine uap (i := 7) (t := ti a0.2.2.1) (uaa uac) rfl (by kernel_rfl) (by kernel_rfl) (by kernel_rfl) (uae (uaj 1 rfl) uag) (ubQ (S := fun w => AllIs [VarIs b3 45 (.pair (.raw (.pointer none)) (.pair (.raw (.pointer none)) (.pair (.int .i64) (.pair (.int .i64) (.pair (.raw (.slice none 0 0)) (.pair .str (.pair .bool (.pair .bool .unit)))))))) (p100, sv4, a0.2.2.1, a0.2.2.2.1, sv5, a0.2.2.2.2.2.1, a0.2.2.2.2.2.2.1, a0.2.2.2.2.2.2.2.1, a0.2.2.2.2.2.2.2.2)] w) (uba 0 rfl) 1 ((.snd (.snd (.fst .here)))) rfl rfl rfl (by first | rfl | (simp only [Pth.off, T.size]; omega)) (uaw (uaw (uaC uam))) ty3) rfl ?_
 refine uap (i := 8) (t := ptr b3 0) (uaa uac) rfl (by kernel_rfl) (by kernel_rfl) (by kernel_rfl) (uae (uaj 1 rfl) uag) (uaf tabOk rfl) rfl ?_
 refine uap (i := 9) (t := ptr b3 0) (uaa uac) rfl (by kernel_rfl) (by kernel_rfl) (by kernel_rfl) (uae (uaj 1 rfl) uag) (uaf tabOk rfl) rfl ?_
 refine uap (i := 10) (t := ptr b3 3) (uaa uac) rfl (by kernel_rfl) (by kernel_rfl) (by kernel_rfl) (uae (uaj 1 rfl) uag) (uaf tabOk rfl) rfl ?_
 refine uap (i := 11) (t := ti a0.2.2.2.1) (uaa uac) rfl (by kernel_rfl) (by kernel_rfl) (by kernel_rfl) (uae (uaj 1 rfl) uag) (ubQ (S := fun w => AllIs [VarIs b3 45 (.pair (.raw (.pointer none)) (.pair (.raw (.pointer none)) (.pair (.int .i64) (.pair (.int .i64) (.pair (.raw (.slice none 0 0)) (.pair .str (.pair .bool (.pair .bool .unit)))))))) (p100, sv4, a0.2.2.1, a0.2.2.2.1, sv5, a0.2.2.2.2.2.1, a0.2.2.2.2.2.2.1, a0.2.2.2.2.2.2.2.1, a0.2.2.2.2.2.2.2.2)] w) (uba 0 rfl) 1 ((.snd (.snd (.snd (.fst .here))))) rfl rfl rfl (by first | rfl | (simp only [Pth.off, T.size]; omega)) (uaw (uaw (uaw (uaC uam)))) ty2) rfl ?_
 refine h_one (i := 12) (by kernel_rfl) rfl ?_
 refine cB h fun r9 hr9 h => rcT hT [0] (udS _ _ _ _ _ _ hr9) (by kernel_rfl) rfl rfl rfl fun v10 => za <| h_in (uae (uaj 3 rfl) uag) ?_
 refine uab [0,1,43] rfl <| uap (i := 13) (t := .tup [⟨.raw (.pointer none), (tupv v10 0)⟩, ⟨.raw (.slice none 0 0), (tupv v10 1)⟩, ⟨(.int .i64), r9.2.2.1⟩]) (uaa uac) rfl (by kernel_rfl) (by kernel_rfl) (by kernel_rfl) (uae (uaj 3 rfl) uag) (uaf tabOk rfl) rfl ?_
 refine uap (i := 14) (t := tp (tupv v10 0)) (uaa uac) rfl (by kernel_rfl) (by kernel_rfl) (by kernel_rfl) (uae (uaj 3 rfl) uag) (uaf tabOk rfl) rfl ?_
 refine uap (i := 15) (t := .one (.raw (.slice none 0 0)) (tupv v10 1)) (uaa uac) rfl (by kernel_rfl) (by kernel_rfl) (by kernel_rfl) (uae (uaj 3 rfl) uag) (uaf tabOk rfl) rfl ?_
 refine uap (i := 16) (t := ti r9.2.2.1) (uaa uac) rfl (by kernel_rfl) (by kernel_rfl) (by kernel_rfl) (uae (uaj 3 rfl) uag) (uaf tabOk rfl) rfl ?_
 refine uap (i := 17) (t := tp (tupv v10 0)) (uaa uac) rfl (by kernel_rfl) (by kernel_rfl) (by kernel_rfl) (uae (uaj 3 rfl) uag) (uaf tabOk rfl) rfl ?_
 refine uap (i := 18) (t := .one (.raw (.slice none 0 0)) (tupv v10 1)) (uaa uac) rfl (by kernel_rfl) (by kernel_rfl) (by kernel_rfl) (uae (uaj 3 rfl) uag) (uaf tabOk rfl) rfl ?_
 refine uap (i := 19) (t := ti r9.2.2.1) (uaa uac) rfl (by kernel_rfl) (by kernel_rfl) (by kernel_rfl) (uae (uaj 3 rfl) uag) (uaf tabOk rfl) rfl ?_
 refine h_end (by kernel_rfl) ?_
 refine zt <| jK h (γ := Value × Value) (fun (o12 : Int × DiskS × (Int × Unit × List Int × Int × (List (Int × Int × Int × Unit)) × Int × Bool × Unit) × List (List Int)) g15 => [(0, ptr b3 0), (1, .one (.sl 107 Y107) a1), (7, tp g15.1), (8, .one (.raw (.slice none 0 0)) g15.2), (9, ti o12.1)]) (fun (o12 : Int × DiskS × (Int × Unit × List Int × Int × (List (Int × Int × Int × Unit)) × Int × Bool × Unit) × List (List Int)) g15 => [Res.disk Tryz.prog dI p100 o12.2.1, Res.clsif (CLog p100) g15.1 o12.2.2.1.2 o12.2.2.1.1, Res.own g15.2 9 .str o12.2.2.2, Res.var b3 45 (.pair (.raw (.pointer none)) (.pair (.raw (.pointer none)) (.pair (.int .i64) (.pair (.int .i64) (.pair (.raw (.slice none 0 0)) (.pair .str (.pair .bool (.pair .bool .unit)))))))) (p100, sv4, a0.2.2.1, a0.2.2.2.1, sv5, a0.2.2.2.2.2.1, a0.2.2.2.2.2.2.1, a0.2.2.2.2.2.2.2.1, a0.2.2.2.2.2.2.2.2), Res.clsif (CLog p100) sv4 a0.2.1.2 a0.2.1.1, Res.own sv5 9 .str a0.2.2.2.2.1]) (fun k11 h => ?_) fun o12 g15 h => ?_
 ·refine zu <| q 1 [(7, tp (tupv v10 0)), (8, .one (.raw (.slice none 0 0)) (tupv v10 1)), (9, ti r9.2.2.1), (10, ti 0)] [0,1] rfl <| za <| zb <| uab [0,1,7,8,9,10] rfl <| ubv (γ := Value × Value) (fun (s56 : Int × Int × DiskS × (Int × Unit × List Int × Int × (List (Int × Int × Int × Unit)) × Int × Bool × Unit) × List (List Int)) g59 => [(0, ptr b3 0), (1, .one (.sl 107 Y107) a1), (7, tp g59.1), (8, .one (.raw (.slice none 0 0)) g59.2), (9, ti s56.1), (10, ti s56.2.1)]) (fun (s56 : Int × Int × DiskS × (Int × Unit × List Int × Int × (List (Int × Int × Int × Unit)) × Int × Bool × Unit) × List (List Int)) g59 => [Res.disk Tryz.prog dI p100 s56.2.2.1, Res.clsif (CLog p100) g59.1 s56.2.2.2.1.2 s56.2.2.2.1.1, Res.own g59.2 9 .str s56.2.2.2.2, Res.var b3 45 (.pair (.raw (.pointer none)) (.pair (.raw (.pointer none)) (.pair (.int .i64) (.pair (.int .i64) (.pair (.raw (.slice none 0 0)) (.pair .str (.pair .bool (.pair .bool .unit)))))))) (p100, sv4, a0.2.2.1, a0.2.2.2.1, sv5, a0.2.2.2.2.2.1, a0.2.2.2.2.2.2.1, a0.2.2.2.2.2.2.2.1, a0.2.2.2.2.2.2.2.2), Res.clsif (CLog p100) sv4 a0.2.1.2 a0.2.1.1, Res.own sv5 9 .str a0.2.2.2.2.1]) (uaT a0 a1 k11) (r9.2.2.1, 0, r9.2.2.2, (r9.1.1, r9.1.2), r9.2.1) ((tupv v10 0), (tupv v10 1)) h rfl rfl ?_
  clear h
  intro m60 s56 g59 h
  cases m60 with
  | zero => cases h
  | succ m60 =>
  simp only [uaT] at h
  refine zs <| zu <| q 3 [(7, tp g59.1), (8, .one (.raw (.slice none 0 0)) g59.2), (9, ti s56.1), (10, ti s56.2.1), (49, tb (decide (s56.2.1 < 3)))] [0,1] rfl ?_
  obtain ⟨b61, e, h⟩ := uao h; rw [e]
  refine uaG (γ := Unit) 3 (fun _ => [(0, ptr b3 0), (1, .one (.sl 107 Y107) a1), (7, tp g59.1), (8, .one (.raw (.slice none 0 0)) g59.2), (9, ti s56.1), (10, ti s56.2.1), (52, tb (b61 && (s56.1 != 0)))]) (fun _ => [Res.disk Tryz.prog dI p100 s56.2.2.1, Res.clsif (CLog p100) g59.1 s56.2.2.2.1.2 s56.2.2.2.1.1, Res.own g59.2 9 .str s56.2.2.2.2, Res.var b3 45 (.pair (.raw (.pointer none)) (.pair (.raw (.pointer none)) (.pair (.int .i64) (.pair (.int .i64) (.pair (.raw (.slice none 0 0)) (.pair .str (.pair .bool (.pair .bool .unit)))))))) (p100, sv4, a0.2.2.1, a0.2.2.2.1, sv5, a0.2.2.2.2.2.1, a0.2.2.2.2.2.2.1, a0.2.2.2.2.2.2.2.1, a0.2.2.2.2.2.2.2.2), Res.clsif (CLog p100) sv4 a0.2.1.2 a0.2.1.1, Res.own sv5 9 .str a0.2.2.2.2.1]) ?_ (fun _ => ?_)
  ·clear h
   cases b61
   ·exact p 3 [0,1,7,8,9,10,52] rfl <| za <| by exact uau () rfl rfl
   exact q 3 [(52, tb (s56.1 != 0))] [0,1,7,8,9,10] rfl <| uab [0,1,7,8,9,10,52] rfl <| za <| by exact uau () rfl rfl
  refine za <| rI h rfl (fun hc h => ?_) fun hc h => ?_
  ·refine zk <| zt <| zs <| zb <| zs <| zu <| q 3 [(57, tb (s56.1 != 9))] [0,1,7,8,9,10] rfl ?_
   obtain ⟨b62, e, h⟩ := uao h; rw [e]
   refine uaG (γ := Unit) 3 (fun _ => [(0, ptr b3 0), (1, .one (.sl 107 Y107) a1), (7, tp g59.1), (8, .one (.raw (.slice none 0 0)) g59.2), (9, ti s56.1), (10, ti s56.2.1), (60, tb (b62 && (s56.1 != 40)))]) (fun _ => [Res.disk Tryz.prog dI p100 s56.2.2.1, Res.clsif (CLog p100) g59.1 s56.2.2.2.1.2 s56.2.2.2.1.1, Res.own g59.2 9 .str s56.2.2.2.2, Res.var b3 45 (.pair (.raw (.pointer none)) (.pair (.raw (.pointer none)) (.pair (.int .i64) (.pair (.int .i64) (.pair (.raw (.slice none 0 0)) (.pair .str (.pair .bool (.pair .bool .unit)))))))) (p100, sv4, a0.2.2.1, a0.2.2.2.1, sv5, a0.2.2.2.2.2.1, a0.2.2.2.2.2.2.1, a0.2.2.2.2.2.2.2.1, a0.2.2.2.2.2.2.2.2), Res.clsif (CLog p100) sv4 a0.2.1.2 a0.2.1.1, Res.own sv5 9 .str a0.2.2.2.2.1]) ?_ (fun _ => ?_)
   ·clear h
    cases b62
    ·exact p 3 [0,1,7,8,9,10,60] rfl <| za <| by exact uau () rfl rfl
    exact q 3 [(60, tb (s56.1 != 40))] [0,1,7,8,9,10] rfl <| uab [0,1,7,8,9,10,60] rfl <| za <| by exact uau () rfl rfl
   refine za <| rI h rfl (fun hc h => ?_) fun hc h => ?_
   ·refine zx <| ze <| e_ne rfl ?_
    exact ze <| ze <| zq <| zt <| uab [0,1,7,8,9] rfl <| by exact uai (s56.1, s56.2.2.1, (s56.2.2.2.1.1, s56.2.2.2.1.2), s56.2.2.2.2) (g59.1, g59.2) h rfl rfl
   refine zy <| p 3 [0,1,10,63] rfl <| yl 3 ((.fst .here)) ty23 rfl rfl rfl trivial rfl <| p 1 [0,1,10,64,65] rfl <| cB h fun r63 hr63 h => rc [0] (udo _ _ _ _ hr63) (by kernel_rfl) rfl rfl rfl fun _ => zz <| p 3 [0,1,10,69] rfl <| yl 3 ((.fst .here)) ty23 rfl rfl rfl trivial rfl <| cB h fun r64 hr64 h => rc [0] (ueN _ _ _ hr64) (by kernel_rfl) rfl rfl rfl fun _ => zz <| p 3 [0,1,10,74] rfl <| yl 3 ((.fst .here)) ty23 rfl rfl rfl trivial rfl ?_
   refine cB h fun r65 hr65 h => rc [0] (uds _ _ _ _ hr65) (by kernel_rfl) rfl rfl rfl fun _ => zz <| p 3 [0,1,10,79] rfl <| yl 3 ((.fst .here)) ty23 rfl rfl rfl trivial rfl <| cB h fun r66 hr66 h => rc [0] (ufI _ _ _ _ _ hr66) (by kernel_rfl) rfl rfl rfl fun _ => za <| ud3 (S := AllIs [VarIs b3 45 (.pair (.raw (.pointer none)) (.pair (.raw (.pointer none)) (.pair (.int .i64) (.pair (.int .i64) (.pair (.raw (.slice none 0 0)) (.pair .str (.pair .bool (.pair .bool .unit)))))))) (p100, sv4, a0.2.2.1, a0.2.2.2.1, sv5, a0.2.2.2.2.2.1, a0.2.2.2.2.2.2.1, a0.2.2.2.2.2.2.2.1, a0.2.2.2.2.2.2.2.2)]) (by kernel_rfl) ?_
   refine uap (i := 0) (t := ptr b3 0) (uad (uaa (uaa (uad (uaa uac))))) rfl (by kernel_rfl) (by kernel_rfl) (by kernel_rfl) (uae (uaj 3 rfl) uag) (uaf tabOk rfl) rfl ?_
   refine uap (i := 1) (t := ptr b3 0) (uad (uaa (uaa (uad (uaa uac))))) rfl (by kernel_rfl) (by kernel_rfl) (by kernel_rfl) (uae (uaj 3 rfl) uag) (uaf tabOk rfl) rfl ?_
   refine uap (i := 2) (t := ptr b3 0) (uad (uaa (uaa (uad (uaa uac))))) rfl (by kernel_rfl) (by kernel_rfl) (by kernel_rfl) (uae (uaj 3 rfl) uag) (uaf tabOk rfl) rfl ?_
   refine uap (i := 3) (t := tp p100) (uad (uaa (uaa (uad (uaa uac))))) rfl (by kernel_rfl) (by kernel_rfl) (by kernel_rfl) (uae (uaj 3 rfl) uag) (ubQ (S := fun w => AllIs [VarIs b3 45 (.pair (.raw (.pointer none)) (.pair (.raw (.pointer none)) (.pair (.int .i64) (.pair (.int .i64) (.pair (.raw (.slice none 0 0)) (.pair .str (.pair .bool (.pair .bool .unit)))))))) (p100, sv4, a0.2.2.1, a0.2.2.2.1, sv5, a0.2.2.2.2.2.1, a0.2.2.2.2.2.2.1, a0.2.2.2.2.2.2.2.1, a0.2.2.2.2.2.2.2.2)] w) (uba 0 rfl) 3 ((.fst .here)) rfl rfl rfl (by first | rfl | (simp only [Pth.off, T.size]; omega)) (uaC uam) ty23) rfl ?_
   refine uap (i := 4) (t := ptr b3 0) (uad (uaa (uaa (uad (uaa uac))))) rfl (by kernel_rfl) (by kernel_rfl) (by kernel_rfl) (uae (uaj 3 rfl) uag) (uaf tabOk rfl) rfl ?_
   refine uap (i := 5) (t := ptr b3 0) (uad (uaa (uaa (uad (uaa uac))))) rfl (by kernel_rfl) (by kernel_rfl) (by kernel_rfl) (uae (uaj 3 rfl) uag) (uaf tabOk rfl) rfl ?_
   refine uap (i := 6) (t := ptr b3 2) (uad (uaa (uaa (uad (uaa uac))))) rfl (by kernel_rfl) (by kernel_rfl) (by kernel_rfl) (uae (uaj 3 rfl) uag) (uaf tabOk rfl) rfl ?_
   refine uap (i := 7) (t := ti a0.2.2.1) (uad (uaa (uaa (uad (uaa uac))))) rfl (by kernel_rfl) (by kernel_rfl) (by kernel_rfl) (uae (uaj 3 rfl) uag) (ubQ (S := fun w => AllIs [VarIs b3 45 (.pair (.raw (.pointer none)) (.pair (.raw (.pointer none)) (.pair (.int .i64) (.pair (.int .i64) (.pair (.raw (.slice none 0 0)) (.pair .str (.pair .bool (.pair .bool .unit)))))))) (p100, sv4, a0.2.2.1, a0.2.2.2.1, sv5, a0.2.2.2.2.2.1, a0.2.2.2.2.2.2.1, a0.2.2.2.2.2.2.2.1, a0.2.2.2.2.2.2.2.2)] w) (uba 0 rfl) 3 ((.snd (.snd (.fst .here)))) rfl rfl rfl (by first | rfl | (simp only [Pth.off, T.size]; omega)) (uaw (uaw (uaC uam))) ty3) rfl ?_
   refine uap (i := 8) (t := ptr b3 0) (uad (uaa (uaa (uad (uaa uac))))) rfl (by kernel_rfl) (by kernel_rfl) (by kernel_rfl) (uae (uaj 3 rfl) uag) (uaf tabOk rfl) rfl ?_
   refine uap (i := 9) (t := ptr b3 0) (uad (uaa (uaa (uad (uaa uac))))) rfl (by kernel_rfl) (by kernel_rfl) (by kernel_rfl) (uae (uaj 3 rfl) uag) (uaf tabOk rfl) rfl ?_
   refine uap (i := 10) (t := ptr b3 3) (uad (uaa (uaa (uad (uaa uac))))) rfl (by kernel_rfl) (by kernel_rfl) (by kernel_rfl) (uae (uaj 3 rfl) uag) (uaf tabOk rfl) rfl ?_
   refine uap (i := 11) (t := ti a0.2.2.2.1) (uad (uaa (uaa (uad (uaa uac))))) rfl (by kernel_rfl) (by kernel_rfl) (by kernel_rfl) (uae (uaj 3 rfl) uag) (ubQ (S := fun w => AllIs [VarIs b3 45 (.pair (.raw (.pointer none)) (.pair (.raw (.pointer none)) (.pair (.int .i64) (.pair (.int .i64) (.pair (.raw (.slice none 0 0)) (.pair .str (.pair .bool (.pair .bool .unit)))))))) (p100, sv4, a0.2.2.1, a0.2.2.2.1, sv5, a0.2.2.2.2.2.1, a0.2.2.2.2.2.2.1, a0.2.2.2.2.2.2.2.1, a0.2.2.2.2.2.2.2.2)] w) (uba 0 rfl) 3 ((.snd (.snd (.snd (.fst .here))))) rfl rfl rfl (by first | rfl | (simp only [Pth.off, T.size]; omega)) (uaw (uaw (uaw (uaC uam)))) ty2) rfl ?_
   refine h_one (i := 12) (by kernel_rfl) rfl ?_
   refine cB h fun r67 hr67 h => rcT hT [0] (udS _ _ _ _ _ _ hr67) (by kernel_rfl) rfl rfl rfl fun v68 => za <| h_in (uae (uaj 5 rfl) uag) ?_
   refine uab [0,1,10,95] rfl <| uap (i := 13) (t := .tup [⟨.raw (.pointer none), (tupv v68 0)⟩, ⟨.raw (.slice none 0 0), (tupv v68 1)⟩, ⟨(.int .i64), r67.2.2.1⟩]) (uad (uaa (uaa (uad (uaa uac))))) rfl (by kernel_rfl) (by kernel_rfl) (by kernel_rfl) (uae (uaj 5 rfl) uag) (uaf tabOk rfl) rfl ?_
   refine uap (i := 14) (t := tp (tupv v68 0)) (uad (uaa (uaa (uad (uaa uac))))) rfl (by kernel_rfl) (by kernel_rfl) (by kernel_rfl) (uae (uaj 5 rfl) uag) (uaf tabOk rfl) rfl ?_
   refine uap (i := 15) (t := .one (.raw (.slice none 0 0)) (tupv v68 1)) (uad (uaa (uaa (uad (uaa uac))))) rfl (by kernel_rfl) (by kernel_rfl) (by kernel_rfl) (uae (uaj 5 rfl) uag) (uaf tabOk rfl) rfl ?_
   refine uap (i := 16) (t := ti r67.2.2.1) (uad (uaa (uaa (uad (uaa uac))))) rfl (by kernel_rfl) (by kernel_rfl) (by kernel_rfl) (uae (uaj 5 rfl) uag) (uaf tabOk rfl) rfl ?_
   refine uap (i := 17) (t := tp (tupv v68 0)) (uad (uaa (uaa (uad (uaa uac))))) rfl (by kernel_rfl) (by kernel_rfl) (by kernel_rfl) (uae (uaj 5 rfl) uag) (uaf tabOk rfl) rfl ?_
   refine uap (i := 18) (t := .one (.raw (.slice none 0 0)) (tupv v68 1)) (uad (uaa (uaa (uad (uaa uac))))) rfl (by kernel_rfl) (by kernel_rfl) (by kernel_rfl) (uae (uaj 5 rfl) uag) (uaf tabOk rfl) rfl ?_
   refine uap (i := 19) (t := ti r67.2.2.1) (uad (uaa (uaa (uad (uaa uac))))) rfl (by kernel_rfl) (by kernel_rfl) (by kernel_rfl) (uae (uaj 5 rfl) uag) (uaf tabOk rfl) rfl ?_
   refine h_end (by kernel_rfl) ?_
   refine zi <| zt <| zr <| q 3 [(7, tp (tupv v68 0)), (8, .one (.raw (.slice none 0 0)) (tupv v68 1)), (9, ti r67.2.2.1), (10, ti (IntKind.wrap .i64 (s56.2.1 + 1)))] [0,1] rfl ?_
   obtain ⟨n69, e, h⟩ := uao h; rw [e]
   exact za <| pk [0,0,0,1,1,1,1] rfl <| pk [0,0,0,1,1,1] rfl <| uab [0,1,7,8,9,10] rfl <| by exact ubp (r67.2.2.1, n69, r67.2.2.2, (r67.1.1, r67.1.2), r67.2.1) ((tupv v68 0), (tupv v68 1)) (Nat.lt_succ_self _) h rfl rfl
  exact zx <| ze <| ze <| zq <| zt <| uab [0,1,7,8,9] rfl <| by exact uai (s56.1, s56.2.2.1, (s56.2.2.2.1.1, s56.2.2.2.1.2), s56.2.2.2.2) (g59.1, g59.2) h rfl rfl
 refine zs <| zu <| q 3 [(0, ptr b3 0), (1, .one (.sl 107 Y107) a1), (7, tp g15.1), (8, .one (.raw (.slice none 0 0)) g15.2), (9, ti o12.1), (101, tb (o12.1 == 60))] [] rfl ?_
 obtain ⟨b16, e, h⟩ := uao h; rw [e]
 refine bX h fun k17 hk17 h => ?_
 refine ubh (γ := Unit) 3 (fun (o18 : Bool) _ => [(0, ptr b3 0), (1, .one (.sl 107 Y107) a1), (7, tp g15.1), (8, .one (.raw (.slice none 0 0)) g15.2), (9, ti o12.1), (104, tb o18)]) (fun _ _ => [Res.disk Tryz.prog dI p100 o12.2.1, Res.clsif (CLog p100) g15.1 o12.2.2.1.2 o12.2.2.1.1, Res.own g15.2 9 .str o12.2.2.2, Res.var b3 45 (.pair (.raw (.pointer none)) (.pair (.raw (.pointer none)) (.pair (.int .i64) (.pair (.int .i64) (.pair (.raw (.slice none 0 0)) (.pair .str (.pair .bool (.pair .bool .unit)))))))) (p100, sv4, a0.2.2.1, a0.2.2.2.1, sv5, a0.2.2.2.2.2.1, a0.2.2.2.2.2.2.1, a0.2.2.2.2.2.2.2.1, a0.2.2.2.2.2.2.2.2), Res.clsif (CLog p100) sv4 a0.2.1.2 a0.2.1.1, Res.own sv5 9 .str a0.2.2.2.2.1]) k17 r ?_ ?_
 ·rcases Bool.eq_false_or_eq_true b16 with hh | hh
  ·rw [hh] at h ⊢
   rw [if_pos rfl] at h
   refine p 1 [0,1,7,8,9,101,102] rfl <| uaI (by rfl) rfl ?_
   exact cB h fun r19 hr19 h => ubk (uey _ _ hr19) (by kernel_rfl) rfl rfl <| p 1 [0,1,7,8,9,104] rfl <| zn <| uab [0,1,7,8,9,104] rfl <| zt <| by exact uai r19 () h rfl rfl
  rw [hh] at h ⊢
  rw [if_neg (by decide)] at h
  exact p 3 [0,1,7,8,9,104] rfl <| zn <| uab [0,1,7,8,9,104] rfl <| zt <| by exact uai false () h rfl rfl
 intro o18 _ h
 rw [← hk17] at h
 try dsimp only at h
 refine p 1 [0,1,7,8,9,105] rfl ?_
 refine uaG (γ := Unit) 7 (fun _ => [(0, ptr b3 0), (1, .one (.sl 107 Y107) a1), (7, tp g15.1), (8, .one (.raw (.slice none 0 0)) g15.2), (9, ti o12.1), (112, tb (o18 && ((List.length a0.2.2.2.2.1 : Int) == 0)))]) (fun _ => [Res.disk Tryz.prog dI p100 o12.2.1, Res.clsif (CLog p100) g15.1 o12.2.2.1.2 o12.2.2.1.1, Res.own g15.2 9 .str o12.2.2.2, Res.var b3 45 (.pair (.raw (.pointer none)) (.pair (.raw (.pointer none)) (.pair (.int .i64) (.pair (.int .i64) (.pair (.raw (.slice none 0 0)) (.pair .str (.pair .bool (.pair .bool .unit)))))))) (p100, sv4, a0.2.2.1, a0.2.2.2.1, sv5, a0.2.2.2.2.2.1, a0.2.2.2.2.2.2.1, a0.2.2.2.2.2.2.2.1, a0.2.2.2.2.2.2.2.2), Res.clsif (CLog p100) sv4 a0.2.1.2 a0.2.1.1, Res.own sv5 9 .str a0.2.2.2.2.1]) ?_ (fun _ => ?_)
 ·clear h
  rcases Bool.eq_false_or_eq_true o18 with hh | hh
  ·rw [hh]
   refine p 3 [0,1,7,8,9,105,108] rfl <| uaI (by rfl) rfl ?_
   refine yl 3 ((.snd (.snd (.snd (.snd (.fst .here)))))) tx0 rfl rfl rfl trivial rfl <| uaI (by rfl) rfl ?_
   refine y (uaZ tabOk 5 rfl rfl rfl) rfl ?_
   exact q 2 [(112, tb ((List.length a0.2.2.2.2.1 : Int) == 0))] [0,1,7,8,9] rfl <| uab [0,1,7,8,9,112] rfl <| za <| by exact uau () rfl rfl
  rw [hh]
  exact p 7 [0,1,7,8,9,112] rfl <| za <| by exact uau () rfl rfl
 refine za <| rI h rfl (fun hc h => ?_) fun hc h => ?_
 ·refine zu <| p 3 [115] rfl <| st 3 ((.snd (.snd (.snd (.snd (.snd (.snd (.snd (.fst .here))))))))) ty4 rfl rfl rfl rfl trivial <| zz <| p 1 [6] rfl <| zf <| zT <| pk [3,3,3,0,0,0] rfl <| ub0 (x := ((), a0.2.1, a0.2.2.1, a0.2.2.2.1, a0.2.2.2.2.1, a0.2.2.2.2.2.1, a0.2.2.2.2.2.2.1, true, a0.2.2.2.2.2.2.2.2)) (q := p100) ?_
  cases h
  exact uav rfl (.tmp rfl) (fun _ _ g => g) (fun _ _ _ => (.cons_cons _ (.cons_cons _ (.cons _ (.cons _ .slnil)))))
 refine zk <| zt <| zs <| zs <| udc (i := 2) (k := 8) rfl rfl ?_
 refine uft (by kernel_rfl) (by kernel_rfl) ?_
 refine uaD tabOk 3 [0, 1, 7, 8, 118] (E' := [(0, ptr b3 0), (1, .one (.sl 107 Y107) a1), (7, tp g15.1), (8, .one (.sl 9 .str) o12.2.2.2), (118, tb (o12.1 != 0))]) rfl ?_
 obtain ⟨b21, e, h⟩ := uao h; rw [e]
 refine uhL 3 [(0, ptr b3 0), (1, .one (.sl 107 Y107) a1), (7, tp g15.1), (8, .one (.sl 9 .str) o12.2.2.2), (121, tb (b21 || (o12.2.2.1.1 != 0)))] ?_ ?_
 ·clear h
  cases b21
  ·refine uaD tabOk 1 [0, 1, 7, 8, 118, 119] (E' := [(0, ptr b3 0), (1, .one (.sl 107 Y107) a1), (7, tp g15.1), (8, .one (.sl 9 .str) o12.2.2.2), (118, tb false), (119, tp g15.1)]) rfl ?_
   refine ubV (by rfl) rfl ?_
   refine q_y (uiq 1 rfl rfl Tryz.underlying33) rfl ?_
   refine uaD tabOk 1 [0, 1, 7, 8, 121] (E' := [(0, ptr b3 0), (1, .one (.sl 107 Y107) a1), (7, tp g15.1), (8, .one (.sl 9 .str) o12.2.2.2), (121, tb (o12.2.2.1.1 != 0))]) rfl ?_
   refine ucn ?_
   exact uf8 rfl
  refine uaD tabOk 3 [0, 1, 7, 8, 121] (E' := [(0, ptr b3 0), (1, .one (.sl 107 Y107) a1), (7, tp g15.1), (8, .one (.sl 9 .str) o12.2.2.2), (121, tb true)]) rfl ?_
  refine ucn ?_
  exact uf8 rfl
 refine uaD tabOk 1 [0, 1, 7, 8, 122] (E' := [(0, ptr b3 0), (1, .one (.sl 107 Y107) a1), (7, tp g15.1), (8, .one (.sl 9 .str) o12.2.2.2), (122, tb (b21 || (o12.2.2.1.1 != 0)))]) rfl ?_
 obtain ⟨b22, e, h⟩ := uao h; rw [e]
 refine uhL 9 [(0, ptr b3 0), (1, .one (.sl 107 Y107) a1), (7, tp g15.1), (8, .one (.sl 9 .str) o12.2.2.2), (131, tb (b22 || (decide ((List.length o12.2.2.2 : Int) < (List.length a0.2.2.2.2.1 : Int)))))] ?_ ?_
 ·clear h
  cases b22
  ·refine uaD tabOk 5 [0, 1, 7, 8, 122, 124, 127] (E' := [(0, ptr b3 0), (1, .one (.sl 107 Y107) a1), (7, tp g15.1), (8, .one (.sl 9 .str) o12.2.2.2), (122, tb false), (124, ti (List.length o12.2.2.2 : Int)), (127, ptr b3 4)]) rfl ?_
   refine ubV (by rfl) rfl ?_
   refine q_y (ubx 2 ((.snd (.snd (.snd (.snd (.fst .here)))))) rfl rfl (by first | rfl | (simp only [Pth.off, T.size]; omega)) (uaw (uaw (uaw (uaw (uaC uam))))) tx0) rfl ?_
   refine ubV (by rfl) rfl ?_
   refine q_y (uaZ tabOk 4 rfl rfl rfl) rfl ?_
   refine uaD tabOk 2 [0, 1, 7, 8, 131] (E' := [(0, ptr b3 0), (1, .one (.sl 107 Y107) a1), (7, tp g15.1), (8, .one (.sl 9 .str) o12.2.2.2), (131, tb (decide ((List.length o12.2.2.2 : Int) < (List.length a0.2.2.2.2.1 : Int))))]) rfl ?_
   refine ucn ?_
   exact uf8 rfl
  refine uaD tabOk 9 [0, 1, 7, 8, 131] (E' := [(0, ptr b3 0), (1, .one (.sl 107 Y107) a1), (7, tp g15.1), (8, .one (.sl 9 .str) o12.2.2.2), (131, tb true)]) rfl ?_
  refine ucn ?_
  exact uf8 rfl
 refine uaD tabOk 1 [0, 1, 7, 8, 132] (E' := [(0, ptr b3 0), (1, .one (.sl 107 Y107) a1), (7, tp g15.1), (8, .one (.sl 9 .str) o12.2.2.2), (132, tb (b22 || (decide ((List.length o12.2.2.2 : Int) < (List.length a0.2.2.2.2.1 : Int)))))]) rfl ?_
 obtain ⟨b23, e, h⟩ := uao h; rw [e]
 refine bX h fun k24 hk24 h => ?_
 refine udU 14 (fun (o25 : Bool) => [(0, ptr b3 0), (1, .one (.sl 107 Y107) a1), (7, tp g15.1), (8, .one (.sl 9 .str) o12.2.2.2), (146, tb o25)]) k24 r ?_ ?_
 ·rcases Bool.eq_false_or_eq_true b23 with hh | hh
  ·rw [hh] at h ⊢
   rw [if_pos rfl] at h
   refine uaD tabOk 14 [0, 1, 7, 8, 146] (E' := [(0, ptr b3 0), (1, .one (.sl 107 Y107) a1), (7, tp g15.1), (8, .one (.sl 9 .str) o12.2.2.2), (146, tb true)]) rfl ?_
   refine ucn ?_
   exact ucS true [0, 1, 7, 8, 146] h rfl
  rw [hh] at h ⊢
  rw [if_neg (by decide)] at h
  refine uaD tabOk 4 [0, 1, 7, 8, 132, 133, 136] (E' := [(0, ptr b3 0), (1, .one (.sl 107 Y107) a1), (7, tp g15.1), (8, .one (.sl 9 .str) o12.2.2.2), (132, tb false), (133, .one (.sl 9 .str) o12.2.2.2), (136, ptr b3 4)]) rfl ?_
  refine ubV (by rfl) rfl ?_
  refine q_y (ubx 2 ((.snd (.snd (.snd (.snd (.fst .here)))))) rfl rfl (by first | rfl | (simp only [Pth.off, T.size]; omega)) (uaw (uaw (uaw (uaw (uaC uam))))) tx0) rfl ?_
  refine ubV (by rfl) rfl ?_
  refine q_y (uaZ tabOk 4 rfl rfl rfl) rfl ?_
  refine ubV (by rfl) rfl ?_
  refine iE h fun hc h => q_y (uiP (i := (0 : Int)) (j := (List.length a0.2.2.2.2.1 : Int)) tabOk rfl rfl rfl hc.1 hc.2.1 hc.2.2 rfl ty9) rfl ?_
  refine uaD tabOk 3 [0, 1, 7, 8, 132, 139, 142] (E' := [(0, ptr b3 0), (1, .one (.sl 107 Y107) a1), (7, tp g15.1), (8, .one (.sl 9 .str) o12.2.2.2), (132, tb false), (139, .one (.sl 9 .str) (List.drop 0 (List.take (Int.toNat (List.length a0.2.2.2.2.1 : Int)) o12.2.2.2))), (142, ptr b3 4)]) rfl ?_
  refine ubV (by rfl) rfl ?_
  refine q_y (ubx 2 ((.snd (.snd (.snd (.snd (.fst .here)))))) rfl rfl (by first | rfl | (simp only [Pth.off, T.size]; omega)) (uaw (uaw (uaw (uaw (uaC uam))))) tx0) rfl ?_
  refine ubV (by rfl) rfl ?_
  refine cB h fun r26 hr26 h => uoH (ucE (List.drop 0 (List.take (Int.toNat (List.length a0.2.2.2.2.1 : Int)) o12.2.2.2)) a0.2.2.2.2.1 _ hr26) (by kernel_rfl) rfl (.val rfl (.own 4 rfl rfl .nil)) rfl ?_
  refine uaD tabOk 2 [0, 1, 7, 8, 146] (E' := [(0, ptr b3 0), (1, .one (.sl 107 Y107) a1), (7, tp g15.1), (8, .one (.sl 9 .str) o12.2.2.2), (146, tb (!r26))]) rfl ?_
  refine ucn ?_
  exact ucS (!r26) [0, 1, 7, 8, 146] h rfl
 intro o25 h
 rw [← hk24] at h
 try dsimp only at h
 refine q_nil ?_
 refine zt <| rI h rfl (fun hc h => ?_) fun hc h => ?_
 ·refine zu <| p 1 [6] rfl <| zf <| zT <| pk [2,2,2,0,0] rfl <| ub0 (x := a0) (q := p100) ?_
  cases h
  exact uav rfl (.tmp rfl) (fun _ _ g => g) (fun _ _ _ => (.cons_cons _ (.cons_cons _ (.cons _ .slnil))))
 refine zy <| q 4 [(8, .one (.sl 9 .str) o12.2.2.2), (147, .one (.sl 9 .str) o12.2.2.2), (150, ptr b3 4)] [0,1,7] rfl <| yl 2 ((.snd (.snd (.snd (.snd (.fst .here)))))) tx0 rfl rfl rfl trivial rfl <| y (uaZ tabOk 4 rfl rfl rfl) rfl ?_
 refine iE h fun hc h => y (uiP (i := (List.length a0.2.2.2.2.1 : Int)) (j := (List.length o12.2.2.2 : Int)) tabOk rfl rfl rfl hc.1 hc.2.1 hc.2.2 rfl ty9) rfl ?_
 refine q 1 [(11, .one (.sl 9 .str) (List.drop (Int.toNat (List.length a0.2.2.2.2.1 : Int)) (List.take (Int.toNat (List.length o12.2.2.2 : Int)) o12.2.2.2)))] [0,1,7,8] rfl ?_
 obtain ⟨more27, e, h⟩ := uao h; rw [e]
 refine za <| zs <| zs <| uft (by kernel_rfl) (by kernel_rfl) ?_
 refine uaD tabOk 1 [0, 7, 8, 11, 154] (E' := [(0, ptr b3 0), (7, tp g15.1), (8, .one (.sl 9 .str) o12.2.2.2), (11, .one (.sl 9 .str) more27), (154, .one (.sl 107 Y107) a1)]) rfl ?_
 refine cB h fun r28 hr28 h => uls (uey a1 _ hr28) (by kernel_rfl) rfl rfl rfl ?_
 refine uaD tabOk 2 [0, 7, 8, 11, 157] (E' := [(0, ptr b3 0), (7, tp g15.1), (8, .one (.sl 9 .str) o12.2.2.2), (11, .one (.sl 9 .str) more27), (157, tb (!r28))]) rfl ?_
 obtain ⟨b29, e, h⟩ := uao h; rw [e]
 refine bX h fun k30 hk30 h => ?_
 refine udU 37 (fun (o31 : Bool) => [(0, ptr b3 0), (7, tp g15.1), (8, .one (.sl 9 .str) o12.2.2.2), (194, tb o31)]) k30 r ?_ ?_
 ·rcases Bool.eq_false_or_eq_true b29 with hh | hh
  ·rw [hh] at h ⊢
   rw [if_pos rfl] at h
   refine uaD tabOk 4 [0, 7, 8, 11, 157, 161] (E' := [(0, ptr b3 0), (7, tp g15.1), (8, .one (.sl 9 .str) o12.2.2.2), (11, .one (.sl 9 .str) more27), (157, tb true), (161, tb (decide ((List.length more27 : Int) > 1)))]) rfl ?_
   obtain ⟨b32, e, h⟩ := uao h; rw [e]
   refine bX h fun k33 hk33 h => ?_
   refine udU 32 (fun (o34 : Bool) => [(0, ptr b3 0), (7, tp g15.1), (8, .one (.sl 9 .str) o12.2.2.2), (157, tb true), (193, tb o34)]) k33 r ?_ ?_
   ·rcases Bool.eq_false_or_eq_true b32 with hh | hh
    ·rw [hh] at h ⊢
     rw [if_pos rfl] at h
     refine uaD tabOk 32 [0, 7, 8, 157, 193] (E' := [(0, ptr b3 0), (7, tp g15.1), (8, .one (.sl 9 .str) o12.2.2.2), (157, tb true), (193, tb true)]) rfl ?_
     refine ucn ?_
     exact ucS true [0, 7, 8, 157, 193] h rfl
    rw [hh] at h ⊢
    rw [if_neg (by decide)] at h
    refine uaD tabOk 4 [0, 7, 8, 11, 157, 161, 165] (E' := [(0, ptr b3 0), (7, tp g15.1), (8, .one (.sl 9 .str) o12.2.2.2), (11, .one (.sl 9 .str) more27), (157, tb true), (161, tb false), (165, tb ((List.length more27 : Int) == 1))]) rfl ?_
    obtain ⟨b35, e, h⟩ := uao h; rw [e]
    refine bX h fun k36 hk36 h => ?_
    refine udU 27 (fun (o37 : Bool) => [(0, ptr b3 0), (7, tp g15.1), (8, .one (.sl 9 .str) o12.2.2.2), (157, tb true), (161, tb false), (192, tb o37)]) k36 r ?_ ?_
    ·rcases Bool.eq_false_or_eq_true b35 with hh | hh
     ·rw [hh] at h ⊢
      rw [if_pos rfl] at h
      refine uaD tabOk 3 [0, 7, 8, 11, 157, 161, 165, 168] (E' := [(0, ptr b3 0), (7, tp g15.1), (8, .one (.sl 9 .str) o12.2.2.2), (11, .one (.sl 9 .str) more27), (157, tb true), (161, tb false), (165, tb true), (168, ptr b3 6)]) rfl ?_
      refine ubV (by rfl) rfl ?_
      refine q_y (ubx 2 ((.snd (.snd (.snd (.snd (.snd (.snd (.fst .here)))))))) rfl rfl (by first | rfl | (simp only [Pth.off, T.size]; omega)) (uaw (uaw (uaw (uaw (uaw (uaw (uaC uam))))))) ty4) rfl ?_
      refine uaD tabOk 2 [0, 7, 8, 11, 157, 161, 165, 171] (E' := [(0, ptr b3 0), (7, tp g15.1), (8, .one (.sl 9 .str) o12.2.2.2), (11, .one (.sl 9 .str) more27), (157, tb true), (161, tb false), (165, tb true), (171, tb (!a0.2.2.2.2.2.2.1))]) rfl ?_
      obtain ⟨b38, e, h⟩ := uao h; rw [e]
      refine bX h fun k39 hk39 h => ?_
      refine udU 20 (fun (o40 : Bool) => [(0, ptr b3 0), (7, tp g15.1), (8, .one (.sl 9 .str) o12.2.2.2), (157, tb true), (161, tb false), (165, tb true), (191, tb o40)]) k39 r ?_ ?_
      ·rcases Bool.eq_false_or_eq_true b38 with hh | hh
       ·rw [hh] at h ⊢
        rw [if_pos rfl] at h
        refine uaD tabOk 20 [0, 7, 8, 157, 161, 165, 191] (E' := [(0, ptr b3 0), (7, tp g15.1), (8, .one (.sl 9 .str) o12.2.2.2), (157, tb true), (161, tb false), (165, tb true), (191, tb true)]) rfl ?_
        refine ucn ?_
        exact ucS true [0, 7, 8, 157, 161, 165, 191] h rfl
       rw [hh] at h ⊢
       rw [if_neg (by decide)] at h
       refine uaD tabOk 1 [0, 7, 8, 11, 157, 161, 165, 171, 172] (E' := [(0, ptr b3 0), (7, tp g15.1), (8, .one (.sl 9 .str) o12.2.2.2), (11, .one (.sl 9 .str) more27), (157, tb true), (161, tb false), (165, tb true), (171, tb false), (172, .one (.sl 9 .str) more27)]) rfl ?_
       refine ubV (by rfl) rfl ?_
       refine iE h fun hc h => q_y (ue5 tabOk rfl rfl hc.1 hc.2 rfl ty9) rfl ?_
       refine ubV (by rfl) rfl ?_
       refine q_y (y_ref rfl ty9) rfl ?_
       refine uaD tabOk 3 [0, 7, 8, 11, 157, 161, 165, 171, 174, 177] (E' := [(0, ptr b3 0), (7, tp g15.1), (8, .one (.sl 9 .str) o12.2.2.2), (11, .one (.sl 9 .str) more27), (157, tb true), (161, tb false), (165, tb true), (171, tb false), (174, ts (List.getD more27 0 [])), (177, ptr b3 5)]) rfl ?_
       refine ubV (by rfl) rfl ?_
       refine q_y (ubx 2 ((.snd (.snd (.snd (.snd (.snd (.fst .here))))))) rfl rfl (by first | rfl | (simp only [Pth.off, T.size]; omega)) (uaw (uaw (uaw (uaw (uaw (uaC uam)))))) ty9) rfl ?_
       refine uaD tabOk 2 [0, 7, 8, 11, 157, 161, 165, 171, 180] (E' := [(0, ptr b3 0), (7, tp g15.1), (8, .one (.sl 9 .str) o12.2.2.2), (11, .one (.sl 9 .str) more27), (157, tb true), (161, tb false), (165, tb true), (171, tb false), (180, tb ((List.getD more27 0 []) != a0.2.2.2.2.2.1))]) rfl ?_
       obtain ⟨b41, e, h⟩ := uao h; rw [e]
       refine bX h fun k42 hk42 h => ?_
       refine udU 10 (fun (o43 : Bool) => [(0, ptr b3 0), (7, tp g15.1), (8, .one (.sl 9 .str) o12.2.2.2), (157, tb true), (161, tb false), (165, tb true), (171, tb false), (190, tb o43)]) k42 r ?_ ?_
       ·rcases Bool.eq_false_or_eq_true b41 with hh | hh
        ·rw [hh] at h ⊢
         rw [if_pos rfl] at h
         refine uaD tabOk 1 [0, 7, 8, 157, 161, 165, 171, 180, 181] (E' := [(0, ptr b3 0), (7, tp g15.1), (8, .one (.sl 9 .str) o12.2.2.2), (157, tb true), (161, tb false), (165, tb true), (171, tb false), (180, tb true), (181, .one (.sl 9 .str) more27)]) rfl ?_
         refine ubV (by rfl) rfl ?_
         refine iE h fun hc h => q_y (ue5 tabOk rfl rfl hc.1 hc.2 rfl ty9) rfl ?_
         refine ubV (by rfl) rfl ?_
         refine q_y (y_ref rfl ty9) rfl ?_
         refine uaD tabOk 3 [0, 7, 8, 157, 161, 165, 171, 180, 183, 186] (E' := [(0, ptr b3 0), (7, tp g15.1), (8, .one (.sl 9 .str) o12.2.2.2), (157, tb true), (161, tb false), (165, tb true), (171, tb false), (180, tb true), (183, ts (List.getD more27 0 [])), (186, ptr b3 5)]) rfl ?_
         refine ubV (by rfl) rfl ?_
         refine q_y (ubx 2 ((.snd (.snd (.snd (.snd (.snd (.fst .here))))))) rfl rfl (by first | rfl | (simp only [Pth.off, T.size]; omega)) (uaw (uaw (uaw (uaw (uaw (uaC uam)))))) ty9) rfl ?_
         refine ubV (by rfl) rfl ?_
         refine cB h fun r44 hr44 h => uls (ugD (List.getD more27 0 []) a0.2.2.2.2.2.1 _ hr44) (by kernel_rfl) rfl rfl rfl ?_
         refine uaD tabOk 2 [0, 7, 8, 157, 161, 165, 171, 190] (E' := [(0, ptr b3 0), (7, tp g15.1), (8, .one (.sl 9 .str) o12.2.2.2), (157, tb true), (161, tb false), (165, tb true), (171, tb false), (190, tb (!r44))]) rfl ?_
         refine ucn ?_
         exact ucS (!r44) [0, 7, 8, 157, 161, 165, 171, 190] h rfl
        rw [hh] at h ⊢
        rw [if_neg (by decide)] at h
        refine uaD tabOk 10 [0, 7, 8, 157, 161, 165, 171, 190] (E' := [(0, ptr b3 0), (7, tp g15.1), (8, .one (.sl 9 .str) o12.2.2.2), (157, tb true), (161, tb false), (165, tb true), (171, tb false), (190, tb false)]) rfl ?_
        refine ucn ?_
        exact ucS false [0, 7, 8, 157, 161, 165, 171, 190] h rfl
       intro o43 h
       rw [← hk42] at h
       try dsimp only at h
       refine uaD tabOk 1 [0, 7, 8, 157, 161, 165, 191] (E' := [(0, ptr b3 0), (7, tp g15.1), (8, .one (.sl 9 .str) o12.2.2.2), (157, tb true), (161, tb false), (165, tb true), (191, tb o43)]) rfl ?_
       refine ucn ?_
       exact ucS o43 [0, 7, 8, 157, 161, 165, 191] h rfl
      intro o40 h
      rw [← hk39] at h
      try dsimp only at h
      refine uaD tabOk 1 [0, 7, 8, 157, 161, 192] (E' := [(0, ptr b3 0), (7, tp g15.1), (8, .one (.sl 9 .str) o12.2.2.2), (157, tb true), (161, tb false), (192, tb o40)]) rfl ?_
      refine ucn ?_
      exact ucS o40 [0, 7, 8, 157, 161, 192] h rfl
     rw [hh] at h ⊢
     rw [if_neg (by decide)] at h
     refine uaD tabOk 27 [0, 7, 8, 157, 161, 192] (E' := [(0, ptr b3 0), (7, tp g15.1), (8, .one (.sl 9 .str) o12.2.2.2), (157, tb true), (161, tb false), (192, tb false)]) rfl ?_
     refine ucn ?_
     exact ucS false [0, 7, 8, 157, 161, 192] h rfl
    intro o37 h
    rw [← hk36] at h
    try dsimp only at h
    refine uaD tabOk 1 [0, 7, 8, 157, 193] (E' := [(0, ptr b3 0), (7, tp g15.1), (8, .one (.sl 9 .str) o12.2.2.2), (157, tb true), (193, tb o37)]) rfl ?_
    refine ucn ?_
    exact ucS o37 [0, 7, 8, 157, 193] h rfl
   intro o34 h
   rw [← hk33] at h
   try dsimp only at h
   refine uaD tabOk 1 [0, 7, 8, 194] (E' := [(0, ptr b3 0), (7, tp g15.1), (8, .one (.sl 9 .str) o12.2.2.2), (194, tb o34)]) rfl ?_
   refine ucn ?_
   exact ucS o34 [0, 7, 8, 194] h rfl
  rw [hh] at h ⊢
  rw [if_neg (by decide)] at h
  refine uaD tabOk 37 [0, 7, 8, 194] (E' := [(0, ptr b3 0), (7, tp g15.1), (8, .one (.sl 9 .str) o12.2.2.2), (194, tb false)]) rfl ?_
  refine ucn ?_
  exact ucS false [0, 7, 8, 194] h rfl
 intro o31 h
 rw [← hk30] at h
 try dsimp only at h
 refine q_nil ?_
 refine zt <| rI h rfl (fun hc h => ?_) fun hc h => ?_
 ·refine zu <| p 1 [6] rfl <| zf <| zT <| pk [2,2,2,0,0] rfl <| ub0 (x := a0) (q := p100) ?_
  cases h
  exact uav rfl (.tmp rfl) (fun _ _ g => g) (fun _ _ _ => (.cons_cons _ (.cons_cons _ (.cons _ .slnil))))
 refine zy <| q 4 [(196, tp g15.1), (198, ptr b3 1)] [0,7,8] rfl <| st 2 ((.snd (.fst .here))) ty33 rfl rfl rfl rfl trivial <| pk [0,0,0,1] rfl <| zz <| q 2 [(199, ptr b3 0), (200, .one (.sl 9 .str) o12.2.2.2)] [0,7,8] rfl <| ua1 (.slice none 0 0) rfl 9 .str ?_
 refine iE h fun hc h => ubd (B := 16) tabOk 0 rfl rfl (uf9 rfl) rfl el9 rfl rfl hc rfl fun v45 => ?_
 refine p 2 [0,7,8,201,203] rfl <| st 3 ((.snd (.snd (.snd (.snd (.fst .here)))))) tx0 rfl rfl rfl rfl trivial <| pk [0,0,0,0] rfl <| zz <| p 3 [0,7,8,206] rfl <| st 3 ((.snd (.snd (.snd (.snd (.snd (.snd (.fst .here)))))))) ty4 rfl rfl rfl rfl trivial <| za <| jK h (γ := Unit) (fun (o47 : Bool) _ => [(6, tb o47)]) (fun (o47 : Bool) _ => [Res.clsif (CLog p100) g15.1 o12.2.2.1.2 o12.2.2.1.1, Res.disk Tryz.prog dI p100 o12.2.1, Res.own v45 9 .str ([] ++ o12.2.2.2), Res.var b3 45 (.pair (.raw (.pointer none)) (.pair (.raw (.pointer none)) (.pair (.int .i64) (.pair (.int .i64) (.pair (.raw (.slice none 0 0)) (.pair .str (.pair .bool (.pair .bool .unit)))))))) (p100, g15.1, a0.2.2.1, a0.2.2.2.1, v45, a0.2.2.2.2.2.1, false, a0.2.2.2.2.2.2.2.1, a0.2.2.2.2.2.2.2.2)]) (fun k46 h => ?_) fun o47 gg h => ?_
 ·refine r_any (by kernel_rfl) ?_
  refine uah (i := 0) (t := tp g15.1) (uaa uac) rfl (by kernel_rfl) (by kernel_rfl) (by kernel_rfl) (uaf tabOk rfl) rfl ?_
  refine uah (i := 2) (t := ptr b3 0) (uaa uac) rfl (by kernel_rfl) (by kernel_rfl) (by kernel_rfl) (uaf tabOk rfl) rfl ?_
  refine uah (i := 6) (t := .one (.sl 9 .str) o12.2.2.2) (uaa uac) rfl (by kernel_rfl) (by kernel_rfl) (by kernel_rfl) (uaf tabOk rfl) rfl ?_
  refine uah (i := 7) (t := ti (List.length o12.2.2.2 : Int)) (uaa uac) rfl (by kernel_rfl) (by kernel_rfl) (by kernel_rfl) (uaf tabOk rfl) rfl ?_
  refine a_two (i := 1) (j := 3) (by kernel_rfl) rfl rfl ?_ ?_
  ·obtain ⟨he48, h⟩ := ubo h
   refine uay (R' := Res.cls (CLog p100) g15.1 o12.2.2.1.2) 2 rfl (udn he48) <| cB h fun r49 hr49 h => rc [2,1] (ub6 _ _ _ _ _ hr49) (by kernel_rfl) rfl rfl rfl fun _ => za <| uab [208,209,214] rfl <| a_one (i := 3) (by kernel_rfl) rfl ?_
   refine q 1 [(208, ti r49), (210, ptr b3 0), (214, ti (List.length o12.2.2.2 : Int))] [] rfl <| za <| uab [208,210,214] rfl <| uah (i := 4) (t := ptr b3 3) (uaa uac) rfl (by kernel_rfl) (by kernel_rfl) (by kernel_rfl) (uaf tabOk rfl) rfl ?_
   refine a_one (i := 5) (by kernel_rfl) rfl ?_
   refine yl 3 ((.snd (.snd (.snd (.fst .here))))) ty2 rfl rfl rfl trivial rfl <| za <| uab [208,212,214] rfl <| uah (i := 8) (t := ti (IntKind.wrap .i64 (a0.2.2.2.1 + (List.length o12.2.2.2 : Int)))) (uaa uac) rfl (by kernel_rfl) (by kernel_rfl) (by kernel_rfl) (uaf tabOk rfl) rfl ?_
   refine uah (i := 9) (t := tb (r49 == (IntKind.wrap .i64 (a0.2.2.2.1 + (List.length o12.2.2.2 : Int))))) (uaa uac) rfl (by kernel_rfl) (by kernel_rfl) (by kernel_rfl) (uaf tabOk rfl) rfl ?_
   refine uah (i := 10) (t := tb (r49 == (IntKind.wrap .i64 (a0.2.2.2.1 + (List.length o12.2.2.2 : Int))))) (uaa uac) rfl (by kernel_rfl) (by kernel_rfl) (by kernel_rfl) (uaf tabOk rfl) rfl ?_
   refine a_end (by kernel_rfl) ?_
   exact zt <| uay (R' := Res.clsif (CLog p100) g15.1 o12.2.2.1.2 o12.2.2.1.1) 0 rfl (ucB he48) <| uab [6] rfl <| by exact uai (r49 == (IntKind.wrap .i64 (a0.2.2.2.1 + (List.length o12.2.2.2 : Int)))) () h rfl rfl
  refine q 1 [(207, tp g15.1), (210, ptr b3 0), (214, ti (List.length o12.2.2.2 : Int))] [] rfl <| za <| uab [207,210,214] rfl <| uah (i := 4) (t := ptr b3 3) (uaa uac) rfl (by kernel_rfl) (by kernel_rfl) (by kernel_rfl) (uaf tabOk rfl) rfl ?_
  refine a_two (i := 1) (j := 5) (by kernel_rfl) rfl rfl ?_ ?_
  ·obtain ⟨he48, h⟩ := ubo h
   refine uay (R' := Res.cls (CLog p100) g15.1 o12.2.2.1.2) 2 rfl (udn he48) <| cB h fun r49 hr49 h => rc [2,1] (ub6 _ _ _ _ _ hr49) (by kernel_rfl) rfl rfl rfl fun _ => za <| uab [208,211,214] rfl <| a_one (i := 5) (by kernel_rfl) rfl ?_
   refine yl 3 ((.snd (.snd (.snd (.fst .here))))) ty2 rfl rfl rfl trivial rfl <| za <| uab [208,212,214] rfl <| uah (i := 8) (t := ti (IntKind.wrap .i64 (a0.2.2.2.1 + (List.length o12.2.2.2 : Int)))) (uaa uac) rfl (by kernel_rfl) (by kernel_rfl) (by kernel_rfl) (uaf tabOk rfl) rfl ?_
   refine uah (i := 9) (t := tb (r49 == (IntKind.wrap .i64 (a0.2.2.2.1 + (List.length o12.2.2.2 : Int))))) (uaa uac) rfl (by kernel_rfl) (by kernel_rfl) (by kernel_rfl) (uaf tabOk rfl) rfl ?_
   refine uah (i := 10) (t := tb (r49 == (IntKind.wrap .i64 (a0.2.2.2.1 + (List.length o12.2.2.2 : Int))))) (uaa uac) rfl (by kernel_rfl) (by kernel_rfl) (by kernel_rfl) (uaf tabOk rfl) rfl ?_
   refine a_end (by kernel_rfl) ?_
   exact zt <| uay (R' := Res.clsif (CLog p100) g15.1 o12.2.2.1.2 o12.2.2.1.1) 0 rfl (ucB he48) <| uab [6] rfl <| by exact uai (r49 == (IntKind.wrap .i64 (a0.2.2.2.1 + (List.length o12.2.2.2 : Int)))) () h rfl rfl
  refine yl 3 ((.snd (.snd (.snd (.fst .here))))) ty2 rfl rfl rfl trivial rfl <| za <| uab [207,212,214] rfl <| uah (i := 8) (t := ti (IntKind.wrap .i64 (a0.2.2.2.1 + (List.length o12.2.2.2 : Int)))) (uaa uac) rfl (by kernel_rfl) (by kernel_rfl) (by kernel_rfl) (uaf tabOk rfl) rfl ?_
  refine a_one (i := 1) (by kernel_rfl) rfl ?_
  obtain ⟨he48, h⟩ := ubo h
  refine uay (R' := Res.cls (CLog p100) g15.1 o12.2.2.1.2) 2 rfl (udn he48) <| cB h fun r49 hr49 h => rc [2,1] (ub6 _ _ _ _ _ hr49) (by kernel_rfl) rfl rfl rfl fun _ => za <| uab [208,215] rfl <| uah (i := 9) (t := tb (r49 == (IntKind.wrap .i64 (a0.2.2.2.1 + (List.length o12.2.2.2 : Int))))) (uaa uac) rfl (by kernel_rfl) (by kernel_rfl) (by kernel_rfl) (uaf tabOk rfl) rfl ?_
  refine uah (i := 10) (t := tb (r49 == (IntKind.wrap .i64 (a0.2.2.2.1 + (List.length o12.2.2.2 : Int))))) (uaa uac) rfl (by kernel_rfl) (by kernel_rfl) (by kernel_rfl) (uaf tabOk rfl) rfl ?_
  refine a_end (by kernel_rfl) ?_
  exact zt <| uay (R' := Res.clsif (CLog p100) g15.1 o12.2.2.1.2 o12.2.2.1.1) 0 rfl (ucB he48) <| uab [6] rfl <| by exact uai (r49 == (IntKind.wrap .i64 (a0.2.2.2.1 + (List.length o12.2.2.2 : Int)))) () h rfl rfl
 refine zR <| pk [3,0,1,0] rfl <| ub0 (x := ((), o12.2.2.1, a0.2.2.1, a0.2.2.2.1, ([] ++ o12.2.2.2), a0.2.2.2.2.2.1, false, a0.2.2.2.2.2.2.2.1, a0.2.2.2.2.2.2.2.2)) (q := p100) ?_
 cases h
 exact uav rfl (.tmp rfl) (fun _ _ g => g) (fun _ _ _ => (.cons_cons _ (.cons_cons _ .slnil)))

theorem ufJ (a0 : Int) (a1 : List (Int × List Int × List Int × Int × Int × Int × (List (List Int × Int × Int × List Int × Unit)) × Unit)) (r : Bool) (h : uc0 a0 a1 = some r) : FnT Tryz.prog tabs 4 [ti a0, .one (.sl 31 Y31) a1] [] (fun _ => tb r) (fun _ => []) := by
 unfold uc0 at h
 refine udW Tryz.func4 rfl 118 rfl rfl fun F hT => ?_
 refine zu <| p 1 [0,1] rfl <| zz <| cB h fun r1 hr1 h => ucI (Lo := []) (uhJ 4000000 _ hr1) (by kernel_rfl) (List.Perm.refl _) rfl rfl fun v2 => ?_
 refine q 5 [(5, tp (tupv v2 0)), (6, ti r1.1)] [0,1] rfl <| za <| zs <| zu <| p 1 [0,1,5,6,16] rfl <| y (um9 0 rfl rfl Tryz.underlying23) rfl ?_
 refine q 1 [(18, tb (r1.1 != 0))] [0,1,5,6] rfl ?_
 obtain ⟨b3, e, h⟩ := uao h; rw [e]
 refine uaG (γ := Unit) 3 (fun _ => [(0, ti a0), (1, .one (.sl 31 Y31) a1), (5, tp (tupv v2 0)), (21, tb (b3 || (r1.1 != 0)))]) (fun _ => [Res.diskif Tryz.prog dI (tupv v2 0) r1.2 r1.1]) ?_ (fun _ => ?_)
 ·clear h
  cases b3
  ·exact q 3 [(21, tb (r1.1 != 0))] [0,1,5] rfl <| uab [0,1,5,21] rfl <| za <| by exact uau () rfl rfl
  exact p 3 [0,1,5,21] rfl <| za <| by exact uau () rfl rfl
 refine q 1 [(22, tb (b3 || (r1.1 != 0)))] [0,1,5] rfl ?_
 obtain ⟨b4, e, h⟩ := uao h; rw [e]
 refine bX h fun k5 hk5 h => ?_
 refine ubh (γ := Unit) 3 (fun (o6 : Bool) _ => [(0, ti a0), (1, .one (.sl 31 Y31) a1), (5, tp (tupv v2 0)), (25, tb o6)]) (fun _ _ => [Res.diskif Tryz.prog dI (tupv v2 0) r1.2 r1.1]) k5 r ?_ ?_
 ·rcases Bool.eq_false_or_eq_true b4 with hh | hh
  ·rw [hh] at h ⊢
   rw [if_pos rfl] at h
   exact p 3 [0,1,5,25] rfl <| zn <| uab [0,1,5,25] rfl <| zt <| by exact uai true () h rfl rfl
  rw [hh] at h ⊢
  rw [if_neg (by decide)] at h
  refine uaI (by rfl) rfl ?_
  exact cB h fun r7 hr7 h => rcT hT [] (ugx _ hr7) (by kernel_rfl) rfl rfl rfl fun _ => p 2 [0,1,5,25] rfl <| zn <| uab [0,1,5,25] rfl <| zt <| by exact uai (!r7) () h rfl rfl
 intro o6 _ h
 rw [← hk5] at h
 try dsimp only at h
 refine za <| rI h rfl (fun hc h => zu <| p 1 [4] rfl <| zf <| zT <| by cases h; exact uav rfl (.tmp rfl) (fun _ _ g => g) (fun _ _ _ => List.nil_sublist _)) fun hc h => zy <| p 4 [1,5,26,29] rfl <| y (udN rfl zf45 rfl rfl (.cons ((.fst .here)) rfl rfl (uaC uam) (.cons ((.snd (.snd (.fst .here)))) rfl rfl (uaw (uaw (uaC uam))) .nil))) rfl ?_
 refine r_box rfl rfl fun b8 => ueu (K := (CLog (tupv v2 0))) (x := ((), [], 0, [], 0, false, ())) (e := 1) (by decide) ?_
 refine ua1 (.slice none 0 0) rfl 9 .str ?_
 refine p 1 [1,5,7] rfl <| zz <| p 4 [1,5,7,33,36] rfl <| yl 2 ((.snd (.snd (.fst .here)))) ty3 rfl rfl rfl trivial rfl ?_
 obtain ⟨he9, h⟩ := ubo h
 refine uay (R' := Res.disk Tryz.prog dI (tupv v2 0) r1.2) 3 rfl (uht he9) <| cB h fun r10 hr10 h => rcT hT [3] (udS _ _ _ _ _ _ hr10) (by kernel_rfl) rfl rfl rfl fun v11 => q 7 [(6, ti r10.2.2.1), (8, tp (tupv v11 0)), (9, .one (.raw (.slice none 0 0)) (tupv v11 1))] [1,5,7] rfl <| za <| zs <| zu <| p 1 [1,5,6,7,8,9,42] rfl <| y (uiq 1 rfl rfl Tryz.underlying33) rfl ?_
 refine q 1 [(44, tb (r10.1.1 != 0))] [1,5,6,7,8,9] rfl ?_
 obtain ⟨b12, e, h⟩ := uao h; rw [e]
 refine uaG (γ := Unit) 3 (fun _ => [(1, .one (.sl 31 Y31) a1), (5, tp (tupv v2 0)), (7, ptr b8 0), (8, tp (tupv v11 0)), (9, .one (.raw (.slice none 0 0)) (tupv v11 1)), (47, tb (b12 || (r10.2.2.1 != 0)))]) (fun _ => [Res.disk Tryz.prog dI (tupv v2 0) r10.2.2.2, Res.clsif (CLog (tupv v2 0)) (tupv v11 0) r10.1.2 r10.1.1, Res.own (tupv v11 1) 9 .str r10.2.1, Res.own (.slice none 0 0) 9 .str [], Res.clsif (CLog (tupv v2 0)) NV ((), [], 0, [], 0, false, ()) 1, Res.var b8 45 (.pair (.raw (.pointer none)) (.pair (.raw (.pointer none)) (.pair (.int .i64) (.pair (.int .i64) (.pair (.raw (.slice none 0 0)) (.pair .str (.pair .bool (.pair .bool .unit)))))))) ((tupv v2 0), NV, (IntKind.wrap .i64 (64 + (iand .i64 a0 4095))), 0, (.slice none 0 0), [], false, false, ())]) ?_ (fun _ => ?_)
 ·clear h
  cases b12
  ·exact q 3 [(47, tb (r10.2.2.1 != 0))] [1,5,7,8,9] rfl <| uab [1,5,7,8,9,47] rfl <| za <| by exact uau () rfl rfl
  exact p 3 [1,5,7,8,9,47] rfl <| za <| by exact uau () rfl rfl
 refine q 1 [(48, tb (b12 || (r10.2.2.1 != 0)))] [1,5,7,8,9] rfl ?_
 obtain ⟨b13, e, h⟩ := uao h; rw [e]
 refine uaG (γ := Unit) 4 (fun _ => [(1, .one (.sl 31 Y31) a1), (5, tp (tupv v2 0)), (7, ptr b8 0), (8, tp (tupv v11 0)), (52, tb (b13 || ((List.length r10.2.1 : Int) != 0)))]) (fun _ => [Res.disk Tryz.prog dI (tupv v2 0) r10.2.2.2, Res.clsif (CLog (tupv v2 0)) (tupv v11 0) r10.1.2 r10.1.1, Res.own (tupv v11 1) 9 .str r10.2.1, Res.own (.slice none 0 0) 9 .str [], Res.clsif (CLog (tupv v2 0)) NV ((), [], 0, [], 0, false, ()) 1, Res.var b8 45 (.pair (.raw (.pointer none)) (.pair (.raw (.pointer none)) (.pair (.int .i64) (.pair (.int .i64) (.pair (.raw (.slice none 0 0)) (.pair .str (.pair .bool (.pair .bool .unit)))))))) ((tupv v2 0), NV, (IntKind.wrap .i64 (64 + (iand .i64 a0 4095))), 0, (.slice none 0 0), [], false, false, ())]) ?_ (fun _ => ?_)
 ·clear h
  cases b13
  ·refine p 1 [1,5,7,8,48,49] rfl <| uaI (by rfl) rfl ?_
   refine y (uaZ tabOk 2 rfl rfl rfl) rfl ?_
   exact q 2 [(52, tb ((List.length r10.2.1 : Int) != 0))] [1,5,7,8] rfl <| uab [1,5,7,8,52] rfl <| za <| by exact uau () rfl rfl
  exact p 4 [1,5,7,8,52] rfl <| za <| by exact uau () rfl rfl
 refine za <| rI h rfl (fun hc h => zu <| p 1 [4] rfl <| zf <| zT <| by cases h; exact uav rfl (.tmp rfl) (fun _ _ g => g) (fun _ _ _ => List.nil_sublist _)) fun hc h => zy <| p 4 [1,5,7,54,56] rfl <| st 5 ((.snd (.fst .here))) ty33 rfl rfl rfl rfl trivial <| pk [0,0,0,0,1] rfl <| za <| jK h (γ := Unit) (fun (o15 : (Unit × (Int × Unit × List Int × Int × (List (Int × Int × Int × Unit)) × Int × Bool × Unit) × Int × Int × List (List Int) × List Int × Bool × Bool × Unit) × DiskS) _ => [(7, ptr b8 0)]) (fun (o15 : (Unit × (Int × Unit × List Int × Int × (List (Int × Int × Int × Unit)) × Int × Bool × Unit) × Int × Int × List (List Int) × List Int × Bool × Bool × Unit) × DiskS) _ => [Res.cls (uct (tupv v2 0)) (.pointer (some ⟨b8, 0, none⟩)) o15.1, Res.disk Tryz.prog dI (tupv v2 0) o15.2, Res.own (tupv v11 1) 9 .str r10.2.1]) (fun k14 h => ?_) fun o15 gg h => ?_
 ·refine zu <| p 1 [1,5,7,10] rfl <| za <| zb <| pk [4,1,2,0,0] rfl <| ub0 (x := ((), r10.1, (IntKind.wrap .i64 (64 + (iand .i64 a0 4095))), 0, [], [], false, false, ())) (q := (tupv v2 0)) ?_
  refine uab [1,5,7,10] rfl <| ubv (γ := Unit) (fun (s21 : Int × (Unit × (Int × Unit × List Int × Int × (List (Int × Int × Int × Unit)) × Int × Bool × Unit) × Int × Int × List (List Int) × List Int × Bool × Bool × Unit) × DiskS) _ => [(1, .one (.sl 31 Y31) a1), (5, tp (tupv v2 0)), (7, ptr b8 0), (10, ti s21.1)]) (fun (s21 : Int × (Unit × (Int × Unit × List Int × Int × (List (Int × Int × Int × Unit)) × Int × Bool × Unit) × Int × Int × List (List Int) × List Int × Bool × Bool × Unit) × DiskS) _ => [Res.cls (uct (tupv v2 0)) (.pointer (some ⟨b8, 0, none⟩)) s21.2.1, Res.disk Tryz.prog dI (tupv v2 0) s21.2.2, Res.own (tupv v11 1) 9 .str r10.2.1]) (ubi a1 k14) (0, ((), r10.1, (IntKind.wrap .i64 (64 + (iand .i64 a0 4095))), 0, [], [], false, false, ()), r10.2.2.2) () h rfl rfl ?_
  clear h
  intro m22 s21 gg h
  cases m22 with
  | zero => cases h
  | succ m22 =>
  simp only [ubi] at h
  refine zs <| zu <| q 4 [(10, ti s21.1), (60, tb (decide (s21.1 < (List.length a1 : Int))))] [1,5,7] rfl <| za <| rI h rfl (fun hc h => ?_) fun hc h => ?_
  ·refine zk <| zt <| jK h (γ := Unit) (fun (o24 : (Unit × (Int × Unit × List Int × Int × (List (Int × Int × Int × Unit)) × Int × Bool × Unit) × Int × Int × List (List Int) × List Int × Bool × Bool × Unit) × DiskS) _ => [(1, .one (.sl 31 Y31) a1), (5, tp (tupv v2 0)), (7, ptr b8 0), (10, ti s21.1)]) (fun (o24 : (Unit × (Int × Unit × List Int × Int × (List (Int × Int × Int × Unit)) × Int × Bool × Unit) × Int × Int × List (List Int) × List Int × Bool × Bool × Unit) × DiskS) _ => [Res.cls (uct (tupv v2 0)) (.pointer (some ⟨b8, 0, none⟩)) o24.1, Res.disk Tryz.prog dI (tupv v2 0) o24.2, Res.own (tupv v11 1) 9 .str r10.2.1]) (fun k23 h => ?_) fun o24 gg h => ?_
   ·refine zb <| zu <| q 2 [(63, .one (.sl 31 Y31) a1), (64, ti s21.1)] [1,5,7,10] rfl <| iE h fun hc h => y (ue5 tabOk rfl rfl hc.1 hc.2 rfl ty31) rfl ?_
    refine y (y_ref rfl ty31) rfl ?_
    refine ubK (t := Y31) rfl zf31 rfl fun b26 => st 0 .here ty31 rfl rfl rfl rfl trivial <| zz <| p 1 [1,5,7,10,11,67] rfl <| yl 0 ((.fst .here)) ty3 rfl rfl rfl trivial rfl <| za <| zb <| zu <| q 2 [(68, ti ((List.getD a1 (Int.toNat s21.1) (0, [], [], 0, 0, 0, [], ())).1)), (69, tb (((List.getD a1 (Int.toNat s21.1) (0, [], [], 0, 0, 0, [], ())).1) == 1))] [1,5,7,10,11] rfl <| za <| rI h rfl (fun hc h => zu <| p 2 [1,5,7,10,71,72] rfl <| yl 0 ((.snd (.fst .here))) ty9 rfl rfl rfl trivial rfl <| cB h fun r27 hr27 h => rcT hT [1,1] (ueP _ _ _ _ _ _ hr27) (by kernel_rfl) rfl rfl rfl fun _ => q 1 [(75, tb (!r27.1))] [1,5,7,10] rfl <| za <| rI h rfl (fun hc h => zu <| p 1 [4] rfl <| zf <| zB <| zB <| zT <| zT <| zB <| zT <| by cases h; exact uav rfl (.tmp rfl) (fun _ _ g => g) (fun _ _ _ => List.nil_sublist _)) fun hc h => zk <| zi <| zi <| zt <| pk [0,0,1] rfl <| uab [1,5,7,10] rfl <| by exact uai (r27.2.1, r27.2.2) () h rfl rfl) fun hc h => ?_
    refine zu <| q 2 [(76, tb (((List.getD a1 (Int.toNat s21.1) (0, [], [], 0, 0, 0, [], ())).1) == 2))] [1,5,7,10,11,68] rfl <| za <| rI h rfl (fun hc h => ?_) fun hc h => ?_
    ·refine zu <| p 1 [1,5,7,10,11,78] rfl <| cB h fun r28 hr28 h => rc [2] (ufH _ _ _ hr28) (by kernel_rfl) rfl rfl rfl fun _ => p 2 [1,5,7,10,11,81] rfl ?_
     obtain ⟨b29, e, h⟩ := uao h; rw [e]
     refine bX h fun k30 hk30 h => ?_
     refine ubh (γ := Unit) 6 (fun (o31 : Bool × DiskS × Unit × (Int × Unit × List Int × Int × (List (Int × Int × Int × Unit)) × Int × Bool × Unit) × Int × Int × List (List Int) × List Int × Bool × Bool × Unit) _ => [(1, .one (.sl 31 Y31) a1), (5, tp (tupv v2 0)), (7, ptr b8 0), (10, ti s21.1), (87, tb o31.1)]) (fun (o31 : Bool × DiskS × Unit × (Int × Unit × List Int × Int × (List (Int × Int × Int × Unit)) × Int × Bool × Unit) × Int × Int × List (List Int) × List Int × Bool × Bool × Unit) _ => [Res.disk Tryz.prog dI (tupv v2 0) o31.2.1, Res.var b26 31 Y31 (List.getD a1 (Int.toNat s21.1) (0, [], [], 0, 0, 0, [], ())), Res.cls (uct (tupv v2 0)) (.pointer (some ⟨b8, 0, none⟩)) o31.2.2, Res.own (tupv v11 1) 9 .str r10.2.1]) k30 r ?_ ?_
     ·rcases Bool.eq_false_or_eq_true b29 with hh | hh
      ·rw [hh] at h ⊢
       rw [if_pos rfl] at h
       refine p 2 [1,5,7,10,81,82,83] rfl <| uaI (by rfl) rfl ?_
       refine yl 1 ((.snd (.snd (.snd (.snd (.snd (.fst .here))))))) ty2 rfl rfl rfl trivial rfl <| uaI (by rfl) rfl ?_
       exact cB h fun r32 hr32 h => rcT hT [2,0] (ueV _ _ _ _ _ _ hr32) (by kernel_rfl) rfl rfl rfl fun _ => q 2 [(87, tb (!r32.1))] [1,5,7,10] rfl <| zn <| uab [1,5,7,10,87] rfl <| pk [1,1,0,0] rfl <| zt <| by exact uai ((!r32.1), r32.2.2, r32.2.1) () h rfl rfl
      rw [hh] at h ⊢
      rw [if_neg (by decide)] at h
      exact p 6 [1,5,7,10,87] rfl <| zn <| uab [1,5,7,10,87] rfl <| zt <| by exact uai (false, s21.2.2, s21.2.1) () h rfl rfl
     intro o31 _ h
     rw [← hk30] at h
     try dsimp only at h
     exact za <| rI h rfl (fun hc h => zu <| p 1 [4] rfl <| zf <| zB <| zB <| zT <| zT <| zB <| zT <| by cases h; exact uav rfl (.tmp rfl) (fun _ _ g => g) (fun _ _ _ => List.nil_sublist _)) fun hc h => zk <| zi <| zi <| zt <| pk [0,1,1] rfl <| uab [1,5,7,10] rfl <| pk [1,0,0] rfl <| by exact uai (o31.2.2, o31.2.1) () h rfl rfl
    refine zu <| q 2 [(88, tb (((List.getD a1 (Int.toNat s21.1) (0, [], [], 0, 0, 0, [], ())).1) == 4))] [1,5,7,10,11,68] rfl <| za <| rI h rfl (fun hc h => zr <| p 2 [1,5,7,10,11,90,91] rfl <| yl 0 ((.snd (.snd (.snd (.snd (.fst .here)))))) ty3 rfl rfl rfl trivial rfl <| q 1 [(92, ti ((List.getD a1 (Int.toNat s21.1) (0, [], [], 0, 0, 0, [], ())).2.2.2.2.1)), (93, ptr b26 3)] [1,5,7,10,90] rfl <| yl 0 ((.snd (.snd (.snd (.fst .here))))) ty3 rfl rfl rfl trivial rfl <| cB h fun r33 hr33 h => rc [2] (ufI _ _ _ _ _ hr33) (by kernel_rfl) rfl rfl rfl fun _ => zn <| zi <| zi <| zt <| pk [0,1,1] rfl <| uab [1,5,7,10] rfl <| pk [1,0,0] rfl <| by exact uai (s21.2.1, r33) () h rfl rfl) fun hc h => zu <| q 2 [(96, tb (((List.getD a1 (Int.toNat s21.1) (0, [], [], 0, 0, 0, [], ())).1) == 5))] [1,5,7,10,11,68] rfl <| za <| rI h rfl (fun hc h => zr <| p 2 [1,5,7,10,98,99] rfl <| yl 0 ((.snd (.snd (.snd (.snd (.fst .here)))))) ty3 rfl rfl rfl trivial rfl <| cB h fun r34 hr34 h => rc [2] (uds _ _ _ _ hr34) (by kernel_rfl) rfl rfl rfl fun _ => zn <| zi <| zi <| zt <| pk [0,1,1] rfl <| uab [1,5,7,10] rfl <| pk [1,0,0] rfl <| by exact uai (s21.2.1, r34) () h rfl rfl) fun hc h => zu <| q 2 [(102, tb (((List.getD a1 (Int.toNat s21.1) (0, [], [], 0, 0, 0, [], ())).1) == 6))] [1,5,7,10,11] rfl <| za <| rI h rfl (fun hc h => ?_) fun hc h => ?_
    ·refine zs <| jK h (γ := Unit) (fun (o36 : Bool × (Unit × (Int × Unit × List Int × Int × (List (Int × Int × Int × Unit)) × Int × Bool × Unit) × Int × Int × List (List Int) × List Int × Bool × Bool × Unit) × DiskS) _ => [(1, .one (.sl 31 Y31) a1), (5, tp (tupv v2 0)), (7, ptr b8 0), (10, ti s21.1), (111, tb o36.1)]) (fun (o36 : Bool × (Unit × (Int × Unit × List Int × Int × (List (Int × Int × Int × Unit)) × Int × Bool × Unit) × Int × Int × List (List Int) × List Int × Bool × Bool × Unit) × DiskS) _ => [Res.cls (uct (tupv v2 0)) (.pointer (some ⟨b8, 0, none⟩)) o36.2.1, Res.disk Tryz.prog dI (tupv v2 0) o36.2.2, Res.var b26 31 Y31 (List.getD a1 (Int.toNat s21.1) (0, [], [], 0, 0, 0, [], ())), Res.own (tupv v11 1) 9 .str r10.2.1]) (fun k35 h => ?_) fun o36 gg h => ?_
     ·refine r_any (by kernel_rfl) ?_
      refine uah (i := 0) (t := ptr b8 0) (uaa (uaa (uad (uad (uaa (uaa (uad (uaa uac)))))))) rfl (by kernel_rfl) (by kernel_rfl) (by kernel_rfl) (uaf tabOk rfl) rfl ?_
      refine uah (i := 1) (t := ptr b26 6) (uaa (uaa (uad (uad (uaa (uaa (uad (uaa uac)))))))) rfl (by kernel_rfl) (by kernel_rfl) (by kernel_rfl) (uaf tabOk rfl) rfl ?_
      refine uah (i := 4) (t := ptr b26 4) (uaa (uaa (uad (uad (uaa (uaa (uad (uaa uac)))))))) rfl (by kernel_rfl) (by kernel_rfl) (by kernel_rfl) (uaf tabOk rfl) rfl ?_
      refine a_two (i := 2) (j := 5) (by kernel_rfl) rfl rfl ?_ ?_
      ·refine yl 0 ((.snd (.snd (.snd (.snd (.snd (.snd (.fst .here)))))))) ty29 rfl rfl rfl trivial rfl <| za <| uab [1,5,7,10,104,106,108] rfl ?_
       refine a_two (i := 3) (j := 5) (by kernel_rfl) rfl rfl ?_ ?_
       ·refine ua1 (.slice none 0 0) rfl 107 Y107 ?_
        refine iE h fun hc h => ubd (B := 48) tabOk 0 rfl rfl (uf9 rfl) rfl el107 rfl rfl hc rfl fun v39 => ?_
        refine za <| uab [1,5,7,10,104,107,108] rfl <| a_one (i := 5) (by kernel_rfl) rfl ?_
        refine yl 1 ((.snd (.snd (.snd (.snd (.fst .here)))))) ty3 rfl rfl rfl trivial rfl <| za <| uab [1,5,7,10,104,107,109] rfl <| a_one (i := 6) (by kernel_rfl) rfl ?_
        refine udc (i := 0) (k := 107) rfl rfl ?_
        refine cB h fun r40 hr40 h => rcT hT [1,1] (ucf _ _ _ _ _ _ _ hr40) (by kernel_rfl) rfl rfl rfl fun _ => za <| uab [1,5,7,10,110] rfl <| uah (i := 7) (t := tb (!r40.1)) (uaa (uaa (uad (uad (uaa (uaa (uad (uaa uac)))))))) rfl (by kernel_rfl) (by kernel_rfl) (by kernel_rfl) (uaf tabOk rfl) rfl ?_
        refine a_end (by kernel_rfl) ?_
        exact zt <| uab [1,5,7,10,111] rfl <| by exact uai ((!r40.1), r40.2.1, r40.2.2) () h rfl rfl
       refine yl 0 ((.snd (.snd (.snd (.snd (.fst .here)))))) ty3 rfl rfl rfl trivial rfl <| za <| uab [1,5,7,10,104,106,109] rfl <| a_one (i := 3) (by kernel_rfl) rfl ?_
       refine ua1 (.slice none 0 0) rfl 107 Y107 ?_
       refine iE h fun hc h => ubd (B := 48) tabOk 0 rfl rfl (uf9 rfl) rfl el107 rfl rfl hc rfl fun v39 => ?_
       refine za <| uab [1,5,7,10,104,107,109] rfl <| a_one (i := 6) (by kernel_rfl) rfl ?_
       refine udc (i := 0) (k := 107) rfl rfl ?_
       refine cB h fun r40 hr40 h => rcT hT [1,1] (ucf _ _ _ _ _ _ _ hr40) (by kernel_rfl) rfl rfl rfl fun _ => za <| uab [1,5,7,10,110] rfl <| uah (i := 7) (t := tb (!r40.1)) (uaa (uaa (uad (uad (uaa (uaa (uad (uaa uac)))))))) rfl (by kernel_rfl) (by kernel_rfl) (by kernel_rfl) (uaf tabOk rfl) rfl ?_
       refine a_end (by kernel_rfl) ?_
       exact zt <| uab [1,5,7,10,111] rfl <| by exact uai ((!r40.1), r40.2.1, r40.2.2) () h rfl rfl
      refine yl 0 ((.snd (.snd (.snd (.snd (.fst .here)))))) ty3 rfl rfl rfl trivial rfl <| za <| uab [1,5,7,10,104,105,109] rfl <| a_one (i := 2) (by kernel_rfl) rfl ?_
      refine yl 0 ((.snd (.snd (.snd (.snd (.snd (.snd (.fst .here)))))))) ty29 rfl rfl rfl trivial rfl <| za <| uab [1,5,7,10,104,106,109] rfl <| a_one (i := 3) (by kernel_rfl) rfl ?_
      refine ua1 (.slice none 0 0) rfl 107 Y107 ?_
      refine iE h fun hc h => ubd (B := 48) tabOk 0 rfl rfl (uf9 rfl) rfl el107 rfl rfl hc rfl fun v39 => ?_
      refine za <| uab [1,5,7,10,104,107,109] rfl <| a_one (i := 6) (by kernel_rfl) rfl ?_
      refine udc (i := 0) (k := 107) rfl rfl ?_
      refine cB h fun r40 hr40 h => rcT hT [1,1] (ucf _ _ _ _ _ _ _ hr40) (by kernel_rfl) rfl rfl rfl fun _ => za <| uab [1,5,7,10,110] rfl <| uah (i := 7) (t := tb (!r40.1)) (uaa (uaa (uad (uad (uaa (uaa (uad (uaa uac)))))))) rfl (by kernel_rfl) (by kernel_rfl) (by kernel_rfl) (uaf tabOk rfl) rfl ?_
      refine a_end (by kernel_rfl) ?_
      exact zt <| uab [1,5,7,10,111] rfl <| by exact uai ((!r40.1), r40.2.1, r40.2.2) () h rfl rfl
     refine rI h rfl (fun hc h => zu <| p 1 [4] rfl <| zf <| zT <| zB <| zB <| zT <| zT <| zB <| zT <| by cases h; exact uav rfl (.tmp rfl) (fun _ _ g => g) (fun _ _ _ => List.nil_sublist _)) fun hc h => zk <| zt <| zs <| ueL fun sv37 sv38 => ?_
     refine zr <| q 3 [(1, .one (.sl 31 Y31) a1), (5, tp (tupv v2 0)), (7, ptr b8 0), (10, ti s21.1), (114, ptr b8 7)] [] rfl <| yl 0 ((.snd (.snd (.snd (.snd (.snd (.snd (.snd (.fst .here))))))))) ty4 rfl rfl rfl trivial rfl <| za <| rI h rfl (fun hc h => zu <| p 1 [4] rfl <| zf <| zB <| zB <| zT <| zT <| zB <| zT <| by cases h; exact uav rfl (.tmp rfl) (fun _ _ g => g) (fun _ _ _ => List.nil_sublist _)) fun hc h => zk <| zi <| zi <| zt <| ub0 (x := o36.2.1) (q := (tupv v2 0)) ?_
     exact pk [0,0,1] rfl <| uab [1,5,7,10] rfl <| by exact uai (o36.2.1, o36.2.2) () h rfl rfl
    exact zk <| zi <| zi <| zt <| pk [1,1,1] rfl <| uab [1,5,7,10] rfl <| by exact uai (s21.2.1, s21.2.2) () h rfl rfl
   refine zr <| q 3 [(1, .one (.sl 31 Y31) a1), (5, tp (tupv v2 0)), (7, ptr b8 0), (10, ti (IntKind.wrap .i64 (s21.1 + 1)))] [] rfl ?_
   obtain ⟨i25, e, h⟩ := uao h; rw [e]
   exact za <| uab [1,5,7,10] rfl <| by exact ubp (i25, o24.1, o24.2) () (Nat.lt_succ_self _) h rfl rfl
  exact zx <| ze <| ze <| zq <| zt <| uab [7] rfl <| by exact uai (s21.2.1, s21.2.2) () h rfl rfl
 refine zu <| p 1 [116] rfl <| cB h fun r16 hr16 h => uoe hT (Lo := [Res.own (tupv v11 1) 9 .str r10.2.1]) (ucf (.pointer (some ⟨b8, 0, none⟩)) (tupv v2 0) o15.1 [] 0 o15.2 _ hr16) (by kernel_rfl) (ucA (is := [0,0]) rfl) (.val rfl (.nilsl (.val rfl .nil))) rfl fun _ => ?_
 refine q 1 [(4, tb r16.1)] [] rfl <| zf ?_
 cases h
 exact uav rfl (.tmp rfl) (fun _ _ g => g) (fun _ _ _ => List.nil_sublist _)

end Sx
