/-
  Own work, printed by a program of the same hand. Each function of the code answers what its plain twin reckons.
-/
import Derived.Test.YtammhjkpdepohaaWalk1
namespace Sx
open Go Go.Proofs
set_option maxRecDepth 10000
set_option maxHeartbeats 1000000
attribute [local irreducible] wpList

theorem disk_Disk_Arm_ok (p0 : Value) (a0 : DiskS) (a1 : Int) (a2 : Int) (r : DiskS) (h : disk_Disk_Arm a0 a1 a2 = some r) : Fn Try.prog 16 [tp p0, ti a1, ti a2] [Res.disk Try.prog dI p0 a0] (fun _ => .tup []) (fun _ => [Res.disk Try.prog dI p0 r]) := by
 unfold disk_Disk_Arm at h
 refine enter Try.func16 rfl 24 rfl rfl fun F => ?_
 refine r_undisk fun b2 mv1 hp => ?_
 subst hp
 refine jK h (γ := Unit) (fun (o4 : Int) _ => [(0, ptr b2 0), (1, ti o4), (2, ti a2)]) (fun (o4 : Int) _ => [Res.var b2 64 DT (a0.1, mv1, a0.2.2.1, a0.2.2.2.1, a0.2.2.2.2.1, a0.2.2.2.2.2.1, a0.2.2.2.2.2.2, ()), Res.dfiles Try.prog dI mv1 a0.2.1]) (fun k3 h => ?_) fun o4 gg h => ?_
 ·refine zu <| p 3 [0,1,2,8] rfl ?_
  obtain ⟨b5, e, h⟩ := bnd_ex h; rw [e]
  refine r_lsplit (γ := Unit) 3 (fun _ => [(0, ptr b2 0), (1, ti a1), (2, ti a2), (11, tb (b5 || (decide (a2 < 0))))]) (fun _ => [Res.var b2 64 DT (a0.1, mv1, a0.2.2.1, a0.2.2.2.1, a0.2.2.2.2.1, a0.2.2.2.2.2.1, a0.2.2.2.2.2.2, ()), Res.dfiles Try.prog dI mv1 a0.2.1]) ?_ (fun _ => ?_)
  ·clear h
   cases b5
   ·exact p 3 [0,1,2,11] rfl <| za <| r_meetg () rfl rfl
   exact p 3 [0,1,2,11] rfl <| za <| r_meetg () rfl rfl
  refine p 1 [0,1,2,12] rfl ?_
  obtain ⟨b6, e, h⟩ := bnd_ex h; rw [e]
  refine r_lsplit (γ := Unit) 3 (fun _ => [(0, ptr b2 0), (1, ti a1), (2, ti a2), (15, tb (b6 || (decide (a2 > 2))))]) (fun _ => [Res.var b2 64 DT (a0.1, mv1, a0.2.2.1, a0.2.2.2.1, a0.2.2.2.2.1, a0.2.2.2.2.2.1, a0.2.2.2.2.2.2, ()), Res.dfiles Try.prog dI mv1 a0.2.1]) ?_ (fun _ => ?_)
  ·clear h
   cases b6
   ·exact p 3 [0,1,2,15] rfl <| za <| r_meetg () rfl rfl
   exact p 3 [0,1,2,15] rfl <| za <| r_meetg () rfl rfl
  exact za <| rI h rfl (fun hc h => zr <| p 1 [0,1,2] rfl <| za <| r_less [0,1,2] rfl <| r_meetk 0 () h rfl rfl) fun hc h => zk <| zt <| r_less [0,1,2] rfl <| r_meetk a1 () h rfl rfl
 refine zr <| p 6 [17,18,19,21] rfl <| st 0 ((.snd (.snd (.fst .here)))) ty3 rfl rfl rfl rfl trivial <| p 2 [19,23] rfl <| st 0 ((.snd (.snd (.snd (.fst .here))))) ty3 rfl rfl rfl rfl trivial <| zn <| r_disk (P := Try.prog) (I := dI) (D := (a0.1, a0.2.1, o4, a2, a0.2.2.2.2.1, a0.2.2.2.2.2.1, a0.2.2.2.2.2.2)) ?_
 cases h
 exact r_end0 rfl (fun _ => tup_ok [] .nil) ((.cons_cons _ .slnil))

theorem disk_Disk_Fall_ok (p0 : Value) (a0 : DiskS) (a1 : Int) (r : DiskS) (h : disk_Disk_Fall a0 a1 = some r) : Fn Try.prog 18 [tp p0, ti a1] [Res.disk Try.prog dI p0 a0] (fun _ => .tup []) (fun _ => [Res.disk Try.prog dI p0 r]) := by
 unfold disk_Disk_Fall at h
 refine enter Try.func18 rfl 9 rfl rfl fun F => ?_
 refine r_undisk fun b2 mv1 hp => ?_
 subst hp
 refine zr <| p 2 [4,5] rfl <| y (y_max rfl rfl) rfl ?_
 refine p 2 [6,8] rfl <| st 0 ((.snd (.snd (.snd (.snd (.fst .here)))))) ty3 rfl rfl rfl rfl trivial <| zn <| r_disk (P := Try.prog) (I := dI) (D := (a0.1, a0.2.1, a0.2.2.1, a0.2.2.2.1, (max a1 0), a0.2.2.2.2.2.1, a0.2.2.2.2.2.2)) ?_
 cases h
 exact r_end0 rfl (fun _ => tup_ok [] .nil) ((.cons_cons _ .slnil))

theorem disk_fateOf_ok (a0 : List (List Int × Int × Int × List Int × Unit)) (a1 : List Int) (a2 : Int) (r : (List Int × Int × Int × List Int × Unit)) (h : disk_fateOf a0 a1 a2 = some r) : Pure Try.prog 57 [.one (.sl 110 Y110) a0, ts a1, ti a2] (.one Y110 r) := by
 unfold disk_fateOf at h
 refine enter Try.func57 rfl 28 rfl rfl fun F => ?_
 refine zu <| r_alloc (t := Y110) rfl zf110 rfl fun b1 => za <| jK h (γ := Unit) (fun (o3 : Unit) _ => [(6, ptr b1 0)]) (fun (o3 : Unit) _ => [Res.var b1 110 Y110 ([], 0, 0, [], ())]) (fun k2 h => ?_) fun o3 gg h => ?_
 ·refine zu <| q 3 [(1, ts a1), (2, ti a2), (6, ptr b1 0), (9, .one (.sl 110 Y110) a0), (10, ti (List.length a0 : Int)), (11, ti 0)] [] rfl <| za <| zb <| r_less [1,2,6,9,10,11] rfl <| r_loopg (γ := Unit) (fun (s5 : Int) _ => [(1, ts a1), (2, ti a2), (6, ptr b1 0), (9, .one (.sl 110 Y110) a0), (10, ti (List.length a0 : Int)), (11, ti s5)]) (fun (s5 : Int) _ => [Res.var b1 110 Y110 ([], 0, 0, [], ())]) (disk_fateOf_l0 a0 a1 a2 k2) 0 () h rfl rfl ?_
  clear h
  intro m6 s5 gg h
  cases m6 with
  | zero => cases h
  | succ m6 =>
  simp only [disk_fateOf_l0] at h
  refine zu <| q 1 [(11, ti s5), (12, tb (decide (s5 < (List.length a0 : Int))))] [1,2,6,9,10] rfl <| za <| zs <| rI h rfl (fun hc h => ?_) fun hc h => ?_
  ·refine zk <| zt <| zs <| zb <| zu <| iE h fun hc h => y (y_iref tabOk rfl rfl hc.1 hc.2 rfl ty110) rfl ?_
   refine y (y_ref rfl ty110) rfl ?_
   refine r_alloc (t := Y110) rfl zf110 rfl fun b7 => st 0 .here ty110 rfl rfl rfl rfl trivial <| zz <| p 1 [1,2,6,8,9,10,11,15] rfl <| yl 0 ((.fst .here)) ty9 rfl rfl rfl trivial rfl <| q 3 [(19, tb (((List.getD a0 (Int.toNat s5) ([], 0, 0, [], ())).1) == a1))] [1,2,6,8,9,10,11] rfl ?_
   obtain ⟨b8, e, h⟩ := bnd_ex h; rw [e]
   refine r_lsplit (γ := Unit) 5 (fun _ => [(1, ts a1), (2, ti a2), (6, ptr b1 0), (8, ptr b7 0), (9, .one (.sl 110 Y110) a0), (10, ti (List.length a0 : Int)), (11, ti s5), (24, tb (b8 && (((List.getD a0 (Int.toNat s5) ([], 0, 0, [], ())).2.1) == a2)))]) (fun _ => [Res.var b7 110 Y110 (List.getD a0 (Int.toNat s5) ([], 0, 0, [], ())), Res.var b1 110 Y110 ([], 0, 0, [], ())]) ?_ (fun _ => ?_)
   ·clear h
    cases b8
    ·exact p 5 [1,2,6,8,9,10,11,24] rfl <| za <| r_meetg () rfl rfl
    refine p 1 [1,2,6,8,9,10,11,19,20] rfl <| r_guard (by rfl) rfl ?_
    exact yl 0 ((.snd (.fst .here))) ty3 rfl rfl rfl trivial rfl <| q 3 [(24, tb (((List.getD a0 (Int.toNat s5) ([], 0, 0, [], ())).2.1) == a2))] [1,2,6,8,9,10,11] rfl <| r_less [1,2,6,8,9,10,11,24] rfl <| za <| r_meetg () rfl rfl
   exact za <| rI h rfl (fun hc h => zu <| yl 0 .here ty110 rfl rfl rfl trivial rfl <| st 1 .here ty110 rfl rfl rfl rfl trivial <| zf <| zB <| zT <| zT <| zB <| zT <| by cases h; exact r_ret1 rfl (.cell 1 .here rfl rfl (by first | rfl | (simp only [Pth.off, T.size]; omega)) ok_here ty110) (fun _ _ g => g) (fun _ _ _ => List.nil_sublist _)) fun hc h => zk <| zi <| zt <| zr <| p 2 [1,2,6,9,10,11] rfl <| za <| pk [1] rfl <| r_less [1,2,6,9,10,11] rfl <| r_backg (IntKind.wrap .i64 (s5 + 1)) () (Nat.lt_succ_self _) h rfl rfl
  exact zx <| ze <| ze <| zq <| zt <| r_less [6] rfl <| r_meetk () () h rfl rfl
 refine zu <| y (y_build rfl zf110 rfl rfl .nil) rfl ?_
 refine st 0 .here ty110 rfl rfl rfl rfl trivial <| zf ?_
 cases h
 exact r_ret1 rfl (.cell 0 .here rfl rfl (by first | rfl | (simp only [Pth.off, T.size]; omega)) ok_here ty110) (fun _ _ g => g) (fun _ _ _ => List.nil_sublist _)

theorem disk_file_fall_ok (p0 : Value) (a0 : FileS) (a1 : List Int) (a2 : List (List Int × Int × Int × List Int × Unit)) (r : FileS) (h : disk_file_fall a0 a1 a2 = some r) : Fn Try.prog 36 [tp p0, ts a1, .one (.sl 110 Y110) a2] [Res.file Try.prog dI p0 a0] (fun _ => .tup []) (fun _ => [Res.file Try.prog dI p0 r]) := by
 unfold disk_file_fall at h
 refine enter Try.func36 rfl 142 rfl rfl fun F => ?_
 refine r_unfile fun b4 sv1 tv2 dv3 hp => ?_
 subst hp
 refine zu <| p 3 [0,1,2,18] rfl <| yl 0 ((.snd (.fst .here))) tx0 rfl rfl rfl trivial rfl <| y (y_lenown tabOk 2 rfl rfl rfl) rfl ?_
 refine q 1 [(6, ti (List.length a0.2.1 : Int))] [0,1,2] rfl ?_
 obtain ⟨size5, e, h⟩ := bnd_ex h; rw [e]
 refine zz <| r_makeMap 3 (.int .i64) Y110 rfl fun v6 => ?_
 refine p 1 [0,1,2,6,7] rfl <| za <| jK h (γ := Unit) (fun (o8 : Int × (List (Int × (List Int × Int × Int × List Int × Unit)))) _ => [(0, ptr b4 0), (6, ti o8.1), (7, .one (.raw (.map none)) v6)]) (fun (o8 : Int × (List (Int × (List Int × Int × Int × List Int × Unit)))) _ => [Res.dirty Try.prog dI dv3 a0.2.2, Res.map Try.prog 3 (.int .i64) Y110 v6 o8.2, Res.var b4 82 FT (sv1, tv2, dv3, ()), Res.own sv1 5 (.int .u8) a0.1, Res.own tv2 5 (.int .u8) a0.2.1]) (fun k7 h => ?_) fun o8 gg h => ?_
 ·refine zu <| p 3 [0,1,2,6,7,24] rfl <| yl 1 ((.snd (.snd (.fst .here)))) ty80 rfl rfl rfl trivial rfl <| pk [4,0,0,0,0] rfl <| r_krange (P := Try.prog) (I := dI) kint rfl Try.underlying80 rfl fun it51 hn52 => ?_
  refine za <| zb <| cB h fun rr hall h => r_less [0,1,2,6,7,26] rfl <| r_rangeloop (step := disk_file_fall_l1 a0 a1 a2) (fun s l => l.Nodup ∧ ∀ k ∈ l, pget (.int .i64) k s.2 = none) (comm_disk_file_fall_l1 a0 a1 a2) hn52 ⟨hn52, fun _ _ => rfl⟩ hall (γ := Unit) (fun (s55 : Int × (List (Int × (List Int × Int × Int × List Int × Unit)))) _ => [(0, ptr b4 0), (1, ts a1), (2, .one (.sl 110 Y110) a2), (6, ti s55.1), (7, .one (.raw (.map none)) v6), (26, tp it51)]) (fun todo57 (s55 : Int × (List (Int × (List Int × Int × Int × List Int × Unit)))) _ => [Res.kiter Try.prog dI dv3 it51 a0.2.2 todo57 none, Res.map Try.prog 3 (.int .i64) Y110 v6 s55.2, Res.var b4 82 FT (sv1, tv2, dv3, ()), Res.own sv1 5 (.int .u8) a0.1, Res.own tv2 5 (.int .u8) a0.2.1]) () rfl rfl fun todo57 s55 gg hend hone => ?_
  refine zu ?_
  refine r_knext (P := Try.prog) (I := dI) kint rfl rfl (fun ht => ?_) (fun A58 k59 B60 c62 htk59 hk => ?_)
  ·obtain rfl := hend ht
   refine r_kunrange ?_
   refine q 1 [(6, ti s55.1), (28, tb false)] [0,1,2,7] rfl <| za <| zs ?_
   refine r_if (b := false) rfl (fun hc => ?_) (fun hc => ?_)
   ·cases hc
   exact zx <| ze <| ze <| zq <| zt <| r_less [0,6,7] rfl <| r_meetk (s55.1, s55.2) () h rfl rfl
  obtain ⟨sk59, hsk59⟩ := hone A58 k59 B60 htk59
  clear h
  have h := hsk59
  unfold disk_file_fall_l1 at h
  refine q 1 [(6, ti s55.1), (26, tp it51), (28, tb true)] [0,1,2,7] rfl <| za <| zs ?_
  refine r_if (b := true) rfl (fun hc => ?_) (fun hc => ?_)
  ·refine zk <| zt <| zb <| zu <| y_kentry (P := Try.prog) (I := dI) rfl 0 rfl rfl fun c63 => ?_
   refine p 2 [0,1,2,6,7,8,26] rfl <| zz <| p 3 [0,1,2,6,7,8,26,31,32,33] rfl <| cB h fun r64 hr64 h => r_calls (disk_fateOf_ok _ _ _ _ hr64) (by kernel_rfl) rfl rfl <| r_alloc (t := Y110) rfl zf110 rfl fun b65 => st 0 .here ty110 rfl rfl rfl rfl trivial <| zz <| p 2 [0,1,2,6,7,8,9,26,35,36] rfl <| yl 0 .here ty110 rfl rfl rfl trivial rfl <| iE h fun hc h => r_mapUpdate 2 rfl rfl rfl rfl ktc3 Try.underlying108 hc ?_
   refine zz <| p 1 [0,1,2,6,7,8,9,26,38] rfl <| yl 0 ((.snd (.snd (.fst .here)))) ty3 rfl rfl rfl trivial rfl <| q 2 [(41, tb (r64.2.2.1 == 1))] [0,1,2,6,7,8,9,26] rfl ?_
   obtain ⟨b66, e, h⟩ := bnd_ex h; rw [e]
   refine r_lsplit (γ := Unit) 4 (fun _ => [(0, ptr b4 0), (1, ts a1), (2, .one (.sl 110 Y110) a2), (6, ti s55.1), (7, .one (.raw (.map none)) v6), (8, ti k59), (26, tp it51), (45, tb (b66 || (r64.2.2.1 == 2)))]) (fun _ => [Res.var b65 110 Y110 r64, Res.kiter Try.prog dI dv3 it51 a0.2.2 (A58 ++ B60) (some k59), Res.map Try.prog 3 (.int .i64) Y110 v6 (pput (.int .i64) k59 r64 s55.2), Res.var b4 82 FT (sv1, tv2, dv3, ()), Res.own sv1 5 (.int .u8) a0.1, Res.own tv2 5 (.int .u8) a0.2.1]) ?_ (fun _ => ?_)
   ·clear h
    cases b66
    ·refine p 1 [0,1,2,6,7,8,26,41,42] rfl <| r_guard (by rfl) rfl ?_
     exact yl 0 ((.snd (.snd (.fst .here)))) ty3 rfl rfl rfl trivial rfl <| q 2 [(45, tb (r64.2.2.1 == 2))] [0,1,2,6,7,8,26] rfl <| r_less [0,1,2,6,7,8,26,45] rfl <| za <| r_meetg () rfl rfl
    exact p 4 [0,1,2,6,7,8,26,45] rfl <| za <| r_meetg () rfl rfl
   refine za <| rI h rfl (fun hc h => ?_) fun hc h => ?_
   ·refine zr <| q 7 [(46, ti s55.1), (49, ti (IntKind.wrap .i64 ((IntKind.wrap .i64 (k59 + 1)) * 64))), (52, ptr b4 0)] [0,1,2,7,26] rfl <| yl 3 ((.fst .here)) tx0 rfl rfl rfl trivial rfl <| y (y_lenown tabOk 4 rfl rfl rfl) rfl ?_
    refine y (y_min rfl rfl) rfl ?_
    refine y (y_max rfl rfl) rfl ?_
    refine q 1 [(6, ti (max s55.1 (min (IntKind.wrap .i64 ((IntKind.wrap .i64 (k59 + 1)) * 64)) (List.length a0.1 : Int))))] [0,1,2,7,26] rfl ?_
    obtain ⟨size67, e, h⟩ := bnd_ex h; rw [e]
    refine zn <| zi <| zt <| pk [1,1,1,1,1] rfl <| r_imp_at (R' := Res.kiter Try.prog dI dv3 it51 a0.2.2 (A58 ++ B60) none) 0 rfl kiter_none <| r_less [0,1,2,6,7,26] rfl ?_
    obtain rfl := Option.some.inj h
    exact r_backR () htk59 hsk59 rfl rfl
   refine zk <| zi <| zt <| pk [1,1,1,1,1] rfl <| r_imp_at (R' := Res.kiter Try.prog dI dv3 it51 a0.2.2 (A58 ++ B60) none) 0 rfl kiter_none <| r_less [0,1,2,6,7,26] rfl ?_
   obtain rfl := Option.some.inj h
   exact r_backR () htk59 hsk59 rfl rfl
  cases hc
 refine zu <| q 3 [(0, ptr b4 0), (6, ti o8.1), (7, .one (.raw (.map none)) v6), (59, ptr b4 0)] [] rfl <| yl 2 ((.fst .here)) tx0 rfl rfl rfl trivial rfl <| q 1 [(60, .one (.raw (.slice none 0 0)) sv1), (61, ti o8.1)] [0,7] rfl ?_
 obtain ⟨hs9, h⟩ := ite_ex h
 refine y (y_osub tabOk (i := (0 : Int)) (j := o8.1) rfl (sub_own 3 rfl) rfl rfl hs9.1 hs9.2.1 hs9.2.2 rfl ty5) rfl ?_
 refine cB h fun r10 hr10 h => r_callwo (slices_Clone__byte_byte_ok (List.take (Int.toNat o8.1) a0.1) _ hr10) (by kernel_rfl) (fun _ => rfl) (fun _ r hr => by rcases List.mem_singleton.1 hr with rfl; exact Res.free_own rfl) (.sub rfl (sub_sub (sub_own 3 rfl) hs9.1 hs9.2.1 hs9.2.2) .nil) rfl fun v11 => ?_
 refine p 1 [0,7,10] rfl <| za <| jK h (γ := Value × Value) (fun (o13 : List (Int)) g16 => [(0, ptr b4 0), (10, .one (.raw (.slice none 0 0)) g16.1)]) (fun (o13 : List (Int)) g16 => [Res.own g16.1 5 (.int .u8) o13, Res.dirty Try.prog dI dv3 a0.2.2, Res.map Try.prog 3 (.int .i64) Y110 v6 o8.2, Res.var b4 82 FT (sv1, g16.2, dv3, ()), Res.own sv1 5 (.int .u8) a0.1, Res.own g16.2 5 (.int .u8) a0.2.1]) (fun k12 h => ?_) fun o13 g16 h => ?_
 ·refine zu <| p 1 [0,7,10,64] rfl <| y (y_lenown tabOk 0 rfl rfl rfl) rfl ?_
  refine q 1 [(65, ti (List.length r10 : Int)), (66, ti 0)] [0,7,10] rfl <| za <| zb <| r_less [0,7,10,65,66] rfl <| r_loopg (γ := Value × Value) (fun (s25 : Int × List (Int)) g28 => [(0, ptr b4 0), (7, .one (.raw (.map none)) v6), (10, .one (.raw (.slice none 0 0)) g28.1), (65, ti (List.length r10 : Int)), (66, ti s25.1)]) (fun (s25 : Int × List (Int)) g28 => [Res.own g28.1 5 (.int .u8) s25.2, Res.dirty Try.prog dI dv3 a0.2.2, Res.map Try.prog 3 (.int .i64) Y110 v6 o8.2, Res.var b4 82 FT (sv1, g28.2, dv3, ()), Res.own sv1 5 (.int .u8) a0.1, Res.own g28.2 5 (.int .u8) a0.2.1]) (disk_file_fall_l0 a0 o8 r10 k12) (0, r10) (v11, tv2) h rfl rfl ?_
  clear h
  intro m29 s25 g28 h
  cases m29 with
  | zero => cases h
  | succ m29 =>
  simp only [disk_file_fall_l0] at h
  refine zu <| q 1 [(10, .one (.raw (.slice none 0 0)) g28.1), (66, ti s25.1), (67, tb (decide (s25.1 < (List.length r10 : Int))))] [0,7,65] rfl <| za <| zs <| rI h rfl (fun hc h => ?_) fun hc h => ?_
  ·refine zk <| zt <| jK h (γ := Value × Value) (fun (o31 : List (Int)) g34 => [(0, ptr b4 0), (7, .one (.raw (.map none)) v6), (10, .one (.raw (.slice none 0 0)) g34.1), (65, ti (List.length r10 : Int)), (66, ti s25.1)]) (fun (o31 : List (Int)) g34 => [Res.own g34.1 5 (.int .u8) o31, Res.dirty Try.prog dI dv3 a0.2.2, Res.map Try.prog 3 (.int .i64) Y110 v6 o8.2, Res.var b4 82 FT (sv1, g34.2, dv3, ()), Res.own sv1 5 (.int .u8) a0.1, Res.own g34.2 5 (.int .u8) a0.2.1]) (fun k30 h => ?_) fun o31 g34 h => ?_
   ·refine zb <| zu <| q 2 [(11, ti s25.1)] [0,7,10,65,66] rfl <| zz <| q 3 [(12, ti (IntKind.wrap .i64 (Int.tdiv s25.1 64)))] [0,7,10,11,65,66] rfl ?_
    obtain ⟨s35, e, h⟩ := bnd_ex h; rw [e]
    refine zz <| p 2 [0,7,10,11,12,65,66,72,73] rfl <| y (y_lookok 2 rfl rfl rfl ktc3 Try.underlying108 zf110 rfl) rfl ?_
    refine q 3 [(75, .one Y110 (Option.getD (pget (.int .i64) s35 o8.2) ([], 0, 0, [], ()))), (76, tb (Option.isSome (pget (.int .i64) s35 o8.2)))] [0,7,10,11,12,65,66] rfl <| r_alloc (t := Y110) rfl zf110 rfl fun b36 => st 0 .here ty110 rfl rfl rfl rfl trivial <| q 1 [(13, ptr b36 0), (14, tb (Option.isSome (pget (.int .i64) s35 o8.2)))] [0,7,10,11,12,65,66] rfl ?_
    obtain ⟨dirty37, e, h⟩ := bnd_ex h; rw [e]
    refine za <| zb <| zu <| p 3 [0,7,10,11,12,13,65,66,100] rfl ?_
    obtain ⟨b38, e, h⟩ := bnd_ex h; rw [e]
    refine r_lsplit (γ := Unit) 4 (fun _ => [(0, ptr b4 0), (7, .one (.raw (.map none)) v6), (10, .one (.raw (.slice none 0 0)) g28.1), (11, ti s25.1), (12, ti s35), (13, ptr b36 0), (65, ti (List.length r10 : Int)), (66, ti s25.1), (104, tb (b38 || (((Option.getD (pget (.int .i64) s35 o8.2) ([], 0, 0, [], ())).2.2.1) == 1)))]) (fun _ => [Res.var b36 110 Y110 (Option.getD (pget (.int .i64) s35 o8.2) ([], 0, 0, [], ())), Res.own g28.1 5 (.int .u8) s25.2, Res.dirty Try.prog dI dv3 a0.2.2, Res.map Try.prog 3 (.int .i64) Y110 v6 o8.2, Res.var b4 82 FT (sv1, g28.2, dv3, ()), Res.own sv1 5 (.int .u8) a0.1, Res.own g28.2 5 (.int .u8) a0.2.1]) ?_ (fun _ => ?_)
    ·clear h
     cases b38
     ·refine p 1 [0,7,10,11,12,13,65,66,100,101] rfl <| r_guard (by rfl) rfl ?_
      exact yl 0 ((.snd (.snd (.fst .here)))) ty3 rfl rfl rfl trivial rfl <| q 2 [(104, tb (((Option.getD (pget (.int .i64) s35 o8.2) ([], 0, 0, [], ())).2.2.1) == 1))] [0,7,10,11,12,13,65,66] rfl <| r_less [0,7,10,11,12,13,65,66,104] rfl <| za <| r_meetg () rfl rfl
     exact p 4 [0,7,10,11,12,13,65,66,104] rfl <| za <| r_meetg () rfl rfl
    refine q 1 [(97, tb (b38 || (((Option.getD (pget (.int .i64) s35 o8.2) ([], 0, 0, [], ())).2.2.1) == 1)))] [0,7,10,11,12,13,65,66] rfl <| za <| rI h rfl (fun hc h => zk <| zi <| zi <| zt <| pk [1,1,1,1,1,1] rfl <| r_less [0,7,10,65,66] rfl <| r_meetk s25.2 (g28.1, g28.2) h rfl rfl) fun hc h => zu <| p 1 [0,7,10,11,12,13,65,66,106] rfl <| yl 0 ((.snd (.snd (.fst .here)))) ty3 rfl rfl rfl trivial rfl <| q 2 [(105, tb (((Option.getD (pget (.int .i64) s35 o8.2) ([], 0, 0, [], ())).2.2.1) == 2))] [0,7,10,11,12,13,65,66] rfl <| za <| rI h rfl (fun hc h => ?_) fun hc h => ?_
    ·refine zu <| q 2 [(109, .one (.raw (.slice none 0 0)) g28.1), (110, ti s25.1)] [0,7,10,11,12,13,65,66] rfl <| iE h fun hc h => r_expose 1 rfl (by first | omega | (simp only [List.length_set] at hc ⊢; omega)) fun b39 c40 hv => ?_
     rw [hv]
     try clear hv
     refine y (y_iraw tabOk rfl rfl hc.1 (by first | exact hc.2 | simpa using hc.2) rfl ty5) rfl ?_
     refine r_sown 1 (Int.toNat s25.1) .here rfl rfl rfl (by first | omega | (simp only [List.length_set] at hc ⊢; omega)) (by first | rfl | (simp only [Pth.off, T.size]; omega)) ok_here ty5 ?_
     refine zz <| q 5 [(10, .one (.raw (.slice none 0 0)) (.slice (some ⟨b39, 0, none⟩) (List.length s25.2) c40)), (15, ti (IntKind.wrap .i64 (s25.1 - (IntKind.wrap .i64 (s35 * 64)))))] [0,7,11,13,65,66] rfl ?_
     obtain ⟨i41, e, h⟩ := bnd_ex h; rw [e]
     refine zz <| p 2 [0,7,10,11,13,15,65,66,116,117] rfl <| yl 0 ((.snd (.snd (.snd (.fst .here))))) ty9 rfl rfl rfl trivial rfl <| q 2 [(120, tb (decide (i41 < (List.length ((Option.getD (pget (.int .i64) s35 o8.2) ([], 0, 0, [], ())).2.2.2.1) : Int))))] [0,7,10,11,13,15,65,66] rfl ?_
     obtain ⟨t42, e, h⟩ := bnd_ex h; rw [e]
     refine za <| rI h rfl (fun hc h => ?_) fun hc h => ?_
     ·refine zr <| q 3 [(121, .one (.raw (.slice none 0 0)) (.slice (some ⟨b39, 0, none⟩) (List.length s25.2) c40)), (122, ti s25.1), (123, ptr b36 3)] [0,7,10,15,65,66] rfl <| yl 0 ((.snd (.snd (.snd (.fst .here))))) ty9 rfl rfl rfl trivial rfl <| q 1 [(124, ts ((Option.getD (pget (.int .i64) s35 o8.2) ([], 0, 0, [], ())).2.2.2.1)), (125, ti i41)] [0,7,10,65,66,121,122] rfl <| iE h fun hc h => y (y_byte tabOk rfl rfl hc.1 hc.2 rfl) rfl ?_
      refine iE h fun hc h => y (y_iraw tabOk rfl rfl hc.1 (by first | exact hc.2 | simpa using hc.2) rfl ty5) rfl ?_
      refine r_sown 1 (Int.toNat s25.1) .here rfl rfl rfl (by first | omega | (simp only [List.length_set] at hc ⊢; omega)) (by first | rfl | (simp only [Pth.off, T.size]; omega)) ok_here ty5 ?_
      exact zn <| zi <| zi <| zt <| pk [1,1,1,1,1,1] rfl <| r_less [0,7,10,65,66] rfl <| r_meetk (List.set (List.set s25.2 (Int.toNat s25.1) 0) (Int.toNat s25.1) (List.getD ((Option.getD (pget (.int .i64) s35 o8.2) ([], 0, 0, [], ())).2.2.2.1) (Int.toNat i41) 0)) ((.slice (some ⟨b39, 0, none⟩) (List.length s25.2) c40), g28.2) h rfl rfl
     exact zk <| zi <| zi <| zt <| pk [1,1,1,1,1,1] rfl <| r_less [0,7,10,65,66] rfl <| r_meetk (List.set s25.2 (Int.toNat s25.1) 0) ((.slice (some ⟨b39, 0, none⟩) (List.length s25.2) c40), g28.2) h rfl rfl
    refine zu <| q 2 [(77, .one (.raw (.slice none 0 0)) g28.1), (78, ti s25.1)] [0,7,10,11,65,66] rfl <| iE h fun hc h => r_expose 1 rfl (by first | omega | (simp only [List.length_set] at hc ⊢; omega)) fun b45 c46 hv => ?_
    rw [hv]
    try clear hv
    refine y (y_iraw tabOk rfl rfl hc.1 (by first | exact hc.2 | simpa using hc.2) rfl ty5) rfl ?_
    refine r_sown 1 (Int.toNat s25.1) .here rfl rfl rfl (by first | omega | (simp only [List.length_set] at hc ⊢; omega)) (by first | rfl | (simp only [Pth.off, T.size]; omega)) ok_here ty5 ?_
    refine zz <| q 4 [(10, .one (.raw (.slice none 0 0)) (.slice (some ⟨b45, 0, none⟩) (List.length s25.2) c46)), (80, ti s25.1), (83, ptr b4 1)] [0,7,11,65,66] rfl <| yl 4 ((.snd (.fst .here))) tx0 rfl rfl rfl trivial rfl <| y (y_lenown tabOk 6 rfl rfl rfl) rfl ?_
    refine q 1 [(86, tb (decide (s25.1 < (List.length a0.2.1 : Int))))] [0,7,10,11,65,66] rfl <| za <| rI h rfl (fun hc h => ?_) fun hc h => ?_
    ·refine zr <| q 5 [(87, .one (.raw (.slice none 0 0)) (.slice (some ⟨b45, 0, none⟩) (List.length s25.2) c46)), (88, ti s25.1), (91, ptr b4 1)] [0,7,10,11,65,66] rfl <| yl 4 ((.snd (.fst .here))) tx0 rfl rfl rfl trivial rfl <| q 1 [(92, .one (.raw (.slice none 0 0)) g28.2), (93, ti s25.1)] [0,7,10,65,66,87,88] rfl <| iE h fun hc h => r_expose 6 rfl (by first | omega | (simp only [List.length_set] at hc ⊢; omega)) fun b47 c48 hv => ?_
     rw [hv]
     try clear hv
     refine y (y_iraw tabOk rfl rfl hc.1 (by first | exact hc.2 | simpa using hc.2) rfl ty5) rfl ?_
     refine y (y_lown 6 (Int.toNat s25.1) .here rfl rfl (by first | omega | (simp only [List.length_set] at hc ⊢; omega)) (by first | rfl | (simp only [Pth.off, T.size]; omega)) ok_here ty5) rfl ?_
     refine iE h fun hc h => y (y_iraw tabOk rfl rfl hc.1 (by first | exact hc.2 | simpa using hc.2) rfl ty5) rfl ?_
     refine r_sown 1 (Int.toNat s25.1) .here rfl rfl rfl (by first | omega | (simp only [List.length_set] at hc ⊢; omega)) (by first | rfl | (simp only [Pth.off, T.size]; omega)) ok_here ty5 ?_
     exact zn <| zi <| zi <| zt <| pk [1,1,1,1,1,1] rfl <| r_less [0,7,10,65,66] rfl <| r_meetk (List.set (List.set s25.2 (Int.toNat s25.1) 0) (Int.toNat s25.1) (List.getD a0.2.1 (Int.toNat s25.1) 0)) ((.slice (some ⟨b45, 0, none⟩) (List.length s25.2) c46), (.slice (some ⟨b47, 0, none⟩) (List.length a0.2.1) c48)) h rfl rfl
    exact zk <| zi <| zi <| zt <| pk [1,1,1,1,1,1] rfl <| r_less [0,7,10,65,66] rfl <| r_meetk (List.set s25.2 (Int.toNat s25.1) 0) ((.slice (some ⟨b45, 0, none⟩) (List.length s25.2) c46), g28.2) h rfl rfl
   exact zr <| q 2 [(0, ptr b4 0), (7, .one (.raw (.map none)) v6), (10, .one (.raw (.slice none 0 0)) g34.1), (65, ti (List.length r10 : Int)), (66, ti (IntKind.wrap .i64 (s25.1 + 1)))] [] rfl <| za <| r_less [0,7,10,65,66] rfl <| r_backg ((IntKind.wrap .i64 (s25.1 + 1)), o31) (g34.1, g34.2) (Nat.lt_succ_self _) h rfl rfl
  exact zx <| ze <| ze <| zq <| zt <| r_less [0,10] rfl <| r_meetk s25.2 (g28.1, g28.2) h rfl rfl
 refine zu <| q 4 [(0, ptr b4 0), (129, ptr b4 0), (130, ptr b4 0), (131, .one (.raw (.slice none 0 0)) g16.1), (132, .one (.raw (.slice none 0 0)) g16.1)] [] rfl <| cB h fun r17 hr17 h => r_callwo (slices_Clone__byte_byte_ok o13 _ hr17) (by kernel_rfl) (fun _ => rfl) (fun _ r hr => by rcases List.mem_singleton.1 hr with rfl; exact Res.free_own rfl) (.sub rfl (sub_own 0 rfl) .nil) rfl fun v18 => ?_
 refine p 2 [0,130,131,133,135] rfl <| st 4 ((.fst .here)) tx0 rfl rfl rfl rfl trivial <| pk [0,0,0,0,0,1] rfl <| p 2 [0,133,137] rfl <| st 4 ((.snd (.fst .here))) tx0 rfl rfl rfl rfl trivial <| pk [0,0,0,0,0] rfl <| za <| zr <| p 3 [140] rfl <| yl 4 ((.snd (.snd (.fst .here)))) ty80 rfl rfl rfl trivial rfl <| r_undirty 2 rfl fun l19 hl19 => ?_
 refine r_clear 2 rfl rfl Try.underlying80 ?_
 refine r_redirty (P := Try.prog) (I := dI) (keys := []) 2 rfl rfl ?_
 refine zn <| pk [4,1,0,0,0] rfl <| r_file (P := Try.prog) (I := dI) ?_
 cases h
 exact r_end0 rfl (fun _ => tup_ok [] .nil) ((.cons_cons _ (.cons _ .slnil)))

theorem disk_Disk_Crash_ok (p0 : Value) (a0 : DiskS) (a1 : List (List Int × Int × Int × List Int × Unit)) (r : DiskS) (h : disk_Disk_Crash a0 a1 = some r) : Fn Try.prog 19 [tp p0, .one (.sl 110 Y110) a1] [Res.disk Try.prog dI p0 a0] (fun _ => .tup []) (fun _ => [Res.disk Try.prog dI p0 r]) := by
 unfold disk_Disk_Crash at h
 refine enter Try.func19 rfl 43 rfl rfl fun F => ?_
 refine r_undisk fun b2 mv1 hp => ?_
 subst hp
 refine zs <| zu <| p 3 [0,1,8] rfl <| yl 0 ((.snd (.snd (.snd (.snd (.snd (.fst .here))))))) ty4 rfl rfl rfl trivial rfl <| q 1 [(10, tb a0.2.2.2.2.2.1)] [0,1] rfl ?_
 refine r_lsplit (γ := Unit) 6 (fun _ => [(0, ptr b2 0), (1, .one (.sl 110 Y110) a1), (16, tb (a0.2.2.2.2.2.1 && (!a0.2.2.2.2.2.2)))]) (fun _ => [Res.var b2 64 DT (a0.1, mv1, a0.2.2.1, a0.2.2.2.1, a0.2.2.2.2.1, a0.2.2.2.2.2.1, a0.2.2.2.2.2.2, ()), Res.dfiles Try.prog dI mv1 a0.2.1]) ?_ (fun _ => ?_)
 ·clear h
  rcases Bool.eq_false_or_eq_true a0.2.2.2.2.2.1 with hh | hh
  ·rw [hh]
   refine p 3 [0,1,10,13] rfl <| r_guard (by rfl) rfl ?_
   exact yl 0 ((.snd (.snd (.snd (.snd (.snd (.snd (.fst .here)))))))) ty4 rfl rfl rfl trivial rfl <| q 2 [(16, tb (!a0.2.2.2.2.2.2))] [0,1] rfl <| r_less [0,1,16] rfl <| za <| r_meetg () rfl rfl
  rw [hh]
  exact p 6 [0,1,16] rfl <| za <| r_meetg () rfl rfl
 refine za <| rI h rfl (fun hc h => zR <| zT <| r_disk (P := Try.prog) (I := dI) (D := a0) <| by cases h; exact r_ret0 rfl (fun _ => tup_ok [] .nil) ((.cons_cons _ .slnil))) fun hc h => zk <| zt <| jK h (γ := Unit) (fun (o5 : (List (List Int × FileS))) _ => [(0, ptr b2 0)]) (fun (o5 : (List (List Int × FileS))) _ => [Res.dfiles Try.prog dI mv1 o5, Res.var b2 64 DT (a0.1, mv1, a0.2.2.1, a0.2.2.2.1, a0.2.2.2.2.1, a0.2.2.2.2.2.1, a0.2.2.2.2.2.2, ())]) (fun k4 h => ?_) fun o5 gg h => ?_
 ·refine zu <| p 3 [0,1,19] rfl <| yl 0 ((.snd (.fst .here))) ty62 rfl rfl rfl trivial rfl <| pk [1,0] rfl <| r_drange kstr rfl Try.underlying62 rfl fun it6 hn7 => ?_
  refine za <| zb <| cB h fun rr hall h => r_less [0,1,21] rfl <| r_rangeloop (step := disk_Disk_Crash_l0 a1) (fun _ _ => True) (comm_disk_Disk_Crash_l0 a1) hn7 trivial hall (γ := Unit) (fun (s10 : (List (List Int × FileS))) _ => [(0, ptr b2 0), (1, .one (.sl 110 Y110) a1), (21, tp it6)]) (fun todo12 (s10 : (List (List Int × FileS))) _ => [Res.diter Try.prog dI mv1 it6 s10 todo12 none none, Res.var b2 64 DT (a0.1, mv1, a0.2.2.1, a0.2.2.2.1, a0.2.2.2.2.1, a0.2.2.2.2.2.1, a0.2.2.2.2.2.2, ())]) () rfl rfl fun todo12 s10 gg hend hone => ?_
  refine zu ?_
  refine r_dnext kstr rfl rfl (fun ht => ?_) (fun A13 k14 B15 q16 htk14 hk => ?_)
  ·obtain rfl := hend ht
   refine r_dunrange ?_
   refine p 1 [0,1,23] rfl <| za <| zs ?_
   refine r_if (b := false) rfl (fun hc => ?_) (fun hc => ?_)
   ·cases hc
   exact zx <| ze <| ze <| zq <| zt <| r_less [0] rfl <| r_meetk s10 () h rfl rfl
  obtain ⟨sk14, hsk14⟩ := hone A13 k14 B15 htk14
  clear h
  have h := hsk14
  unfold disk_Disk_Crash_l0 at h
  refine p 1 [0,1,21,23] rfl <| za <| zs ?_
  refine r_if (b := true) rfl (fun hc => ?_) (fun hc => ?_)
  ·refine zk <| zt <| zb <| zu <| y (y_dentry rfl 0 rfl) rfl ?_
   refine p 4 [0,1,4,5,21] rfl <| za <| zr <| p 3 [0,1,21,27,28,29] rfl <| cB h fun f18 hf18 h => r_difocus hf18 fun fb19 sv20 tv21 dv22 hq => ?_
   rw [hq]
   clear hq
   refine r_file (P := Try.prog) (I := dI) ?_
   refine cB h fun r23 hr23 h => rc [0] (disk_file_fall_ok _ _ _ _ _ hr23) (by kernel_rfl) rfl rfl rfl fun _ => zn <| zi <| zt <| r_unfileb fun sv24 tv25 dv26 => ?_
   refine r_diunfocus (P := Try.prog) (I := dI) ?_
   refine r_imp_at (R' := Res.diter Try.prog dI mv1 it6 (pset .str k14 r23 s10) (A13 ++ B15) none none) 0 rfl diter_none <| r_less [0,1,21] rfl ?_
   obtain rfl := Option.some.inj h
   exact r_backR () htk14 hsk14 rfl rfl
  cases hc
 refine zr <| p 6 [32,33,34,36] rfl <| st 1 ((.snd (.snd (.snd (.snd (.snd (.fst .here))))))) ty4 rfl rfl rfl rfl trivial <| p 2 [33,34,38] rfl <| st 1 ((.snd (.snd (.snd (.snd (.snd (.snd (.fst .here)))))))) ty4 rfl rfl rfl rfl trivial <| p 2 [34,40] rfl <| st 1 ((.snd (.snd (.fst .here)))) ty3 rfl rfl rfl rfl trivial <| p 2 [42] rfl <| st 1 ((.snd (.snd (.snd (.snd (.fst .here)))))) ty3 rfl rfl rfl rfl trivial <| zn <| pk [1,0] rfl <| r_disk (P := Try.prog) (I := dI) (D := (a0.1, o5, 0, a0.2.2.2.1, 0, true, false)) ?_
 cases h
 exact r_end0 rfl (fun _ => tup_ok [] .nil) ((.cons_cons _ .slnil))

theorem disk_Disk_On_ok (p0 : Value) (a0 : DiskS) (r : DiskS) (h : disk_Disk_On a0 = some r) : Fn Try.prog 20 [tp p0] [Res.disk Try.prog dI p0 a0] (fun _ => .tup []) (fun _ => [Res.disk Try.prog dI p0 r]) := by
 unfold disk_Disk_On at h
 refine enter Try.func20 rfl 11 rfl rfl fun F => ?_
 refine r_undisk fun b2 mv1 hp => ?_
 subst hp
 refine jK h (γ := Unit) (fun (o4 : DiskS) _ => [(0, ptr b2 0)]) (fun (o4 : DiskS) _ => [Res.disk Try.prog dI (.pointer (some ⟨b2, 0, none⟩)) o4]) (fun k3 h => ?_) fun o4 gg h => ?_
 ·refine zu <| p 3 [0,4] rfl <| yl 0 ((.snd (.snd (.snd (.snd (.snd (.snd (.fst .here)))))))) ty4 rfl rfl rfl trivial rfl <| za <| rI h rfl (fun hc h => ?_) fun hc h => ?_
  ·refine zr <| p 1 [0,6] rfl <| r_disk (P := Try.prog) (I := dI) (D := a0) <| cB h fun r6 hr6 h => r_calla (Lo := []) (disk_Disk_Crash_ok (.pointer (some ⟨b2, 0, none⟩)) a0 [] _ hr6) (by kernel_rfl) (takeR_perm (is := [0]) rfl) (.val rfl (.nilsl .nil)) rfl fun _ => ?_
   exact za <| r_less [0] rfl <| r_meetk r6 () h rfl rfl
  exact zk <| zt <| r_disk (P := Try.prog) (I := dI) (D := a0) <| r_less [0] rfl <| r_meetk a0 () h rfl rfl
 refine r_undiskb fun mv5 => ?_
 refine zr <| p 3 [10] rfl <| st 0 ((.snd (.snd (.snd (.snd (.snd (.fst .here))))))) ty4 rfl rfl rfl rfl trivial <| zn <| r_disk (P := Try.prog) (I := dI) (D := (o4.1, o4.2.1, o4.2.2.1, o4.2.2.2.1, o4.2.2.2.2.1, false, o4.2.2.2.2.2.2)) ?_
 cases h
 exact r_end0 rfl (fun _ => tup_ok [] .nil) ((.cons_cons _ .slnil))

theorem escrowlaw19_whole_ok (a0 : List Int) (a1 : Int) (r : Int × Bool) (h : escrowlaw19_whole a0 a1 = some r) : Pure Try.prog 37 [ts a0, ti a1] (.tup [⟨(.int .i64), r.1⟩, ⟨.bool, r.2⟩]) := by
 unfold escrowlaw19_whole at h
 refine enter Try.func37 rfl 47 rfl rfl fun F => ?_
 refine zu <| p 2 [0,1] rfl <| za <| zs <| zu <| q 6 [(14, tb (decide ((List.length a0 : Int) < (IntKind.wrap .i64 ((IntKind.wrap .i64 (64 * a1)) + 12)))))] [0,1] rfl ?_
 obtain ⟨t1, e, h⟩ := bnd_ex h; rw [e]
 refine za <| rI h rfl (fun hc h => zu <| p 2 [4,5] rfl <| zf <| zT <| by cases h; exact r_rets (rs := [.tmp 4, .tmp 5]) rfl (.cons (.tmp rfl) (.cons (.tmp rfl) (.nil))) rfl (fun _ vs g => tup_ok vs g) (fun _ _ _ => List.nil_sublist _)) fun hc h => zy <| p 6 [15,17,20] rfl <| iE h fun hc h => y (y_sub (i := (IntKind.wrap .i64 (64 * a1))) (j := (IntKind.wrap .i64 ((IntKind.wrap .i64 (64 * a1)) + 12))) tabOk rfl rfl rfl hc.1 hc.2.1 hc.2.2 rfl) rfl ?_
 refine q 1 [(6, ts (List.drop (Int.toNat (IntKind.wrap .i64 (64 * a1))) (List.take (Int.toNat (IntKind.wrap .i64 ((IntKind.wrap .i64 (64 * a1)) + 12))) a0)))] [] rfl ?_
 obtain ⟨bx2, e, h⟩ := bnd_ex h; rw [e]
 refine zz <| p 1 [6,7] rfl <| za <| jK h (γ := Unit) (fun (o4 : Int) _ => [(6, ts bx2), (7, ti o4)]) (fun (o4 : Int) _ => []) (fun k3 h => ?_) fun o4 gg h => ?_
 ·refine zu <| p 1 [6,7,8] rfl <| za <| zb <| r_less [6,7,8] rfl <| r_loopg (γ := Unit) (fun (s11 : Int × Int) _ => [(6, ts bx2), (7, ti s11.1), (8, ti s11.2)]) (fun (s11 : Int × Int) _ => []) (escrowlaw19_whole_l0 bx2 k3) (0, 0) () h rfl rfl ?_
  clear h
  intro m12 s11 gg h
  cases m12 with
  | zero => cases h
  | succ m12 =>
  simp only [escrowlaw19_whole_l0] at h
  refine zs <| zu <| q 2 [(7, ti s11.1), (8, ti s11.2), (23, tb (decide (s11.2 < 8)))] [6] rfl <| za <| rI h rfl (fun hc h => ?_) fun hc h => ?_
  ·refine zk <| zt <| zs <| zb <| zr <| q 4 [(27, ti (ishl .i64 s11.1 8)), (28, ts bx2), (29, ti s11.2)] [6,8] rfl <| iE h fun hc h => y (y_byte tabOk rfl rfl hc.1 hc.2 rfl) rfl ?_
   refine q 3 [(7, ti (ior .i64 (ishl .i64 s11.1 8) (IntKind.wrap .i64 (List.getD bx2 (Int.toNat s11.2) 0))))] [6,8] rfl ?_
   obtain ⟨v13, e, h⟩ := bnd_ex h; rw [e]
   refine zn <| zi <| zt <| zr <| q 3 [(7, ti v13), (8, ti (IntKind.wrap .i64 (s11.2 + 1)))] [6] rfl ?_
   obtain ⟨i14, e, h⟩ := bnd_ex h; rw [e]
   exact za <| r_less [6,7,8] rfl <| r_backg (v13, i14) () (Nat.lt_succ_self _) h rfl rfl
  exact zx <| ze <| ze <| zq <| zt <| r_less [6,7] rfl <| r_meetk s11.1 () h rfl rfl
 refine zs <| r_drawn (by kernel_rfl) (by kernel_rfl) ?_
 refine q_pure tabOk 4 [6, 7, 33, 36] (E' := [(6, ts bx2), (7, ti o4), (33, ti o4), (36, tb (decide (o4 ≥ (-1))))]) rfl ?_
 obtain ⟨b5, e, h⟩ := bnd_ex h; rw [e]
 refine q_lsplit 3 [(6, ts bx2), (7, ti o4), (33, ti o4), (39, tb (b5 && (decide (o4 < 281474976710656))))] ?_ ?_
 ·clear h
  cases b5
  ·refine q_pure tabOk 3 [6, 7, 33, 39] (E' := [(6, ts bx2), (7, ti o4), (33, ti o4), (39, tb false)]) rfl ?_
   refine q_lnil ?_
   exact q_meet rfl
  refine q_pure tabOk 3 [6, 7, 33, 39] (E' := [(6, ts bx2), (7, ti o4), (33, ti o4), (39, tb (decide (o4 < 281474976710656)))]) rfl ?_
  refine q_lnil ?_
  exact q_meet rfl
 refine q_pure tabOk 1 [6, 7, 33, 40] (E' := [(6, ts bx2), (7, ti o4), (33, ti o4), (40, tb (b5 && (decide (o4 < 281474976710656))))]) rfl ?_
 obtain ⟨b6, e, h⟩ := bnd_ex h; rw [e]
 refine bX h fun k7 hk7 h => ?_
 refine q_lsplitk 6 (fun (o8 : Bool) => [(33, ti o4), (46, tb o8)]) k7 r ?_ ?_
 ·rcases Bool.eq_false_or_eq_true b6 with hh | hh
  ·rw [hh] at h ⊢
   rw [if_pos rfl] at h
   refine q_pure tabOk 1 [6, 33, 40, 41] (E' := [(6, ts bx2), (33, ti o4), (40, tb true), (41, ti o4)]) rfl ?_
   refine q_guard (by rfl) rfl ?_
   refine cB h fun r9 hr9 h => q_calls (escrowlaw19_slot_ok o4 _ hr9) (by kernel_rfl) rfl rfl rfl ?_
   refine q_guard (by rfl) rfl ?_
   refine iE h fun hc h => q_y (y_sub (i := (0 : Int)) (j := 12) tabOk rfl rfl rfl hc.1 hc.2.1 hc.2.2 rfl) rfl ?_
   refine q_pure tabOk 3 [33, 46] (E' := [(33, ti o4), (46, tb ((List.drop 0 (List.take 12 r9)) == bx2))]) rfl ?_
   refine q_lnil ?_
   exact q_meetk ((List.drop 0 (List.take 12 r9)) == bx2) [33, 46] h rfl
  rw [hh] at h ⊢
  rw [if_neg (by decide)] at h
  refine q_pure tabOk 6 [33, 46] (E' := [(33, ti o4), (46, tb false)]) rfl ?_
  refine q_lnil ?_
  exact q_meetk false [33, 46] h rfl
 intro o8 h
 rw [← hk7] at h
 try dsimp only at h
 refine q_pure tabOk 2 [4, 5] (E' := [(4, ti o4), (5, tb o8)]) rfl ?_
 refine q_nil ?_
 refine zt <| zR ?_
 cases h
 exact r_rets (rs := [.tmp 4, .tmp 5]) rfl (.cons (.tmp rfl) (.cons (.tmp rfl) (.nil))) rfl (fun _ vs g => tup_ok vs g) (fun _ _ _ => List.nil_sublist _)

theorem escrowlaw19_Tale_tried_ok (p0 : Value) (p100 : Value) (a0 : (Int × Unit × List Int × Int × Int × Unit) × Int × List (Int) × Unit) (a1 : Int) (a100 : DiskS) (r : Bool) (h : escrowlaw19_Tale_tried a0 a1 a100 = some r) : Fn Try.prog 38 [tp p0, ti a1] [Res.cls (CTale p100) p0 a0, Res.disk Try.prog dI p100 a100] (fun _ => tb r) (fun _ => [Res.cls (CTale p100) p0 a0, Res.disk Try.prog dI p100 a100]) := by
 unfold escrowlaw19_Tale_tried at h
 refine enter Try.func38 rfl 26 rfl rfl fun F => ?_
 refine r_unCTale fun b3 sv1 sv2 hp => ?_
 subst hp
 refine r_CTale (x := a0) (q := p100) ?_
 refine zu <| p 1 [0,1] rfl <| za <| jK h (γ := Unit) (fun (o5 : Unit) _ => [(1, ti a1)]) (fun (o5 : Unit) _ => [Res.cls (CTale p100) (.pointer (some ⟨b3, 0, none⟩)) a0, Res.disk Try.prog dI p100 a100]) (fun k4 h => ?_) fun o5 gg h => ?_
 ·refine zu <| p 1 [0,1,5] rfl <| za <| zb <| r_less [0,1,5] rfl <| r_loopg (γ := Unit) (fun (s7 : Int) _ => [(0, ptr b3 0), (1, ti a1), (5, ti s7)]) (fun (s7 : Int) _ => [Res.cls (CTale p100) (.pointer (some ⟨b3, 0, none⟩)) a0, Res.disk Try.prog dI p100 a100]) (escrowlaw19_Tale_tried_l0 a0 a1 k4) 0 () h rfl rfl ?_
  clear h
  intro m8 s7 gg h
  cases m8 with
  | zero => cases h
  | succ m8 =>
  simp only [escrowlaw19_Tale_tried_l0] at h
  refine zs <| zs <| r_unCTaleb fun sv9 sv10 => ?_
  refine zr <| p 4 [0,1,5,6,9] rfl <| yl 0 ((.snd (.snd (.fst .here)))) tx1 rfl rfl rfl trivial rfl <| y (y_lenown tabOk 2 rfl rfl rfl) rfl ?_
  refine q 1 [(12, tb (decide (s7 < (List.length a0.2.2.1 : Int))))] [0,1,5] rfl <| za <| rI h rfl (fun hc h => ?_) fun hc h => ?_
  ·refine zk <| zt <| zs <| zb <| zu <| p 3 [0,1,5,17] rfl <| yl 0 ((.snd (.snd (.fst .here)))) tx1 rfl rfl rfl trivial rfl <| p 1 [0,1,5,18,19] rfl <| iE h fun hc h => r_expose 2 rfl (by first | omega | (simp only [List.length_set] at hc ⊢; omega)) fun b11 c12 hv => ?_
   rw [hv]
   try clear hv
   refine y (y_iraw tabOk rfl rfl hc.1 (by first | exact hc.2 | simpa using hc.2) rfl ty2) rfl ?_
   refine y (y_lown 2 (Int.toNat s7) .here rfl rfl (by first | omega | (simp only [List.length_set] at hc ⊢; omega)) (by first | rfl | (simp only [Pth.off, T.size]; omega)) ok_here ty2) rfl ?_
   refine q 2 [(23, tb ((List.getD a0.2.2.1 (Int.toNat s7) 0) == a1))] [0,1,5] rfl <| za <| rI h rfl (fun hc h => ?_) fun hc h => ?_
   ·refine zu <| p 1 [4] rfl <| zf <| zB <| zT <| zT <| zB <| zT <| r_CTale (x := a0) (q := p100) ?_
    cases h
    exact r_ret1 rfl (.tmp rfl) (fun _ _ g => g) (fun _ _ _ => (.cons_cons _ (.cons_cons _ .slnil)))
   refine zk <| zi <| zt <| zr <| p 3 [0,1,5] rfl ?_
   obtain ⟨i13, e, h⟩ := bnd_ex h; rw [e]
   refine za <| r_CTale (x := a0) (q := p100) ?_
   exact r_less [0,1,5] rfl <| r_backg i13 () (Nat.lt_succ_self _) h rfl rfl
  refine zx <| ze <| ze <| zq <| zt <| r_CTale (x := a0) (q := p100) ?_
  exact r_less [1] rfl <| r_meetk () () h rfl rfl
 refine zu <| p 3 [4] rfl <| zf ?_
 cases h
 exact r_ret1 rfl (.tmp rfl) (fun _ _ g => g) (fun _ _ _ => (.cons_cons _ (.cons_cons _ .slnil)))

theorem escrowlaw19_Tale_forged_ok (p0 : Value) (p1 : Value) (a0 : (Int × Unit × List Int × Int × Int × Unit) × Int × List (Int) × Unit) (a1 : DiskS) (a2 : List Int) (r : Bool) (h : escrowlaw19_Tale_forged a0 a1 a2 = some r) : Fn Try.prog 21 [tp p0, tp p1, ts a2] [Res.cls (CTale p1) p0 a0, Res.disk Try.prog dI p1 a1] (fun _ => tb r) (fun _ => [Res.cls (CTale p1) p0 a0, Res.disk Try.prog dI p1 a1]) := by
 unfold escrowlaw19_Tale_forged at h
 refine enter Try.func21 rfl 37 rfl rfl fun F => ?_
 refine r_unCTale fun b3 sv1 sv2 hp => ?_
 subst hp
 refine r_CTale (x := a0) (q := p1) ?_
 refine zu <| p 1 [0,1,2] rfl <| zz <| p 2 [0,13,14] rfl <| cB h fun r4 hr4 h => rc [1] (disk_Disk_Read_ok _ _ _ _ _ _ hr4) (by kernel_rfl) rfl rfl rfl fun _ => q 5 [(7, ts r4.1), (8, ti r4.2)] [0] rfl <| za <| zs <| zu <| q 2 [(19, tb (r4.2 != 0))] [0,7] rfl <| za <| rI h rfl (fun hc h => zu <| p 1 [6] rfl <| zf <| zT <| by cases h; exact pk [1,0] rfl <| r_ret1 rfl (.tmp rfl) (fun _ _ g => g) (fun _ _ _ => (.cons_cons _ (.cons_cons _ .slnil)))) fun hc h => ?_
 refine zk <| zt <| jK h (γ := Unit) (fun (o6 : Unit) _ => []) (fun (o6 : Unit) _ => [Res.disk Try.prog dI p1 a1, Res.cls (CTale p1) (.pointer (some ⟨b3, 0, none⟩)) a0]) (fun k5 h => ?_) fun o6 gg h => ?_
 ·refine zu <| p 1 [0,7,9] rfl <| za <| zb <| r_less [0,7,9] rfl <| r_loopg (γ := Unit) (fun (s8 : Int) _ => [(0, ptr b3 0), (7, ts r4.1), (9, ti s8)]) (fun (s8 : Int) _ => [Res.disk Try.prog dI p1 a1, Res.cls (CTale p1) (.pointer (some ⟨b3, 0, none⟩)) a0]) (escrowlaw19_Tale_forged_l0 a0 a1 r4 k5) 0 () h rfl rfl ?_
  clear h
  intro m9 s8 gg h
  cases m9 with
  | zero => cases h
  | succ m9 =>
  simp only [escrowlaw19_Tale_forged_l0] at h
  refine zs <| zu <| p 2 [0,7,9,21] rfl <| za <| rI h rfl (fun hc h => ?_) fun hc h => ?_
  ·refine zk <| zt <| zs <| zb <| zu <| q 2 [(25, ts r4.1), (26, ti s8)] [0,7,9] rfl <| cB h fun r10 hr10 h => r_calls (escrowlaw19_whole_ok _ _ _ hr10) (by kernel_rfl) rfl rfl <| q 5 [(10, ti r10.1), (11, tb r10.2)] [0,7,9] rfl <| zz <| q 2 [(31, tb r10.2)] [0,7,9,10] rfl <| bX h fun k12 hk12 h => ?_
   refine r_lsplitk (γ := Unit) 5 (fun (o13 : Bool) _ => [(0, ptr b3 0), (7, ts r4.1), (9, ti s8), (36, tb o13)]) (fun _ _ => [Res.disk Try.prog dI p1 a1, Res.cls (CTale p1) (.pointer (some ⟨b3, 0, none⟩)) a0]) k12 r ?_ ?_
   ·rcases Bool.eq_false_or_eq_true r10.2 with hh | hh
    ·rw [hh] at h ⊢
     rw [if_pos rfl] at h
     refine q 2 [(31, tb true), (32, ptr b3 0), (33, ti r10.1)] [0,7,9] rfl <| r_guard (by rfl) rfl ?_
     exact cB h fun r14 hr14 h => rc [1,0] (escrowlaw19_Tale_tried_ok _ _ _ _ _ _ hr14) (by kernel_rfl) rfl rfl rfl fun _ => p 2 [0,7,9,36] rfl <| zn <| r_less [0,7,9,36] rfl <| pk [1,0] rfl <| zt <| r_meetk (!r14) () h rfl rfl
    rw [hh] at h ⊢
    rw [if_neg (by decide)] at h
    exact p 5 [0,7,9,36] rfl <| zn <| r_less [0,7,9,36] rfl <| zt <| r_meetk false () h rfl rfl
   intro o13 _ h
   rw [← hk12] at h
   try dsimp only at h
   refine za <| rI h rfl (fun hc h => zu <| p 1 [6] rfl <| zf <| zB <| zT <| zT <| zB <| zT <| by cases h; exact pk [1,0] rfl <| r_ret1 rfl (.tmp rfl) (fun _ _ g => g) (fun _ _ _ => (.cons_cons _ (.cons_cons _ .slnil)))) fun hc h => zk <| zi <| zt <| zr <| p 3 [0,7,9] rfl ?_
   obtain ⟨k15, e, h⟩ := bnd_ex h; rw [e]
   exact za <| r_less [0,7,9] rfl <| r_backg k15 () (Nat.lt_succ_self _) h rfl rfl
  exact zx <| ze <| ze <| zq <| zt <| r_less [] rfl <| r_meetk () () h rfl rfl
 refine zu <| p 1 [6] rfl <| zf ?_
 cases h
 exact pk [1,0] rfl <| r_ret1 rfl (.tmp rfl) (fun _ _ g => g) (fun _ _ _ => (.cons_cons _ (.cons_cons _ .slnil)))

theorem disk_Disk_Off_ok (p0 : Value) (a0 : DiskS) (r : Bool) (h : disk_Disk_Off a0 = some r) : Fn Try.prog 22 [tp p0] [Res.disk Try.prog dI p0 a0] (fun _ => tb r) (fun _ => [Res.disk Try.prog dI p0 a0]) := by
 unfold disk_Disk_Off at h
 refine enter Try.func22 rfl 7 rfl rfl fun F => ?_
 refine r_undisk fun b2 mv1 hp => ?_
 subst hp
 refine zu <| p 1 [0] rfl <| zz <| p 3 [5] rfl <| yl 0 ((.snd (.snd (.snd (.snd (.snd (.fst .here))))))) ty4 rfl rfl rfl trivial rfl <| q 1 [(2, tb a0.2.2.2.2.2.1)] [] rfl <| zf <| r_disk (P := Try.prog) (I := dI) (D := a0) ?_
 cases h
 exact r_ret1 rfl (.tmp rfl) (fun _ _ g => g) (fun _ _ _ => (.cons_cons _ .slnil))

theorem escrowlaw19_MarkSafe_ok (a0 : List (Int × Bool × Int × List Int × (List (List Int × Int × Int × List Int × Unit)) × Unit)) (r : Bool) (h : escrowlaw19_MarkSafe a0 = some r) : Pure Try.prog 4 [.one (.sl 49 Y49) a0] (tb r) := by
 unfold escrowlaw19_MarkSafe at h
 refine enter Try.func4 rfl 140 rfl rfl fun F => ?_
 refine zu <| p 1 [0] rfl <| za <| zs <| zu <| cB h fun r1 hr1 h => r_calls (escrowlaw19_head_ok _ hr1) (by kernel_rfl) rfl rfl <| p 1 [0,10] rfl <| za <| rI h rfl (fun hc h => zu <| p 1 [2] rfl <| zf <| zT <| by cases h; exact r_ret1 rfl (.tmp rfl) (fun _ _ g => g) (fun _ _ _ => List.nil_sublist _)) fun hc h => ?_
 refine zy <| cB h fun r2 hr2 h => r_call (Lo := []) (disk_New_ok 1000 _ hr2) (by kernel_rfl) (List.Perm.refl _) rfl rfl fun v3 => ?_
 refine q 5 [(3, tp (tupv v3 0)), (4, ti r2.1)] [0] rfl <| za <| zs <| zu <| p 1 [0,3,4,15] rfl <| y (y_dnil 0 rfl rfl Try.underlying24) rfl ?_
 refine q 1 [(17, tb (r2.1 != 0))] [0,3,4] rfl ?_
 obtain ⟨b4, e, h⟩ := bnd_ex h; rw [e]
 refine r_lsplit (γ := Unit) 3 (fun _ => [(0, .one (.sl 49 Y49) a0), (3, tp (tupv v3 0)), (20, tb (b4 || (r2.1 != 0)))]) (fun _ => [Res.diskif Try.prog dI (tupv v3 0) r2.2 r2.1]) ?_ (fun _ => ?_)
 ·clear h
  cases b4
  ·exact q 3 [(20, tb (r2.1 != 0))] [0,3] rfl <| r_less [0,3,20] rfl <| za <| r_meetg () rfl rfl
  exact p 3 [0,3,20] rfl <| za <| r_meetg () rfl rfl
 refine za <| rI h rfl (fun hc h => zu <| p 1 [2] rfl <| zf <| zT <| by cases h; exact r_ret1 rfl (.tmp rfl) (fun _ _ g => g) (fun _ _ _ => List.nil_sublist _)) fun hc h => zy <| y (y_build rfl zf45 rfl rfl (.cons ((.snd (.fst .here))) rfl rfl (ok_snd (ok_fst ok_here)) .nil)) rfl ?_
 refine r_box rfl rfl fun b5 => r_nocls (K := (CMark (tupv v3 0))) (x := ((), [], 0, 0, ())) (e := 1) (by decide) ?_
 refine r_nilown (.slice none 0 0) rfl 2 (.int .i64) ?_
 refine y (y_build rfl zf45 rfl rfl (.cons ((.snd (.fst .here))) rfl rfl (ok_snd (ok_fst ok_here)) .nil)) rfl ?_
 refine r_box rfl rfl fun b6 => r_nocls (K := (CMark (tupv v3 0))) (x := ((), [], 0, 0, ())) (e := 1) (by decide) ?_
 refine r_nilown (.slice none 0 0) rfl 2 (.int .i64) ?_
 refine y (y_build rfl zf46 rfl rfl (.cons (.elem 0 .here) rfl rfl (ok_elem (by first | omega | (simp only [List.length_set] at hc ⊢; omega)) ok_here) (.cons (.elem 1 .here) rfl rfl (ok_elem (by first | omega | (simp only [List.length_set] at hc ⊢; omega)) ok_here) .nil))) rfl ?_
 refine r_alloc (t := (.arr 2 (.raw (.pointer none)))) rfl zf46 rfl fun b7 => st 0 .here tx2 rfl rfl rfl rfl trivial <| za <| jK h (γ := Unit) (fun (o9 : ((Int × Unit × List Int × Int × Int × Unit) × Int × List (Int) × Unit) × ((Int × Unit × List Int × Int × Int × Unit) × Int × List (Int) × Unit) × DiskS) _ => [(3, tp (tupv v3 0)), (5, ptr b7 0)]) (fun (o9 : ((Int × Unit × List Int × Int × Int × Unit) × Int × List (Int) × Unit) × ((Int × Unit × List Int × Int × Int × Unit) × Int × List (Int) × Unit) × DiskS) _ => [Res.cls (CTale (tupv v3 0)) (.pointer (some ⟨b5, 0, none⟩)) o9.1, Res.cls (CTale (tupv v3 0)) (.pointer (some ⟨b6, 0, none⟩)) o9.2.1, Res.var b7 46 (.arr 2 (.raw (.pointer none))) [.pointer (some ⟨b5, 0, none⟩), .pointer (some ⟨b6, 0, none⟩)], Res.diskif Try.prog dI (tupv v3 0) o9.2.2 r2.1]) (fun k8 h => ?_) fun o9 gg h => ?_
 ·refine zu <| p 1 [0,3,5,6] rfl <| za <| zb <| pk [3,2,1,0,0,0,0,0] rfl <| r_CTale (x := ((1, ((), [], 0, 0, ())), (-1), [], ())) (q := (tupv v3 0)) ?_
  refine pk [4,3,2,0,0,0] rfl <| r_CTale (x := ((1, ((), [], 0, 0, ())), (-1), [], ())) (q := (tupv v3 0)) ?_
  refine r_less [0,3,5,6] rfl <| r_loopg (γ := Unit) (fun (s38 : Int × ((Int × Unit × List Int × Int × Int × Unit) × Int × List (Int) × Unit) × DiskS × ((Int × Unit × List Int × Int × Int × Unit) × Int × List (Int) × Unit)) _ => [(0, .one (.sl 49 Y49) a0), (3, tp (tupv v3 0)), (5, ptr b7 0), (6, ti s38.1)]) (fun (s38 : Int × ((Int × Unit × List Int × Int × Int × Unit) × Int × List (Int) × Unit) × DiskS × ((Int × Unit × List Int × Int × Int × Unit) × Int × List (Int) × Unit)) _ => [Res.cls (CTale (tupv v3 0)) (.pointer (some ⟨b5, 0, none⟩)) s38.2.2.2, Res.cls (CTale (tupv v3 0)) (.pointer (some ⟨b6, 0, none⟩)) s38.2.1, Res.var b7 46 (.arr 2 (.raw (.pointer none))) [.pointer (some ⟨b5, 0, none⟩), .pointer (some ⟨b6, 0, none⟩)], Res.diskif Try.prog dI (tupv v3 0) s38.2.2.1 r2.1]) (escrowlaw19_MarkSafe_l0 a0 r2 k8) (0, ((1, ((), [], 0, 0, ())), (-1), [], ()), r2.2, ((1, ((), [], 0, 0, ())), (-1), [], ())) () h rfl rfl ?_
  clear h
  intro m39 s38 gg h
  cases m39 with
  | zero => cases h
  | succ m39 =>
  simp only [escrowlaw19_MarkSafe_l0] at h
  refine zs <| zu <| q 4 [(6, ti s38.1), (29, tb (decide (s38.1 < (List.length a0 : Int))))] [0,3,5] rfl <| za <| rI h rfl (fun hc h => ?_) fun hc h => ?_
  ·refine zk <| zt <| jK h (γ := Unit) (fun (o41 : ((Int × Unit × List Int × Int × Int × Unit) × Int × List (Int) × Unit) × DiskS × ((Int × Unit × List Int × Int × Int × Unit) × Int × List (Int) × Unit)) _ => [(0, .one (.sl 49 Y49) a0), (3, tp (tupv v3 0)), (5, ptr b7 0), (6, ti s38.1)]) (fun (o41 : ((Int × Unit × List Int × Int × Int × Unit) × Int × List (Int) × Unit) × DiskS × ((Int × Unit × List Int × Int × Int × Unit) × Int × List (Int) × Unit)) _ => [Res.cls (CTale (tupv v3 0)) (.pointer (some ⟨b6, 0, none⟩)) o41.1, Res.diskif Try.prog dI (tupv v3 0) o41.2.1 r2.1, Res.cls (CTale (tupv v3 0)) (.pointer (some ⟨b5, 0, none⟩)) o41.2.2, Res.var b7 46 (.arr 2 (.raw (.pointer none))) [.pointer (some ⟨b5, 0, none⟩), .pointer (some ⟨b6, 0, none⟩)]]) (fun k40 h => ?_) fun o41 gg h => ?_
   ·refine zb <| zu <| q 2 [(32, .one (.sl 49 Y49) a0), (33, ti s38.1)] [0,3,5,6] rfl <| iE h fun hc h => y (y_iref tabOk rfl rfl hc.1 hc.2 rfl ty49) rfl ?_
    refine y (y_ref rfl ty49) rfl ?_
    refine r_alloc (t := Y49) rfl zf49 rfl fun b43 => st 0 .here ty49 rfl rfl rfl rfl trivial <| zz <| p 1 [0,3,5,6,7,8] rfl <| za <| zs <| zu <| p 1 [0,3,5,6,7,8,36] rfl <| yl 0 ((.snd (.fst .here))) ty4 rfl rfl rfl trivial rfl <| za <| rI h rfl (fun hc h => ?_) fun hc h => ?_
    ·refine zr <| p 1 [0,3,5,6,7,8] rfl <| zz <| p 1 [0,3,5,6,7,8,38] rfl <| yl 0 ((.fst .here)) ty3 rfl rfl rfl trivial rfl <| za <| zb <| zu <| q 2 [(39, ti ((List.getD a0 (Int.toNat s38.1) (0, false, 0, [], [], ())).1)), (40, tb (((List.getD a0 (Int.toNat s38.1) (0, false, 0, [], [], ())).1) == 1))] [0,3,5,6,7,8] rfl <| za <| rI h rfl (fun hc h => ?_) fun hc h => ?_
     ·refine zs <| r_any (by kernel_rfl) ?_
      refine a_float (i := 0) (t := ti 1) (blind_then (blind_block (blind_block (blind_then (blind_then (blind_block (blind_then blind_body))))))) rfl (by kernel_rfl) (by kernel_rfl) (by kernel_rfl) (y_pure tabOk rfl) rfl ?_
      refine iE h fun hc h => a_float (i := 1) (t := ptr b7 (0 + 1 * 1)) (blind_then (blind_block (blind_block (blind_then (blind_then (blind_block (blind_then blind_body))))))) rfl (by kernel_rfl) (by kernel_rfl) (by kernel_rfl) (y_ivar rfl rfl hc.1 hc.2 un46 ty42) rfl ?_
      refine a_float (i := 3) (t := tp (tupv v3 0)) (blind_then (blind_block (blind_block (blind_then (blind_then (blind_block (blind_then blind_body))))))) rfl (by kernel_rfl) (by kernel_rfl) (by kernel_rfl) (y_pure tabOk rfl) rfl ?_
      refine a_float (i := 4) (t := ptr b43 1) (blind_then (blind_block (blind_block (blind_then (blind_then (blind_block (blind_then blind_body))))))) rfl (by kernel_rfl) (by kernel_rfl) (by kernel_rfl) (y_pure tabOk rfl) rfl ?_
      refine a_two (i := 2) (j := 5) (by kernel_rfl) rfl rfl ?_ ?_
      ·refine y (y_load 3 (.elem 1 .here) rfl rfl (by first | rfl | (simp only [Pth.off, T.size]; omega)) (ok_elem (by first | omega | (simp only [List.length_set] at hc ⊢; omega)) ok_here) ty42) rfl ?_
       refine za <| r_less [0,3,5,6,44,45,46] rfl <| a_one (i := 5) (by kernel_rfl) rfl ?_
       refine yl 0 ((.snd (.fst .here))) ty4 rfl rfl rfl trivial rfl <| za <| r_less [0,3,5,6,44,45,47] rfl <| a_one (i := 6) (by kernel_rfl) rfl ?_
       refine cB h fun r44 hr44 h => r_calls (escrowlaw19_name_ok _ _ hr44) (by kernel_rfl) rfl rfl <| za <| r_less [0,3,5,6,44,45,48] rfl <| a_one (i := 7) (by kernel_rfl) rfl ?_
       obtain ⟨he45, h⟩ := ite_ex h
       refine r_imp_at (R' := Res.disk Try.prog dI (tupv v3 0) s38.2.2.1) 4 rfl (diskif_disk he45) <| cB h fun r46 hr46 h => rc [2,3] (escrowlaw19_Tale_opens_ok _ _ _ _ _ _ hr46) (by kernel_rfl) rfl rfl rfl fun _ => za <| r_less [0,3,5,6,49] rfl <| a_float (i := 8) (t := tb (!r46.1)) (blind_then (blind_block (blind_block (blind_then (blind_then (blind_block (blind_then blind_body))))))) rfl (by kernel_rfl) (by kernel_rfl) (by kernel_rfl) (y_pure tabOk rfl) rfl ?_
       refine a_end (by kernel_rfl) ?_
       exact zt <| rI h rfl (fun hc h => zu <| p 1 [2] rfl <| zf <| zB <| zB <| zT <| zT <| zB <| zT <| by cases h; exact r_ret1 rfl (.tmp rfl) (fun _ _ g => g) (fun _ _ _ => List.nil_sublist _)) fun hc h => zk <| zi <| zi <| zt <| r_imp_at (R' := Res.diskif Try.prog dI (tupv v3 0) r46.2.2 r2.1) 1 rfl (diskif_of he45) <| pk [0,0,1,1] rfl <| r_less [0,3,5,6] rfl <| r_meetk (r46.2.1, r46.2.2, s38.2.2.2) () h rfl rfl
      refine yl 0 ((.snd (.fst .here))) ty4 rfl rfl rfl trivial rfl <| za <| r_less [0,3,5,6,43,45,47] rfl <| a_pref (fuel := 2) [2, 6] #[true, true, true, true, true, true, true, false, false] (by kernel_rfl) ?_
      refine q_y (y_load 3 (.elem 1 .here) rfl rfl (by first | rfl | (simp only [Pth.off, T.size]; omega)) (ok_elem (by first | omega | (simp only [List.length_set] at hc ⊢; omega)) ok_here) ty42) rfl ?_
      refine cB h fun r44 hr44 h => q_calls (escrowlaw19_name_ok ((List.getD a0 (Int.toNat s38.1) (0, false, 0, [], [], ())).2.1) _ hr44) (by kernel_rfl) rfl rfl rfl ?_
      refine q_nil ?_
      refine r_less [0,3,5,6,44,45,48] rfl <| a_one (i := 7) (by kernel_rfl) rfl ?_
      obtain ⟨he45, h⟩ := ite_ex h
      refine r_imp_at (R' := Res.disk Try.prog dI (tupv v3 0) s38.2.2.1) 4 rfl (diskif_disk he45) <| cB h fun r46 hr46 h => rc [2,3] (escrowlaw19_Tale_opens_ok _ _ _ _ _ _ hr46) (by kernel_rfl) rfl rfl rfl fun _ => za <| r_less [0,3,5,6,49] rfl <| a_float (i := 8) (t := tb (!r46.1)) (blind_then (blind_block (blind_block (blind_then (blind_then (blind_block (blind_then blind_body))))))) rfl (by kernel_rfl) (by kernel_rfl) (by kernel_rfl) (y_pure tabOk rfl) rfl ?_
      refine a_end (by kernel_rfl) ?_
      exact zt <| rI h rfl (fun hc h => zu <| p 1 [2] rfl <| zf <| zB <| zB <| zT <| zT <| zB <| zT <| by cases h; exact r_ret1 rfl (.tmp rfl) (fun _ _ g => g) (fun _ _ _ => List.nil_sublist _)) fun hc h => zk <| zi <| zi <| zt <| r_imp_at (R' := Res.diskif Try.prog dI (tupv v3 0) r46.2.2 r2.1) 1 rfl (diskif_of he45) <| pk [0,0,1,1] rfl <| r_less [0,3,5,6] rfl <| r_meetk (r46.2.1, r46.2.2, s38.2.2.2) () h rfl rfl
     refine zu <| q 2 [(51, tb (((List.getD a0 (Int.toNat s38.1) (0, false, 0, [], [], ())).1) == 2))] [0,3,5,6,7,8,39] rfl <| za <| rI h rfl (fun hc h => ?_) fun hc h => ?_
     ·refine zs <| r_any (by kernel_rfl) ?_
      refine a_float (i := 0) (t := ti 1) (blind_then (blind_block (blind_block (blind_then (blind_then (blind_block (blind_then blind_body))))))) rfl (by kernel_rfl) (by kernel_rfl) (by kernel_rfl) (y_pure tabOk rfl) rfl ?_
      refine iE h fun hc h => a_float (i := 1) (t := ptr b7 (0 + 1 * 1)) (blind_then (blind_block (blind_block (blind_then (blind_then (blind_block (blind_then blind_body))))))) rfl (by kernel_rfl) (by kernel_rfl) (by kernel_rfl) (y_ivar rfl rfl hc.1 hc.2 un46 ty42) rfl ?_
      refine a_float (i := 3) (t := ptr b43 2) (blind_then (blind_block (blind_block (blind_then (blind_then (blind_block (blind_then blind_body))))))) rfl (by kernel_rfl) (by kernel_rfl) (by kernel_rfl) (y_pure tabOk rfl) rfl ?_
      refine a_pref (fuel := 2) [2, 4] #[true, true, true, true, true, false, false] (by kernel_rfl) ?_
      refine q_y (y_load 3 (.elem 1 .here) rfl rfl (by first | rfl | (simp only [Pth.off, T.size]; omega)) (ok_elem (by first | omega | (simp only [List.length_set] at hc ⊢; omega)) ok_here) ty42) rfl ?_
      refine q_y (y_load 0 ((.snd (.snd (.fst .here)))) rfl rfl (by first | rfl | (simp only [Pth.off, T.size]; omega)) (ok_snd (ok_snd (ok_fst ok_here))) ty2) rfl ?_
      refine q_nil ?_
      refine r_less [0,3,5,6,55,57] rfl <| a_one (i := 5) (by kernel_rfl) rfl ?_
      obtain ⟨he47, h⟩ := ite_ex h
      refine r_imp_at (R' := Res.disk Try.prog dI (tupv v3 0) s38.2.2.1) 4 rfl (diskif_disk he47) <| cB h fun r48 hr48 h => rc [2,3] (escrowlaw19_Tale_raises_ok _ _ _ _ _ _ hr48) (by kernel_rfl) rfl rfl rfl fun _ => za <| r_less [0,3,5,6,58] rfl <| a_float (i := 6) (t := tb (!r48.1)) (blind_then (blind_block (blind_block (blind_then (blind_then (blind_block (blind_then blind_body))))))) rfl (by kernel_rfl) (by kernel_rfl) (by kernel_rfl) (y_pure tabOk rfl) rfl ?_
      refine a_end (by kernel_rfl) ?_
      exact zt <| rI h rfl (fun hc h => zu <| p 1 [2] rfl <| zf <| zB <| zB <| zT <| zT <| zB <| zT <| by cases h; exact r_ret1 rfl (.tmp rfl) (fun _ _ g => g) (fun _ _ _ => List.nil_sublist _)) fun hc h => zk <| zi <| zi <| zt <| r_imp_at (R' := Res.diskif Try.prog dI (tupv v3 0) r48.2.2 r2.1) 1 rfl (diskif_of he47) <| pk [0,0,1,1] rfl <| r_less [0,3,5,6] rfl <| r_meetk (r48.2.1, r48.2.2, s38.2.2.2) () h rfl rfl
     refine zu <| q 2 [(60, tb (((List.getD a0 (Int.toNat s38.1) (0, false, 0, [], [], ())).1) == 3))] [0,3,5,6,7,39] rfl <| za <| rI h rfl (fun hc h => ?_) fun hc h => ?_
     ·refine r_any (by kernel_rfl) ?_
      refine a_float (i := 0) (t := tp (tupv v3 0)) (blind_block (blind_block (blind_then (blind_then (blind_block (blind_then blind_body)))))) rfl (by kernel_rfl) (by kernel_rfl) (by kernel_rfl) (y_pure tabOk rfl) rfl ?_
      refine a_float (i := 1) (t := ptr b43 2) (blind_block (blind_block (blind_then (blind_then (blind_block (blind_then blind_body)))))) rfl (by kernel_rfl) (by kernel_rfl) (by kernel_rfl) (y_pure tabOk rfl) rfl ?_
      refine a_float (i := 4) (t := ptr b43 2) (blind_block (blind_block (blind_then (blind_then (blind_block (blind_then blind_body)))))) rfl (by kernel_rfl) (by kernel_rfl) (by kernel_rfl) (y_pure tabOk rfl) rfl ?_
      refine a_two (i := 2) (j := 5) (by kernel_rfl) rfl rfl ?_ ?_
      ·refine yl 0 ((.snd (.snd (.fst .here)))) ty2 rfl rfl rfl trivial rfl <| za <| r_less [0,3,5,6,62,64,66] rfl ?_
       refine a_two (i := 3) (j := 5) (by kernel_rfl) rfl rfl ?_ ?_
       ·refine cB h fun r49 hr49 h => r_calls (escrowlaw19_least_ok _ _ _ hr49) (by kernel_rfl) rfl rfl <| za <| r_less [0,3,5,6,62,65,66] rfl <| a_one (i := 5) (by kernel_rfl) rfl ?_
        refine yl 0 ((.snd (.snd (.fst .here)))) ty2 rfl rfl rfl trivial rfl <| za <| r_less [0,3,5,6,62,65,67] rfl <| a_float (i := 6) (t := ti (IntKind.wrap .i64 (Int.tdiv ((List.getD a0 (Int.toNat s38.1) (0, false, 0, [], [], ())).2.2.1) 8))) (blind_block (blind_block (blind_then (blind_then (blind_block (blind_then blind_body)))))) rfl (by kernel_rfl) (by kernel_rfl) (by kernel_rfl) (y_pure tabOk rfl) rfl ?_
        refine a_one (i := 7) (by kernel_rfl) rfl ?_
        refine cB h fun r50 hr50 h => r_calls (escrowlaw19_least_ok _ _ _ hr50) (by kernel_rfl) rfl rfl <| za <| r_less [0,3,5,6,62,65,69] rfl <| a_one (i := 8) (by kernel_rfl) rfl ?_
        obtain ⟨he51, h⟩ := ite_ex h
        refine r_imp_at (R' := Res.disk Try.prog dI (tupv v3 0) s38.2.2.1) 4 rfl (diskif_disk he51) <| cB h fun r52 hr52 h => rc [4] (disk_Disk_Arm_ok _ _ _ _ _ hr52) (by kernel_rfl) rfl rfl rfl fun _ => za <| r_less [0,3,5,6] rfl <| a_end (by kernel_rfl) ?_
        exact zi <| zi <| zt <| r_imp_at (R' := Res.diskif Try.prog dI (tupv v3 0) r52 r2.1) 0 rfl (diskif_of he51) <| pk [0,1,1,1] rfl <| r_less [0,3,5,6] rfl <| pk [2,0,0,0] rfl <| r_meetk (s38.2.1, r52, s38.2.2.2) () h rfl rfl
       refine yl 0 ((.snd (.snd (.fst .here)))) ty2 rfl rfl rfl trivial rfl <| za <| r_less [0,3,5,6,62,64,67] rfl <| a_float (i := 6) (t := ti (IntKind.wrap .i64 (Int.tdiv ((List.getD a0 (Int.toNat s38.1) (0, false, 0, [], [], ())).2.2.1) 8))) (blind_block (blind_block (blind_then (blind_then (blind_block (blind_then blind_body)))))) rfl (by kernel_rfl) (by kernel_rfl) (by kernel_rfl) (y_pure tabOk rfl) rfl ?_
       refine a_one (i := 3) (by kernel_rfl) rfl ?_
       refine cB h fun r49 hr49 h => r_calls (escrowlaw19_least_ok _ _ _ hr49) (by kernel_rfl) rfl rfl <| za <| r_less [0,3,5,6,62,65,68] rfl <| a_one (i := 7) (by kernel_rfl) rfl ?_
       refine cB h fun r50 hr50 h => r_calls (escrowlaw19_least_ok _ _ _ hr50) (by kernel_rfl) rfl rfl <| za <| r_less [0,3,5,6,62,65,69] rfl <| a_one (i := 8) (by kernel_rfl) rfl ?_
       obtain ⟨he51, h⟩ := ite_ex h
       refine r_imp_at (R' := Res.disk Try.prog dI (tupv v3 0) s38.2.2.1) 4 rfl (diskif_disk he51) <| cB h fun r52 hr52 h => rc [4] (disk_Disk_Arm_ok _ _ _ _ _ hr52) (by kernel_rfl) rfl rfl rfl fun _ => za <| r_less [0,3,5,6] rfl <| a_end (by kernel_rfl) ?_
       exact zi <| zi <| zt <| r_imp_at (R' := Res.diskif Try.prog dI (tupv v3 0) r52 r2.1) 0 rfl (diskif_of he51) <| pk [0,1,1,1] rfl <| r_less [0,3,5,6] rfl <| pk [2,0,0,0] rfl <| r_meetk (s38.2.1, r52, s38.2.2.2) () h rfl rfl
      refine yl 0 ((.snd (.snd (.fst .here)))) ty2 rfl rfl rfl trivial rfl <| za <| r_less [0,3,5,6,62,63,67] rfl <| a_float (i := 6) (t := ti (IntKind.wrap .i64 (Int.tdiv ((List.getD a0 (Int.toNat s38.1) (0, false, 0, [], [], ())).2.2.1) 8))) (blind_block (blind_block (blind_then (blind_then (blind_block (blind_then blind_body)))))) rfl (by kernel_rfl) (by kernel_rfl) (by kernel_rfl) (y_pure tabOk rfl) rfl ?_
      refine a_one (i := 2) (by kernel_rfl) rfl ?_
      refine yl 0 ((.snd (.snd (.fst .here)))) ty2 rfl rfl rfl trivial rfl <| za <| r_less [0,3,5,6,62,64,68] rfl <| a_one (i := 3) (by kernel_rfl) rfl ?_
      refine cB h fun r49 hr49 h => r_calls (escrowlaw19_least_ok _ _ _ hr49) (by kernel_rfl) rfl rfl <| za <| r_less [0,3,5,6,62,65,68] rfl <| a_one (i := 7) (by kernel_rfl) rfl ?_
      refine cB h fun r50 hr50 h => r_calls (escrowlaw19_least_ok _ _ _ hr50) (by kernel_rfl) rfl rfl <| za <| r_less [0,3,5,6,62,65,69] rfl <| a_one (i := 8) (by kernel_rfl) rfl ?_
      obtain ⟨he51, h⟩ := ite_ex h
      refine r_imp_at (R' := Res.disk Try.prog dI (tupv v3 0) s38.2.2.1) 4 rfl (diskif_disk he51) <| cB h fun r52 hr52 h => rc [4] (disk_Disk_Arm_ok _ _ _ _ _ hr52) (by kernel_rfl) rfl rfl rfl fun _ => za <| r_less [0,3,5,6] rfl <| a_end (by kernel_rfl) ?_
      exact zi <| zi <| zt <| r_imp_at (R' := Res.diskif Try.prog dI (tupv v3 0) r52 r2.1) 0 rfl (diskif_of he51) <| pk [0,1,1,1] rfl <| r_less [0,3,5,6] rfl <| pk [2,0,0,0] rfl <| r_meetk (s38.2.1, r52, s38.2.2.2) () h rfl rfl
     refine zu <| q 2 [(71, tb (((List.getD a0 (Int.toNat s38.1) (0, false, 0, [], [], ())).1) == 4))] [0,3,5,6,7,39] rfl <| za <| rI h rfl (fun hc h => ?_) fun hc h => ?_
     ·refine zr <| p 2 [0,3,5,6,73,74] rfl <| yl 0 ((.snd (.snd (.fst .here)))) ty2 rfl rfl rfl trivial rfl <| cB h fun r53 hr53 h => r_calls (escrowlaw19_least_ok _ _ _ hr53) (by kernel_rfl) rfl rfl ?_
      obtain ⟨he54, h⟩ := ite_ex h
      exact r_imp_at (R' := Res.disk Try.prog dI (tupv v3 0) s38.2.2.1) 4 rfl (diskif_disk he54) <| cB h fun r55 hr55 h => rc [4] (disk_Disk_Fall_ok _ _ _ _ hr55) (by kernel_rfl) rfl rfl rfl fun _ => zn <| zi <| zi <| zt <| r_imp_at (R' := Res.diskif Try.prog dI (tupv v3 0) r55 r2.1) 0 rfl (diskif_of he54) <| pk [0,1,1,1] rfl <| r_less [0,3,5,6] rfl <| pk [2,0,0,0] rfl <| r_meetk (s38.2.1, r55, s38.2.2.2) () h rfl rfl
     refine zu <| q 2 [(78, tb (((List.getD a0 (Int.toNat s38.1) (0, false, 0, [], [], ())).1) == 5))] [0,3,5,6,7] rfl <| za <| rI h rfl (fun hc h => ?_) fun hc h => ?_
     ·refine zu <| p 2 [0,3,5,6,80,81] rfl <| yl 0 ((.snd (.snd (.snd (.snd (.fst .here)))))) ty47 rfl rfl rfl trivial rfl ?_
      obtain ⟨he56, h⟩ := ite_ex h
      refine r_imp_at (R' := Res.disk Try.prog dI (tupv v3 0) s38.2.2.1) 4 rfl (diskif_disk he56) <| cB h fun r57 hr57 h => rc [4] (disk_Disk_Crash_ok _ _ _ _ hr57) (by kernel_rfl) rfl rfl rfl fun _ => zz <| p 1 [0,3,5,6,84] rfl <| cB h fun r58 hr58 h => rc [0] (disk_Disk_On_ok _ _ _ hr58) (by kernel_rfl) rfl rfl rfl fun _ => zz <| iE h fun hc h => y (y_ivar rfl rfl hc.1 hc.2 un46 ty42) rfl ?_
      refine y (y_load 4 (.elem 0 .here) rfl rfl (by first | rfl | (simp only [Pth.off, T.size]; omega)) (ok_elem (by first | omega | (simp only [List.length_set] at hc ⊢; omega)) ok_here) ty42) rfl ?_
      refine pk [2,0,0,0,0] rfl <| r_unCTaleb fun sv59 sv60 => ?_
      refine p 2 [0,3,5,6,89] rfl <| r_nocls (K := (CMark (tupv v3 0))) (x := ((), [], 0, 0, ())) (e := 1) (by decide) ?_
      refine st 1 ((.fst .here)) ty28 rfl rfl rfl rfl trivial <| pk [0,0,1,1,1,1,1] rfl <| zz <| iE h fun hc h => y (y_ivar rfl rfl hc.1 hc.2 un46 ty42) rfl ?_
      refine y (y_load 6 (.elem 1 .here) rfl rfl (by first | rfl | (simp only [Pth.off, T.size]; omega)) (ok_elem (by first | omega | (simp only [List.length_set] at hc ⊢; omega)) ok_here) ty42) rfl ?_
      refine pk [5,0,0,0,0,0,0] rfl <| r_unCTaleb fun sv61 sv62 => ?_
      refine p 2 [0,3,5,6,93] rfl <| r_nocls (K := (CMark (tupv v3 0))) (x := ((), [], 0, 0, ())) (e := 1) (by decide) ?_
      refine st 1 ((.fst .here)) ty28 rfl rfl rfl rfl trivial <| pk [0,0,1,1,1,1,1,1,1] rfl <| zz <| iE h fun hc h => y (y_ivar rfl rfl hc.1 hc.2 un46 ty42) rfl ?_
      refine y (y_load 8 (.elem 0 .here) rfl rfl (by first | rfl | (simp only [Pth.off, T.size]; omega)) (ok_elem (by first | omega | (simp only [List.length_set] at hc ⊢; omega)) ok_here) ty42) rfl ?_
      refine p 1 [0,3,5,6,95,96] rfl <| pk [4,3,3,0,0,0,0,0,0] rfl <| r_CTale (x := ((1, ((), [], 0, 0, ())), s38.2.2.2.2.1, s38.2.2.2.2.2.1, s38.2.2.2.2.2.2)) (q := (tupv v3 0)) ?_
      refine cB h fun r63 hr63 h => rc [0,3] (escrowlaw19_Tale_forged_ok _ _ _ _ _ _ hr63) (by kernel_rfl) rfl rfl rfl fun _ => p 1 [0,3,5,6,98] rfl <| pk [3,2,2,0,0,0,0] rfl <| r_CTale (x := ((1, ((), [], 0, 0, ())), s38.2.1.2.1, s38.2.1.2.2.1, s38.2.1.2.2.2)) (q := (tupv v3 0)) ?_
      refine bX h fun k66 hk66 h => ?_
      refine r_lsplitk (γ := Unit) 5 (fun (o67 : Bool) _ => [(0, .one (.sl 49 Y49) a0), (3, tp (tupv v3 0)), (5, ptr b7 0), (6, ti s38.1), (103, tb o67)]) (fun _ _ => [Res.cls (CTale (tupv v3 0)) (.pointer (some ⟨b6, 0, none⟩)) ((1, ((), [], 0, 0, ())), s38.2.1.2.1, s38.2.1.2.2.1, s38.2.1.2.2.2), Res.cls (CTale (tupv v3 0)) (.pointer (some ⟨b5, 0, none⟩)) ((1, ((), [], 0, 0, ())), s38.2.2.2.2.1, s38.2.2.2.2.2.1, s38.2.2.2.2.2.2), Res.disk Try.prog dI (tupv v3 0) r58, Res.var b43 49 Y49 (List.getD a0 (Int.toNat s38.1) (0, false, 0, [], [], ())), Res.var b7 46 (.arr 2 (.raw (.pointer none))) [.pointer (some ⟨b5, 0, none⟩), .pointer (some ⟨b6, 0, none⟩)]]) k66 r ?_ ?_
      ·rcases Bool.eq_false_or_eq_true r63 with hh | hh
       ·rw [hh] at h ⊢
        rw [if_pos rfl] at h
        exact p 5 [0,3,5,6,103] rfl <| zn <| r_less [0,3,5,6,103] rfl <| zt <| r_meetk true () h rfl rfl
       rw [hh] at h ⊢
       rw [if_neg (by decide)] at h
       refine r_guard (by rfl) rfl ?_
       refine iE h fun hc h => y (y_ivar rfl rfl hc.1 hc.2 un46 ty42) rfl ?_
       refine r_guard (by rfl) rfl ?_
       refine y (y_load 4 (.elem 1 .here) rfl rfl (by first | rfl | (simp only [Pth.off, T.size]; omega)) (ok_elem (by first | omega | (simp only [List.length_set] at hc ⊢; omega)) ok_here) ty42) rfl ?_
       refine p 1 [0,3,5,6,98,100,101] rfl <| r_guard (by rfl) rfl ?_
       exact cB h fun r68 hr68 h => rc [0,1] (escrowlaw19_Tale_forged_ok _ _ _ _ _ _ hr68) (by kernel_rfl) rfl rfl rfl fun _ => p 1 [0,3,5,6,103] rfl <| zn <| r_less [0,3,5,6,103] rfl <| pk [0,1,0,0,0] rfl <| zt <| r_meetk r68 () h rfl rfl
      intro o67 _ h
      rw [← hk66] at h
      try dsimp only at h
      exact za <| rI h rfl (fun hc h => zu <| p 1 [2] rfl <| zf <| zB <| zB <| zT <| zT <| zB <| zT <| by cases h; exact r_ret1 rfl (.tmp rfl) (fun _ _ g => g) (fun _ _ _ => List.nil_sublist _)) fun hc h => zk <| zi <| zi <| zt <| r_imp_at (R' := Res.diskif Try.prog dI (tupv v3 0) r58 r2.1) 2 rfl (diskif_of he56) <| pk [0,0,0,1] rfl <| r_less [0,3,5,6] rfl <| pk [0,1,0,0] rfl <| r_meetk (((1, ((), [], 0, 0, ())), s38.2.1.2.1, s38.2.1.2.2.1, s38.2.1.2.2.2), r58, ((1, ((), [], 0, 0, ())), s38.2.2.2.2.1, s38.2.2.2.2.2.1, s38.2.2.2.2.2.2)) () h rfl rfl
     exact zk <| zi <| zi <| zt <| pk [1,1,1,1] rfl <| r_less [0,3,5,6] rfl <| pk [1,2,0,0] rfl <| r_meetk (s38.2.1, s38.2.2.1, s38.2.2.2) () h rfl rfl
    refine zy <| p 1 [0,3,5,6,7,8,38] rfl <| yl 0 ((.fst .here)) ty3 rfl rfl rfl trivial rfl <| za <| zb <| zu <| q 2 [(39, ti ((List.getD a0 (Int.toNat s38.1) (0, false, 0, [], [], ())).1)), (40, tb (((List.getD a0 (Int.toNat s38.1) (0, false, 0, [], [], ())).1) == 1))] [0,3,5,6,7,8] rfl <| za <| rI h rfl (fun hc h => ?_) fun hc h => ?_
    ·refine zs <| r_any (by kernel_rfl) ?_
     refine a_float (i := 0) (t := ti 0) (blind_then (blind_block (blind_block (blind_then (blind_then (blind_block (blind_then blind_body))))))) rfl (by kernel_rfl) (by kernel_rfl) (by kernel_rfl) (y_pure tabOk rfl) rfl ?_
     refine iE h fun hc h => a_float (i := 1) (t := ptr b7 (0 + 0 * 1)) (blind_then (blind_block (blind_block (blind_then (blind_then (blind_block (blind_then blind_body))))))) rfl (by kernel_rfl) (by kernel_rfl) (by kernel_rfl) (y_ivar rfl rfl hc.1 hc.2 un46 ty42) rfl ?_
     refine a_float (i := 3) (t := tp (tupv v3 0)) (blind_then (blind_block (blind_block (blind_then (blind_then (blind_block (blind_then blind_body))))))) rfl (by kernel_rfl) (by kernel_rfl) (by kernel_rfl) (y_pure tabOk rfl) rfl ?_
     refine a_float (i := 4) (t := ptr b43 1) (blind_then (blind_block (blind_block (blind_then (blind_then (blind_block (blind_then blind_body))))))) rfl (by kernel_rfl) (by kernel_rfl) (by kernel_rfl) (y_pure tabOk rfl) rfl ?_
     refine a_two (i := 2) (j := 5) (by kernel_rfl) rfl rfl ?_ ?_
     ·refine y (y_load 3 (.elem 0 .here) rfl rfl (by first | rfl | (simp only [Pth.off, T.size]; omega)) (ok_elem (by first | omega | (simp only [List.length_set] at hc ⊢; omega)) ok_here) ty42) rfl ?_
      refine za <| r_less [0,3,5,6,44,45,46] rfl <| a_one (i := 5) (by kernel_rfl) rfl ?_
      refine yl 0 ((.snd (.fst .here))) ty4 rfl rfl rfl trivial rfl <| za <| r_less [0,3,5,6,44,45,47] rfl <| a_one (i := 6) (by kernel_rfl) rfl ?_
      refine cB h fun r69 hr69 h => r_calls (escrowlaw19_name_ok _ _ hr69) (by kernel_rfl) rfl rfl <| za <| r_less [0,3,5,6,44,45,48] rfl <| a_one (i := 7) (by kernel_rfl) rfl ?_
      obtain ⟨he70, h⟩ := ite_ex h
      refine r_imp_at (R' := Res.disk Try.prog dI (tupv v3 0) s38.2.2.1) 4 rfl (diskif_disk he70) <| cB h fun r71 hr71 h => rc [1,3] (escrowlaw19_Tale_opens_ok _ _ _ _ _ _ hr71) (by kernel_rfl) rfl rfl rfl fun _ => za <| r_less [0,3,5,6,49] rfl <| a_float (i := 8) (t := tb (!r71.1)) (blind_then (blind_block (blind_block (blind_then (blind_then (blind_block (blind_then blind_body))))))) rfl (by kernel_rfl) (by kernel_rfl) (by kernel_rfl) (y_pure tabOk rfl) rfl ?_
      refine a_end (by kernel_rfl) ?_
      exact zt <| rI h rfl (fun hc h => zu <| p 1 [2] rfl <| zf <| zB <| zB <| zT <| zT <| zB <| zT <| by cases h; exact r_ret1 rfl (.tmp rfl) (fun _ _ g => g) (fun _ _ _ => List.nil_sublist _)) fun hc h => zk <| zi <| zi <| zt <| r_imp_at (R' := Res.diskif Try.prog dI (tupv v3 0) r71.2.2 r2.1) 1 rfl (diskif_of he70) <| pk [0,0,1,1] rfl <| r_less [0,3,5,6] rfl <| pk [2,1,0,0] rfl <| r_meetk (s38.2.1, r71.2.2, r71.2.1) () h rfl rfl
     refine yl 0 ((.snd (.fst .here))) ty4 rfl rfl rfl trivial rfl <| za <| r_less [0,3,5,6,43,45,47] rfl <| a_pref (fuel := 2) [2, 6] #[true, true, true, true, true, true, true, false, false] (by kernel_rfl) ?_
     refine q_y (y_load 3 (.elem 0 .here) rfl rfl (by first | rfl | (simp only [Pth.off, T.size]; omega)) (ok_elem (by first | omega | (simp only [List.length_set] at hc ⊢; omega)) ok_here) ty42) rfl ?_
     refine cB h fun r69 hr69 h => q_calls (escrowlaw19_name_ok ((List.getD a0 (Int.toNat s38.1) (0, false, 0, [], [], ())).2.1) _ hr69) (by kernel_rfl) rfl rfl rfl ?_
     refine q_nil ?_
     refine r_less [0,3,5,6,44,45,48] rfl <| a_one (i := 7) (by kernel_rfl) rfl ?_
     obtain ⟨he70, h⟩ := ite_ex h
     refine r_imp_at (R' := Res.disk Try.prog dI (tupv v3 0) s38.2.2.1) 4 rfl (diskif_disk he70) <| cB h fun r71 hr71 h => rc [1,3] (escrowlaw19_Tale_opens_ok _ _ _ _ _ _ hr71) (by kernel_rfl) rfl rfl rfl fun _ => za <| r_less [0,3,5,6,49] rfl <| a_float (i := 8) (t := tb (!r71.1)) (blind_then (blind_block (blind_block (blind_then (blind_then (blind_block (blind_then blind_body))))))) rfl (by kernel_rfl) (by kernel_rfl) (by kernel_rfl) (y_pure tabOk rfl) rfl ?_
     refine a_end (by kernel_rfl) ?_
     exact zt <| rI h rfl (fun hc h => zu <| p 1 [2] rfl <| zf <| zB <| zB <| zT <| zT <| zB <| zT <| by cases h; exact r_ret1 rfl (.tmp rfl) (fun _ _ g => g) (fun _ _ _ => List.nil_sublist _)) fun hc h => zk <| zi <| zi <| zt <| r_imp_at (R' := Res.diskif Try.prog dI (tupv v3 0) r71.2.2 r2.1) 1 rfl (diskif_of he70) <| pk [0,0,1,1] rfl <| r_less [0,3,5,6] rfl <| pk [2,1,0,0] rfl <| r_meetk (s38.2.1, r71.2.2, r71.2.1) () h rfl rfl
    refine zu <| q 2 [(51, tb (((List.getD a0 (Int.toNat s38.1) (0, false, 0, [], [], ())).1) == 2))] [0,3,5,6,7,8,39] rfl <| za <| rI h rfl (fun hc h => ?_) fun hc h => ?_
    ·refine zs <| r_any (by kernel_rfl) ?_
     refine a_float (i := 0) (t := ti 0) (blind_then (blind_block (blind_block (blind_then (blind_then (blind_block (blind_then blind_body))))))) rfl (by kernel_rfl) (by kernel_rfl) (by kernel_rfl) (y_pure tabOk rfl) rfl ?_
     refine iE h fun hc h => a_float (i := 1) (t := ptr b7 (0 + 0 * 1)) (blind_then (blind_block (blind_block (blind_then (blind_then (blind_block (blind_then blind_body))))))) rfl (by kernel_rfl) (by kernel_rfl) (by kernel_rfl) (y_ivar rfl rfl hc.1 hc.2 un46 ty42) rfl ?_
     refine a_float (i := 3) (t := ptr b43 2) (blind_then (blind_block (blind_block (blind_then (blind_then (blind_block (blind_then blind_body))))))) rfl (by kernel_rfl) (by kernel_rfl) (by kernel_rfl) (y_pure tabOk rfl) rfl ?_
     refine a_pref (fuel := 2) [2, 4] #[true, true, true, true, true, false, false] (by kernel_rfl) ?_
     refine q_y (y_load 3 (.elem 0 .here) rfl rfl (by first | rfl | (simp only [Pth.off, T.size]; omega)) (ok_elem (by first | omega | (simp only [List.length_set] at hc ⊢; omega)) ok_here) ty42) rfl ?_
     refine q_y (y_load 0 ((.snd (.snd (.fst .here)))) rfl rfl (by first | rfl | (simp only [Pth.off, T.size]; omega)) (ok_snd (ok_snd (ok_fst ok_here))) ty2) rfl ?_
     refine q_nil ?_
     refine r_less [0,3,5,6,55,57] rfl <| a_one (i := 5) (by kernel_rfl) rfl ?_
     obtain ⟨he72, h⟩ := ite_ex h
     refine r_imp_at (R' := Res.disk Try.prog dI (tupv v3 0) s38.2.2.1) 4 rfl (diskif_disk he72) <| cB h fun r73 hr73 h => rc [1,3] (escrowlaw19_Tale_raises_ok _ _ _ _ _ _ hr73) (by kernel_rfl) rfl rfl rfl fun _ => za <| r_less [0,3,5,6,58] rfl <| a_float (i := 6) (t := tb (!r73.1)) (blind_then (blind_block (blind_block (blind_then (blind_then (blind_block (blind_then blind_body))))))) rfl (by kernel_rfl) (by kernel_rfl) (by kernel_rfl) (y_pure tabOk rfl) rfl ?_
     refine a_end (by kernel_rfl) ?_
     exact zt <| rI h rfl (fun hc h => zu <| p 1 [2] rfl <| zf <| zB <| zB <| zT <| zT <| zB <| zT <| by cases h; exact r_ret1 rfl (.tmp rfl) (fun _ _ g => g) (fun _ _ _ => List.nil_sublist _)) fun hc h => zk <| zi <| zi <| zt <| r_imp_at (R' := Res.diskif Try.prog dI (tupv v3 0) r73.2.2 r2.1) 1 rfl (diskif_of he72) <| pk [0,0,1,1] rfl <| r_less [0,3,5,6] rfl <| pk [2,1,0,0] rfl <| r_meetk (s38.2.1, r73.2.2, r73.2.1) () h rfl rfl
    refine zu <| q 2 [(60, tb (((List.getD a0 (Int.toNat s38.1) (0, false, 0, [], [], ())).1) == 3))] [0,3,5,6,7,39] rfl <| za <| rI h rfl (fun hc h => ?_) fun hc h => ?_
    ·refine r_any (by kernel_rfl) ?_
     refine a_float (i := 0) (t := tp (tupv v3 0)) (blind_block (blind_block (blind_then (blind_then (blind_block (blind_then blind_body)))))) rfl (by kernel_rfl) (by kernel_rfl) (by kernel_rfl) (y_pure tabOk rfl) rfl ?_
     refine a_float (i := 1) (t := ptr b43 2) (blind_block (blind_block (blind_then (blind_then (blind_block (blind_then blind_body)))))) rfl (by kernel_rfl) (by kernel_rfl) (by kernel_rfl) (y_pure tabOk rfl) rfl ?_
     refine a_float (i := 4) (t := ptr b43 2) (blind_block (blind_block (blind_then (blind_then (blind_block (blind_then blind_body)))))) rfl (by kernel_rfl) (by kernel_rfl) (by kernel_rfl) (y_pure tabOk rfl) rfl ?_
     refine a_two (i := 2) (j := 5) (by kernel_rfl) rfl rfl ?_ ?_
     ·refine yl 0 ((.snd (.snd (.fst .here)))) ty2 rfl rfl rfl trivial rfl <| za <| r_less [0,3,5,6,62,64,66] rfl ?_
      refine a_two (i := 3) (j := 5) (by kernel_rfl) rfl rfl ?_ ?_
      ·refine cB h fun r74 hr74 h => r_calls (escrowlaw19_least_ok _ _ _ hr74) (by kernel_rfl) rfl rfl <| za <| r_less [0,3,5,6,62,65,66] rfl <| a_one (i := 5) (by kernel_rfl) rfl ?_
       refine yl 0 ((.snd (.snd (.fst .here)))) ty2 rfl rfl rfl trivial rfl <| za <| r_less [0,3,5,6,62,65,67] rfl <| a_float (i := 6) (t := ti (IntKind.wrap .i64 (Int.tdiv ((List.getD a0 (Int.toNat s38.1) (0, false, 0, [], [], ())).2.2.1) 8))) (blind_block (blind_block (blind_then (blind_then (blind_block (blind_then blind_body)))))) rfl (by kernel_rfl) (by kernel_rfl) (by kernel_rfl) (y_pure tabOk rfl) rfl ?_
       refine a_one (i := 7) (by kernel_rfl) rfl ?_
       refine cB h fun r75 hr75 h => r_calls (escrowlaw19_least_ok _ _ _ hr75) (by kernel_rfl) rfl rfl <| za <| r_less [0,3,5,6,62,65,69] rfl <| a_one (i := 8) (by kernel_rfl) rfl ?_
       obtain ⟨he76, h⟩ := ite_ex h
       refine r_imp_at (R' := Res.disk Try.prog dI (tupv v3 0) s38.2.2.1) 4 rfl (diskif_disk he76) <| cB h fun r77 hr77 h => rc [4] (disk_Disk_Arm_ok _ _ _ _ _ hr77) (by kernel_rfl) rfl rfl rfl fun _ => za <| r_less [0,3,5,6] rfl <| a_end (by kernel_rfl) ?_
       exact zi <| zi <| zt <| r_imp_at (R' := Res.diskif Try.prog dI (tupv v3 0) r77 r2.1) 0 rfl (diskif_of he76) <| pk [0,1,1,1] rfl <| r_less [0,3,5,6] rfl <| pk [2,0,0,0] rfl <| r_meetk (s38.2.1, r77, s38.2.2.2) () h rfl rfl
      refine yl 0 ((.snd (.snd (.fst .here)))) ty2 rfl rfl rfl trivial rfl <| za <| r_less [0,3,5,6,62,64,67] rfl <| a_float (i := 6) (t := ti (IntKind.wrap .i64 (Int.tdiv ((List.getD a0 (Int.toNat s38.1) (0, false, 0, [], [], ())).2.2.1) 8))) (blind_block (blind_block (blind_then (blind_then (blind_block (blind_then blind_body)))))) rfl (by kernel_rfl) (by kernel_rfl) (by kernel_rfl) (y_pure tabOk rfl) rfl ?_
      refine a_one (i := 3) (by kernel_rfl) rfl ?_
      refine cB h fun r74 hr74 h => r_calls (escrowlaw19_least_ok _ _ _ hr74) (by kernel_rfl) rfl rfl <| za <| r_less [0,3,5,6,62,65,68] rfl <| a_one (i := 7) (by kernel_rfl) rfl ?_
      refine cB h fun r75 hr75 h => r_calls (escrowlaw19_least_ok _ _ _ hr75) (by kernel_rfl) rfl rfl <| za <| r_less [0,3,5,6,62,65,69] rfl <| a_one (i := 8) (by kernel_rfl) rfl ?_
      obtain ⟨he76, h⟩ := ite_ex h
      refine r_imp_at (R' := Res.disk Try.prog dI (tupv v3 0) s38.2.2.1) 4 rfl (diskif_disk he76) <| cB h fun r77 hr77 h => rc [4] (disk_Disk_Arm_ok _ _ _ _ _ hr77) (by kernel_rfl) rfl rfl rfl fun _ => za <| r_less [0,3,5,6] rfl <| a_end (by kernel_rfl) ?_
      exact zi <| zi <| zt <| r_imp_at (R' := Res.diskif Try.prog dI (tupv v3 0) r77 r2.1) 0 rfl (diskif_of he76) <| pk [0,1,1,1] rfl <| r_less [0,3,5,6] rfl <| pk [2,0,0,0] rfl <| r_meetk (s38.2.1, r77, s38.2.2.2) () h rfl rfl
     refine yl 0 ((.snd (.snd (.fst .here)))) ty2 rfl rfl rfl trivial rfl <| za <| r_less [0,3,5,6,62,63,67] rfl <| a_float (i := 6) (t := ti (IntKind.wrap .i64 (Int.tdiv ((List.getD a0 (Int.toNat s38.1) (0, false, 0, [], [], ())).2.2.1) 8))) (blind_block (blind_block (blind_then (blind_then (blind_block (blind_then blind_body)))))) rfl (by kernel_rfl) (by kernel_rfl) (by kernel_rfl) (y_pure tabOk rfl) rfl ?_
     refine a_one (i := 2) (by kernel_rfl) rfl ?_
     refine yl 0 ((.snd (.snd (.fst .here)))) ty2 rfl rfl rfl trivial rfl <| za <| r_less [0,3,5,6,62,64,68] rfl <| a_one (i := 3) (by kernel_rfl) rfl ?_
     refine cB h fun r74 hr74 h => r_calls (escrowlaw19_least_ok _ _ _ hr74) (by kernel_rfl) rfl rfl <| za <| r_less [0,3,5,6,62,65,68] rfl <| a_one (i := 7) (by kernel_rfl) rfl ?_
     refine cB h fun r75 hr75 h => r_calls (escrowlaw19_least_ok _ _ _ hr75) (by kernel_rfl) rfl rfl <| za <| r_less [0,3,5,6,62,65,69] rfl <| a_one (i := 8) (by kernel_rfl) rfl ?_
     obtain ⟨he76, h⟩ := ite_ex h
     refine r_imp_at (R' := Res.disk Try.prog dI (tupv v3 0) s38.2.2.1) 4 rfl (diskif_disk he76) <| cB h fun r77 hr77 h => rc [4] (disk_Disk_Arm_ok _ _ _ _ _ hr77) (by kernel_rfl) rfl rfl rfl fun _ => za <| r_less [0,3,5,6] rfl <| a_end (by kernel_rfl) ?_
     exact zi <| zi <| zt <| r_imp_at (R' := Res.diskif Try.prog dI (tupv v3 0) r77 r2.1) 0 rfl (diskif_of he76) <| pk [0,1,1,1] rfl <| r_less [0,3,5,6] rfl <| pk [2,0,0,0] rfl <| r_meetk (s38.2.1, r77, s38.2.2.2) () h rfl rfl
    refine zu <| q 2 [(71, tb (((List.getD a0 (Int.toNat s38.1) (0, false, 0, [], [], ())).1) == 4))] [0,3,5,6,7,39] rfl <| za <| rI h rfl (fun hc h => ?_) fun hc h => ?_
    ·refine zr <| p 2 [0,3,5,6,73,74] rfl <| yl 0 ((.snd (.snd (.fst .here)))) ty2 rfl rfl rfl trivial rfl <| cB h fun r78 hr78 h => r_calls (escrowlaw19_least_ok _ _ _ hr78) (by kernel_rfl) rfl rfl ?_
     obtain ⟨he79, h⟩ := ite_ex h
     exact r_imp_at (R' := Res.disk Try.prog dI (tupv v3 0) s38.2.2.1) 4 rfl (diskif_disk he79) <| cB h fun r80 hr80 h => rc [4] (disk_Disk_Fall_ok _ _ _ _ hr80) (by kernel_rfl) rfl rfl rfl fun _ => zn <| zi <| zi <| zt <| r_imp_at (R' := Res.diskif Try.prog dI (tupv v3 0) r80 r2.1) 0 rfl (diskif_of he79) <| pk [0,1,1,1] rfl <| r_less [0,3,5,6] rfl <| pk [2,0,0,0] rfl <| r_meetk (s38.2.1, r80, s38.2.2.2) () h rfl rfl
    refine zu <| q 2 [(78, tb (((List.getD a0 (Int.toNat s38.1) (0, false, 0, [], [], ())).1) == 5))] [0,3,5,6,7] rfl <| za <| rI h rfl (fun hc h => ?_) fun hc h => ?_
    ·refine zu <| p 2 [0,3,5,6,80,81] rfl <| yl 0 ((.snd (.snd (.snd (.snd (.fst .here)))))) ty47 rfl rfl rfl trivial rfl ?_
     obtain ⟨he81, h⟩ := ite_ex h
     refine r_imp_at (R' := Res.disk Try.prog dI (tupv v3 0) s38.2.2.1) 4 rfl (diskif_disk he81) <| cB h fun r82 hr82 h => rc [4] (disk_Disk_Crash_ok _ _ _ _ hr82) (by kernel_rfl) rfl rfl rfl fun _ => zz <| p 1 [0,3,5,6,84] rfl <| cB h fun r83 hr83 h => rc [0] (disk_Disk_On_ok _ _ _ hr83) (by kernel_rfl) rfl rfl rfl fun _ => zz <| iE h fun hc h => y (y_ivar rfl rfl hc.1 hc.2 un46 ty42) rfl ?_
     refine y (y_load 4 (.elem 0 .here) rfl rfl (by first | rfl | (simp only [Pth.off, T.size]; omega)) (ok_elem (by first | omega | (simp only [List.length_set] at hc ⊢; omega)) ok_here) ty42) rfl ?_
     refine pk [2,0,0,0,0] rfl <| r_unCTaleb fun sv84 sv85 => ?_
     refine p 2 [0,3,5,6,89] rfl <| r_nocls (K := (CMark (tupv v3 0))) (x := ((), [], 0, 0, ())) (e := 1) (by decide) ?_
     refine st 1 ((.fst .here)) ty28 rfl rfl rfl rfl trivial <| pk [0,0,1,1,1,1,1] rfl <| zz <| iE h fun hc h => y (y_ivar rfl rfl hc.1 hc.2 un46 ty42) rfl ?_
     refine y (y_load 6 (.elem 1 .here) rfl rfl (by first | rfl | (simp only [Pth.off, T.size]; omega)) (ok_elem (by first | omega | (simp only [List.length_set] at hc ⊢; omega)) ok_here) ty42) rfl ?_
     refine pk [5,0,0,0,0,0,0] rfl <| r_unCTaleb fun sv86 sv87 => ?_
     refine p 2 [0,3,5,6,93] rfl <| r_nocls (K := (CMark (tupv v3 0))) (x := ((), [], 0, 0, ())) (e := 1) (by decide) ?_
     refine st 1 ((.fst .here)) ty28 rfl rfl rfl rfl trivial <| pk [0,0,1,1,1,1,1,1,1] rfl <| zz <| iE h fun hc h => y (y_ivar rfl rfl hc.1 hc.2 un46 ty42) rfl ?_
     refine y (y_load 8 (.elem 0 .here) rfl rfl (by first | rfl | (simp only [Pth.off, T.size]; omega)) (ok_elem (by first | omega | (simp only [List.length_set] at hc ⊢; omega)) ok_here) ty42) rfl ?_
     refine p 1 [0,3,5,6,95,96] rfl <| pk [4,3,3,0,0,0,0,0,0] rfl <| r_CTale (x := ((1, ((), [], 0, 0, ())), s38.2.2.2.2.1, s38.2.2.2.2.2.1, s38.2.2.2.2.2.2)) (q := (tupv v3 0)) ?_
     refine cB h fun r88 hr88 h => rc [0,3] (escrowlaw19_Tale_forged_ok _ _ _ _ _ _ hr88) (by kernel_rfl) rfl rfl rfl fun _ => p 1 [0,3,5,6,98] rfl <| pk [3,2,2,0,0,0,0] rfl <| r_CTale (x := ((1, ((), [], 0, 0, ())), s38.2.1.2.1, s38.2.1.2.2.1, s38.2.1.2.2.2)) (q := (tupv v3 0)) ?_
     refine bX h fun k91 hk91 h => ?_
     refine r_lsplitk (γ := Unit) 5 (fun (o92 : Bool) _ => [(0, .one (.sl 49 Y49) a0), (3, tp (tupv v3 0)), (5, ptr b7 0), (6, ti s38.1), (103, tb o92)]) (fun _ _ => [Res.cls (CTale (tupv v3 0)) (.pointer (some ⟨b6, 0, none⟩)) ((1, ((), [], 0, 0, ())), s38.2.1.2.1, s38.2.1.2.2.1, s38.2.1.2.2.2), Res.cls (CTale (tupv v3 0)) (.pointer (some ⟨b5, 0, none⟩)) ((1, ((), [], 0, 0, ())), s38.2.2.2.2.1, s38.2.2.2.2.2.1, s38.2.2.2.2.2.2), Res.disk Try.prog dI (tupv v3 0) r83, Res.var b43 49 Y49 (List.getD a0 (Int.toNat s38.1) (0, false, 0, [], [], ())), Res.var b7 46 (.arr 2 (.raw (.pointer none))) [.pointer (some ⟨b5, 0, none⟩), .pointer (some ⟨b6, 0, none⟩)]]) k91 r ?_ ?_
     ·rcases Bool.eq_false_or_eq_true r88 with hh | hh
      ·rw [hh] at h ⊢
       rw [if_pos rfl] at h
       exact p 5 [0,3,5,6,103] rfl <| zn <| r_less [0,3,5,6,103] rfl <| zt <| r_meetk true () h rfl rfl
      rw [hh] at h ⊢
      rw [if_neg (by decide)] at h
      refine r_guard (by rfl) rfl ?_
      refine iE h fun hc h => y (y_ivar rfl rfl hc.1 hc.2 un46 ty42) rfl ?_
      refine r_guard (by rfl) rfl ?_
      refine y (y_load 4 (.elem 1 .here) rfl rfl (by first | rfl | (simp only [Pth.off, T.size]; omega)) (ok_elem (by first | omega | (simp only [List.length_set] at hc ⊢; omega)) ok_here) ty42) rfl ?_
      refine p 1 [0,3,5,6,98,100,101] rfl <| r_guard (by rfl) rfl ?_
      exact cB h fun r93 hr93 h => rc [0,1] (escrowlaw19_Tale_forged_ok _ _ _ _ _ _ hr93) (by kernel_rfl) rfl rfl rfl fun _ => p 1 [0,3,5,6,103] rfl <| zn <| r_less [0,3,5,6,103] rfl <| pk [0,1,0,0,0] rfl <| zt <| r_meetk r93 () h rfl rfl
     intro o92 _ h
     rw [← hk91] at h
     try dsimp only at h
     exact za <| rI h rfl (fun hc h => zu <| p 1 [2] rfl <| zf <| zB <| zB <| zT <| zT <| zB <| zT <| by cases h; exact r_ret1 rfl (.tmp rfl) (fun _ _ g => g) (fun _ _ _ => List.nil_sublist _)) fun hc h => zk <| zi <| zi <| zt <| r_imp_at (R' := Res.diskif Try.prog dI (tupv v3 0) r83 r2.1) 2 rfl (diskif_of he81) <| pk [0,0,0,1] rfl <| r_less [0,3,5,6] rfl <| pk [0,1,0,0] rfl <| r_meetk (((1, ((), [], 0, 0, ())), s38.2.1.2.1, s38.2.1.2.2.1, s38.2.1.2.2.2), r83, ((1, ((), [], 0, 0, ())), s38.2.2.2.2.1, s38.2.2.2.2.2.1, s38.2.2.2.2.2.2)) () h rfl rfl
    exact zk <| zi <| zi <| zt <| pk [1,1,1,1] rfl <| r_less [0,3,5,6] rfl <| pk [1,2,0,0] rfl <| r_meetk (s38.2.1, s38.2.2.1, s38.2.2.2) () h rfl rfl
   refine zr <| q 3 [(0, .one (.sl 49 Y49) a0), (3, tp (tupv v3 0)), (5, ptr b7 0), (6, ti (IntKind.wrap .i64 (s38.1 + 1)))] [] rfl ?_
   obtain ⟨i42, e, h⟩ := bnd_ex h; rw [e]
   exact za <| r_less [0,3,5,6] rfl <| pk [2,0,1,0] rfl <| r_backg (i42, o41.1, o41.2.1, o41.2.2) () (Nat.lt_succ_self _) h rfl rfl
  exact zx <| ze <| ze <| zq <| zt <| r_less [3,5] rfl <| r_meetk (s38.2.2.2, s38.2.1, s38.2.2.1) () h rfl rfl
 refine zu <| p 1 [3,5,104] rfl ?_
 obtain ⟨he10, h⟩ := ite_ex h
 refine r_imp_at (R' := Res.disk Try.prog dI (tupv v3 0) o9.2.2) 3 rfl (diskif_disk he10) <| cB h fun r11 hr11 h => rc [3] (disk_Disk_Arm_ok _ _ _ _ _ hr11) (by kernel_rfl) rfl rfl rfl fun _ => zz <| p 1 [3,5,106] rfl <| cB h fun r12 hr12 h => rc [0] (disk_Disk_Fall_ok _ _ _ _ hr12) (by kernel_rfl) rfl rfl rfl fun _ => za <| jK h (γ := Unit) (fun (o14 : DiskS) _ => [(3, tp (tupv v3 0)), (5, ptr b7 0)]) (fun (o14 : DiskS) _ => [Res.disk Try.prog dI (tupv v3 0) o14, Res.cls (CTale (tupv v3 0)) (.pointer (some ⟨b5, 0, none⟩)) o9.1, Res.cls (CTale (tupv v3 0)) (.pointer (some ⟨b6, 0, none⟩)) o9.2.1, Res.var b7 46 (.arr 2 (.raw (.pointer none))) [.pointer (some ⟨b5, 0, none⟩), .pointer (some ⟨b6, 0, none⟩)]]) (fun k13 h => ?_) fun o14 gg h => ?_
 ·refine zu <| p 1 [3,5,108] rfl <| cB h fun r30 hr30 h => rc [0] (disk_Disk_Off_ok _ _ _ hr30) (by kernel_rfl) rfl rfl rfl fun _ => za <| rI h rfl (fun hc h => ?_) fun hc h => ?_
  ·refine zu <| p 1 [3,5,110] rfl <| cB h fun r31 hr31 h => r_calla (Lo := [Res.cls (CTale (tupv v3 0)) (.pointer (some ⟨b5, 0, none⟩)) o9.1, Res.cls (CTale (tupv v3 0)) (.pointer (some ⟨b6, 0, none⟩)) o9.2.1, Res.var b7 46 (.arr 2 (.raw (.pointer none))) [.pointer (some ⟨b5, 0, none⟩), .pointer (some ⟨b6, 0, none⟩)]]) (disk_Disk_Crash_ok (tupv v3 0) r12 [] _ hr31) (by kernel_rfl) (takeR_perm (is := [0]) rfl) (.val rfl (.nilsl .nil)) rfl fun _ => ?_
   exact za <| zr <| p 1 [3,5,112] rfl <| cB h fun r32 hr32 h => rc [0] (disk_Disk_On_ok _ _ _ hr32) (by kernel_rfl) rfl rfl rfl fun _ => za <| r_less [3,5] rfl <| r_meetk r32 () h rfl rfl
  exact zk <| zt <| r_less [3,5] rfl <| r_meetk r12 () h rfl rfl
 refine zu <| iE h fun hc h => y (y_ivar rfl rfl hc.1 hc.2 un46 ty42) rfl ?_
 refine y (y_load 3 (.elem 0 .here) rfl rfl (by first | rfl | (simp only [Pth.off, T.size]; omega)) (ok_elem (by first | omega | (simp only [List.length_set] at hc ⊢; omega)) ok_here) ty42) rfl ?_
 refine p 1 [3,5,115,116] rfl <| cB h fun r15 hr15 h => rc [1,0] (escrowlaw19_Tale_opens_ok _ _ _ _ _ _ hr15) (by kernel_rfl) rfl rfl rfl fun _ => q 1 [(118, tb r15.1)] [3,5] rfl <| bX h fun k17 hk17 h => ?_
 refine r_lsplitk (γ := Unit) 5 (fun (o18 : Bool × DiskS × (Int × Unit × List Int × Int × Int × Unit) × Int × List (Int) × Unit) _ => [(5, ptr b7 0), (123, tb o18.1)]) (fun (o18 : Bool × DiskS × (Int × Unit × List Int × Int × Int × Unit) × Int × List (Int) × Unit) _ => [Res.cls (CTale (tupv v3 0)) (.pointer (some ⟨b5, 0, none⟩)) r15.2.1, Res.disk Try.prog dI (tupv v3 0) o18.2.1, Res.cls (CTale (tupv v3 0)) (.pointer (some ⟨b6, 0, none⟩)) o18.2.2, Res.var b7 46 (.arr 2 (.raw (.pointer none))) [.pointer (some ⟨b5, 0, none⟩), .pointer (some ⟨b6, 0, none⟩)]]) k17 r ?_ ?_
 ·rcases Bool.eq_false_or_eq_true r15.1 with hh | hh
  ·rw [hh] at h ⊢
   rw [if_pos rfl] at h
   refine r_guard (by rfl) rfl ?_
   refine iE h fun hc h => y (y_ivar rfl rfl hc.1 hc.2 un46 ty42) rfl ?_
   refine r_guard (by rfl) rfl ?_
   refine y (y_load 3 (.elem 1 .here) rfl rfl (by first | rfl | (simp only [Pth.off, T.size]; omega)) (ok_elem (by first | omega | (simp only [List.length_set] at hc ⊢; omega)) ok_here) ty42) rfl ?_
   refine p 1 [5,118,120,121] rfl <| r_guard (by rfl) rfl ?_
   exact cB h fun r19 hr19 h => rc [2,1] (escrowlaw19_Tale_opens_ok _ _ _ _ _ _ hr19) (by kernel_rfl) rfl rfl rfl fun _ => q 1 [(123, tb r19.1)] [5] rfl <| zn <| r_less [5,123] rfl <| pk [2,1,0,0] rfl <| zt <| r_meetk (r19.1, r19.2.2, r19.2.1) () h rfl rfl
  rw [hh] at h ⊢
  rw [if_neg (by decide)] at h
  exact p 5 [5,123] rfl <| zn <| r_less [5,123] rfl <| zt <| r_meetk (false, r15.2.2, o9.2.1) () h rfl rfl
 intro o18 _ h
 rw [← hk17] at h
 try dsimp only at h
 refine q 1 [(124, tb o18.1)] [5] rfl <| bX h fun k21 hk21 h => ?_
 refine r_lsplitk (γ := Unit) 7 (fun (o22 : Bool) _ => [(5, ptr b7 0), (131, tb o22)]) (fun _ _ => [Res.cls (CTale (tupv v3 0)) (.pointer (some ⟨b5, 0, none⟩)) r15.2.1, Res.disk Try.prog dI (tupv v3 0) o18.2.1, Res.cls (CTale (tupv v3 0)) (.pointer (some ⟨b6, 0, none⟩)) o18.2.2, Res.var b7 46 (.arr 2 (.raw (.pointer none))) [.pointer (some ⟨b5, 0, none⟩), .pointer (some ⟨b6, 0, none⟩)]]) k21 r ?_ ?_
 ·rcases Bool.eq_false_or_eq_true o18.1 with hh | hh
  ·rw [hh] at h ⊢
   rw [if_pos rfl] at h
   refine r_guard (by rfl) rfl ?_
   refine iE h fun hc h => y (y_ivar rfl rfl hc.1 hc.2 un46 ty42) rfl ?_
   refine r_guard (by rfl) rfl ?_
   refine y (y_load 3 (.elem 0 .here) rfl rfl (by first | rfl | (simp only [Pth.off, T.size]; omega)) (ok_elem (by first | omega | (simp only [List.length_set] at hc ⊢; omega)) ok_here) ty42) rfl ?_
   refine r_guard (by rfl) rfl ?_
   refine r_unCTaleb fun sv23 sv24 => ?_
   refine p 2 [5,124,128] rfl <| r_guard (by rfl) rfl ?_
   refine yl 0 ((.fst .here)) ty28 rfl rfl rfl trivial rfl <| r_guard (by rfl) rfl ?_
   refine y (y_cnnil 1 rfl rfl Try.underlying28) rfl ?_
   refine q 1 [(131, tb (r15.2.1.1.1 == 0))] [5] rfl <| zn <| r_less [5,131] rfl <| r_CTale (x := r15.2.1) (q := (tupv v3 0)) ?_
   exact zt <| r_meetk (r15.2.1.1.1 == 0) () h rfl rfl
  rw [hh] at h ⊢
  rw [if_neg (by decide)] at h
  exact p 7 [5,131] rfl <| zn <| r_less [5,131] rfl <| zt <| r_meetk false () h rfl rfl
 intro o22 _ h
 rw [← hk21] at h
 try dsimp only at h
 refine p 1 [5,132] rfl <| bX h fun k26 hk26 h => ?_
 refine r_lsplitk (γ := Unit) 7 (fun (o27 : Bool) _ => [(139, tb o27)]) (fun _ _ => [Res.cls (CTale (tupv v3 0)) (.pointer (some ⟨b5, 0, none⟩)) r15.2.1, Res.disk Try.prog dI (tupv v3 0) o18.2.1, Res.cls (CTale (tupv v3 0)) (.pointer (some ⟨b6, 0, none⟩)) o18.2.2, Res.var b7 46 (.arr 2 (.raw (.pointer none))) [.pointer (some ⟨b5, 0, none⟩), .pointer (some ⟨b6, 0, none⟩)]]) k26 r ?_ ?_
 ·rcases Bool.eq_false_or_eq_true o22 with hh | hh
  ·rw [hh] at h ⊢
   rw [if_pos rfl] at h
   refine r_guard (by rfl) rfl ?_
   refine iE h fun hc h => y (y_ivar rfl rfl hc.1 hc.2 un46 ty42) rfl ?_
   refine r_guard (by rfl) rfl ?_
   refine y (y_load 3 (.elem 1 .here) rfl rfl (by first | rfl | (simp only [Pth.off, T.size]; omega)) (ok_elem (by first | omega | (simp only [List.length_set] at hc ⊢; omega)) ok_here) ty42) rfl ?_
   refine r_guard (by rfl) rfl ?_
   refine pk [2,0,0,0] rfl <| r_unCTaleb fun sv28 sv29 => ?_
   refine p 2 [132,136] rfl <| r_guard (by rfl) rfl ?_
   refine yl 0 ((.fst .here)) ty28 rfl rfl rfl trivial rfl <| r_guard (by rfl) rfl ?_
   refine y (y_cnnil 1 rfl rfl Try.underlying28) rfl ?_
   refine q 1 [(139, tb (o18.2.2.1.1 == 0))] [] rfl <| zn <| r_less [139] rfl <| r_CTale (x := o18.2.2) (q := (tupv v3 0)) ?_
   exact pk [1,1,0,0] rfl <| zt <| r_meetk (o18.2.2.1.1 == 0) () h rfl rfl
  rw [hh] at h ⊢
  rw [if_neg (by decide)] at h
  exact p 7 [139] rfl <| zn <| r_less [139] rfl <| zt <| r_meetk false () h rfl rfl
 intro o27 _ h
 rw [← hk26] at h
 try dsimp only at h
 refine p 1 [2] rfl <| zf ?_
 cases h
 exact r_ret1 rfl (.tmp rfl) (fun _ _ g => g) (fun _ _ _ => List.nil_sublist _)

end Sx
