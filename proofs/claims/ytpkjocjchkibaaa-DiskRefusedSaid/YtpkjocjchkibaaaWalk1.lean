/-
  Own work, printed by a program of the same hand. Each function of the code answers what its plain twin reckons.
-/
import Derived.Test.YtpkjocjchkibaaaProg
import Derived.Test.YtpkjocjchkibaaaDefs
import Derived.Test.YtpkjocjchkibaaaComm
import Derived.Test.YtpkjocjchkibaaaShelfD
import Derived.Test.YtpkjocjchkibaaaLib3
import Derived.KernelRfl
namespace Sx
open Go Go.Proofs
set_option maxRecDepth 10000

abbrev Y67 : T := (.pair .str (.pair (.int .i64) (.pair (.int .i64) (.pair .str .unit))))
abbrev Y41 : T := (.pair (.int .i64) (.pair .bool (.pair .str (.pair .str (.pair (.int .i64) (.pair (.int .i64) (.pair .str (.pair (.sl 67 Y67) .unit))))))))
theorem ty3 : tyChk Try.prog (.int .i64) 3 = true := by kernel_rfl
theorem ty4 : tyChk Try.prog .bool 4 = true := by kernel_rfl
theorem ty5 : tyChk Try.prog (.int .u8) 5 = true := by kernel_rfl
theorem ty9 : tyChk Try.prog .str 9 = true := by kernel_rfl
theorem ty23 : tyChk Try.prog (.sl 67 Y67) 23 = true := by kernel_rfl
theorem ty41 : tyChk Try.prog Y41 41 = true := by kernel_rfl
theorem ty67 : tyChk Try.prog Y67 67 = true := by kernel_rfl
theorem ty69 : tyChk Try.prog (.raw (.map none)) 69 = true := by kernel_rfl
theorem ty71 : tyChk Try.prog DT 71 = true := by kernel_rfl
theorem ty77 : tyChk Try.prog (.sl 5 (.int .u8)) 77 = true := by kernel_rfl
theorem ty79 : tyChk Try.prog (.raw (.map none)) 79 = true := by kernel_rfl
theorem tx0 : tyChk Try.prog (.raw (.slice none 0 0)) 77 = true := by kernel_rfl
theorem zf3 : (Try.prog.info? 3).bind (·.zero) = some (mk (.int .i64) (zc (.int .i64))) := by kernel_rfl
theorem zf5 : (Try.prog.info? 5).bind (·.zero) = some (mk (.int .u8) (zc (.int .u8))) := by kernel_rfl
theorem zf67 : (Try.prog.info? 67).bind (·.zero) = some (mk Y67 (zc Y67)) := by kernel_rfl
theorem zf71 : (Try.prog.info? 71).bind (·.zero) = some (mk DT (zc DT)) := by kernel_rfl
theorem zf81 : (Try.prog.info? 81).bind (·.zero) = some (mk FT (zc FT)) := by kernel_rfl
theorem el5 : elemChk Try.prog (.int .u8) 5 1 = true := by kernel_rfl
theorem el9 : elemChk Try.prog .str 9 16 = true := by kernel_rfl
theorem el67 : elemChk Try.prog Y67 67 48 = true := by kernel_rfl
@[reducible] def dI : DI := ⟨71, 81, 9, 3, 5⟩
theorem kstr : ktChk Try.prog .str dI.str = true := by kernel_rfl
theorem kint : ktChk Try.prog (.int .i64) dI.int = true := by kernel_rfl
theorem zNV : (Try.prog.info? 73).bind (·.zero) = some NV := by kernel_rfl
theorem ktc3 : ktChk Try.prog (.int .i64) 3 = true := by kernel_rfl
def tab : Tab := { ints := [(5, .u8)], strs := [(9, ())], slices := [(22, 41), (23, 67), (28, 9), (32, 3), (77, 5)], arrs := [], offs := [(41, [0, 1, 2, 3, 4, 5, 6, 7]), (67, [0, 1, 2, 3]), (71, [0, 1, 2, 3, 4, 5, 6]), (81, [0, 1, 2])] }
theorem tabOk : tab.chk Try.prog = true := by kernel_rfl

theorem disk_New_ok (a0 : Int) (r : Int × DiskS) (h : disk_New a0 = some r) : Fn Try.prog 32 [.one (.int .i64) a0] [] (fun v => .tup [⟨.raw NV, tupv v 0⟩, ⟨(.int .i64), r.1⟩]) (fun v => [Res.diskif Try.prog dI (tupv v 0) r.2 r.1]) := by
  unfold disk_New at h
  refine enter Try.func32 rfl 14 rfl rfl fun F => ?_
  refine r_seq ?_
  refine r_region ?_
  refine r_pure tabOk 2 [0] (E' := [(0, .one (.int .i64) a0)]) rfl ?_
  refine r_nil ?_
  refine r_then ?_
  refine r_seq ?_
  refine r_seq ?_
  refine r_region ?_
  refine r_pure tabOk 3 [0, 6] (E' := [(0, .one (.int .i64) a0), (6, .one .bool (decide (a0 < 0)))]) rfl ?_
  obtain ⟨b1, hbb1, h⟩ := bnd_ex h
  rw [hbb1]
  refine r_lsplit (γ := Unit) 3 (fun _ => [(0, .one (.int .i64) a0), (9, .one .bool (b1 || (decide (a0 > 16777216))))]) (fun _ => []) ?_ (fun _ => ?_)
  · clear h
    cases b1 with
    | true =>
    refine r_pure tabOk 3 [0, 9] (E' := [(0, .one (.int .i64) a0), (9, .one .bool true)]) rfl ?_
    refine r_nil ?_
    refine r_then ?_
    exact r_meetg () rfl rfl
    | false =>
    refine r_pure tabOk 3 [0, 9] (E' := [(0, .one (.int .i64) a0), (9, .one .bool (decide (a0 > 16777216)))]) rfl ?_
    refine r_nil ?_
    refine r_then ?_
    exact r_meetg () rfl rfl
  refine r_nil ?_
  refine r_then ?_
  refine r_if (b := (b1 || (decide (a0 > 16777216)))) rfl (fun hc => ?_) (fun hc => ?_)
  · rw [if_pos hc] at h
    refine r_seq ?_
    refine r_region ?_
    refine r_pure tabOk 2 [2, 3] (E' := [(2, .one (.raw (.pointer none)) (.pointer none)), (3, .one (.int .i64) 1)]) rfl ?_
    refine r_nil ?_
    refine r_then ?_
    refine r_ret ?_
    refine t_then ?_
    refine r_nodisk (P := Try.prog) (I := dI) (D := (0, [], 0, 0, 0, false, false)) (e := 1) (by decide) ?_
    obtain rfl := Option.some.inj h
    exact r_rets (rs := [.tmp 2, .tmp 3]) rfl (.cons (.tmp rfl) (.cons (.tmp rfl) .nil)) rfl (fun _ vs g => by cases g with | cons h0 g => cases g with | cons h1 g => cases g; exact ⟨_, rfl, .cons (raw_self h0) (.cons h1 .nil)⟩) (fun _ vs g => by cases g with | cons h0 g => cases g with | cons h1 g => cases g; rw [raw_eq h0]; exact (.cons_cons _ .slnil))
  · rw [if_neg (ne_true_of_eq_false hc)] at h
    refine r_skip ?_
    refine r_then ?_
    refine r_seq ?_
    refine r_region ?_
    refine r_pure tabOk 1 [10] (E' := [(10, .one (.int .i64) a0)]) rfl ?_
    refine r_makeMap 9 .str (.raw NV) rfl fun v2 => ?_
    refine r_nofiles (P := Try.prog) (I := dI) ?_
    refine y (y_build rfl zf71 rfl rfl (.cons ((.fst .here)) rfl rfl (ok_fst ok_here) (.cons ((.snd (.fst .here))) rfl rfl (ok_snd (ok_fst ok_here)) .nil))) rfl ?_
    refine r_box rfl rfl fun b3 => ?_
    refine r_pure tabOk 2 [2, 3] (E' := [(2, ptr b3 0), (3, .one (.int .i64) 0)]) rfl ?_
    refine r_nil ?_
    refine r_then ?_
    refine r_ret ?_
    refine r_disk (P := Try.prog) (I := dI) (D := (a0, [], 0, 0, 0, false, false)) ?_
    refine r_isdisk ?_
    obtain rfl := Option.some.inj h
    exact r_rets (rs := [.tmp 2, .tmp 3]) rfl (.cons (.tmp rfl) (.cons (.tmp rfl) .nil)) rfl (fun _ vs g => by cases g with | cons h0 g => cases g with | cons h1 g => cases g; exact ⟨_, rfl, .cons (raw_self h0) (.cons h1 .nil)⟩) (fun _ vs g => by cases g with | cons h0 g => cases g with | cons h1 g => cases g; rw [raw_eq h0]; exact (.cons_cons _ .slnil))

theorem disk_isName_ok (a0 : List Int) (r : Bool) (h : disk_isName a0 = some r) : Pure Try.prog 45 [.one .str a0] (.one .bool r) := by
  unfold disk_isName at h
  refine enter Try.func45 rfl 27 rfl rfl fun F => ?_
  refine r_seq ?_
  refine r_region ?_
  refine r_pure tabOk 1 [0] (E' := [(0, .one .str a0)]) rfl ?_
  refine r_nil ?_
  refine r_then ?_
  obtain ⟨k1, hk1, h⟩ := bnd_ex h
  refine r_joink (γ := Unit) (fun (o2 : Unit) _ => [(0, .one .str a0)]) (fun (o2 : Unit) _ => []) k1 r ?_ ?_
  · refine r_seq ?_
    refine r_region ?_
    refine r_pure tabOk 3 [0, 5, 6] (E' := [(0, .one .str a0), (5, .one (.int .i64) (List.length a0 : Int)), (6, .one (.int .i64) 0)]) rfl ?_
    refine r_nil ?_
    refine r_then ?_
    refine r_block ?_
    refine r_less [0, 5, 6] rfl ?_
    refine r_loopg (γ := Unit) (fun (s5 : Int) _ => [(0, .one .str a0), (5, .one (.int .i64) (List.length a0 : Int)), (6, .one (.int .i64) s5)]) (fun (s5 : Int) _ => []) (disk_isName_l0 a0 k1) 0 () h rfl rfl ?_
    clear h
    intro m6 s5 gg h
    cases m6 with
    | zero => cases h
    | succ m6 =>
    simp only [disk_isName_l0] at h
    refine r_seq ?_
    refine r_region ?_
    refine r_pure tabOk 1 [0, 5, 6, 7] (E' := [(0, .one .str a0), (5, .one (.int .i64) (List.length a0 : Int)), (6, .one (.int .i64) s5), (7, .one .bool (decide (s5 < (List.length a0 : Int))))]) rfl ?_
    refine r_nil ?_
    refine r_then ?_
    refine r_seq ?_
    refine r_if (b := (decide (s5 < (List.length a0 : Int)))) rfl (fun hc => ?_) (fun hc => ?_)
    · rw [if_pos hc] at h
      refine r_skip ?_
      refine r_then ?_
      refine r_seq ?_
      refine r_block ?_
      refine r_seq ?_
      refine r_region ?_
      refine r_pure tabOk 2 [0, 3, 5, 6] (E' := [(0, .one .str a0), (3, .one (.int .i64) s5), (5, .one (.int .i64) (List.length a0 : Int)), (6, .one (.int .i64) s5)]) rfl ?_
      refine r_nil ?_
      refine r_then ?_
      refine r_seq ?_
      refine r_region ?_
      refine r_pure tabOk 2 [0, 3, 5, 6, 9, 10] (E' := [(0, .one .str a0), (3, .one (.int .i64) s5), (5, .one (.int .i64) (List.length a0 : Int)), (6, .one (.int .i64) s5), (9, .one .str a0), (10, .one (.int .i64) s5)]) rfl ?_
      obtain ⟨hc, h⟩ := ite_ex h
      refine y (y_byte tabOk rfl rfl hc.1 hc.2 rfl) rfl ?_
      refine r_pure tabOk 2 [0, 3, 5, 6, 13] (E' := [(0, .one .str a0), (3, .one (.int .i64) s5), (5, .one (.int .i64) (List.length a0 : Int)), (6, .one (.int .i64) s5), (13, .one .bool (decide ((List.getD a0 (Int.toNat s5) 0) < 33)))]) rfl ?_
      obtain ⟨b7, hbb7, h⟩ := bnd_ex h
      rw [hbb7]
      obtain ⟨k8, hk8, h⟩ := bnd_ex h
      refine r_lsplitk (γ := Unit) 5 (fun (o9 : Bool) _ => [(0, .one .str a0), (5, .one (.int .i64) (List.length a0 : Int)), (6, .one (.int .i64) s5), (18, .one .bool o9)]) (fun _ _ => []) k8 r ?_ ?_
      · rcases Bool.eq_false_or_eq_true b7 with hh | hh
        · rw [hh] at h ⊢
          rw [if_pos rfl] at h
          refine r_pure tabOk 5 [0, 5, 6, 18] (E' := [(0, .one .str a0), (5, .one (.int .i64) (List.length a0 : Int)), (6, .one (.int .i64) s5), (18, .one .bool true)]) rfl ?_
          refine r_nil ?_
          refine r_less [0, 5, 6, 18] rfl ?_
          refine r_then ?_
          exact r_meetk true () h rfl rfl
        · rw [hh] at h ⊢
          rw [if_neg (by decide)] at h
          refine r_pure tabOk 2 [0, 5, 6, 13, 14, 15] (E' := [(0, .one .str a0), (5, .one (.int .i64) (List.length a0 : Int)), (6, .one (.int .i64) s5), (13, .one .bool false), (14, .one .str a0), (15, .one (.int .i64) s5)]) rfl ?_
          refine r_guard (by rfl) rfl ?_
          obtain ⟨hc, h⟩ := ite_ex h
          refine y (y_byte tabOk rfl rfl hc.1 hc.2 rfl) rfl ?_
          refine r_pure tabOk 2 [0, 5, 6, 18] (E' := [(0, .one .str a0), (5, .one (.int .i64) (List.length a0 : Int)), (6, .one (.int .i64) s5), (18, .one .bool (decide ((List.getD a0 (Int.toNat s5) 0) > 126)))]) rfl ?_
          refine r_nil ?_
          refine r_less [0, 5, 6, 18] rfl ?_
          refine r_then ?_
          exact r_meetk (decide ((List.getD a0 (Int.toNat s5) 0) > 126)) () h rfl rfl
      · intro o9 _ h
        rw [← hk8] at h
        try dsimp only at h
        refine r_nil ?_
        refine r_then ?_
        refine r_if (b := o9) rfl (fun hc => ?_) (fun hc => ?_)
        · rw [if_pos hc] at h
          refine r_seq ?_
          refine r_region ?_
          refine r_pure tabOk 1 [2] (E' := [(2, .one .bool false)]) rfl ?_
          refine r_nil ?_
          refine r_then ?_
          refine r_ret ?_
          refine t_block ?_
          refine t_then ?_
          refine t_then ?_
          refine t_block ?_
          refine t_then ?_
          obtain rfl := Option.some.inj h
          exact r_ret1 rfl (.tmp rfl) (fun _ _ g => g) (fun _ _ _ => List.nil_sublist _)
        · rw [if_neg (ne_true_of_eq_false hc)] at h
          refine r_skip ?_
          refine r_inblock ?_
          refine r_then ?_
          refine r_region ?_
          refine r_pure tabOk 2 [0, 5, 6] (E' := [(0, .one .str a0), (5, .one (.int .i64) (List.length a0 : Int)), (6, .one (.int .i64) (IntKind.wrap .i64 (s5 + 1)))]) rfl ?_
          refine r_nil ?_
          refine r_then ?_
          refine r_less [0, 5, 6] rfl ?_
          exact r_backg (IntKind.wrap .i64 (s5 + 1)) () (Nat.lt_succ_self _) h rfl rfl
    · rw [if_neg (ne_true_of_eq_false hc)] at h
      refine r_exit ?_
      refine e_then ?_
      refine e_then ?_
      refine e_eq ?_
      refine r_then ?_
      refine r_less [0] rfl ?_
      exact r_meetk () () h rfl rfl
  · intro o2 gg h
    rw [← hk1] at h
    try dsimp only at h
    refine r_seq ?_
    refine r_region ?_
    refine r_pure tabOk 3 [0, 22] (E' := [(0, .one .str a0), (22, .one .bool (a0 != []))]) rfl ?_
    obtain ⟨b3, hbb3, h⟩ := bnd_ex h
    rw [hbb3]
    refine r_lsplit (γ := Unit) 4 (fun _ => [(26, .one .bool (b3 && (decide ((List.length a0 : Int) ≤ 32))))]) (fun _ => []) ?_ (fun _ => ?_)
    · clear h
      cases b3 with
      | true =>
      refine r_pure tabOk 4 [26] (E' := [(26, .one .bool (decide ((List.length a0 : Int) ≤ 32)))]) rfl ?_
      refine r_nil ?_
      refine r_then ?_
      exact r_meetg () rfl rfl
      | false =>
      refine r_pure tabOk 4 [26] (E' := [(26, .one .bool false)]) rfl ?_
      refine r_nil ?_
      refine r_then ?_
      exact r_meetg () rfl rfl
    refine r_pure tabOk 1 [2] (E' := [(2, .one .bool (b3 && (decide ((List.length a0 : Int) ≤ 32))))]) rfl ?_
    refine r_nil ?_
    refine r_then ?_
    refine r_ret ?_
    obtain rfl := Option.some.inj h
    exact r_ret1 rfl (.tmp rfl) (fun _ _ g => g) (fun _ _ _ => List.nil_sublist _)

theorem disk_Disk_Used_ok (b0 : Nat) (mv0 : Value) (nm0 : List Int) (q0 : Value) (a0 : DiskS) (r : Int) (h : disk_Disk_Used a0 = some r) : Fn Try.prog 36 [ptr b0 0] [Res.var b0 71 DT (a0.1, mv0, a0.2.2.1, a0.2.2.2.1, a0.2.2.2.2.1, a0.2.2.2.2.2.1, a0.2.2.2.2.2.2, ()), Res.dat Try.prog dI mv0 a0.2.1 nm0 q0] (fun _ => .one (.int .i64) r) (fun _ => [Res.var b0 71 DT (a0.1, mv0, a0.2.2.1, a0.2.2.2.1, a0.2.2.2.2.1, a0.2.2.2.2.2.1, a0.2.2.2.2.2.2, ()), Res.dat Try.prog dI mv0 a0.2.1 nm0 q0]) := by
  unfold disk_Disk_Used at h
  refine enter Try.func36 rfl 23 rfl rfl fun F => ?_
  refine r_seq ?_
  refine r_region ?_
  refine r_pure tabOk 1 [0] (E' := [(0, ptr b0 0)]) rfl ?_
  refine r_nil ?_
  refine r_then ?_
  refine r_seq ?_
  refine r_region ?_
  refine r_pure tabOk 1 [0, 3] (E' := [(0, ptr b0 0), (3, .one (.int .i64) 0)]) rfl ?_
  refine r_nil ?_
  refine r_then ?_
  obtain ⟨k1, hk1, h⟩ := bnd_ex h
  refine r_joink (γ := Unit) (fun (o2 : Int) _ => [(3, .one (.int .i64) o2)]) (fun (o2 : Int) _ => [Res.dat Try.prog dI mv0 a0.2.1 nm0 q0, Res.var b0 71 DT (a0.1, mv0, a0.2.2.1, a0.2.2.2.1, a0.2.2.2.2.1, a0.2.2.2.2.2.1, a0.2.2.2.2.2.2, ())]) k1 r ?_ ?_
  · refine r_seq ?_
    refine r_region ?_
    refine r_pure tabOk 3 [3, 8] (E' := [(3, .one (.int .i64) 0), (8, ptr b0 1)]) rfl ?_
    refine y (y_load 0 ((.snd (.fst .here))) rfl rfl (by first | rfl | (simp only [Pth.off, T.size]; omega)) (ok_snd (ok_fst ok_here)) ty69) rfl ?_
    refine r_perm (L' := [Res.dat Try.prog dI mv0 a0.2.1 nm0 q0, Res.var b0 71 DT (a0.1, mv0, a0.2.2.1, a0.2.2.2.1, a0.2.2.2.2.1, a0.2.2.2.2.2.1, a0.2.2.2.2.2.2, ())]) ((List.perm_middle (a := Res.dat Try.prog dI mv0 a0.2.1 nm0 q0) (l₁ := [Res.var b0 71 DT (a0.1, mv0, a0.2.2.1, a0.2.2.2.1, a0.2.2.2.2.1, a0.2.2.2.2.2.1, a0.2.2.2.2.2.2, ())]) (l₂ := [])).trans (.cons _ (List.Perm.refl _))) ?_
    refine r_drangeq kstr rfl Try.underlying69 rfl fun it3 hn4 => ?_
    refine r_nil ?_
    refine r_then ?_
    refine r_block ?_
    obtain ⟨rr, hall, h⟩ := bind_ex h
    refine r_less [3, 10] rfl ?_
    refine r_rangeloop (step := disk_Disk_Used_l0 a0) (fun _ _ => True) (comm_disk_Disk_Used_l0 a0) hn4 trivial hall (γ := Unit) (fun (s6 : Int) _ => [(3, .one (.int .i64) s6), (10, .one (.raw (.pointer none)) it3)]) (fun todo8 (s6 : Int) _ => [Res.diter Try.prog dI mv0 it3 a0.2.1 todo8 none (some (nm0, q0)), Res.var b0 71 DT (a0.1, mv0, a0.2.2.1, a0.2.2.2.1, a0.2.2.2.2.1, a0.2.2.2.2.2.1, a0.2.2.2.2.2.2, ())]) () rfl rfl fun todo8 s6 gg hend hone => ?_
    refine r_seq ?_
    refine r_region ?_
    refine r_dnext kstr rfl rfl (fun ht => ?_) (fun A9 k10 B11 q12 htk10 hk => ?_)
    · obtain rfl := hend ht
      refine r_dunrangeq ?_
      refine r_pure tabOk 1 [3, 12] (E' := [(3, .one (.int .i64) s6), (12, .one .bool false)]) rfl ?_
      refine r_nil ?_
      refine r_then ?_
      refine r_seq ?_
      refine r_if (b := false) rfl (fun hc => ?_) (fun hc => ?_)
      · cases hc
      · refine r_exit ?_
        refine e_then ?_
        refine e_then ?_
        refine e_eq ?_
        refine r_then ?_
        refine r_less [3] rfl ?_
        exact r_meetk s6 () h rfl rfl
    · obtain ⟨sk10, hsk10⟩ := hone A9 k10 B11 htk10
      clear h
      have h := hsk10
      unfold disk_Disk_Used_l0 at h
      refine r_pure tabOk 1 [3, 10, 12] (E' := [(3, .one (.int .i64) s6), (10, .one (.raw (.pointer none)) it3), (12, .one .bool true)]) rfl ?_
      refine r_nil ?_
      refine r_then ?_
      refine r_seq ?_
      refine r_if (b := true) rfl (fun hc => ?_) (fun hc => ?_)
      · refine r_skip ?_
        refine r_then ?_
        refine r_block ?_
        refine r_seq ?_
        refine r_region ?_
        refine y (y_dentry rfl 0 rfl) rfl ?_
        refine r_pure tabOk 2 [3, 5, 10] (E' := [(3, .one (.int .i64) s6), (5, .one (.raw (.pointer none)) q12), (10, .one (.raw (.pointer none)) it3)]) rfl ?_
        refine r_nil ?_
        refine r_then ?_
        obtain ⟨f14, hf14, h⟩ := bind_ex h
        refine r_difocus hf14 fun fb15 sv16 tv17 dv18 hq => ?_
        rw [hq]
        clear hq
        refine r_region ?_
        refine r_pure tabOk 4 [10, 15, 18] (E' := [(10, .one (.raw (.pointer none)) it3), (15, .one (.int .i64) s6), (18, ptr fb15 0)]) rfl ?_
        refine y (y_load 0 ((.fst .here)) rfl rfl (by first | rfl | (simp only [Pth.off, T.size]; omega)) (ok_fst ok_here) tx0) rfl ?_
        refine y (y_lenown tabOk 1 rfl rfl rfl) rfl ?_
        refine r_pure tabOk 2 [3, 10] (E' := [(3, .one (.int .i64) (IntKind.wrap .i64 (s6 + (List.length f14.1 : Int)))), (10, .one (.raw (.pointer none)) it3)]) rfl ?_
        obtain ⟨n19, hn19, h⟩ := bnd_ex h
        rw [hn19]
        refine r_nil ?_
        refine r_inblock ?_
        refine r_then ?_
        refine r_diunfocus_same (P := Try.prog) (I := dI) hf14 ?_
        refine r_imp_at (R' := Res.diter Try.prog dI mv0 it3 a0.2.1 (A9 ++ B11) none (some (nm0, q0))) 0 rfl diter_none ?_
        refine r_less [3, 10] rfl ?_
        obtain rfl := Option.some.inj h
        exact r_backR () htk10 hsk10 rfl rfl
      · cases hc
  · intro o2 gg h
    rw [← hk1] at h
    try dsimp only at h
    refine r_seq ?_
    refine r_region ?_
    refine r_pure tabOk 2 [2] (E' := [(2, .one (.int .i64) o2)]) rfl ?_
    refine r_nil ?_
    refine r_then ?_
    refine r_ret ?_
    obtain rfl := Option.some.inj h
    refine r_perm (L' := [Res.var b0 71 DT (a0.1, mv0, a0.2.2.1, a0.2.2.2.1, a0.2.2.2.2.1, a0.2.2.2.2.2.1, a0.2.2.2.2.2.2, ()), Res.dat Try.prog dI mv0 a0.2.1 nm0 q0]) ((List.perm_middle (a := Res.var b0 71 DT (a0.1, mv0, a0.2.2.1, a0.2.2.2.1, a0.2.2.2.2.1, a0.2.2.2.2.2.1, a0.2.2.2.2.2.2, ())) (l₁ := [Res.dat Try.prog dI mv0 a0.2.1 nm0 q0]) (l₂ := [])).trans (.cons _ (List.Perm.refl _))) ?_
    exact r_ret1 rfl (.tmp rfl) (fun _ _ g => g) (fun _ _ _ => (.cons_cons _ (.cons_cons _ .slnil)))

theorem disk_Disk_counted_ok (b0 : Nat) (mv0 : Value) (a0 : DiskS) (a1 : Int) (r : Int × DiskS) (h : disk_Disk_counted a0 a1 = some r) : Fn Try.prog 39 [ptr b0 0, .one (.int .i64) a1] [Res.var b0 71 DT (a0.1, mv0, a0.2.2.1, a0.2.2.2.1, a0.2.2.2.2.1, a0.2.2.2.2.2.1, a0.2.2.2.2.2.2, ())] (fun _ => .one (.int .i64) r.1) (fun _ => [Res.var b0 71 DT (r.2.1, mv0, r.2.2.2.1, r.2.2.2.2.1, r.2.2.2.2.2.1, r.2.2.2.2.2.2.1, r.2.2.2.2.2.2.2, ())]) := by
  unfold disk_Disk_counted at h
  refine enter Try.func39 rfl 60 rfl rfl fun F => ?_
  refine r_seq ?_
  refine r_region ?_
  refine r_pure tabOk 1 [0, 1] (E' := [(0, ptr b0 0), (1, .one (.int .i64) a1)]) rfl ?_
  refine r_nil ?_
  refine r_then ?_
  obtain ⟨k1, hk1, h⟩ := bnd_ex h
  refine r_joink (γ := Unit) (fun (o2 : DiskS) _ => [(0, ptr b0 0), (1, .one (.int .i64) a1)]) (fun (o2 : DiskS) _ => [Res.var b0 71 DT (o2.1, mv0, o2.2.2.1, o2.2.2.2.1, o2.2.2.2.2.1, o2.2.2.2.2.2.1, o2.2.2.2.2.2.2, ())]) k1 r ?_ ?_
  · refine r_seq ?_
    refine r_region ?_
    refine r_pure tabOk 3 [0, 1, 7] (E' := [(0, ptr b0 0), (1, .one (.int .i64) a1), (7, ptr b0 4)]) rfl ?_
    refine y (y_load 0 ((.snd (.snd (.snd (.snd (.fst .here)))))) rfl rfl (by first | rfl | (simp only [Pth.off, T.size]; omega)) (ok_snd (ok_snd (ok_snd (ok_snd (ok_fst ok_here))))) ty3) rfl ?_
    refine r_pure tabOk 1 [0, 1, 9] (E' := [(0, ptr b0 0), (1, .one (.int .i64) a1), (9, .one .bool (decide (a0.2.2.2.2.1 > 0)))]) rfl ?_
    refine r_nil ?_
    refine r_then ?_
    refine r_if (b := (decide (a0.2.2.2.2.1 > 0))) rfl (fun hc => ?_) (fun hc => ?_)
    · rw [if_pos hc] at h
      refine r_seq ?_
      refine r_region ?_
      refine r_pure tabOk 3 [0, 1, 10, 12] (E' := [(0, ptr b0 0), (1, .one (.int .i64) a1), (10, ptr b0 0), (12, ptr b0 4)]) rfl ?_
      refine y (y_load 0 ((.snd (.snd (.snd (.snd (.fst .here)))))) rfl rfl (by first | rfl | (simp only [Pth.off, T.size]; omega)) (ok_snd (ok_snd (ok_snd (ok_snd (ok_fst ok_here))))) ty3) rfl ?_
      refine r_pure tabOk 3 [0, 1, 14, 16] (E' := [(0, ptr b0 0), (1, .one (.int .i64) a1), (14, .one (.int .i64) (IntKind.wrap .i64 (a0.2.2.2.2.1 - 1))), (16, ptr b0 4)]) rfl ?_
      refine r_store 0 ((.snd (.snd (.snd (.snd (.fst .here)))))) rfl rfl rfl (by first | rfl | (simp only [Pth.off, T.size]; omega)) (ok_snd (ok_snd (ok_snd (ok_snd (ok_fst ok_here))))) ty3 ?_
      refine r_nil ?_
      refine r_then ?_
      refine r_seq ?_
      refine r_region ?_
      refine r_pure tabOk 3 [0, 1, 19] (E' := [(0, ptr b0 0), (1, .one (.int .i64) a1), (19, ptr b0 4)]) rfl ?_
      refine y (y_load 0 ((.snd (.snd (.snd (.snd (.fst .here)))))) rfl rfl (by first | rfl | (simp only [Pth.off, T.size]; omega)) (ok_snd (ok_snd (ok_snd (ok_snd (ok_fst ok_here))))) ty3) rfl ?_
      refine r_pure tabOk 1 [0, 1, 21] (E' := [(0, ptr b0 0), (1, .one (.int .i64) a1), (21, .one .bool ((IntKind.wrap .i64 (a0.2.2.2.2.1 - 1)) == 0))]) rfl ?_
      refine r_nil ?_
      refine r_then ?_
      refine r_if (b := ((IntKind.wrap .i64 (a0.2.2.2.2.1 - 1)) == 0)) rfl (fun hc => ?_) (fun hc => ?_)
      · rw [if_pos hc] at h
        refine r_seq ?_
        refine r_region ?_
        refine r_pure tabOk 4 [23, 25] (E' := [(23, ptr b0 0), (25, ptr b0 5)]) rfl ?_
        refine r_store 0 ((.snd (.snd (.snd (.snd (.snd (.fst .here))))))) rfl rfl rfl (by first | rfl | (simp only [Pth.off, T.size]; omega)) (ok_snd (ok_snd (ok_snd (ok_snd (ok_snd (ok_fst ok_here)))))) ty4 ?_
        refine r_pure tabOk 2 [27] (E' := [(27, ptr b0 6)]) rfl ?_
        refine r_store 0 ((.snd (.snd (.snd (.snd (.snd (.snd (.fst .here)))))))) rfl rfl rfl (by first | rfl | (simp only [Pth.off, T.size]; omega)) (ok_snd (ok_snd (ok_snd (ok_snd (ok_snd (ok_snd (ok_fst ok_here))))))) ty4 ?_
        refine r_nil ?_
        refine r_then ?_
        refine r_seq ?_
        refine r_region ?_
        refine r_pure tabOk 1 [4] (E' := [(4, .one (.int .i64) 9)]) rfl ?_
        refine r_nil ?_
        refine r_then ?_
        refine r_ret ?_
        refine t_then ?_
        obtain rfl := Option.some.inj h
        exact r_ret1 rfl (.tmp rfl) (fun _ _ g => g) (fun _ _ _ => (.cons_cons _ .slnil))
      · rw [if_neg (ne_true_of_eq_false hc)] at h
        refine r_skip ?_
        refine r_then ?_
        refine r_less [0, 1] rfl ?_
        exact r_meetk (a0.1, a0.2.1, a0.2.2.1, a0.2.2.2.1, (IntKind.wrap .i64 (a0.2.2.2.2.1 - 1)), a0.2.2.2.2.2.1, a0.2.2.2.2.2.2) () h rfl rfl
    · rw [if_neg (ne_true_of_eq_false hc)] at h
      refine r_skip ?_
      refine r_then ?_
      refine r_less [0, 1] rfl ?_
      exact r_meetk (a0.1, a0.2.1, a0.2.2.1, a0.2.2.2.1, a0.2.2.2.2.1, a0.2.2.2.2.2.1, a0.2.2.2.2.2.2) () h rfl rfl
  · intro o2 gg h
    rw [← hk1] at h
    try dsimp only at h
    obtain ⟨k3, hk3, h⟩ := bnd_ex h
    refine r_joink (γ := Unit) (fun (o4 : DiskS) _ => []) (fun (o4 : DiskS) _ => [Res.var b0 71 DT (o4.1, mv0, o4.2.2.1, o4.2.2.2.1, o4.2.2.2.2.1, o4.2.2.2.2.2.1, o4.2.2.2.2.2.2, ())]) k3 r ?_ ?_
    · refine r_seq ?_
      refine r_region ?_
      refine r_pure tabOk 3 [0, 1, 30] (E' := [(0, ptr b0 0), (1, .one (.int .i64) a1), (30, ptr b0 2)]) rfl ?_
      refine y (y_load 0 ((.snd (.snd (.fst .here)))) rfl rfl (by first | rfl | (simp only [Pth.off, T.size]; omega)) (ok_snd (ok_snd (ok_fst ok_here))) ty3) rfl ?_
      refine r_pure tabOk 2 [0, 1, 33] (E' := [(0, ptr b0 0), (1, .one (.int .i64) a1), (33, .one .bool (decide (o2.2.2.1 > 0)))]) rfl ?_
      obtain ⟨b5, hbb5, h⟩ := bnd_ex h
      rw [hbb5]
      obtain ⟨k6, hk6, h⟩ := bnd_ex h
      refine r_lsplitk (γ := Unit) 14 (fun (o7 : Bool) _ => [(0, ptr b0 0), (47, .one .bool o7)]) (fun _ _ => [Res.var b0 71 DT (o2.1, mv0, o2.2.2.1, o2.2.2.2.1, o2.2.2.2.2.1, o2.2.2.2.2.2.1, o2.2.2.2.2.2.2, ())]) k6 r ?_ ?_
      · rcases Bool.eq_false_or_eq_true b5 with hh | hh
        · rw [hh] at h ⊢
          rw [if_pos rfl] at h
          refine r_pure tabOk 3 [0, 1, 33, 36] (E' := [(0, ptr b0 0), (1, .one (.int .i64) a1), (33, .one .bool true), (36, ptr b0 3)]) rfl ?_
          refine r_guard (by rfl) rfl ?_
          refine y (y_load 0 ((.snd (.snd (.snd (.fst .here))))) rfl rfl (by first | rfl | (simp only [Pth.off, T.size]; omega)) (ok_snd (ok_snd (ok_snd (ok_fst ok_here)))) ty3) rfl ?_
          refine r_pure tabOk 2 [0, 1, 33, 39] (E' := [(0, ptr b0 0), (1, .one (.int .i64) a1), (33, .one .bool true), (39, .one .bool (o2.2.2.2.1 == 0))]) rfl ?_
          obtain ⟨b8, hbb8, h⟩ := bnd_ex h
          rw [hbb8]
          refine r_lsplit (γ := Unit) 7 (fun _ => [(0, ptr b0 0), (33, .one .bool true), (46, .one .bool (b8 || (o2.2.2.2.1 == a1)))]) (fun _ => [Res.var b0 71 DT (o2.1, mv0, o2.2.2.1, o2.2.2.2.1, o2.2.2.2.2.1, o2.2.2.2.2.2.1, o2.2.2.2.2.2.2, ())]) ?_ (fun _ => ?_)
          · clear h
            cases b8 with
            | true =>
            refine r_pure tabOk 7 [0, 33, 46] (E' := [(0, ptr b0 0), (33, .one .bool true), (46, .one .bool true)]) rfl ?_
            refine r_nil ?_
            refine r_then ?_
            exact r_meetg () rfl rfl
            | false =>
            refine r_pure tabOk 3 [0, 1, 33, 39, 42] (E' := [(0, ptr b0 0), (1, .one (.int .i64) a1), (33, .one .bool true), (39, .one .bool false), (42, ptr b0 3)]) rfl ?_
            refine r_guard (by rfl) rfl ?_
            refine y (y_load 0 ((.snd (.snd (.snd (.fst .here))))) rfl rfl (by first | rfl | (simp only [Pth.off, T.size]; omega)) (ok_snd (ok_snd (ok_snd (ok_fst ok_here)))) ty3) rfl ?_
            refine r_pure tabOk 3 [0, 33, 46] (E' := [(0, ptr b0 0), (33, .one .bool true), (46, .one .bool (o2.2.2.2.1 == a1))]) rfl ?_
            refine r_nil ?_
            refine r_then ?_
            exact r_meetg () rfl rfl
          refine r_pure tabOk 1 [0, 47] (E' := [(0, ptr b0 0), (47, .one .bool (b8 || (o2.2.2.2.1 == a1)))]) rfl ?_
          refine r_nil ?_
          refine r_less [0, 47] rfl ?_
          refine r_then ?_
          exact r_meetk (b8 || (o2.2.2.2.1 == a1)) () h rfl rfl
        · rw [hh] at h ⊢
          rw [if_neg (by decide)] at h
          refine r_pure tabOk 14 [0, 47] (E' := [(0, ptr b0 0), (47, .one .bool false)]) rfl ?_
          refine r_nil ?_
          refine r_less [0, 47] rfl ?_
          refine r_then ?_
          exact r_meetk false () h rfl rfl
      · intro o7 _ h
        rw [← hk6] at h
        try dsimp only at h
        refine r_nil ?_
        refine r_then ?_
        refine r_if (b := o7) rfl (fun hc => ?_) (fun hc => ?_)
        · rw [if_pos hc] at h
          refine r_seq ?_
          refine r_region ?_
          refine r_pure tabOk 3 [0, 48, 50] (E' := [(0, ptr b0 0), (48, ptr b0 0), (50, ptr b0 2)]) rfl ?_
          refine y (y_load 0 ((.snd (.snd (.fst .here)))) rfl rfl (by first | rfl | (simp only [Pth.off, T.size]; omega)) (ok_snd (ok_snd (ok_fst ok_here))) ty3) rfl ?_
          refine r_pure tabOk 3 [0, 52, 54] (E' := [(0, ptr b0 0), (52, .one (.int .i64) (IntKind.wrap .i64 (o2.2.2.1 - 1))), (54, ptr b0 2)]) rfl ?_
          refine r_store 0 ((.snd (.snd (.fst .here)))) rfl rfl rfl (by first | rfl | (simp only [Pth.off, T.size]; omega)) (ok_snd (ok_snd (ok_fst ok_here))) ty3 ?_
          refine r_nil ?_
          refine r_then ?_
          refine r_seq ?_
          refine r_region ?_
          refine r_pure tabOk 3 [57] (E' := [(57, ptr b0 2)]) rfl ?_
          refine y (y_load 0 ((.snd (.snd (.fst .here)))) rfl rfl (by first | rfl | (simp only [Pth.off, T.size]; omega)) (ok_snd (ok_snd (ok_fst ok_here))) ty3) rfl ?_
          refine r_pure tabOk 1 [59] (E' := [(59, .one .bool ((IntKind.wrap .i64 (o2.2.2.1 - 1)) == 0))]) rfl ?_
          refine r_nil ?_
          refine r_then ?_
          refine r_if (b := ((IntKind.wrap .i64 (o2.2.2.1 - 1)) == 0)) rfl (fun hc => ?_) (fun hc => ?_)
          · rw [if_pos hc] at h
            refine r_seq ?_
            refine r_region ?_
            refine r_pure tabOk 1 [4] (E' := [(4, .one (.int .i64) 40)]) rfl ?_
            refine r_nil ?_
            refine r_then ?_
            refine r_ret ?_
            refine t_then ?_
            obtain rfl := Option.some.inj h
            exact r_ret1 rfl (.tmp rfl) (fun _ _ g => g) (fun _ _ _ => (.cons_cons _ .slnil))
          · rw [if_neg (ne_true_of_eq_false hc)] at h
            refine r_skip ?_
            refine r_then ?_
            refine r_less [] rfl ?_
            exact r_meetk (o2.1, a0.2.1, (IntKind.wrap .i64 (o2.2.2.1 - 1)), o2.2.2.2.1, o2.2.2.2.2.1, o2.2.2.2.2.2.1, o2.2.2.2.2.2.2) () h rfl rfl
        · rw [if_neg (ne_true_of_eq_false hc)] at h
          refine r_skip ?_
          refine r_then ?_
          refine r_less [] rfl ?_
          exact r_meetk (o2.1, a0.2.1, o2.2.2.1, o2.2.2.2.1, o2.2.2.2.2.1, o2.2.2.2.2.2.1, o2.2.2.2.2.2.2) () h rfl rfl
    · intro o4 gg h
      rw [← hk3] at h
      try dsimp only at h
      refine r_seq ?_
      refine r_region ?_
      refine r_pure tabOk 1 [4] (E' := [(4, .one (.int .i64) 0)]) rfl ?_
      refine r_nil ?_
      refine r_then ?_
      refine r_ret ?_
      obtain rfl := Option.some.inj h
      exact r_ret1 rfl (.tmp rfl) (fun _ _ g => g) (fun _ _ _ => (.cons_cons _ .slnil))

theorem disk_Disk_Write_ok (p0 : Value) (a0 : DiskS) (a1 : List Int) (a2 : Int) (a3 : List Int) (r : Int × DiskS) (h : disk_Disk_Write a0 a1 a2 a3 = some r) : Fn Try.prog 29 [.one (.raw (.pointer none)) p0, .one .str a1, .one (.int .i64) a2, .one .str a3] [Res.disk Try.prog dI p0 a0] (fun _ => .one (.int .i64) r.1) (fun _ => [Res.disk Try.prog dI p0 r.2]) := by
  unfold disk_Disk_Write at h
  refine enter Try.func29 rfl 144 rfl rfl fun F => ?_
  refine r_undisk fun b2 mv1 hp => ?_
  subst hp
  refine r_seq ?_
  refine r_region ?_
  refine r_pure tabOk 1 [0, 1, 2, 3] (E' := [(0, ptr b2 0), (1, .one .str a1), (2, .one (.int .i64) a2), (3, .one .str a3)]) rfl ?_
  refine r_nil ?_
  refine r_then ?_
  refine r_seq ?_
  refine r_seq ?_
  refine r_region ?_
  refine r_pure tabOk 3 [0, 1, 2, 3, 17] (E' := [(0, ptr b2 0), (1, .one .str a1), (2, .one (.int .i64) a2), (3, .one .str a3), (17, ptr b2 5)]) rfl ?_
  refine y (y_load 0 ((.snd (.snd (.snd (.snd (.snd (.fst .here))))))) rfl rfl (by first | rfl | (simp only [Pth.off, T.size]; omega)) (ok_snd (ok_snd (ok_snd (ok_snd (ok_snd (ok_fst ok_here)))))) ty4) rfl ?_
  refine r_nil ?_
  refine r_then ?_
  refine r_if (b := a0.2.2.2.2.2.1) rfl (fun hc => ?_) (fun hc => ?_)
  · rw [if_pos hc] at h
    refine r_seq ?_
    refine r_region ?_
    refine r_pure tabOk 1 [8] (E' := [(8, .one (.int .i64) 9)]) rfl ?_
    refine r_nil ?_
    refine r_then ?_
    refine r_ret ?_
    refine t_then ?_
    refine r_disk (P := Try.prog) (I := dI) (D := a0) ?_
    obtain rfl := Option.some.inj h
    exact r_ret1 rfl (.tmp rfl) (fun _ _ g => g) (fun _ _ _ => (.cons_cons _ .slnil))
  · rw [if_neg (ne_true_of_eq_false hc)] at h
    refine r_skip ?_
    refine r_then ?_
    refine r_seq ?_
    refine r_region ?_
    refine r_pure tabOk 3 [0, 1, 2, 3, 22] (E' := [(0, ptr b2 0), (1, .one .str a1), (2, .one (.int .i64) a2), (3, .one .str a3), (22, ptr b2 1)]) rfl ?_
    refine y (y_load 0 ((.snd (.fst .here))) rfl rfl (by first | rfl | (simp only [Pth.off, T.size]; omega)) (ok_snd (ok_fst ok_here)) ty69) rfl ?_
    refine r_pure tabOk 1 [0, 1, 2, 3, 23, 24] (E' := [(0, ptr b2 0), (1, .one .str a1), (2, .one (.int .i64) a2), (3, .one .str a3), (23, .one (.raw (.map none)) mv1), (24, .one .str a1)]) rfl ?_
    refine r_perm (L' := [Res.dfiles Try.prog dI mv1 a0.2.1, Res.var b2 71 DT (a0.1, mv1, a0.2.2.1, a0.2.2.2.1, a0.2.2.2.2.1, a0.2.2.2.2.2.1, a0.2.2.2.2.2.2, ())]) ((List.perm_middle (a := Res.dfiles Try.prog dI mv1 a0.2.1) (l₁ := [Res.var b2 71 DT (a0.1, mv1, a0.2.2.1, a0.2.2.2.1, a0.2.2.2.2.1, a0.2.2.2.2.2.1, a0.2.2.2.2.2.2, ())]) (l₂ := [])).trans (.cons _ (List.Perm.refl _))) ?_
    refine r_dlook kstr rfl rfl Try.underlying69 zNV rfl fun q3 => ?_
    refine r_pure tabOk 5 [0, 1, 2, 3, 9, 10] (E' := [(0, ptr b2 0), (1, .one .str a1), (2, .one (.int .i64) a2), (3, .one .str a3), (9, .one (.raw (.pointer none)) q3), (10, .one .bool (Option.isSome (pget .str a1 a0.2.1)))]) rfl ?_
    obtain ⟨there4, hthere4, h⟩ := bnd_ex h
    rw [hthere4]
    refine r_nil ?_
    refine r_then ?_
    refine r_seq ?_
    refine r_region ?_
    refine r_pure tabOk 1 [0, 1, 2, 3, 9, 10, 11] (E' := [(0, ptr b2 0), (1, .one .str a1), (2, .one (.int .i64) a2), (3, .one .str a3), (9, .one (.raw (.pointer none)) q3), (10, .one .bool there4), (11, .one (.int .i64) 0)]) rfl ?_
    refine r_nil ?_
    refine r_then ?_
    obtain ⟨k5, hk5, h⟩ := bnd_ex h
    refine r_joink (γ := Value) (fun (o6 : Int) g7 => [(0, ptr b2 0), (1, .one .str a1), (2, .one (.int .i64) a2), (3, .one .str a3), (9, .one (.raw (.pointer none)) g7), (10, .one .bool there4), (11, .one (.int .i64) o6)]) (fun (o6 : Int) g7 => [Res.dat Try.prog dI mv1 a0.2.1 a1 g7, Res.var b2 71 DT (a0.1, mv1, a0.2.2.1, a0.2.2.2.1, a0.2.2.2.2.1, a0.2.2.2.2.2.1, a0.2.2.2.2.2.2, ())]) k5 r ?_ ?_
    · refine r_seq ?_
      refine r_region ?_
      refine r_pure tabOk 1 [0, 1, 2, 3, 9, 10, 11, 28] (E' := [(0, ptr b2 0), (1, .one .str a1), (2, .one (.int .i64) a2), (3, .one .str a3), (9, .one (.raw (.pointer none)) q3), (10, .one .bool there4), (11, .one (.int .i64) 0), (28, .one .bool there4)]) rfl ?_
      refine r_nil ?_
      refine r_then ?_
      refine r_if (b := there4) rfl (fun hc => ?_) (fun hc => ?_)
      · rw [if_pos hc] at h
        obtain ⟨f49, hf49, h⟩ := bind_ex h
        refine r_dfocus kstr hf49 fun fb50 sv51 tv52 dv53 hq => ?_
        rw [hq]
        clear hq
        refine r_region ?_
        refine r_pure tabOk 3 [0, 1, 2, 3, 9, 10, 31] (E' := [(0, ptr b2 0), (1, .one .str a1), (2, .one (.int .i64) a2), (3, .one .str a3), (9, ptr fb50 0), (10, .one .bool there4), (31, ptr fb50 0)]) rfl ?_
        refine y (y_load 0 ((.fst .here)) rfl rfl (by first | rfl | (simp only [Pth.off, T.size]; omega)) (ok_fst ok_here) tx0) rfl ?_
        refine y (y_lenown tabOk 1 rfl rfl rfl) rfl ?_
        refine r_pure tabOk 1 [0, 1, 2, 3, 9, 10, 11] (E' := [(0, ptr b2 0), (1, .one .str a1), (2, .one (.int .i64) a2), (3, .one .str a3), (9, ptr fb50 0), (10, .one .bool there4), (11, .one (.int .i64) (List.length f49.1 : Int))]) rfl ?_
        obtain ⟨size54, hsize54, h⟩ := bnd_ex h
        rw [hsize54]
        refine r_nil ?_
        refine r_then ?_
        refine r_dunfocus_same (P := Try.prog) (I := dI) kstr hf49 ?_
        refine r_less [0, 1, 2, 3, 9, 10, 11] rfl ?_
        exact r_meetk size54 (.pointer (some ⟨fb50, 0, none⟩)) h rfl rfl
      · rw [if_neg (ne_true_of_eq_false hc)] at h
        refine r_skip ?_
        refine r_then ?_
        refine r_less [0, 1, 2, 3, 9, 10, 11] rfl ?_
        exact r_meetk 0 q3 h rfl rfl
    · intro o6 g7 h
      rw [← hk5] at h
      try dsimp only at h
      refine r_seq ?_
      refine r_block ?_
      refine r_seq ?_
      refine r_region ?_
      refine r_pure tabOk 1 [0, 1, 2, 3, 9, 10, 11, 35] (E' := [(0, ptr b2 0), (1, .one .str a1), (2, .one (.int .i64) a2), (3, .one .str a3), (9, .one (.raw (.pointer none)) g7), (10, .one .bool there4), (11, .one (.int .i64) o6), (35, .one .str a1)]) rfl ?_
      obtain ⟨r8, hr8, h⟩ := bind_ex h
      refine r_calls (disk_isName_ok a1 _ hr8) (by kernel_rfl) rfl rfl ?_
      refine r_pure tabOk 2 [0, 1, 2, 3, 9, 10, 11, 38] (E' := [(0, ptr b2 0), (1, .one .str a1), (2, .one (.int .i64) a2), (3, .one .str a3), (9, .one (.raw (.pointer none)) g7), (10, .one .bool there4), (11, .one (.int .i64) o6), (38, .one .bool (!r8))]) rfl ?_
      obtain ⟨b9, hbb9, h⟩ := bnd_ex h
      rw [hbb9]
      refine r_lsplit (γ := Unit) 3 (fun _ => [(0, ptr b2 0), (1, .one .str a1), (2, .one (.int .i64) a2), (3, .one .str a3), (9, .one (.raw (.pointer none)) g7), (10, .one .bool there4), (11, .one (.int .i64) o6), (41, .one .bool (b9 || (decide (a2 < 0))))]) (fun _ => [Res.dat Try.prog dI mv1 a0.2.1 a1 g7, Res.var b2 71 DT (a0.1, mv1, a0.2.2.1, a0.2.2.2.1, a0.2.2.2.2.1, a0.2.2.2.2.2.1, a0.2.2.2.2.2.2, ())]) ?_ (fun _ => ?_)
      · clear h
        cases b9 with
        | true =>
        refine r_pure tabOk 3 [0, 1, 2, 3, 9, 10, 11, 41] (E' := [(0, ptr b2 0), (1, .one .str a1), (2, .one (.int .i64) a2), (3, .one .str a3), (9, .one (.raw (.pointer none)) g7), (10, .one .bool there4), (11, .one (.int .i64) o6), (41, .one .bool true)]) rfl ?_
        refine r_nil ?_
        refine r_then ?_
        exact r_meetg () rfl rfl
        | false =>
        refine r_pure tabOk 3 [0, 1, 2, 3, 9, 10, 11, 41] (E' := [(0, ptr b2 0), (1, .one .str a1), (2, .one (.int .i64) a2), (3, .one .str a3), (9, .one (.raw (.pointer none)) g7), (10, .one .bool there4), (11, .one (.int .i64) o6), (41, .one .bool (decide (a2 < 0)))]) rfl ?_
        refine r_nil ?_
        refine r_then ?_
        exact r_meetg () rfl rfl
      refine r_pure tabOk 1 [0, 1, 2, 3, 9, 10, 11, 42] (E' := [(0, ptr b2 0), (1, .one .str a1), (2, .one (.int .i64) a2), (3, .one .str a3), (9, .one (.raw (.pointer none)) g7), (10, .one .bool there4), (11, .one (.int .i64) o6), (42, .one .bool (b9 || (decide (a2 < 0))))]) rfl ?_
      obtain ⟨b10, hbb10, h⟩ := bnd_ex h
      rw [hbb10]
      refine r_lsplit (γ := Unit) 4 (fun _ => [(0, ptr b2 0), (1, .one .str a1), (2, .one (.int .i64) a2), (3, .one .str a3), (9, .one (.raw (.pointer none)) g7), (10, .one .bool there4), (11, .one (.int .i64) o6), (46, .one .bool (b10 || (decide (a2 > o6))))]) (fun _ => [Res.dat Try.prog dI mv1 a0.2.1 a1 g7, Res.var b2 71 DT (a0.1, mv1, a0.2.2.1, a0.2.2.2.1, a0.2.2.2.2.1, a0.2.2.2.2.2.1, a0.2.2.2.2.2.2, ())]) ?_ (fun _ => ?_)
      · clear h
        cases b10 with
        | true =>
        refine r_pure tabOk 4 [0, 1, 2, 3, 9, 10, 11, 46] (E' := [(0, ptr b2 0), (1, .one .str a1), (2, .one (.int .i64) a2), (3, .one .str a3), (9, .one (.raw (.pointer none)) g7), (10, .one .bool there4), (11, .one (.int .i64) o6), (46, .one .bool true)]) rfl ?_
        refine r_nil ?_
        refine r_then ?_
        exact r_meetg () rfl rfl
        | false =>
        refine r_pure tabOk 4 [0, 1, 2, 3, 9, 10, 11, 46] (E' := [(0, ptr b2 0), (1, .one .str a1), (2, .one (.int .i64) a2), (3, .one .str a3), (9, .one (.raw (.pointer none)) g7), (10, .one .bool there4), (11, .one (.int .i64) o6), (46, .one .bool (decide (a2 > o6)))]) rfl ?_
        refine r_nil ?_
        refine r_then ?_
        exact r_meetg () rfl rfl
      refine r_pure tabOk 1 [0, 1, 2, 3, 9, 10, 11, 34] (E' := [(0, ptr b2 0), (1, .one .str a1), (2, .one (.int .i64) a2), (3, .one .str a3), (9, .one (.raw (.pointer none)) g7), (10, .one .bool there4), (11, .one (.int .i64) o6), (34, .one .bool (b10 || (decide (a2 > o6))))]) rfl ?_
      refine r_nil ?_
      refine r_then ?_
      refine r_if (b := (b10 || (decide (a2 > o6)))) rfl (fun hc => ?_) (fun hc => ?_)
      · rw [if_pos hc] at h
        refine r_seq ?_
        refine r_region ?_
        refine r_pure tabOk 1 [8] (E' := [(8, .one (.int .i64) 1)]) rfl ?_
        refine r_nil ?_
        refine r_then ?_
        refine r_ret ?_
        refine t_block ?_
        refine t_then ?_
        refine r_imp_at (R' := Res.dfiles Try.prog dI mv1 a0.2.1) 0 rfl dat_dfiles ?_
        refine r_perm (L' := [Res.var b2 71 DT (a0.1, mv1, a0.2.2.1, a0.2.2.2.1, a0.2.2.2.2.1, a0.2.2.2.2.2.1, a0.2.2.2.2.2.2, ()), Res.dfiles Try.prog dI mv1 a0.2.1]) ((List.perm_middle (a := Res.var b2 71 DT (a0.1, mv1, a0.2.2.1, a0.2.2.2.1, a0.2.2.2.2.1, a0.2.2.2.2.2.1, a0.2.2.2.2.2.2, ())) (l₁ := [Res.dfiles Try.prog dI mv1 a0.2.1]) (l₂ := [])).trans (.cons _ (List.Perm.refl _))) ?_
        refine r_disk (P := Try.prog) (I := dI) (D := a0) ?_
        obtain rfl := Option.some.inj h
        exact r_ret1 rfl (.tmp rfl) (fun _ _ g => g) (fun _ _ _ => (.cons_cons _ .slnil))
      · rw [if_neg (ne_true_of_eq_false hc)] at h
        refine r_seq ?_
        refine r_region ?_
        refine r_pure tabOk 6 [0, 1, 2, 3, 9, 10, 11, 47] (E' := [(0, ptr b2 0), (1, .one .str a1), (2, .one (.int .i64) a2), (3, .one .str a3), (9, .one (.raw (.pointer none)) g7), (10, .one .bool there4), (11, .one (.int .i64) o6), (47, .one .bool (decide ((IntKind.wrap .i64 (a2 + (List.length a3 : Int))) > 1048576)))]) rfl ?_
        refine r_nil ?_
        refine r_then ?_
        refine r_if (b := (decide ((IntKind.wrap .i64 (a2 + (List.length a3 : Int))) > 1048576))) rfl (fun hc => ?_) (fun hc => ?_)
        · rw [if_pos hc] at h
          refine r_seq ?_
          refine r_region ?_
          refine r_pure tabOk 1 [8] (E' := [(8, .one (.int .i64) 3)]) rfl ?_
          refine r_nil ?_
          refine r_then ?_
          refine r_ret ?_
          refine t_block ?_
          refine t_then ?_
          refine r_imp_at (R' := Res.dfiles Try.prog dI mv1 a0.2.1) 0 rfl dat_dfiles ?_
          refine r_perm (L' := [Res.var b2 71 DT (a0.1, mv1, a0.2.2.1, a0.2.2.2.1, a0.2.2.2.2.1, a0.2.2.2.2.2.1, a0.2.2.2.2.2.2, ()), Res.dfiles Try.prog dI mv1 a0.2.1]) ((List.perm_middle (a := Res.var b2 71 DT (a0.1, mv1, a0.2.2.1, a0.2.2.2.1, a0.2.2.2.2.1, a0.2.2.2.2.2.1, a0.2.2.2.2.2.2, ())) (l₁ := [Res.dfiles Try.prog dI mv1 a0.2.1]) (l₂ := [])).trans (.cons _ (List.Perm.refl _))) ?_
          refine r_disk (P := Try.prog) (I := dI) (D := a0) ?_
          obtain rfl := Option.some.inj h
          exact r_ret1 rfl (.tmp rfl) (fun _ _ g => g) (fun _ _ _ => (.cons_cons _ .slnil))
        · rw [if_neg (ne_true_of_eq_false hc)] at h
          refine r_seq ?_
          refine r_region ?_
          refine r_pure tabOk 3 [0, 1, 2, 3, 9, 10, 11, 56] (E' := [(0, ptr b2 0), (1, .one .str a1), (2, .one (.int .i64) a2), (3, .one .str a3), (9, .one (.raw (.pointer none)) g7), (10, .one .bool there4), (11, .one (.int .i64) o6), (56, .one .bool (!there4))]) rfl ?_
          obtain ⟨b11, hbb11, h⟩ := bnd_ex h
          rw [hbb11]
          obtain ⟨k12, hk12, h⟩ := bnd_ex h
          refine r_lsplitk (γ := Unit) 7 (fun (o13 : Bool) _ => [(0, ptr b2 0), (1, .one .str a1), (2, .one (.int .i64) a2), (3, .one .str a3), (9, .one (.raw (.pointer none)) g7), (10, .one .bool there4), (11, .one (.int .i64) o6), (63, .one .bool o13)]) (fun _ _ => [Res.dat Try.prog dI mv1 a0.2.1 a1 g7, Res.var b2 71 DT (a0.1, mv1, a0.2.2.1, a0.2.2.2.1, a0.2.2.2.2.1, a0.2.2.2.2.2.1, a0.2.2.2.2.2.2, ())]) k12 r ?_ ?_
          · rcases Bool.eq_false_or_eq_true b11 with hh | hh
            · rw [hh] at h ⊢
              rw [if_pos rfl] at h
              refine r_pure tabOk 3 [0, 1, 2, 3, 9, 10, 11, 56, 59] (E' := [(0, ptr b2 0), (1, .one .str a1), (2, .one (.int .i64) a2), (3, .one .str a3), (9, .one (.raw (.pointer none)) g7), (10, .one .bool there4), (11, .one (.int .i64) o6), (56, .one .bool true), (59, ptr b2 1)]) rfl ?_
              refine r_guard (by rfl) rfl ?_
              refine y (y_load 1 ((.snd (.fst .here))) rfl rfl (by first | rfl | (simp only [Pth.off, T.size]; omega)) (ok_snd (ok_fst ok_here)) ty69) rfl ?_
              refine r_guard (by rfl) rfl ?_
              obtain ⟨hc, h⟩ := ite_ex h
              refine y (y_dlen kstr 0 rfl rfl Try.underlying69 hc) rfl ?_
              refine r_pure tabOk 2 [0, 1, 2, 3, 9, 10, 11, 63] (E' := [(0, ptr b2 0), (1, .one .str a1), (2, .one (.int .i64) a2), (3, .one .str a3), (9, .one (.raw (.pointer none)) g7), (10, .one .bool there4), (11, .one (.int .i64) o6), (63, .one .bool (decide ((List.length a0.2.1 : Int) ≥ 16)))]) rfl ?_
              refine r_nil ?_
              refine r_less [0, 1, 2, 3, 9, 10, 11, 63] rfl ?_
              refine r_then ?_
              exact r_meetk (decide ((List.length a0.2.1 : Int) ≥ 16)) () h rfl rfl
            · rw [hh] at h ⊢
              rw [if_neg (by decide)] at h
              refine r_pure tabOk 7 [0, 1, 2, 3, 9, 10, 11, 63] (E' := [(0, ptr b2 0), (1, .one .str a1), (2, .one (.int .i64) a2), (3, .one .str a3), (9, .one (.raw (.pointer none)) g7), (10, .one .bool there4), (11, .one (.int .i64) o6), (63, .one .bool false)]) rfl ?_
              refine r_nil ?_
              refine r_less [0, 1, 2, 3, 9, 10, 11, 63] rfl ?_
              refine r_then ?_
              exact r_meetk false () h rfl rfl
          · intro o13 _ h
            rw [← hk12] at h
            try dsimp only at h
            refine r_pure tabOk 1 [0, 1, 2, 3, 9, 10, 11, 53] (E' := [(0, ptr b2 0), (1, .one .str a1), (2, .one (.int .i64) a2), (3, .one .str a3), (9, .one (.raw (.pointer none)) g7), (10, .one .bool there4), (11, .one (.int .i64) o6), (53, .one .bool o13)]) rfl ?_
            refine r_nil ?_
            refine r_then ?_
            refine r_if (b := o13) rfl (fun hc => ?_) (fun hc => ?_)
            · rw [if_pos hc] at h
              refine r_seq ?_
              refine r_region ?_
              refine r_pure tabOk 1 [8] (E' := [(8, .one (.int .i64) 6)]) rfl ?_
              refine r_nil ?_
              refine r_then ?_
              refine r_ret ?_
              refine t_block ?_
              refine t_then ?_
              refine r_imp_at (R' := Res.dfiles Try.prog dI mv1 a0.2.1) 0 rfl dat_dfiles ?_
              refine r_perm (L' := [Res.var b2 71 DT (a0.1, mv1, a0.2.2.1, a0.2.2.2.1, a0.2.2.2.2.1, a0.2.2.2.2.2.1, a0.2.2.2.2.2.2, ()), Res.dfiles Try.prog dI mv1 a0.2.1]) ((List.perm_middle (a := Res.var b2 71 DT (a0.1, mv1, a0.2.2.1, a0.2.2.2.1, a0.2.2.2.2.1, a0.2.2.2.2.2.1, a0.2.2.2.2.2.2, ())) (l₁ := [Res.dfiles Try.prog dI mv1 a0.2.1]) (l₂ := [])).trans (.cons _ (List.Perm.refl _))) ?_
              refine r_disk (P := Try.prog) (I := dI) (D := a0) ?_
              obtain rfl := Option.some.inj h
              exact r_ret1 rfl (.tmp rfl) (fun _ _ g => g) (fun _ _ _ => (.cons_cons _ .slnil))
            · rw [if_neg (ne_true_of_eq_false hc)] at h
              refine r_seq ?_
              refine r_any (by kernel_rfl) ?_
              refine a_float (i := 0) (t := ptr b2 0) (blind_then (blind_block (blind_then blind_body))) rfl (by kernel_rfl) (by kernel_rfl) (by kernel_rfl) (y_pure tabOk rfl) rfl ?_
              refine a_float (i := 2) (t := .one (.int .i64) a2) (blind_then (blind_block (blind_then blind_body))) rfl (by kernel_rfl) (by kernel_rfl) (by kernel_rfl) (y_pure tabOk rfl) rfl ?_
              refine a_float (i := 3) (t := .one .str a3) (blind_then (blind_block (blind_then blind_body))) rfl (by kernel_rfl) (by kernel_rfl) (by kernel_rfl) (y_pure tabOk rfl) rfl ?_
              refine a_float (i := 4) (t := .one (.int .i64) (List.length a3 : Int)) (blind_then (blind_block (blind_then blind_body))) rfl (by kernel_rfl) (by kernel_rfl) (by kernel_rfl) (y_pure tabOk rfl) rfl ?_
              refine a_float (i := 5) (t := .one (.int .i64) (IntKind.wrap .i64 (a2 + (List.length a3 : Int)))) (blind_then (blind_block (blind_then blind_body))) rfl (by kernel_rfl) (by kernel_rfl) (by kernel_rfl) (y_pure tabOk rfl) rfl ?_
              refine a_float (i := 6) (t := .one (.int .i64) o6) (blind_then (blind_block (blind_then blind_body))) rfl (by kernel_rfl) (by kernel_rfl) (by kernel_rfl) (y_pure tabOk rfl) rfl ?_
              refine a_float (i := 7) (t := .one (.int .i64) (IntKind.wrap .i64 ((IntKind.wrap .i64 (a2 + (List.length a3 : Int))) - o6))) (blind_then (blind_block (blind_then blind_body))) rfl (by kernel_rfl) (by kernel_rfl) (by kernel_rfl) (y_pure tabOk rfl) rfl ?_
              refine a_float (i := 8) (t := .one (.int .i64) (max 0 (IntKind.wrap .i64 ((IntKind.wrap .i64 (a2 + (List.length a3 : Int))) - o6)))) (blind_then (blind_block (blind_then blind_body))) rfl (by kernel_rfl) (by kernel_rfl) (by kernel_rfl) (y_max rfl rfl) rfl ?_
              refine a_float (i := 10) (t := ptr b2 0) (blind_then (blind_block (blind_then blind_body))) rfl (by kernel_rfl) (by kernel_rfl) (by kernel_rfl) (y_pure tabOk rfl) rfl ?_
              refine a_two (i := 1) (j := 11) (by kernel_rfl) rfl rfl ?_ ?_
              · refine r_perm (L' := [Res.var b2 71 DT (a0.1, mv1, a0.2.2.1, a0.2.2.2.1, a0.2.2.2.2.1, a0.2.2.2.2.2.1, a0.2.2.2.2.2.2, ()), Res.dat Try.prog dI mv1 a0.2.1 a1 g7]) ((List.perm_middle (a := Res.var b2 71 DT (a0.1, mv1, a0.2.2.1, a0.2.2.2.1, a0.2.2.2.2.1, a0.2.2.2.2.2.1, a0.2.2.2.2.2.2, ())) (l₁ := [Res.dat Try.prog dI mv1 a0.2.1 a1 g7]) (l₂ := [])).trans (.cons _ (List.Perm.refl _))) ?_
                obtain ⟨r14, hr14, h⟩ := bind_ex h
                refine r_call (Lo := []) (disk_Disk_Used_ok b2 mv1 a1 g7 a0 _ hr14) (by kernel_rfl) (List.Perm.refl _) rfl rfl fun _ => ?_
                refine r_nil ?_
                refine r_then ?_
                refine r_less [0, 1, 2, 3, 9, 10, 11, 66, 73, 75] rfl ?_
                refine a_float (i := 9) (t := .one (.int .i64) (IntKind.wrap .i64 (r14 + (max 0 (IntKind.wrap .i64 ((IntKind.wrap .i64 (a2 + (List.length a3 : Int))) - o6)))))) (blind_then (blind_block (blind_then blind_body))) rfl (by kernel_rfl) (by kernel_rfl) (by kernel_rfl) (y_pure tabOk rfl) rfl ?_
                refine a_one (i := 11) (by kernel_rfl) rfl ?_
                refine r_pure tabOk 1 [0, 1, 2, 3, 9, 10, 11, 74, 76] (E' := [(0, ptr b2 0), (1, .one .str a1), (2, .one (.int .i64) a2), (3, .one .str a3), (9, .one (.raw (.pointer none)) g7), (10, .one .bool there4), (11, .one (.int .i64) o6), (74, .one (.int .i64) (IntKind.wrap .i64 (r14 + (max 0 (IntKind.wrap .i64 ((IntKind.wrap .i64 (a2 + (List.length a3 : Int))) - o6)))))), (76, ptr b2 0)]) rfl ?_
                refine r_nil ?_
                refine r_then ?_
                refine r_less [0, 1, 2, 3, 9, 10, 11, 74, 76] rfl ?_
                refine a_float (i := 12) (t := ptr b2 0) (blind_then (blind_block (blind_then blind_body))) rfl (by kernel_rfl) (by kernel_rfl) (by kernel_rfl) (y_pure tabOk rfl) rfl ?_
                refine a_one (i := 13) (by kernel_rfl) rfl ?_
                refine y (y_load 0 ((.fst .here)) rfl rfl (by first | rfl | (simp only [Pth.off, T.size]; omega)) (ok_fst ok_here) ty3) rfl ?_
                refine r_nil ?_
                refine r_then ?_
                refine r_less [0, 1, 2, 3, 9, 10, 11, 74, 78] rfl ?_
                refine a_float (i := 14) (t := .one .bool (decide ((IntKind.wrap .i64 (r14 + (max 0 (IntKind.wrap .i64 ((IntKind.wrap .i64 (a2 + (List.length a3 : Int))) - o6))))) > a0.1))) (blind_then (blind_block (blind_then blind_body))) rfl (by kernel_rfl) (by kernel_rfl) (by kernel_rfl) (y_pure tabOk rfl) rfl ?_
                refine a_float (i := 15) (t := .one .bool (decide ((IntKind.wrap .i64 (r14 + (max 0 (IntKind.wrap .i64 ((IntKind.wrap .i64 (a2 + (List.length a3 : Int))) - o6))))) > a0.1))) (blind_then (blind_block (blind_then blind_body))) rfl (by kernel_rfl) (by kernel_rfl) (by kernel_rfl) (y_pure tabOk rfl) rfl ?_
                refine a_end (by kernel_rfl) ?_
                refine r_then ?_
                refine r_if (b := (decide ((IntKind.wrap .i64 (r14 + (max 0 (IntKind.wrap .i64 ((IntKind.wrap .i64 (a2 + (List.length a3 : Int))) - o6))))) > a0.1))) rfl (fun hc => ?_) (fun hc => ?_)
                · rw [if_pos hc] at h
                  refine r_seq ?_
                  refine r_region ?_
                  refine r_pure tabOk 1 [8] (E' := [(8, .one (.int .i64) 41)]) rfl ?_
                  refine r_nil ?_
                  refine r_then ?_
                  refine r_ret ?_
                  refine t_block ?_
                  refine t_then ?_
                  refine r_imp_at (R' := Res.dfiles Try.prog dI mv1 a0.2.1) 1 rfl dat_dfiles ?_
                  refine r_disk (P := Try.prog) (I := dI) (D := a0) ?_
                  obtain rfl := Option.some.inj h
                  exact r_ret1 rfl (.tmp rfl) (fun _ _ g => g) (fun _ _ _ => (.cons_cons _ .slnil))
                · rw [if_neg (ne_true_of_eq_false hc)] at h
                  refine r_skip ?_
                  refine r_inblock ?_
                  refine r_then ?_
                  refine r_seq ?_
                  refine r_seq ?_
                  refine r_region ?_
                  refine r_pure tabOk 1 [0, 1, 2, 3, 9, 10, 11, 80] (E' := [(0, ptr b2 0), (1, .one .str a1), (2, .one (.int .i64) a2), (3, .one .str a3), (9, .one (.raw (.pointer none)) g7), (10, .one .bool there4), (11, .one (.int .i64) o6), (80, ptr b2 0)]) rfl ?_
                  obtain ⟨r15, hr15, h⟩ := bind_ex h
                  refine r_call (Lo := [Res.dat Try.prog dI mv1 a0.2.1 a1 g7]) (disk_Disk_counted_ok b2 mv1 a0 1 _ hr15) (by kernel_rfl) (List.Perm.refl _) rfl rfl fun _ => ?_
                  refine r_pure tabOk 1 [0, 1, 2, 3, 9, 10, 11, 12] (E' := [(0, ptr b2 0), (1, .one .str a1), (2, .one (.int .i64) a2), (3, .one .str a3), (9, .one (.raw (.pointer none)) g7), (10, .one .bool there4), (11, .one (.int .i64) o6), (12, .one (.int .i64) r15.1)]) rfl ?_
                  refine r_nil ?_
                  refine r_then ?_
                  refine r_seq ?_
                  refine r_region ?_
                  refine r_pure tabOk 2 [0, 1, 2, 3, 9, 10, 11, 12, 83] (E' := [(0, ptr b2 0), (1, .one .str a1), (2, .one (.int .i64) a2), (3, .one .str a3), (9, .one (.raw (.pointer none)) g7), (10, .one .bool there4), (11, .one (.int .i64) o6), (12, .one (.int .i64) r15.1), (83, .one .bool (r15.1 != 0))]) rfl ?_
                  refine r_nil ?_
                  refine r_then ?_
                  refine r_if (b := (r15.1 != 0)) rfl (fun hc => ?_) (fun hc => ?_)
                  · rw [if_pos hc] at h
                    refine r_seq ?_
                    refine r_region ?_
                    refine r_pure tabOk 2 [8] (E' := [(8, .one (.int .i64) r15.1)]) rfl ?_
                    refine r_nil ?_
                    refine r_then ?_
                    refine r_ret ?_
                    refine t_then ?_
                    refine r_imp_at (R' := Res.dfiles Try.prog dI mv1 a0.2.1) 1 rfl dat_dfiles ?_
                    refine r_disk (P := Try.prog) (I := dI) (D := (r15.2.1, a0.2.1, r15.2.2.2.1, r15.2.2.2.2.1, r15.2.2.2.2.2.1, r15.2.2.2.2.2.2.1, r15.2.2.2.2.2.2.2)) ?_
                    obtain rfl := Option.some.inj h
                    exact r_ret1 rfl (.tmp rfl) (fun _ _ g => g) (fun _ _ _ => (.cons_cons _ .slnil))
                  · rw [if_neg (ne_true_of_eq_false hc)] at h
                    refine r_skip ?_
                    refine r_then ?_
                    obtain ⟨k16, hk16, h⟩ := bnd_ex h
                    refine r_joink (γ := Value) (fun (o17 : (List (List Int × FileS))) g18 => [(2, .one (.int .i64) a2), (3, .one .str a3), (9, .one (.raw (.pointer none)) g18), (11, .one (.int .i64) o6)]) (fun (o17 : (List (List Int × FileS))) g18 => [Res.dat Try.prog dI mv1 o17 a1 g18, Res.var b2 71 DT (r15.2.1, mv1, r15.2.2.2.1, r15.2.2.2.2.1, r15.2.2.2.2.2.1, r15.2.2.2.2.2.2.1, r15.2.2.2.2.2.2.2, ())]) k16 r ?_ ?_
                    · refine r_seq ?_
                      refine r_region ?_
                      refine r_pure tabOk 2 [0, 1, 2, 3, 9, 11, 86] (E' := [(0, ptr b2 0), (1, .one .str a1), (2, .one (.int .i64) a2), (3, .one .str a3), (9, .one (.raw (.pointer none)) g7), (11, .one (.int .i64) o6), (86, .one .bool (!there4))]) rfl ?_
                      refine r_nil ?_
                      refine r_then ?_
                      refine r_if (b := (!there4)) rfl (fun hc => ?_) (fun hc => ?_)
                      · rw [if_pos hc] at h
                        refine r_seq ?_
                        refine r_region ?_
                        refine r_makeMap 3 (.int .i64) (.int .i64) rfl fun v47 => ?_
                        refine r_redirty (P := Try.prog) (I := dI) (keys := []) 0 rfl rfl ?_
                        refine y (y_build rfl zf81 rfl rfl (.cons ((.snd (.snd (.fst .here)))) rfl rfl (ok_snd (ok_snd (ok_fst ok_here))) .nil)) rfl ?_
                        refine r_box rfl rfl fun b48 => ?_
                        refine r_nilown (.slice none 0 0) rfl 5 (.int .u8) ?_
                        refine r_nilown (.slice none 0 0) rfl 5 (.int .u8) ?_
                        refine r_pure tabOk 1 [0, 1, 2, 3, 9, 11] (E' := [(0, ptr b2 0), (1, .one .str a1), (2, .one (.int .i64) a2), (3, .one .str a3), (9, ptr b48 0), (11, .one (.int .i64) o6)]) rfl ?_
                        refine r_nil ?_
                        refine r_then ?_
                        refine r_region ?_
                        refine r_pure tabOk 3 [1, 2, 3, 9, 11, 92] (E' := [(1, .one .str a1), (2, .one (.int .i64) a2), (3, .one .str a3), (9, ptr b48 0), (11, .one (.int .i64) o6), (92, ptr b2 1)]) rfl ?_
                        refine y (y_load 4 ((.snd (.fst .here))) rfl rfl (by first | rfl | (simp only [Pth.off, T.size]; omega)) (ok_snd (ok_fst ok_here)) ty69) rfl ?_
                        refine r_pure tabOk 2 [2, 3, 9, 11, 93, 94, 95] (E' := [(2, .one (.int .i64) a2), (3, .one .str a3), (9, ptr b48 0), (11, .one (.int .i64) o6), (93, .one (.raw (.map none)) mv1), (94, .one .str a1), (95, ptr b48 0)]) rfl ?_
                        refine r_imp_at (R' := Res.dfiles Try.prog dI mv1 a0.2.1) 5 rfl dat_dfiles ?_
                        obtain ⟨hc, h⟩ := ite_ex h
                        refine r_perm (L' := [Res.var b48 81 FT ((.slice none 0 0), (.slice none 0 0), v47, ()), Res.own (.slice none 0 0) 5 (.int .u8) [], Res.own (.slice none 0 0) 5 (.int .u8) [], Res.dirty Try.prog dI v47 [], Res.dfiles Try.prog dI mv1 a0.2.1, Res.var b2 71 DT (r15.2.1, mv1, r15.2.2.2.1, r15.2.2.2.2.1, r15.2.2.2.2.2.1, r15.2.2.2.2.2.2.1, r15.2.2.2.2.2.2.2, ())]) ((List.perm_middle (a := Res.var b48 81 FT ((.slice none 0 0), (.slice none 0 0), v47, ())) (l₁ := [Res.own (.slice none 0 0) 5 (.int .u8) [], Res.own (.slice none 0 0) 5 (.int .u8) []]) (l₂ := [Res.dirty Try.prog dI v47 [], Res.var b2 71 DT (r15.2.1, mv1, r15.2.2.2.1, r15.2.2.2.2.1, r15.2.2.2.2.2.1, r15.2.2.2.2.2.2.1, r15.2.2.2.2.2.2.2, ()), Res.dfiles Try.prog dI mv1 a0.2.1])).trans (.cons _ ((List.perm_middle (a := Res.own (.slice none 0 0) 5 (.int .u8) []) (l₁ := []) (l₂ := [Res.own (.slice none 0 0) 5 (.int .u8) [], Res.dirty Try.prog dI v47 [], Res.var b2 71 DT (r15.2.1, mv1, r15.2.2.2.1, r15.2.2.2.2.1, r15.2.2.2.2.2.1, r15.2.2.2.2.2.2.1, r15.2.2.2.2.2.2.2, ()), Res.dfiles Try.prog dI mv1 a0.2.1])).trans (.cons _ ((List.perm_middle (a := Res.own (.slice none 0 0) 5 (.int .u8) []) (l₁ := []) (l₂ := [Res.dirty Try.prog dI v47 [], Res.var b2 71 DT (r15.2.1, mv1, r15.2.2.2.1, r15.2.2.2.2.1, r15.2.2.2.2.2.1, r15.2.2.2.2.2.2.1, r15.2.2.2.2.2.2.2, ()), Res.dfiles Try.prog dI mv1 a0.2.1])).trans (.cons _ ((List.perm_middle (a := Res.dirty Try.prog dI v47 []) (l₁ := []) (l₂ := [Res.var b2 71 DT (r15.2.1, mv1, r15.2.2.2.1, r15.2.2.2.2.1, r15.2.2.2.2.2.1, r15.2.2.2.2.2.2.1, r15.2.2.2.2.2.2.2, ()), Res.dfiles Try.prog dI mv1 a0.2.1])).trans (.cons _ ((List.perm_middle (a := Res.dfiles Try.prog dI mv1 a0.2.1) (l₁ := [Res.var b2 71 DT (r15.2.1, mv1, r15.2.2.2.1, r15.2.2.2.2.1, r15.2.2.2.2.2.1, r15.2.2.2.2.2.2.1, r15.2.2.2.2.2.2.2, ())]) (l₂ := [])).trans (.cons _ (List.Perm.refl _))))))))))) ?_
                        refine r_dinsert (P := Try.prog) (I := dI) kstr rfl rfl rfl Try.underlying69 hc ?_
                        refine r_nil ?_
                        refine r_then ?_
                        refine r_less [2, 3, 9, 11] rfl ?_
                        exact r_meetk (pput .str a1 ([], [], []) a0.2.1) (.pointer (some ⟨b48, 0, none⟩)) h rfl rfl
                      · rw [if_neg (ne_true_of_eq_false hc)] at h
                        refine r_skip ?_
                        refine r_then ?_
                        refine r_less [2, 3, 9, 11] rfl ?_
                        refine r_perm (L' := [Res.dat Try.prog dI mv1 a0.2.1 a1 g7, Res.var b2 71 DT (r15.2.1, mv1, r15.2.2.2.1, r15.2.2.2.2.1, r15.2.2.2.2.2.1, r15.2.2.2.2.2.2.1, r15.2.2.2.2.2.2.2, ())]) ((List.perm_middle (a := Res.dat Try.prog dI mv1 a0.2.1 a1 g7) (l₁ := [Res.var b2 71 DT (r15.2.1, mv1, r15.2.2.2.1, r15.2.2.2.2.1, r15.2.2.2.2.2.1, r15.2.2.2.2.2.2.1, r15.2.2.2.2.2.2.2, ())]) (l₂ := [])).trans (.cons _ (List.Perm.refl _))) ?_
                        exact r_meetk a0.2.1 g7 h rfl rfl
                    · intro o17 g18 h
                      rw [← hk16] at h
                      try dsimp only at h
                      obtain ⟨k19, hk19, h⟩ := bnd_ex h
                      refine r_joink (γ := Value) (fun (o20 : (List (List Int × FileS))) g21 => [(2, .one (.int .i64) a2), (3, .one .str a3), (9, .one (.raw (.pointer none)) g21)]) (fun (o20 : (List (List Int × FileS))) g21 => [Res.dat Try.prog dI mv1 o20 a1 g21, Res.var b2 71 DT (r15.2.1, mv1, r15.2.2.2.1, r15.2.2.2.2.1, r15.2.2.2.2.2.1, r15.2.2.2.2.2.2.1, r15.2.2.2.2.2.2.2, ())]) k19 r ?_ ?_
                      · refine r_seq ?_
                        refine r_region ?_
                        refine r_pure tabOk 5 [2, 3, 9, 11, 13] (E' := [(2, .one (.int .i64) a2), (3, .one .str a3), (9, .one (.raw (.pointer none)) g18), (11, .one (.int .i64) o6), (13, .one (.int .i64) (IntKind.wrap .i64 (a2 + (List.length a3 : Int))))]) rfl ?_
                        obtain ⟨end40, hend40, h⟩ := bnd_ex h
                        rw [hend40]
                        refine r_nil ?_
                        refine r_then ?_
                        refine r_seq ?_
                        refine r_region ?_
                        refine r_pure tabOk 3 [2, 3, 9, 11, 13, 102] (E' := [(2, .one (.int .i64) a2), (3, .one .str a3), (9, .one (.raw (.pointer none)) g18), (11, .one (.int .i64) o6), (13, .one (.int .i64) end40), (102, .one .bool (decide (end40 > o6)))]) rfl ?_
                        refine r_nil ?_
                        refine r_then ?_
                        refine r_if (b := (decide (end40 > o6))) rfl (fun hc => ?_) (fun hc => ?_)
                        · rw [if_pos hc] at h
                          obtain ⟨f41, hf41, h⟩ := bind_ex h
                          refine r_dfocus kstr hf41 fun fb42 sv43 tv44 dv45 hq => ?_
                          rw [hq]
                          clear hq
                          refine r_region ?_
                          refine r_pure tabOk 4 [2, 3, 9, 11, 13, 103, 106] (E' := [(2, .one (.int .i64) a2), (3, .one .str a3), (9, ptr fb42 0), (11, .one (.int .i64) o6), (13, .one (.int .i64) end40), (103, ptr fb42 0), (106, ptr fb42 0)]) rfl ?_
                          refine y (y_load 0 ((.fst .here)) rfl rfl (by first | rfl | (simp only [Pth.off, T.size]; omega)) (ok_fst ok_here) tx0) rfl ?_
                          refine r_pure tabOk 3 [2, 3, 9, 103, 107, 110] (E' := [(2, .one (.int .i64) a2), (3, .one .str a3), (9, ptr fb42 0), (103, ptr fb42 0), (107, .one (.raw (.slice none 0 0)) sv43), (110, .one (.int .i64) (IntKind.wrap .i64 (end40 - o6)))]) rfl ?_
                          obtain ⟨hc, h⟩ := ite_ex h
                          refine r_appendn tabOk zf5 1 rfl rfl rfl hc.1 rfl el5 Try.underlying3 hc.2 rfl fun v46 => ?_
                          refine r_pure tabOk 2 [2, 3, 9, 111, 113] (E' := [(2, .one (.int .i64) a2), (3, .one .str a3), (9, ptr fb42 0), (111, .one (.raw (.slice none 0 0)) v46), (113, ptr fb42 0)]) rfl ?_
                          refine r_store 0 ((.fst .here)) rfl rfl rfl (by first | rfl | (simp only [Pth.off, T.size]; omega)) (ok_fst ok_here) tx0 ?_
                          refine r_nil ?_
                          refine r_then ?_
                          refine r_dunfocus (P := Try.prog) (I := dI) kstr ?_
                          refine r_less [2, 3, 9] rfl ?_
                          exact r_meetk (pset .str a1 ((f41.1 ++ List.replicate (Int.toNat (IntKind.wrap .i64 (end40 - o6))) 0), f41.2.1, f41.2.2) o17) (.pointer (some ⟨fb42, 0, none⟩)) h rfl rfl
                        · rw [if_neg (ne_true_of_eq_false hc)] at h
                          refine r_skip ?_
                          refine r_then ?_
                          refine r_less [2, 3, 9] rfl ?_
                          exact r_meetk o17 g18 h rfl rfl
                      · intro o20 g21 h
                        rw [← hk19] at h
                        try dsimp only at h
                        refine r_seq ?_
                        obtain ⟨f22, hf22, h⟩ := bind_ex h
                        refine r_dfocus kstr hf22 fun fb23 sv24 tv25 dv26 hq => ?_
                        rw [hq]
                        clear hq
                        refine r_region ?_
                        refine r_pure tabOk 3 [2, 3, 9, 116] (E' := [(2, .one (.int .i64) a2), (3, .one .str a3), (9, ptr fb23 0), (116, ptr fb23 0)]) rfl ?_
                        refine y (y_load 0 ((.fst .here)) rfl rfl (by first | rfl | (simp only [Pth.off, T.size]; omega)) (ok_fst ok_here) tx0) rfl ?_
                        refine r_pure tabOk 1 [2, 3, 9, 117, 118] (E' := [(2, .one (.int .i64) a2), (3, .one .str a3), (9, ptr fb23 0), (117, .one (.raw (.slice none 0 0)) sv24), (118, .one (.int .i64) a2)]) rfl ?_
                        obtain ⟨hs27, h⟩ := ite_ex h
                        refine y (y_osub tabOk (i := a2) (j := (List.length f22.1 : Int)) rfl (sub_own 1 rfl) rfl rfl hs27.1 hs27.2.1 hs27.2.2 rfl ty5) rfl ?_
                        refine r_pure tabOk 1 [2, 3, 9, 119, 120] (E' := [(2, .one (.int .i64) a2), (3, .one .str a3), (9, ptr fb23 0), (119, .one (.raw (.slice none 0 0)) (subv (T.size (.int .u8)) sv24 (Int.toNat a2) (Int.toNat (List.length f22.1 : Int)))), (120, .one .str a3)]) rfl ?_
                        refine r_copyo tabOk 1 (i := (Int.toNat a2)) rfl rfl rfl (by have := hs27.2.1; omega) rfl ty5 rfl fun m28 => ?_
                        refine r_nil ?_
                        refine r_then ?_
                        obtain ⟨k29, hk29, h⟩ := bnd_ex h
                        refine r_joink (γ := Unit) (fun (o30 : List Int) _ => []) (fun (o30 : List Int) _ => [Res.var fb23 81 FT (sv24, tv25, dv26, ()), Res.own sv24 5 (.int .u8) (laidOver f22.1 (Int.toNat a2) a3), Res.own tv25 5 (.int .u8) f22.2.1, Res.dirty Try.prog dI dv26 o30, Res.dhole Try.prog dI mv1 o20 a1 (.pointer (some ⟨fb23, 0, none⟩)), Res.var b2 71 DT (r15.2.1, mv1, r15.2.2.2.1, r15.2.2.2.2.1, r15.2.2.2.2.2.1, r15.2.2.2.2.2.2.1, r15.2.2.2.2.2.2.2, ())]) k29 r ?_ ?_
                        · refine r_seq ?_
                          refine r_region ?_
                          refine r_pure tabOk 3 [2, 3, 9, 14] (E' := [(2, .one (.int .i64) a2), (3, .one .str a3), (9, ptr fb23 0), (14, .one (.int .i64) (IntKind.wrap .i64 (Int.tdiv a2 64)))]) rfl ?_
                          obtain ⟨s31, hs31, h⟩ := bnd_ex h
                          rw [hs31]
                          refine r_nil ?_
                          refine r_then ?_
                          refine r_block ?_
                          refine r_less [2, 3, 9, 14] rfl ?_
                          refine r_loopg (γ := Unit) (fun (s34 : Int × List Int) _ => [(2, .one (.int .i64) a2), (3, .one .str a3), (9, ptr fb23 0), (14, .one (.int .i64) s34.1)]) (fun (s34 : Int × List Int) _ => [Res.var fb23 81 FT (sv24, tv25, dv26, ()), Res.own sv24 5 (.int .u8) (laidOver f22.1 (Int.toNat a2) a3), Res.own tv25 5 (.int .u8) f22.2.1, Res.dirty Try.prog dI dv26 s34.2, Res.dhole Try.prog dI mv1 o20 a1 (.pointer (some ⟨fb23, 0, none⟩)), Res.var b2 71 DT (r15.2.1, mv1, r15.2.2.2.1, r15.2.2.2.2.1, r15.2.2.2.2.2.1, r15.2.2.2.2.2.2.1, r15.2.2.2.2.2.2.2, ())]) (disk_Disk_Write_l0 a2 a3 k29) (s31, f22.2.2) () h rfl rfl ?_
                          clear h
                          intro m35 s34 gg h
                          cases m35 with
                          | zero => cases h
                          | succ m35 =>
                          simp only [disk_Disk_Write_l0] at h
                          refine r_seq ?_
                          refine r_seq ?_
                          refine r_region ?_
                          refine r_pure tabOk 7 [2, 3, 9, 14, 130] (E' := [(2, .one (.int .i64) a2), (3, .one .str a3), (9, ptr fb23 0), (14, .one (.int .i64) s34.1), (130, .one .bool (decide ((IntKind.wrap .i64 (s34.1 * 64)) < (IntKind.wrap .i64 (a2 + (List.length a3 : Int))))))]) rfl ?_
                          obtain ⟨t36, ht36, h⟩ := bnd_ex h
                          rw [ht36]
                          refine r_pure tabOk 1 [2, 3, 9, 14, 131] (E' := [(2, .one (.int .i64) a2), (3, .one .str a3), (9, ptr fb23 0), (14, .one (.int .i64) s34.1), (131, .one .bool t36)]) rfl ?_
                          refine r_lsplit (γ := Unit) 3 (fun _ => [(2, .one (.int .i64) a2), (3, .one .str a3), (9, ptr fb23 0), (14, .one (.int .i64) s34.1), (134, .one .bool (t36 && (a3 != [])))]) (fun _ => [Res.var fb23 81 FT (sv24, tv25, dv26, ()), Res.own sv24 5 (.int .u8) (laidOver f22.1 (Int.toNat a2) a3), Res.own tv25 5 (.int .u8) f22.2.1, Res.dirty Try.prog dI dv26 s34.2, Res.dhole Try.prog dI mv1 o20 a1 (.pointer (some ⟨fb23, 0, none⟩)), Res.var b2 71 DT (r15.2.1, mv1, r15.2.2.2.1, r15.2.2.2.2.1, r15.2.2.2.2.2.1, r15.2.2.2.2.2.2.1, r15.2.2.2.2.2.2.2, ())]) ?_ (fun _ => ?_)
                          · clear h
                            rcases Bool.eq_false_or_eq_true t36 with hh | hh
                            · rw [hh]
                              refine r_pure tabOk 3 [2, 3, 9, 14, 134] (E' := [(2, .one (.int .i64) a2), (3, .one .str a3), (9, ptr fb23 0), (14, .one (.int .i64) s34.1), (134, .one .bool (a3 != []))]) rfl ?_
                              refine r_nil ?_
                              refine r_then ?_
                              exact r_meetg () rfl rfl
                            · rw [hh]
                              refine r_pure tabOk 3 [2, 3, 9, 14, 134] (E' := [(2, .one (.int .i64) a2), (3, .one .str a3), (9, ptr fb23 0), (14, .one (.int .i64) s34.1), (134, .one .bool false)]) rfl ?_
                              refine r_nil ?_
                              refine r_then ?_
                              exact r_meetg () rfl rfl
                          refine r_nil ?_
                          refine r_then ?_
                          refine r_if (b := (t36 && (a3 != []))) rfl (fun hc => ?_) (fun hc => ?_)
                          · rw [if_pos hc] at h
                            refine r_skip ?_
                            refine r_then ?_
                            refine r_seq ?_
                            refine r_block ?_
                            refine r_region ?_
                            refine r_pure tabOk 3 [2, 3, 9, 14, 139] (E' := [(2, .one (.int .i64) a2), (3, .one .str a3), (9, ptr fb23 0), (14, .one (.int .i64) s34.1), (139, ptr fb23 2)]) rfl ?_
                            refine y (y_load 0 ((.snd (.snd (.fst .here)))) rfl rfl (by first | rfl | (simp only [Pth.off, T.size]; omega)) (ok_snd (ok_snd (ok_fst ok_here))) ty79) rfl ?_
                            refine r_pure tabOk 1 [2, 3, 9, 14, 140, 141] (E' := [(2, .one (.int .i64) a2), (3, .one .str a3), (9, ptr fb23 0), (14, .one (.int .i64) s34.1), (140, .one (.raw (.map none)) dv26), (141, .one (.int .i64) s34.1)]) rfl ?_
                            refine r_undirty 3 rfl fun l38 hl38 => ?_
                            refine y (y_look 3 rfl rfl rfl kint Try.underlying79 zf3 rfl) rfl ?_
                            refine r_pure tabOk 1 [2, 3, 9, 14, 140, 141, 143] (E' := [(2, .one (.int .i64) a2), (3, .one .str a3), (9, ptr fb23 0), (14, .one (.int .i64) s34.1), (140, .one (.raw (.map none)) dv26), (141, .one (.int .i64) s34.1), (143, .one (.int .i64) (IntKind.wrap .i64 (((pget (.int .i64) s34.1 l38).getD 0) + 1)))]) rfl ?_
                            obtain ⟨hc, h⟩ := ite_ex h
                            refine r_mapUpdate 3 rfl rfl rfl rfl kint Try.underlying79 (by rw [← hl38, List.length_map] at hc; exact hc) ?_
                            refine r_redirty (P := Try.prog) (I := dI) (keys := kput s34.1 s34.2) 3 rfl (by rw [kput_keys, hl38]) ?_
                            refine r_nil ?_
                            refine r_inblock ?_
                            refine r_then ?_
                            refine r_region ?_
                            refine r_pure tabOk 3 [2, 3, 9, 14] (E' := [(2, .one (.int .i64) a2), (3, .one .str a3), (9, ptr fb23 0), (14, .one (.int .i64) (IntKind.wrap .i64 (s34.1 + 1)))]) rfl ?_
                            obtain ⟨s39, hs39, h⟩ := bnd_ex h
                            rw [hs39]
                            refine r_nil ?_
                            refine r_then ?_
                            refine r_less [2, 3, 9, 14] rfl ?_
                            exact r_backg (s39, (kput s34.1 s34.2)) () (Nat.lt_succ_self _) h rfl rfl
                          · rw [if_neg (ne_true_of_eq_false hc)] at h
                            refine r_exit ?_
                            refine e_then ?_
                            refine e_then ?_
                            refine e_eq ?_
                            refine r_then ?_
                            refine r_less [] rfl ?_
                            exact r_meetk s34.2 () h rfl rfl
                        · intro o30 gg h
                          rw [← hk29] at h
                          try dsimp only at h
                          refine r_seq ?_
                          refine r_region ?_
                          refine r_pure tabOk 1 [8] (E' := [(8, .one (.int .i64) 0)]) rfl ?_
                          refine r_nil ?_
                          refine r_then ?_
                          refine r_ret ?_
                          refine r_dunfocus (P := Try.prog) (I := dI) kstr ?_
                          refine r_imp_at (R' := Res.dfiles Try.prog dI mv1 (pset .str a1 ((laidOver f22.1 (Int.toNat a2) a3), f22.2.1, o30) o20)) 0 rfl dat_dfiles ?_
                          refine r_perm (L' := [Res.var b2 71 DT (r15.2.1, mv1, r15.2.2.2.1, r15.2.2.2.2.1, r15.2.2.2.2.2.1, r15.2.2.2.2.2.2.1, r15.2.2.2.2.2.2.2, ()), Res.dfiles Try.prog dI mv1 (pset .str a1 ((laidOver f22.1 (Int.toNat a2) a3), f22.2.1, o30) o20)]) ((List.perm_middle (a := Res.var b2 71 DT (r15.2.1, mv1, r15.2.2.2.1, r15.2.2.2.2.1, r15.2.2.2.2.2.1, r15.2.2.2.2.2.2.1, r15.2.2.2.2.2.2.2, ())) (l₁ := [Res.dfiles Try.prog dI mv1 (pset .str a1 ((laidOver f22.1 (Int.toNat a2) a3), f22.2.1, o30) o20)]) (l₂ := [])).trans (.cons _ (List.Perm.refl _))) ?_
                          refine r_disk (P := Try.prog) (I := dI) (D := (r15.2.1, (pset .str a1 ((laidOver f22.1 (Int.toNat a2) a3), f22.2.1, o30) o20), r15.2.2.2.1, r15.2.2.2.2.1, r15.2.2.2.2.2.1, r15.2.2.2.2.2.2.1, r15.2.2.2.2.2.2.2)) ?_
                          obtain rfl := Option.some.inj h
                          exact r_ret1 rfl (.tmp rfl) (fun _ _ g => g) (fun _ _ _ => (.cons_cons _ .slnil))
              · refine r_pure tabOk 1 [0, 1, 2, 3, 9, 10, 11, 65, 73, 76] (E' := [(0, ptr b2 0), (1, .one .str a1), (2, .one (.int .i64) a2), (3, .one .str a3), (9, .one (.raw (.pointer none)) g7), (10, .one .bool there4), (11, .one (.int .i64) o6), (65, ptr b2 0), (73, .one (.int .i64) (max 0 (IntKind.wrap .i64 ((IntKind.wrap .i64 (a2 + (List.length a3 : Int))) - o6)))), (76, ptr b2 0)]) rfl ?_
                refine r_nil ?_
                refine r_then ?_
                refine r_less [0, 1, 2, 3, 9, 10, 11, 65, 73, 76] rfl ?_
                refine a_float (i := 12) (t := ptr b2 0) (blind_then (blind_block (blind_then blind_body))) rfl (by kernel_rfl) (by kernel_rfl) (by kernel_rfl) (y_pure tabOk rfl) rfl ?_
                refine a_two (i := 1) (j := 13) (by kernel_rfl) rfl rfl ?_ ?_
                · refine r_perm (L' := [Res.var b2 71 DT (a0.1, mv1, a0.2.2.1, a0.2.2.2.1, a0.2.2.2.2.1, a0.2.2.2.2.2.1, a0.2.2.2.2.2.2, ()), Res.dat Try.prog dI mv1 a0.2.1 a1 g7]) ((List.perm_middle (a := Res.var b2 71 DT (a0.1, mv1, a0.2.2.1, a0.2.2.2.1, a0.2.2.2.2.1, a0.2.2.2.2.2.1, a0.2.2.2.2.2.2, ())) (l₁ := [Res.dat Try.prog dI mv1 a0.2.1 a1 g7]) (l₂ := [])).trans (.cons _ (List.Perm.refl _))) ?_
                  obtain ⟨r14, hr14, h⟩ := bind_ex h
                  refine r_call (Lo := []) (disk_Disk_Used_ok b2 mv1 a1 g7 a0 _ hr14) (by kernel_rfl) (List.Perm.refl _) rfl rfl fun _ => ?_
                  refine r_nil ?_
                  refine r_then ?_
                  refine r_less [0, 1, 2, 3, 9, 10, 11, 66, 73, 77] rfl ?_
                  refine a_float (i := 9) (t := .one (.int .i64) (IntKind.wrap .i64 (r14 + (max 0 (IntKind.wrap .i64 ((IntKind.wrap .i64 (a2 + (List.length a3 : Int))) - o6)))))) (blind_then (blind_block (blind_then blind_body))) rfl (by kernel_rfl) (by kernel_rfl) (by kernel_rfl) (y_pure tabOk rfl) rfl ?_
                  refine a_one (i := 13) (by kernel_rfl) rfl ?_
                  refine y (y_load 0 ((.fst .here)) rfl rfl (by first | rfl | (simp only [Pth.off, T.size]; omega)) (ok_fst ok_here) ty3) rfl ?_
                  refine r_nil ?_
                  refine r_then ?_
                  refine r_less [0, 1, 2, 3, 9, 10, 11, 74, 78] rfl ?_
                  refine a_float (i := 14) (t := .one .bool (decide ((IntKind.wrap .i64 (r14 + (max 0 (IntKind.wrap .i64 ((IntKind.wrap .i64 (a2 + (List.length a3 : Int))) - o6))))) > a0.1))) (blind_then (blind_block (blind_then blind_body))) rfl (by kernel_rfl) (by kernel_rfl) (by kernel_rfl) (y_pure tabOk rfl) rfl ?_
                  refine a_float (i := 15) (t := .one .bool (decide ((IntKind.wrap .i64 (r14 + (max 0 (IntKind.wrap .i64 ((IntKind.wrap .i64 (a2 + (List.length a3 : Int))) - o6))))) > a0.1))) (blind_then (blind_block (blind_then blind_body))) rfl (by kernel_rfl) (by kernel_rfl) (by kernel_rfl) (y_pure tabOk rfl) rfl ?_
                  refine a_end (by kernel_rfl) ?_
                  refine r_then ?_
                  refine r_if (b := (decide ((IntKind.wrap .i64 (r14 + (max 0 (IntKind.wrap .i64 ((IntKind.wrap .i64 (a2 + (List.length a3 : Int))) - o6))))) > a0.1))) rfl (fun hc => ?_) (fun hc => ?_)
                  · rw [if_pos hc] at h
                    refine r_seq ?_
                    refine r_region ?_
                    refine r_pure tabOk 1 [8] (E' := [(8, .one (.int .i64) 41)]) rfl ?_
                    refine r_nil ?_
                    refine r_then ?_
                    refine r_ret ?_
                    refine t_block ?_
                    refine t_then ?_
                    refine r_imp_at (R' := Res.dfiles Try.prog dI mv1 a0.2.1) 1 rfl dat_dfiles ?_
                    refine r_disk (P := Try.prog) (I := dI) (D := a0) ?_
                    obtain rfl := Option.some.inj h
                    exact r_ret1 rfl (.tmp rfl) (fun _ _ g => g) (fun _ _ _ => (.cons_cons _ .slnil))
                  · rw [if_neg (ne_true_of_eq_false hc)] at h
                    refine r_skip ?_
                    refine r_inblock ?_
                    refine r_then ?_
                    refine r_seq ?_
                    refine r_seq ?_
                    refine r_region ?_
                    refine r_pure tabOk 1 [0, 1, 2, 3, 9, 10, 11, 80] (E' := [(0, ptr b2 0), (1, .one .str a1), (2, .one (.int .i64) a2), (3, .one .str a3), (9, .one (.raw (.pointer none)) g7), (10, .one .bool there4), (11, .one (.int .i64) o6), (80, ptr b2 0)]) rfl ?_
                    obtain ⟨r15, hr15, h⟩ := bind_ex h
                    refine r_call (Lo := [Res.dat Try.prog dI mv1 a0.2.1 a1 g7]) (disk_Disk_counted_ok b2 mv1 a0 1 _ hr15) (by kernel_rfl) (List.Perm.refl _) rfl rfl fun _ => ?_
                    refine r_pure tabOk 1 [0, 1, 2, 3, 9, 10, 11, 12] (E' := [(0, ptr b2 0), (1, .one .str a1), (2, .one (.int .i64) a2), (3, .one .str a3), (9, .one (.raw (.pointer none)) g7), (10, .one .bool there4), (11, .one (.int .i64) o6), (12, .one (.int .i64) r15.1)]) rfl ?_
                    refine r_nil ?_
                    refine r_then ?_
                    refine r_seq ?_
                    refine r_region ?_
                    refine r_pure tabOk 2 [0, 1, 2, 3, 9, 10, 11, 12, 83] (E' := [(0, ptr b2 0), (1, .one .str a1), (2, .one (.int .i64) a2), (3, .one .str a3), (9, .one (.raw (.pointer none)) g7), (10, .one .bool there4), (11, .one (.int .i64) o6), (12, .one (.int .i64) r15.1), (83, .one .bool (r15.1 != 0))]) rfl ?_
                    refine r_nil ?_
                    refine r_then ?_
                    refine r_if (b := (r15.1 != 0)) rfl (fun hc => ?_) (fun hc => ?_)
                    · rw [if_pos hc] at h
                      refine r_seq ?_
                      refine r_region ?_
                      refine r_pure tabOk 2 [8] (E' := [(8, .one (.int .i64) r15.1)]) rfl ?_
                      refine r_nil ?_
                      refine r_then ?_
                      refine r_ret ?_
                      refine t_then ?_
                      refine r_imp_at (R' := Res.dfiles Try.prog dI mv1 a0.2.1) 1 rfl dat_dfiles ?_
                      refine r_disk (P := Try.prog) (I := dI) (D := (r15.2.1, a0.2.1, r15.2.2.2.1, r15.2.2.2.2.1, r15.2.2.2.2.2.1, r15.2.2.2.2.2.2.1, r15.2.2.2.2.2.2.2)) ?_
                      obtain rfl := Option.some.inj h
                      exact r_ret1 rfl (.tmp rfl) (fun _ _ g => g) (fun _ _ _ => (.cons_cons _ .slnil))
                    · rw [if_neg (ne_true_of_eq_false hc)] at h
                      refine r_skip ?_
                      refine r_then ?_
                      obtain ⟨k16, hk16, h⟩ := bnd_ex h
                      refine r_joink (γ := Value) (fun (o17 : (List (List Int × FileS))) g18 => [(2, .one (.int .i64) a2), (3, .one .str a3), (9, .one (.raw (.pointer none)) g18), (11, .one (.int .i64) o6)]) (fun (o17 : (List (List Int × FileS))) g18 => [Res.dat Try.prog dI mv1 o17 a1 g18, Res.var b2 71 DT (r15.2.1, mv1, r15.2.2.2.1, r15.2.2.2.2.1, r15.2.2.2.2.2.1, r15.2.2.2.2.2.2.1, r15.2.2.2.2.2.2.2, ())]) k16 r ?_ ?_
                      · refine r_seq ?_
                        refine r_region ?_
                        refine r_pure tabOk 2 [0, 1, 2, 3, 9, 11, 86] (E' := [(0, ptr b2 0), (1, .one .str a1), (2, .one (.int .i64) a2), (3, .one .str a3), (9, .one (.raw (.pointer none)) g7), (11, .one (.int .i64) o6), (86, .one .bool (!there4))]) rfl ?_
                        refine r_nil ?_
                        refine r_then ?_
                        refine r_if (b := (!there4)) rfl (fun hc => ?_) (fun hc => ?_)
                        · rw [if_pos hc] at h
                          refine r_seq ?_
                          refine r_region ?_
                          refine r_makeMap 3 (.int .i64) (.int .i64) rfl fun v47 => ?_
                          refine r_redirty (P := Try.prog) (I := dI) (keys := []) 0 rfl rfl ?_
                          refine y (y_build rfl zf81 rfl rfl (.cons ((.snd (.snd (.fst .here)))) rfl rfl (ok_snd (ok_snd (ok_fst ok_here))) .nil)) rfl ?_
                          refine r_box rfl rfl fun b48 => ?_
                          refine r_nilown (.slice none 0 0) rfl 5 (.int .u8) ?_
                          refine r_nilown (.slice none 0 0) rfl 5 (.int .u8) ?_
                          refine r_pure tabOk 1 [0, 1, 2, 3, 9, 11] (E' := [(0, ptr b2 0), (1, .one .str a1), (2, .one (.int .i64) a2), (3, .one .str a3), (9, ptr b48 0), (11, .one (.int .i64) o6)]) rfl ?_
                          refine r_nil ?_
                          refine r_then ?_
                          refine r_region ?_
                          refine r_pure tabOk 3 [1, 2, 3, 9, 11, 92] (E' := [(1, .one .str a1), (2, .one (.int .i64) a2), (3, .one .str a3), (9, ptr b48 0), (11, .one (.int .i64) o6), (92, ptr b2 1)]) rfl ?_
                          refine y (y_load 4 ((.snd (.fst .here))) rfl rfl (by first | rfl | (simp only [Pth.off, T.size]; omega)) (ok_snd (ok_fst ok_here)) ty69) rfl ?_
                          refine r_pure tabOk 2 [2, 3, 9, 11, 93, 94, 95] (E' := [(2, .one (.int .i64) a2), (3, .one .str a3), (9, ptr b48 0), (11, .one (.int .i64) o6), (93, .one (.raw (.map none)) mv1), (94, .one .str a1), (95, ptr b48 0)]) rfl ?_
                          refine r_imp_at (R' := Res.dfiles Try.prog dI mv1 a0.2.1) 5 rfl dat_dfiles ?_
                          obtain ⟨hc, h⟩ := ite_ex h
                          refine r_perm (L' := [Res.var b48 81 FT ((.slice none 0 0), (.slice none 0 0), v47, ()), Res.own (.slice none 0 0) 5 (.int .u8) [], Res.own (.slice none 0 0) 5 (.int .u8) [], Res.dirty Try.prog dI v47 [], Res.dfiles Try.prog dI mv1 a0.2.1, Res.var b2 71 DT (r15.2.1, mv1, r15.2.2.2.1, r15.2.2.2.2.1, r15.2.2.2.2.2.1, r15.2.2.2.2.2.2.1, r15.2.2.2.2.2.2.2, ())]) ((List.perm_middle (a := Res.var b48 81 FT ((.slice none 0 0), (.slice none 0 0), v47, ())) (l₁ := [Res.own (.slice none 0 0) 5 (.int .u8) [], Res.own (.slice none 0 0) 5 (.int .u8) []]) (l₂ := [Res.dirty Try.prog dI v47 [], Res.var b2 71 DT (r15.2.1, mv1, r15.2.2.2.1, r15.2.2.2.2.1, r15.2.2.2.2.2.1, r15.2.2.2.2.2.2.1, r15.2.2.2.2.2.2.2, ()), Res.dfiles Try.prog dI mv1 a0.2.1])).trans (.cons _ ((List.perm_middle (a := Res.own (.slice none 0 0) 5 (.int .u8) []) (l₁ := []) (l₂ := [Res.own (.slice none 0 0) 5 (.int .u8) [], Res.dirty Try.prog dI v47 [], Res.var b2 71 DT (r15.2.1, mv1, r15.2.2.2.1, r15.2.2.2.2.1, r15.2.2.2.2.2.1, r15.2.2.2.2.2.2.1, r15.2.2.2.2.2.2.2, ()), Res.dfiles Try.prog dI mv1 a0.2.1])).trans (.cons _ ((List.perm_middle (a := Res.own (.slice none 0 0) 5 (.int .u8) []) (l₁ := []) (l₂ := [Res.dirty Try.prog dI v47 [], Res.var b2 71 DT (r15.2.1, mv1, r15.2.2.2.1, r15.2.2.2.2.1, r15.2.2.2.2.2.1, r15.2.2.2.2.2.2.1, r15.2.2.2.2.2.2.2, ()), Res.dfiles Try.prog dI mv1 a0.2.1])).trans (.cons _ ((List.perm_middle (a := Res.dirty Try.prog dI v47 []) (l₁ := []) (l₂ := [Res.var b2 71 DT (r15.2.1, mv1, r15.2.2.2.1, r15.2.2.2.2.1, r15.2.2.2.2.2.1, r15.2.2.2.2.2.2.1, r15.2.2.2.2.2.2.2, ()), Res.dfiles Try.prog dI mv1 a0.2.1])).trans (.cons _ ((List.perm_middle (a := Res.dfiles Try.prog dI mv1 a0.2.1) (l₁ := [Res.var b2 71 DT (r15.2.1, mv1, r15.2.2.2.1, r15.2.2.2.2.1, r15.2.2.2.2.2.1, r15.2.2.2.2.2.2.1, r15.2.2.2.2.2.2.2, ())]) (l₂ := [])).trans (.cons _ (List.Perm.refl _))))))))))) ?_
                          refine r_dinsert (P := Try.prog) (I := dI) kstr rfl rfl rfl Try.underlying69 hc ?_
                          refine r_nil ?_
                          refine r_then ?_
                          refine r_less [2, 3, 9, 11] rfl ?_
                          exact r_meetk (pput .str a1 ([], [], []) a0.2.1) (.pointer (some ⟨b48, 0, none⟩)) h rfl rfl
                        · rw [if_neg (ne_true_of_eq_false hc)] at h
                          refine r_skip ?_
                          refine r_then ?_
                          refine r_less [2, 3, 9, 11] rfl ?_
                          refine r_perm (L' := [Res.dat Try.prog dI mv1 a0.2.1 a1 g7, Res.var b2 71 DT (r15.2.1, mv1, r15.2.2.2.1, r15.2.2.2.2.1, r15.2.2.2.2.2.1, r15.2.2.2.2.2.2.1, r15.2.2.2.2.2.2.2, ())]) ((List.perm_middle (a := Res.dat Try.prog dI mv1 a0.2.1 a1 g7) (l₁ := [Res.var b2 71 DT (r15.2.1, mv1, r15.2.2.2.1, r15.2.2.2.2.1, r15.2.2.2.2.2.1, r15.2.2.2.2.2.2.1, r15.2.2.2.2.2.2.2, ())]) (l₂ := [])).trans (.cons _ (List.Perm.refl _))) ?_
                          exact r_meetk a0.2.1 g7 h rfl rfl
                      · intro o17 g18 h
                        rw [← hk16] at h
                        try dsimp only at h
                        obtain ⟨k19, hk19, h⟩ := bnd_ex h
                        refine r_joink (γ := Value) (fun (o20 : (List (List Int × FileS))) g21 => [(2, .one (.int .i64) a2), (3, .one .str a3), (9, .one (.raw (.pointer none)) g21)]) (fun (o20 : (List (List Int × FileS))) g21 => [Res.dat Try.prog dI mv1 o20 a1 g21, Res.var b2 71 DT (r15.2.1, mv1, r15.2.2.2.1, r15.2.2.2.2.1, r15.2.2.2.2.2.1, r15.2.2.2.2.2.2.1, r15.2.2.2.2.2.2.2, ())]) k19 r ?_ ?_
                        · refine r_seq ?_
                          refine r_region ?_
                          refine r_pure tabOk 5 [2, 3, 9, 11, 13] (E' := [(2, .one (.int .i64) a2), (3, .one .str a3), (9, .one (.raw (.pointer none)) g18), (11, .one (.int .i64) o6), (13, .one (.int .i64) (IntKind.wrap .i64 (a2 + (List.length a3 : Int))))]) rfl ?_
                          obtain ⟨end40, hend40, h⟩ := bnd_ex h
                          rw [hend40]
                          refine r_nil ?_
                          refine r_then ?_
                          refine r_seq ?_
                          refine r_region ?_
                          refine r_pure tabOk 3 [2, 3, 9, 11, 13, 102] (E' := [(2, .one (.int .i64) a2), (3, .one .str a3), (9, .one (.raw (.pointer none)) g18), (11, .one (.int .i64) o6), (13, .one (.int .i64) end40), (102, .one .bool (decide (end40 > o6)))]) rfl ?_
                          refine r_nil ?_
                          refine r_then ?_
                          refine r_if (b := (decide (end40 > o6))) rfl (fun hc => ?_) (fun hc => ?_)
                          · rw [if_pos hc] at h
                            obtain ⟨f41, hf41, h⟩ := bind_ex h
                            refine r_dfocus kstr hf41 fun fb42 sv43 tv44 dv45 hq => ?_
                            rw [hq]
                            clear hq
                            refine r_region ?_
                            refine r_pure tabOk 4 [2, 3, 9, 11, 13, 103, 106] (E' := [(2, .one (.int .i64) a2), (3, .one .str a3), (9, ptr fb42 0), (11, .one (.int .i64) o6), (13, .one (.int .i64) end40), (103, ptr fb42 0), (106, ptr fb42 0)]) rfl ?_
                            refine y (y_load 0 ((.fst .here)) rfl rfl (by first | rfl | (simp only [Pth.off, T.size]; omega)) (ok_fst ok_here) tx0) rfl ?_
                            refine r_pure tabOk 3 [2, 3, 9, 103, 107, 110] (E' := [(2, .one (.int .i64) a2), (3, .one .str a3), (9, ptr fb42 0), (103, ptr fb42 0), (107, .one (.raw (.slice none 0 0)) sv43), (110, .one (.int .i64) (IntKind.wrap .i64 (end40 - o6)))]) rfl ?_
                            obtain ⟨hc, h⟩ := ite_ex h
                            refine r_appendn tabOk zf5 1 rfl rfl rfl hc.1 rfl el5 Try.underlying3 hc.2 rfl fun v46 => ?_
                            refine r_pure tabOk 2 [2, 3, 9, 111, 113] (E' := [(2, .one (.int .i64) a2), (3, .one .str a3), (9, ptr fb42 0), (111, .one (.raw (.slice none 0 0)) v46), (113, ptr fb42 0)]) rfl ?_
                            refine r_store 0 ((.fst .here)) rfl rfl rfl (by first | rfl | (simp only [Pth.off, T.size]; omega)) (ok_fst ok_here) tx0 ?_
                            refine r_nil ?_
                            refine r_then ?_
                            refine r_dunfocus (P := Try.prog) (I := dI) kstr ?_
                            refine r_less [2, 3, 9] rfl ?_
                            exact r_meetk (pset .str a1 ((f41.1 ++ List.replicate (Int.toNat (IntKind.wrap .i64 (end40 - o6))) 0), f41.2.1, f41.2.2) o17) (.pointer (some ⟨fb42, 0, none⟩)) h rfl rfl
                          · rw [if_neg (ne_true_of_eq_false hc)] at h
                            refine r_skip ?_
                            refine r_then ?_
                            refine r_less [2, 3, 9] rfl ?_
                            exact r_meetk o17 g18 h rfl rfl
                        · intro o20 g21 h
                          rw [← hk19] at h
                          try dsimp only at h
                          refine r_seq ?_
                          obtain ⟨f22, hf22, h⟩ := bind_ex h
                          refine r_dfocus kstr hf22 fun fb23 sv24 tv25 dv26 hq => ?_
                          rw [hq]
                          clear hq
                          refine r_region ?_
                          refine r_pure tabOk 3 [2, 3, 9, 116] (E' := [(2, .one (.int .i64) a2), (3, .one .str a3), (9, ptr fb23 0), (116, ptr fb23 0)]) rfl ?_
                          refine y (y_load 0 ((.fst .here)) rfl rfl (by first | rfl | (simp only [Pth.off, T.size]; omega)) (ok_fst ok_here) tx0) rfl ?_
                          refine r_pure tabOk 1 [2, 3, 9, 117, 118] (E' := [(2, .one (.int .i64) a2), (3, .one .str a3), (9, ptr fb23 0), (117, .one (.raw (.slice none 0 0)) sv24), (118, .one (.int .i64) a2)]) rfl ?_
                          obtain ⟨hs27, h⟩ := ite_ex h
                          refine y (y_osub tabOk (i := a2) (j := (List.length f22.1 : Int)) rfl (sub_own 1 rfl) rfl rfl hs27.1 hs27.2.1 hs27.2.2 rfl ty5) rfl ?_
                          refine r_pure tabOk 1 [2, 3, 9, 119, 120] (E' := [(2, .one (.int .i64) a2), (3, .one .str a3), (9, ptr fb23 0), (119, .one (.raw (.slice none 0 0)) (subv (T.size (.int .u8)) sv24 (Int.toNat a2) (Int.toNat (List.length f22.1 : Int)))), (120, .one .str a3)]) rfl ?_
                          refine r_copyo tabOk 1 (i := (Int.toNat a2)) rfl rfl rfl (by have := hs27.2.1; omega) rfl ty5 rfl fun m28 => ?_
                          refine r_nil ?_
                          refine r_then ?_
                          obtain ⟨k29, hk29, h⟩ := bnd_ex h
                          refine r_joink (γ := Unit) (fun (o30 : List Int) _ => []) (fun (o30 : List Int) _ => [Res.var fb23 81 FT (sv24, tv25, dv26, ()), Res.own sv24 5 (.int .u8) (laidOver f22.1 (Int.toNat a2) a3), Res.own tv25 5 (.int .u8) f22.2.1, Res.dirty Try.prog dI dv26 o30, Res.dhole Try.prog dI mv1 o20 a1 (.pointer (some ⟨fb23, 0, none⟩)), Res.var b2 71 DT (r15.2.1, mv1, r15.2.2.2.1, r15.2.2.2.2.1, r15.2.2.2.2.2.1, r15.2.2.2.2.2.2.1, r15.2.2.2.2.2.2.2, ())]) k29 r ?_ ?_
                          · refine r_seq ?_
                            refine r_region ?_
                            refine r_pure tabOk 3 [2, 3, 9, 14] (E' := [(2, .one (.int .i64) a2), (3, .one .str a3), (9, ptr fb23 0), (14, .one (.int .i64) (IntKind.wrap .i64 (Int.tdiv a2 64)))]) rfl ?_
                            obtain ⟨s31, hs31, h⟩ := bnd_ex h
                            rw [hs31]
                            refine r_nil ?_
                            refine r_then ?_
                            refine r_block ?_
                            refine r_less [2, 3, 9, 14] rfl ?_
                            refine r_loopg (γ := Unit) (fun (s34 : Int × List Int) _ => [(2, .one (.int .i64) a2), (3, .one .str a3), (9, ptr fb23 0), (14, .one (.int .i64) s34.1)]) (fun (s34 : Int × List Int) _ => [Res.var fb23 81 FT (sv24, tv25, dv26, ()), Res.own sv24 5 (.int .u8) (laidOver f22.1 (Int.toNat a2) a3), Res.own tv25 5 (.int .u8) f22.2.1, Res.dirty Try.prog dI dv26 s34.2, Res.dhole Try.prog dI mv1 o20 a1 (.pointer (some ⟨fb23, 0, none⟩)), Res.var b2 71 DT (r15.2.1, mv1, r15.2.2.2.1, r15.2.2.2.2.1, r15.2.2.2.2.2.1, r15.2.2.2.2.2.2.1, r15.2.2.2.2.2.2.2, ())]) (disk_Disk_Write_l0 a2 a3 k29) (s31, f22.2.2) () h rfl rfl ?_
                            clear h
                            intro m35 s34 gg h
                            cases m35 with
                            | zero => cases h
                            | succ m35 =>
                            simp only [disk_Disk_Write_l0] at h
                            refine r_seq ?_
                            refine r_seq ?_
                            refine r_region ?_
                            refine r_pure tabOk 7 [2, 3, 9, 14, 130] (E' := [(2, .one (.int .i64) a2), (3, .one .str a3), (9, ptr fb23 0), (14, .one (.int .i64) s34.1), (130, .one .bool (decide ((IntKind.wrap .i64 (s34.1 * 64)) < (IntKind.wrap .i64 (a2 + (List.length a3 : Int))))))]) rfl ?_
                            obtain ⟨t36, ht36, h⟩ := bnd_ex h
                            rw [ht36]
                            refine r_pure tabOk 1 [2, 3, 9, 14, 131] (E' := [(2, .one (.int .i64) a2), (3, .one .str a3), (9, ptr fb23 0), (14, .one (.int .i64) s34.1), (131, .one .bool t36)]) rfl ?_
                            refine r_lsplit (γ := Unit) 3 (fun _ => [(2, .one (.int .i64) a2), (3, .one .str a3), (9, ptr fb23 0), (14, .one (.int .i64) s34.1), (134, .one .bool (t36 && (a3 != [])))]) (fun _ => [Res.var fb23 81 FT (sv24, tv25, dv26, ()), Res.own sv24 5 (.int .u8) (laidOver f22.1 (Int.toNat a2) a3), Res.own tv25 5 (.int .u8) f22.2.1, Res.dirty Try.prog dI dv26 s34.2, Res.dhole Try.prog dI mv1 o20 a1 (.pointer (some ⟨fb23, 0, none⟩)), Res.var b2 71 DT (r15.2.1, mv1, r15.2.2.2.1, r15.2.2.2.2.1, r15.2.2.2.2.2.1, r15.2.2.2.2.2.2.1, r15.2.2.2.2.2.2.2, ())]) ?_ (fun _ => ?_)
                            · clear h
                              rcases Bool.eq_false_or_eq_true t36 with hh | hh
                              · rw [hh]
                                refine r_pure tabOk 3 [2, 3, 9, 14, 134] (E' := [(2, .one (.int .i64) a2), (3, .one .str a3), (9, ptr fb23 0), (14, .one (.int .i64) s34.1), (134, .one .bool (a3 != []))]) rfl ?_
                                refine r_nil ?_
                                refine r_then ?_
                                exact r_meetg () rfl rfl
                              · rw [hh]
                                refine r_pure tabOk 3 [2, 3, 9, 14, 134] (E' := [(2, .one (.int .i64) a2), (3, .one .str a3), (9, ptr fb23 0), (14, .one (.int .i64) s34.1), (134, .one .bool false)]) rfl ?_
                                refine r_nil ?_
                                refine r_then ?_
                                exact r_meetg () rfl rfl
                            refine r_nil ?_
                            refine r_then ?_
                            refine r_if (b := (t36 && (a3 != []))) rfl (fun hc => ?_) (fun hc => ?_)
                            · rw [if_pos hc] at h
                              refine r_skip ?_
                              refine r_then ?_
                              refine r_seq ?_
                              refine r_block ?_
                              refine r_region ?_
                              refine r_pure tabOk 3 [2, 3, 9, 14, 139] (E' := [(2, .one (.int .i64) a2), (3, .one .str a3), (9, ptr fb23 0), (14, .one (.int .i64) s34.1), (139, ptr fb23 2)]) rfl ?_
                              refine y (y_load 0 ((.snd (.snd (.fst .here)))) rfl rfl (by first | rfl | (simp only [Pth.off, T.size]; omega)) (ok_snd (ok_snd (ok_fst ok_here))) ty79) rfl ?_
                              refine r_pure tabOk 1 [2, 3, 9, 14, 140, 141] (E' := [(2, .one (.int .i64) a2), (3, .one .str a3), (9, ptr fb23 0), (14, .one (.int .i64) s34.1), (140, .one (.raw (.map none)) dv26), (141, .one (.int .i64) s34.1)]) rfl ?_
                              refine r_undirty 3 rfl fun l38 hl38 => ?_
                              refine y (y_look 3 rfl rfl rfl kint Try.underlying79 zf3 rfl) rfl ?_
                              refine r_pure tabOk 1 [2, 3, 9, 14, 140, 141, 143] (E' := [(2, .one (.int .i64) a2), (3, .one .str a3), (9, ptr fb23 0), (14, .one (.int .i64) s34.1), (140, .one (.raw (.map none)) dv26), (141, .one (.int .i64) s34.1), (143, .one (.int .i64) (IntKind.wrap .i64 (((pget (.int .i64) s34.1 l38).getD 0) + 1)))]) rfl ?_
                              obtain ⟨hc, h⟩ := ite_ex h
                              refine r_mapUpdate 3 rfl rfl rfl rfl kint Try.underlying79 (by rw [← hl38, List.length_map] at hc; exact hc) ?_
                              refine r_redirty (P := Try.prog) (I := dI) (keys := kput s34.1 s34.2) 3 rfl (by rw [kput_keys, hl38]) ?_
                              refine r_nil ?_
                              refine r_inblock ?_
                              refine r_then ?_
                              refine r_region ?_
                              refine r_pure tabOk 3 [2, 3, 9, 14] (E' := [(2, .one (.int .i64) a2), (3, .one .str a3), (9, ptr fb23 0), (14, .one (.int .i64) (IntKind.wrap .i64 (s34.1 + 1)))]) rfl ?_
                              obtain ⟨s39, hs39, h⟩ := bnd_ex h
                              rw [hs39]
                              refine r_nil ?_
                              refine r_then ?_
                              refine r_less [2, 3, 9, 14] rfl ?_
                              exact r_backg (s39, (kput s34.1 s34.2)) () (Nat.lt_succ_self _) h rfl rfl
                            · rw [if_neg (ne_true_of_eq_false hc)] at h
                              refine r_exit ?_
                              refine e_then ?_
                              refine e_then ?_
                              refine e_eq ?_
                              refine r_then ?_
                              refine r_less [] rfl ?_
                              exact r_meetk s34.2 () h rfl rfl
                          · intro o30 gg h
                            rw [← hk29] at h
                            try dsimp only at h
                            refine r_seq ?_
                            refine r_region ?_
                            refine r_pure tabOk 1 [8] (E' := [(8, .one (.int .i64) 0)]) rfl ?_
                            refine r_nil ?_
                            refine r_then ?_
                            refine r_ret ?_
                            refine r_dunfocus (P := Try.prog) (I := dI) kstr ?_
                            refine r_imp_at (R' := Res.dfiles Try.prog dI mv1 (pset .str a1 ((laidOver f22.1 (Int.toNat a2) a3), f22.2.1, o30) o20)) 0 rfl dat_dfiles ?_
                            refine r_perm (L' := [Res.var b2 71 DT (r15.2.1, mv1, r15.2.2.2.1, r15.2.2.2.2.1, r15.2.2.2.2.2.1, r15.2.2.2.2.2.2.1, r15.2.2.2.2.2.2.2, ()), Res.dfiles Try.prog dI mv1 (pset .str a1 ((laidOver f22.1 (Int.toNat a2) a3), f22.2.1, o30) o20)]) ((List.perm_middle (a := Res.var b2 71 DT (r15.2.1, mv1, r15.2.2.2.1, r15.2.2.2.2.1, r15.2.2.2.2.2.1, r15.2.2.2.2.2.2.1, r15.2.2.2.2.2.2.2, ())) (l₁ := [Res.dfiles Try.prog dI mv1 (pset .str a1 ((laidOver f22.1 (Int.toNat a2) a3), f22.2.1, o30) o20)]) (l₂ := [])).trans (.cons _ (List.Perm.refl _))) ?_
                            refine r_disk (P := Try.prog) (I := dI) (D := (r15.2.1, (pset .str a1 ((laidOver f22.1 (Int.toNat a2) a3), f22.2.1, o30) o20), r15.2.2.2.1, r15.2.2.2.2.1, r15.2.2.2.2.2.1, r15.2.2.2.2.2.2.1, r15.2.2.2.2.2.2.2)) ?_
                            obtain rfl := Option.some.inj h
                            exact r_ret1 rfl (.tmp rfl) (fun _ _ g => g) (fun _ _ _ => (.cons_cons _ .slnil))
                · refine y (y_load 1 ((.fst .here)) rfl rfl (by first | rfl | (simp only [Pth.off, T.size]; omega)) (ok_fst ok_here) ty3) rfl ?_
                  refine r_nil ?_
                  refine r_then ?_
                  refine r_less [0, 1, 2, 3, 9, 10, 11, 65, 73, 78] rfl ?_
                  refine a_one (i := 1) (by kernel_rfl) rfl ?_
                  refine r_perm (L' := [Res.var b2 71 DT (a0.1, mv1, a0.2.2.1, a0.2.2.2.1, a0.2.2.2.2.1, a0.2.2.2.2.2.1, a0.2.2.2.2.2.2, ()), Res.dat Try.prog dI mv1 a0.2.1 a1 g7]) ((List.perm_middle (a := Res.var b2 71 DT (a0.1, mv1, a0.2.2.1, a0.2.2.2.1, a0.2.2.2.2.1, a0.2.2.2.2.2.1, a0.2.2.2.2.2.2, ())) (l₁ := [Res.dat Try.prog dI mv1 a0.2.1 a1 g7]) (l₂ := [])).trans (.cons _ (List.Perm.refl _))) ?_
                  obtain ⟨r14, hr14, h⟩ := bind_ex h
                  refine r_call (Lo := []) (disk_Disk_Used_ok b2 mv1 a1 g7 a0 _ hr14) (by kernel_rfl) (List.Perm.refl _) rfl rfl fun _ => ?_
                  refine r_nil ?_
                  refine r_then ?_
                  refine r_less [0, 1, 2, 3, 9, 10, 11, 66, 73, 78] rfl ?_
                  refine a_float (i := 9) (t := .one (.int .i64) (IntKind.wrap .i64 (r14 + (max 0 (IntKind.wrap .i64 ((IntKind.wrap .i64 (a2 + (List.length a3 : Int))) - o6)))))) (blind_then (blind_block (blind_then blind_body))) rfl (by kernel_rfl) (by kernel_rfl) (by kernel_rfl) (y_pure tabOk rfl) rfl ?_
                  refine a_float (i := 14) (t := .one .bool (decide ((IntKind.wrap .i64 (r14 + (max 0 (IntKind.wrap .i64 ((IntKind.wrap .i64 (a2 + (List.length a3 : Int))) - o6))))) > a0.1))) (blind_then (blind_block (blind_then blind_body))) rfl (by kernel_rfl) (by kernel_rfl) (by kernel_rfl) (y_pure tabOk rfl) rfl ?_
                  refine a_float (i := 15) (t := .one .bool (decide ((IntKind.wrap .i64 (r14 + (max 0 (IntKind.wrap .i64 ((IntKind.wrap .i64 (a2 + (List.length a3 : Int))) - o6))))) > a0.1))) (blind_then (blind_block (blind_then blind_body))) rfl (by kernel_rfl) (by kernel_rfl) (by kernel_rfl) (y_pure tabOk rfl) rfl ?_
                  refine a_end (by kernel_rfl) ?_
                  refine r_then ?_
                  refine r_if (b := (decide ((IntKind.wrap .i64 (r14 + (max 0 (IntKind.wrap .i64 ((IntKind.wrap .i64 (a2 + (List.length a3 : Int))) - o6))))) > a0.1))) rfl (fun hc => ?_) (fun hc => ?_)
                  · rw [if_pos hc] at h
                    refine r_seq ?_
                    refine r_region ?_
                    refine r_pure tabOk 1 [8] (E' := [(8, .one (.int .i64) 41)]) rfl ?_
                    refine r_nil ?_
                    refine r_then ?_
                    refine r_ret ?_
                    refine t_block ?_
                    refine t_then ?_
                    refine r_imp_at (R' := Res.dfiles Try.prog dI mv1 a0.2.1) 1 rfl dat_dfiles ?_
                    refine r_disk (P := Try.prog) (I := dI) (D := a0) ?_
                    obtain rfl := Option.some.inj h
                    exact r_ret1 rfl (.tmp rfl) (fun _ _ g => g) (fun _ _ _ => (.cons_cons _ .slnil))
                  · rw [if_neg (ne_true_of_eq_false hc)] at h
                    refine r_skip ?_
                    refine r_inblock ?_
                    refine r_then ?_
                    refine r_seq ?_
                    refine r_seq ?_
                    refine r_region ?_
                    refine r_pure tabOk 1 [0, 1, 2, 3, 9, 10, 11, 80] (E' := [(0, ptr b2 0), (1, .one .str a1), (2, .one (.int .i64) a2), (3, .one .str a3), (9, .one (.raw (.pointer none)) g7), (10, .one .bool there4), (11, .one (.int .i64) o6), (80, ptr b2 0)]) rfl ?_
                    obtain ⟨r15, hr15, h⟩ := bind_ex h
                    refine r_call (Lo := [Res.dat Try.prog dI mv1 a0.2.1 a1 g7]) (disk_Disk_counted_ok b2 mv1 a0 1 _ hr15) (by kernel_rfl) (List.Perm.refl _) rfl rfl fun _ => ?_
                    refine r_pure tabOk 1 [0, 1, 2, 3, 9, 10, 11, 12] (E' := [(0, ptr b2 0), (1, .one .str a1), (2, .one (.int .i64) a2), (3, .one .str a3), (9, .one (.raw (.pointer none)) g7), (10, .one .bool there4), (11, .one (.int .i64) o6), (12, .one (.int .i64) r15.1)]) rfl ?_
                    refine r_nil ?_
                    refine r_then ?_
                    refine r_seq ?_
                    refine r_region ?_
                    refine r_pure tabOk 2 [0, 1, 2, 3, 9, 10, 11, 12, 83] (E' := [(0, ptr b2 0), (1, .one .str a1), (2, .one (.int .i64) a2), (3, .one .str a3), (9, .one (.raw (.pointer none)) g7), (10, .one .bool there4), (11, .one (.int .i64) o6), (12, .one (.int .i64) r15.1), (83, .one .bool (r15.1 != 0))]) rfl ?_
                    refine r_nil ?_
                    refine r_then ?_
                    refine r_if (b := (r15.1 != 0)) rfl (fun hc => ?_) (fun hc => ?_)
                    · rw [if_pos hc] at h
                      refine r_seq ?_
                      refine r_region ?_
                      refine r_pure tabOk 2 [8] (E' := [(8, .one (.int .i64) r15.1)]) rfl ?_
                      refine r_nil ?_
                      refine r_then ?_
                      refine r_ret ?_
                      refine t_then ?_
                      refine r_imp_at (R' := Res.dfiles Try.prog dI mv1 a0.2.1) 1 rfl dat_dfiles ?_
                      refine r_disk (P := Try.prog) (I := dI) (D := (r15.2.1, a0.2.1, r15.2.2.2.1, r15.2.2.2.2.1, r15.2.2.2.2.2.1, r15.2.2.2.2.2.2.1, r15.2.2.2.2.2.2.2)) ?_
                      obtain rfl := Option.some.inj h
                      exact r_ret1 rfl (.tmp rfl) (fun _ _ g => g) (fun _ _ _ => (.cons_cons _ .slnil))
                    · rw [if_neg (ne_true_of_eq_false hc)] at h
                      refine r_skip ?_
                      refine r_then ?_
                      obtain ⟨k16, hk16, h⟩ := bnd_ex h
                      refine r_joink (γ := Value) (fun (o17 : (List (List Int × FileS))) g18 => [(2, .one (.int .i64) a2), (3, .one .str a3), (9, .one (.raw (.pointer none)) g18), (11, .one (.int .i64) o6)]) (fun (o17 : (List (List Int × FileS))) g18 => [Res.dat Try.prog dI mv1 o17 a1 g18, Res.var b2 71 DT (r15.2.1, mv1, r15.2.2.2.1, r15.2.2.2.2.1, r15.2.2.2.2.2.1, r15.2.2.2.2.2.2.1, r15.2.2.2.2.2.2.2, ())]) k16 r ?_ ?_
                      · refine r_seq ?_
                        refine r_region ?_
                        refine r_pure tabOk 2 [0, 1, 2, 3, 9, 11, 86] (E' := [(0, ptr b2 0), (1, .one .str a1), (2, .one (.int .i64) a2), (3, .one .str a3), (9, .one (.raw (.pointer none)) g7), (11, .one (.int .i64) o6), (86, .one .bool (!there4))]) rfl ?_
                        refine r_nil ?_
                        refine r_then ?_
                        refine r_if (b := (!there4)) rfl (fun hc => ?_) (fun hc => ?_)
                        · rw [if_pos hc] at h
                          refine r_seq ?_
                          refine r_region ?_
                          refine r_makeMap 3 (.int .i64) (.int .i64) rfl fun v47 => ?_
                          refine r_redirty (P := Try.prog) (I := dI) (keys := []) 0 rfl rfl ?_
                          refine y (y_build rfl zf81 rfl rfl (.cons ((.snd (.snd (.fst .here)))) rfl rfl (ok_snd (ok_snd (ok_fst ok_here))) .nil)) rfl ?_
                          refine r_box rfl rfl fun b48 => ?_
                          refine r_nilown (.slice none 0 0) rfl 5 (.int .u8) ?_
                          refine r_nilown (.slice none 0 0) rfl 5 (.int .u8) ?_
                          refine r_pure tabOk 1 [0, 1, 2, 3, 9, 11] (E' := [(0, ptr b2 0), (1, .one .str a1), (2, .one (.int .i64) a2), (3, .one .str a3), (9, ptr b48 0), (11, .one (.int .i64) o6)]) rfl ?_
                          refine r_nil ?_
                          refine r_then ?_
                          refine r_region ?_
                          refine r_pure tabOk 3 [1, 2, 3, 9, 11, 92] (E' := [(1, .one .str a1), (2, .one (.int .i64) a2), (3, .one .str a3), (9, ptr b48 0), (11, .one (.int .i64) o6), (92, ptr b2 1)]) rfl ?_
                          refine y (y_load 4 ((.snd (.fst .here))) rfl rfl (by first | rfl | (simp only [Pth.off, T.size]; omega)) (ok_snd (ok_fst ok_here)) ty69) rfl ?_
                          refine r_pure tabOk 2 [2, 3, 9, 11, 93, 94, 95] (E' := [(2, .one (.int .i64) a2), (3, .one .str a3), (9, ptr b48 0), (11, .one (.int .i64) o6), (93, .one (.raw (.map none)) mv1), (94, .one .str a1), (95, ptr b48 0)]) rfl ?_
                          refine r_imp_at (R' := Res.dfiles Try.prog dI mv1 a0.2.1) 5 rfl dat_dfiles ?_
                          obtain ⟨hc, h⟩ := ite_ex h
                          refine r_perm (L' := [Res.var b48 81 FT ((.slice none 0 0), (.slice none 0 0), v47, ()), Res.own (.slice none 0 0) 5 (.int .u8) [], Res.own (.slice none 0 0) 5 (.int .u8) [], Res.dirty Try.prog dI v47 [], Res.dfiles Try.prog dI mv1 a0.2.1, Res.var b2 71 DT (r15.2.1, mv1, r15.2.2.2.1, r15.2.2.2.2.1, r15.2.2.2.2.2.1, r15.2.2.2.2.2.2.1, r15.2.2.2.2.2.2.2, ())]) ((List.perm_middle (a := Res.var b48 81 FT ((.slice none 0 0), (.slice none 0 0), v47, ())) (l₁ := [Res.own (.slice none 0 0) 5 (.int .u8) [], Res.own (.slice none 0 0) 5 (.int .u8) []]) (l₂ := [Res.dirty Try.prog dI v47 [], Res.var b2 71 DT (r15.2.1, mv1, r15.2.2.2.1, r15.2.2.2.2.1, r15.2.2.2.2.2.1, r15.2.2.2.2.2.2.1, r15.2.2.2.2.2.2.2, ()), Res.dfiles Try.prog dI mv1 a0.2.1])).trans (.cons _ ((List.perm_middle (a := Res.own (.slice none 0 0) 5 (.int .u8) []) (l₁ := []) (l₂ := [Res.own (.slice none 0 0) 5 (.int .u8) [], Res.dirty Try.prog dI v47 [], Res.var b2 71 DT (r15.2.1, mv1, r15.2.2.2.1, r15.2.2.2.2.1, r15.2.2.2.2.2.1, r15.2.2.2.2.2.2.1, r15.2.2.2.2.2.2.2, ()), Res.dfiles Try.prog dI mv1 a0.2.1])).trans (.cons _ ((List.perm_middle (a := Res.own (.slice none 0 0) 5 (.int .u8) []) (l₁ := []) (l₂ := [Res.dirty Try.prog dI v47 [], Res.var b2 71 DT (r15.2.1, mv1, r15.2.2.2.1, r15.2.2.2.2.1, r15.2.2.2.2.2.1, r15.2.2.2.2.2.2.1, r15.2.2.2.2.2.2.2, ()), Res.dfiles Try.prog dI mv1 a0.2.1])).trans (.cons _ ((List.perm_middle (a := Res.dirty Try.prog dI v47 []) (l₁ := []) (l₂ := [Res.var b2 71 DT (r15.2.1, mv1, r15.2.2.2.1, r15.2.2.2.2.1, r15.2.2.2.2.2.1, r15.2.2.2.2.2.2.1, r15.2.2.2.2.2.2.2, ()), Res.dfiles Try.prog dI mv1 a0.2.1])).trans (.cons _ ((List.perm_middle (a := Res.dfiles Try.prog dI mv1 a0.2.1) (l₁ := [Res.var b2 71 DT (r15.2.1, mv1, r15.2.2.2.1, r15.2.2.2.2.1, r15.2.2.2.2.2.1, r15.2.2.2.2.2.2.1, r15.2.2.2.2.2.2.2, ())]) (l₂ := [])).trans (.cons _ (List.Perm.refl _))))))))))) ?_
                          refine r_dinsert (P := Try.prog) (I := dI) kstr rfl rfl rfl Try.underlying69 hc ?_
                          refine r_nil ?_
                          refine r_then ?_
                          refine r_less [2, 3, 9, 11] rfl ?_
                          exact r_meetk (pput .str a1 ([], [], []) a0.2.1) (.pointer (some ⟨b48, 0, none⟩)) h rfl rfl
                        · rw [if_neg (ne_true_of_eq_false hc)] at h
                          refine r_skip ?_
                          refine r_then ?_
                          refine r_less [2, 3, 9, 11] rfl ?_
                          refine r_perm (L' := [Res.dat Try.prog dI mv1 a0.2.1 a1 g7, Res.var b2 71 DT (r15.2.1, mv1, r15.2.2.2.1, r15.2.2.2.2.1, r15.2.2.2.2.2.1, r15.2.2.2.2.2.2.1, r15.2.2.2.2.2.2.2, ())]) ((List.perm_middle (a := Res.dat Try.prog dI mv1 a0.2.1 a1 g7) (l₁ := [Res.var b2 71 DT (r15.2.1, mv1, r15.2.2.2.1, r15.2.2.2.2.1, r15.2.2.2.2.2.1, r15.2.2.2.2.2.2.1, r15.2.2.2.2.2.2.2, ())]) (l₂ := [])).trans (.cons _ (List.Perm.refl _))) ?_
                          exact r_meetk a0.2.1 g7 h rfl rfl
                      · intro o17 g18 h
                        rw [← hk16] at h
                        try dsimp only at h
                        obtain ⟨k19, hk19, h⟩ := bnd_ex h
                        refine r_joink (γ := Value) (fun (o20 : (List (List Int × FileS))) g21 => [(2, .one (.int .i64) a2), (3, .one .str a3), (9, .one (.raw (.pointer none)) g21)]) (fun (o20 : (List (List Int × FileS))) g21 => [Res.dat Try.prog dI mv1 o20 a1 g21, Res.var b2 71 DT (r15.2.1, mv1, r15.2.2.2.1, r15.2.2.2.2.1, r15.2.2.2.2.2.1, r15.2.2.2.2.2.2.1, r15.2.2.2.2.2.2.2, ())]) k19 r ?_ ?_
                        · refine r_seq ?_
                          refine r_region ?_
                          refine r_pure tabOk 5 [2, 3, 9, 11, 13] (E' := [(2, .one (.int .i64) a2), (3, .one .str a3), (9, .one (.raw (.pointer none)) g18), (11, .one (.int .i64) o6), (13, .one (.int .i64) (IntKind.wrap .i64 (a2 + (List.length a3 : Int))))]) rfl ?_
                          obtain ⟨end40, hend40, h⟩ := bnd_ex h
                          rw [hend40]
                          refine r_nil ?_
                          refine r_then ?_
                          refine r_seq ?_
                          refine r_region ?_
                          refine r_pure tabOk 3 [2, 3, 9, 11, 13, 102] (E' := [(2, .one (.int .i64) a2), (3, .one .str a3), (9, .one (.raw (.pointer none)) g18), (11, .one (.int .i64) o6), (13, .one (.int .i64) end40), (102, .one .bool (decide (end40 > o6)))]) rfl ?_
                          refine r_nil ?_
                          refine r_then ?_
                          refine r_if (b := (decide (end40 > o6))) rfl (fun hc => ?_) (fun hc => ?_)
                          · rw [if_pos hc] at h
                            obtain ⟨f41, hf41, h⟩ := bind_ex h
                            refine r_dfocus kstr hf41 fun fb42 sv43 tv44 dv45 hq => ?_
                            rw [hq]
                            clear hq
                            refine r_region ?_
                            refine r_pure tabOk 4 [2, 3, 9, 11, 13, 103, 106] (E' := [(2, .one (.int .i64) a2), (3, .one .str a3), (9, ptr fb42 0), (11, .one (.int .i64) o6), (13, .one (.int .i64) end40), (103, ptr fb42 0), (106, ptr fb42 0)]) rfl ?_
                            refine y (y_load 0 ((.fst .here)) rfl rfl (by first | rfl | (simp only [Pth.off, T.size]; omega)) (ok_fst ok_here) tx0) rfl ?_
                            refine r_pure tabOk 3 [2, 3, 9, 103, 107, 110] (E' := [(2, .one (.int .i64) a2), (3, .one .str a3), (9, ptr fb42 0), (103, ptr fb42 0), (107, .one (.raw (.slice none 0 0)) sv43), (110, .one (.int .i64) (IntKind.wrap .i64 (end40 - o6)))]) rfl ?_
                            obtain ⟨hc, h⟩ := ite_ex h
                            refine r_appendn tabOk zf5 1 rfl rfl rfl hc.1 rfl el5 Try.underlying3 hc.2 rfl fun v46 => ?_
                            refine r_pure tabOk 2 [2, 3, 9, 111, 113] (E' := [(2, .one (.int .i64) a2), (3, .one .str a3), (9, ptr fb42 0), (111, .one (.raw (.slice none 0 0)) v46), (113, ptr fb42 0)]) rfl ?_
                            refine r_store 0 ((.fst .here)) rfl rfl rfl (by first | rfl | (simp only [Pth.off, T.size]; omega)) (ok_fst ok_here) tx0 ?_
                            refine r_nil ?_
                            refine r_then ?_
                            refine r_dunfocus (P := Try.prog) (I := dI) kstr ?_
                            refine r_less [2, 3, 9] rfl ?_
                            exact r_meetk (pset .str a1 ((f41.1 ++ List.replicate (Int.toNat (IntKind.wrap .i64 (end40 - o6))) 0), f41.2.1, f41.2.2) o17) (.pointer (some ⟨fb42, 0, none⟩)) h rfl rfl
                          · rw [if_neg (ne_true_of_eq_false hc)] at h
                            refine r_skip ?_
                            refine r_then ?_
                            refine r_less [2, 3, 9] rfl ?_
                            exact r_meetk o17 g18 h rfl rfl
                        · intro o20 g21 h
                          rw [← hk19] at h
                          try dsimp only at h
                          refine r_seq ?_
                          obtain ⟨f22, hf22, h⟩ := bind_ex h
                          refine r_dfocus kstr hf22 fun fb23 sv24 tv25 dv26 hq => ?_
                          rw [hq]
                          clear hq
                          refine r_region ?_
                          refine r_pure tabOk 3 [2, 3, 9, 116] (E' := [(2, .one (.int .i64) a2), (3, .one .str a3), (9, ptr fb23 0), (116, ptr fb23 0)]) rfl ?_
                          refine y (y_load 0 ((.fst .here)) rfl rfl (by first | rfl | (simp only [Pth.off, T.size]; omega)) (ok_fst ok_here) tx0) rfl ?_
                          refine r_pure tabOk 1 [2, 3, 9, 117, 118] (E' := [(2, .one (.int .i64) a2), (3, .one .str a3), (9, ptr fb23 0), (117, .one (.raw (.slice none 0 0)) sv24), (118, .one (.int .i64) a2)]) rfl ?_
                          obtain ⟨hs27, h⟩ := ite_ex h
                          refine y (y_osub tabOk (i := a2) (j := (List.length f22.1 : Int)) rfl (sub_own 1 rfl) rfl rfl hs27.1 hs27.2.1 hs27.2.2 rfl ty5) rfl ?_
                          refine r_pure tabOk 1 [2, 3, 9, 119, 120] (E' := [(2, .one (.int .i64) a2), (3, .one .str a3), (9, ptr fb23 0), (119, .one (.raw (.slice none 0 0)) (subv (T.size (.int .u8)) sv24 (Int.toNat a2) (Int.toNat (List.length f22.1 : Int)))), (120, .one .str a3)]) rfl ?_
                          refine r_copyo tabOk 1 (i := (Int.toNat a2)) rfl rfl rfl (by have := hs27.2.1; omega) rfl ty5 rfl fun m28 => ?_
                          refine r_nil ?_
                          refine r_then ?_
                          obtain ⟨k29, hk29, h⟩ := bnd_ex h
                          refine r_joink (γ := Unit) (fun (o30 : List Int) _ => []) (fun (o30 : List Int) _ => [Res.var fb23 81 FT (sv24, tv25, dv26, ()), Res.own sv24 5 (.int .u8) (laidOver f22.1 (Int.toNat a2) a3), Res.own tv25 5 (.int .u8) f22.2.1, Res.dirty Try.prog dI dv26 o30, Res.dhole Try.prog dI mv1 o20 a1 (.pointer (some ⟨fb23, 0, none⟩)), Res.var b2 71 DT (r15.2.1, mv1, r15.2.2.2.1, r15.2.2.2.2.1, r15.2.2.2.2.2.1, r15.2.2.2.2.2.2.1, r15.2.2.2.2.2.2.2, ())]) k29 r ?_ ?_
                          · refine r_seq ?_
                            refine r_region ?_
                            refine r_pure tabOk 3 [2, 3, 9, 14] (E' := [(2, .one (.int .i64) a2), (3, .one .str a3), (9, ptr fb23 0), (14, .one (.int .i64) (IntKind.wrap .i64 (Int.tdiv a2 64)))]) rfl ?_
                            obtain ⟨s31, hs31, h⟩ := bnd_ex h
                            rw [hs31]
                            refine r_nil ?_
                            refine r_then ?_
                            refine r_block ?_
                            refine r_less [2, 3, 9, 14] rfl ?_
                            refine r_loopg (γ := Unit) (fun (s34 : Int × List Int) _ => [(2, .one (.int .i64) a2), (3, .one .str a3), (9, ptr fb23 0), (14, .one (.int .i64) s34.1)]) (fun (s34 : Int × List Int) _ => [Res.var fb23 81 FT (sv24, tv25, dv26, ()), Res.own sv24 5 (.int .u8) (laidOver f22.1 (Int.toNat a2) a3), Res.own tv25 5 (.int .u8) f22.2.1, Res.dirty Try.prog dI dv26 s34.2, Res.dhole Try.prog dI mv1 o20 a1 (.pointer (some ⟨fb23, 0, none⟩)), Res.var b2 71 DT (r15.2.1, mv1, r15.2.2.2.1, r15.2.2.2.2.1, r15.2.2.2.2.2.1, r15.2.2.2.2.2.2.1, r15.2.2.2.2.2.2.2, ())]) (disk_Disk_Write_l0 a2 a3 k29) (s31, f22.2.2) () h rfl rfl ?_
                            clear h
                            intro m35 s34 gg h
                            cases m35 with
                            | zero => cases h
                            | succ m35 =>
                            simp only [disk_Disk_Write_l0] at h
                            refine r_seq ?_
                            refine r_seq ?_
                            refine r_region ?_
                            refine r_pure tabOk 7 [2, 3, 9, 14, 130] (E' := [(2, .one (.int .i64) a2), (3, .one .str a3), (9, ptr fb23 0), (14, .one (.int .i64) s34.1), (130, .one .bool (decide ((IntKind.wrap .i64 (s34.1 * 64)) < (IntKind.wrap .i64 (a2 + (List.length a3 : Int))))))]) rfl ?_
                            obtain ⟨t36, ht36, h⟩ := bnd_ex h
                            rw [ht36]
                            refine r_pure tabOk 1 [2, 3, 9, 14, 131] (E' := [(2, .one (.int .i64) a2), (3, .one .str a3), (9, ptr fb23 0), (14, .one (.int .i64) s34.1), (131, .one .bool t36)]) rfl ?_
                            refine r_lsplit (γ := Unit) 3 (fun _ => [(2, .one (.int .i64) a2), (3, .one .str a3), (9, ptr fb23 0), (14, .one (.int .i64) s34.1), (134, .one .bool (t36 && (a3 != [])))]) (fun _ => [Res.var fb23 81 FT (sv24, tv25, dv26, ()), Res.own sv24 5 (.int .u8) (laidOver f22.1 (Int.toNat a2) a3), Res.own tv25 5 (.int .u8) f22.2.1, Res.dirty Try.prog dI dv26 s34.2, Res.dhole Try.prog dI mv1 o20 a1 (.pointer (some ⟨fb23, 0, none⟩)), Res.var b2 71 DT (r15.2.1, mv1, r15.2.2.2.1, r15.2.2.2.2.1, r15.2.2.2.2.2.1, r15.2.2.2.2.2.2.1, r15.2.2.2.2.2.2.2, ())]) ?_ (fun _ => ?_)
                            · clear h
                              rcases Bool.eq_false_or_eq_true t36 with hh | hh
                              · rw [hh]
                                refine r_pure tabOk 3 [2, 3, 9, 14, 134] (E' := [(2, .one (.int .i64) a2), (3, .one .str a3), (9, ptr fb23 0), (14, .one (.int .i64) s34.1), (134, .one .bool (a3 != []))]) rfl ?_
                                refine r_nil ?_
                                refine r_then ?_
                                exact r_meetg () rfl rfl
                              · rw [hh]
                                refine r_pure tabOk 3 [2, 3, 9, 14, 134] (E' := [(2, .one (.int .i64) a2), (3, .one .str a3), (9, ptr fb23 0), (14, .one (.int .i64) s34.1), (134, .one .bool false)]) rfl ?_
                                refine r_nil ?_
                                refine r_then ?_
                                exact r_meetg () rfl rfl
                            refine r_nil ?_
                            refine r_then ?_
                            refine r_if (b := (t36 && (a3 != []))) rfl (fun hc => ?_) (fun hc => ?_)
                            · rw [if_pos hc] at h
                              refine r_skip ?_
                              refine r_then ?_
                              refine r_seq ?_
                              refine r_block ?_
                              refine r_region ?_
                              refine r_pure tabOk 3 [2, 3, 9, 14, 139] (E' := [(2, .one (.int .i64) a2), (3, .one .str a3), (9, ptr fb23 0), (14, .one (.int .i64) s34.1), (139, ptr fb23 2)]) rfl ?_
                              refine y (y_load 0 ((.snd (.snd (.fst .here)))) rfl rfl (by first | rfl | (simp only [Pth.off, T.size]; omega)) (ok_snd (ok_snd (ok_fst ok_here))) ty79) rfl ?_
                              refine r_pure tabOk 1 [2, 3, 9, 14, 140, 141] (E' := [(2, .one (.int .i64) a2), (3, .one .str a3), (9, ptr fb23 0), (14, .one (.int .i64) s34.1), (140, .one (.raw (.map none)) dv26), (141, .one (.int .i64) s34.1)]) rfl ?_
                              refine r_undirty 3 rfl fun l38 hl38 => ?_
                              refine y (y_look 3 rfl rfl rfl kint Try.underlying79 zf3 rfl) rfl ?_
                              refine r_pure tabOk 1 [2, 3, 9, 14, 140, 141, 143] (E' := [(2, .one (.int .i64) a2), (3, .one .str a3), (9, ptr fb23 0), (14, .one (.int .i64) s34.1), (140, .one (.raw (.map none)) dv26), (141, .one (.int .i64) s34.1), (143, .one (.int .i64) (IntKind.wrap .i64 (((pget (.int .i64) s34.1 l38).getD 0) + 1)))]) rfl ?_
                              obtain ⟨hc, h⟩ := ite_ex h
                              refine r_mapUpdate 3 rfl rfl rfl rfl kint Try.underlying79 (by rw [← hl38, List.length_map] at hc; exact hc) ?_
                              refine r_redirty (P := Try.prog) (I := dI) (keys := kput s34.1 s34.2) 3 rfl (by rw [kput_keys, hl38]) ?_
                              refine r_nil ?_
                              refine r_inblock ?_
                              refine r_then ?_
                              refine r_region ?_
                              refine r_pure tabOk 3 [2, 3, 9, 14] (E' := [(2, .one (.int .i64) a2), (3, .one .str a3), (9, ptr fb23 0), (14, .one (.int .i64) (IntKind.wrap .i64 (s34.1 + 1)))]) rfl ?_
                              obtain ⟨s39, hs39, h⟩ := bnd_ex h
                              rw [hs39]
                              refine r_nil ?_
                              refine r_then ?_
                              refine r_less [2, 3, 9, 14] rfl ?_
                              exact r_backg (s39, (kput s34.1 s34.2)) () (Nat.lt_succ_self _) h rfl rfl
                            · rw [if_neg (ne_true_of_eq_false hc)] at h
                              refine r_exit ?_
                              refine e_then ?_
                              refine e_then ?_
                              refine e_eq ?_
                              refine r_then ?_
                              refine r_less [] rfl ?_
                              exact r_meetk s34.2 () h rfl rfl
                          · intro o30 gg h
                            rw [← hk29] at h
                            try dsimp only at h
                            refine r_seq ?_
                            refine r_region ?_
                            refine r_pure tabOk 1 [8] (E' := [(8, .one (.int .i64) 0)]) rfl ?_
                            refine r_nil ?_
                            refine r_then ?_
                            refine r_ret ?_
                            refine r_dunfocus (P := Try.prog) (I := dI) kstr ?_
                            refine r_imp_at (R' := Res.dfiles Try.prog dI mv1 (pset .str a1 ((laidOver f22.1 (Int.toNat a2) a3), f22.2.1, o30) o20)) 0 rfl dat_dfiles ?_
                            refine r_perm (L' := [Res.var b2 71 DT (r15.2.1, mv1, r15.2.2.2.1, r15.2.2.2.2.1, r15.2.2.2.2.2.1, r15.2.2.2.2.2.2.1, r15.2.2.2.2.2.2.2, ()), Res.dfiles Try.prog dI mv1 (pset .str a1 ((laidOver f22.1 (Int.toNat a2) a3), f22.2.1, o30) o20)]) ((List.perm_middle (a := Res.var b2 71 DT (r15.2.1, mv1, r15.2.2.2.1, r15.2.2.2.2.1, r15.2.2.2.2.2.1, r15.2.2.2.2.2.2.1, r15.2.2.2.2.2.2.2, ())) (l₁ := [Res.dfiles Try.prog dI mv1 (pset .str a1 ((laidOver f22.1 (Int.toNat a2) a3), f22.2.1, o30) o20)]) (l₂ := [])).trans (.cons _ (List.Perm.refl _))) ?_
                            refine r_disk (P := Try.prog) (I := dI) (D := (r15.2.1, (pset .str a1 ((laidOver f22.1 (Int.toNat a2) a3), f22.2.1, o30) o20), r15.2.2.2.1, r15.2.2.2.2.1, r15.2.2.2.2.2.1, r15.2.2.2.2.2.2.1, r15.2.2.2.2.2.2.2)) ?_
                            obtain rfl := Option.some.inj h
                            exact r_ret1 rfl (.tmp rfl) (fun _ _ g => g) (fun _ _ _ => (.cons_cons _ .slnil))

theorem disk_Disk_found_ok (b0 : Nat) (mv0 : Value) (a0 : DiskS) (a1 : List Int) (r : Int) (h : disk_Disk_found a0 a1 = some r) : Fn Try.prog 38 [ptr b0 0, .one .str a1] [Res.var b0 71 DT (a0.1, mv0, a0.2.2.1, a0.2.2.2.1, a0.2.2.2.2.1, a0.2.2.2.2.2.1, a0.2.2.2.2.2.2, ()), Res.dfiles Try.prog dI mv0 a0.2.1] (fun v => .tup [⟨.raw NV, tupv v 0⟩, ⟨(.int .i64), r⟩]) (fun v => [Res.var b0 71 DT (a0.1, mv0, a0.2.2.1, a0.2.2.2.1, a0.2.2.2.2.1, a0.2.2.2.2.2.1, a0.2.2.2.2.2.2, ()), Res.dfound Try.prog dI mv0 a0.2.1 a1 (tupv v 0) r]) := by
  unfold disk_Disk_found at h
  refine enter Try.func38 rfl 24 rfl rfl fun F => ?_
  refine r_seq ?_
  refine r_region ?_
  refine r_pure tabOk 2 [0, 1] (E' := [(0, ptr b0 0), (1, .one .str a1)]) rfl ?_
  refine r_nil ?_
  refine r_then ?_
  refine r_seq ?_
  refine r_seq ?_
  refine r_region ?_
  refine r_pure tabOk 3 [0, 1, 10] (E' := [(0, ptr b0 0), (1, .one .str a1), (10, ptr b0 5)]) rfl ?_
  refine y (y_load 0 ((.snd (.snd (.snd (.snd (.snd (.fst .here))))))) rfl rfl (by first | rfl | (simp only [Pth.off, T.size]; omega)) (ok_snd (ok_snd (ok_snd (ok_snd (ok_snd (ok_fst ok_here)))))) ty4) rfl ?_
  refine r_nil ?_
  refine r_then ?_
  refine r_if (b := a0.2.2.2.2.2.1) rfl (fun hc => ?_) (fun hc => ?_)
  · rw [if_pos hc] at h
    refine r_seq ?_
    refine r_region ?_
    refine r_pure tabOk 2 [4, 5] (E' := [(4, .one (.raw (.pointer none)) (.pointer none)), (5, .one (.int .i64) 9)]) rfl ?_
    refine r_nil ?_
    refine r_then ?_
    refine r_ret ?_
    refine t_then ?_
    refine r_perm (L' := [Res.dfiles Try.prog dI mv0 a0.2.1, Res.var b0 71 DT (a0.1, mv0, a0.2.2.1, a0.2.2.2.1, a0.2.2.2.2.1, a0.2.2.2.2.2.1, a0.2.2.2.2.2.2, ())]) ((List.perm_middle (a := Res.dfiles Try.prog dI mv0 a0.2.1) (l₁ := [Res.var b0 71 DT (a0.1, mv0, a0.2.2.1, a0.2.2.2.1, a0.2.2.2.2.1, a0.2.2.2.2.2.1, a0.2.2.2.2.2.2, ())]) (l₂ := [])).trans (.cons _ (List.Perm.refl _))) ?_
    refine r_notfound (name := a1) (q := NV) (e := 9) (by decide) ?_
    refine r_perm (L' := [Res.var b0 71 DT (a0.1, mv0, a0.2.2.1, a0.2.2.2.1, a0.2.2.2.2.1, a0.2.2.2.2.2.1, a0.2.2.2.2.2.2, ()), Res.dfound Try.prog dI mv0 a0.2.1 a1 NV 9]) ((List.perm_middle (a := Res.var b0 71 DT (a0.1, mv0, a0.2.2.1, a0.2.2.2.1, a0.2.2.2.2.1, a0.2.2.2.2.2.1, a0.2.2.2.2.2.2, ())) (l₁ := [Res.dfound Try.prog dI mv0 a0.2.1 a1 NV 9]) (l₂ := [])).trans (.cons _ (List.Perm.refl _))) ?_
    obtain rfl := Option.some.inj h
    exact r_rets (rs := [.tmp 4, .tmp 5]) rfl (.cons (.tmp rfl) (.cons (.tmp rfl) .nil)) rfl (fun _ vs g => by cases g with | cons h0 g => cases g with | cons h1 g => cases g; exact ⟨_, rfl, .cons (raw_self h0) (.cons h1 .nil)⟩) (fun _ vs g => by cases g with | cons h0 g => cases g with | cons h1 g => cases g; rw [raw_eq h0]; exact (.cons_cons _ (.cons_cons _ .slnil)))
  · rw [if_neg (ne_true_of_eq_false hc)] at h
    refine r_skip ?_
    refine r_then ?_
    refine r_seq ?_
    refine r_region ?_
    refine r_pure tabOk 3 [1, 15] (E' := [(1, .one .str a1), (15, ptr b0 1)]) rfl ?_
    refine y (y_load 0 ((.snd (.fst .here))) rfl rfl (by first | rfl | (simp only [Pth.off, T.size]; omega)) (ok_snd (ok_fst ok_here)) ty69) rfl ?_
    refine r_pure tabOk 1 [16, 17] (E' := [(16, .one (.raw (.map none)) mv0), (17, .one .str a1)]) rfl ?_
    refine r_perm (L' := [Res.dfiles Try.prog dI mv0 a0.2.1, Res.var b0 71 DT (a0.1, mv0, a0.2.2.1, a0.2.2.2.1, a0.2.2.2.2.1, a0.2.2.2.2.2.1, a0.2.2.2.2.2.2, ())]) ((List.perm_middle (a := Res.dfiles Try.prog dI mv0 a0.2.1) (l₁ := [Res.var b0 71 DT (a0.1, mv0, a0.2.2.1, a0.2.2.2.1, a0.2.2.2.2.1, a0.2.2.2.2.2.1, a0.2.2.2.2.2.2, ())]) (l₂ := [])).trans (.cons _ (List.Perm.refl _))) ?_
    refine r_dlook kstr rfl rfl Try.underlying69 zNV rfl fun q1 => ?_
    refine r_pure tabOk 5 [6, 7] (E' := [(6, .one (.raw (.pointer none)) q1), (7, .one .bool (Option.isSome (pget .str a1 a0.2.1)))]) rfl ?_
    obtain ⟨there2, hthere2, h⟩ := bnd_ex h
    rw [hthere2]
    refine r_nil ?_
    refine r_then ?_
    refine r_seq ?_
    refine r_seq ?_
    refine r_region ?_
    refine r_pure tabOk 2 [6, 22] (E' := [(6, .one (.raw (.pointer none)) q1), (22, .one .bool (!there2))]) rfl ?_
    refine r_nil ?_
    refine r_then ?_
    refine r_if (b := (!there2)) rfl (fun hc => ?_) (fun hc => ?_)
    · rw [if_pos hc] at h
      refine r_seq ?_
      refine r_region ?_
      refine r_pure tabOk 2 [4, 5] (E' := [(4, .one (.raw (.pointer none)) (.pointer none)), (5, .one (.int .i64) 5)]) rfl ?_
      refine r_nil ?_
      refine r_then ?_
      refine r_ret ?_
      refine t_then ?_
      refine r_imp_at (R' := Res.dfiles Try.prog dI mv0 a0.2.1) 0 rfl dat_dfiles ?_
      refine r_notfound (name := a1) (q := NV) (e := 5) (by decide) ?_
      refine r_perm (L' := [Res.var b0 71 DT (a0.1, mv0, a0.2.2.1, a0.2.2.2.1, a0.2.2.2.2.1, a0.2.2.2.2.2.1, a0.2.2.2.2.2.2, ()), Res.dfound Try.prog dI mv0 a0.2.1 a1 NV 5]) ((List.perm_middle (a := Res.var b0 71 DT (a0.1, mv0, a0.2.2.1, a0.2.2.2.1, a0.2.2.2.2.1, a0.2.2.2.2.2.1, a0.2.2.2.2.2.2, ())) (l₁ := [Res.dfound Try.prog dI mv0 a0.2.1 a1 NV 5]) (l₂ := [])).trans (.cons _ (List.Perm.refl _))) ?_
      obtain rfl := Option.some.inj h
      exact r_rets (rs := [.tmp 4, .tmp 5]) rfl (.cons (.tmp rfl) (.cons (.tmp rfl) .nil)) rfl (fun _ vs g => by cases g with | cons h0 g => cases g with | cons h1 g => cases g; exact ⟨_, rfl, .cons (raw_self h0) (.cons h1 .nil)⟩) (fun _ vs g => by cases g with | cons h0 g => cases g with | cons h1 g => cases g; rw [raw_eq h0]; exact (.cons_cons _ (.cons_cons _ .slnil)))
    · rw [if_neg (ne_true_of_eq_false hc)] at h
      refine r_skip ?_
      refine r_then ?_
      refine r_seq ?_
      refine r_region ?_
      refine r_pure tabOk 3 [4, 5] (E' := [(4, .one (.raw (.pointer none)) q1), (5, .one (.int .i64) 0)]) rfl ?_
      refine r_nil ?_
      refine r_then ?_
      refine r_ret ?_
      refine r_isfound ?_
      refine r_perm (L' := [Res.var b0 71 DT (a0.1, mv0, a0.2.2.1, a0.2.2.2.1, a0.2.2.2.2.1, a0.2.2.2.2.2.1, a0.2.2.2.2.2.2, ()), Res.dfound Try.prog dI mv0 a0.2.1 a1 q1 0]) ((List.perm_middle (a := Res.var b0 71 DT (a0.1, mv0, a0.2.2.1, a0.2.2.2.1, a0.2.2.2.2.1, a0.2.2.2.2.2.1, a0.2.2.2.2.2.2, ())) (l₁ := [Res.dfound Try.prog dI mv0 a0.2.1 a1 q1 0]) (l₂ := [])).trans (.cons _ (List.Perm.refl _))) ?_
      obtain rfl := Option.some.inj h
      exact r_rets (rs := [.tmp 4, .tmp 5]) rfl (.cons (.tmp rfl) (.cons (.tmp rfl) .nil)) rfl (fun _ vs g => by cases g with | cons h0 g => cases g with | cons h1 g => cases g; exact ⟨_, rfl, .cons (raw_self h0) (.cons h1 .nil)⟩) (fun _ vs g => by cases g with | cons h0 g => cases g with | cons h1 g => cases g; rw [raw_eq h0]; exact (.cons_cons _ (.cons_cons _ .slnil)))

theorem slices_Clone__byte_byte_ok (a0 : List (Int)) (r : List (Int)) (h : slices_Clone__byte_byte a0 = some r) : Fn Try.prog 40 [.one (.sl 5 (.int .u8)) a0] [] (fun v => .one (.raw (.slice none 0 0)) v) (fun v => [Res.own v 5 (.int .u8) r]) := by
  unfold slices_Clone__byte_byte at h
  refine enter Try.func40 rfl 8 rfl rfl fun F => ?_
  refine r_seq ?_
  refine r_region ?_
  refine r_pure tabOk 1 [0] (E' := [(0, .one (.sl 5 (.int .u8)) a0)]) rfl ?_
  refine r_nil ?_
  refine r_then ?_
  refine r_seq ?_
  refine r_seq ?_
  refine r_region ?_
  refine r_pure tabOk 1 [0, 3] (E' := [(0, .one (.sl 5 (.int .u8)) a0), (3, .one (.sl 5 (.int .u8)) a0)]) rfl ?_
  refine r_slnil rfl Try.underlying77 rfl fun g1 hg1 => ?_
  refine r_nil ?_
  refine r_then ?_
  refine r_if (b := g1) rfl (fun hc => ?_) (fun hc => ?_)
  · have hx := hg1 hc
    subst hx
    have h : (some [] : Option (List Int)) = some r := by simpa using h
    refine r_seq ?_
    refine r_region ?_
    refine r_pure tabOk 1 [2] (E' := [(2, .one (.raw (.slice none 0 0)) (.slice none 0 0))]) rfl ?_
    refine r_nil ?_
    refine r_then ?_
    refine r_ret ?_
    refine t_then ?_
    refine r_nilown (.slice none 0 0) rfl 5 (.int .u8) ?_
    obtain rfl := Option.some.inj h
    exact r_ret1 rfl (.tmp rfl) (fun _ _ g => holds_raw.2 ⟨rfl, by rw [(holds_raw.1 g).1]; exact (holds_raw.1 g).2⟩) (fun _ _ g => by obtain ⟨rfl, _⟩ := holds_raw.1 g; exact (.cons_cons _ .slnil))
  · refine r_skip ?_
    refine r_then ?_
    refine r_seq ?_
    refine r_region ?_
    refine r_lits (B := 1) tabOk rfl el5 rfl rfl rfl .nil rfl fun v2 => ?_
    refine r_pure tabOk 1 [5, 6] (E' := [(5, .one (.raw (.slice none 0 0)) v2), (6, .one (.sl 5 (.int .u8)) a0)]) rfl ?_
    obtain ⟨hc, h⟩ := ite_ex h
    refine r_append (B := 1) tabOk 0 rfl rfl (src_sl rfl) rfl el5 rfl rfl hc rfl fun v3 => ?_
    refine r_pure tabOk 1 [2] (E' := [(2, .one (.raw (.slice none 0 0)) v3)]) rfl ?_
    refine r_nil ?_
    refine r_then ?_
    refine r_ret ?_
    obtain rfl := Option.some.inj h
    exact r_ret1 rfl (.tmp rfl) (fun _ _ g => holds_raw.2 ⟨rfl, by rw [(holds_raw.1 g).1]; exact (holds_raw.1 g).2⟩) (fun _ _ g => by obtain ⟨rfl, _⟩ := holds_raw.1 g; exact (.cons_cons _ .slnil))

theorem disk_Disk_Sync_ok (p0 : Value) (a0 : DiskS) (a1 : List Int) (r : Int × DiskS) (h : disk_Disk_Sync a0 a1 = some r) : Fn Try.prog 11 [.one (.raw (.pointer none)) p0, .one .str a1] [Res.disk Try.prog dI p0 a0] (fun _ => .one (.int .i64) r.1) (fun _ => [Res.disk Try.prog dI p0 r.2]) := by
  unfold disk_Disk_Sync at h
  refine enter Try.func11 rfl 34 rfl rfl fun F => ?_
  refine r_undisk fun b2 mv1 hp => ?_
  subst hp
  refine r_seq ?_
  refine r_region ?_
  refine r_pure tabOk 1 [0, 1] (E' := [(0, ptr b2 0), (1, .one .str a1)]) rfl ?_
  refine r_nil ?_
  refine r_then ?_
  refine r_seq ?_
  refine r_region ?_
  refine r_pure tabOk 2 [0, 9, 10] (E' := [(0, ptr b2 0), (9, ptr b2 0), (10, .one .str a1)]) rfl ?_
  obtain ⟨r3, hr3, h⟩ := bind_ex h
  refine r_call (Lo := []) (disk_Disk_found_ok b2 mv1 a0 a1 _ hr3) (by kernel_rfl) (List.Perm.refl _) rfl rfl fun v4 => ?_
  refine r_pure tabOk 5 [0, 5, 6] (E' := [(0, ptr b2 0), (5, .one (.raw (.pointer none)) (tupv v4 0)), (6, .one (.int .i64) r3)]) rfl ?_
  refine r_nil ?_
  refine r_then ?_
  refine r_seq ?_
  refine r_seq ?_
  refine r_region ?_
  refine r_pure tabOk 2 [0, 5, 6, 15] (E' := [(0, ptr b2 0), (5, .one (.raw (.pointer none)) (tupv v4 0)), (6, .one (.int .i64) r3), (15, .one .bool (r3 != 0))]) rfl ?_
  refine r_nil ?_
  refine r_then ?_
  refine r_if (b := (r3 != 0)) rfl (fun hc => ?_) (fun hc => ?_)
  · rw [if_pos hc] at h
    refine r_seq ?_
    refine r_region ?_
    refine r_pure tabOk 2 [4] (E' := [(4, .one (.int .i64) r3)]) rfl ?_
    refine r_nil ?_
    refine r_then ?_
    refine r_ret ?_
    refine t_then ?_
    refine r_imp_at (R' := Res.dfiles Try.prog dI mv1 a0.2.1) 1 rfl dfound_dfiles ?_
    refine r_disk (P := Try.prog) (I := dI) (D := a0) ?_
    obtain rfl := Option.some.inj h
    exact r_ret1 rfl (.tmp rfl) (fun _ _ g => g) (fun _ _ _ => (.cons_cons _ .slnil))
  · rw [if_neg (ne_true_of_eq_false hc)] at h
    refine r_skip ?_
    refine r_then ?_
    refine r_seq ?_
    refine r_seq ?_
    refine r_region ?_
    refine r_pure tabOk 1 [5, 17] (E' := [(5, .one (.raw (.pointer none)) (tupv v4 0)), (17, ptr b2 0)]) rfl ?_
    obtain ⟨r5, hr5, h⟩ := bind_ex h
    refine r_call (Lo := [Res.dfound Try.prog dI mv1 a0.2.1 a1 (tupv v4 0) r3]) (disk_Disk_counted_ok b2 mv1 a0 2 _ hr5) (by kernel_rfl) (List.Perm.refl _) rfl rfl fun _ => ?_
    refine r_pure tabOk 1 [5, 7] (E' := [(5, .one (.raw (.pointer none)) (tupv v4 0)), (7, .one (.int .i64) r5.1)]) rfl ?_
    refine r_nil ?_
    refine r_then ?_
    refine r_seq ?_
    refine r_region ?_
    refine r_pure tabOk 2 [5, 7, 20] (E' := [(5, .one (.raw (.pointer none)) (tupv v4 0)), (7, .one (.int .i64) r5.1), (20, .one .bool (r5.1 != 0))]) rfl ?_
    refine r_nil ?_
    refine r_then ?_
    refine r_if (b := (r5.1 != 0)) rfl (fun hc => ?_) (fun hc => ?_)
    · rw [if_pos hc] at h
      refine r_seq ?_
      refine r_region ?_
      refine r_pure tabOk 2 [4] (E' := [(4, .one (.int .i64) r5.1)]) rfl ?_
      refine r_nil ?_
      refine r_then ?_
      refine r_ret ?_
      refine t_then ?_
      refine r_imp_at (R' := Res.dfiles Try.prog dI mv1 a0.2.1) 1 rfl dfound_dfiles ?_
      refine r_disk (P := Try.prog) (I := dI) (D := (r5.2.1, a0.2.1, r5.2.2.2.1, r5.2.2.2.2.1, r5.2.2.2.2.2.1, r5.2.2.2.2.2.2.1, r5.2.2.2.2.2.2.2)) ?_
      obtain rfl := Option.some.inj h
      exact r_ret1 rfl (.tmp rfl) (fun _ _ g => g) (fun _ _ _ => (.cons_cons _ .slnil))
    · rw [if_neg (ne_true_of_eq_false hc)] at h
      refine r_skip ?_
      refine r_then ?_
      refine r_seq ?_
      obtain ⟨hc, h⟩ := ite_ex h
      refine r_imp_at (R' := Res.dat Try.prog dI mv1 a0.2.1 a1 (tupv v4 0)) 1 rfl (dfound_dat hc) ?_
      obtain ⟨f6, hf6, h⟩ := bind_ex h
      refine r_perm (L' := [Res.dat Try.prog dI mv1 a0.2.1 a1 (tupv v4 0), Res.var b2 71 DT (r5.2.1, mv1, r5.2.2.2.1, r5.2.2.2.2.1, r5.2.2.2.2.2.1, r5.2.2.2.2.2.2.1, r5.2.2.2.2.2.2.2, ())]) ((List.perm_middle (a := Res.dat Try.prog dI mv1 a0.2.1 a1 (tupv v4 0)) (l₁ := [Res.var b2 71 DT (r5.2.1, mv1, r5.2.2.2.1, r5.2.2.2.2.1, r5.2.2.2.2.2.1, r5.2.2.2.2.2.2.1, r5.2.2.2.2.2.2.2, ())]) (l₂ := [])).trans (.cons _ (List.Perm.refl _))) ?_
      refine r_dfocus kstr hf6 fun fb7 sv8 tv9 dv10 hq => ?_
      rw [hq]
      clear hq
      refine r_region ?_
      refine r_pure tabOk 4 [5, 22, 25] (E' := [(5, ptr fb7 0), (22, ptr fb7 0), (25, ptr fb7 0)]) rfl ?_
      refine y (y_load 0 ((.fst .here)) rfl rfl (by first | rfl | (simp only [Pth.off, T.size]; omega)) (ok_fst ok_here) tx0) rfl ?_
      obtain ⟨r11, hr11, h⟩ := bind_ex h
      refine r_callwo (slices_Clone__byte_byte_ok f6.1 _ hr11) (by kernel_rfl) (fun _ => rfl) (fun _ r hr => by rcases List.mem_singleton.1 hr with rfl; exact Res.free_own rfl) (.sub rfl (sub_own 1 rfl) .nil) rfl fun v12 => ?_
      refine r_pure tabOk 2 [5, 27, 29] (E' := [(5, ptr fb7 0), (27, .one (.raw (.slice none 0 0)) v12), (29, ptr fb7 1)]) rfl ?_
      refine r_store 1 ((.snd (.fst .here))) rfl rfl rfl (by first | rfl | (simp only [Pth.off, T.size]; omega)) (ok_snd (ok_fst ok_here)) tx0 ?_
      refine r_lose (L' := [Res.own v12 5 (.int .u8) r11, Res.var fb7 81 FT (sv8, v12, dv10, ()), Res.own sv8 5 (.int .u8) f6.1, Res.dirty Try.prog dI dv10 f6.2.2, Res.dhole Try.prog dI mv1 a0.2.1 a1 (.pointer (some ⟨fb7, 0, none⟩)), Res.var b2 71 DT (r5.2.1, mv1, r5.2.2.2.1, r5.2.2.2.2.1, r5.2.2.2.2.2.1, r5.2.2.2.2.2.2.1, r5.2.2.2.2.2.2.2, ())]) (.cons_cons _ (.cons_cons _ (.cons_cons _ (.cons _ (.cons_cons _ (.cons_cons _ (.cons_cons _ .slnil))))))) ?_
      refine r_nil ?_
      refine r_then ?_
      refine r_seq ?_
      refine r_region ?_
      refine r_pure tabOk 3 [32] (E' := [(32, ptr fb7 2)]) rfl ?_
      refine y (y_load 1 ((.snd (.snd (.fst .here)))) rfl rfl (by first | rfl | (simp only [Pth.off, T.size]; omega)) (ok_snd (ok_snd (ok_fst ok_here))) ty79) rfl ?_
      refine r_undirty 3 rfl fun l13 hl13 => ?_
      refine r_clear 3 rfl rfl Try.underlying79 ?_
      refine r_redirty (P := Try.prog) (I := dI) (keys := []) 3 rfl rfl ?_
      refine r_nil ?_
      refine r_then ?_
      refine r_seq ?_
      refine r_region ?_
      refine r_pure tabOk 1 [4] (E' := [(4, .one (.int .i64) 0)]) rfl ?_
      refine r_nil ?_
      refine r_then ?_
      refine r_ret ?_
      refine r_perm (L' := [Res.var fb7 81 FT (sv8, v12, dv10, ()), Res.own sv8 5 (.int .u8) f6.1, Res.own v12 5 (.int .u8) r11, Res.dirty Try.prog dI dv10 [], Res.dhole Try.prog dI mv1 a0.2.1 a1 (.pointer (some ⟨fb7, 0, none⟩)), Res.var b2 71 DT (r5.2.1, mv1, r5.2.2.2.1, r5.2.2.2.2.1, r5.2.2.2.2.2.1, r5.2.2.2.2.2.2.1, r5.2.2.2.2.2.2.2, ())]) ((List.perm_middle (a := Res.var fb7 81 FT (sv8, v12, dv10, ())) (l₁ := [Res.own v12 5 (.int .u8) r11]) (l₂ := [Res.own sv8 5 (.int .u8) f6.1, Res.dirty Try.prog dI dv10 [], Res.dhole Try.prog dI mv1 a0.2.1 a1 (.pointer (some ⟨fb7, 0, none⟩)), Res.var b2 71 DT (r5.2.1, mv1, r5.2.2.2.1, r5.2.2.2.2.1, r5.2.2.2.2.2.1, r5.2.2.2.2.2.2.1, r5.2.2.2.2.2.2.2, ())])).trans (.cons _ ((List.perm_middle (a := Res.own sv8 5 (.int .u8) f6.1) (l₁ := [Res.own v12 5 (.int .u8) r11]) (l₂ := [Res.dirty Try.prog dI dv10 [], Res.dhole Try.prog dI mv1 a0.2.1 a1 (.pointer (some ⟨fb7, 0, none⟩)), Res.var b2 71 DT (r5.2.1, mv1, r5.2.2.2.1, r5.2.2.2.2.1, r5.2.2.2.2.2.1, r5.2.2.2.2.2.2.1, r5.2.2.2.2.2.2.2, ())])).trans (.cons _ (List.Perm.refl _))))) ?_
      refine r_dunfocus (P := Try.prog) (I := dI) kstr ?_
      refine r_imp_at (R' := Res.dfiles Try.prog dI mv1 (pset .str a1 (f6.1, r11, []) a0.2.1)) 0 rfl dat_dfiles ?_
      refine r_perm (L' := [Res.var b2 71 DT (r5.2.1, mv1, r5.2.2.2.1, r5.2.2.2.2.1, r5.2.2.2.2.2.1, r5.2.2.2.2.2.2.1, r5.2.2.2.2.2.2.2, ()), Res.dfiles Try.prog dI mv1 (pset .str a1 (f6.1, r11, []) a0.2.1)]) ((List.perm_middle (a := Res.var b2 71 DT (r5.2.1, mv1, r5.2.2.2.1, r5.2.2.2.2.1, r5.2.2.2.2.2.1, r5.2.2.2.2.2.2.1, r5.2.2.2.2.2.2.2, ())) (l₁ := [Res.dfiles Try.prog dI mv1 (pset .str a1 (f6.1, r11, []) a0.2.1)]) (l₂ := [])).trans (.cons _ (List.Perm.refl _))) ?_
      refine r_disk (P := Try.prog) (I := dI) (D := (r5.2.1, (pset .str a1 (f6.1, r11, []) a0.2.1), r5.2.2.2.1, r5.2.2.2.2.1, r5.2.2.2.2.2.1, r5.2.2.2.2.2.2.1, r5.2.2.2.2.2.2.2)) ?_
      obtain rfl := Option.some.inj h
      exact r_ret1 rfl (.tmp rfl) (fun _ _ g => g) (fun _ _ _ => (.cons_cons _ .slnil))

theorem cutOk : CutOk Try.prog dI 44 := cut_of Try.func44 rfl 10 rfl (by decide) fun F s size => by
  refine r_seq ?_
  refine r_region ?_
  refine r_pure tabOk 1 [0, 2] (E' := [(0, .one (.int .i64) s), (2, .ref (.int .i64) size)]) rfl ?_
  refine r_nil ?_
  refine r_then ?_
  refine r_seq ?_
  refine r_region ?_
  refine r_pure tabOk 2 [2, 7] (E' := [(2, .ref (.int .i64) size), (7, .one (.int .i64) (IntKind.wrap .i64 (s * 64)))]) rfl ?_
  refine y (y_ref rfl ty3) rfl ?_
  refine r_pure tabOk 2 [5] (E' := [(5, .one .bool (decide (size ≤ IntKind.wrap .i64 (s * 64))))]) rfl ?_
  refine r_nil ?_
  refine r_then ?_
  refine r_ret ?_
  exact r_ret1 rfl (.tmp rfl) (fun _ _ g => g) (fun _ _ _ => .slnil)

theorem delOk : DelOk Try.prog dI 43 44 := del_of Try.laysDel rfl Try.underlying3 (fun _ _ => run_callFunc (by kernel_rfl)) cutOk

theorem disk_Disk_Truncate_ok (p0 : Value) (a0 : DiskS) (a1 : List Int) (a2 : Int) (r : Int × DiskS) (h : disk_Disk_Truncate a0 a1 a2 = some r) : Fn Try.prog 15 [.one (.raw (.pointer none)) p0, .one .str a1, .one (.int .i64) a2] [Res.disk Try.prog dI p0 a0] (fun _ => .one (.int .i64) r.1) (fun _ => [Res.disk Try.prog dI p0 r.2]) := by
  unfold disk_Disk_Truncate at h
  refine enter Try.func15 rfl 60 rfl rfl fun F => ?_
  refine r_undisk fun b2 mv1 hp => ?_
  subst hp
  refine r_seq ?_
  refine r_region ?_
  refine r_box rfl rfl fun b3 => ?_
  refine r_pure tabOk 1 [0, 1, 5] (E' := [(0, ptr b2 0), (1, .one .str a1), (5, ptr b3 0)]) rfl ?_
  refine r_nil ?_
  refine r_then ?_
  refine r_seq ?_
  refine r_region ?_
  refine r_pure tabOk 2 [5, 10, 11] (E' := [(5, ptr b3 0), (10, ptr b2 0), (11, .one .str a1)]) rfl ?_
  refine r_perm (L' := [Res.var b2 71 DT (a0.1, mv1, a0.2.2.1, a0.2.2.2.1, a0.2.2.2.2.1, a0.2.2.2.2.2.1, a0.2.2.2.2.2.2, ()), Res.dfiles Try.prog dI mv1 a0.2.1, Res.var b3 3 (.int .i64) a2]) ((List.perm_middle (a := Res.var b2 71 DT (a0.1, mv1, a0.2.2.1, a0.2.2.2.1, a0.2.2.2.2.1, a0.2.2.2.2.2.1, a0.2.2.2.2.2.2, ())) (l₁ := [Res.var b3 3 (.int .i64) a2]) (l₂ := [Res.dfiles Try.prog dI mv1 a0.2.1])).trans (.cons _ ((List.perm_middle (a := Res.dfiles Try.prog dI mv1 a0.2.1) (l₁ := [Res.var b3 3 (.int .i64) a2]) (l₂ := [])).trans (.cons _ (List.Perm.refl _))))) ?_
  obtain ⟨r4, hr4, h⟩ := bind_ex h
  refine r_call (Lo := [Res.var b3 3 (.int .i64) a2]) (disk_Disk_found_ok b2 mv1 a0 a1 _ hr4) (by kernel_rfl) (List.Perm.refl _) rfl rfl fun v5 => ?_
  refine r_pure tabOk 5 [5, 7, 8] (E' := [(5, ptr b3 0), (7, .one (.raw (.pointer none)) (tupv v5 0)), (8, .one (.int .i64) r4)]) rfl ?_
  refine r_nil ?_
  refine r_then ?_
  refine r_seq ?_
  refine r_seq ?_
  refine r_region ?_
  refine r_pure tabOk 2 [5, 7, 8, 16] (E' := [(5, ptr b3 0), (7, .one (.raw (.pointer none)) (tupv v5 0)), (8, .one (.int .i64) r4), (16, .one .bool (r4 != 0))]) rfl ?_
  refine r_nil ?_
  refine r_then ?_
  refine r_if (b := (r4 != 0)) rfl (fun hc => ?_) (fun hc => ?_)
  · rw [if_pos hc] at h
    refine r_seq ?_
    refine r_region ?_
    refine r_pure tabOk 2 [6] (E' := [(6, .one (.int .i64) r4)]) rfl ?_
    refine r_nil ?_
    refine r_then ?_
    refine r_ret ?_
    refine t_then ?_
    refine r_imp_at (R' := Res.dfiles Try.prog dI mv1 a0.2.1) 1 rfl dfound_dfiles ?_
    refine r_disk (P := Try.prog) (I := dI) (D := a0) ?_
    obtain rfl := Option.some.inj h
    exact r_ret1 rfl (.tmp rfl) (fun _ _ g => g) (fun _ _ _ => (.cons_cons _ (.cons _ .slnil)))
  · rw [if_neg (ne_true_of_eq_false hc)] at h
    refine r_skip ?_
    refine r_then ?_
    refine r_seq ?_
    refine r_seq ?_
    obtain ⟨hc, h⟩ := ite_ex h
    refine r_imp_at (R' := Res.dat Try.prog dI mv1 a0.2.1 a1 (tupv v5 0)) 1 rfl (dfound_dat hc) ?_
    obtain ⟨f6, hf6, h⟩ := bind_ex h
    refine r_perm (L' := [Res.dat Try.prog dI mv1 a0.2.1 a1 (tupv v5 0), Res.var b2 71 DT (a0.1, mv1, a0.2.2.1, a0.2.2.2.1, a0.2.2.2.2.1, a0.2.2.2.2.2.1, a0.2.2.2.2.2.2, ()), Res.var b3 3 (.int .i64) a2]) ((List.perm_middle (a := Res.dat Try.prog dI mv1 a0.2.1 a1 (tupv v5 0)) (l₁ := [Res.var b2 71 DT (a0.1, mv1, a0.2.2.1, a0.2.2.2.1, a0.2.2.2.2.1, a0.2.2.2.2.2.1, a0.2.2.2.2.2.2, ())]) (l₂ := [Res.var b3 3 (.int .i64) a2])).trans (.cons _ (List.Perm.refl _))) ?_
    refine r_dfocus kstr hf6 fun fb7 sv8 tv9 dv10 hq => ?_
    rw [hq]
    clear hq
    refine r_drawn (by kernel_rfl) (by kernel_rfl) ?_
    refine q_y (y_load 6 .here rfl rfl (by first | rfl | (simp only [Pth.off, T.size]; omega)) ok_here ty3) rfl ?_
    refine q_pure tabOk 2 [5, 7, 20] (E' := [(5, ptr b3 0), (7, ptr fb7 0), (20, .one .bool (decide (a2 < 0)))]) rfl ?_
    obtain ⟨b11, hbb11, h⟩ := bnd_ex h
    rw [hbb11]
    refine q_lsplit 8 [(5, ptr b3 0), (7, ptr fb7 0), (28, .one .bool (b11 || (decide (a2 > (List.length f6.1 : Int)))))] ?_ ?_
    · clear h
      cases b11 with
      | true =>
      refine q_pure tabOk 8 [5, 7, 28] (E' := [(5, ptr b3 0), (7, ptr fb7 0), (28, .one .bool true)]) rfl ?_
      refine q_lnil ?_
      exact q_meet rfl
      | false =>
      refine q_guard (by rfl) rfl ?_
      refine q_y (y_load 6 .here rfl rfl (by first | rfl | (simp only [Pth.off, T.size]; omega)) ok_here ty3) rfl ?_
      refine q_pure tabOk 3 [5, 7, 20, 21, 24] (E' := [(5, ptr b3 0), (7, ptr fb7 0), (20, .one .bool false), (21, .one (.int .i64) a2), (24, ptr fb7 0)]) rfl ?_
      refine q_guard (by rfl) rfl ?_
      refine q_y (y_load 0 ((.fst .here)) rfl rfl (by first | rfl | (simp only [Pth.off, T.size]; omega)) (ok_fst ok_here) tx0) rfl ?_
      refine q_guard (by rfl) rfl ?_
      refine q_y (y_lenown tabOk 1 rfl rfl rfl) rfl ?_
      refine q_pure tabOk 2 [5, 7, 28] (E' := [(5, ptr b3 0), (7, ptr fb7 0), (28, .one .bool (decide (a2 > (List.length f6.1 : Int))))]) rfl ?_
      refine q_lnil ?_
      exact q_meet rfl
    refine q_nil ?_
    refine r_then ?_
    refine r_if (b := (b11 || (decide (a2 > (List.length f6.1 : Int))))) rfl (fun hc => ?_) (fun hc => ?_)
    · rw [if_pos hc] at h
      refine r_seq ?_
      refine r_region ?_
      refine r_pure tabOk 1 [6] (E' := [(6, .one (.int .i64) 1)]) rfl ?_
      refine r_nil ?_
      refine r_then ?_
      refine r_ret ?_
      refine t_then ?_
      refine r_dunfocus_same (P := Try.prog) (I := dI) kstr hf6 ?_
      refine r_imp_at (R' := Res.dfiles Try.prog dI mv1 a0.2.1) 0 rfl dat_dfiles ?_
      refine r_perm (L' := [Res.var b2 71 DT (a0.1, mv1, a0.2.2.1, a0.2.2.2.1, a0.2.2.2.2.1, a0.2.2.2.2.2.1, a0.2.2.2.2.2.2, ()), Res.dfiles Try.prog dI mv1 a0.2.1, Res.var b3 3 (.int .i64) a2]) ((List.perm_middle (a := Res.var b2 71 DT (a0.1, mv1, a0.2.2.1, a0.2.2.2.1, a0.2.2.2.2.1, a0.2.2.2.2.2.1, a0.2.2.2.2.2.2, ())) (l₁ := [Res.dfiles Try.prog dI mv1 a0.2.1]) (l₂ := [Res.var b3 3 (.int .i64) a2])).trans (.cons _ (List.Perm.refl _))) ?_
      refine r_disk (P := Try.prog) (I := dI) (D := a0) ?_
      obtain rfl := Option.some.inj h
      exact r_ret1 rfl (.tmp rfl) (fun _ _ g => g) (fun _ _ _ => (.cons_cons _ (.cons _ .slnil)))
    · rw [if_neg (ne_true_of_eq_false hc)] at h
      refine r_skip ?_
      refine r_then ?_
      refine r_seq ?_
      refine r_any (by kernel_rfl) ?_
      refine a_float (i := 0) (t := ptr fb7 0) (blind_then blind_body) rfl (by kernel_rfl) (by kernel_rfl) (by kernel_rfl) (y_pure tabOk rfl) rfl ?_
      refine a_float (i := 1) (t := ptr fb7 0) (blind_then blind_body) rfl (by kernel_rfl) (by kernel_rfl) (by kernel_rfl) (y_pure tabOk rfl) rfl ?_
      refine a_two (i := 2) (j := 5) (by kernel_rfl) rfl rfl ?_ ?_
      · refine r_pure tabOk 1 [5, 7, 29, 31] (E' := [(5, ptr b3 0), (7, ptr fb7 0), (29, ptr fb7 0), (31, ptr fb7 0)]) rfl ?_
        refine r_nil ?_
        refine r_then ?_
        refine r_less [5, 7, 29, 31] rfl ?_
        refine a_float (i := 3) (t := ptr fb7 0) (blind_then blind_body) rfl (by kernel_rfl) (by kernel_rfl) (by kernel_rfl) (y_pure tabOk rfl) rfl ?_
        refine a_pref (fuel := 5) [4, 5] #[true, true, true, true, true, true, false, false, false, false, false] (by kernel_rfl) ?_
        refine q_y (y_load 0 ((.fst .here)) rfl rfl (by first | rfl | (simp only [Pth.off, T.size]; omega)) (ok_fst ok_here) tx0) rfl ?_
        refine q_y (y_load 6 .here rfl rfl (by first | rfl | (simp only [Pth.off, T.size]; omega)) ok_here ty3) rfl ?_
        refine q_nil ?_
        refine r_less [5, 7, 29, 33, 34] rfl ?_
        refine a_one (i := 6) (by kernel_rfl) rfl ?_
        obtain ⟨hs13, h⟩ := ite_ex h
        refine y (y_osub tabOk (i := (0 : Int)) (j := a2) rfl (sub_own 1 rfl) rfl rfl hs13.1 hs13.2.1 hs13.2.2 rfl ty5) rfl ?_
        refine r_nil ?_
        refine r_then ?_
        refine r_less [5, 7, 29, 35] rfl ?_
        refine a_one (i := 7) (by kernel_rfl) rfl ?_
        obtain ⟨r14, hr14, h⟩ := bind_ex h
        refine r_callwo (slices_Clone__byte_byte_ok (List.take (Int.toNat a2) f6.1) _ hr14) (by kernel_rfl) (fun _ => rfl) (fun _ r hr => by rcases List.mem_singleton.1 hr with rfl; exact Res.free_own rfl) (.sub rfl (sub_sub (sub_own 1 rfl) hs13.1 hs13.2.1 hs13.2.2) .nil) rfl fun v15 => ?_
        refine r_nil ?_
        refine r_then ?_
        refine r_less [5, 7, 29, 36] rfl ?_
        refine a_one (i := 8) (by kernel_rfl) rfl ?_
        refine r_pure tabOk 1 [5, 7, 36, 37] (E' := [(5, ptr b3 0), (7, ptr fb7 0), (36, .one (.raw (.slice none 0 0)) v15), (37, ptr fb7 0)]) rfl ?_
        refine r_nil ?_
        refine r_then ?_
        refine r_less [5, 7, 36, 37] rfl ?_
        refine a_float (i := 9) (t := ptr fb7 0) (blind_then blind_body) rfl (by kernel_rfl) (by kernel_rfl) (by kernel_rfl) (y_pure tabOk rfl) rfl ?_
        refine a_one (i := 10) (by kernel_rfl) rfl ?_
        refine r_store 1 ((.fst .here)) rfl rfl rfl (by first | rfl | (simp only [Pth.off, T.size]; omega)) (ok_fst ok_here) tx0 ?_
        refine r_lose (L' := [Res.own v15 5 (.int .u8) r14, Res.var fb7 81 FT (v15, tv9, dv10, ()), Res.own tv9 5 (.int .u8) f6.2.1, Res.dirty Try.prog dI dv10 f6.2.2, Res.dhole Try.prog dI mv1 a0.2.1 a1 (.pointer (some ⟨fb7, 0, none⟩)), Res.var b2 71 DT (a0.1, mv1, a0.2.2.1, a0.2.2.2.1, a0.2.2.2.2.1, a0.2.2.2.2.2.1, a0.2.2.2.2.2.2, ()), Res.var b3 3 (.int .i64) a2]) (.cons_cons _ (.cons_cons _ (.cons _ (.cons_cons _ (.cons_cons _ (.cons_cons _ (.cons_cons _ (.cons_cons _ .slnil)))))))) ?_
        refine r_nil ?_
        refine r_then ?_
        refine r_less [5, 7] rfl ?_
        refine a_end (by kernel_rfl) ?_
        refine r_then ?_
        refine r_seq ?_
        refine r_any (by kernel_rfl) ?_
        refine a_float (i := 0) (t := ptr fb7 0) (blind_then blind_body) rfl (by kernel_rfl) (by kernel_rfl) (by kernel_rfl) (y_pure tabOk rfl) rfl ?_
        refine a_float (i := 1) (t := ptr fb7 0) (blind_then blind_body) rfl (by kernel_rfl) (by kernel_rfl) (by kernel_rfl) (y_pure tabOk rfl) rfl ?_
        refine a_float (i := 6) (t := ptr fb7 0) (blind_then blind_body) rfl (by kernel_rfl) (by kernel_rfl) (by kernel_rfl) (y_pure tabOk rfl) rfl ?_
        refine a_pref (fuel := 2) [2, 3, 4, 5, 7, 8, 9, 10, 11, 12, 13] #[true, true, true, true, true, true, true, true, true, true, true, true, true, true, false, false] (by kernel_rfl) ?_
        refine q_pure tabOk 2 [5, 7, 39, 42, 45] (E' := [(5, ptr b3 0), (7, ptr fb7 0), (39, ptr fb7 0), (42, ptr fb7 1), (45, ptr fb7 0)]) rfl ?_
        refine q_y (y_load 1 ((.snd (.fst .here))) rfl rfl (by first | rfl | (simp only [Pth.off, T.size]; omega)) (ok_snd (ok_fst ok_here)) tx0) rfl ?_
        refine q_y (y_load 6 .here rfl rfl (by first | rfl | (simp only [Pth.off, T.size]; omega)) ok_here ty3) rfl ?_
        refine q_pure tabOk 2 [5, 7, 39, 43, 44, 47] (E' := [(5, ptr b3 0), (7, ptr fb7 0), (39, ptr fb7 0), (43, .one (.raw (.slice none 0 0)) tv9), (44, .one (.int .i64) a2), (47, ptr fb7 1)]) rfl ?_
        refine q_y (y_load 1 ((.snd (.fst .here))) rfl rfl (by first | rfl | (simp only [Pth.off, T.size]; omega)) (ok_snd (ok_fst ok_here)) tx0) rfl ?_
        refine q_y (y_lenown tabOk 2 rfl rfl rfl) rfl ?_
        refine q_y (y_min rfl rfl) rfl ?_
        obtain ⟨hs16, h⟩ := ite_ex h
        refine q_y (y_osub tabOk (i := (0 : Int)) (j := (min a2 (List.length f6.2.1 : Int))) rfl (sub_own 2 rfl) rfl rfl hs16.1 hs16.2.1 hs16.2.2 rfl ty5) rfl ?_
        refine q_pure tabOk 1 [5, 7, 51, 52] (E' := [(5, ptr b3 0), (7, ptr fb7 0), (51, .one (.raw (.slice none 0 0)) (subv (T.size (.int .u8)) tv9 (Int.toNat (0 : Int)) (Int.toNat (min a2 (List.length f6.2.1 : Int))))), (52, ptr fb7 0)]) rfl ?_
        refine q_nil ?_
        refine r_less [5, 7, 51, 52] rfl ?_
        refine a_float (i := 14) (t := ptr fb7 1) (blind_then blind_body) rfl (by kernel_rfl) (by kernel_rfl) (by kernel_rfl) (y_pure tabOk rfl) rfl ?_
        refine a_one (i := 15) (by kernel_rfl) rfl ?_
        refine r_ownsub (j := (Int.toNat (min a2 (List.length f6.2.1 : Int)))) 2 rfl (by have := hs16.2.2; omega) ?_
        refine r_store 1 ((.snd (.fst .here))) rfl rfl rfl (by first | rfl | (simp only [Pth.off, T.size]; omega)) (ok_snd (ok_fst ok_here)) tx0 ?_
        refine r_nil ?_
        refine r_then ?_
        refine r_less [5, 7] rfl ?_
        refine a_end (by kernel_rfl) ?_
        refine r_then ?_
        refine r_seq ?_
        refine r_region ?_
        refine r_pure tabOk 3 [5, 56] (E' := [(5, ptr b3 0), (56, ptr fb7 2)]) rfl ?_
        refine y (y_load 1 ((.snd (.snd (.fst .here)))) rfl rfl (by first | rfl | (simp only [Pth.off, T.size]; omega)) (ok_snd (ok_snd (ok_fst ok_here))) ty79) rfl ?_
        refine r_deldirtyK delOk (by kernel_rfl) 3 6 rfl rfl rfl rfl (by decide) (by simp) rfl rfl rfl ?_
        refine r_nil ?_
        refine r_then ?_
        refine r_seq ?_
        refine r_region ?_
        refine r_pure tabOk 1 [6] (E' := [(6, .one (.int .i64) 0)]) rfl ?_
        refine r_nil ?_
        refine r_then ?_
        refine r_ret ?_
        refine r_perm (L' := [Res.var fb7 81 FT (v15, (subv (T.size (.int .u8)) tv9 0 (Int.toNat (min a2 (List.length f6.2.1 : Int)))), dv10, ()), Res.own v15 5 (.int .u8) r14, Res.own (subv (T.size (.int .u8)) tv9 0 (Int.toNat (min a2 (List.length f6.2.1 : Int)))) 5 (.int .u8) (List.take (Int.toNat (min a2 (List.length f6.2.1 : Int))) f6.2.1), Res.dirty Try.prog dI dv10 (cutKeys f6.2.2 a2), Res.dhole Try.prog dI mv1 a0.2.1 a1 (.pointer (some ⟨fb7, 0, none⟩)), Res.var b2 71 DT (a0.1, mv1, a0.2.2.1, a0.2.2.2.1, a0.2.2.2.2.1, a0.2.2.2.2.2.1, a0.2.2.2.2.2.2, ()), Res.var b3 3 (.int .i64) a2]) ((List.perm_middle (a := Res.var fb7 81 FT (v15, (subv (T.size (.int .u8)) tv9 0 (Int.toNat (min a2 (List.length f6.2.1 : Int)))), dv10, ())) (l₁ := [Res.own v15 5 (.int .u8) r14]) (l₂ := [Res.own (subv (T.size (.int .u8)) tv9 0 (Int.toNat (min a2 (List.length f6.2.1 : Int)))) 5 (.int .u8) (List.take (Int.toNat (min a2 (List.length f6.2.1 : Int))) f6.2.1), Res.dirty Try.prog dI dv10 (cutKeys f6.2.2 a2), Res.dhole Try.prog dI mv1 a0.2.1 a1 (.pointer (some ⟨fb7, 0, none⟩)), Res.var b2 71 DT (a0.1, mv1, a0.2.2.1, a0.2.2.2.1, a0.2.2.2.2.1, a0.2.2.2.2.2.1, a0.2.2.2.2.2.2, ()), Res.var b3 3 (.int .i64) a2])).trans (.cons _ (List.Perm.refl _))) ?_
        refine r_dunfocus (P := Try.prog) (I := dI) kstr ?_
        refine r_imp_at (R' := Res.dfiles Try.prog dI mv1 (pset .str a1 (r14, (List.take (Int.toNat (min a2 (List.length f6.2.1 : Int))) f6.2.1), (cutKeys f6.2.2 a2)) a0.2.1)) 0 rfl dat_dfiles ?_
        refine r_perm (L' := [Res.var b2 71 DT (a0.1, mv1, a0.2.2.1, a0.2.2.2.1, a0.2.2.2.2.1, a0.2.2.2.2.2.1, a0.2.2.2.2.2.2, ()), Res.dfiles Try.prog dI mv1 (pset .str a1 (r14, (List.take (Int.toNat (min a2 (List.length f6.2.1 : Int))) f6.2.1), (cutKeys f6.2.2 a2)) a0.2.1), Res.var b3 3 (.int .i64) a2]) ((List.perm_middle (a := Res.var b2 71 DT (a0.1, mv1, a0.2.2.1, a0.2.2.2.1, a0.2.2.2.2.1, a0.2.2.2.2.2.1, a0.2.2.2.2.2.2, ())) (l₁ := [Res.dfiles Try.prog dI mv1 (pset .str a1 (r14, (List.take (Int.toNat (min a2 (List.length f6.2.1 : Int))) f6.2.1), (cutKeys f6.2.2 a2)) a0.2.1)]) (l₂ := [Res.var b3 3 (.int .i64) a2])).trans (.cons _ (List.Perm.refl _))) ?_
        refine r_disk (P := Try.prog) (I := dI) (D := (a0.1, (pset .str a1 (r14, (List.take (Int.toNat (min a2 (List.length f6.2.1 : Int))) f6.2.1), (cutKeys f6.2.2 a2)) a0.2.1), a0.2.2.1, a0.2.2.2.1, a0.2.2.2.2.1, a0.2.2.2.2.2.1, a0.2.2.2.2.2.2)) ?_
        obtain rfl := Option.some.inj h
        exact r_ret1 rfl (.tmp rfl) (fun _ _ g => g) (fun _ _ _ => (.cons_cons _ (.cons _ .slnil)))
      · refine y (y_load 6 .here rfl rfl (by first | rfl | (simp only [Pth.off, T.size]; omega)) ok_here ty3) rfl ?_
        refine r_nil ?_
        refine r_then ?_
        refine r_less [5, 7, 29, 30, 34] rfl ?_
        refine a_one (i := 2) (by kernel_rfl) rfl ?_
        refine r_pure tabOk 1 [5, 7, 29, 31, 34] (E' := [(5, ptr b3 0), (7, ptr fb7 0), (29, ptr fb7 0), (31, ptr fb7 0), (34, .one (.int .i64) a2)]) rfl ?_
        refine r_nil ?_
        refine r_then ?_
        refine r_less [5, 7, 29, 31, 34] rfl ?_
        refine a_float (i := 3) (t := ptr fb7 0) (blind_then blind_body) rfl (by kernel_rfl) (by kernel_rfl) (by kernel_rfl) (y_pure tabOk rfl) rfl ?_
        refine a_one (i := 4) (by kernel_rfl) rfl ?_
        refine y (y_load 0 ((.fst .here)) rfl rfl (by first | rfl | (simp only [Pth.off, T.size]; omega)) (ok_fst ok_here) tx0) rfl ?_
        refine r_nil ?_
        refine r_then ?_
        refine r_less [5, 7, 29, 33, 34] rfl ?_
        refine a_one (i := 6) (by kernel_rfl) rfl ?_
        obtain ⟨hs13, h⟩ := ite_ex h
        refine y (y_osub tabOk (i := (0 : Int)) (j := a2) rfl (sub_own 1 rfl) rfl rfl hs13.1 hs13.2.1 hs13.2.2 rfl ty5) rfl ?_
        refine r_nil ?_
        refine r_then ?_
        refine r_less [5, 7, 29, 35] rfl ?_
        refine a_one (i := 7) (by kernel_rfl) rfl ?_
        obtain ⟨r14, hr14, h⟩ := bind_ex h
        refine r_callwo (slices_Clone__byte_byte_ok (List.take (Int.toNat a2) f6.1) _ hr14) (by kernel_rfl) (fun _ => rfl) (fun _ r hr => by rcases List.mem_singleton.1 hr with rfl; exact Res.free_own rfl) (.sub rfl (sub_sub (sub_own 1 rfl) hs13.1 hs13.2.1 hs13.2.2) .nil) rfl fun v15 => ?_
        refine r_nil ?_
        refine r_then ?_
        refine r_less [5, 7, 29, 36] rfl ?_
        refine a_one (i := 8) (by kernel_rfl) rfl ?_
        refine r_pure tabOk 1 [5, 7, 36, 37] (E' := [(5, ptr b3 0), (7, ptr fb7 0), (36, .one (.raw (.slice none 0 0)) v15), (37, ptr fb7 0)]) rfl ?_
        refine r_nil ?_
        refine r_then ?_
        refine r_less [5, 7, 36, 37] rfl ?_
        refine a_float (i := 9) (t := ptr fb7 0) (blind_then blind_body) rfl (by kernel_rfl) (by kernel_rfl) (by kernel_rfl) (y_pure tabOk rfl) rfl ?_
        refine a_one (i := 10) (by kernel_rfl) rfl ?_
        refine r_store 1 ((.fst .here)) rfl rfl rfl (by first | rfl | (simp only [Pth.off, T.size]; omega)) (ok_fst ok_here) tx0 ?_
        refine r_lose (L' := [Res.own v15 5 (.int .u8) r14, Res.var fb7 81 FT (v15, tv9, dv10, ()), Res.own tv9 5 (.int .u8) f6.2.1, Res.dirty Try.prog dI dv10 f6.2.2, Res.dhole Try.prog dI mv1 a0.2.1 a1 (.pointer (some ⟨fb7, 0, none⟩)), Res.var b2 71 DT (a0.1, mv1, a0.2.2.1, a0.2.2.2.1, a0.2.2.2.2.1, a0.2.2.2.2.2.1, a0.2.2.2.2.2.2, ()), Res.var b3 3 (.int .i64) a2]) (.cons_cons _ (.cons_cons _ (.cons _ (.cons_cons _ (.cons_cons _ (.cons_cons _ (.cons_cons _ (.cons_cons _ .slnil)))))))) ?_
        refine r_nil ?_
        refine r_then ?_
        refine r_less [5, 7] rfl ?_
        refine a_end (by kernel_rfl) ?_
        refine r_then ?_
        refine r_seq ?_
        refine r_any (by kernel_rfl) ?_
        refine a_float (i := 0) (t := ptr fb7 0) (blind_then blind_body) rfl (by kernel_rfl) (by kernel_rfl) (by kernel_rfl) (y_pure tabOk rfl) rfl ?_
        refine a_float (i := 1) (t := ptr fb7 0) (blind_then blind_body) rfl (by kernel_rfl) (by kernel_rfl) (by kernel_rfl) (y_pure tabOk rfl) rfl ?_
        refine a_float (i := 6) (t := ptr fb7 0) (blind_then blind_body) rfl (by kernel_rfl) (by kernel_rfl) (by kernel_rfl) (y_pure tabOk rfl) rfl ?_
        refine a_pref (fuel := 2) [2, 3, 4, 5, 7, 8, 9, 10, 11, 12, 13] #[true, true, true, true, true, true, true, true, true, true, true, true, true, true, false, false] (by kernel_rfl) ?_
        refine q_pure tabOk 2 [5, 7, 39, 42, 45] (E' := [(5, ptr b3 0), (7, ptr fb7 0), (39, ptr fb7 0), (42, ptr fb7 1), (45, ptr fb7 0)]) rfl ?_
        refine q_y (y_load 1 ((.snd (.fst .here))) rfl rfl (by first | rfl | (simp only [Pth.off, T.size]; omega)) (ok_snd (ok_fst ok_here)) tx0) rfl ?_
        refine q_y (y_load 6 .here rfl rfl (by first | rfl | (simp only [Pth.off, T.size]; omega)) ok_here ty3) rfl ?_
        refine q_pure tabOk 2 [5, 7, 39, 43, 44, 47] (E' := [(5, ptr b3 0), (7, ptr fb7 0), (39, ptr fb7 0), (43, .one (.raw (.slice none 0 0)) tv9), (44, .one (.int .i64) a2), (47, ptr fb7 1)]) rfl ?_
        refine q_y (y_load 1 ((.snd (.fst .here))) rfl rfl (by first | rfl | (simp only [Pth.off, T.size]; omega)) (ok_snd (ok_fst ok_here)) tx0) rfl ?_
        refine q_y (y_lenown tabOk 2 rfl rfl rfl) rfl ?_
        refine q_y (y_min rfl rfl) rfl ?_
        obtain ⟨hs16, h⟩ := ite_ex h
        refine q_y (y_osub tabOk (i := (0 : Int)) (j := (min a2 (List.length f6.2.1 : Int))) rfl (sub_own 2 rfl) rfl rfl hs16.1 hs16.2.1 hs16.2.2 rfl ty5) rfl ?_
        refine q_pure tabOk 1 [5, 7, 51, 52] (E' := [(5, ptr b3 0), (7, ptr fb7 0), (51, .one (.raw (.slice none 0 0)) (subv (T.size (.int .u8)) tv9 (Int.toNat (0 : Int)) (Int.toNat (min a2 (List.length f6.2.1 : Int))))), (52, ptr fb7 0)]) rfl ?_
        refine q_nil ?_
        refine r_less [5, 7, 51, 52] rfl ?_
        refine a_float (i := 14) (t := ptr fb7 1) (blind_then blind_body) rfl (by kernel_rfl) (by kernel_rfl) (by kernel_rfl) (y_pure tabOk rfl) rfl ?_
        refine a_one (i := 15) (by kernel_rfl) rfl ?_
        refine r_ownsub (j := (Int.toNat (min a2 (List.length f6.2.1 : Int)))) 2 rfl (by have := hs16.2.2; omega) ?_
        refine r_store 1 ((.snd (.fst .here))) rfl rfl rfl (by first | rfl | (simp only [Pth.off, T.size]; omega)) (ok_snd (ok_fst ok_here)) tx0 ?_
        refine r_nil ?_
        refine r_then ?_
        refine r_less [5, 7] rfl ?_
        refine a_end (by kernel_rfl) ?_
        refine r_then ?_
        refine r_seq ?_
        refine r_region ?_
        refine r_pure tabOk 3 [5, 56] (E' := [(5, ptr b3 0), (56, ptr fb7 2)]) rfl ?_
        refine y (y_load 1 ((.snd (.snd (.fst .here)))) rfl rfl (by first | rfl | (simp only [Pth.off, T.size]; omega)) (ok_snd (ok_snd (ok_fst ok_here))) ty79) rfl ?_
        refine r_deldirtyK delOk (by kernel_rfl) 3 6 rfl rfl rfl rfl (by decide) (by simp) rfl rfl rfl ?_
        refine r_nil ?_
        refine r_then ?_
        refine r_seq ?_
        refine r_region ?_
        refine r_pure tabOk 1 [6] (E' := [(6, .one (.int .i64) 0)]) rfl ?_
        refine r_nil ?_
        refine r_then ?_
        refine r_ret ?_
        refine r_perm (L' := [Res.var fb7 81 FT (v15, (subv (T.size (.int .u8)) tv9 0 (Int.toNat (min a2 (List.length f6.2.1 : Int)))), dv10, ()), Res.own v15 5 (.int .u8) r14, Res.own (subv (T.size (.int .u8)) tv9 0 (Int.toNat (min a2 (List.length f6.2.1 : Int)))) 5 (.int .u8) (List.take (Int.toNat (min a2 (List.length f6.2.1 : Int))) f6.2.1), Res.dirty Try.prog dI dv10 (cutKeys f6.2.2 a2), Res.dhole Try.prog dI mv1 a0.2.1 a1 (.pointer (some ⟨fb7, 0, none⟩)), Res.var b2 71 DT (a0.1, mv1, a0.2.2.1, a0.2.2.2.1, a0.2.2.2.2.1, a0.2.2.2.2.2.1, a0.2.2.2.2.2.2, ()), Res.var b3 3 (.int .i64) a2]) ((List.perm_middle (a := Res.var fb7 81 FT (v15, (subv (T.size (.int .u8)) tv9 0 (Int.toNat (min a2 (List.length f6.2.1 : Int)))), dv10, ())) (l₁ := [Res.own v15 5 (.int .u8) r14]) (l₂ := [Res.own (subv (T.size (.int .u8)) tv9 0 (Int.toNat (min a2 (List.length f6.2.1 : Int)))) 5 (.int .u8) (List.take (Int.toNat (min a2 (List.length f6.2.1 : Int))) f6.2.1), Res.dirty Try.prog dI dv10 (cutKeys f6.2.2 a2), Res.dhole Try.prog dI mv1 a0.2.1 a1 (.pointer (some ⟨fb7, 0, none⟩)), Res.var b2 71 DT (a0.1, mv1, a0.2.2.1, a0.2.2.2.1, a0.2.2.2.2.1, a0.2.2.2.2.2.1, a0.2.2.2.2.2.2, ()), Res.var b3 3 (.int .i64) a2])).trans (.cons _ (List.Perm.refl _))) ?_
        refine r_dunfocus (P := Try.prog) (I := dI) kstr ?_
        refine r_imp_at (R' := Res.dfiles Try.prog dI mv1 (pset .str a1 (r14, (List.take (Int.toNat (min a2 (List.length f6.2.1 : Int))) f6.2.1), (cutKeys f6.2.2 a2)) a0.2.1)) 0 rfl dat_dfiles ?_
        refine r_perm (L' := [Res.var b2 71 DT (a0.1, mv1, a0.2.2.1, a0.2.2.2.1, a0.2.2.2.2.1, a0.2.2.2.2.2.1, a0.2.2.2.2.2.2, ()), Res.dfiles Try.prog dI mv1 (pset .str a1 (r14, (List.take (Int.toNat (min a2 (List.length f6.2.1 : Int))) f6.2.1), (cutKeys f6.2.2 a2)) a0.2.1), Res.var b3 3 (.int .i64) a2]) ((List.perm_middle (a := Res.var b2 71 DT (a0.1, mv1, a0.2.2.1, a0.2.2.2.1, a0.2.2.2.2.1, a0.2.2.2.2.2.1, a0.2.2.2.2.2.2, ())) (l₁ := [Res.dfiles Try.prog dI mv1 (pset .str a1 (r14, (List.take (Int.toNat (min a2 (List.length f6.2.1 : Int))) f6.2.1), (cutKeys f6.2.2 a2)) a0.2.1)]) (l₂ := [Res.var b3 3 (.int .i64) a2])).trans (.cons _ (List.Perm.refl _))) ?_
        refine r_disk (P := Try.prog) (I := dI) (D := (a0.1, (pset .str a1 (r14, (List.take (Int.toNat (min a2 (List.length f6.2.1 : Int))) f6.2.1), (cutKeys f6.2.2 a2)) a0.2.1), a0.2.2.1, a0.2.2.2.1, a0.2.2.2.2.1, a0.2.2.2.2.2.1, a0.2.2.2.2.2.2)) ?_
        obtain rfl := Option.some.inj h
        exact r_ret1 rfl (.tmp rfl) (fun _ _ g => g) (fun _ _ _ => (.cons_cons _ (.cons _ .slnil)))

theorem disk_Disk_Rename_ok (p0 : Value) (a0 : DiskS) (a1 : List Int) (a2 : List Int) (r : Int × DiskS) (h : disk_Disk_Rename a0 a1 a2 = some r) : Fn Try.prog 16 [.one (.raw (.pointer none)) p0, .one .str a1, .one .str a2] [Res.disk Try.prog dI p0 a0] (fun _ => .one (.int .i64) r.1) (fun _ => [Res.disk Try.prog dI p0 r.2]) := by
  unfold disk_Disk_Rename at h
  refine enter Try.func16 rfl 32 rfl rfl fun F => ?_
  refine r_undisk fun b2 mv1 hp => ?_
  subst hp
  refine r_seq ?_
  refine r_region ?_
  refine r_pure tabOk 1 [0, 1, 2] (E' := [(0, ptr b2 0), (1, .one .str a1), (2, .one .str a2)]) rfl ?_
  refine r_nil ?_
  refine r_then ?_
  refine r_seq ?_
  refine r_region ?_
  refine r_pure tabOk 2 [0, 1, 2, 10, 11] (E' := [(0, ptr b2 0), (1, .one .str a1), (2, .one .str a2), (10, ptr b2 0), (11, .one .str a1)]) rfl ?_
  obtain ⟨r3, hr3, h⟩ := bind_ex h
  refine r_call (Lo := []) (disk_Disk_found_ok b2 mv1 a0 a1 _ hr3) (by kernel_rfl) (List.Perm.refl _) rfl rfl fun v4 => ?_
  refine r_pure tabOk 5 [0, 1, 2, 7, 8] (E' := [(0, ptr b2 0), (1, .one .str a1), (2, .one .str a2), (7, .one (.raw (.pointer none)) (tupv v4 0)), (8, .one (.int .i64) r3)]) rfl ?_
  refine r_nil ?_
  refine r_then ?_
  refine r_seq ?_
  refine r_seq ?_
  refine r_region ?_
  refine r_pure tabOk 2 [0, 1, 2, 7, 8, 16] (E' := [(0, ptr b2 0), (1, .one .str a1), (2, .one .str a2), (7, .one (.raw (.pointer none)) (tupv v4 0)), (8, .one (.int .i64) r3), (16, .one .bool (r3 != 0))]) rfl ?_
  refine r_nil ?_
  refine r_then ?_
  refine r_if (b := (r3 != 0)) rfl (fun hc => ?_) (fun hc => ?_)
  · rw [if_pos hc] at h
    refine r_seq ?_
    refine r_region ?_
    refine r_pure tabOk 2 [6] (E' := [(6, .one (.int .i64) r3)]) rfl ?_
    refine r_nil ?_
    refine r_then ?_
    refine r_ret ?_
    refine t_then ?_
    refine r_imp_at (R' := Res.dfiles Try.prog dI mv1 a0.2.1) 1 rfl dfound_dfiles ?_
    refine r_disk (P := Try.prog) (I := dI) (D := a0) ?_
    obtain rfl := Option.some.inj h
    exact r_ret1 rfl (.tmp rfl) (fun _ _ g => g) (fun _ _ _ => (.cons_cons _ .slnil))
  · rw [if_neg (ne_true_of_eq_false hc)] at h
    refine r_skip ?_
    refine r_then ?_
    refine r_seq ?_
    refine r_seq ?_
    refine r_region ?_
    refine r_pure tabOk 1 [0, 1, 2, 7, 18] (E' := [(0, ptr b2 0), (1, .one .str a1), (2, .one .str a2), (7, .one (.raw (.pointer none)) (tupv v4 0)), (18, .one .str a2)]) rfl ?_
    obtain ⟨r5, hr5, h⟩ := bind_ex h
    refine r_calls (disk_isName_ok a2 _ hr5) (by kernel_rfl) rfl rfl ?_
    refine r_pure tabOk 1 [0, 1, 2, 7, 20] (E' := [(0, ptr b2 0), (1, .one .str a1), (2, .one .str a2), (7, .one (.raw (.pointer none)) (tupv v4 0)), (20, .one .bool (!r5))]) rfl ?_
    refine r_nil ?_
    refine r_then ?_
    refine r_if (b := (!r5)) rfl (fun hc => ?_) (fun hc => ?_)
    · rw [if_pos hc] at h
      refine r_seq ?_
      refine r_region ?_
      refine r_pure tabOk 1 [6] (E' := [(6, .one (.int .i64) 1)]) rfl ?_
      refine r_nil ?_
      refine r_then ?_
      refine r_ret ?_
      refine t_then ?_
      refine r_imp_at (R' := Res.dfiles Try.prog dI mv1 a0.2.1) 1 rfl dfound_dfiles ?_
      refine r_disk (P := Try.prog) (I := dI) (D := a0) ?_
      obtain rfl := Option.some.inj h
      exact r_ret1 rfl (.tmp rfl) (fun _ _ g => g) (fun _ _ _ => (.cons_cons _ .slnil))
    · rw [if_neg (ne_true_of_eq_false hc)] at h
      refine r_skip ?_
      refine r_then ?_
      refine r_seq ?_
      refine r_region ?_
      refine r_pure tabOk 3 [0, 1, 2, 7, 23] (E' := [(0, ptr b2 0), (1, .one .str a1), (2, .one .str a2), (7, .one (.raw (.pointer none)) (tupv v4 0)), (23, ptr b2 1)]) rfl ?_
      refine y (y_load 0 ((.snd (.fst .here))) rfl rfl (by first | rfl | (simp only [Pth.off, T.size]; omega)) (ok_snd (ok_fst ok_here)) ty69) rfl ?_
      refine r_pure tabOk 1 [0, 2, 7, 24, 25] (E' := [(0, ptr b2 0), (2, .one .str a2), (7, .one (.raw (.pointer none)) (tupv v4 0)), (24, .one (.raw (.map none)) mv1), (25, .one .str a1)]) rfl ?_
      obtain ⟨hc, h⟩ := ite_ex h
      refine r_imp_at (R' := Res.dat Try.prog dI mv1 a0.2.1 a1 (tupv v4 0)) 1 rfl (dfound_dat hc) ?_
      obtain ⟨f6, hf6, h⟩ := bind_ex h
      refine r_perm (L' := [Res.dat Try.prog dI mv1 a0.2.1 a1 (tupv v4 0), Res.var b2 71 DT (a0.1, mv1, a0.2.2.1, a0.2.2.2.1, a0.2.2.2.2.1, a0.2.2.2.2.2.1, a0.2.2.2.2.2.2, ())]) ((List.perm_middle (a := Res.dat Try.prog dI mv1 a0.2.1 a1 (tupv v4 0)) (l₁ := [Res.var b2 71 DT (a0.1, mv1, a0.2.2.1, a0.2.2.2.1, a0.2.2.2.2.1, a0.2.2.2.2.2.1, a0.2.2.2.2.2.2, ())]) (l₂ := [])).trans (.cons _ (List.Perm.refl _))) ?_
      refine r_dfocus kstr hf6 fun fb7 sv8 tv9 dv10 hq => ?_
      rw [hq]
      clear hq
      refine r_perm (L' := [Res.dhole Try.prog dI mv1 a0.2.1 a1 (.pointer (some ⟨fb7, 0, none⟩)), Res.var fb7 81 FT (sv8, tv9, dv10, ()), Res.own sv8 5 (.int .u8) f6.1, Res.own tv9 5 (.int .u8) f6.2.1, Res.dirty Try.prog dI dv10 f6.2.2, Res.var b2 71 DT (a0.1, mv1, a0.2.2.1, a0.2.2.2.1, a0.2.2.2.2.1, a0.2.2.2.2.2.1, a0.2.2.2.2.2.2, ())]) ((List.perm_middle (a := Res.dhole Try.prog dI mv1 a0.2.1 a1 (.pointer (some ⟨fb7, 0, none⟩))) (l₁ := [Res.var fb7 81 FT (sv8, tv9, dv10, ()), Res.own sv8 5 (.int .u8) f6.1, Res.own tv9 5 (.int .u8) f6.2.1, Res.dirty Try.prog dI dv10 f6.2.2]) (l₂ := [Res.var b2 71 DT (a0.1, mv1, a0.2.2.1, a0.2.2.2.1, a0.2.2.2.2.1, a0.2.2.2.2.2.1, a0.2.2.2.2.2.2, ())])).trans (.cons _ (List.Perm.refl _))) ?_
      refine r_ddelete_hole kstr rfl rfl Try.underlying69 rfl ?_
      refine r_nil ?_
      refine r_then ?_
      refine r_seq ?_
      refine r_region ?_
      refine r_pure tabOk 3 [2, 7, 28] (E' := [(2, .one .str a2), (7, ptr fb7 0), (28, ptr b2 1)]) rfl ?_
      refine y (y_load 5 ((.snd (.fst .here))) rfl rfl (by first | rfl | (simp only [Pth.off, T.size]; omega)) (ok_snd (ok_fst ok_here)) ty69) rfl ?_
      refine r_pure tabOk 2 [29, 30, 31] (E' := [(29, .one (.raw (.map none)) mv1), (30, .one .str a2), (31, ptr fb7 0)]) rfl ?_
      obtain ⟨hc, h⟩ := ite_ex h
      refine r_perm (L' := [Res.var fb7 81 FT (sv8, tv9, dv10, ()), Res.own sv8 5 (.int .u8) f6.1, Res.own tv9 5 (.int .u8) f6.2.1, Res.dirty Try.prog dI dv10 f6.2.2, Res.dfiles Try.prog dI mv1 (pdel .str a1 a0.2.1), Res.var b2 71 DT (a0.1, mv1, a0.2.2.1, a0.2.2.2.1, a0.2.2.2.2.1, a0.2.2.2.2.2.1, a0.2.2.2.2.2.2, ())]) ((List.perm_middle (a := Res.var fb7 81 FT (sv8, tv9, dv10, ())) (l₁ := [Res.dfiles Try.prog dI mv1 (pdel .str a1 a0.2.1)]) (l₂ := [Res.own sv8 5 (.int .u8) f6.1, Res.own tv9 5 (.int .u8) f6.2.1, Res.dirty Try.prog dI dv10 f6.2.2, Res.var b2 71 DT (a0.1, mv1, a0.2.2.1, a0.2.2.2.1, a0.2.2.2.2.1, a0.2.2.2.2.2.1, a0.2.2.2.2.2.2, ())])).trans (.cons _ ((List.perm_middle (a := Res.own sv8 5 (.int .u8) f6.1) (l₁ := [Res.dfiles Try.prog dI mv1 (pdel .str a1 a0.2.1)]) (l₂ := [Res.own tv9 5 (.int .u8) f6.2.1, Res.dirty Try.prog dI dv10 f6.2.2, Res.var b2 71 DT (a0.1, mv1, a0.2.2.1, a0.2.2.2.1, a0.2.2.2.2.1, a0.2.2.2.2.2.1, a0.2.2.2.2.2.2, ())])).trans (.cons _ ((List.perm_middle (a := Res.own tv9 5 (.int .u8) f6.2.1) (l₁ := [Res.dfiles Try.prog dI mv1 (pdel .str a1 a0.2.1)]) (l₂ := [Res.dirty Try.prog dI dv10 f6.2.2, Res.var b2 71 DT (a0.1, mv1, a0.2.2.1, a0.2.2.2.1, a0.2.2.2.2.1, a0.2.2.2.2.2.1, a0.2.2.2.2.2.2, ())])).trans (.cons _ ((List.perm_middle (a := Res.dirty Try.prog dI dv10 f6.2.2) (l₁ := [Res.dfiles Try.prog dI mv1 (pdel .str a1 a0.2.1)]) (l₂ := [Res.var b2 71 DT (a0.1, mv1, a0.2.2.1, a0.2.2.2.1, a0.2.2.2.2.1, a0.2.2.2.2.2.1, a0.2.2.2.2.2.2, ())])).trans (.cons _ (List.Perm.refl _))))))))) ?_
      refine r_dinsert (P := Try.prog) (I := dI) kstr rfl rfl rfl Try.underlying69 hc ?_
      refine r_nil ?_
      refine r_then ?_
      refine r_seq ?_
      refine r_region ?_
      refine r_pure tabOk 1 [6] (E' := [(6, .one (.int .i64) 0)]) rfl ?_
      refine r_nil ?_
      refine r_then ?_
      refine r_ret ?_
      refine r_imp_at (R' := Res.dfiles Try.prog dI mv1 (pput .str a2 (f6.1, f6.2.1, f6.2.2) (pdel .str a1 a0.2.1))) 0 rfl dat_dfiles ?_
      refine r_perm (L' := [Res.var b2 71 DT (a0.1, mv1, a0.2.2.1, a0.2.2.2.1, a0.2.2.2.2.1, a0.2.2.2.2.2.1, a0.2.2.2.2.2.2, ()), Res.dfiles Try.prog dI mv1 (pput .str a2 (f6.1, f6.2.1, f6.2.2) (pdel .str a1 a0.2.1))]) ((List.perm_middle (a := Res.var b2 71 DT (a0.1, mv1, a0.2.2.1, a0.2.2.2.1, a0.2.2.2.2.1, a0.2.2.2.2.2.1, a0.2.2.2.2.2.2, ())) (l₁ := [Res.dfiles Try.prog dI mv1 (pput .str a2 (f6.1, f6.2.1, f6.2.2) (pdel .str a1 a0.2.1))]) (l₂ := [])).trans (.cons _ (List.Perm.refl _))) ?_
      refine r_disk (P := Try.prog) (I := dI) (D := (a0.1, (pput .str a2 (f6.1, f6.2.1, f6.2.2) (pdel .str a1 a0.2.1)), a0.2.2.1, a0.2.2.2.1, a0.2.2.2.2.1, a0.2.2.2.2.2.1, a0.2.2.2.2.2.2)) ?_
      obtain rfl := Option.some.inj h
      exact r_ret1 rfl (.tmp rfl) (fun _ _ g => g) (fun _ _ _ => (.cons_cons _ .slnil))

theorem disk_Disk_Remove_ok (p0 : Value) (a0 : DiskS) (a1 : List Int) (r : Int × DiskS) (h : disk_Disk_Remove a0 a1 = some r) : Fn Try.prog 46 [.one (.raw (.pointer none)) p0, .one .str a1] [Res.disk Try.prog dI p0 a0] (fun _ => .one (.int .i64) r.1) (fun _ => [Res.disk Try.prog dI p0 r.2]) := by
  unfold disk_Disk_Remove at h
  refine enter Try.func46 rfl 21 rfl rfl fun F => ?_
  refine r_undisk fun b2 mv1 hp => ?_
  subst hp
  refine r_seq ?_
  refine r_region ?_
  refine r_pure tabOk 1 [0, 1] (E' := [(0, ptr b2 0), (1, .one .str a1)]) rfl ?_
  refine r_nil ?_
  refine r_then ?_
  refine r_seq ?_
  refine r_seq ?_
  refine r_region ?_
  refine r_pure tabOk 2 [0, 1, 8, 9] (E' := [(0, ptr b2 0), (1, .one .str a1), (8, ptr b2 0), (9, .one .str a1)]) rfl ?_
  obtain ⟨r3, hr3, h⟩ := bind_ex h
  refine r_call (Lo := []) (disk_Disk_found_ok b2 mv1 a0 a1 _ hr3) (by kernel_rfl) (List.Perm.refl _) rfl rfl fun v4 => ?_
  refine r_pure tabOk 5 [0, 1, 6] (E' := [(0, ptr b2 0), (1, .one .str a1), (6, .one (.int .i64) r3)]) rfl ?_
  refine r_nil ?_
  refine r_then ?_
  refine r_seq ?_
  refine r_region ?_
  refine r_pure tabOk 2 [0, 1, 6, 14] (E' := [(0, ptr b2 0), (1, .one .str a1), (6, .one (.int .i64) r3), (14, .one .bool (r3 != 0))]) rfl ?_
  refine r_nil ?_
  refine r_then ?_
  refine r_if (b := (r3 != 0)) rfl (fun hc => ?_) (fun hc => ?_)
  · rw [if_pos hc] at h
    refine r_seq ?_
    refine r_region ?_
    refine r_pure tabOk 2 [4] (E' := [(4, .one (.int .i64) r3)]) rfl ?_
    refine r_nil ?_
    refine r_then ?_
    refine r_ret ?_
    refine t_then ?_
    refine r_imp_at (R' := Res.dfiles Try.prog dI mv1 a0.2.1) 1 rfl dfound_dfiles ?_
    refine r_disk (P := Try.prog) (I := dI) (D := a0) ?_
    obtain rfl := Option.some.inj h
    exact r_ret1 rfl (.tmp rfl) (fun _ _ g => g) (fun _ _ _ => (.cons_cons _ .slnil))
  · rw [if_neg (ne_true_of_eq_false hc)] at h
    refine r_skip ?_
    refine r_then ?_
    refine r_seq ?_
    refine r_region ?_
    refine r_pure tabOk 3 [1, 18] (E' := [(1, .one .str a1), (18, ptr b2 1)]) rfl ?_
    refine y (y_load 0 ((.snd (.fst .here))) rfl rfl (by first | rfl | (simp only [Pth.off, T.size]; omega)) (ok_snd (ok_fst ok_here)) ty69) rfl ?_
    refine r_pure tabOk 1 [19, 20] (E' := [(19, .one (.raw (.map none)) mv1), (20, .one .str a1)]) rfl ?_
    refine r_imp_at (R' := Res.dfiles Try.prog dI mv1 a0.2.1) 1 rfl dfound_dfiles ?_
    refine r_perm (L' := [Res.dfiles Try.prog dI mv1 a0.2.1, Res.var b2 71 DT (a0.1, mv1, a0.2.2.1, a0.2.2.2.1, a0.2.2.2.2.1, a0.2.2.2.2.2.1, a0.2.2.2.2.2.2, ())]) ((List.perm_middle (a := Res.dfiles Try.prog dI mv1 a0.2.1) (l₁ := [Res.var b2 71 DT (a0.1, mv1, a0.2.2.1, a0.2.2.2.1, a0.2.2.2.2.1, a0.2.2.2.2.2.1, a0.2.2.2.2.2.2, ())]) (l₂ := [])).trans (.cons _ (List.Perm.refl _))) ?_
    refine r_ddelete kstr rfl rfl Try.underlying69 rfl ?_
    refine r_nil ?_
    refine r_then ?_
    refine r_seq ?_
    refine r_region ?_
    refine r_pure tabOk 1 [4] (E' := [(4, .one (.int .i64) 0)]) rfl ?_
    refine r_nil ?_
    refine r_then ?_
    refine r_ret ?_
    refine r_perm (L' := [Res.var b2 71 DT (a0.1, mv1, a0.2.2.1, a0.2.2.2.1, a0.2.2.2.2.1, a0.2.2.2.2.2.1, a0.2.2.2.2.2.2, ()), Res.dfiles Try.prog dI mv1 (pdel .str a1 a0.2.1)]) ((List.perm_middle (a := Res.var b2 71 DT (a0.1, mv1, a0.2.2.1, a0.2.2.2.1, a0.2.2.2.2.1, a0.2.2.2.2.2.1, a0.2.2.2.2.2.2, ())) (l₁ := [Res.dfiles Try.prog dI mv1 (pdel .str a1 a0.2.1)]) (l₂ := [])).trans (.cons _ (List.Perm.refl _))) ?_
    refine r_disk (P := Try.prog) (I := dI) (D := (a0.1, (pdel .str a1 a0.2.1), a0.2.2.1, a0.2.2.2.1, a0.2.2.2.2.1, a0.2.2.2.2.2.1, a0.2.2.2.2.2.2)) ?_
    obtain rfl := Option.some.inj h
    exact r_ret1 rfl (.tmp rfl) (fun _ _ g => g) (fun _ _ _ => (.cons_cons _ .slnil))

theorem disk_Disk_Arm_ok (p0 : Value) (a0 : DiskS) (a1 : Int) (a2 : Int) (r : DiskS) (h : disk_Disk_Arm a0 a1 a2 = some r) : Fn Try.prog 30 [.one (.raw (.pointer none)) p0, .one (.int .i64) a1, .one (.int .i64) a2] [Res.disk Try.prog dI p0 a0] (fun _ => .tup []) (fun _ => [Res.disk Try.prog dI p0 r]) := by
  unfold disk_Disk_Arm at h
  refine enter Try.func30 rfl 24 rfl rfl fun F => ?_
  refine r_undisk fun b2 mv1 hp => ?_
  subst hp
  obtain ⟨k3, hk3, h⟩ := bnd_ex h
  refine r_joink (γ := Unit) (fun (o4 : Int) _ => [(0, ptr b2 0), (1, .one (.int .i64) o4), (2, .one (.int .i64) a2)]) (fun (o4 : Int) _ => [Res.var b2 71 DT (a0.1, mv1, a0.2.2.1, a0.2.2.2.1, a0.2.2.2.2.1, a0.2.2.2.2.2.1, a0.2.2.2.2.2.2, ()), Res.dfiles Try.prog dI mv1 a0.2.1]) k3 r ?_ ?_
  · refine r_seq ?_
    refine r_region ?_
    refine r_pure tabOk 3 [0, 1, 2, 8] (E' := [(0, ptr b2 0), (1, .one (.int .i64) a1), (2, .one (.int .i64) a2), (8, .one .bool (decide (a1 < 1)))]) rfl ?_
    obtain ⟨b5, hbb5, h⟩ := bnd_ex h
    rw [hbb5]
    refine r_lsplit (γ := Unit) 3 (fun _ => [(0, ptr b2 0), (1, .one (.int .i64) a1), (2, .one (.int .i64) a2), (11, .one .bool (b5 || (decide (a2 < 0))))]) (fun _ => [Res.var b2 71 DT (a0.1, mv1, a0.2.2.1, a0.2.2.2.1, a0.2.2.2.2.1, a0.2.2.2.2.2.1, a0.2.2.2.2.2.2, ()), Res.dfiles Try.prog dI mv1 a0.2.1]) ?_ (fun _ => ?_)
    · clear h
      cases b5 with
      | true =>
      refine r_pure tabOk 3 [0, 1, 2, 11] (E' := [(0, ptr b2 0), (1, .one (.int .i64) a1), (2, .one (.int .i64) a2), (11, .one .bool true)]) rfl ?_
      refine r_nil ?_
      refine r_then ?_
      exact r_meetg () rfl rfl
      | false =>
      refine r_pure tabOk 3 [0, 1, 2, 11] (E' := [(0, ptr b2 0), (1, .one (.int .i64) a1), (2, .one (.int .i64) a2), (11, .one .bool (decide (a2 < 0)))]) rfl ?_
      refine r_nil ?_
      refine r_then ?_
      exact r_meetg () rfl rfl
    refine r_pure tabOk 1 [0, 1, 2, 12] (E' := [(0, ptr b2 0), (1, .one (.int .i64) a1), (2, .one (.int .i64) a2), (12, .one .bool (b5 || (decide (a2 < 0))))]) rfl ?_
    obtain ⟨b6, hbb6, h⟩ := bnd_ex h
    rw [hbb6]
    refine r_lsplit (γ := Unit) 3 (fun _ => [(0, ptr b2 0), (1, .one (.int .i64) a1), (2, .one (.int .i64) a2), (15, .one .bool (b6 || (decide (a2 > 2))))]) (fun _ => [Res.var b2 71 DT (a0.1, mv1, a0.2.2.1, a0.2.2.2.1, a0.2.2.2.2.1, a0.2.2.2.2.2.1, a0.2.2.2.2.2.2, ()), Res.dfiles Try.prog dI mv1 a0.2.1]) ?_ (fun _ => ?_)
    · clear h
      cases b6 with
      | true =>
      refine r_pure tabOk 3 [0, 1, 2, 15] (E' := [(0, ptr b2 0), (1, .one (.int .i64) a1), (2, .one (.int .i64) a2), (15, .one .bool true)]) rfl ?_
      refine r_nil ?_
      refine r_then ?_
      exact r_meetg () rfl rfl
      | false =>
      refine r_pure tabOk 3 [0, 1, 2, 15] (E' := [(0, ptr b2 0), (1, .one (.int .i64) a1), (2, .one (.int .i64) a2), (15, .one .bool (decide (a2 > 2)))]) rfl ?_
      refine r_nil ?_
      refine r_then ?_
      exact r_meetg () rfl rfl
    refine r_nil ?_
    refine r_then ?_
    refine r_if (b := (b6 || (decide (a2 > 2)))) rfl (fun hc => ?_) (fun hc => ?_)
    · rw [if_pos hc] at h
      refine r_region ?_
      refine r_pure tabOk 1 [0, 1, 2] (E' := [(0, ptr b2 0), (1, .one (.int .i64) 0), (2, .one (.int .i64) a2)]) rfl ?_
      refine r_nil ?_
      refine r_then ?_
      refine r_less [0, 1, 2] rfl ?_
      exact r_meetk 0 () h rfl rfl
    · rw [if_neg (ne_true_of_eq_false hc)] at h
      refine r_skip ?_
      refine r_then ?_
      refine r_less [0, 1, 2] rfl ?_
      exact r_meetk a1 () h rfl rfl
  · intro o4 gg h
    rw [← hk3] at h
    try dsimp only at h
    refine r_region ?_
    refine r_pure tabOk 6 [17, 18, 19, 21] (E' := [(17, ptr b2 0), (18, .one (.int .i64) o4), (19, .one (.int .i64) a2), (21, ptr b2 2)]) rfl ?_
    refine r_store 0 ((.snd (.snd (.fst .here)))) rfl rfl rfl (by first | rfl | (simp only [Pth.off, T.size]; omega)) (ok_snd (ok_snd (ok_fst ok_here))) ty3 ?_
    refine r_pure tabOk 2 [19, 23] (E' := [(19, .one (.int .i64) a2), (23, ptr b2 3)]) rfl ?_
    refine r_store 0 ((.snd (.snd (.snd (.fst .here))))) rfl rfl rfl (by first | rfl | (simp only [Pth.off, T.size]; omega)) (ok_snd (ok_snd (ok_snd (ok_fst ok_here)))) ty3 ?_
    refine r_nil ?_
    refine r_disk (P := Try.prog) (I := dI) (D := (a0.1, a0.2.1, o4, a2, a0.2.2.2.2.1, a0.2.2.2.2.2.1, a0.2.2.2.2.2.2)) ?_
    obtain rfl := Option.some.inj h
    exact r_end0 rfl (fun _ => tup_ok [] .nil) ((.cons_cons _ .slnil))

theorem disk_Disk_Fall_ok (p0 : Value) (a0 : DiskS) (a1 : Int) (r : DiskS) (h : disk_Disk_Fall a0 a1 = some r) : Fn Try.prog 33 [.one (.raw (.pointer none)) p0, .one (.int .i64) a1] [Res.disk Try.prog dI p0 a0] (fun _ => .tup []) (fun _ => [Res.disk Try.prog dI p0 r]) := by
  unfold disk_Disk_Fall at h
  refine enter Try.func33 rfl 9 rfl rfl fun F => ?_
  refine r_undisk fun b2 mv1 hp => ?_
  subst hp
  refine r_region ?_
  refine r_pure tabOk 2 [4, 5] (E' := [(4, ptr b2 0), (5, .one (.int .i64) a1)]) rfl ?_
  refine y (y_max rfl rfl) rfl ?_
  refine r_pure tabOk 2 [6, 8] (E' := [(6, .one (.int .i64) (max a1 0)), (8, ptr b2 4)]) rfl ?_
  refine r_store 0 ((.snd (.snd (.snd (.snd (.fst .here)))))) rfl rfl rfl (by first | rfl | (simp only [Pth.off, T.size]; omega)) (ok_snd (ok_snd (ok_snd (ok_snd (ok_fst ok_here))))) ty3 ?_
  refine r_nil ?_
  refine r_disk (P := Try.prog) (I := dI) (D := (a0.1, a0.2.1, a0.2.2.1, a0.2.2.2.1, (max a1 0), a0.2.2.2.2.2.1, a0.2.2.2.2.2.2)) ?_
  obtain rfl := Option.some.inj h
  exact r_end0 rfl (fun _ => tup_ok [] .nil) ((.cons_cons _ .slnil))

theorem disk_fateOf_ok (a0 : List (List Int × Int × Int × List Int × Unit)) (a1 : List Int) (a2 : Int) (r : (List Int × Int × Int × List Int × Unit)) (h : disk_fateOf a0 a1 a2 = some r) : Pure Try.prog 55 [.one (.sl 67 Y67) a0, .one .str a1, .one (.int .i64) a2] (.one Y67 r) := by
  unfold disk_fateOf at h
  refine enter Try.func55 rfl 28 rfl rfl fun F => ?_
  refine r_seq ?_
  refine r_region ?_
  refine r_alloc (t := Y67) rfl zf67 rfl fun b1 => ?_
  refine r_nil ?_
  refine r_then ?_
  obtain ⟨k2, hk2, h⟩ := bnd_ex h
  refine r_joink (γ := Unit) (fun (o3 : Unit) _ => [(6, ptr b1 0)]) (fun (o3 : Unit) _ => [Res.var b1 67 Y67 ([], 0, 0, [], ())]) k2 r ?_ ?_
  · refine r_seq ?_
    refine r_region ?_
    refine r_pure tabOk 3 [1, 2, 6, 9, 10, 11] (E' := [(1, .one .str a1), (2, .one (.int .i64) a2), (6, ptr b1 0), (9, .one (.sl 67 Y67) a0), (10, .one (.int .i64) (List.length a0 : Int)), (11, .one (.int .i64) 0)]) rfl ?_
    refine r_nil ?_
    refine r_then ?_
    refine r_block ?_
    refine r_less [1, 2, 6, 9, 10, 11] rfl ?_
    refine r_loopg (γ := Unit) (fun (s5 : Int) _ => [(1, .one .str a1), (2, .one (.int .i64) a2), (6, ptr b1 0), (9, .one (.sl 67 Y67) a0), (10, .one (.int .i64) (List.length a0 : Int)), (11, .one (.int .i64) s5)]) (fun (s5 : Int) _ => [Res.var b1 67 Y67 ([], 0, 0, [], ())]) (disk_fateOf_l0 a0 a1 a2 k2) 0 () h rfl rfl ?_
    clear h
    intro m6 s5 gg h
    cases m6 with
    | zero => cases h
    | succ m6 =>
    simp only [disk_fateOf_l0] at h
    refine r_seq ?_
    refine r_region ?_
    refine r_pure tabOk 1 [1, 2, 6, 9, 10, 11, 12] (E' := [(1, .one .str a1), (2, .one (.int .i64) a2), (6, ptr b1 0), (9, .one (.sl 67 Y67) a0), (10, .one (.int .i64) (List.length a0 : Int)), (11, .one (.int .i64) s5), (12, .one .bool (decide (s5 < (List.length a0 : Int))))]) rfl ?_
    refine r_nil ?_
    refine r_then ?_
    refine r_seq ?_
    refine r_if (b := (decide (s5 < (List.length a0 : Int)))) rfl (fun hc => ?_) (fun hc => ?_)
    · rw [if_pos hc] at h
      refine r_skip ?_
      refine r_then ?_
      refine r_seq ?_
      refine r_block ?_
      refine r_seq ?_
      refine r_region ?_
      obtain ⟨hc, h⟩ := ite_ex h
      refine y (y_iref tabOk rfl rfl hc.1 hc.2 rfl ty67) rfl ?_
      refine y (y_ref rfl ty67) rfl ?_
      refine r_alloc (t := Y67) rfl zf67 rfl fun b7 => ?_
      refine r_store 0 .here rfl rfl rfl (by first | rfl | (simp only [Pth.off, T.size]; omega)) ok_here ty67 ?_
      refine r_nil ?_
      refine r_then ?_
      refine r_seq ?_
      refine r_region ?_
      refine r_pure tabOk 1 [1, 2, 6, 8, 9, 10, 11, 15] (E' := [(1, .one .str a1), (2, .one (.int .i64) a2), (6, ptr b1 0), (8, ptr b7 0), (9, .one (.sl 67 Y67) a0), (10, .one (.int .i64) (List.length a0 : Int)), (11, .one (.int .i64) s5), (15, ptr b7 0)]) rfl ?_
      refine y (y_load 0 ((.fst .here)) rfl rfl (by first | rfl | (simp only [Pth.off, T.size]; omega)) (ok_fst ok_here) ty9) rfl ?_
      refine r_pure tabOk 3 [1, 2, 6, 8, 9, 10, 11, 19] (E' := [(1, .one .str a1), (2, .one (.int .i64) a2), (6, ptr b1 0), (8, ptr b7 0), (9, .one (.sl 67 Y67) a0), (10, .one (.int .i64) (List.length a0 : Int)), (11, .one (.int .i64) s5), (19, .one .bool (((List.getD a0 (Int.toNat s5) ([], 0, 0, [], ())).1) == a1))]) rfl ?_
      obtain ⟨b8, hbb8, h⟩ := bnd_ex h
      rw [hbb8]
      refine r_lsplit (γ := Unit) 5 (fun _ => [(1, .one .str a1), (2, .one (.int .i64) a2), (6, ptr b1 0), (8, ptr b7 0), (9, .one (.sl 67 Y67) a0), (10, .one (.int .i64) (List.length a0 : Int)), (11, .one (.int .i64) s5), (24, .one .bool (b8 && (((List.getD a0 (Int.toNat s5) ([], 0, 0, [], ())).2.1) == a2)))]) (fun _ => [Res.var b7 67 Y67 (List.getD a0 (Int.toNat s5) ([], 0, 0, [], ())), Res.var b1 67 Y67 ([], 0, 0, [], ())]) ?_ (fun _ => ?_)
      · clear h
        cases b8 with
        | true =>
        refine r_pure tabOk 1 [1, 2, 6, 8, 9, 10, 11, 19, 20] (E' := [(1, .one .str a1), (2, .one (.int .i64) a2), (6, ptr b1 0), (8, ptr b7 0), (9, .one (.sl 67 Y67) a0), (10, .one (.int .i64) (List.length a0 : Int)), (11, .one (.int .i64) s5), (19, .one .bool true), (20, ptr b7 1)]) rfl ?_
        refine r_guard (by rfl) rfl ?_
        refine y (y_load 0 ((.snd (.fst .here))) rfl rfl (by first | rfl | (simp only [Pth.off, T.size]; omega)) (ok_snd (ok_fst ok_here)) ty3) rfl ?_
        refine r_pure tabOk 3 [1, 2, 6, 8, 9, 10, 11, 24] (E' := [(1, .one .str a1), (2, .one (.int .i64) a2), (6, ptr b1 0), (8, ptr b7 0), (9, .one (.sl 67 Y67) a0), (10, .one (.int .i64) (List.length a0 : Int)), (11, .one (.int .i64) s5), (24, .one .bool (((List.getD a0 (Int.toNat s5) ([], 0, 0, [], ())).2.1) == a2))]) rfl ?_
        refine r_nil ?_
        refine r_then ?_
        exact r_meetg () rfl rfl
        | false =>
        refine r_pure tabOk 5 [1, 2, 6, 8, 9, 10, 11, 24] (E' := [(1, .one .str a1), (2, .one (.int .i64) a2), (6, ptr b1 0), (8, ptr b7 0), (9, .one (.sl 67 Y67) a0), (10, .one (.int .i64) (List.length a0 : Int)), (11, .one (.int .i64) s5), (24, .one .bool false)]) rfl ?_
        refine r_nil ?_
        refine r_then ?_
        exact r_meetg () rfl rfl
      refine r_nil ?_
      refine r_then ?_
      refine r_if (b := (b8 && (((List.getD a0 (Int.toNat s5) ([], 0, 0, [], ())).2.1) == a2))) rfl (fun hc => ?_) (fun hc => ?_)
      · rw [if_pos hc] at h
        refine r_seq ?_
        refine r_region ?_
        refine y (y_load 0 .here rfl rfl (by first | rfl | (simp only [Pth.off, T.size]; omega)) ok_here ty67) rfl ?_
        refine r_store 1 .here rfl rfl rfl (by first | rfl | (simp only [Pth.off, T.size]; omega)) ok_here ty67 ?_
        refine r_nil ?_
        refine r_then ?_
        refine r_ret ?_
        refine t_block ?_
        refine t_then ?_
        refine t_then ?_
        refine t_block ?_
        refine t_then ?_
        obtain rfl := Option.some.inj h
        exact r_ret1 rfl (.cell 1 .here rfl rfl (by first | rfl | (simp only [Pth.off, T.size]; omega)) ok_here ty67) (fun _ _ g => g) (fun _ _ _ => List.nil_sublist _)
      · rw [if_neg (ne_true_of_eq_false hc)] at h
        refine r_skip ?_
        refine r_inblock ?_
        refine r_then ?_
        refine r_region ?_
        refine r_pure tabOk 2 [1, 2, 6, 9, 10, 11] (E' := [(1, .one .str a1), (2, .one (.int .i64) a2), (6, ptr b1 0), (9, .one (.sl 67 Y67) a0), (10, .one (.int .i64) (List.length a0 : Int)), (11, .one (.int .i64) (IntKind.wrap .i64 (s5 + 1)))]) rfl ?_
        refine r_nil ?_
        refine r_then ?_
        refine r_lose (L' := [Res.var b1 67 Y67 ([], 0, 0, [], ())]) (.cons _ (.cons_cons _ .slnil)) ?_
        refine r_less [1, 2, 6, 9, 10, 11] rfl ?_
        exact r_backg (IntKind.wrap .i64 (s5 + 1)) () (Nat.lt_succ_self _) h rfl rfl
    · rw [if_neg (ne_true_of_eq_false hc)] at h
      refine r_exit ?_
      refine e_then ?_
      refine e_then ?_
      refine e_eq ?_
      refine r_then ?_
      refine r_less [6] rfl ?_
      exact r_meetk () () h rfl rfl
  · intro o3 gg h
    rw [← hk2] at h
    try dsimp only at h
    refine r_seq ?_
    refine r_region ?_
    refine y (y_build rfl zf67 rfl rfl .nil) rfl ?_
    refine r_store 0 .here rfl rfl rfl (by first | rfl | (simp only [Pth.off, T.size]; omega)) ok_here ty67 ?_
    refine r_nil ?_
    refine r_then ?_
    refine r_ret ?_
    obtain rfl := Option.some.inj h
    exact r_ret1 rfl (.cell 0 .here rfl rfl (by first | rfl | (simp only [Pth.off, T.size]; omega)) ok_here ty67) (fun _ _ g => g) (fun _ _ _ => List.nil_sublist _)
end Sx
