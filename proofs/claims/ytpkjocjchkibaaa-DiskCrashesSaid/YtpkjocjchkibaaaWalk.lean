/-
  Own work, printed by a program of the same hand. Each function of the code answers what its plain twin reckons.
-/
import Derived.Test.YtpkjocjchkibaaaWalk2
namespace Sx
open Go Go.Proofs
set_option maxRecDepth 10000

theorem escrowlaw04_came_ok (a0 : List Int) (a1 : List Int) (a2 : List Int) (a3 : Int) (a4 : Bool) (a5 : Int) (a6 : List Int) (r : Bool) (h : escrowlaw04_came a0 a1 a2 a3 a4 a5 a6 = some r) : Pure Try.prog 27 [.one .str a0, .one .str a1, .one .str a2, .one (.int .i64) a3, .one .bool a4, .one (.int .i64) a5, .one .str a6] (.one .bool r) := by
  unfold escrowlaw04_came at h
  refine enter Try.func27 rfl 81 rfl rfl fun F => ?_
  refine r_seq ?_
  refine r_region ?_
  refine r_pure tabOk 1 [0, 1, 2, 3, 4, 5, 6] (E' := [(0, .one .str a0), (1, .one .str a1), (2, .one .str a2), (3, .one (.int .i64) a3), (4, .one .bool a4), (5, .one (.int .i64) a5), (6, .one .str a6)]) rfl ?_
  refine r_nil ?_
  refine r_then ?_
  obtain ⟨k1, hk1, h⟩ := bnd_ex h
  refine r_joink (γ := Unit) (fun (o2 : Unit) _ => []) (fun (o2 : Unit) _ => []) k1 r ?_ ?_
  · refine r_seq ?_
    refine r_region ?_
    refine r_pure tabOk 3 [0, 1, 2, 3, 4, 5, 6, 15] (E' := [(0, .one .str a0), (1, .one .str a1), (2, .one .str a2), (3, .one (.int .i64) a3), (4, .one .bool a4), (5, .one (.int .i64) a5), (6, .one .str a6), (15, .one (.int .i64) (IntKind.wrap .i64 (64 * a3)))]) rfl ?_
    obtain ⟨i3, hi3, h⟩ := bnd_ex h
    rw [hi3]
    refine r_nil ?_
    refine r_then ?_
    refine r_block ?_
    refine r_less [0, 1, 2, 3, 4, 5, 6, 15] rfl ?_
    refine r_loopg (γ := Unit) (fun (s5 : Int) _ => [(0, .one .str a0), (1, .one .str a1), (2, .one .str a2), (3, .one (.int .i64) a3), (4, .one .bool a4), (5, .one (.int .i64) a5), (6, .one .str a6), (15, .one (.int .i64) s5)]) (fun (s5 : Int) _ => []) (escrowlaw04_came_l0 a0 a1 a2 a3 a4 a5 a6 k1) i3 () h rfl rfl ?_
    clear h
    intro m6 s5 gg h
    cases m6 with
    | zero => cases h
    | succ m6 =>
    simp only [escrowlaw04_came_l0] at h
    refine r_seq ?_
    refine r_seq ?_
    refine r_region ?_
    refine r_pure tabOk 6 [0, 1, 2, 3, 4, 5, 6, 15, 24] (E' := [(0, .one .str a0), (1, .one .str a1), (2, .one .str a2), (3, .one (.int .i64) a3), (4, .one .bool a4), (5, .one (.int .i64) a5), (6, .one .str a6), (15, .one (.int .i64) s5), (24, .one .bool (decide (s5 < (IntKind.wrap .i64 ((IntKind.wrap .i64 (64 * a3)) + 64)))))]) rfl ?_
    obtain ⟨b7, hbb7, h⟩ := bnd_ex h
    rw [hbb7]
    refine r_lsplit (γ := Unit) 5 (fun _ => [(0, .one .str a0), (1, .one .str a1), (2, .one .str a2), (3, .one (.int .i64) a3), (4, .one .bool a4), (5, .one (.int .i64) a5), (6, .one .str a6), (15, .one (.int .i64) s5), (29, .one .bool (b7 && (decide (s5 < (List.length a1 : Int)))))]) (fun _ => []) ?_ (fun _ => ?_)
    · clear h
      cases b7 with
      | true =>
      refine r_pure tabOk 5 [0, 1, 2, 3, 4, 5, 6, 15, 29] (E' := [(0, .one .str a0), (1, .one .str a1), (2, .one .str a2), (3, .one (.int .i64) a3), (4, .one .bool a4), (5, .one (.int .i64) a5), (6, .one .str a6), (15, .one (.int .i64) s5), (29, .one .bool (decide (s5 < (List.length a1 : Int))))]) rfl ?_
      refine r_nil ?_
      refine r_then ?_
      exact r_meetg () rfl rfl
      | false =>
      refine r_pure tabOk 5 [0, 1, 2, 3, 4, 5, 6, 15, 29] (E' := [(0, .one .str a0), (1, .one .str a1), (2, .one .str a2), (3, .one (.int .i64) a3), (4, .one .bool a4), (5, .one (.int .i64) a5), (6, .one .str a6), (15, .one (.int .i64) s5), (29, .one .bool false)]) rfl ?_
      refine r_nil ?_
      refine r_then ?_
      exact r_meetg () rfl rfl
    refine r_nil ?_
    refine r_then ?_
    refine r_if (b := (b7 && (decide (s5 < (List.length a1 : Int))))) rfl (fun hc => ?_) (fun hc => ?_)
    · rw [if_pos hc] at h
      refine r_skip ?_
      refine r_then ?_
      refine r_seq ?_
      refine r_block ?_
      refine r_seq ?_
      refine r_region ?_
      refine r_pure tabOk 1 [0, 1, 2, 3, 4, 5, 6, 15, 16] (E' := [(0, .one .str a0), (1, .one .str a1), (2, .one .str a2), (3, .one (.int .i64) a3), (4, .one .bool a4), (5, .one (.int .i64) a5), (6, .one .str a6), (15, .one (.int .i64) s5), (16, .one (.int .u8) 0)]) rfl ?_
      refine r_nil ?_
      refine r_then ?_
      obtain ⟨k8, hk8, h⟩ := bnd_ex h
      refine r_joink (γ := Unit) (fun (o9 : Int) _ => [(0, .one .str a0), (1, .one .str a1), (2, .one .str a2), (3, .one (.int .i64) a3), (4, .one .bool a4), (5, .one (.int .i64) a5), (6, .one .str a6), (15, .one (.int .i64) s5), (16, .one (.int .u8) o9)]) (fun (o9 : Int) _ => []) k8 r ?_ ?_
      · refine r_block ?_
        refine r_seq ?_
        refine r_region ?_
        refine r_pure tabOk 3 [0, 1, 2, 3, 4, 5, 6, 15, 16, 35] (E' := [(0, .one .str a0), (1, .one .str a1), (2, .one .str a2), (3, .one (.int .i64) a3), (4, .one .bool a4), (5, .one (.int .i64) a5), (6, .one .str a6), (15, .one (.int .i64) s5), (16, .one (.int .u8) 0), (35, .one .bool (!a4))]) rfl ?_
        obtain ⟨b11, hbb11, h⟩ := bnd_ex h
        rw [hbb11]
        refine r_lsplit (γ := Unit) 3 (fun _ => [(0, .one .str a0), (1, .one .str a1), (2, .one .str a2), (3, .one (.int .i64) a3), (4, .one .bool a4), (5, .one (.int .i64) a5), (6, .one .str a6), (15, .one (.int .i64) s5), (16, .one (.int .u8) 0), (38, .one .bool (b11 || (a5 == 1)))]) (fun _ => []) ?_ (fun _ => ?_)
        · clear h
          cases b11 with
          | true =>
          refine r_pure tabOk 3 [0, 1, 2, 3, 4, 5, 6, 15, 16, 38] (E' := [(0, .one .str a0), (1, .one .str a1), (2, .one .str a2), (3, .one (.int .i64) a3), (4, .one .bool a4), (5, .one (.int .i64) a5), (6, .one .str a6), (15, .one (.int .i64) s5), (16, .one (.int .u8) 0), (38, .one .bool true)]) rfl ?_
          refine r_nil ?_
          refine r_then ?_
          exact r_meetg () rfl rfl
          | false =>
          refine r_pure tabOk 3 [0, 1, 2, 3, 4, 5, 6, 15, 16, 38] (E' := [(0, .one .str a0), (1, .one .str a1), (2, .one .str a2), (3, .one (.int .i64) a3), (4, .one .bool a4), (5, .one (.int .i64) a5), (6, .one .str a6), (15, .one (.int .i64) s5), (16, .one (.int .u8) 0), (38, .one .bool (a5 == 1))]) rfl ?_
          refine r_nil ?_
          refine r_then ?_
          exact r_meetg () rfl rfl
        refine r_pure tabOk 1 [0, 1, 2, 3, 4, 5, 6, 15, 16, 32] (E' := [(0, .one .str a0), (1, .one .str a1), (2, .one .str a2), (3, .one (.int .i64) a3), (4, .one .bool a4), (5, .one (.int .i64) a5), (6, .one .str a6), (15, .one (.int .i64) s5), (16, .one (.int .u8) 0), (32, .one .bool (b11 || (a5 == 1)))]) rfl ?_
        refine r_nil ?_
        refine r_then ?_
        refine r_if (b := (b11 || (a5 == 1))) rfl (fun hc => ?_) (fun hc => ?_)
        · rw [if_pos hc] at h
          refine r_seq ?_
          refine r_seq ?_
          refine r_region ?_
          refine r_pure tabOk 4 [0, 1, 2, 3, 4, 5, 6, 15, 42] (E' := [(0, .one .str a0), (1, .one .str a1), (2, .one .str a2), (3, .one (.int .i64) a3), (4, .one .bool a4), (5, .one (.int .i64) a5), (6, .one .str a6), (15, .one (.int .i64) s5), (42, .one .bool (decide (s5 ≥ (List.length a0 : Int))))]) rfl ?_
          refine r_nil ?_
          refine r_then ?_
          refine r_if (b := (decide (s5 ≥ (List.length a0 : Int)))) rfl (fun hc => ?_) (fun hc => ?_)
          · rw [if_pos hc] at h
            refine r_seq ?_
            refine r_region ?_
            refine r_pure tabOk 1 [14] (E' := [(14, .one .bool false)]) rfl ?_
            refine r_nil ?_
            refine r_then ?_
            refine r_ret ?_
            refine t_then ?_
            refine t_block ?_
            refine t_then ?_
            refine t_block ?_
            refine t_then ?_
            refine t_then ?_
            refine t_block ?_
            refine t_then ?_
            obtain rfl := Option.some.inj h
            exact r_ret1 rfl (.tmp rfl) (fun _ _ g => g) (fun _ _ _ => List.nil_sublist _)
          · rw [if_neg (ne_true_of_eq_false hc)] at h
            refine r_skip ?_
            refine r_then ?_
            refine r_region ?_
            refine r_pure tabOk 2 [0, 1, 2, 3, 4, 5, 6, 15, 43, 44] (E' := [(0, .one .str a0), (1, .one .str a1), (2, .one .str a2), (3, .one (.int .i64) a3), (4, .one .bool a4), (5, .one (.int .i64) a5), (6, .one .str a6), (15, .one (.int .i64) s5), (43, .one .str a0), (44, .one (.int .i64) s5)]) rfl ?_
            obtain ⟨hc, h⟩ := ite_ex h
            refine y (y_byte tabOk rfl rfl hc.1 hc.2 rfl) rfl ?_
            refine r_pure tabOk 1 [0, 1, 2, 3, 4, 5, 6, 15, 16] (E' := [(0, .one .str a0), (1, .one .str a1), (2, .one .str a2), (3, .one (.int .i64) a3), (4, .one .bool a4), (5, .one (.int .i64) a5), (6, .one .str a6), (15, .one (.int .i64) s5), (16, .one (.int .u8) (List.getD a0 (Int.toNat s5) 0))]) rfl ?_
            obtain ⟨b12, hb12, h⟩ := bnd_ex h
            rw [hb12]
            refine r_nil ?_
            refine r_inblock ?_
            refine r_then ?_
            refine r_less [0, 1, 2, 3, 4, 5, 6, 15, 16] rfl ?_
            exact r_meetk b12 () h rfl rfl
        · rw [if_neg (ne_true_of_eq_false hc)] at h
          refine r_seq ?_
          refine r_region ?_
          refine r_pure tabOk 3 [0, 1, 2, 3, 4, 5, 6, 15, 16, 49] (E' := [(0, .one .str a0), (1, .one .str a1), (2, .one .str a2), (3, .one (.int .i64) a3), (4, .one .bool a4), (5, .one (.int .i64) a5), (6, .one .str a6), (15, .one (.int .i64) s5), (16, .one (.int .u8) 0), (49, .one .bool (a5 == 2))]) rfl ?_
          obtain ⟨b13, hbb13, h⟩ := bnd_ex h
          rw [hbb13]
          obtain ⟨k14, hk14, h⟩ := bnd_ex h
          refine r_lsplitk (γ := Unit) 8 (fun (o15 : Bool) _ => [(0, .one .str a0), (1, .one .str a1), (2, .one .str a2), (3, .one (.int .i64) a3), (4, .one .bool a4), (5, .one (.int .i64) a5), (6, .one .str a6), (15, .one (.int .i64) s5), (16, .one (.int .u8) 0), (57, .one .bool o15)]) (fun _ _ => []) k14 r ?_ ?_
          · rcases Bool.eq_false_or_eq_true b13 with hh | hh
            · rw [hh] at h ⊢
              rw [if_pos rfl] at h
              refine r_pure tabOk 7 [0, 1, 2, 3, 4, 5, 6, 15, 16, 49, 56] (E' := [(0, .one .str a0), (1, .one .str a1), (2, .one .str a2), (3, .one (.int .i64) a3), (4, .one .bool a4), (5, .one (.int .i64) a5), (6, .one .str a6), (15, .one (.int .i64) s5), (16, .one (.int .u8) 0), (49, .one .bool true), (56, .one .bool (decide ((IntKind.wrap .i64 (s5 - (IntKind.wrap .i64 (64 * a3)))) < (List.length a6 : Int))))]) rfl ?_
              obtain ⟨t16, ht16, h⟩ := bnd_ex h
              rw [ht16]
              refine r_pure tabOk 1 [0, 1, 2, 3, 4, 5, 6, 15, 16, 57] (E' := [(0, .one .str a0), (1, .one .str a1), (2, .one .str a2), (3, .one (.int .i64) a3), (4, .one .bool a4), (5, .one (.int .i64) a5), (6, .one .str a6), (15, .one (.int .i64) s5), (16, .one (.int .u8) 0), (57, .one .bool t16)]) rfl ?_
              refine r_nil ?_
              refine r_less [0, 1, 2, 3, 4, 5, 6, 15, 16, 57] rfl ?_
              refine r_then ?_
              exact r_meetk t16 () h rfl rfl
            · rw [hh] at h ⊢
              rw [if_neg (by decide)] at h
              refine r_pure tabOk 8 [0, 1, 2, 3, 4, 5, 6, 15, 16, 57] (E' := [(0, .one .str a0), (1, .one .str a1), (2, .one .str a2), (3, .one (.int .i64) a3), (4, .one .bool a4), (5, .one (.int .i64) a5), (6, .one .str a6), (15, .one (.int .i64) s5), (16, .one (.int .u8) 0), (57, .one .bool false)]) rfl ?_
              refine r_nil ?_
              refine r_less [0, 1, 2, 3, 4, 5, 6, 15, 16, 57] rfl ?_
              refine r_then ?_
              exact r_meetk false () h rfl rfl
          · intro o15 _ h
            rw [← hk14] at h
            try dsimp only at h
            refine r_pure tabOk 1 [0, 1, 2, 3, 4, 5, 6, 15, 16, 46] (E' := [(0, .one .str a0), (1, .one .str a1), (2, .one .str a2), (3, .one (.int .i64) a3), (4, .one .bool a4), (5, .one (.int .i64) a5), (6, .one .str a6), (15, .one (.int .i64) s5), (16, .one (.int .u8) 0), (46, .one .bool o15)]) rfl ?_
            refine r_nil ?_
            refine r_then ?_
            refine r_if (b := o15) rfl (fun hc => ?_) (fun hc => ?_)
            · rw [if_pos hc] at h
              refine r_region ?_
              refine r_pure tabOk 5 [0, 1, 2, 3, 4, 5, 6, 15, 58, 62] (E' := [(0, .one .str a0), (1, .one .str a1), (2, .one .str a2), (3, .one (.int .i64) a3), (4, .one .bool a4), (5, .one (.int .i64) a5), (6, .one .str a6), (15, .one (.int .i64) s5), (58, .one .str a6), (62, .one (.int .i64) (IntKind.wrap .i64 (s5 - (IntKind.wrap .i64 (64 * a3)))))]) rfl ?_
              obtain ⟨hc, h⟩ := ite_ex h
              refine y (y_byte tabOk rfl rfl hc.1 hc.2 rfl) rfl ?_
              refine r_pure tabOk 1 [0, 1, 2, 3, 4, 5, 6, 15, 16] (E' := [(0, .one .str a0), (1, .one .str a1), (2, .one .str a2), (3, .one (.int .i64) a3), (4, .one .bool a4), (5, .one (.int .i64) a5), (6, .one .str a6), (15, .one (.int .i64) s5), (16, .one (.int .u8) (List.getD a6 (Int.toNat (IntKind.wrap .i64 (s5 - (IntKind.wrap .i64 (64 * a3))))) 0))]) rfl ?_
              obtain ⟨b17, hb17, h⟩ := bnd_ex h
              rw [hb17]
              refine r_nil ?_
              refine r_inblock ?_
              refine r_then ?_
              refine r_less [0, 1, 2, 3, 4, 5, 6, 15, 16] rfl ?_
              exact r_meetk b17 () h rfl rfl
            · rw [if_neg (ne_true_of_eq_false hc)] at h
              refine r_seq ?_
              refine r_region ?_
              refine r_pure tabOk 3 [0, 1, 2, 3, 4, 5, 6, 15, 16, 67] (E' := [(0, .one .str a0), (1, .one .str a1), (2, .one .str a2), (3, .one (.int .i64) a3), (4, .one .bool a4), (5, .one (.int .i64) a5), (6, .one .str a6), (15, .one (.int .i64) s5), (16, .one (.int .u8) 0), (67, .one .bool (a5 == 0))]) rfl ?_
              obtain ⟨b18, hbb18, h⟩ := bnd_ex h
              rw [hbb18]
              refine r_lsplit (γ := Unit) 5 (fun _ => [(0, .one .str a0), (1, .one .str a1), (2, .one .str a2), (3, .one (.int .i64) a3), (4, .one .bool a4), (5, .one (.int .i64) a5), (6, .one .str a6), (15, .one (.int .i64) s5), (16, .one (.int .u8) 0), (72, .one .bool (b18 && (decide (s5 < (List.length a2 : Int)))))]) (fun _ => []) ?_ (fun _ => ?_)
              · clear h
                cases b18 with
                | true =>
                refine r_pure tabOk 5 [0, 1, 2, 3, 4, 5, 6, 15, 16, 72] (E' := [(0, .one .str a0), (1, .one .str a1), (2, .one .str a2), (3, .one (.int .i64) a3), (4, .one .bool a4), (5, .one (.int .i64) a5), (6, .one .str a6), (15, .one (.int .i64) s5), (16, .one (.int .u8) 0), (72, .one .bool (decide (s5 < (List.length a2 : Int))))]) rfl ?_
                refine r_nil ?_
                refine r_then ?_
                exact r_meetg () rfl rfl
                | false =>
                refine r_pure tabOk 5 [0, 1, 2, 3, 4, 5, 6, 15, 16, 72] (E' := [(0, .one .str a0), (1, .one .str a1), (2, .one .str a2), (3, .one (.int .i64) a3), (4, .one .bool a4), (5, .one (.int .i64) a5), (6, .one .str a6), (15, .one (.int .i64) s5), (16, .one (.int .u8) 0), (72, .one .bool false)]) rfl ?_
                refine r_nil ?_
                refine r_then ?_
                exact r_meetg () rfl rfl
              refine r_pure tabOk 1 [0, 1, 2, 3, 4, 5, 6, 15, 16, 64] (E' := [(0, .one .str a0), (1, .one .str a1), (2, .one .str a2), (3, .one (.int .i64) a3), (4, .one .bool a4), (5, .one (.int .i64) a5), (6, .one .str a6), (15, .one (.int .i64) s5), (16, .one (.int .u8) 0), (64, .one .bool (b18 && (decide (s5 < (List.length a2 : Int)))))]) rfl ?_
              refine r_nil ?_
              refine r_then ?_
              refine r_if (b := (b18 && (decide (s5 < (List.length a2 : Int))))) rfl (fun hc => ?_) (fun hc => ?_)
              · rw [if_pos hc] at h
                refine r_region ?_
                refine r_pure tabOk 2 [0, 1, 2, 3, 4, 5, 6, 15, 73, 74] (E' := [(0, .one .str a0), (1, .one .str a1), (2, .one .str a2), (3, .one (.int .i64) a3), (4, .one .bool a4), (5, .one (.int .i64) a5), (6, .one .str a6), (15, .one (.int .i64) s5), (73, .one .str a2), (74, .one (.int .i64) s5)]) rfl ?_
                obtain ⟨hc, h⟩ := ite_ex h
                refine y (y_byte tabOk rfl rfl hc.1 hc.2 rfl) rfl ?_
                refine r_pure tabOk 1 [0, 1, 2, 3, 4, 5, 6, 15, 16] (E' := [(0, .one .str a0), (1, .one .str a1), (2, .one .str a2), (3, .one (.int .i64) a3), (4, .one .bool a4), (5, .one (.int .i64) a5), (6, .one .str a6), (15, .one (.int .i64) s5), (16, .one (.int .u8) (List.getD a2 (Int.toNat s5) 0))]) rfl ?_
                obtain ⟨b19, hb19, h⟩ := bnd_ex h
                rw [hb19]
                refine r_nil ?_
                refine r_inblock ?_
                refine r_then ?_
                refine r_less [0, 1, 2, 3, 4, 5, 6, 15, 16] rfl ?_
                exact r_meetk b19 () h rfl rfl
              · rw [if_neg (ne_true_of_eq_false hc)] at h
                refine r_skip ?_
                refine r_inblock ?_
                refine r_then ?_
                refine r_less [0, 1, 2, 3, 4, 5, 6, 15, 16] rfl ?_
                exact r_meetk 0 () h rfl rfl
      · intro o9 gg h
        rw [← hk8] at h
        try dsimp only at h
        refine r_seq ?_
        refine r_region ?_
        refine r_pure tabOk 2 [0, 1, 2, 3, 4, 5, 6, 15, 16, 76, 77] (E' := [(0, .one .str a0), (1, .one .str a1), (2, .one .str a2), (3, .one (.int .i64) a3), (4, .one .bool a4), (5, .one (.int .i64) a5), (6, .one .str a6), (15, .one (.int .i64) s5), (16, .one (.int .u8) o9), (76, .one .str a1), (77, .one (.int .i64) s5)]) rfl ?_
        obtain ⟨hc, h⟩ := ite_ex h
        refine y (y_byte tabOk rfl rfl hc.1 hc.2 rfl) rfl ?_
        refine r_pure tabOk 2 [0, 1, 2, 3, 4, 5, 6, 15, 80] (E' := [(0, .one .str a0), (1, .one .str a1), (2, .one .str a2), (3, .one (.int .i64) a3), (4, .one .bool a4), (5, .one (.int .i64) a5), (6, .one .str a6), (15, .one (.int .i64) s5), (80, .one .bool ((List.getD a1 (Int.toNat s5) 0) != o9))]) rfl ?_
        refine r_nil ?_
        refine r_then ?_
        refine r_if (b := ((List.getD a1 (Int.toNat s5) 0) != o9)) rfl (fun hc => ?_) (fun hc => ?_)
        · rw [if_pos hc] at h
          refine r_seq ?_
          refine r_region ?_
          refine r_pure tabOk 1 [14] (E' := [(14, .one .bool false)]) rfl ?_
          refine r_nil ?_
          refine r_then ?_
          refine r_ret ?_
          refine t_block ?_
          refine t_then ?_
          refine t_then ?_
          refine t_block ?_
          refine t_then ?_
          obtain rfl := Option.some.inj h
          exact r_ret1 rfl (.tmp rfl) (fun _ _ g => g) (fun _ _ _ => List.nil_sublist _)
        · rw [if_neg (ne_true_of_eq_false hc)] at h
          refine r_skip ?_
          refine r_inblock ?_
          refine r_then ?_
          refine r_region ?_
          refine r_pure tabOk 3 [0, 1, 2, 3, 4, 5, 6, 15] (E' := [(0, .one .str a0), (1, .one .str a1), (2, .one .str a2), (3, .one (.int .i64) a3), (4, .one .bool a4), (5, .one (.int .i64) a5), (6, .one .str a6), (15, .one (.int .i64) (IntKind.wrap .i64 (s5 + 1)))]) rfl ?_
          obtain ⟨i10, hi10, h⟩ := bnd_ex h
          rw [hi10]
          refine r_nil ?_
          refine r_then ?_
          refine r_less [0, 1, 2, 3, 4, 5, 6, 15] rfl ?_
          exact r_backg i10 () (Nat.lt_succ_self _) h rfl rfl
    · rw [if_neg (ne_true_of_eq_false hc)] at h
      refine r_exit ?_
      refine e_then ?_
      refine e_then ?_
      refine e_eq ?_
      refine r_then ?_
      refine r_less [] rfl ?_
      exact r_meetk () () h rfl rfl
  · intro o2 gg h
    rw [← hk1] at h
    try dsimp only at h
    refine r_seq ?_
    refine r_region ?_
    refine r_pure tabOk 1 [14] (E' := [(14, .one .bool true)]) rfl ?_
    refine r_nil ?_
    refine r_then ?_
    refine r_ret ?_
    obtain rfl := Option.some.inj h
    exact r_ret1 rfl (.tmp rfl) (fun _ _ g => g) (fun _ _ _ => List.nil_sublist _)

theorem escrowlaw04_DiskCrashes_ok (a0 : List (Int × Bool × List Int × List Int × Int × Int × List Int × (List (List Int × Int × Int × List Int × Unit)) × Unit)) (a1 : List (List Int × Int × Int × List Int × Unit)) (r : Bool) (h : escrowlaw04_DiskCrashes a0 a1 = some r) : Pure Try.prog 5 [.one (.sl 41 Y41) a0, .one (.sl 67 Y67) a1] (.one .bool r) := by
  unfold escrowlaw04_DiskCrashes at h
  refine enter Try.func5 rfl 158 rfl rfl fun F => ?_
  refine r_seq ?_
  refine r_region ?_
  refine r_pure tabOk 1 [0, 1] (E' := [(0, .one (.sl 41 Y41) a0), (1, .one (.sl 67 Y67) a1)]) rfl ?_
  refine r_nil ?_
  refine r_then ?_
  refine r_seq ?_
  refine r_region ?_
  refine r_pure tabOk 1 [1, 18] (E' := [(1, .one (.sl 67 Y67) a1), (18, .one (.sl 41 Y41) a0)]) rfl ?_
  obtain ⟨r1, hr1, h⟩ := bind_ex h
  refine r_call (Lo := []) (escrowlaw04_made_ok a0 _ hr1) (by kernel_rfl) (by simp) rfl rfl fun v2 => ?_
  refine r_pure tabOk 1 [1, 5] (E' := [(1, .one (.sl 67 Y67) a1), (5, .one (.raw (.pointer none)) v2)]) rfl ?_
  refine r_nil ?_
  refine r_then ?_
  refine r_seq ?_
  refine r_seq ?_
  refine r_region ?_
  refine r_pure tabOk 1 [1, 5, 20] (E' := [(1, .one (.sl 67 Y67) a1), (5, .one (.raw (.pointer none)) v2), (20, .one (.raw (.pointer none)) v2)]) rfl ?_
  refine y (y_dnil 0 rfl rfl Try.underlying24) rfl ?_
  refine r_pure tabOk 1 [1, 5, 22] (E' := [(1, .one (.sl 67 Y67) a1), (5, .one (.raw (.pointer none)) v2), (22, .one .bool (r1.1 != 0))]) rfl ?_
  obtain ⟨b3, hbb3, h⟩ := bnd_ex h
  rw [hbb3]
  obtain ⟨k4, hk4, h⟩ := bnd_ex h
  refine r_lsplitk (γ := Unit) 3 (fun (o5 : Bool) _ => [(1, .one (.sl 67 Y67) a1), (5, .one (.raw (.pointer none)) v2), (25, .one .bool o5)]) (fun _ _ => [Res.diskif Try.prog dI v2 r1.2 r1.1]) k4 r ?_ ?_
  · rcases Bool.eq_false_or_eq_true b3 with hh | hh
    · rw [hh] at h ⊢
      rw [if_pos rfl] at h
      refine r_pure tabOk 3 [1, 5, 25] (E' := [(1, .one (.sl 67 Y67) a1), (5, .one (.raw (.pointer none)) v2), (25, .one .bool true)]) rfl ?_
      refine r_nil ?_
      refine r_less [1, 5, 25] rfl ?_
      refine r_then ?_
      exact r_meetk true () h rfl rfl
    · rw [hh] at h ⊢
      rw [if_neg (by decide)] at h
      refine r_guard (by rfl) rfl ?_
      obtain ⟨r6, hr6, h⟩ := bind_ex h
      refine r_calls (escrowlaw04_first_ok  _ hr6) (by kernel_rfl) rfl rfl ?_
      refine r_pure tabOk 2 [1, 5, 25] (E' := [(1, .one (.sl 67 Y67) a1), (5, .one (.raw (.pointer none)) v2), (25, .one .bool (!r6))]) rfl ?_
      refine r_nil ?_
      refine r_less [1, 5, 25] rfl ?_
      refine r_then ?_
      exact r_meetk (!r6) () h rfl rfl
  · intro o5 _ h
    rw [← hk4] at h
    try dsimp only at h
    refine r_nil ?_
    refine r_then ?_
    refine r_if (b := o5) rfl (fun hc => ?_) (fun hc => ?_)
    · rw [if_pos hc] at h
      refine r_seq ?_
      refine r_region ?_
      refine r_pure tabOk 1 [4] (E' := [(4, .one .bool false)]) rfl ?_
      refine r_nil ?_
      refine r_then ?_
      refine r_ret ?_
      refine t_then ?_
      obtain rfl := Option.some.inj h
      exact r_ret1 rfl (.tmp rfl) (fun _ _ g => g) (fun _ _ _ => List.nil_sublist _)
    · rw [if_neg (ne_true_of_eq_false hc)] at h
      refine r_skip ?_
      refine r_then ?_
      refine r_seq ?_
      refine r_region ?_
      refine r_pure tabOk 1 [1, 5, 26] (E' := [(1, .one (.sl 67 Y67) a1), (5, .one (.raw (.pointer none)) v2), (26, .one (.raw (.pointer none)) v2)]) rfl ?_
      obtain ⟨he7, h⟩ := ite_ex h
      refine r_imp_at (R' := Res.disk Try.prog dI v2 r1.2) 0 rfl (diskif_disk he7) ?_
      obtain ⟨r8, hr8, h⟩ := bind_ex h
      refine r_call (Lo := []) (disk_Disk_Copy_ok v2 r1.2 _ hr8) (by kernel_rfl) (List.Perm.refl _) rfl rfl fun v9 => ?_
      refine r_pure tabOk 1 [1, 5, 6] (E' := [(1, .one (.sl 67 Y67) a1), (5, .one (.raw (.pointer none)) v2), (6, .one (.raw (.pointer none)) v9)]) rfl ?_
      refine r_nil ?_
      refine r_then ?_
      refine r_seq ?_
      refine r_region ?_
      refine r_pure tabOk 1 [1, 5, 6, 28] (E' := [(1, .one (.sl 67 Y67) a1), (5, .one (.raw (.pointer none)) v2), (6, .one (.raw (.pointer none)) v9), (28, .one (.raw (.pointer none)) v2)]) rfl ?_
      obtain ⟨r10, hr10, h⟩ := bind_ex h
      refine r_call (Lo := [Res.diskif Try.prog dI v9 r8.2.1 r8.1]) (disk_Disk_Copy_ok v2 r8.2.2 _ hr10) (by kernel_rfl) (List.Perm.refl _) rfl rfl fun v11 => ?_
      refine r_pure tabOk 1 [1, 5, 6, 7] (E' := [(1, .one (.sl 67 Y67) a1), (5, .one (.raw (.pointer none)) v2), (6, .one (.raw (.pointer none)) v9), (7, .one (.raw (.pointer none)) v11)]) rfl ?_
      refine r_nil ?_
      refine r_then ?_
      refine r_seq ?_
      refine r_seq ?_
      refine r_region ?_
      refine r_pure tabOk 1 [1, 5, 6, 7, 30] (E' := [(1, .one (.sl 67 Y67) a1), (5, .one (.raw (.pointer none)) v2), (6, .one (.raw (.pointer none)) v9), (7, .one (.raw (.pointer none)) v11), (30, .one (.raw (.pointer none)) v9)]) rfl ?_
      refine y (y_dnil 2 rfl rfl Try.underlying24) rfl ?_
      refine r_pure tabOk 1 [1, 5, 6, 7, 32] (E' := [(1, .one (.sl 67 Y67) a1), (5, .one (.raw (.pointer none)) v2), (6, .one (.raw (.pointer none)) v9), (7, .one (.raw (.pointer none)) v11), (32, .one .bool (r8.1 != 0))]) rfl ?_
      obtain ⟨b12, hbb12, h⟩ := bnd_ex h
      rw [hbb12]
      refine r_lsplit (γ := Unit) 3 (fun _ => [(1, .one (.sl 67 Y67) a1), (5, .one (.raw (.pointer none)) v2), (6, .one (.raw (.pointer none)) v9), (7, .one (.raw (.pointer none)) v11), (35, .one .bool (b12 || (r10.1 != 0)))]) (fun _ => [Res.disk Try.prog dI v2 r10.2.2, Res.diskif Try.prog dI v11 r10.2.1 r10.1, Res.diskif Try.prog dI v9 r8.2.1 r8.1]) ?_ (fun _ => ?_)
      · clear h
        cases b12 with
        | true =>
        refine r_pure tabOk 3 [1, 5, 6, 7, 35] (E' := [(1, .one (.sl 67 Y67) a1), (5, .one (.raw (.pointer none)) v2), (6, .one (.raw (.pointer none)) v9), (7, .one (.raw (.pointer none)) v11), (35, .one .bool true)]) rfl ?_
        refine r_nil ?_
        refine r_then ?_
        exact r_meetg () rfl rfl
        | false =>
        refine r_pure tabOk 1 [1, 5, 6, 7, 32, 33] (E' := [(1, .one (.sl 67 Y67) a1), (5, .one (.raw (.pointer none)) v2), (6, .one (.raw (.pointer none)) v9), (7, .one (.raw (.pointer none)) v11), (32, .one .bool false), (33, .one (.raw (.pointer none)) v11)]) rfl ?_
        refine r_guard (by rfl) rfl ?_
        refine y (y_dnil 1 rfl rfl Try.underlying24) rfl ?_
        refine r_pure tabOk 1 [1, 5, 6, 7, 35] (E' := [(1, .one (.sl 67 Y67) a1), (5, .one (.raw (.pointer none)) v2), (6, .one (.raw (.pointer none)) v9), (7, .one (.raw (.pointer none)) v11), (35, .one .bool (r10.1 != 0))]) rfl ?_
        refine r_nil ?_
        refine r_then ?_
        exact r_meetg () rfl rfl
      refine r_nil ?_
      refine r_then ?_
      refine r_if (b := (b12 || (r10.1 != 0))) rfl (fun hc => ?_) (fun hc => ?_)
      · rw [if_pos hc] at h
        refine r_seq ?_
        refine r_region ?_
        refine r_pure tabOk 1 [4] (E' := [(4, .one .bool false)]) rfl ?_
        refine r_nil ?_
        refine r_then ?_
        refine r_ret ?_
        refine t_then ?_
        obtain rfl := Option.some.inj h
        exact r_ret1 rfl (.tmp rfl) (fun _ _ g => g) (fun _ _ _ => List.nil_sublist _)
      · rw [if_neg (ne_true_of_eq_false hc)] at h
        refine r_skip ?_
        refine r_then ?_
        refine r_seq ?_
        refine r_region ?_
        refine r_pure tabOk 1 [1, 5, 6, 7, 36] (E' := [(1, .one (.sl 67 Y67) a1), (5, .one (.raw (.pointer none)) v2), (6, .one (.raw (.pointer none)) v9), (7, .one (.raw (.pointer none)) v11), (36, .one (.raw (.pointer none)) v2)]) rfl ?_
        obtain ⟨r13, hr13, h⟩ := bind_ex h
        refine r_call (Lo := [Res.diskif Try.prog dI v11 r10.2.1 r10.1, Res.diskif Try.prog dI v9 r8.2.1 r8.1]) (disk_Disk_List_ok v2 r10.2.2 _ hr13) (by kernel_rfl) (List.Perm.refl _) rfl rfl fun v14 => ?_
        refine r_pure tabOk 1 [1, 5, 6, 7, 8] (E' := [(1, .one (.sl 67 Y67) a1), (5, .one (.raw (.pointer none)) v2), (6, .one (.raw (.pointer none)) v9), (7, .one (.raw (.pointer none)) v11), (8, .one (.raw (.slice none 0 0)) v14)]) rfl ?_
        refine r_nil ?_
        refine r_then ?_
        refine r_seq ?_
        refine r_region ?_
        refine r_pure tabOk 2 [1, 5, 6, 7, 8, 38, 39] (E' := [(1, .one (.sl 67 Y67) a1), (5, .one (.raw (.pointer none)) v2), (6, .one (.raw (.pointer none)) v9), (7, .one (.raw (.pointer none)) v11), (8, .one (.raw (.slice none 0 0)) v14), (38, .one (.raw (.pointer none)) v9), (39, .one (.sl 67 Y67) a1)]) rfl ?_
        obtain ⟨he15, h⟩ := ite_ex h
        refine r_imp_at (R' := Res.disk Try.prog dI v9 r8.2.1) 3 rfl (diskif_disk he15) ?_
        obtain ⟨r16, hr16, h⟩ := bind_ex h
        refine r_call (Lo := [Res.disk Try.prog dI v2 r10.2.2, Res.own v14 9 .str r13, Res.diskif Try.prog dI v11 r10.2.1 r10.1]) (disk_Disk_Crash_ok v9 r8.2.1 a1 _ hr16) (by kernel_rfl) ((List.perm_middle (a := Res.disk Try.prog dI v9 r8.2.1) (l₁ := [Res.disk Try.prog dI v2 r10.2.2, Res.own v14 9 .str r13, Res.diskif Try.prog dI v11 r10.2.1 r10.1]) (l₂ := [])).trans (.cons _ (List.Perm.refl _))) rfl rfl fun _ => ?_
        refine r_nil ?_
        refine r_then ?_
        refine r_seq ?_
        refine r_region ?_
        refine r_pure tabOk 1 [1, 5, 6, 7, 8, 41] (E' := [(1, .one (.sl 67 Y67) a1), (5, .one (.raw (.pointer none)) v2), (6, .one (.raw (.pointer none)) v9), (7, .one (.raw (.pointer none)) v11), (8, .one (.raw (.slice none 0 0)) v14), (41, .one (.raw (.pointer none)) v9)]) rfl ?_
        obtain ⟨r17, hr17, h⟩ := bind_ex h
        refine r_call (Lo := [Res.disk Try.prog dI v2 r10.2.2, Res.own v14 9 .str r13, Res.diskif Try.prog dI v11 r10.2.1 r10.1]) (disk_Disk_On_ok v9 r16 _ hr17) (by kernel_rfl) (List.Perm.refl _) rfl rfl fun _ => ?_
        refine r_nil ?_
        refine r_then ?_
        refine r_seq ?_
        refine r_region ?_
        refine r_pure tabOk 1 [1, 5, 6, 7, 8, 43] (E' := [(1, .one (.sl 67 Y67) a1), (5, .one (.raw (.pointer none)) v2), (6, .one (.raw (.pointer none)) v9), (7, .one (.raw (.pointer none)) v11), (8, .one (.raw (.slice none 0 0)) v14), (43, .one (.raw (.pointer none)) v11)]) rfl ?_
        obtain ⟨he18, h⟩ := ite_ex h
        refine r_imp_at (R' := Res.disk Try.prog dI v11 r10.2.1) 3 rfl (diskif_disk he18) ?_
        obtain ⟨r19, hr19, h⟩ := bind_ex h
        refine r_calla (Lo := [Res.disk Try.prog dI v9 r17, Res.disk Try.prog dI v2 r10.2.2, Res.own v14 9 .str r13]) (disk_Disk_Crash_ok v11 r10.2.1 [] _ hr19) (by kernel_rfl) ((List.perm_middle (a := Res.disk Try.prog dI v11 r10.2.1) (l₁ := [Res.disk Try.prog dI v9 r17, Res.disk Try.prog dI v2 r10.2.2, Res.own v14 9 .str r13]) (l₂ := [])).trans (.cons _ (List.Perm.refl _))) (.val rfl (.nilsl .nil)) rfl fun _ => ?_
        refine r_nil ?_
        refine r_then ?_
        refine r_seq ?_
        refine r_region ?_
        refine r_pure tabOk 1 [1, 5, 6, 7, 8, 45] (E' := [(1, .one (.sl 67 Y67) a1), (5, .one (.raw (.pointer none)) v2), (6, .one (.raw (.pointer none)) v9), (7, .one (.raw (.pointer none)) v11), (8, .one (.raw (.slice none 0 0)) v14), (45, .one (.raw (.pointer none)) v11)]) rfl ?_
        obtain ⟨r20, hr20, h⟩ := bind_ex h
        refine r_call (Lo := [Res.disk Try.prog dI v9 r17, Res.disk Try.prog dI v2 r10.2.2, Res.own v14 9 .str r13]) (disk_Disk_On_ok v11 r19 _ hr20) (by kernel_rfl) (List.Perm.refl _) rfl rfl fun _ => ?_
        refine r_nil ?_
        refine r_then ?_
        refine r_seq ?_
        refine r_seq ?_
        refine r_region ?_
        refine r_pure tabOk 1 [1, 5, 6, 7, 8, 47] (E' := [(1, .one (.sl 67 Y67) a1), (5, .one (.raw (.pointer none)) v2), (6, .one (.raw (.pointer none)) v9), (7, .one (.raw (.pointer none)) v11), (8, .one (.raw (.slice none 0 0)) v14), (47, .one (.raw (.pointer none)) v9)]) rfl ?_
        obtain ⟨r21, hr21, h⟩ := bind_ex h
        refine r_call (Lo := [Res.disk Try.prog dI v11 r20, Res.disk Try.prog dI v2 r10.2.2, Res.own v14 9 .str r13]) (disk_Disk_List_ok v9 r17 _ hr21) (by kernel_rfl) ((List.perm_middle (a := Res.disk Try.prog dI v9 r17) (l₁ := [Res.disk Try.prog dI v11 r20]) (l₂ := [Res.disk Try.prog dI v2 r10.2.2, Res.own v14 9 .str r13])).trans (.cons _ (List.Perm.refl _))) rfl rfl fun v22 => ?_
        refine r_pure tabOk 1 [1, 5, 6, 7, 8, 48, 49] (E' := [(1, .one (.sl 67 Y67) a1), (5, .one (.raw (.pointer none)) v2), (6, .one (.raw (.pointer none)) v9), (7, .one (.raw (.pointer none)) v11), (8, .one (.raw (.slice none 0 0)) v14), (48, .one (.raw (.slice none 0 0)) v22), (49, .one (.raw (.slice none 0 0)) v14)]) rfl ?_
        refine r_freeze (i := 1) (k := 48) rfl rfl ?_
        obtain ⟨r23, hr23, h⟩ := bind_ex h
        refine r_callw (escrowlaw04_sameTexts_ok r21 r13 _ hr23) (by kernel_rfl) rfl (.val rfl (.own 3 rfl rfl .nil)) rfl ?_
        refine r_pure tabOk 2 [1, 5, 6, 7, 8, 52] (E' := [(1, .one (.sl 67 Y67) a1), (5, .one (.raw (.pointer none)) v2), (6, .one (.raw (.pointer none)) v9), (7, .one (.raw (.pointer none)) v11), (8, .one (.raw (.slice none 0 0)) v14), (52, .one .bool (!r23))]) rfl ?_
        obtain ⟨b24, hbb24, h⟩ := bnd_ex h
        rw [hbb24]
        obtain ⟨k25, hk25, h⟩ := bnd_ex h
        refine r_lsplitk (γ := Unit) 6 (fun (o26 : Bool) _ => [(1, .one (.sl 67 Y67) a1), (5, .one (.raw (.pointer none)) v2), (6, .one (.raw (.pointer none)) v9), (7, .one (.raw (.pointer none)) v11), (8, .one (.raw (.slice none 0 0)) v14), (58, .one .bool o26)]) (fun _ _ => [Res.disk Try.prog dI v9 r17, Res.disk Try.prog dI v11 r20, Res.disk Try.prog dI v2 r10.2.2, Res.own v14 9 .str r13]) k25 r ?_ ?_
        · rcases Bool.eq_false_or_eq_true b24 with hh | hh
          · rw [hh] at h ⊢
            rw [if_pos rfl] at h
            refine r_pure tabOk 6 [1, 5, 6, 7, 8, 58] (E' := [(1, .one (.sl 67 Y67) a1), (5, .one (.raw (.pointer none)) v2), (6, .one (.raw (.pointer none)) v9), (7, .one (.raw (.pointer none)) v11), (8, .one (.raw (.slice none 0 0)) v14), (58, .one .bool true)]) rfl ?_
            refine r_nil ?_
            refine r_less [1, 5, 6, 7, 8, 58] rfl ?_
            refine r_then ?_
            exact r_meetk true () h rfl rfl
          · rw [hh] at h ⊢
            rw [if_neg (by decide)] at h
            refine r_pure tabOk 1 [1, 5, 6, 7, 8, 52, 53] (E' := [(1, .one (.sl 67 Y67) a1), (5, .one (.raw (.pointer none)) v2), (6, .one (.raw (.pointer none)) v9), (7, .one (.raw (.pointer none)) v11), (8, .one (.raw (.slice none 0 0)) v14), (52, .one .bool false), (53, .one (.raw (.pointer none)) v11)]) rfl ?_
            refine r_guard (by rfl) rfl ?_
            obtain ⟨r27, hr27, h⟩ := bind_ex h
            refine r_call (Lo := [Res.disk Try.prog dI v9 r17, Res.disk Try.prog dI v2 r10.2.2, Res.own v14 9 .str r13]) (disk_Disk_List_ok v11 r20 _ hr27) (by kernel_rfl) ((List.perm_middle (a := Res.disk Try.prog dI v11 r20) (l₁ := [Res.disk Try.prog dI v9 r17]) (l₂ := [Res.disk Try.prog dI v2 r10.2.2, Res.own v14 9 .str r13])).trans (.cons _ (List.Perm.refl _))) rfl rfl fun v28 => ?_
            refine r_pure tabOk 1 [1, 5, 6, 7, 8, 52, 54, 55] (E' := [(1, .one (.sl 67 Y67) a1), (5, .one (.raw (.pointer none)) v2), (6, .one (.raw (.pointer none)) v9), (7, .one (.raw (.pointer none)) v11), (8, .one (.raw (.slice none 0 0)) v14), (52, .one .bool false), (54, .one (.raw (.slice none 0 0)) v28), (55, .one (.raw (.slice none 0 0)) v14)]) rfl ?_
            refine r_guard (by rfl) rfl ?_
            refine r_freeze (i := 1) (k := 54) rfl rfl ?_
            obtain ⟨r29, hr29, h⟩ := bind_ex h
            refine r_callw (escrowlaw04_sameTexts_ok r27 r13 _ hr29) (by kernel_rfl) rfl (.val rfl (.own 3 rfl rfl .nil)) rfl ?_
            refine r_pure tabOk 2 [1, 5, 6, 7, 8, 58] (E' := [(1, .one (.sl 67 Y67) a1), (5, .one (.raw (.pointer none)) v2), (6, .one (.raw (.pointer none)) v9), (7, .one (.raw (.pointer none)) v11), (8, .one (.raw (.slice none 0 0)) v14), (58, .one .bool (!r29))]) rfl ?_
            refine r_nil ?_
            refine r_less [1, 5, 6, 7, 8, 58] rfl ?_
            refine r_perm (L' := [Res.disk Try.prog dI v9 r17, Res.disk Try.prog dI v11 r20, Res.disk Try.prog dI v2 r10.2.2, Res.own v14 9 .str r13]) ((List.perm_middle (a := Res.disk Try.prog dI v9 r17) (l₁ := [Res.disk Try.prog dI v11 r20]) (l₂ := [Res.disk Try.prog dI v2 r10.2.2, Res.own v14 9 .str r13])).trans (.cons _ (List.Perm.refl _))) ?_
            refine r_then ?_
            exact r_meetk (!r29) () h rfl rfl
        · intro o26 _ h
          rw [← hk25] at h
          try dsimp only at h
          refine r_nil ?_
          refine r_then ?_
          refine r_if (b := o26) rfl (fun hc => ?_) (fun hc => ?_)
          · rw [if_pos hc] at h
            refine r_seq ?_
            refine r_region ?_
            refine r_pure tabOk 1 [4] (E' := [(4, .one .bool false)]) rfl ?_
            refine r_nil ?_
            refine r_then ?_
            refine r_ret ?_
            refine t_then ?_
            obtain rfl := Option.some.inj h
            exact r_ret1 rfl (.tmp rfl) (fun _ _ g => g) (fun _ _ _ => List.nil_sublist _)
          · rw [if_neg (ne_true_of_eq_false hc)] at h
            refine r_skip ?_
            refine r_then ?_
            obtain ⟨k30, hk30, h⟩ := bnd_ex h
            refine r_joink (γ := Value) (fun (o31 : Unit) g32 => []) (fun (o31 : Unit) g32 => [Res.disk Try.prog dI v9 r17, Res.disk Try.prog dI v11 r20, Res.disk Try.prog dI v2 r10.2.2, Res.own g32 9 .str r13]) k30 r ?_ ?_
            · refine r_seq ?_
              refine r_region ?_
              refine r_pure tabOk 1 [1, 5, 6, 7, 8, 9] (E' := [(1, .one (.sl 67 Y67) a1), (5, .one (.raw (.pointer none)) v2), (6, .one (.raw (.pointer none)) v9), (7, .one (.raw (.pointer none)) v11), (8, .one (.raw (.slice none 0 0)) v14), (9, .one (.int .i64) 0)]) rfl ?_
              refine r_nil ?_
              refine r_then ?_
              refine r_block ?_
              refine r_less [1, 5, 6, 7, 8, 9] rfl ?_
              refine r_loopg (γ := Value) (fun (s36 : Int) g37 => [(1, .one (.sl 67 Y67) a1), (5, .one (.raw (.pointer none)) v2), (6, .one (.raw (.pointer none)) v9), (7, .one (.raw (.pointer none)) v11), (8, .one (.raw (.slice none 0 0)) g37), (9, .one (.int .i64) s36)]) (fun (s36 : Int) g37 => [Res.disk Try.prog dI v9 r17, Res.disk Try.prog dI v11 r20, Res.disk Try.prog dI v2 r10.2.2, Res.own g37 9 .str r13]) (escrowlaw04_DiskCrashes_l0 a1 r10 r13 r17 r20 k30) 0 v14 h rfl rfl ?_
              clear h
              intro m38 s36 g37 h
              cases m38 with
              | zero => cases h
              | succ m38 =>
              simp only [escrowlaw04_DiskCrashes_l0] at h
              refine r_seq ?_
              refine r_seq ?_
              refine r_region ?_
              refine r_pure tabOk 2 [1, 5, 6, 7, 8, 9, 59, 60] (E' := [(1, .one (.sl 67 Y67) a1), (5, .one (.raw (.pointer none)) v2), (6, .one (.raw (.pointer none)) v9), (7, .one (.raw (.pointer none)) v11), (8, .one (.raw (.slice none 0 0)) g37), (9, .one (.int .i64) s36), (59, .one (.int .i64) s36), (60, .one (.raw (.slice none 0 0)) g37)]) rfl ?_
              refine y (y_lenown tabOk 3 rfl rfl rfl) rfl ?_
              refine r_pure tabOk 1 [1, 5, 6, 7, 8, 9, 62] (E' := [(1, .one (.sl 67 Y67) a1), (5, .one (.raw (.pointer none)) v2), (6, .one (.raw (.pointer none)) v9), (7, .one (.raw (.pointer none)) v11), (8, .one (.raw (.slice none 0 0)) g37), (9, .one (.int .i64) s36), (62, .one .bool (decide (s36 < (List.length r13 : Int))))]) rfl ?_
              refine r_nil ?_
              refine r_then ?_
              refine r_if (b := (decide (s36 < (List.length r13 : Int)))) rfl (fun hc => ?_) (fun hc => ?_)
              · rw [if_pos hc] at h
                refine r_skip ?_
                refine r_then ?_
                refine r_seq ?_
                refine r_block ?_
                refine r_seq ?_
                obtain ⟨hi39, h⟩ := ite_ex h
                refine r_expose 3 rfl (by omega) fun b40 c41 hv => ?_
                rw [hv]
                try clear hv
                refine h_start (S := AllIs [OwnIs b40 9 .str r13]) (by kernel_rfl) ?_
                refine h_take (i := 0) (t := .one (.raw (.pointer none)) v2) (blind_then (blind_block (blind_then (blind_then (blind_block (blind_then blind_body)))))) rfl (by kernel_rfl) (by kernel_rfl) (by kernel_rfl) (allis_cons (own_is 3 rfl (by omega)) allis_nil) (y_pure tabOk rfl) rfl ?_
                refine h_take (i := 1) (t := .one (.raw (.slice none 0 0)) (.slice (some ⟨b40, 0, none⟩) (List.length r13) c41)) (blind_then (blind_block (blind_then (blind_then (blind_block (blind_then blind_body)))))) rfl (by kernel_rfl) (by kernel_rfl) (by kernel_rfl) (allis_cons (own_is 3 rfl (by omega)) allis_nil) (y_pure tabOk rfl) rfl ?_
                refine h_take (i := 2) (t := .one (.int .i64) s36) (blind_then (blind_block (blind_then (blind_then (blind_block (blind_then blind_body)))))) rfl (by kernel_rfl) (by kernel_rfl) (by kernel_rfl) (allis_cons (own_is 3 rfl (by omega)) allis_nil) (y_pure tabOk rfl) rfl ?_
                refine h_take (i := 3) (t := ptr b40 (0 + (Int.toNat s36) * 1)) (blind_then (blind_block (blind_then (blind_then (blind_block (blind_then blind_body)))))) rfl (by kernel_rfl) (by kernel_rfl) (by kernel_rfl) (allis_cons (own_is 3 rfl (by omega)) allis_nil) (y_iraw tabOk rfl rfl hi39.1 hi39.2 rfl ty9) rfl ?_
                refine h_take (i := 4) (t := .one .str (List.getD r13 (Int.toNat s36) [])) (blind_then (blind_block (blind_then (blind_then (blind_block (blind_then blind_body)))))) rfl (by kernel_rfl) (by kernel_rfl) (by kernel_rfl) (allis_cons (own_is 3 rfl (by omega)) allis_nil) (y_heldown (S := fun w => AllIs [OwnIs b40 9 .str r13] w) (allis_at 0 rfl) 3 (Int.toNat s36) .here rfl rfl rfl (by omega) (by first | rfl | (simp only [Pth.off, T.size]; omega)) ok_here ty9) rfl ?_
                refine h_take (i := 6) (t := .one (.raw (.pointer none)) v9) (blind_then (blind_block (blind_then (blind_then (blind_block (blind_then blind_body)))))) rfl (by kernel_rfl) (by kernel_rfl) (by kernel_rfl) (allis_cons (own_is 3 rfl (by omega)) allis_nil) (y_pure tabOk rfl) rfl ?_
                refine h_take (i := 7) (t := .one (.raw (.slice none 0 0)) (.slice (some ⟨b40, 0, none⟩) (List.length r13) c41)) (blind_then (blind_block (blind_then (blind_then (blind_block (blind_then blind_body)))))) rfl (by kernel_rfl) (by kernel_rfl) (by kernel_rfl) (allis_cons (own_is 3 rfl (by omega)) allis_nil) (y_pure tabOk rfl) rfl ?_
                refine h_take (i := 8) (t := .one (.int .i64) s36) (blind_then (blind_block (blind_then (blind_then (blind_block (blind_then blind_body)))))) rfl (by kernel_rfl) (by kernel_rfl) (by kernel_rfl) (allis_cons (own_is 3 rfl (by omega)) allis_nil) (y_pure tabOk rfl) rfl ?_
                refine h_take (i := 9) (t := ptr b40 (0 + (Int.toNat s36) * 1)) (blind_then (blind_block (blind_then (blind_then (blind_block (blind_then blind_body)))))) rfl (by kernel_rfl) (by kernel_rfl) (by kernel_rfl) (allis_cons (own_is 3 rfl (by omega)) allis_nil) (y_iraw tabOk rfl rfl hi39.1 hi39.2 rfl ty9) rfl ?_
                refine h_take (i := 10) (t := .one .str (List.getD r13 (Int.toNat s36) [])) (blind_then (blind_block (blind_then (blind_then (blind_block (blind_then blind_body)))))) rfl (by kernel_rfl) (by kernel_rfl) (by kernel_rfl) (allis_cons (own_is 3 rfl (by omega)) allis_nil) (y_heldown (S := fun w => AllIs [OwnIs b40 9 .str r13] w) (allis_at 0 rfl) 3 (Int.toNat s36) .here rfl rfl rfl (by omega) (by first | rfl | (simp only [Pth.off, T.size]; omega)) ok_here ty9) rfl ?_
                refine h_take (i := 12) (t := .one (.raw (.pointer none)) v11) (blind_then (blind_block (blind_then (blind_then (blind_block (blind_then blind_body)))))) rfl (by kernel_rfl) (by kernel_rfl) (by kernel_rfl) (allis_cons (own_is 3 rfl (by omega)) allis_nil) (y_pure tabOk rfl) rfl ?_
                refine h_take (i := 13) (t := .one (.raw (.slice none 0 0)) (.slice (some ⟨b40, 0, none⟩) (List.length r13) c41)) (blind_then (blind_block (blind_then (blind_then (blind_block (blind_then blind_body)))))) rfl (by kernel_rfl) (by kernel_rfl) (by kernel_rfl) (allis_cons (own_is 3 rfl (by omega)) allis_nil) (y_pure tabOk rfl) rfl ?_
                refine h_take (i := 14) (t := .one (.int .i64) s36) (blind_then (blind_block (blind_then (blind_then (blind_block (blind_then blind_body)))))) rfl (by kernel_rfl) (by kernel_rfl) (by kernel_rfl) (allis_cons (own_is 3 rfl (by omega)) allis_nil) (y_pure tabOk rfl) rfl ?_
                refine h_take (i := 15) (t := ptr b40 (0 + (Int.toNat s36) * 1)) (blind_then (blind_block (blind_then (blind_then (blind_block (blind_then blind_body)))))) rfl (by kernel_rfl) (by kernel_rfl) (by kernel_rfl) (allis_cons (own_is 3 rfl (by omega)) allis_nil) (y_iraw tabOk rfl rfl hi39.1 hi39.2 rfl ty9) rfl ?_
                refine h_take (i := 16) (t := .one .str (List.getD r13 (Int.toNat s36) [])) (blind_then (blind_block (blind_then (blind_then (blind_block (blind_then blind_body)))))) rfl (by kernel_rfl) (by kernel_rfl) (by kernel_rfl) (allis_cons (own_is 3 rfl (by omega)) allis_nil) (y_heldown (S := fun w => AllIs [OwnIs b40 9 .str r13] w) (allis_at 0 rfl) 3 (Int.toNat s36) .here rfl rfl rfl (by omega) (by first | rfl | (simp only [Pth.off, T.size]; omega)) ok_here ty9) rfl ?_
                refine h_one (i := 5) (by kernel_rfl) rfl ?_
                obtain ⟨r42, hr42, h⟩ := bind_ex h
                refine r_call (Lo := [Res.disk Try.prog dI v9 r17, Res.disk Try.prog dI v11 r20, Res.own (.slice (some ⟨b40, 0, none⟩) (List.length r13) c41) 9 .str r13]) (escrowlaw04_all_ok v2 r10.2.2 (List.getD r13 (Int.toNat s36) []) _ hr42) (by kernel_rfl) ((List.perm_middle (a := Res.disk Try.prog dI v2 r10.2.2) (l₁ := [Res.disk Try.prog dI v9 r17, Res.disk Try.prog dI v11 r20]) (l₂ := [Res.own (.slice (some ⟨b40, 0, none⟩) (List.length r13) c41) 9 .str r13])).trans (.cons _ (List.Perm.refl _))) rfl rfl fun _ => ?_
                refine r_nil ?_
                refine r_then ?_
                refine h_in (allis_cons (own_is 3 rfl (by omega)) allis_nil) ?_
                refine r_less [1, 5, 6, 7, 8, 9, 70, 71, 75, 77, 81] rfl ?_
                refine h_one (i := 11) (by kernel_rfl) rfl ?_
                obtain ⟨r43, hr43, h⟩ := bind_ex h
                refine r_call (Lo := [Res.disk Try.prog dI v2 r10.2.2, Res.disk Try.prog dI v11 r20, Res.own (.slice (some ⟨b40, 0, none⟩) (List.length r13) c41) 9 .str r13]) (escrowlaw04_all_ok v9 r17 (List.getD r13 (Int.toNat s36) []) _ hr43) (by kernel_rfl) ((List.perm_middle (a := Res.disk Try.prog dI v9 r17) (l₁ := [Res.disk Try.prog dI v2 r10.2.2]) (l₂ := [Res.disk Try.prog dI v11 r20, Res.own (.slice (some ⟨b40, 0, none⟩) (List.length r13) c41) 9 .str r13])).trans (.cons _ (List.Perm.refl _))) rfl rfl fun _ => ?_
                refine r_nil ?_
                refine r_then ?_
                refine h_in (allis_cons (own_is 3 rfl (by omega)) allis_nil) ?_
                refine r_less [1, 5, 6, 7, 8, 9, 70, 76, 77, 81] rfl ?_
                refine h_one (i := 17) (by kernel_rfl) rfl ?_
                obtain ⟨r44, hr44, h⟩ := bind_ex h
                refine r_call (Lo := [Res.disk Try.prog dI v9 r17, Res.disk Try.prog dI v2 r10.2.2, Res.own (.slice (some ⟨b40, 0, none⟩) (List.length r13) c41) 9 .str r13]) (escrowlaw04_all_ok v11 r20 (List.getD r13 (Int.toNat s36) []) _ hr44) (by kernel_rfl) ((List.perm_middle (a := Res.disk Try.prog dI v11 r20) (l₁ := [Res.disk Try.prog dI v9 r17, Res.disk Try.prog dI v2 r10.2.2]) (l₂ := [Res.own (.slice (some ⟨b40, 0, none⟩) (List.length r13) c41) 9 .str r13])).trans (.cons _ (List.Perm.refl _))) rfl rfl fun _ => ?_
                refine r_nil ?_
                refine r_then ?_
                refine h_in (allis_cons (own_is 3 rfl (by omega)) allis_nil) ?_
                refine r_less [1, 5, 6, 7, 8, 9, 70, 76, 82] rfl ?_
                refine h_take (i := 18) (t := .one .str r42) (blind_then (blind_block (blind_then (blind_then (blind_block (blind_then blind_body)))))) rfl (by kernel_rfl) (by kernel_rfl) (by kernel_rfl) (allis_cons (own_is 3 rfl (by omega)) allis_nil) (y_pure tabOk rfl) rfl ?_
                refine h_take (i := 19) (t := .one .str r43) (blind_then (blind_block (blind_then (blind_then (blind_block (blind_then blind_body)))))) rfl (by kernel_rfl) (by kernel_rfl) (by kernel_rfl) (allis_cons (own_is 3 rfl (by omega)) allis_nil) (y_pure tabOk rfl) rfl ?_
                refine h_take (i := 20) (t := .one .str r44) (blind_then (blind_block (blind_then (blind_then (blind_block (blind_then blind_body)))))) rfl (by kernel_rfl) (by kernel_rfl) (by kernel_rfl) (allis_cons (own_is 3 rfl (by omega)) allis_nil) (y_pure tabOk rfl) rfl ?_
                refine h_end (by kernel_rfl) ?_
                refine r_then ?_
                refine r_seq ?_
                refine r_region ?_
                refine r_pure tabOk 3 [1, 5, 6, 7, 8, 9, 10, 11, 12, 83, 84, 85] (E' := [(1, .one (.sl 67 Y67) a1), (5, .one (.raw (.pointer none)) v2), (6, .one (.raw (.pointer none)) v9), (7, .one (.raw (.pointer none)) v11), (8, .one (.raw (.slice none 0 0)) (.slice (some ⟨b40, 0, none⟩) (List.length r13) c41)), (9, .one (.int .i64) s36), (10, .one .str r42), (11, .one .str r43), (12, .one .str r44), (83, .one (.raw (.pointer none)) v2), (84, .one (.raw (.slice none 0 0)) (.slice (some ⟨b40, 0, none⟩) (List.length r13) c41)), (85, .one (.int .i64) s36)]) rfl ?_
                obtain ⟨hc, h⟩ := ite_ex h
                refine y (y_iraw tabOk rfl rfl hc.1 (by first | exact hc.2 | simpa using hc.2) rfl ty9) rfl ?_
                refine y (y_lown 3 (Int.toNat s36) .here rfl rfl (by first | omega | (simp only [List.length_set] at hc ⊢; omega)) (by first | rfl | (simp only [Pth.off, T.size]; omega)) ok_here ty9) rfl ?_
                obtain ⟨r47, hr47, h⟩ := bind_ex h
                refine r_call (Lo := [Res.disk Try.prog dI v11 r20, Res.disk Try.prog dI v9 r17, Res.own (.slice (some ⟨b40, 0, none⟩) (List.length r13) c41) 9 .str r13]) (disk_Disk_Dirty_ok v2 r10.2.2 (List.getD r13 (Int.toNat s36) []) _ hr47) (by kernel_rfl) ((List.perm_middle (a := Res.disk Try.prog dI v2 r10.2.2) (l₁ := [Res.disk Try.prog dI v11 r20, Res.disk Try.prog dI v9 r17]) (l₂ := [Res.own (.slice (some ⟨b40, 0, none⟩) (List.length r13) c41) 9 .str r13])).trans (.cons _ (List.Perm.refl _))) rfl rfl fun v48 => ?_
                refine r_pure tabOk 1 [1, 5, 6, 7, 8, 9, 10, 11, 12, 13] (E' := [(1, .one (.sl 67 Y67) a1), (5, .one (.raw (.pointer none)) v2), (6, .one (.raw (.pointer none)) v9), (7, .one (.raw (.pointer none)) v11), (8, .one (.raw (.slice none 0 0)) (.slice (some ⟨b40, 0, none⟩) (List.length r13) c41)), (9, .one (.int .i64) s36), (10, .one .str r42), (11, .one .str r43), (12, .one .str r44), (13, .one (.raw (.slice none 0 0)) v48)]) rfl ?_
                refine r_nil ?_
                refine r_then ?_
                refine r_seq ?_
                refine r_region ?_
                refine r_pure tabOk 3 [1, 5, 6, 7, 8, 9, 10, 11, 12, 13, 14] (E' := [(1, .one (.sl 67 Y67) a1), (5, .one (.raw (.pointer none)) v2), (6, .one (.raw (.pointer none)) v9), (7, .one (.raw (.pointer none)) v11), (8, .one (.raw (.slice none 0 0)) (.slice (some ⟨b40, 0, none⟩) (List.length r13) c41)), (9, .one (.int .i64) s36), (10, .one .str r42), (11, .one .str r43), (12, .one .str r44), (13, .one (.raw (.slice none 0 0)) v48), (14, .one (.int .i64) (List.length r44 : Int))]) rfl ?_
                obtain ⟨end49, hend49, h⟩ := bnd_ex h
                rw [hend49]
                refine r_nil ?_
                refine r_then ?_
                obtain ⟨k50, hk50, h⟩ := bnd_ex h
                refine r_joink (γ := Unit) (fun (o51 : Int) _ => [(1, .one (.sl 67 Y67) a1), (5, .one (.raw (.pointer none)) v2), (6, .one (.raw (.pointer none)) v9), (7, .one (.raw (.pointer none)) v11), (8, .one (.raw (.slice none 0 0)) (.slice (some ⟨b40, 0, none⟩) (List.length r13) c41)), (9, .one (.int .i64) s36), (10, .one .str r42), (11, .one .str r43), (13, .one (.raw (.slice none 0 0)) v48), (14, .one (.int .i64) o51)]) (fun (o51 : Int) _ => [Res.disk Try.prog dI v2 r10.2.2, Res.own v48 3 (.int .i64) r47, Res.disk Try.prog dI v11 r20, Res.disk Try.prog dI v9 r17, Res.own (.slice (some ⟨b40, 0, none⟩) (List.length r13) c41) 9 .str r13]) k50 r ?_ ?_
                · refine r_seq ?_
                  refine r_region ?_
                  refine r_pure tabOk 1 [1, 5, 6, 7, 8, 9, 10, 11, 12, 13, 14, 15] (E' := [(1, .one (.sl 67 Y67) a1), (5, .one (.raw (.pointer none)) v2), (6, .one (.raw (.pointer none)) v9), (7, .one (.raw (.pointer none)) v11), (8, .one (.raw (.slice none 0 0)) (.slice (some ⟨b40, 0, none⟩) (List.length r13) c41)), (9, .one (.int .i64) s36), (10, .one .str r42), (11, .one .str r43), (12, .one .str r44), (13, .one (.raw (.slice none 0 0)) v48), (14, .one (.int .i64) end49), (15, .one (.int .i64) 0)]) rfl ?_
                  refine r_nil ?_
                  refine r_then ?_
                  refine r_block ?_
                  refine r_less [1, 5, 6, 7, 8, 9, 10, 11, 12, 13, 14, 15] rfl ?_
                  refine r_loopg (γ := Unit) (fun (s65 : Int × Int) _ => [(1, .one (.sl 67 Y67) a1), (5, .one (.raw (.pointer none)) v2), (6, .one (.raw (.pointer none)) v9), (7, .one (.raw (.pointer none)) v11), (8, .one (.raw (.slice none 0 0)) (.slice (some ⟨b40, 0, none⟩) (List.length r13) c41)), (9, .one (.int .i64) s36), (10, .one .str r42), (11, .one .str r43), (12, .one .str r44), (13, .one (.raw (.slice none 0 0)) v48), (14, .one (.int .i64) s65.1), (15, .one (.int .i64) s65.2)]) (fun (s65 : Int × Int) _ => [Res.disk Try.prog dI v2 r10.2.2, Res.own v48 3 (.int .i64) r47, Res.disk Try.prog dI v11 r20, Res.disk Try.prog dI v9 r17, Res.own (.slice (some ⟨b40, 0, none⟩) (List.length r13) c41) 9 .str r13]) (escrowlaw04_DiskCrashes_l1 a1 r13 s36 r42 r43 r44 r47 k50) (end49, 0) () h rfl rfl ?_
                  clear h
                  intro m66 s65 gg h
                  cases m66 with
                  | zero => cases h
                  | succ m66 =>
                  simp only [escrowlaw04_DiskCrashes_l1] at h
                  refine r_seq ?_
                  refine r_seq ?_
                  refine r_region ?_
                  refine r_pure tabOk 5 [1, 5, 6, 7, 8, 9, 10, 11, 12, 13, 14, 15, 95] (E' := [(1, .one (.sl 67 Y67) a1), (5, .one (.raw (.pointer none)) v2), (6, .one (.raw (.pointer none)) v9), (7, .one (.raw (.pointer none)) v11), (8, .one (.raw (.slice none 0 0)) (.slice (some ⟨b40, 0, none⟩) (List.length r13) c41)), (9, .one (.int .i64) s36), (10, .one .str r42), (11, .one .str r43), (12, .one .str r44), (13, .one (.raw (.slice none 0 0)) v48), (14, .one (.int .i64) s65.1), (15, .one (.int .i64) s65.2), (95, .one .bool (decide ((IntKind.wrap .i64 (64 * s65.2)) < (List.length r42 : Int))))]) rfl ?_
                  refine r_nil ?_
                  refine r_then ?_
                  refine r_if (b := (decide ((IntKind.wrap .i64 (64 * s65.2)) < (List.length r42 : Int)))) rfl (fun hc => ?_) (fun hc => ?_)
                  · rw [if_pos hc] at h
                    refine r_skip ?_
                    refine r_then ?_
                    refine r_seq ?_
                    refine r_block ?_
                    refine r_seq ?_
                    refine r_region ?_
                    refine r_pure tabOk 3 [1, 5, 6, 7, 8, 9, 10, 11, 12, 13, 14, 15, 99, 100, 101] (E' := [(1, .one (.sl 67 Y67) a1), (5, .one (.raw (.pointer none)) v2), (6, .one (.raw (.pointer none)) v9), (7, .one (.raw (.pointer none)) v11), (8, .one (.raw (.slice none 0 0)) (.slice (some ⟨b40, 0, none⟩) (List.length r13) c41)), (9, .one (.int .i64) s36), (10, .one .str r42), (11, .one .str r43), (12, .one .str r44), (13, .one (.raw (.slice none 0 0)) v48), (14, .one (.int .i64) s65.1), (15, .one (.int .i64) s65.2), (99, .one (.sl 67 Y67) a1), (100, .one (.raw (.slice none 0 0)) (.slice (some ⟨b40, 0, none⟩) (List.length r13) c41)), (101, .one (.int .i64) s36)]) rfl ?_
                    obtain ⟨hc, h⟩ := ite_ex h
                    refine y (y_iraw tabOk rfl rfl hc.1 (by first | exact hc.2 | simpa using hc.2) rfl ty9) rfl ?_
                    refine y (y_lown 4 (Int.toNat s36) .here rfl rfl (by first | omega | (simp only [List.length_set] at hc ⊢; omega)) (by first | rfl | (simp only [Pth.off, T.size]; omega)) ok_here ty9) rfl ?_
                    refine r_pure tabOk 1 [1, 5, 6, 7, 8, 9, 10, 11, 12, 13, 14, 15, 99, 103, 104] (E' := [(1, .one (.sl 67 Y67) a1), (5, .one (.raw (.pointer none)) v2), (6, .one (.raw (.pointer none)) v9), (7, .one (.raw (.pointer none)) v11), (8, .one (.raw (.slice none 0 0)) (.slice (some ⟨b40, 0, none⟩) (List.length r13) c41)), (9, .one (.int .i64) s36), (10, .one .str r42), (11, .one .str r43), (12, .one .str r44), (13, .one (.raw (.slice none 0 0)) v48), (14, .one (.int .i64) s65.1), (15, .one (.int .i64) s65.2), (99, .one (.sl 67 Y67) a1), (103, .one .str (List.getD r13 (Int.toNat s36) [])), (104, .one (.int .i64) s65.2)]) rfl ?_
                    obtain ⟨r69, hr69, h⟩ := bind_ex h
                    refine r_calls (escrowlaw04_fate_ok a1 (List.getD r13 (Int.toNat s36) []) s65.2 _ hr69) (by kernel_rfl) rfl rfl ?_
                    refine r_pure tabOk 5 [1, 5, 6, 7, 8, 9, 10, 11, 12, 13, 14, 15, 16, 17] (E' := [(1, .one (.sl 67 Y67) a1), (5, .one (.raw (.pointer none)) v2), (6, .one (.raw (.pointer none)) v9), (7, .one (.raw (.pointer none)) v11), (8, .one (.raw (.slice none 0 0)) (.slice (some ⟨b40, 0, none⟩) (List.length r13) c41)), (9, .one (.int .i64) s36), (10, .one .str r42), (11, .one .str r43), (12, .one .str r44), (13, .one (.raw (.slice none 0 0)) v48), (14, .one (.int .i64) s65.1), (15, .one (.int .i64) s65.2), (16, .one (.int .i64) r69.1), (17, .one .str r69.2)]) rfl ?_
                    refine r_nil ?_
                    refine r_then ?_
                    obtain ⟨k70, hk70, h⟩ := bnd_ex h
                    refine r_joink (γ := Unit) (fun (o71 : Int) _ => [(1, .one (.sl 67 Y67) a1), (5, .one (.raw (.pointer none)) v2), (6, .one (.raw (.pointer none)) v9), (7, .one (.raw (.pointer none)) v11), (8, .one (.raw (.slice none 0 0)) (.slice (some ⟨b40, 0, none⟩) (List.length r13) c41)), (9, .one (.int .i64) s36), (10, .one .str r42), (11, .one .str r43), (12, .one .str r44), (13, .one (.raw (.slice none 0 0)) v48), (14, .one (.int .i64) o71), (15, .one (.int .i64) s65.2), (16, .one (.int .i64) r69.1), (17, .one .str r69.2)]) (fun (o71 : Int) _ => [Res.disk Try.prog dI v2 r10.2.2, Res.own v48 3 (.int .i64) r47, Res.disk Try.prog dI v11 r20, Res.disk Try.prog dI v9 r17, Res.own (.slice (some ⟨b40, 0, none⟩) (List.length r13) c41) 9 .str r13]) k70 r ?_ ?_
                    · refine r_seq ?_
                      refine r_region ?_
                      refine r_pure tabOk 2 [1, 5, 6, 7, 8, 9, 10, 11, 12, 13, 14, 15, 16, 17, 108, 109] (E' := [(1, .one (.sl 67 Y67) a1), (5, .one (.raw (.pointer none)) v2), (6, .one (.raw (.pointer none)) v9), (7, .one (.raw (.pointer none)) v11), (8, .one (.raw (.slice none 0 0)) (.slice (some ⟨b40, 0, none⟩) (List.length r13) c41)), (9, .one (.int .i64) s36), (10, .one .str r42), (11, .one .str r43), (12, .one .str r44), (13, .one (.raw (.slice none 0 0)) v48), (14, .one (.int .i64) s65.1), (15, .one (.int .i64) s65.2), (16, .one (.int .i64) r69.1), (17, .one .str r69.2), (108, .one (.raw (.slice none 0 0)) v48), (109, .one (.int .i64) s65.2)]) rfl ?_
                      obtain ⟨r75, hr75, h⟩ := bind_ex h
                      refine r_callw (escrowlaw04_member_ok r47 s65.2 _ hr75) (by kernel_rfl) rfl (.own 1 rfl rfl (.val rfl .nil)) rfl ?_
                      refine r_pure tabOk 1 [1, 5, 6, 7, 8, 9, 10, 11, 12, 13, 14, 15, 16, 17, 111] (E' := [(1, .one (.sl 67 Y67) a1), (5, .one (.raw (.pointer none)) v2), (6, .one (.raw (.pointer none)) v9), (7, .one (.raw (.pointer none)) v11), (8, .one (.raw (.slice none 0 0)) (.slice (some ⟨b40, 0, none⟩) (List.length r13) c41)), (9, .one (.int .i64) s36), (10, .one .str r42), (11, .one .str r43), (12, .one .str r44), (13, .one (.raw (.slice none 0 0)) v48), (14, .one (.int .i64) s65.1), (15, .one (.int .i64) s65.2), (16, .one (.int .i64) r69.1), (17, .one .str r69.2), (111, .one .bool r75)]) rfl ?_
                      refine r_lsplit (γ := Unit) 3 (fun _ => [(1, .one (.sl 67 Y67) a1), (5, .one (.raw (.pointer none)) v2), (6, .one (.raw (.pointer none)) v9), (7, .one (.raw (.pointer none)) v11), (8, .one (.raw (.slice none 0 0)) (.slice (some ⟨b40, 0, none⟩) (List.length r13) c41)), (9, .one (.int .i64) s36), (10, .one .str r42), (11, .one .str r43), (12, .one .str r44), (13, .one (.raw (.slice none 0 0)) v48), (14, .one (.int .i64) s65.1), (15, .one (.int .i64) s65.2), (16, .one (.int .i64) r69.1), (17, .one .str r69.2), (114, .one .bool (r75 && (r69.1 != 0)))]) (fun _ => [Res.disk Try.prog dI v2 r10.2.2, Res.own v48 3 (.int .i64) r47, Res.disk Try.prog dI v11 r20, Res.disk Try.prog dI v9 r17, Res.own (.slice (some ⟨b40, 0, none⟩) (List.length r13) c41) 9 .str r13]) ?_ (fun _ => ?_)
                      · clear h
                        rcases Bool.eq_false_or_eq_true r75 with hh | hh
                        · rw [hh]
                          refine r_pure tabOk 3 [1, 5, 6, 7, 8, 9, 10, 11, 12, 13, 14, 15, 16, 17, 114] (E' := [(1, .one (.sl 67 Y67) a1), (5, .one (.raw (.pointer none)) v2), (6, .one (.raw (.pointer none)) v9), (7, .one (.raw (.pointer none)) v11), (8, .one (.raw (.slice none 0 0)) (.slice (some ⟨b40, 0, none⟩) (List.length r13) c41)), (9, .one (.int .i64) s36), (10, .one .str r42), (11, .one .str r43), (12, .one .str r44), (13, .one (.raw (.slice none 0 0)) v48), (14, .one (.int .i64) s65.1), (15, .one (.int .i64) s65.2), (16, .one (.int .i64) r69.1), (17, .one .str r69.2), (114, .one .bool (r69.1 != 0))]) rfl ?_
                          refine r_nil ?_
                          refine r_then ?_
                          exact r_meetg () rfl rfl
                        · rw [hh]
                          refine r_pure tabOk 3 [1, 5, 6, 7, 8, 9, 10, 11, 12, 13, 14, 15, 16, 17, 114] (E' := [(1, .one (.sl 67 Y67) a1), (5, .one (.raw (.pointer none)) v2), (6, .one (.raw (.pointer none)) v9), (7, .one (.raw (.pointer none)) v11), (8, .one (.raw (.slice none 0 0)) (.slice (some ⟨b40, 0, none⟩) (List.length r13) c41)), (9, .one (.int .i64) s36), (10, .one .str r42), (11, .one .str r43), (12, .one .str r44), (13, .one (.raw (.slice none 0 0)) v48), (14, .one (.int .i64) s65.1), (15, .one (.int .i64) s65.2), (16, .one (.int .i64) r69.1), (17, .one .str r69.2), (114, .one .bool false)]) rfl ?_
                          refine r_nil ?_
                          refine r_then ?_
                          exact r_meetg () rfl rfl
                      refine r_nil ?_
                      refine r_then ?_
                      refine r_if (b := (r75 && (r69.1 != 0))) rfl (fun hc => ?_) (fun hc => ?_)
                      · rw [if_pos hc] at h
                        refine r_region ?_
                        refine r_pure tabOk 6 [1, 5, 6, 7, 8, 9, 10, 11, 12, 13, 15, 16, 17, 115, 117, 120] (E' := [(1, .one (.sl 67 Y67) a1), (5, .one (.raw (.pointer none)) v2), (6, .one (.raw (.pointer none)) v9), (7, .one (.raw (.pointer none)) v11), (8, .one (.raw (.slice none 0 0)) (.slice (some ⟨b40, 0, none⟩) (List.length r13) c41)), (9, .one (.int .i64) s36), (10, .one .str r42), (11, .one .str r43), (12, .one .str r44), (13, .one (.raw (.slice none 0 0)) v48), (15, .one (.int .i64) s65.2), (16, .one (.int .i64) r69.1), (17, .one .str r69.2), (115, .one (.int .i64) s65.1), (117, .one (.int .i64) (List.length r42 : Int)), (120, .one (.int .i64) (IntKind.wrap .i64 ((IntKind.wrap .i64 (64 * s65.2)) + 64)))]) rfl ?_
                        refine y (y_min rfl rfl) rfl ?_
                        refine y (y_max rfl rfl) rfl ?_
                        refine r_pure tabOk 1 [1, 5, 6, 7, 8, 9, 10, 11, 12, 13, 14, 15, 16, 17] (E' := [(1, .one (.sl 67 Y67) a1), (5, .one (.raw (.pointer none)) v2), (6, .one (.raw (.pointer none)) v9), (7, .one (.raw (.pointer none)) v11), (8, .one (.raw (.slice none 0 0)) (.slice (some ⟨b40, 0, none⟩) (List.length r13) c41)), (9, .one (.int .i64) s36), (10, .one .str r42), (11, .one .str r43), (12, .one .str r44), (13, .one (.raw (.slice none 0 0)) v48), (14, .one (.int .i64) (max s65.1 (min (List.length r42 : Int) (IntKind.wrap .i64 ((IntKind.wrap .i64 (64 * s65.2)) + 64))))), (15, .one (.int .i64) s65.2), (16, .one (.int .i64) r69.1), (17, .one .str r69.2)]) rfl ?_
                        obtain ⟨end77, hend77, h⟩ := bnd_ex h
                        rw [hend77]
                        refine r_nil ?_
                        refine r_then ?_
                        refine r_less [1, 5, 6, 7, 8, 9, 10, 11, 12, 13, 14, 15, 16, 17] rfl ?_
                        exact r_meetk end77 () h rfl rfl
                      · rw [if_neg (ne_true_of_eq_false hc)] at h
                        refine r_skip ?_
                        refine r_then ?_
                        refine r_less [1, 5, 6, 7, 8, 9, 10, 11, 12, 13, 14, 15, 16, 17] rfl ?_
                        exact r_meetk s65.1 () h rfl rfl
                    · intro o71 gg h
                      rw [← hk70] at h
                      try dsimp only at h
                      refine r_seq ?_
                      refine r_region ?_
                      refine r_pure tabOk 6 [1, 5, 6, 7, 8, 9, 10, 11, 12, 13, 14, 15, 16, 17, 123, 124, 125, 126, 127, 128] (E' := [(1, .one (.sl 67 Y67) a1), (5, .one (.raw (.pointer none)) v2), (6, .one (.raw (.pointer none)) v9), (7, .one (.raw (.pointer none)) v11), (8, .one (.raw (.slice none 0 0)) (.slice (some ⟨b40, 0, none⟩) (List.length r13) c41)), (9, .one (.int .i64) s36), (10, .one .str r42), (11, .one .str r43), (12, .one .str r44), (13, .one (.raw (.slice none 0 0)) v48), (14, .one (.int .i64) o71), (15, .one (.int .i64) s65.2), (16, .one (.int .i64) r69.1), (17, .one .str r69.2), (123, .one .str r42), (124, .one .str r43), (125, .one .str r44), (126, .one (.int .i64) s65.2), (127, .one (.raw (.slice none 0 0)) v48), (128, .one (.int .i64) s65.2)]) rfl ?_
                      obtain ⟨r72, hr72, h⟩ := bind_ex h
                      refine r_callw (escrowlaw04_member_ok r47 s65.2 _ hr72) (by kernel_rfl) rfl (.own 1 rfl rfl (.val rfl .nil)) rfl ?_
                      refine r_pure tabOk 2 [1, 5, 6, 7, 8, 9, 10, 11, 12, 13, 14, 15, 123, 124, 125, 126, 129, 130, 131] (E' := [(1, .one (.sl 67 Y67) a1), (5, .one (.raw (.pointer none)) v2), (6, .one (.raw (.pointer none)) v9), (7, .one (.raw (.pointer none)) v11), (8, .one (.raw (.slice none 0 0)) (.slice (some ⟨b40, 0, none⟩) (List.length r13) c41)), (9, .one (.int .i64) s36), (10, .one .str r42), (11, .one .str r43), (12, .one .str r44), (13, .one (.raw (.slice none 0 0)) v48), (14, .one (.int .i64) o71), (15, .one (.int .i64) s65.2), (123, .one .str r42), (124, .one .str r43), (125, .one .str r44), (126, .one (.int .i64) s65.2), (129, .one .bool r72), (130, .one (.int .i64) r69.1), (131, .one .str r69.2)]) rfl ?_
                      obtain ⟨r73, hr73, h⟩ := bind_ex h
                      refine r_calls (escrowlaw04_came_ok r42 r43 r44 s65.2 r72 r69.1 r69.2 _ hr73) (by kernel_rfl) rfl rfl ?_
                      refine r_pure tabOk 1 [1, 5, 6, 7, 8, 9, 10, 11, 12, 13, 14, 15, 133] (E' := [(1, .one (.sl 67 Y67) a1), (5, .one (.raw (.pointer none)) v2), (6, .one (.raw (.pointer none)) v9), (7, .one (.raw (.pointer none)) v11), (8, .one (.raw (.slice none 0 0)) (.slice (some ⟨b40, 0, none⟩) (List.length r13) c41)), (9, .one (.int .i64) s36), (10, .one .str r42), (11, .one .str r43), (12, .one .str r44), (13, .one (.raw (.slice none 0 0)) v48), (14, .one (.int .i64) o71), (15, .one (.int .i64) s65.2), (133, .one .bool (!r73))]) rfl ?_
                      refine r_nil ?_
                      refine r_then ?_
                      refine r_if (b := (!r73)) rfl (fun hc => ?_) (fun hc => ?_)
                      · rw [if_pos hc] at h
                        refine r_seq ?_
                        refine r_region ?_
                        refine r_pure tabOk 1 [4] (E' := [(4, .one .bool false)]) rfl ?_
                        refine r_nil ?_
                        refine r_then ?_
                        refine r_ret ?_
                        refine t_block ?_
                        refine t_then ?_
                        refine t_then ?_
                        refine t_block ?_
                        refine t_then ?_
                        refine t_block ?_
                        refine t_then ?_
                        refine t_then ?_
                        refine t_block ?_
                        refine t_then ?_
                        obtain rfl := Option.some.inj h
                        exact r_ret1 rfl (.tmp rfl) (fun _ _ g => g) (fun _ _ _ => List.nil_sublist _)
                      · rw [if_neg (ne_true_of_eq_false hc)] at h
                        refine r_skip ?_
                        refine r_inblock ?_
                        refine r_then ?_
                        refine r_region ?_
                        refine r_pure tabOk 3 [1, 5, 6, 7, 8, 9, 10, 11, 12, 13, 14, 15] (E' := [(1, .one (.sl 67 Y67) a1), (5, .one (.raw (.pointer none)) v2), (6, .one (.raw (.pointer none)) v9), (7, .one (.raw (.pointer none)) v11), (8, .one (.raw (.slice none 0 0)) (.slice (some ⟨b40, 0, none⟩) (List.length r13) c41)), (9, .one (.int .i64) s36), (10, .one .str r42), (11, .one .str r43), (12, .one .str r44), (13, .one (.raw (.slice none 0 0)) v48), (14, .one (.int .i64) o71), (15, .one (.int .i64) (IntKind.wrap .i64 (s65.2 + 1)))]) rfl ?_
                        obtain ⟨s74, hs74, h⟩ := bnd_ex h
                        rw [hs74]
                        refine r_nil ?_
                        refine r_then ?_
                        refine r_less [1, 5, 6, 7, 8, 9, 10, 11, 12, 13, 14, 15] rfl ?_
                        exact r_backg (o71, s74) () (Nat.lt_succ_self _) h rfl rfl
                  · rw [if_neg (ne_true_of_eq_false hc)] at h
                    refine r_exit ?_
                    refine e_then ?_
                    refine e_then ?_
                    refine e_eq ?_
                    refine r_then ?_
                    refine r_less [1, 5, 6, 7, 8, 9, 10, 11, 13, 14] rfl ?_
                    exact r_meetk s65.1 () h rfl rfl
                · intro o51 gg h
                  rw [← hk50] at h
                  try dsimp only at h
                  refine r_seq ?_
                  refine r_region ?_
                  refine r_pure tabOk 5 [1, 5, 6, 7, 8, 9, 10, 11, 13, 138] (E' := [(1, .one (.sl 67 Y67) a1), (5, .one (.raw (.pointer none)) v2), (6, .one (.raw (.pointer none)) v9), (7, .one (.raw (.pointer none)) v11), (8, .one (.raw (.slice none 0 0)) (.slice (some ⟨b40, 0, none⟩) (List.length r13) c41)), (9, .one (.int .i64) s36), (10, .one .str r42), (11, .one .str r43), (13, .one (.raw (.slice none 0 0)) v48), (138, .one .bool ((List.length r43 : Int) != o51))]) rfl ?_
                  obtain ⟨b52, hbb52, h⟩ := bnd_ex h
                  rw [hbb52]
                  obtain ⟨k53, hk53, h⟩ := bnd_ex h
                  refine r_lsplitk (γ := Unit) 9 (fun (o54 : Bool) _ => [(1, .one (.sl 67 Y67) a1), (5, .one (.raw (.pointer none)) v2), (6, .one (.raw (.pointer none)) v9), (7, .one (.raw (.pointer none)) v11), (8, .one (.raw (.slice none 0 0)) (.slice (some ⟨b40, 0, none⟩) (List.length r13) c41)), (9, .one (.int .i64) s36), (10, .one .str r42), (11, .one .str r43), (13, .one (.raw (.slice none 0 0)) v48), (147, .one .bool o54)]) (fun _ _ => [Res.disk Try.prog dI v2 r10.2.2, Res.own v48 3 (.int .i64) r47, Res.disk Try.prog dI v11 r20, Res.disk Try.prog dI v9 r17, Res.own (.slice (some ⟨b40, 0, none⟩) (List.length r13) c41) 9 .str r13]) k53 r ?_ ?_
                  · rcases Bool.eq_false_or_eq_true b52 with hh | hh
                    · rw [hh] at h ⊢
                      rw [if_pos rfl] at h
                      refine r_pure tabOk 9 [1, 5, 6, 7, 8, 9, 10, 11, 13, 147] (E' := [(1, .one (.sl 67 Y67) a1), (5, .one (.raw (.pointer none)) v2), (6, .one (.raw (.pointer none)) v9), (7, .one (.raw (.pointer none)) v11), (8, .one (.raw (.slice none 0 0)) (.slice (some ⟨b40, 0, none⟩) (List.length r13) c41)), (9, .one (.int .i64) s36), (10, .one .str r42), (11, .one .str r43), (13, .one (.raw (.slice none 0 0)) v48), (147, .one .bool true)]) rfl ?_
                      refine r_nil ?_
                      refine r_less [1, 5, 6, 7, 8, 9, 10, 11, 13, 147] rfl ?_
                      refine r_then ?_
                      exact r_meetk true () h rfl rfl
                    · rw [hh] at h ⊢
                      rw [if_neg (by decide)] at h
                      refine r_pure tabOk 3 [1, 5, 6, 7, 8, 9, 10, 11, 13, 138, 139, 140, 141] (E' := [(1, .one (.sl 67 Y67) a1), (5, .one (.raw (.pointer none)) v2), (6, .one (.raw (.pointer none)) v9), (7, .one (.raw (.pointer none)) v11), (8, .one (.raw (.slice none 0 0)) (.slice (some ⟨b40, 0, none⟩) (List.length r13) c41)), (9, .one (.int .i64) s36), (10, .one .str r42), (11, .one .str r43), (13, .one (.raw (.slice none 0 0)) v48), (138, .one .bool false), (139, .one (.raw (.pointer none)) v9), (140, .one (.raw (.slice none 0 0)) (.slice (some ⟨b40, 0, none⟩) (List.length r13) c41)), (141, .one (.int .i64) s36)]) rfl ?_
                      refine r_guard (by rfl) rfl ?_
                      obtain ⟨hc, h⟩ := ite_ex h
                      refine y (y_iraw tabOk rfl rfl hc.1 (by first | exact hc.2 | simpa using hc.2) rfl ty9) rfl ?_
                      refine r_guard (by rfl) rfl ?_
                      refine y (y_lown 4 (Int.toNat s36) .here rfl rfl (by first | omega | (simp only [List.length_set] at hc ⊢; omega)) (by first | rfl | (simp only [Pth.off, T.size]; omega)) ok_here ty9) rfl ?_
                      refine r_guard (by rfl) rfl ?_
                      obtain ⟨r57, hr57, h⟩ := bind_ex h
                      refine r_call (Lo := [Res.disk Try.prog dI v2 r10.2.2, Res.own v48 3 (.int .i64) r47, Res.disk Try.prog dI v11 r20, Res.own (.slice (some ⟨b40, 0, none⟩) (List.length r13) c41) 9 .str r13]) (disk_Disk_Dirty_ok v9 r17 (List.getD r13 (Int.toNat s36) []) _ hr57) (by kernel_rfl) ((List.perm_middle (a := Res.disk Try.prog dI v9 r17) (l₁ := [Res.disk Try.prog dI v2 r10.2.2, Res.own v48 3 (.int .i64) r47, Res.disk Try.prog dI v11 r20]) (l₂ := [Res.own (.slice (some ⟨b40, 0, none⟩) (List.length r13) c41) 9 .str r13])).trans (.cons _ (List.Perm.refl _))) rfl rfl fun v58 => ?_
                      refine r_guard (by rfl) rfl ?_
                      refine y (y_lenown tabOk 1 rfl rfl rfl) rfl ?_
                      refine r_pure tabOk 2 [1, 5, 6, 7, 8, 9, 10, 11, 13, 147] (E' := [(1, .one (.sl 67 Y67) a1), (5, .one (.raw (.pointer none)) v2), (6, .one (.raw (.pointer none)) v9), (7, .one (.raw (.pointer none)) v11), (8, .one (.raw (.slice none 0 0)) (.slice (some ⟨b40, 0, none⟩) (List.length r13) c41)), (9, .one (.int .i64) s36), (10, .one .str r42), (11, .one .str r43), (13, .one (.raw (.slice none 0 0)) v48), (147, .one .bool ((List.length r57 : Int) != 0))]) rfl ?_
                      refine r_nil ?_
                      refine r_less [1, 5, 6, 7, 8, 9, 10, 11, 13, 147] rfl ?_
                      refine r_lose (L' := [Res.disk Try.prog dI v9 r17, Res.disk Try.prog dI v2 r10.2.2, Res.own v48 3 (.int .i64) r47, Res.disk Try.prog dI v11 r20, Res.own (.slice (some ⟨b40, 0, none⟩) (List.length r13) c41) 9 .str r13]) (.cons_cons _ (.cons _ (.cons_cons _ (.cons_cons _ (.cons_cons _ (.cons_cons _ .slnil)))))) ?_
                      refine r_perm (L' := [Res.disk Try.prog dI v2 r10.2.2, Res.own v48 3 (.int .i64) r47, Res.disk Try.prog dI v11 r20, Res.disk Try.prog dI v9 r17, Res.own (.slice (some ⟨b40, 0, none⟩) (List.length r13) c41) 9 .str r13]) ((List.perm_middle (a := Res.disk Try.prog dI v2 r10.2.2) (l₁ := [Res.disk Try.prog dI v9 r17]) (l₂ := [Res.own v48 3 (.int .i64) r47, Res.disk Try.prog dI v11 r20, Res.own (.slice (some ⟨b40, 0, none⟩) (List.length r13) c41) 9 .str r13])).trans (.cons _ ((List.perm_middle (a := Res.own v48 3 (.int .i64) r47) (l₁ := [Res.disk Try.prog dI v9 r17]) (l₂ := [Res.disk Try.prog dI v11 r20, Res.own (.slice (some ⟨b40, 0, none⟩) (List.length r13) c41) 9 .str r13])).trans (.cons _ ((List.perm_middle (a := Res.disk Try.prog dI v11 r20) (l₁ := [Res.disk Try.prog dI v9 r17]) (l₂ := [Res.own (.slice (some ⟨b40, 0, none⟩) (List.length r13) c41) 9 .str r13])).trans (.cons _ (List.Perm.refl _))))))) ?_
                      refine r_then ?_
                      exact r_meetk ((List.length r57 : Int) != 0) () h rfl rfl
                  · intro o54 _ h
                    rw [← hk53] at h
                    try dsimp only at h
                    refine r_pure tabOk 1 [1, 5, 6, 7, 8, 9, 10, 11, 13, 148] (E' := [(1, .one (.sl 67 Y67) a1), (5, .one (.raw (.pointer none)) v2), (6, .one (.raw (.pointer none)) v9), (7, .one (.raw (.pointer none)) v11), (8, .one (.raw (.slice none 0 0)) (.slice (some ⟨b40, 0, none⟩) (List.length r13) c41)), (9, .one (.int .i64) s36), (10, .one .str r42), (11, .one .str r43), (13, .one (.raw (.slice none 0 0)) v48), (148, .one .bool o54)]) rfl ?_
                    obtain ⟨k60, hk60, h⟩ := bnd_ex h
                    refine r_lsplitk (γ := Unit) 9 (fun (o61 : Bool) _ => [(1, .one (.sl 67 Y67) a1), (5, .one (.raw (.pointer none)) v2), (6, .one (.raw (.pointer none)) v9), (7, .one (.raw (.pointer none)) v11), (8, .one (.raw (.slice none 0 0)) (.slice (some ⟨b40, 0, none⟩) (List.length r13) c41)), (9, .one (.int .i64) s36), (157, .one .bool o61)]) (fun _ _ => [Res.disk Try.prog dI v2 r10.2.2, Res.own v48 3 (.int .i64) r47, Res.disk Try.prog dI v11 r20, Res.disk Try.prog dI v9 r17, Res.own (.slice (some ⟨b40, 0, none⟩) (List.length r13) c41) 9 .str r13]) k60 r ?_ ?_
                    · rcases Bool.eq_false_or_eq_true o54 with hh | hh
                      · rw [hh] at h ⊢
                        rw [if_pos rfl] at h
                        refine r_pure tabOk 9 [1, 5, 6, 7, 8, 9, 157] (E' := [(1, .one (.sl 67 Y67) a1), (5, .one (.raw (.pointer none)) v2), (6, .one (.raw (.pointer none)) v9), (7, .one (.raw (.pointer none)) v11), (8, .one (.raw (.slice none 0 0)) (.slice (some ⟨b40, 0, none⟩) (List.length r13) c41)), (9, .one (.int .i64) s36), (157, .one .bool true)]) rfl ?_
                        refine r_nil ?_
                        refine r_less [1, 5, 6, 7, 8, 9, 157] rfl ?_
                        refine r_then ?_
                        exact r_meetk true () h rfl rfl
                      · rw [hh] at h ⊢
                        rw [if_neg (by decide)] at h
                        refine r_pure tabOk 1 [1, 5, 6, 7, 8, 9, 10, 11, 148, 149] (E' := [(1, .one (.sl 67 Y67) a1), (5, .one (.raw (.pointer none)) v2), (6, .one (.raw (.pointer none)) v9), (7, .one (.raw (.pointer none)) v11), (8, .one (.raw (.slice none 0 0)) (.slice (some ⟨b40, 0, none⟩) (List.length r13) c41)), (9, .one (.int .i64) s36), (10, .one .str r42), (11, .one .str r43), (148, .one .bool false), (149, .one (.raw (.slice none 0 0)) v48)]) rfl ?_
                        refine r_guard (by rfl) rfl ?_
                        refine y (y_lenown tabOk 1 rfl rfl rfl) rfl ?_
                        refine r_pure tabOk 2 [1, 5, 6, 7, 8, 9, 10, 11, 148, 152] (E' := [(1, .one (.sl 67 Y67) a1), (5, .one (.raw (.pointer none)) v2), (6, .one (.raw (.pointer none)) v9), (7, .one (.raw (.pointer none)) v11), (8, .one (.raw (.slice none 0 0)) (.slice (some ⟨b40, 0, none⟩) (List.length r13) c41)), (9, .one (.int .i64) s36), (10, .one .str r42), (11, .one .str r43), (148, .one .bool false), (152, .one .bool ((List.length r47 : Int) == 0))]) rfl ?_
                        obtain ⟨b62, hbb62, h⟩ := bnd_ex h
                        rw [hbb62]
                        refine r_lsplit (γ := Unit) 4 (fun _ => [(1, .one (.sl 67 Y67) a1), (5, .one (.raw (.pointer none)) v2), (6, .one (.raw (.pointer none)) v9), (7, .one (.raw (.pointer none)) v11), (8, .one (.raw (.slice none 0 0)) (.slice (some ⟨b40, 0, none⟩) (List.length r13) c41)), (9, .one (.int .i64) s36), (148, .one .bool false), (156, .one .bool (b62 && (r43 != r42)))]) (fun _ => [Res.disk Try.prog dI v2 r10.2.2, Res.own v48 3 (.int .i64) r47, Res.disk Try.prog dI v11 r20, Res.disk Try.prog dI v9 r17, Res.own (.slice (some ⟨b40, 0, none⟩) (List.length r13) c41) 9 .str r13]) ?_ (fun _ => ?_)
                        · clear h
                          cases b62 with
                          | true =>
                          refine r_pure tabOk 4 [1, 5, 6, 7, 8, 9, 148, 156] (E' := [(1, .one (.sl 67 Y67) a1), (5, .one (.raw (.pointer none)) v2), (6, .one (.raw (.pointer none)) v9), (7, .one (.raw (.pointer none)) v11), (8, .one (.raw (.slice none 0 0)) (.slice (some ⟨b40, 0, none⟩) (List.length r13) c41)), (9, .one (.int .i64) s36), (148, .one .bool false), (156, .one .bool (r43 != r42))]) rfl ?_
                          refine r_nil ?_
                          refine r_then ?_
                          exact r_meetg () rfl rfl
                          | false =>
                          refine r_pure tabOk 4 [1, 5, 6, 7, 8, 9, 148, 156] (E' := [(1, .one (.sl 67 Y67) a1), (5, .one (.raw (.pointer none)) v2), (6, .one (.raw (.pointer none)) v9), (7, .one (.raw (.pointer none)) v11), (8, .one (.raw (.slice none 0 0)) (.slice (some ⟨b40, 0, none⟩) (List.length r13) c41)), (9, .one (.int .i64) s36), (148, .one .bool false), (156, .one .bool false)]) rfl ?_
                          refine r_nil ?_
                          refine r_then ?_
                          exact r_meetg () rfl rfl
                        refine r_pure tabOk 1 [1, 5, 6, 7, 8, 9, 157] (E' := [(1, .one (.sl 67 Y67) a1), (5, .one (.raw (.pointer none)) v2), (6, .one (.raw (.pointer none)) v9), (7, .one (.raw (.pointer none)) v11), (8, .one (.raw (.slice none 0 0)) (.slice (some ⟨b40, 0, none⟩) (List.length r13) c41)), (9, .one (.int .i64) s36), (157, .one .bool (b62 && (r43 != r42)))]) rfl ?_
                        refine r_nil ?_
                        refine r_less [1, 5, 6, 7, 8, 9, 157] rfl ?_
                        refine r_then ?_
                        exact r_meetk (b62 && (r43 != r42)) () h rfl rfl
                    · intro o61 _ h
                      rw [← hk60] at h
                      try dsimp only at h
                      refine r_nil ?_
                      refine r_then ?_
                      refine r_if (b := o61) rfl (fun hc => ?_) (fun hc => ?_)
                      · rw [if_pos hc] at h
                        refine r_seq ?_
                        refine r_region ?_
                        refine r_pure tabOk 1 [4] (E' := [(4, .one .bool false)]) rfl ?_
                        refine r_nil ?_
                        refine r_then ?_
                        refine r_ret ?_
                        refine t_block ?_
                        refine t_then ?_
                        refine t_then ?_
                        refine t_block ?_
                        refine t_then ?_
                        obtain rfl := Option.some.inj h
                        exact r_ret1 rfl (.tmp rfl) (fun _ _ g => g) (fun _ _ _ => List.nil_sublist _)
                      · rw [if_neg (ne_true_of_eq_false hc)] at h
                        refine r_skip ?_
                        refine r_inblock ?_
                        refine r_then ?_
                        refine r_region ?_
                        refine r_pure tabOk 3 [1, 5, 6, 7, 8, 9] (E' := [(1, .one (.sl 67 Y67) a1), (5, .one (.raw (.pointer none)) v2), (6, .one (.raw (.pointer none)) v9), (7, .one (.raw (.pointer none)) v11), (8, .one (.raw (.slice none 0 0)) (.slice (some ⟨b40, 0, none⟩) (List.length r13) c41)), (9, .one (.int .i64) (IntKind.wrap .i64 (s36 + 1)))]) rfl ?_
                        obtain ⟨i63, hi63, h⟩ := bnd_ex h
                        rw [hi63]
                        refine r_nil ?_
                        refine r_then ?_
                        refine r_lose (L' := [Res.disk Try.prog dI v2 r10.2.2, Res.disk Try.prog dI v11 r20, Res.disk Try.prog dI v9 r17, Res.own (.slice (some ⟨b40, 0, none⟩) (List.length r13) c41) 9 .str r13]) (.cons_cons _ (.cons _ (.cons_cons _ (.cons_cons _ (.cons_cons _ .slnil))))) ?_
                        refine r_less [1, 5, 6, 7, 8, 9] rfl ?_
                        refine r_perm (L' := [Res.disk Try.prog dI v9 r17, Res.disk Try.prog dI v11 r20, Res.disk Try.prog dI v2 r10.2.2, Res.own (.slice (some ⟨b40, 0, none⟩) (List.length r13) c41) 9 .str r13]) ((List.perm_middle (a := Res.disk Try.prog dI v9 r17) (l₁ := [Res.disk Try.prog dI v2 r10.2.2, Res.disk Try.prog dI v11 r20]) (l₂ := [Res.own (.slice (some ⟨b40, 0, none⟩) (List.length r13) c41) 9 .str r13])).trans (.cons _ ((List.perm_middle (a := Res.disk Try.prog dI v11 r20) (l₁ := [Res.disk Try.prog dI v2 r10.2.2]) (l₂ := [Res.own (.slice (some ⟨b40, 0, none⟩) (List.length r13) c41) 9 .str r13])).trans (.cons _ (List.Perm.refl _))))) ?_
                        exact r_backg i63 (.slice (some ⟨b40, 0, none⟩) (List.length r13) c41) (Nat.lt_succ_self _) h rfl rfl
              · rw [if_neg (ne_true_of_eq_false hc)] at h
                refine r_exit ?_
                refine e_then ?_
                refine e_then ?_
                refine e_eq ?_
                refine r_then ?_
                refine r_less [] rfl ?_
                exact r_meetk () g37 h rfl rfl
            · intro o31 g32 h
              rw [← hk30] at h
              try dsimp only at h
              refine r_seq ?_
              refine r_region ?_
              refine r_pure tabOk 1 [4] (E' := [(4, .one .bool true)]) rfl ?_
              refine r_nil ?_
              refine r_then ?_
              refine r_ret ?_
              obtain rfl := Option.some.inj h
              exact r_ret1 rfl (.tmp rfl) (fun _ _ g => g) (fun _ _ _ => List.nil_sublist _)
end Sx
