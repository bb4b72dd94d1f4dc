/-
  Own work, printed by a program of the same hand. Each function of the code answers what its plain twin reckons.
-/
import Derived.Test.YtfdhpfodjaaloaaDoorProg
import Derived.Test.YtfdhpfodjaaloaaDoorDefs
import Derived.Test.YtfdhpfodjaaloaaDoorLib2
import Derived.Test.YtfdhpfodjaaloaaDoorShelfB
import Derived.Test.YtfdhpfodjaaloaaDoorCatch
import Derived.Test.YtfdhpfodjaaloaaDoorShelfS
import Derived.KernelRfl
namespace Sx
open Go Go.Proofs
set_option maxRecDepth 10000
set_option maxHeartbeats 1000000
attribute [local irreducible] wpList

abbrev NOTH : Value := .iface 65 (.agg #[])
abbrev Y53 : T := (.pair (.int .i64) (.pair (.int .i64) (.pair (.arr 2 (.arr 32 (.int .u8))) (.pair (.arr 2 (.arr 32 (.int .u8))) (.pair (.int .i64) (.pair (.int .i64) .unit))))))
abbrev Y61 : T := (.pair .str (.pair (.int .i64) (.pair (.int .i64) (.pair .str .unit))))
abbrev Y48 : T := (.pair (.int .i64) (.pair (.int .i64) (.pair (.int .i64) (.pair (.int .i64) (.pair (.arr 32 (.int .u8)) (.pair .str (.pair .str (.pair (.sl 61 Y61) .unit))))))))
abbrev Y50 : T := (.pair (.int .i64) (.pair (.int .i64) (.pair Y48 .unit)))
abbrev Y55 : T := (.pair (.int .i64) (.pair Y53 (.pair Y50 (.pair (.int .i64) (.pair (.int .i64) .unit)))))
abbrev Y70 : T := (.sl 107 (.pair .str (.pair .bool .unit)))
abbrev Y79 : T := (.pair (.int .i64) (.pair (.int .i64) (.pair (.arr 2 (.arr 32 (.int .u8))) (.pair (.arr 2 (.arr 32 (.int .u8))) (.pair (.int .i64) (.pair (.int .i64) .unit))))))
abbrev Y80 : T := (.pair (.int .i64) (.pair (.int .i64) (.pair (.int .i64) (.pair (.int .i64) (.pair (.arr 32 (.int .u8)) (.pair .str (.pair .str (.pair (.sl 61 Y61) .unit))))))))
abbrev Y82 : T := (.pair (.int .i64) (.pair (.int .i64) (.pair Y80 .unit)))
abbrev Y84 : T := (.pair (.int .i64) (.pair Y79 (.pair Y82 (.pair (.int .i64) (.pair (.int .i64) .unit)))))
abbrev Y76 : T := (.sl 121 (.pair .bool (.pair .str .unit)))
theorem ty2 : tyChk Tryd.prog (.int .i64) 2 = true := by kernel_rfl
theorem ty3 : tyChk Tryd.prog (.int .i64) 3 = true := by kernel_rfl
theorem ty4 : tyChk Tryd.prog .bool 4 = true := by kernel_rfl
theorem ty5 : tyChk Tryd.prog (.int .u8) 5 = true := by kernel_rfl
theorem ty9 : tyChk Tryd.prog .str 9 = true := by kernel_rfl
theorem ty24 : tyChk Tryd.prog (.int .i64) 24 = true := by kernel_rfl
theorem ty34 : tyChk Tryd.prog (.arr 32 (.int .u8)) 34 = true := by kernel_rfl
theorem ty46 : tyChk Tryd.prog (.sl 61 Y61) 46 = true := by kernel_rfl
theorem ty48 : tyChk Tryd.prog Y48 48 = true := by kernel_rfl
theorem ty50 : tyChk Tryd.prog Y50 50 = true := by kernel_rfl
theorem ty51 : tyChk Tryd.prog (.arr 2 (.arr 32 (.int .u8))) 51 = true := by kernel_rfl
theorem ty53 : tyChk Tryd.prog Y53 53 = true := by kernel_rfl
theorem ty55 : tyChk Tryd.prog Y55 55 = true := by kernel_rfl
theorem ty61 : tyChk Tryd.prog Y61 61 = true := by kernel_rfl
theorem ty70 : tyChk Tryd.prog Y70 70 = true := by kernel_rfl
theorem ty79 : tyChk Tryd.prog Y79 79 = true := by kernel_rfl
theorem ty80 : tyChk Tryd.prog Y80 80 = true := by kernel_rfl
theorem ty84 : tyChk Tryd.prog Y84 84 = true := by kernel_rfl
theorem ty107 : tyChk Tryd.prog (.pair .str (.pair .bool .unit)) 107 = true := by kernel_rfl
theorem ty121 : tyChk Tryd.prog (.pair .bool (.pair .str .unit)) 121 = true := by kernel_rfl
theorem ty128 : tyChk Tryd.prog (.arr 5 .str) 128 = true := by kernel_rfl
theorem tx0 : tyChk Tryd.prog (.raw (.slice none 0 0)) 23 = true := by kernel_rfl
theorem tx1 : tyChk Tryd.prog (.raw (.slice none 0 0)) 67 = true := by kernel_rfl
theorem tx2 : tyChk Tryd.prog (.raw (.slice none 0 0)) 45 = true := by kernel_rfl
theorem zf9 : (Tryd.prog.info? 9).bind (·.zero) = some (mk .str (zc .str)) := by kernel_rfl
theorem zf23 : (Tryd.prog.info? 23).bind (·.zero) = some (mk (.sl 55 Y55) (zc (.sl 55 Y55))) := by kernel_rfl
theorem zf24 : (Tryd.prog.info? 24).bind (·.zero) = some (mk (.int .i64) (zc (.int .i64))) := by kernel_rfl
theorem zf34 : (Tryd.prog.info? 34).bind (·.zero) = some (mk (.arr 32 (.int .u8)) (zc (.arr 32 (.int .u8)))) := by kernel_rfl
theorem zf48 : (Tryd.prog.info? 48).bind (·.zero) = some (mk Y48 (zc Y48)) := by kernel_rfl
theorem zf50 : (Tryd.prog.info? 50).bind (·.zero) = some (mk Y50 (zc Y50)) := by kernel_rfl
theorem zf51 : (Tryd.prog.info? 51).bind (·.zero) = some (mk (.arr 2 (.arr 32 (.int .u8))) (zc (.arr 2 (.arr 32 (.int .u8))))) := by kernel_rfl
theorem zf53 : (Tryd.prog.info? 53).bind (·.zero) = some (mk Y53 (zc Y53)) := by kernel_rfl
theorem zf55 : (Tryd.prog.info? 55).bind (·.zero) = some (mk Y55 (zc Y55)) := by kernel_rfl
theorem zf61 : (Tryd.prog.info? 61).bind (·.zero) = some (mk Y61 (zc Y61)) := by kernel_rfl
theorem zf65 : (Tryd.prog.info? 65).bind (·.zero) = some (mk .unit (zc .unit)) := by kernel_rfl
theorem zf73 : (Tryd.prog.info? 73).bind (·.zero) = some (mk (.pair Y70 .unit) (zc (.pair Y70 .unit))) := by kernel_rfl
theorem zf79 : (Tryd.prog.info? 79).bind (·.zero) = some (mk Y79 (zc Y79)) := by kernel_rfl
theorem zf80 : (Tryd.prog.info? 80).bind (·.zero) = some (mk Y80 (zc Y80)) := by kernel_rfl
theorem zf82 : (Tryd.prog.info? 82).bind (·.zero) = some (mk Y82 (zc Y82)) := by kernel_rfl
theorem zf84 : (Tryd.prog.info? 84).bind (·.zero) = some (mk Y84 (zc Y84)) := by kernel_rfl
theorem zf92 : (Tryd.prog.info? 92).bind (·.zero) = some (mk BT (zc BT)) := by kernel_rfl
theorem zf94 : (Tryd.prog.info? 94).bind (·.zero) = some (mk (.pair (.raw (.slice none 0 0)) .unit) (zc (.pair (.raw (.slice none 0 0)) .unit))) := by kernel_rfl
theorem zf107 : (Tryd.prog.info? 107).bind (·.zero) = some (mk (.pair .str (.pair .bool .unit)) (zc (.pair .str (.pair .bool .unit)))) := by kernel_rfl
theorem zf121 : (Tryd.prog.info? 121).bind (·.zero) = some (mk (.pair .bool (.pair .str .unit)) (zc (.pair .bool (.pair .str .unit)))) := by kernel_rfl
theorem zf128 : (Tryd.prog.info? 128).bind (·.zero) = some (mk (.arr 5 .str) (zc (.arr 5 .str))) := by kernel_rfl
theorem el2 : elemChk Tryd.prog (.int .i64) 2 8 = true := by kernel_rfl
theorem el5 : elemChk Tryd.prog (.int .u8) 5 1 = true := by kernel_rfl
theorem el9 : elemChk Tryd.prog .str 9 16 = true := by kernel_rfl
theorem el34 : elemChk Tryd.prog (.arr 32 (.int .u8)) 34 32 = true := by kernel_rfl
theorem el55 : elemChk Tryd.prog Y55 55 320 = true := by kernel_rfl
theorem el61 : elemChk Tryd.prog Y61 61 48 = true := by kernel_rfl
theorem el84 : elemChk Tryd.prog Y84 84 320 = true := by kernel_rfl
theorem el107 : elemChk Tryd.prog (.pair .str (.pair .bool .unit)) 107 24 = true := by kernel_rfl
theorem el121 : elemChk Tryd.prog (.pair .bool (.pair .str .unit)) 121 24 = true := by kernel_rfl
theorem un34 : Tryd.prog.underlying 34 = some (.array 32 5) := Tryd.underlying34
theorem un51 : Tryd.prog.underlying 51 = some (.array 2 34) := Tryd.underlying51
abbrev un65 := Tryd.underlying65
theorem un128 : Tryd.prog.underlying 128 = some (.array 5 9) := Tryd.underlying128
theorem kt34 : Tryd.prog.keyTypeAt 20 34 = true := by kernel_rfl
theorem eg34 : Tryd.prog.eqGuardType Tryd.prog.depth 34 = false := by kernel_rfl
theorem kt53 : Tryd.prog.keyTypeAt 20 53 = true := by kernel_rfl
theorem eg53 : Tryd.prog.eqGuardType Tryd.prog.depth 53 = false := by kernel_rfl
theorem kt61 : Tryd.prog.keyTypeAt 20 61 = true := by kernel_rfl
theorem eg61 : Tryd.prog.eqGuardType Tryd.prog.depth 61 = false := by kernel_rfl
theorem kt121 : Tryd.prog.keyTypeAt 20 121 = true := by kernel_rfl
theorem eg121 : Tryd.prog.eqGuardType Tryd.prog.depth 121 = false := by kernel_rfl
def Cline : Kind := ⟨List (List Int) × Unit, Value, fun b s x => [Res.var b 94 (.pair (.raw (.slice none 0 0)) .unit) (s, x.2), Res.own s 9 .str x.1]⟩
theorem r_unCline {F : Fr} {n : Nat} {E : Env} {L : List Res} {X : Act → World → Prop} {p : Value} {x : List (List Int) × Unit} (g : ∀ b v0, p = .pointer (some ⟨b, 0, none⟩) → Go F n E (Res.var b 94 (.pair (.raw (.slice none 0 0)) .unit) (v0, x.2) :: Res.own v0 9 .str x.1 :: L) X) : Go F n E (Res.cls Cline p x :: L) X := r_uncls (K := Cline) fun b v0 h => g b v0 h
theorem r_unClineb {F : Fr} {n : Nat} {E : Env} {L : List Res} {X : Act → World → Prop} {b : Nat} {x : List (List Int) × Unit} (g : ∀ v0, Go F n E (Res.var b 94 (.pair (.raw (.slice none 0 0)) .unit) (v0, x.2) :: Res.own v0 9 .str x.1 :: L) X) : Go F n E (Res.cls Cline (.pointer (some ⟨b, 0, none⟩)) x :: L) X := r_unclsb (K := Cline) fun v0 => g v0
theorem r_Cline {F : Fr} {n : Nat} {E : Env} {L : List Res} {X : Act → World → Prop} {b : Nat} {v0 : Value} {x : List (List Int) × Unit} (g : Go F n E (Res.cls Cline (.pointer (some ⟨b, 0, none⟩)) x :: L) X) : Go F n E (Res.var b 94 (.pair (.raw (.slice none 0 0)) .unit) (v0, x.2) :: Res.own v0 9 .str x.1 :: L) X := r_cls (K := Cline) (s := v0) g
def tabs : List (String × IntKind × List Int) := [pow10]
def tab : Tab := { ints := [(2, .i64), (3, .i64), (5, .u8), (21, .i32), (154, .u64)], strs := [(9, ())], slices := [(23, 55), (27, 84), (45, 5), (46, 61), (67, 9), (70, 107), (76, 121), (133, 2), (135, 34)], arrs := [], offs := [(48, [0, 1, 2, 3, 4, 36, 37, 38]), (50, [0, 1, 2]), (53, [0, 1, 2, 66, 130, 131]), (55, [0, 1, 133, 174, 175]), (61, [0, 1, 2, 3]), (73, [0]), (79, [0, 1, 2, 66, 130, 131]), (80, [0, 1, 2, 3, 4, 36, 37, 38]), (82, [0, 1, 2]), (84, [0, 1, 133, 174, 175]), (92, [0, 1]), (94, [0]), (107, [0, 1]), (121, [0, 1])] }
theorem tabOk : tab.chk Tryd.prog = true := by kernel_rfl
theorem p {F : Fr} {n : Nat} {E E0 : Env} {L : List Res} {ops : Array Oper} {Q : Exit → Act → World → Prop} {l : List Oper} (k : Nat) (keys : List Nat) (h : seg tab n ops (l.take k) E keys = some E0) (g : Go F n E0 L (wpList Tryd.prog ops Q (l.drop k))) : Go F n E L (wpList Tryd.prog ops Q l) := r_pure tabOk k keys h g
theorem q {F : Fr} {n : Nat} {E E0 : Env} {L : List Res} {ops : Array Oper} {Q : Exit → Act → World → Prop} {l : List Oper} (k : Nat) (new : Env) (keys : List Nat) (h : seg2 tab n ops (l.take k) E (new.map (·.1)) keys = some (new, E0)) (g : Go F n (new ++ E0) L (wpList Tryd.prog ops Q (l.drop k))) : Go F n E L (wpList Tryd.prog ops Q l) := r_pure2 tabOk k h g
theorem strings_Split_ok (a0 a1 : List Int) (r : List (List Int)) (h : strings_Split a0 a1 = some r) : FnT Tryd.prog tabs 27 [ts a0, ts a1] [] (fun _ => .one (.sl 9 .str) r) (fun _ => []) := split_pure Go.Proofs.Tryd.strings_Split_shaped a0 a1 r h

theorem script_long_ok (a0 : List Int) (r : Bool) (h : script_long a0 = some r) : FnT Tryd.prog tabs 25 [ts a0] [] (fun _ => tb r) (fun _ => []) := by
 unfold script_long at h
 refine enterT Tryd.func25 rfl 36 rfl rfl fun F hT => ?_
 refine zu <| p 1 [0] rfl <| za <| zs <| zu <| q 3 [(8, tb (decide ((List.length a0 : Int) > 65536)))] [0] rfl <| za <| rI h rfl (fun hc h => zu <| p 1 [2] rfl <| zf <| zT <| by cases h; exact r_ret1 rfl (.tmp rfl) (fun _ _ g => g) (fun _ _ _ => List.nil_sublist _)) fun hc h => zy <| p 1 [9] rfl <| cB h fun r1 hr1 h => rcT hT [] (strings_Split_ok _ _ _ hr1) (by kernel_rfl) rfl rfl rfl fun _ => p 1 [3] rfl <| za ?_
 refine jK h (γ := Unit) (fun (o3 : List (List Int)) _ => [(3, .one (.sl 9 .str) o3)]) (fun (o3 : List (List Int)) _ => []) (fun k2 h => ?_) fun o3 gg h => ?_
 ·refine zu <| q 4 [(11, .one (.sl 9 .str) r1), (14, ti (IntKind.wrap .i64 ((List.length r1 : Int) - 1)))] [3] rfl <| iE h fun hc h => y (y_iref tabOk rfl rfl hc.1 hc.2 rfl ty9) rfl ?_
  refine y (y_ref rfl ty9) rfl ?_
  refine q 1 [(17, tb ((List.getD r1 (Int.toNat (IntKind.wrap .i64 ((List.length r1 : Int) - 1))) []) == []))] [3] rfl <| za <| rI h rfl (fun hc h => ?_) fun hc h => ?_
  ·refine zr <| q 4 [(18, .one (.sl 9 .str) r1), (21, ti (IntKind.wrap .i64 ((List.length r1 : Int) - 1)))] [] rfl <| iE h fun hc h => y (y_slsub (i := (0 : Int)) (j := (IntKind.wrap .i64 ((List.length r1 : Int) - 1))) tabOk rfl rfl rfl hc.1 hc.2.1 hc.2.2 rfl ty9) rfl ?_
   refine q 1 [(3, .one (.sl 9 .str) (List.drop 0 (List.take (Int.toNat (IntKind.wrap .i64 ((List.length r1 : Int) - 1))) r1)))] [] rfl ?_
   obtain ⟨l10, e, h⟩ := bnd_ex h; rw [e]
   exact za <| r_less [3] rfl <| by exact r_meetk l10 () h rfl rfl
  exact zk <| zt <| r_less [3] rfl <| by exact r_meetk r1 () h rfl rfl
 refine jK h (γ := Unit) (fun (o5 : Unit) _ => [(3, .one (.sl 9 .str) o3)]) (fun (o5 : Unit) _ => []) (fun k4 h => ?_) fun o5 gg h => ?_
 ·refine zu <| q 3 [(3, .one (.sl 9 .str) o3), (23, .one (.sl 9 .str) o3), (24, ti (List.length o3 : Int)), (25, ti 0)] [] rfl <| za <| zb <| r_less [3,23,24,25] rfl <| r_loopg (γ := Unit) (fun (s7 : Int) _ => [(3, .one (.sl 9 .str) o3), (23, .one (.sl 9 .str) o3), (24, ti (List.length o3 : Int)), (25, ti s7)]) (fun (s7 : Int) _ => []) (script_long_l0 o3 k4) 0 () h rfl rfl ?_
  clear h
  intro m8 s7 gg h
  cases m8 with
  | zero => cases h
  | succ m8 =>
  simp only [script_long_l0] at h
  refine zu <| q 1 [(25, ti s7), (26, tb (decide (s7 < (List.length o3 : Int))))] [3,23,24] rfl <| za <| zs <| rI h rfl (fun hc h => ?_) fun hc h => ?_
  ·refine zk <| zt <| zs <| zb <| zu <| iE h fun hc h => y (y_iref tabOk rfl rfl hc.1 hc.2 rfl ty9) rfl ?_
   refine y (y_ref rfl ty9) rfl ?_
   refine q 1 [(5, ts (List.getD o3 (Int.toNat s7) []))] [3,23,24,25] rfl ?_
   obtain ⟨x9, e, h⟩ := bnd_ex h; rw [e]
   exact zz <| q 3 [(31, tb (decide ((List.length x9 : Int) > 4096)))] [3,23,24,25] rfl <| za <| rI h rfl (fun hc h => zu <| p 1 [2] rfl <| zf <| zB <| zT <| zT <| zB <| zT <| by cases h; exact r_ret1 rfl (.tmp rfl) (fun _ _ g => g) (fun _ _ _ => List.nil_sublist _)) fun hc h => zk <| zi <| zt <| zr <| p 2 [3,23,24,25] rfl <| za <| r_less [3,23,24,25] rfl <| by exact r_backg (IntKind.wrap .i64 (s7 + 1)) () (Nat.lt_succ_self _) h rfl rfl
  exact zx <| ze <| ze <| zq <| zt <| r_less [3] rfl <| by exact r_meetk () () h rfl rfl
 refine zu <| q 4 [(2, tb (decide ((List.length o3 : Int) > 1024)))] [] rfl <| zf ?_
 cases h
 exact r_ret1 rfl (.tmp rfl) (fun _ _ g => g) (fun _ _ _ => List.nil_sublist _)

theorem internal_stringslite_HasPrefix_ok (a0 : List Int) (a1 : List Int) (r : Bool) (h : internal_stringslite_HasPrefix a0 a1 = some r) : Pure Tryd.prog 71 [ts a0, ts a1] (tb r) := by
 unfold internal_stringslite_HasPrefix at h
 refine enter Tryd.func71 rfl 18 rfl rfl fun F => ?_
 refine zu <| p 1 [0,1] rfl <| zz <| q 6 [(10, tb (decide ((List.length a0 : Int) ≥ (List.length a1 : Int))))] [0,1] rfl ?_
 obtain ⟨b1, e, h⟩ := bnd_ex h; rw [e]
 refine bX h fun k2 hk2 h => ?_
 refine r_lsplitk (γ := Unit) 7 (fun (o3 : Bool) _ => [(17, tb o3)]) (fun _ _ => []) k2 r ?_ ?_
 ·rcases Bool.eq_false_or_eq_true b1 with hh | hh
  ·rw [hh] at h ⊢
   rw [if_pos rfl] at h
   refine q 3 [(10, tb true), (11, ts a0), (13, ti (List.length a1 : Int))] [1] rfl <| r_guard (by rfl) rfl ?_
   refine iE h fun hc h => y (y_sub (i := (0 : Int)) (j := (List.length a1 : Int)) tabOk rfl rfl rfl hc.1 hc.2.1 hc.2.2 rfl) rfl ?_
   exact q 3 [(17, tb ((List.drop 0 (List.take (Int.toNat (List.length a1 : Int)) a0)) == a1))] [] rfl <| zn <| r_less [17] rfl <| zt <| by exact r_meetk ((List.drop 0 (List.take (Int.toNat (List.length a1 : Int)) a0)) == a1) () h rfl rfl
  rw [hh] at h ⊢
  rw [if_neg (by decide)] at h
  exact p 7 [17] rfl <| zn <| r_less [17] rfl <| zt <| by exact r_meetk false () h rfl rfl
 intro o3 _ h
 rw [← hk2] at h
 try dsimp only at h
 refine p 1 [4] rfl <| zf ?_
 cases h
 exact r_ret1 rfl (.tmp rfl) (fun _ _ g => g) (fun _ _ _ => List.nil_sublist _)

theorem strings_HasPrefix_ok (a0 : List Int) (a1 : List Int) (r : Bool) (h : strings_HasPrefix a0 a1 = some r) : Pure Tryd.prog 44 [ts a0, ts a1] (tb r) := by
 unfold strings_HasPrefix at h
 refine enter Tryd.func44 rfl 8 rfl rfl fun F => ?_
 refine zu <| p 1 [0,1] rfl <| zz <| p 2 [5,6] rfl <| cB h fun r1 hr1 h => r_calls (internal_stringslite_HasPrefix_ok _ _ _ hr1) (by kernel_rfl) rfl rfl <| p 1 [4] rfl <| zf ?_
 cases h
 exact r_ret1 rfl (.tmp rfl) (fun _ _ g => g) (fun _ _ _ => List.nil_sublist _)

theorem strings_IndexByte_ok (a0 : List Int) (a1 : Int) (r : Int) (h : strings_IndexByte a0 a1 = some r) : Pure Tryd.prog 93 [.one .str a0, .one (.int .u8) a1] (.one (.int .i64) r) := indexByte_pure Go.Proofs.Tryd.strings_IndexByte a0 a1 r h

theorem script_digit_ok (a0 : List Int) (a1 : Int) (r : Int) (h : script_digit a0 a1 = some r) : Pure Tryd.prog 72 [ts a0, ti a1] (ti r) := by
 unfold script_digit at h
 refine enter Tryd.func72 rfl 13 rfl rfl fun F => ?_
 refine zu <| p 1 [0,1] rfl <| za <| zs <| zu <| q 4 [(8, tb (decide (a1 ≥ (List.length a0 : Int))))] [0,1] rfl <| za <| rI h rfl (fun hc h => zu <| p 1 [4] rfl <| zf <| zT <| by cases h; exact r_ret1 rfl (.tmp rfl) (fun _ _ g => g) (fun _ _ _ => List.nil_sublist _)) fun hc h => zy <| p 2 [9,10] rfl <| iE h fun hc h => y (y_byte tabOk rfl rfl hc.1 hc.2 rfl) rfl ?_
 refine cB h fun r1 hr1 h => r_calls (strings_IndexByte_ok _ _ _ hr1) (by kernel_rfl) rfl rfl <| p 1 [4] rfl <| zf ?_
 cases h
 exact r_ret1 rfl (.tmp rfl) (fun _ _ g => g) (fun _ _ _ => List.nil_sublist _)

theorem script_unquoted_ok (a0 : List Int) (r : Option (List Int × Int)) (h : script_unquoted a0 = some r) : FnE Tryd.prog 45 [ts a0] [] r (fun r _ => .tup [⟨.str, r.1⟩, ⟨(.int .i64), r.2⟩]) (fun _ _ => []) NOTH := by
 unfold script_unquoted at h
 refine enterE Tryd.func45 rfl 96 rfl rfl fun F => ?_
 refine zu <| q 2 [(0, ts a0), (2, ts []), (3, ti 0)] [] rfl <| zz <| p 1 [0,2,3,4] rfl <| r_nilown (.slice none 0 0) rfl 5 (.int .u8) ?_
 refine za <| jK h (γ := Value) (fun (o2 : List Int × Int × List (Int)) g3 => [(2, ts o2.1), (3, ti o2.2.1)]) (fun (o2 : List Int × Int × List (Int)) g3 => [Res.own g3 5 (.int .u8) o2.2.2]) (fun k1 h => ?_) fun o2 g3 h => ?_
 ·refine zu <| p 1 [0,2,3,4,5] rfl <| za <| zb <| r_less [0,2,3,4,5] rfl <| r_loopg (γ := Value) (fun (s7 : List Int × Int × Int × List (Int)) g8 => [(0, ts a0), (2, ts s7.1), (3, ti s7.2.1), (4, .one (.raw (.slice none 0 0)) g8), (5, ti s7.2.2.1)]) (fun (s7 : List Int × Int × Int × List (Int)) g8 => [Res.own g8 5 (.int .u8) s7.2.2.2]) (script_unquoted_l0 a0 k1) ([], 0, 1, []) (.slice none 0 0) h rfl rfl ?_
  clear h
  intro m9 s7 g8 h
  cases m9 with
  | zero => cases h
  | succ m9 =>
  simp only [script_unquoted_l0] at h
  refine zs <| zu <| q 4 [(2, ts s7.1), (3, ti s7.2.1), (4, .one (.raw (.slice none 0 0)) g8), (5, ti s7.2.2.1), (12, tb (decide (s7.2.2.1 < (List.length a0 : Int))))] [0] rfl <| za <| rI h rfl (fun hc h => ?_) fun hc h => ?_
  ·refine zk <| zt <| zb <| zu <| q 2 [(13, ts a0), (14, ti s7.2.2.1)] [0,2,3,4,5] rfl <| iE h fun hc h => y (y_byte tabOk rfl rfl hc.1 hc.2 rfl) rfl ?_
   refine q 1 [(6, .one (.int .u8) (List.getD a0 (Int.toNat s7.2.2.1) 0))] [0,2,3,4,5] rfl ?_
   obtain ⟨c10, e, h⟩ := bnd_ex h; rw [e]
   refine za <| zb <| zu <| p 3 [0,2,3,4,5,6,49] rfl <| za <| rI h rfl (fun hc h => ?_) fun hc h => ?_
   ·refine zu <| p 1 [5,52] rfl <| y (y_text tabOk 0 rfl rfl rfl rfl rfl) rfl ?_
    refine q 4 [(2, ts s7.2.2.2), (3, ti (IntKind.wrap .i64 (s7.2.2.1 + 1)))] [] rfl <| zf <| zB <| zB <| zT <| zB <| zT ?_
    cases h
    refine xN ?_
    exact r_rets (rs := [.tmp 2, .tmp 3]) rfl (.cons (.tmp rfl) (.cons (.tmp rfl) (.nil))) rfl (fun _ vs g => tup_ok vs g) (fun _ _ _ => List.nil_sublist _)
   refine zu <| p 3 [0,2,3,4,5,6,59] rfl ?_
   obtain ⟨b11, e, h⟩ := bnd_ex h; rw [e]
   refine r_lsplit (γ := Unit) 3 (fun _ => [(0, ts a0), (2, ts s7.1), (3, ti s7.2.1), (4, .one (.raw (.slice none 0 0)) g8), (5, ti s7.2.2.1), (6, .one (.int .u8) c10), (62, tb (b11 || (decide (c10 > 126))))]) (fun _ => [Res.own g8 5 (.int .u8) s7.2.2.2]) ?_ (fun _ => ?_)
   ·clear h
    cases b11
    ·exact p 3 [0,2,3,4,5,6,62] rfl <| za <| by exact r_meetg () rfl rfl
    exact p 3 [0,2,3,4,5,6,62] rfl <| za <| by exact r_meetg () rfl rfl
   refine p 1 [0,2,3,4,5,6,56] rfl <| za <| rI h rfl (fun hc h => ?_) fun hc h => ?_
   ·refine zr <| y (y_build rfl zf65 rfl rfl .nil) rfl ?_
    refine y (y_iface rfl un65) rfl ?_
    exact r_panic (Option.some.inj h).symm rfl
   refine zu <| p 3 [0,2,3,4,5,6,65] rfl <| za <| rI h rfl (fun hc h => ?_) fun hc h => ?_
   ·refine zu <| p 2 [0,2,3,5,68,69] rfl <| r_lits (B := 1) tabOk rfl el5 rfl rfl rfl (.cons rfl .nil) rfl fun v12 => ?_
    refine iE h fun hc h => r_append (B := 1) tabOk 1 rfl rfl (src_own 0 rfl rfl) rfl el5 rfl rfl hc rfl fun v13 => ?_
    refine pk [1] rfl <| p 1 [0,2,3,4,5] rfl <| za <| zr <| q 3 [(5, ti (IntKind.wrap .i64 (s7.2.2.1 + 1)))] [0,2,3,4] rfl ?_
    obtain ⟨i14, e, h⟩ := bnd_ex h; rw [e]
    exact zn <| zi <| zi <| zt <| r_less [0,2,3,4,5] rfl <| by exact r_backg (s7.1, s7.2.1, i14, (s7.2.2.2 ++ [c10])) v13 (Nat.lt_succ_self _) h rfl rfl
   refine zu <| q 2 [(75, ts a0), (76, ti s7.2.2.1)] [0,2,3,4,5] rfl <| iE h fun hc h => y (y_sub (i := s7.2.2.1) (j := (List.length a0 : Int)) tabOk rfl rfl rfl hc.1 hc.2.1 hc.2.2 rfl) rfl ?_
   refine cB h fun r15 hr15 h => r_calls (strings_HasPrefix_ok _ _ _ hr15) (by kernel_rfl) rfl rfl <| p 1 [0,2,3,4,5,79] rfl <| bX h fun k17 hk17 h => ?_
   refine r_lsplitk (γ := Unit) 5 (fun (o18 : Bool) _ => [(0, ts a0), (2, ts s7.1), (3, ti s7.2.1), (4, .one (.raw (.slice none 0 0)) g8), (5, ti s7.2.2.1), (84, tb o18)]) (fun _ _ => [Res.own g8 5 (.int .u8) s7.2.2.2]) k17 r ?_ ?_
   ·rcases Bool.eq_false_or_eq_true r15 with hh | hh
    ·rw [hh] at h ⊢
     rw [if_pos rfl] at h
     exact p 5 [0,2,3,4,5,84] rfl <| zn <| r_less [0,2,3,4,5,84] rfl <| zt <| by exact r_meetk true () h rfl rfl
    rw [hh] at h ⊢
    rw [if_neg (by decide)] at h
    refine q 2 [(79, tb false), (80, ts a0), (81, ti s7.2.2.1)] [0,2,3,4,5] rfl <| r_guard (by rfl) rfl ?_
    refine iE h fun hc h => y (y_sub (i := s7.2.2.1) (j := (List.length a0 : Int)) tabOk rfl rfl rfl hc.1 hc.2.1 hc.2.2 rfl) rfl ?_
    refine r_guard (by rfl) rfl ?_
    exact cB h fun r19 hr19 h => r_calls (strings_HasPrefix_ok _ _ _ hr19) (by kernel_rfl) rfl rfl <| p 1 [0,2,3,4,5,84] rfl <| zn <| r_less [0,2,3,4,5,84] rfl <| zt <| by exact r_meetk r19 () h rfl rfl
   intro o18 _ h
   rw [← hk17] at h
   try dsimp only at h
   refine p 1 [0,2,3,4,5,74] rfl <| za <| rI h rfl (fun hc h => ?_) fun hc h => ?_
   ·refine zu <| q 4 [(85, .one (.raw (.slice none 0 0)) g8), (86, ts a0), (88, ti (IntKind.wrap .i64 (s7.2.2.1 + 1)))] [0,2,3,5] rfl <| iE h fun hc h => y (y_byte tabOk rfl rfl hc.1 hc.2 rfl) rfl ?_
    refine r_lits (B := 1) tabOk rfl el5 rfl rfl rfl (.cons rfl .nil) rfl fun v20 => ?_
    refine iE h fun hc h => r_append (B := 1) tabOk 1 rfl rfl (src_own 0 rfl rfl) rfl el5 rfl rfl hc rfl fun v21 => ?_
    refine pk [1] rfl <| p 1 [0,2,3,4,5] rfl <| za <| zr <| q 3 [(5, ti (IntKind.wrap .i64 (s7.2.2.1 + 2)))] [0,2,3,4] rfl ?_
    obtain ⟨i22, e, h⟩ := bnd_ex h; rw [e]
    exact zn <| zi <| zi <| zt <| r_less [0,2,3,4,5] rfl <| by exact r_backg (s7.1, s7.2.1, i22, (s7.2.2.2 ++ [(List.getD a0 (Int.toNat (IntKind.wrap .i64 (s7.2.2.1 + 1))) 0)])) v21 (Nat.lt_succ_self _) h rfl rfl
   refine zu <| q 3 [(16, ts a0), (18, ti (IntKind.wrap .i64 (s7.2.2.1 + 2)))] [0,2,3,4,5] rfl <| cB h fun r23 hr23 h => r_calls (script_digit_ok _ _ _ hr23) (by kernel_rfl) rfl rfl <| q 3 [(19, ti r23), (20, ts a0), (22, ti (IntKind.wrap .i64 (s7.2.2.1 + 3)))] [0,2,3,4,5] rfl <| cB h fun r24 hr24 h => r_calls (script_digit_ok _ _ _ hr24) (by kernel_rfl) rfl rfl <| p 2 [0,2,3,4,5,7,8] rfl <| za <| jK h (γ := Unit) (fun (o26 : Unit) _ => [(0, ts a0), (2, ts s7.1), (3, ti s7.2.1), (4, .one (.raw (.slice none 0 0)) g8), (5, ti s7.2.2.1), (7, ti r23), (8, ti r24)]) (fun (o26 : Unit) _ => [Res.own g8 5 (.int .u8) s7.2.2.2]) (fun k25 h => ?_) fun o26 gg h => ?_
   ·refine zu <| q 2 [(24, ts a0), (25, ti s7.2.2.1)] [0,2,3,4,5,7,8] rfl <| iE h fun hc h => y (y_sub (i := s7.2.2.1) (j := (List.length a0 : Int)) tabOk rfl rfl rfl hc.1 hc.2.1 hc.2.2 rfl) rfl ?_
    refine cB h fun r30 hr30 h => r_calls (strings_HasPrefix_ok _ _ _ hr30) (by kernel_rfl) rfl rfl <| p 2 [0,2,3,4,5,7,8,29] rfl ?_
    obtain ⟨b31, e, h⟩ := bnd_ex h; rw [e]
    refine r_lsplit (γ := Unit) 3 (fun _ => [(0, ts a0), (2, ts s7.1), (3, ti s7.2.1), (4, .one (.raw (.slice none 0 0)) g8), (5, ti s7.2.2.1), (7, ti r23), (8, ti r24), (32, tb (b31 || (decide (r23 < 0))))]) (fun _ => [Res.own g8 5 (.int .u8) s7.2.2.2]) ?_ (fun _ => ?_)
    ·clear h
     cases b31
     ·exact p 3 [0,2,3,4,5,7,8,32] rfl <| za <| by exact r_meetg () rfl rfl
     exact p 3 [0,2,3,4,5,7,8,32] rfl <| za <| by exact r_meetg () rfl rfl
    refine p 1 [0,2,3,4,5,7,8,33] rfl ?_
    obtain ⟨b32, e, h⟩ := bnd_ex h; rw [e]
    refine r_lsplit (γ := Unit) 3 (fun _ => [(0, ts a0), (2, ts s7.1), (3, ti s7.2.1), (4, .one (.raw (.slice none 0 0)) g8), (5, ti s7.2.2.1), (7, ti r23), (8, ti r24), (36, tb (b32 || (decide (r24 < 0))))]) (fun _ => [Res.own g8 5 (.int .u8) s7.2.2.2]) ?_ (fun _ => ?_)
    ·clear h
     cases b32
     ·exact p 3 [0,2,3,4,5,7,8,36] rfl <| za <| by exact r_meetg () rfl rfl
     exact p 3 [0,2,3,4,5,7,8,36] rfl <| za <| by exact r_meetg () rfl rfl
    refine za <| rI h rfl (fun hc h => ?_) fun hc h => ?_
    ·refine zr <| y (y_build rfl zf65 rfl rfl .nil) rfl ?_
     refine y (y_iface rfl un65) rfl ?_
     exact r_panic (Option.some.inj h).symm rfl
    exact zk <| zt <| r_less [0,2,3,4,5,7,8] rfl <| by exact r_meetk () () h rfl rfl
   refine zu <| q 6 [(0, ts a0), (2, ts s7.1), (3, ti s7.2.1), (5, ti s7.2.2.1), (39, .one (.raw (.slice none 0 0)) g8), (44, .one (.int .u8) (IntKind.wrap .u8 (IntKind.wrap .i64 ((IntKind.wrap .i64 (16 * r23)) + r24))))] [] rfl <| r_lits (B := 1) tabOk rfl el5 rfl rfl rfl (.cons rfl .nil) rfl fun v27 => ?_
   refine iE h fun hc h => r_append (B := 1) tabOk 1 rfl rfl (src_own 0 rfl rfl) rfl el5 rfl rfl hc rfl fun v28 => ?_
   refine pk [1] rfl <| p 1 [0,2,3,4,5] rfl <| za <| zr <| q 3 [(5, ti (IntKind.wrap .i64 (s7.2.2.1 + 4)))] [0,2,3,4] rfl ?_
   obtain ⟨i29, e, h⟩ := bnd_ex h; rw [e]
   exact zn <| zi <| zi <| zt <| r_less [0,2,3,4,5] rfl <| by exact r_backg (s7.1, s7.2.1, i29, (s7.2.2.2 ++ [(IntKind.wrap .u8 (IntKind.wrap .i64 ((IntKind.wrap .i64 (16 * r23)) + r24)))])) v28 (Nat.lt_succ_self _) h rfl rfl
  exact zx <| ze <| ze <| zq <| zt <| r_less [2,3] rfl <| by exact r_meetk (s7.1, s7.2.1, s7.2.2.2) g8 h rfl rfl
 refine zr <| y (y_build rfl zf65 rfl rfl .nil) rfl ?_
 refine y (y_iface rfl un65) rfl ?_
 exact r_panic (Option.some.inj h).symm rfl

theorem strings_Cut_ok (a0 a1 : List Int) (r : List Int × List Int × Bool) (h : strings_Cut a0 a1 = some r) : FnT Tryd.prog tabs 46 [ts a0, ts a1] [] (fun _ => .tup [⟨.str, r.1⟩, ⟨.str, r.2.1⟩, ⟨.bool, r.2.2⟩]) (fun _ => []) := cut_pure Go.Proofs.Tryd.strings_Cut_shaped a0 a1 r h

theorem script_words_ok (a0 : List Int) (r : Option ((List (List Int × Bool × Unit)))) (h : script_words a0 = some r) : FnET Tryd.prog tabs 28 [ts a0] [] r (fun r v => .one (.raw (.slice none 0 0)) v) (fun r v => [Res.own v 107 (.pair .str (.pair .bool .unit)) r]) NOTH := by
 unfold script_words at h
 refine enterET Tryd.func28 rfl 46 rfl rfl fun F hT => ?_
 refine zu <| p 1 [0] rfl <| zz <| p 1 [0,3] rfl <| r_nilown (.slice none 0 0) rfl 107 (.pair .str (.pair .bool .unit)) ?_
 refine za <| zb <| r_less [0,3] rfl <| r_loopg (γ := Value) (fun (s4 : List Int × (List (List Int × Bool × Unit))) g5 => [(0, ts s4.1), (3, .one (.raw (.slice none 0 0)) g5)]) (fun (s4 : List Int × (List (List Int × Bool × Unit))) g5 => [Res.own g5 107 (.pair .str (.pair .bool .unit)) s4.2]) (script_words_l0) (a0, []) (.slice none 0 0) h rfl rfl ?_
 clear h
 intro m6 s4 g5 h
 cases m6 with
 | zero => cases h
 | succ m6 =>
 simp only [script_words_l0] at h
 refine zb <| zu <| r_alloc (t := (.pair .str (.pair .bool .unit))) rfl zf107 rfl fun b7 => zz <| q 1 [(0, ts s4.1), (3, .one (.raw (.slice none 0 0)) g5), (4, ptr b7 0)] [] rfl <| za <| jK h (γ := Unit) (fun (o9 : Int × (List Int × Bool × Unit)) _ => [(0, ts s4.1), (3, .one (.raw (.slice none 0 0)) g5), (4, ptr b7 0), (5, ti o9.1)]) (fun (o9 : Int × (List Int × Bool × Unit)) _ => [Res.var b7 107 (.pair .str (.pair .bool .unit)) o9.2, Res.own g5 107 (.pair .str (.pair .bool .unit)) s4.2]) (fun k8 h => ?_) fun o9 gg h => ?_
 ·refine zu <| q 1 [(6, ts s4.1)] [0,3,4] rfl <| cB h fun r18 hr18 h => r_calls (strings_HasPrefix_ok _ _ _ hr18) (by kernel_rfl) rfl rfl <| za <| rI h rfl (fun hc h => zu <| p 1 [0,3,4,8] rfl <| st 0 ((.snd (.fst .here))) ty4 rfl rfl rfl rfl trivial <| za <| zr <| q 1 [(10, ts s4.1)] [0,3,4] rfl <| cB h fun or19 hr19 h => rcE [] (script_unquoted_ok _ _ hr19) h (by kernel_rfl) rfl rfl rfl fun r19 h _ => q 4 [(12, ts r19.1), (13, ti r19.2), (14, ptr b7 0)] [0,3,4] rfl <| st 0 ((.fst .here)) ty9 rfl rfl rfl rfl trivial <| q 1 [(5, ti r19.2)] [0,3,4] rfl <| za <| r_less [0,3,4,5] rfl <| by exact r_meetk (r19.2, (r19.1, true, ())) () h rfl rfl) fun hc h => zu <| q 1 [(16, ts s4.1)] [0,3,4] rfl <| cB h fun r20 hr20 h => rcT hT [] (strings_Cut_ok _ _ _ hr20) (by kernel_rfl) rfl rfl rfl fun _ => q 5 [(18, ts r20.1), (21, ptr b7 0)] [0,3,4] rfl <| st 0 ((.fst .here)) ty9 rfl rfl rfl rfl trivial <| za <| zr ?_
  refine p 1 [0,3,4,22] rfl <| yl 0 ((.fst .here)) ty9 rfl rfl rfl trivial rfl <| q 2 [(5, ti (List.length r20.1 : Int))] [0,3,4] rfl ?_
  obtain ⟨n21, e, h⟩ := bnd_ex h; rw [e]
  exact za <| r_less [0,3,4,5] rfl <| by exact r_meetk (n21, (r20.1, false, ())) () h rfl rfl
 refine jK h (γ := Unit) (fun (o11 : Unit) _ => [(0, ts s4.1), (3, .one (.raw (.slice none 0 0)) g5), (4, ptr b7 0), (5, ti o9.1)]) (fun (o11 : Unit) _ => [Res.var b7 107 (.pair .str (.pair .bool .unit)) o9.2, Res.own g5 107 (.pair .str (.pair .bool .unit)) s4.2]) (fun k10 h => ?_) fun o11 gg h => ?_
 ·refine zu <| q 2 [(0, ts s4.1), (3, .one (.raw (.slice none 0 0)) g5), (4, ptr b7 0), (5, ti o9.1), (26, tb (o9.1 == 0))] [] rfl <| za <| rI h rfl (fun hc h => ?_) fun hc h => ?_
  ·refine zr <| y (y_build rfl zf65 rfl rfl .nil) rfl ?_
   refine y (y_iface rfl un65) rfl ?_
   exact r_panic (Option.some.inj h).symm rfl
  exact zk <| zt <| r_less [0,3,4,5] rfl <| by exact r_meetk () () h rfl rfl
 refine zu <| q 1 [(0, ts s4.1), (4, ptr b7 0), (5, ti o9.1), (29, .one (.raw (.slice none 0 0)) g5)] [] rfl <| yl 0 .here ty107 rfl rfl rfl trivial rfl <| r_lits (B := 24) tabOk rfl el107 rfl rfl rfl (.cons rfl .nil) rfl fun v12 => ?_
 refine iE h fun hc h => r_append (B := 24) tabOk 2 rfl rfl (src_own 0 rfl rfl) rfl el107 rfl rfl hc rfl fun v13 => ?_
 refine pk [1,1] rfl <| p 1 [0,3,5] rfl <| zz <| q 2 [(33, ts s4.1), (34, ti o9.1)] [3] rfl <| iE h fun hc h => y (y_sub (i := o9.1) (j := (List.length s4.1 : Int)) tabOk rfl rfl rfl hc.1 hc.2.1 hc.2.2 rfl) rfl ?_
 refine q 1 [(0, ts (List.drop (Int.toNat o9.1) (List.take (Int.toNat (List.length s4.1 : Int)) s4.1)))] [3] rfl ?_
 obtain ⟨s14, e, h⟩ := bnd_ex h; rw [e]
 refine za <| zs <| zu <| q 2 [(0, ts s14), (37, tb (s14 == []))] [3] rfl <| za <| rI h rfl (fun hc h => ?_) fun hc h => ?_
 ·refine zu <| p 2 [2] rfl <| zf <| zT <| zB <| zT <| zB ?_
  cases h
  refine xN ?_
  exact r_ret1 rfl (.tmp rfl) (fun _ _ g => holds_raw.2 ⟨rfl, by rw [(holds_raw.1 g).1]; exact (holds_raw.1 g).2⟩) (fun _ _ g => by obtain ⟨rfl, _⟩ := holds_raw.1 g; exact (.cons _ (.cons_cons _ .slnil)))
 refine zk <| zt <| jK h (γ := Unit) (fun (o16 : Unit) _ => [(0, ts s14), (3, .one (.raw (.slice none 0 0)) v13)]) (fun (o16 : Unit) _ => [Res.var b7 107 (.pair .str (.pair .bool .unit)) o9.2, Res.own v13 107 (.pair .str (.pair .bool .unit)) (s4.2 ++ [o9.2])]) (fun k15 h => ?_) fun o16 gg h => ?_
 ·refine zu <| p 1 [0,3,39] rfl <| iE h fun hc h => y (y_byte tabOk rfl rfl hc.1 hc.2 rfl) rfl ?_
  refine q 1 [(41, tb ((List.getD s14 0 0) != 32))] [0,3] rfl <| za <| rI h rfl (fun hc h => ?_) fun hc h => ?_
  ·refine zr <| y (y_build rfl zf65 rfl rfl .nil) rfl ?_
   refine y (y_iface rfl un65) rfl ?_
   exact r_panic (Option.some.inj h).symm rfl
  exact zk <| zt <| r_less [0,3] rfl <| by exact r_meetk () () h rfl rfl
 refine zr <| p 1 [3,44] rfl <| iE h fun hc h => y (y_sub (i := 1) (j := (List.length s14 : Int)) tabOk rfl rfl rfl hc.1 hc.2.1 hc.2.2 rfl) rfl ?_
 refine q 1 [(0, ts (List.drop 1 (List.take (Int.toNat (List.length s14 : Int)) s14)))] [3] rfl ?_
 obtain ⟨s17, e, h⟩ := bnd_ex h; rw [e]
 exact zn <| zi <| zt <| pk [1] rfl <| r_less [0,3] rfl <| by exact r_backg (s17, (s4.2 ++ [o9.2])) v13 (Nat.lt_succ_self _) h rfl rfl

theorem script_reader_next_ok (b0 : Nat) (a0 : (List (List Int × Bool × Unit)) × Unit) (a1 : Bool) (r : Option (List Int × (((List (List Int × Bool × Unit)) × Unit)))) (h : script_reader_next a0 a1 = some r) : FnE Tryd.prog 74 [ptr b0 0, tb a1] [Res.var b0 73 (.pair Y70 .unit) a0] r (fun r _ => ts r.1) (fun r _ => [Res.var b0 73 (.pair Y70 .unit) r.2]) NOTH := by
 unfold script_reader_next at h
 refine enterE Tryd.func74 rfl 41 rfl rfl fun F => ?_
 refine zu <| p 1 [0,1] rfl <| za <| jK h (γ := Unit) (fun (o2 : Unit) _ => [(0, ptr b0 0)]) (fun (o2 : Unit) _ => [Res.var b0 73 (.pair Y70 .unit) a0]) (fun k1 h => ?_) fun o2 gg h => ?_
 ·refine zu <| p 3 [0,1,8] rfl <| yl 0 ((.fst .here)) ty70 rfl rfl rfl trivial rfl <| q 3 [(12, tb ((List.length a0.1 : Int) == 0))] [0,1] rfl ?_
  obtain ⟨b4, e, h⟩ := bnd_ex h; rw [e]
  refine bX h fun k5 hk5 h => ?_
  refine r_lsplitk (γ := Unit) 10 (fun (o6 : Bool) _ => [(0, ptr b0 0), (22, tb o6)]) (fun _ _ => [Res.var b0 73 (.pair Y70 .unit) a0]) k5 r ?_ ?_
  ·rcases Bool.eq_false_or_eq_true b4 with hh | hh
   ·rw [hh] at h ⊢
    rw [if_pos rfl] at h
    exact p 10 [0,22] rfl <| zn <| r_less [0,22] rfl <| zt <| by exact r_meetk true () h rfl rfl
   rw [hh] at h ⊢
   rw [if_neg (by decide)] at h
   refine p 3 [0,1,12,15] rfl <| r_guard (by rfl) rfl ?_
   refine yl 0 ((.fst .here)) ty70 rfl rfl rfl trivial rfl <| r_guard (by rfl) rfl ?_
   refine iE h fun hc h => y (y_iref tabOk rfl rfl hc.1 hc.2 rfl ty107) rfl ?_
   refine r_guard (by rfl) rfl ?_
   refine y (y_fref tabOk ((.snd (.fst .here))) rfl rfl rfl rfl (ok_snd (ok_fst ok_here))) rfl ?_
   refine r_guard (by rfl) rfl ?_
   refine y (y_ref rfl ty4) rfl ?_
   refine q 1 [(19, tb ((List.getD a0.1 0 ([], false, ())).2.1)), (20, tb a1)] [0,12] rfl <| r_guard (by rfl) rfl ?_
   refine y (y_bne rfl rfl Tryd.underlying4) rfl ?_
   exact q 1 [(22, tb (((List.getD a0.1 0 ([], false, ())).2.1) != a1))] [0] rfl <| zn <| r_less [0,22] rfl <| zt <| by exact r_meetk (((List.getD a0.1 0 ([], false, ())).2.1) != a1) () h rfl rfl
  intro o6 _ h
  rw [← hk5] at h
  try dsimp only at h
  refine za <| rI h rfl (fun hc h => ?_) fun hc h => ?_
  ·refine zr <| y (y_build rfl zf65 rfl rfl .nil) rfl ?_
   refine y (y_iface rfl un65) rfl ?_
   exact r_panic (Option.some.inj h).symm rfl
  exact zk <| zt <| r_less [0] rfl <| by exact r_meetk () () h rfl rfl
 refine zu <| p 3 [0,27] rfl <| yl 0 ((.fst .here)) ty70 rfl rfl rfl trivial rfl <| iE h fun hc h => y (y_iref tabOk rfl rfl hc.1 hc.2 rfl ty107) rfl ?_
 refine y (y_ref rfl ty107) rfl ?_
 refine r_alloc (t := (.pair .str (.pair .bool .unit))) rfl zf107 rfl fun b3 => st 0 .here ty107 rfl rfl rfl rfl trivial <| zz <| p 4 [5,31,34] rfl <| yl 1 ((.fst .here)) ty70 rfl rfl rfl trivial rfl <| iE h fun hc h => y (y_slsub (i := 1) (j := (List.length a0.1 : Int)) tabOk rfl rfl rfl hc.1 hc.2.1 hc.2.2 rfl ty107) rfl ?_
 refine q 2 [(36, .one Y70 (List.drop 1 (List.take (Int.toNat (List.length a0.1 : Int)) a0.1))), (38, ptr b0 0)] [5] rfl <| st 1 ((.fst .here)) ty70 rfl rfl rfl rfl trivial <| zz <| p 1 [39] rfl <| yl 0 ((.fst .here)) ty9 rfl rfl rfl trivial rfl <| q 1 [(4, ts ((List.getD a0.1 0 ([], false, ())).1))] [] rfl <| zf ?_
 cases h
 refine xN ?_
 exact r_ret1 rfl (.tmp rfl) (fun _ _ g => g) (fun _ _ _ => (.cons _ (.cons_cons _ .slnil)))

theorem script_reader_name_ok (b0 : Nat) (a0 : (List (List Int × Bool × Unit)) × Unit) (r : Option (List Int × (((List (List Int × Bool × Unit)) × Unit)))) (h : script_reader_name a0 = some r) : FnE Tryd.prog 47 [ptr b0 0] [Res.var b0 73 (.pair Y70 .unit) a0] r (fun r _ => ts r.1) (fun r _ => [Res.var b0 73 (.pair Y70 .unit) r.2]) NOTH := by
 unfold script_reader_name at h
 refine enterE Tryd.func47 rfl 5 rfl rfl fun F => ?_
 refine zu <| p 1 [0] rfl <| zz <| p 1 [3] rfl <| cB h fun or1 hr1 h => rcE [0] (script_reader_next_ok _ _ _ _ hr1) h (by kernel_rfl) rfl rfl rfl fun r1 h _ => q 1 [(2, ts r1.1)] [] rfl <| zf ?_
 cases h
 refine xN ?_
 exact r_ret1 rfl (.tmp rfl) (fun _ _ g => g) (fun _ _ _ => (.cons_cons _ .slnil))

theorem internal_stringslite_TrimPrefix_ok (a0 : List Int) (a1 : List Int) (r : List Int) (h : internal_stringslite_TrimPrefix a0 a1 = some r) : Pure Tryd.prog 94 [ts a0, ts a1] (ts r) := by
 unfold internal_stringslite_TrimPrefix at h
 refine enter Tryd.func94 rfl 13 rfl rfl fun F => ?_
 refine zu <| p 1 [0,1] rfl <| za <| zs <| zu <| p 2 [0,1,5,6] rfl <| cB h fun r1 hr1 h => r_calls (internal_stringslite_HasPrefix_ok _ _ _ hr1) (by kernel_rfl) rfl rfl <| za <| rI h rfl (fun hc h => ?_) fun hc h => ?_
 ·refine zu <| q 3 [(8, ts a0), (10, ti (List.length a1 : Int))] [] rfl <| iE h fun hc h => y (y_sub (i := (List.length a1 : Int)) (j := (List.length a0 : Int)) tabOk rfl rfl rfl hc.1 hc.2.1 hc.2.2 rfl) rfl ?_
  refine q 1 [(4, ts (List.drop (Int.toNat (List.length a1 : Int)) (List.take (Int.toNat (List.length a0 : Int)) a0)))] [] rfl ?_
  obtain ⟨t2, e, h⟩ := bnd_ex h; rw [e]
  refine zf <| zT ?_
  cases h
  exact r_ret1 rfl (.tmp rfl) (fun _ _ g => g) (fun _ _ _ => List.nil_sublist _)
 refine zy <| p 2 [4] rfl <| zf ?_
 cases h
 exact r_ret1 rfl (.tmp rfl) (fun _ _ g => g) (fun _ _ _ => List.nil_sublist _)

theorem strings_TrimPrefix_ok (a0 : List Int) (a1 : List Int) (r : List Int) (h : strings_TrimPrefix a0 a1 = some r) : Pure Tryd.prog 75 [ts a0, ts a1] (ts r) := by
 unfold strings_TrimPrefix at h
 refine enter Tryd.func75 rfl 8 rfl rfl fun F => ?_
 refine zu <| p 1 [0,1] rfl <| zz <| p 2 [5,6] rfl <| cB h fun r1 hr1 h => r_calls (internal_stringslite_TrimPrefix_ok _ _ _ hr1) (by kernel_rfl) rfl rfl <| p 1 [4] rfl <| zf ?_
 cases h
 exact r_ret1 rfl (.tmp rfl) (fun _ _ g => g) (fun _ _ _ => List.nil_sublist _)

theorem strconv_FormatInt_ok (a0 a1 : Int) (r : List Int) (h : strconv_FormatInt a0 a1 = some r) : FnT Tryd.prog tabs 76 [ti a0, ti a1] [] (fun _ => ts r) (fun _ => []) := formatInt_pure (List.mem_singleton.2 rfl) Go.Proofs.Tryd.strconv_FormatInt_10 a0 a1 r h

theorem script_reader_number_ok (b0 : Nat) (a0 : (List (List Int × Bool × Unit)) × Unit) (r : Option (Int × (((List (List Int × Bool × Unit)) × Unit)))) (h : script_reader_number a0 = some r) : FnET Tryd.prog tabs 48 [ptr b0 0] [Res.var b0 73 (.pair Y70 .unit) a0] r (fun r _ => ti r.1) (fun r _ => [Res.var b0 73 (.pair Y70 .unit) r.2]) NOTH := by
 unfold script_reader_number at h
 refine enterET Tryd.func48 rfl 54 rfl rfl fun F hT => ?_
 refine zu <| p 1 [0] rfl <| zz <| p 1 [8] rfl <| cB h fun or1 hr1 h => rcE [0] (script_reader_name_ok _ _ _ hr1) h (by kernel_rfl) rfl rfl rfl fun r1 h _ => q 1 [(3, ts r1.1)] [] rfl <| zz <| p 1 [3,4] rfl <| za <| jK h (γ := Unit) (fun (o3 : Int) _ => [(3, ts r1.1), (4, ti o3)]) (fun (o3 : Int) _ => [Res.var b0 73 (.pair Y70 .unit) r1.2]) (fun k2 h => ?_) fun o3 gg h => ?_
 ·refine zu <| q 1 [(10, ts r1.1)] [3,4] rfl <| cB h fun r12 hr12 h => r_calls (strings_TrimPrefix_ok _ _ _ hr12) (by kernel_rfl) rfl rfl <| r_srange rfl Tryd.underlying9 rfl fun it13 => ?_
  refine za <| zb <| r_less [3,4,12] rfl <| r_loopg (γ := Unit) (fun (s16 : Int × Nat) _ => [(3, ts r1.1), (4, ti s16.1), (12, tp it13)]) (fun (s16 : Int × Nat) _ => [Res.siter it13 r12 s16.2, Res.var b0 73 (.pair Y70 .unit) r1.2]) (script_reader_number_l0 k2 r12) (0, 0) () h rfl rfl ?_
  clear h
  intro m17 s16 gg h
  cases m17 with
  | zero => cases h
  | succ m17 =>
  simp only [script_reader_number_l0] at h
  refine zu ?_
  refine r_snext 0 rfl rfl rfl (fun hc => ?_) (fun hc => ?_)
  ·rw [if_neg hc] at h
   refine q 1 [(4, ti s16.1), (12, tp it13), (13, .tup [⟨.bool, false⟩]), (14, tb false)] [3] rfl <| za <| zs ?_
   refine r_if (b := false) rfl (fun hc => ?_) (fun hc => ?_)
   ·cases hc
   exact zx <| ze <| ze <| zq <| zt <| pk [1] rfl <| r_less [3,4] rfl <| by exact r_meetk s16.1 () h rfl rfl
  rw [if_pos hc] at h
  refine q 1 [(4, ti s16.1), (12, tp it13), (13, .tup [⟨.bool, true⟩, ⟨(.int .i64), (Int.ofNat s16.2)⟩, ⟨(.int .i32), (rune r12 s16.2)⟩]), (14, tb true)] [3] rfl <| za <| zs ?_
  refine r_if (b := true) rfl (fun hc => ?_) (fun hc => ?_)
  ·refine zk <| zt <| zb <| zu <| q 2 [(6, .one (.int .i32) (rune r12 s16.2))] [3,4,12] rfl ?_
   obtain ⟨c18, e, h⟩ := bnd_ex h; rw [e]
   refine zz <| p 4 [3,4,6,7,12] rfl ?_
   obtain ⟨d19, e, h⟩ := bnd_ex h; rw [e]
   refine za <| jK h (γ := Unit) (fun (o21 : Unit) _ => [(3, ts r1.1), (4, ti s16.1), (7, ti d19), (12, tp it13)]) (fun (o21 : Unit) _ => [Res.siter it13 r12 (past r12 s16.2), Res.var b0 73 (.pair Y70 .unit) r1.2]) (fun k20 h => ?_) fun o21 gg h => ?_
   ·refine zu <| p 3 [3,4,6,7,12,21] rfl ?_
    obtain ⟨b23, e, h⟩ := bnd_ex h; rw [e]
    refine r_lsplit (γ := Unit) 3 (fun _ => [(3, ts r1.1), (4, ti s16.1), (7, ti d19), (12, tp it13), (24, tb (b23 || (decide (c18 > 57))))]) (fun _ => [Res.siter it13 r12 (past r12 s16.2), Res.var b0 73 (.pair Y70 .unit) r1.2]) ?_ (fun _ => ?_)
    ·clear h
     cases b23
     ·exact p 3 [3,4,7,12,24] rfl <| za <| by exact r_meetg () rfl rfl
     exact p 3 [3,4,7,12,24] rfl <| za <| by exact r_meetg () rfl rfl
    refine p 1 [3,4,7,12,25] rfl ?_
    obtain ⟨b24, e, h⟩ := bnd_ex h; rw [e]
    refine bX h fun k25 hk25 h => ?_
    refine r_lsplitk (γ := Unit) 6 (fun (o26 : Bool) _ => [(3, ts r1.1), (4, ti s16.1), (7, ti d19), (12, tp it13), (31, tb o26)]) (fun _ _ => [Res.siter it13 r12 (past r12 s16.2), Res.var b0 73 (.pair Y70 .unit) r1.2]) k25 r ?_ ?_
    ·rcases Bool.eq_false_or_eq_true b24 with hh | hh
     ·rw [hh] at h ⊢
      rw [if_pos rfl] at h
      exact p 6 [3,4,7,12,31] rfl <| zn <| r_less [3,4,7,12,31] rfl <| zt <| by exact r_meetk true () h rfl rfl
     rw [hh] at h ⊢
     rw [if_neg (by decide)] at h
     refine q 5 [(25, tb false), (30, tb (decide (s16.1 < (IntKind.wrap .i64 (Int.tdiv (IntKind.wrap .i64 ((-9223372036854775808) + d19)) 10)))))] [3,4,7,12] rfl ?_
     obtain ⟨t27, e, h⟩ := bnd_ex h; rw [e]
     exact p 1 [3,4,7,12,31] rfl <| zn <| r_less [3,4,7,12,31] rfl <| zt <| by exact r_meetk t27 () h rfl rfl
    intro o26 _ h
    rw [← hk25] at h
    try dsimp only at h
    refine za <| rI h rfl (fun hc h => ?_) fun hc h => ?_
    ·refine zr <| y (y_build rfl zf65 rfl rfl .nil) rfl ?_
     refine y (y_iface rfl un65) rfl ?_
     exact r_panic (Option.some.inj h).symm rfl
    exact zk <| zt <| r_less [3,4,7,12] rfl <| by exact r_meetk () () h rfl rfl
   refine zr <| q 5 [(3, ts r1.1), (4, ti (IntKind.wrap .i64 ((IntKind.wrap .i64 (10 * s16.1)) - d19))), (12, tp it13)] [] rfl ?_
   obtain ⟨n22, e, h⟩ := bnd_ex h; rw [e]
   exact zn <| zi <| zt <| r_less [3,4,12] rfl <| by exact r_backg (n22, (past r12 s16.2)) () (Nat.lt_succ_self _) h rfl rfl
  cases hc
 refine jK h (γ := Unit) (fun (o5 : Int) _ => [(3, ts r1.1), (4, ti o5)]) (fun (o5 : Int) _ => [Res.var b0 73 (.pair Y70 .unit) r1.2]) (fun k4 h => ?_) fun o5 gg h => ?_
 ·refine zu <| q 1 [(3, ts r1.1), (4, ti o3), (38, ts r1.1)] [] rfl <| iE h fun hc h => y (y_byte tabOk rfl rfl hc.1 hc.2 rfl) rfl ?_
  refine q 1 [(40, tb ((List.getD r1.1 0 0) != 45))] [3,4] rfl <| za <| rI h rfl (fun hc h => ?_) fun hc h => ?_
  ·refine jK h (γ := Unit) (fun (o10 : Unit) _ => [(3, ts r1.1), (4, ti o3)]) (fun (o10 : Unit) _ => [Res.var b0 73 (.pair Y70 .unit) r1.2]) (fun k9 h => ?_) fun o10 gg h => ?_
   ·refine zu <| p 2 [3,4,42] rfl <| za <| rI h rfl (fun hc h => ?_) fun hc h => ?_
    ·refine zr <| y (y_build rfl zf65 rfl rfl .nil) rfl ?_
     refine y (y_iface rfl un65) rfl ?_
     exact r_panic (Option.some.inj h).symm rfl
    exact zk <| zt <| r_less [3,4] rfl <| by exact r_meetk () () h rfl rfl
   refine zr <| q 3 [(3, ts r1.1), (4, ti (IntKind.wrap .i64 (0 - o3)))] [] rfl ?_
   obtain ⟨n11, e, h⟩ := bnd_ex h; rw [e]
   exact za <| r_less [3,4] rfl <| by exact r_meetk n11 () h rfl rfl
  exact zk <| zt <| r_less [3,4] rfl <| by exact r_meetk o3 () h rfl rfl
 refine jK h (γ := Unit) (fun (o7 : Unit) _ => [(4, ti o5)]) (fun (o7 : Unit) _ => [Res.var b0 73 (.pair Y70 .unit) r1.2]) (fun k6 h => ?_) fun o7 gg h => ?_
 ·refine zu <| q 1 [(3, ts r1.1), (4, ti o5), (47, ti o5)] [] rfl <| cB h fun r8 hr8 h => rcT hT [] (strconv_FormatInt_ok _ _ _ hr8) (by kernel_rfl) rfl rfl rfl fun _ => q 2 [(50, tb (r8 != r1.1))] [4] rfl <| za <| rI h rfl (fun hc h => ?_) fun hc h => ?_
  ·refine zr <| y (y_build rfl zf65 rfl rfl .nil) rfl ?_
   refine y (y_iface rfl un65) rfl ?_
   exact r_panic (Option.some.inj h).symm rfl
  exact zk <| zt <| r_less [4] rfl <| by exact r_meetk () () h rfl rfl
 refine zu <| p 2 [2] rfl <| zf ?_
 cases h
 refine xN ?_
 exact r_ret1 rfl (.tmp rfl) (fun _ _ g => g) (fun _ _ _ => (.cons_cons _ .slnil))

theorem script_reader_count_ok (b0 : Nat) (a0 : (List (List Int × Bool × Unit)) × Unit) (r : Option (Int × (((List (List Int × Bool × Unit)) × Unit)))) (h : script_reader_count a0 = some r) : FnET Tryd.prog tabs 49 [ptr b0 0] [Res.var b0 73 (.pair Y70 .unit) a0] r (fun r _ => ti r.1) (fun r _ => [Res.var b0 73 (.pair Y70 .unit) r.2]) NOTH := by
 unfold script_reader_count at h
 refine enterET Tryd.func49 rfl 5 rfl rfl fun F hT => ?_
 refine zu <| p 1 [0] rfl <| zz <| p 1 [3] rfl <| cB h fun or1 hr1 h => rcET hT [0] (script_reader_number_ok _ _ _ hr1) h (by kernel_rfl) rfl rfl rfl fun r1 h _ => q 1 [(2, ti r1.1)] [] rfl <| zf ?_
 cases h
 refine xN ?_
 exact r_ret1 rfl (.tmp rfl) (fun _ _ g => g) (fun _ _ _ => (.cons_cons _ .slnil))

theorem script_reader_hash_ok (b0 : Nat) (a0 : (List (List Int × Bool × Unit)) × Unit) (r : Option (List (Int) × (((List (List Int × Bool × Unit)) × Unit)))) (h : script_reader_hash a0 = some r) : FnE Tryd.prog 50 [ptr b0 0] [Res.var b0 73 (.pair Y70 .unit) a0] r (fun r _ => .one (.arr 32 (.int .u8)) r.1) (fun r _ => [Res.var b0 73 (.pair Y70 .unit) r.2]) NOTH := by
 unfold script_reader_hash at h
 refine enterE Tryd.func50 rfl 44 rfl rfl fun F => ?_
 refine zu <| r_alloc (t := (.arr 32 (.int .u8))) rfl zf34 rfl fun b1 => zz <| p 1 [2,8] rfl <| cB h fun or2 hr2 h => rcE [1] (script_reader_name_ok _ _ _ hr2) h (by kernel_rfl) rfl rfl rfl fun r2 h _ => q 1 [(3, ts r2.1)] [2] rfl <| zz <| r_alloc (t := (.arr 32 (.int .u8))) rfl zf34 rfl fun b3 => za <| jK h (γ := Unit) (fun (o5 : Unit) _ => [(2, ptr b1 0), (3, ts r2.1), (4, ptr b3 0)]) (fun (o5 : Unit) _ => [Res.var b3 34 (.arr 32 (.int .u8)) (List.replicate 32 (0 : Int)), Res.var b0 73 (.pair Y70 .unit) r2.2, Res.var b1 34 (.arr 32 (.int .u8)) (List.replicate 32 (0 : Int))]) (fun k4 h => ?_) fun o5 gg h => ?_
 ·refine zu <| q 3 [(4, ptr b3 0), (12, tb ((List.length r2.1 : Int) != 64))] [2,3] rfl <| za <| rI h rfl (fun hc h => ?_) fun hc h => ?_
  ·refine zr <| y (y_build rfl zf65 rfl rfl .nil) rfl ?_
   refine y (y_iface rfl un65) rfl ?_
   exact r_panic (Option.some.inj h).symm rfl
  exact zk <| zt <| r_less [2,3,4] rfl <| by exact r_meetk () () h rfl rfl
 refine jK h (γ := Unit) (fun (o7 : List (Int)) _ => [(2, ptr b1 0), (4, ptr b3 0)]) (fun (o7 : List (Int)) _ => [Res.var b3 34 (.arr 32 (.int .u8)) o7, Res.var b0 73 (.pair Y70 .unit) r2.2, Res.var b1 34 (.arr 32 (.int .u8)) (List.replicate 32 (0 : Int))]) (fun k6 h => ?_) fun o7 gg h => ?_
 ·refine zu <| q 1 [(2, ptr b1 0), (3, ts r2.1), (4, ptr b3 0), (15, ti 0)] [] rfl <| za <| zb <| r_less [2,3,4,15] rfl <| r_loopg (γ := Unit) (fun (s10 : Int × List (Int)) _ => [(2, ptr b1 0), (3, ts r2.1), (4, ptr b3 0), (15, ti s10.1)]) (fun (s10 : Int × List (Int)) _ => [Res.var b3 34 (.arr 32 (.int .u8)) s10.2, Res.var b0 73 (.pair Y70 .unit) r2.2, Res.var b1 34 (.arr 32 (.int .u8)) (List.replicate 32 (0 : Int))]) (script_reader_hash_l0 r2 k6) (0, (List.replicate 32 (0 : Int))) () h rfl rfl ?_
  clear h
  intro m11 s10 gg h
  cases m11 with
  | zero => cases h
  | succ m11 =>
  simp only [script_reader_hash_l0] at h
  refine zu <| q 1 [(15, ti s10.1), (16, tb (decide (s10.1 < 32)))] [2,3,4] rfl <| za <| zs <| rI h rfl (fun hc h => ?_) fun hc h => ?_
  ·refine zk <| zt <| zs <| zb <| zu <| q 2 [(5, ti s10.1)] [2,3,4,15] rfl <| zz <| q 3 [(18, ts r2.1), (20, ti (IntKind.wrap .i64 (2 * s10.1)))] [2,3,4,5,15] rfl <| cB h fun r12 hr12 h => r_calls (script_digit_ok _ _ _ hr12) (by kernel_rfl) rfl rfl <| q 4 [(21, ti r12), (22, ts r2.1), (25, ti (IntKind.wrap .i64 ((IntKind.wrap .i64 (2 * s10.1)) + 1)))] [2,3,4,5,15] rfl <| cB h fun r13 hr13 h => r_calls (script_digit_ok _ _ _ hr13) (by kernel_rfl) rfl rfl <| p 2 [2,3,4,5,6,7,15] rfl ?_
   refine za <| jK h (γ := Unit) (fun (o15 : Unit) _ => [(2, ptr b1 0), (3, ts r2.1), (4, ptr b3 0), (5, ti s10.1), (6, ti r12), (7, ti r13), (15, ti s10.1)]) (fun (o15 : Unit) _ => [Res.var b3 34 (.arr 32 (.int .u8)) s10.2, Res.var b0 73 (.pair Y70 .unit) r2.2, Res.var b1 34 (.arr 32 (.int .u8)) (List.replicate 32 (0 : Int))]) (fun k14 h => ?_) fun o15 gg h => ?_
   ·refine zu <| p 3 [2,3,4,5,6,7,15,29] rfl ?_
    obtain ⟨b16, e, h⟩ := bnd_ex h; rw [e]
    refine r_lsplit (γ := Unit) 3 (fun _ => [(2, ptr b1 0), (3, ts r2.1), (4, ptr b3 0), (5, ti s10.1), (6, ti r12), (7, ti r13), (15, ti s10.1), (32, tb (b16 || (decide (r13 < 0))))]) (fun _ => [Res.var b3 34 (.arr 32 (.int .u8)) s10.2, Res.var b0 73 (.pair Y70 .unit) r2.2, Res.var b1 34 (.arr 32 (.int .u8)) (List.replicate 32 (0 : Int))]) ?_ (fun _ => ?_)
    ·clear h
     cases b16
     ·exact p 3 [2,3,4,5,6,7,15,32] rfl <| za <| by exact r_meetg () rfl rfl
     exact p 3 [2,3,4,5,6,7,15,32] rfl <| za <| by exact r_meetg () rfl rfl
    refine za <| rI h rfl (fun hc h => ?_) fun hc h => ?_
    ·refine zr <| y (y_build rfl zf65 rfl rfl .nil) rfl ?_
     refine y (y_iface rfl un65) rfl ?_
     exact r_panic (Option.some.inj h).symm rfl
    exact zk <| zt <| r_less [2,3,4,5,6,7,15] rfl <| by exact r_meetk () () h rfl rfl
   refine zr <| q 6 [(2, ptr b1 0), (3, ts r2.1), (4, ptr b3 0), (15, ti s10.1), (35, ti s10.1), (40, .one (.int .u8) (IntKind.wrap .u8 (IntKind.wrap .i64 ((IntKind.wrap .i64 (16 * r12)) + r13))))] [] rfl <| iE h fun hc h => y (y_ivar rfl rfl hc.1 hc.2 un34 ty5) rfl ?_
   exact r_store 0 (.elem (Int.toNat s10.1) .here) rfl rfl rfl (by first | rfl | (simp only [Pth.off, T.size]; omega)) (ok_elem (by first | omega | (simp only [List.length_set] at hc ⊢; omega)) ok_here) ty5 <| zn <| zi <| zt <| zr <| q 2 [(15, ti (IntKind.wrap .i64 (s10.1 + 1)))] [2,3,4] rfl <| za <| r_less [2,3,4,15] rfl <| by exact r_backg ((IntKind.wrap .i64 (s10.1 + 1)), (List.set s10.2 (Int.toNat s10.1) (IntKind.wrap .u8 (IntKind.wrap .i64 ((IntKind.wrap .i64 (16 * r12)) + r13))))) () (Nat.lt_succ_self _) h rfl rfl
  exact zx <| ze <| ze <| zq <| zt <| r_less [2,4] rfl <| by exact r_meetk s10.2 () h rfl rfl
 refine zu <| yl 0 .here ty34 rfl rfl rfl trivial rfl <| st 2 .here ty34 rfl rfl rfl rfl trivial <| zf ?_
 cases h
 refine xN ?_
 exact r_ret1 rfl (.cell 2 .here rfl rfl (by first | rfl | (simp only [Pth.off, T.size]; omega)) ok_here ty34) (fun _ _ g => g) (fun _ _ _ => (.cons _ (.cons_cons _ (.cons _ .slnil))))

theorem script_reader_quote_ok (b0 : Nat) (a0 : (List (List Int × Bool × Unit)) × Unit) (r : Option (List Int × (((List (List Int × Bool × Unit)) × Unit)))) (h : script_reader_quote a0 = some r) : FnE Tryd.prog 77 [ptr b0 0] [Res.var b0 73 (.pair Y70 .unit) a0] r (fun r _ => ts r.1) (fun r _ => [Res.var b0 73 (.pair Y70 .unit) r.2]) NOTH := by
 unfold script_reader_quote at h
 refine enterE Tryd.func77 rfl 5 rfl rfl fun F => ?_
 refine zu <| p 1 [0] rfl <| zz <| p 1 [3] rfl <| cB h fun or1 hr1 h => rcE [0] (script_reader_next_ok _ _ _ _ hr1) h (by kernel_rfl) rfl rfl rfl fun r1 h _ => q 1 [(2, ts r1.1)] [] rfl <| zf ?_
 cases h
 refine xN ?_
 exact r_ret1 rfl (.tmp rfl) (fun _ _ g => g) (fun _ _ _ => (.cons_cons _ .slnil))

theorem script_reader_fates_ok (b0 : Nat) (a0 : (List (List Int × Bool × Unit)) × Unit) (r : Option ((List (List Int × Int × Int × List Int × Unit)) × (((List (List Int × Bool × Unit)) × Unit)))) (h : script_reader_fates a0 = some r) : FnET Tryd.prog tabs 78 [ptr b0 0] [Res.var b0 73 (.pair Y70 .unit) a0] r (fun r v => .one (.raw (.slice none 0 0)) v) (fun r v => [Res.var b0 73 (.pair Y70 .unit) r.2, Res.own v 61 Y61 r.1]) NOTH := by
 unfold script_reader_fates at h
 refine enterET Tryd.func78 rfl 41 rfl rfl fun F hT => ?_
 refine zu <| p 1 [0] rfl <| zz <| p 1 [0,3] rfl <| r_nilown (.slice none 0 0) rfl 61 Y61 ?_
 refine za <| jK h (γ := Value) (fun (o2 : (List (List Int × Int × Int × List Int × Unit)) × ((List (List Int × Bool × Unit)) × Unit)) g3 => [(3, .one (.raw (.slice none 0 0)) g3)]) (fun (o2 : (List (List Int × Int × Int × List Int × Unit)) × ((List (List Int × Bool × Unit)) × Unit)) g3 => [Res.own g3 61 Y61 o2.1, Res.var b0 73 (.pair Y70 .unit) o2.2]) (fun k1 h => ?_) fun o2 g3 h => ?_
 ·refine zb <| r_less [0,3] rfl <| r_loopg (γ := Value) (fun (s7 : ((List (List Int × Bool × Unit)) × Unit) × (List (List Int × Int × Int × List Int × Unit))) g8 => [(0, ptr b0 0), (3, .one (.raw (.slice none 0 0)) g8)]) (fun (s7 : ((List (List Int × Bool × Unit)) × Unit) × (List (List Int × Int × Int × List Int × Unit))) g8 => [Res.own g8 61 Y61 s7.2, Res.var b0 73 (.pair Y70 .unit) s7.1]) (script_reader_fates_l0 k1) (a0, []) (.slice none 0 0) h rfl rfl ?_
  clear h
  intro m9 s7 g8 h
  cases m9 with
  | zero => cases h
  | succ m9 =>
  simp only [script_reader_fates_l0] at h
  refine zs <| zu <| p 3 [0,3,7] rfl <| yl 1 ((.fst .here)) ty70 rfl rfl rfl trivial rfl <| q 2 [(10, tb (decide ((List.length s7.1.1 : Int) > 0)))] [0,3] rfl <| za <| rI h rfl (fun hc h => ?_) fun hc h => ?_
  ·refine zk <| zt <| zb <| zu <| r_alloc (t := Y61) rfl zf61 rfl fun b10 => za <| jK h (γ := Unit) (fun (o12 : ((List (List Int × Bool × Unit)) × Unit) × (List Int × Int × Int × List Int × Unit)) _ => [(0, ptr b0 0), (3, .one (.raw (.slice none 0 0)) g8), (4, ptr b10 0)]) (fun (o12 : ((List (List Int × Bool × Unit)) × Unit) × (List Int × Int × Int × List Int × Unit)) _ => [Res.var b0 73 (.pair Y70 .unit) o12.1, Res.var b10 61 Y61 o12.2, Res.own g8 61 Y61 s7.2]) (fun k11 h => ?_) fun o12 gg h => ?_
   ·refine zu <| p 1 [0,3,4,11] rfl <| cB h fun or20 hr20 h => rcE [2] (script_reader_name_ok _ _ _ hr20) h (by kernel_rfl) rfl rfl rfl fun r20 h _ => za <| zb <| zu <| q 2 [(12, ts r20.1), (15, tb (r20.1 == [108, 111, 115, 116]))] [0,3,4] rfl <| za <| rI h rfl (fun hc h => zr <| p 1 [0,3,4,17] rfl <| st 1 ((.snd (.snd (.fst .here)))) ty3 rfl rfl rfl rfl trivial <| zn <| zi <| zt <| r_less [0,3,4] rfl <| by exact r_meetk (r20.2, ([], 0, 0, [], ())) () h rfl rfl) fun hc h => ?_
    refine zu <| q 2 [(18, tb (r20.1 == [107, 101, 112, 116]))] [0,3,4,12] rfl <| za <| rI h rfl (fun hc h => zr <| p 1 [0,3,4,20] rfl <| st 1 ((.snd (.snd (.fst .here)))) ty3 rfl rfl rfl rfl trivial <| zn <| zi <| zt <| r_less [0,3,4] rfl <| by exact r_meetk (r20.2, ([], 0, 1, [], ())) () h rfl rfl) fun hc h => zu <| q 2 [(21, tb (r20.1 == [114, 101, 112, 108, 97, 99, 101]))] [0,3,4] rfl <| za <| rI h rfl (fun hc h => zr <| p 1 [0,3,4,23] rfl <| st 1 ((.snd (.snd (.fst .here)))) ty3 rfl rfl rfl rfl trivial <| zn <| zi <| zt <| r_less [0,3,4] rfl <| by exact r_meetk (r20.2, ([], 0, 2, [], ())) () h rfl rfl) fun hc h => zr <| y (y_build rfl zf65 rfl rfl .nil) rfl ?_
    refine y (y_iface rfl un65) rfl ?_
    exact r_panic (Option.some.inj h).symm rfl
   refine zu <| p 1 [0,3,4,24] rfl <| cB h fun or13 hr13 h => rcE [0] (script_reader_quote_ok _ _ _ hr13) h (by kernel_rfl) rfl rfl rfl fun r13 h _ => q 1 [(25, ts r13.1), (26, ptr b0 0)] [0,3,4] rfl <| cB h fun or14 hr14 h => rcET hT [0] (script_reader_count_ok _ _ _ hr14) h (by kernel_rfl) rfl rfl rfl fun r14 h _ => q 1 [(27, ti r14.1), (28, ptr b10 0)] [0,3,4,25] rfl <| st 1 ((.fst .here)) ty9 rfl rfl rfl rfl trivial <| p 1 [0,3,4,27,29] rfl <| st 1 ((.snd (.fst .here))) ty3 rfl rfl rfl rfl trivial <| za <| jK h (γ := Unit) (fun (o16 : ((List (List Int × Bool × Unit)) × Unit) × (List Int × Int × Int × List Int × Unit)) _ => [(0, ptr b0 0), (3, .one (.raw (.slice none 0 0)) g8), (4, ptr b10 0)]) (fun (o16 : ((List (List Int × Bool × Unit)) × Unit) × (List Int × Int × Int × List Int × Unit)) _ => [Res.var b0 73 (.pair Y70 .unit) o16.1, Res.var b10 61 Y61 o16.2, Res.own g8 61 Y61 s7.2]) (fun k15 h => zu <| p 1 [0,3,4,30] rfl <| yl 1 ((.snd (.snd (.fst .here)))) ty3 rfl rfl rfl trivial rfl <| q 1 [(32, tb (o12.2.2.2.1 == 2))] [0,3,4] rfl <| za <| rI h rfl (fun hc h => zr <| p 1 [0,3,4,33] rfl <| cB h fun or19 hr19 h => rcE [0] (script_reader_quote_ok _ _ _ hr19) h (by kernel_rfl) rfl rfl rfl fun r19 h _ => q 1 [(34, ts r19.1), (35, ptr b10 3)] [0,3,4] rfl <| st 1 ((.snd (.snd (.snd (.fst .here))))) ty9 rfl rfl rfl rfl trivial <| za <| r_less [0,3,4] rfl <| by exact r_meetk (r19.2, (r13.1, r14.1, o12.2.2.2.1, r19.1, o12.2.2.2.2.2)) () h rfl rfl) fun hc h => zk <| zt <| r_less [0,3,4] rfl <| by exact r_meetk (r14.2, (r13.1, r14.1, o12.2.2.2)) () h rfl rfl) fun o16 gg h => ?_
   refine zr <| p 1 [0,4,36] rfl <| yl 1 .here ty61 rfl rfl rfl trivial rfl <| r_lits (B := 48) tabOk rfl el61 rfl rfl rfl (.cons rfl .nil) rfl fun v17 => ?_
   refine iE h fun hc h => r_append (B := 48) tabOk 3 rfl rfl (src_own 0 rfl rfl) rfl el61 rfl rfl hc rfl fun v18 => ?_
   exact pk [1,1,1] rfl <| p 1 [0,3] rfl <| zn <| zi <| zt <| pk [0,1] rfl <| r_less [0,3] rfl <| pk [1,0] rfl <| by exact r_backg (o16.1, (s7.2 ++ [o16.2])) v18 (Nat.lt_succ_self _) h rfl rfl
  exact zx <| ze <| ze <| zq <| zt <| r_less [3] rfl <| by exact r_meetk (s7.2, s7.1) g8 h rfl rfl
 refine zu <| p 2 [2] rfl <| zf ?_
 cases h
 refine xN ?_
 exact pk [1,0] rfl <| r_ret1 rfl (.tmp rfl) (fun _ _ g => holds_raw.2 ⟨rfl, by rw [(holds_raw.1 g).1]; exact (holds_raw.1 g).2⟩) (fun _ _ g => by obtain ⟨rfl, _⟩ := holds_raw.1 g; exact List.Sublist.refl _)

theorem script_bare_ok (a0 : Int) (r : List Int) (h : script_bare a0 = some r) : Pure Tryd.prog 79 [ti a0] (ts r) := by
 unfold script_bare at h
 refine enter Tryd.func79 rfl 16 rfl rfl fun F => ?_
 refine zu <| p 1 [0] rfl <| za <| zs <| zu <| p 1 [3] rfl <| za <| zb <| zu <| p 2 [3,4] rfl <| za <| rI h rfl (fun hc h => zu <| q 1 [(2, ts [115, 105, 103, 110])] [] rfl <| zf <| zB <| zT <| by cases h; exact r_ret1 rfl (.tmp rfl) (fun _ _ g => g) (fun _ _ _ => List.nil_sublist _)) fun hc h => ?_
 refine zu <| p 2 [3,6] rfl <| za <| rI h rfl (fun hc h => zu <| q 1 [(2, ts [99, 108, 111, 115, 101])] [] rfl <| zf <| zB <| zT <| by cases h; exact r_ret1 rfl (.tmp rfl) (fun _ _ g => g) (fun _ _ _ => List.nil_sublist _)) fun hc h => zu <| p 2 [3,8] rfl <| za <| rI h rfl (fun hc h => zu <| q 1 [(2, ts [99, 111, 110, 110, 101, 99, 116])] [] rfl <| zf <| zB <| zT <| by cases h; exact r_ret1 rfl (.tmp rfl) (fun _ _ g => g) (fun _ _ _ => List.nil_sublist _)) fun hc h => zu <| p 2 [3,10] rfl <| za <| rI h rfl (fun hc h => zu <| q 1 [(2, ts [100, 105, 115, 99, 111, 110, 110, 101, 99, 116])] [] rfl <| zf <| zB <| zT <| by cases h; exact r_ret1 rfl (.tmp rfl) (fun _ _ g => g) (fun _ _ _ => List.nil_sublist _)) fun hc h => ?_
 refine zu <| p 2 [3,12] rfl <| za <| rI h rfl (fun hc h => zu <| q 1 [(2, ts [99, 104, 101, 99, 107, 112, 111, 105, 110, 116])] [] rfl <| zf <| zB <| zT <| by cases h; exact r_ret1 rfl (.tmp rfl) (fun _ _ g => g) (fun _ _ _ => List.nil_sublist _)) fun hc h => zu <| p 2 [14] rfl <| za <| rI h rfl (fun hc h => zu <| q 1 [(2, ts [111, 112, 101, 110])] [] rfl <| zf <| zB <| zT <| by cases h; exact r_ret1 rfl (.tmp rfl) (fun _ _ g => g) (fun _ _ _ => List.nil_sublist _)) fun hc h => zk <| zi <| zt <| zu <| q 1 [(2, ts [])] [] rfl <| zf ?_
 cases h
 exact r_ret1 rfl (.tmp rfl) (fun _ _ g => g) (fun _ _ _ => List.nil_sublist _)

theorem script_kindOf_bare_ok (a1 : Int) (a2 : List Int) (r : Option (Int)) (h : script_kindOf_bare a1 a2 = some r) : FnE Tryd.prog 52 [.one (.raw (fnv 79)) (fnv 79), ti a1, ts a2] [] r (fun r _ => ti r) (fun _ _ => []) NOTH := by
 unfold script_kindOf_bare at h
 refine enterE Tryd.func52 rfl 21 rfl rfl fun F => ?_
 refine zu <| p 1 [0,1,2,6] rfl <| za <| jK h (γ := Unit) (fun (o2 : Int) _ => [(6, ti o2)]) (fun (o2 : Int) _ => []) (fun k1 h => ?_) fun o2 gg h => ?_
 ·refine zu <| p 1 [0,1,2,6,7] rfl <| za <| zb <| r_less [0,1,2,6,7] rfl <| r_loopg (γ := Unit) (fun (s4 : Int × Int) _ => [(0, .one (.raw (fnv 79)) (fnv 79)), (1, ti a1), (2, ts a2), (6, ti s4.1), (7, ti s4.2)]) (fun (s4 : Int × Int) _ => []) (script_kindOf_bare_l0 a1 a2 k1) (0, 1) () h rfl rfl ?_
  clear h
  intro m5 s4 gg h
  cases m5 with
  | zero => cases h
  | succ m5 =>
  simp only [script_kindOf_bare_l0] at h
  refine zs <| zu <| q 3 [(6, ti s4.1), (7, ti s4.2), (10, tb (decide (s4.2 ≤ a1)))] [0,1,2] rfl <| za <| rI h rfl (fun hc h => ?_) fun hc h => ?_
  ·refine zk <| zt <| zs <| zb <| zu <| q 2 [(13, .one (.raw (fnv 79)) (fnv 79)), (14, ti s4.2)] [0,1,2,6,7] rfl <| r_viaf rfl ?_
   refine cB h fun r6 hr6 h => r_calls (script_bare_ok _ _ hr6) (by kernel_rfl) rfl rfl <| p 2 [0,1,2,6,7,17] rfl <| za <| rI h rfl (fun hc h => ?_) fun hc h => ?_
   ·refine zu <| q 2 [(6, ti s4.2)] [] rfl <| zf <| zB <| zT <| zT <| zB <| zT ?_
    cases h
    refine xN ?_
    exact r_ret1 rfl (.tmp rfl) (fun _ _ g => g) (fun _ _ _ => List.nil_sublist _)
   refine zk <| zi <| zt <| zr <| q 3 [(7, ti (IntKind.wrap .i64 (s4.2 + 1)))] [0,1,2,6] rfl ?_
   obtain ⟨k7, e, h⟩ := bnd_ex h; rw [e]
   exact za <| r_less [0,1,2,6,7] rfl <| by exact r_backg (s4.1, k7) () (Nat.lt_succ_self _) h rfl rfl
  exact zx <| ze <| ze <| zq <| zt <| r_less [6] rfl <| by exact r_meetk s4.1 () h rfl rfl
 refine zr <| y (y_build rfl zf65 rfl rfl .nil) rfl ?_
 refine y (y_iface rfl un65) rfl ?_
 exact r_panic (Option.some.inj h).symm rfl

theorem script_reader_step_ok (b0 : Nat) (a0 : (List (List Int × Bool × Unit)) × Unit) (r : Option ((Int × Int × Int × Int × List (Int) × List Int × List Int × (List (List Int × Int × Int × List Int × Unit)) × Unit) × (((List (List Int × Bool × Unit)) × Unit)))) (h : script_reader_step a0 = some r) : FnET Tryd.prog tabs 51 [ptr b0 0] [Res.var b0 73 (.pair Y70 .unit) a0] r (fun r _ => .one Y48 r.1) (fun r _ => [Res.var b0 73 (.pair Y70 .unit) r.2]) NOTH := by
 unfold script_reader_step at h
 refine enterET Tryd.func51 rfl 53 rfl rfl fun F hT => ?_
 refine zu <| r_alloc (t := Y48) rfl zf48 rfl fun b1 => zz <| p 1 [0,2,4] rfl <| cB h fun or2 hr2 h => rcE [1] (script_reader_name_ok _ _ _ hr2) h (by kernel_rfl) rfl rfl rfl fun r2 h _ => q 1 [(3, ts r2.1)] [0,2] rfl <| za <| zs <| zu <| q 1 [(6, ts r2.1)] [0,2,3] rfl <| za <| zb <| zu ?_
 refine q 2 [(7, tb (r2.1 == [111, 102, 102, 101, 114]))] [0,2,3,6] rfl <| za <| rI h rfl (fun hc h => ?_) fun hc h => ?_
 ·refine zu <| p 1 [0,2,9] rfl <| cB h fun or3 hr3 h => rcET hT [0] (script_reader_number_ok _ _ _ hr3) h (by kernel_rfl) rfl rfl rfl fun r3 h _ => q 1 [(10, ti r3.1), (11, ptr b0 0)] [2] rfl <| cB h fun or4 hr4 h => rcE [0] (script_reader_hash_ok _ _ _ hr4) h (by kernel_rfl) rfl rfl rfl fun r4 h _ => y (y_build rfl zf48 rfl rfl (.cons ((.fst .here)) rfl rfl ok_here (.cons ((.snd (.fst .here))) rfl rfl ok_here (.cons ((.snd (.snd (.snd (.snd (.fst .here)))))) rfl rfl ok_here .nil)))) rfl ?_
  refine st 1 .here ty48 rfl rfl rfl rfl trivial <| zf <| zB <| zT ?_
  cases h
  refine xN ?_
  exact r_ret1 rfl (.cell 1 .here rfl rfl (by first | rfl | (simp only [Pth.off, T.size]; omega)) ok_here ty48) (fun _ _ g => g) (fun _ _ _ => (.cons_cons _ (.cons _ .slnil)))
 refine zu <| q 2 [(14, tb (r2.1 == [115, 101, 116, 116, 108, 101]))] [0,2,3,6] rfl <| za <| rI h rfl (fun hc h => ?_) fun hc h => ?_
 ·refine zu <| p 1 [0,2,16] rfl <| cB h fun or5 hr5 h => rcET hT [0] (script_reader_number_ok _ _ _ hr5) h (by kernel_rfl) rfl rfl rfl fun r5 h _ => q 1 [(17, ti r5.1), (18, ptr b0 0)] [2] rfl <| cB h fun or6 hr6 h => rcE [0] (script_reader_hash_ok _ _ _ hr6) h (by kernel_rfl) rfl rfl rfl fun r6 h _ => y (y_build rfl zf48 rfl rfl (.cons ((.fst .here)) rfl rfl ok_here (.cons ((.snd (.snd (.fst .here)))) rfl rfl ok_here (.cons ((.snd (.snd (.snd (.snd (.fst .here)))))) rfl rfl ok_here .nil)))) rfl ?_
  refine st 1 .here ty48 rfl rfl rfl rfl trivial <| zf <| zB <| zT ?_
  cases h
  refine xN ?_
  exact r_ret1 rfl (.cell 1 .here rfl rfl (by first | rfl | (simp only [Pth.off, T.size]; omega)) ok_here ty48) (fun _ _ g => g) (fun _ _ _ => (.cons_cons _ (.cons _ .slnil)))
 refine zu <| q 2 [(21, tb (r2.1 == [114, 101, 102, 117, 115, 101]))] [0,2,3,6] rfl <| za <| rI h rfl (fun hc h => ?_) fun hc h => ?_
 ·refine zu <| p 1 [0,2,23] rfl <| cB h fun or7 hr7 h => rcET hT [0] (script_reader_number_ok _ _ _ hr7) h (by kernel_rfl) rfl rfl rfl fun r7 h _ => q 1 [(24, ti r7.1), (25, ptr b0 0)] [2] rfl <| cB h fun or8 hr8 h => rcE [0] (script_reader_quote_ok _ _ _ hr8) h (by kernel_rfl) rfl rfl rfl fun r8 h _ => y (y_build rfl zf48 rfl rfl (.cons ((.fst .here)) rfl rfl ok_here (.cons ((.snd (.snd (.fst .here)))) rfl rfl ok_here (.cons ((.snd (.snd (.snd (.snd (.snd (.fst .here))))))) rfl rfl ok_here .nil)))) rfl ?_
  refine st 1 .here ty48 rfl rfl rfl rfl trivial <| zf <| zB <| zT ?_
  cases h
  refine xN ?_
  exact r_ret1 rfl (.cell 1 .here rfl rfl (by first | rfl | (simp only [Pth.off, T.size]; omega)) ok_here ty48) (fun _ _ g => g) (fun _ _ _ => (.cons_cons _ (.cons _ .slnil)))
 refine zu <| q 2 [(28, tb (r2.1 == [116, 97, 107, 101]))] [0,2,3,6] rfl <| za <| rI h rfl (fun hc h => ?_) fun hc h => ?_
 ·refine zu <| p 1 [2,30] rfl <| cB h fun or9 hr9 h => rcE [0] (script_reader_quote_ok _ _ _ hr9) h (by kernel_rfl) rfl rfl rfl fun r9 h _ => y (y_build rfl zf48 rfl rfl (.cons ((.fst .here)) rfl rfl ok_here (.cons ((.snd (.snd (.snd (.snd (.snd (.snd (.fst .here)))))))) rfl rfl ok_here .nil))) rfl ?_
  refine st 1 .here ty48 rfl rfl rfl rfl trivial <| zf <| zB <| zT ?_
  cases h
  refine xN ?_
  exact r_ret1 rfl (.cell 1 .here rfl rfl (by first | rfl | (simp only [Pth.off, T.size]; omega)) ok_here ty48) (fun _ _ g => g) (fun _ _ _ => (.cons_cons _ (.cons _ .slnil)))
 refine zu <| q 2 [(33, tb (r2.1 == [97, 114, 109]))] [0,2,3,6] rfl <| za <| rI h rfl (fun hc h => ?_) fun hc h => ?_
 ·refine zu <| p 1 [2,35] rfl <| cB h fun or10 hr10 h => rcET hT [0] (script_reader_number_ok _ _ _ hr10) h (by kernel_rfl) rfl rfl rfl fun r10 h _ => y (y_build rfl zf48 rfl rfl (.cons ((.fst .here)) rfl rfl ok_here (.cons ((.snd (.snd (.snd (.fst .here))))) rfl rfl ok_here .nil))) rfl ?_
  refine st 1 .here ty48 rfl rfl rfl rfl trivial <| zf <| zB <| zT ?_
  cases h
  refine xN ?_
  exact r_ret1 rfl (.cell 1 .here rfl rfl (by first | rfl | (simp only [Pth.off, T.size]; omega)) ok_here ty48) (fun _ _ g => g) (fun _ _ _ => (.cons_cons _ (.cons _ .slnil)))
 refine zu <| q 2 [(38, tb (r2.1 == [102, 97, 108, 108]))] [0,2,3,6] rfl <| za <| rI h rfl (fun hc h => ?_) fun hc h => ?_
 ·refine zu <| p 1 [2,40] rfl <| cB h fun or11 hr11 h => rcET hT [0] (script_reader_number_ok _ _ _ hr11) h (by kernel_rfl) rfl rfl rfl fun r11 h _ => y (y_build rfl zf48 rfl rfl (.cons ((.fst .here)) rfl rfl ok_here (.cons ((.snd (.snd (.snd (.fst .here))))) rfl rfl ok_here .nil))) rfl ?_
  refine st 1 .here ty48 rfl rfl rfl rfl trivial <| zf <| zB <| zT ?_
  cases h
  refine xN ?_
  exact r_ret1 rfl (.cell 1 .here rfl rfl (by first | rfl | (simp only [Pth.off, T.size]; omega)) ok_here ty48) (fun _ _ g => g) (fun _ _ _ => (.cons_cons _ (.cons _ .slnil)))
 refine zu <| q 2 [(43, tb (r2.1 == [99, 114, 97, 115, 104]))] [0,2,3] rfl <| za <| rI h rfl (fun hc h => ?_) fun hc h => ?_
 ·refine zu <| p 1 [0,2,45] rfl <| cB h fun or12 hr12 h => rcET hT [0] (script_reader_number_ok _ _ _ hr12) h (by kernel_rfl) rfl rfl rfl fun r12 h _ => q 1 [(46, ti r12.1), (47, ptr b0 0)] [2] rfl <| cB h fun or13 hr13 h => rcET hT [0] (script_reader_fates_ok _ _ _ hr13) h (by kernel_rfl) rfl rfl rfl fun r13 h v14 => r_freeze (i := 1) (k := 48) rfl rfl ?_
  refine y (y_build rfl zf48 rfl rfl (.cons ((.fst .here)) rfl rfl ok_here (.cons ((.snd (.snd (.snd (.fst .here))))) rfl rfl ok_here (.cons ((.snd (.snd (.snd (.snd (.snd (.snd (.snd (.fst .here))))))))) rfl rfl ok_here .nil)))) rfl ?_
  refine st 1 .here ty48 rfl rfl rfl rfl trivial <| zf <| zB <| zT ?_
  cases h
  refine xN ?_
  exact r_ret1 rfl (.cell 1 .here rfl rfl (by first | rfl | (simp only [Pth.off, T.size]; omega)) ok_here ty48) (fun _ _ g => g) (fun _ _ _ => (.cons_cons _ (.cons _ .slnil)))
 refine zk <| zi <| zt <| zu <| q 1 [(50, ts r2.1)] [2] rfl <| cB h fun or15 hr15 h => rcE [] (script_kindOf_bare_ok _ _ _ hr15) h (by kernel_rfl) rfl rfl rfl fun r15 h _ => y (y_build rfl zf48 rfl rfl (.cons ((.fst .here)) rfl rfl ok_here .nil)) rfl ?_
 refine st 1 .here ty48 rfl rfl rfl rfl trivial <| zf ?_
 cases h
 refine xN ?_
 exact r_ret1 rfl (.cell 1 .here rfl rfl (by first | rfl | (simp only [Pth.off, T.size]; omega)) ok_here ty48) (fun _ _ g => g) (fun _ _ _ => (.cons_cons _ (.cons _ .slnil)))

theorem script_question_ok (a0 : Int) (r : List Int) (h : script_question a0 = some r) : Pure Tryd.prog 53 [ti a0] (ts r) := by
 unfold script_question at h
 refine enter Tryd.func53 rfl 14 rfl rfl fun F => ?_
 refine zu <| p 1 [0] rfl <| za <| zs <| zu <| p 1 [3] rfl <| za <| zb <| zu <| p 2 [3,4] rfl <| za <| rI h rfl (fun hc h => zu <| q 1 [(2, ts [115, 116, 97, 116, 101])] [] rfl <| zf <| zB <| zT <| by cases h; exact r_ret1 rfl (.tmp rfl) (fun _ _ g => g) (fun _ _ _ => List.nil_sublist _)) fun hc h => ?_
 refine zu <| p 2 [3,6] rfl <| za <| rI h rfl (fun hc h => zu <| q 1 [(2, ts [108, 101, 100, 103, 101, 114])] [] rfl <| zf <| zB <| zT <| by cases h; exact r_ret1 rfl (.tmp rfl) (fun _ _ g => g) (fun _ _ _ => List.nil_sublist _)) fun hc h => zu <| p 2 [3,8] rfl <| za <| rI h rfl (fun hc h => zu <| q 1 [(2, ts [109, 97, 114, 107])] [] rfl <| zf <| zB <| zT <| by cases h; exact r_ret1 rfl (.tmp rfl) (fun _ _ g => g) (fun _ _ _ => List.nil_sublist _)) fun hc h => zu <| p 2 [3,10] rfl <| za <| rI h rfl (fun hc h => zu <| q 1 [(2, ts [112, 105, 112, 101])] [] rfl <| zf <| zB <| zT <| by cases h; exact r_ret1 rfl (.tmp rfl) (fun _ _ g => g) (fun _ _ _ => List.nil_sublist _)) fun hc h => ?_
 refine zu <| p 2 [12] rfl <| za <| rI h rfl (fun hc h => zu <| q 1 [(2, ts [102, 105, 108, 101, 115])] [] rfl <| zf <| zB <| zT <| by cases h; exact r_ret1 rfl (.tmp rfl) (fun _ _ g => g) (fun _ _ _ => List.nil_sublist _)) fun hc h => zk <| zi <| zt <| zu <| q 1 [(2, ts [])] [] rfl <| zf ?_
 cases h
 exact r_ret1 rfl (.tmp rfl) (fun _ _ g => g) (fun _ _ _ => List.nil_sublist _)

theorem script_kindOf_question_ok (a1 : Int) (a2 : List Int) (r : Option (Int)) (h : script_kindOf_question a1 a2 = some r) : FnE Tryd.prog 52 [.one (.raw (fnv 53)) (fnv 53), ti a1, ts a2] [] r (fun r _ => ti r) (fun _ _ => []) NOTH := by
 unfold script_kindOf_question at h
 refine enterE Tryd.func52 rfl 21 rfl rfl fun F => ?_
 refine zu <| p 1 [0,1,2,6] rfl <| za <| jK h (γ := Unit) (fun (o2 : Int) _ => [(6, ti o2)]) (fun (o2 : Int) _ => []) (fun k1 h => ?_) fun o2 gg h => ?_
 ·refine zu <| p 1 [0,1,2,6,7] rfl <| za <| zb <| r_less [0,1,2,6,7] rfl <| r_loopg (γ := Unit) (fun (s4 : Int × Int) _ => [(0, .one (.raw (fnv 53)) (fnv 53)), (1, ti a1), (2, ts a2), (6, ti s4.1), (7, ti s4.2)]) (fun (s4 : Int × Int) _ => []) (script_kindOf_question_l0 a1 a2 k1) (0, 1) () h rfl rfl ?_
  clear h
  intro m5 s4 gg h
  cases m5 with
  | zero => cases h
  | succ m5 =>
  simp only [script_kindOf_question_l0] at h
  refine zs <| zu <| q 3 [(6, ti s4.1), (7, ti s4.2), (10, tb (decide (s4.2 ≤ a1)))] [0,1,2] rfl <| za <| rI h rfl (fun hc h => ?_) fun hc h => ?_
  ·refine zk <| zt <| zs <| zb <| zu <| q 2 [(13, .one (.raw (fnv 53)) (fnv 53)), (14, ti s4.2)] [0,1,2,6,7] rfl <| r_viaf rfl ?_
   refine cB h fun r6 hr6 h => r_calls (script_question_ok _ _ hr6) (by kernel_rfl) rfl rfl <| p 2 [0,1,2,6,7,17] rfl <| za <| rI h rfl (fun hc h => ?_) fun hc h => ?_
   ·refine zu <| q 2 [(6, ti s4.2)] [] rfl <| zf <| zB <| zT <| zT <| zB <| zT ?_
    cases h
    refine xN ?_
    exact r_ret1 rfl (.tmp rfl) (fun _ _ g => g) (fun _ _ _ => List.nil_sublist _)
   refine zk <| zi <| zt <| zr <| q 3 [(7, ti (IntKind.wrap .i64 (s4.2 + 1)))] [0,1,2,6] rfl ?_
   obtain ⟨k7, e, h⟩ := bnd_ex h; rw [e]
   exact za <| r_less [0,1,2,6,7] rfl <| by exact r_backg (s4.1, k7) () (Nat.lt_succ_self _) h rfl rfl
  exact zx <| ze <| ze <| zq <| zt <| r_less [6] rfl <| by exact r_meetk s4.1 () h rfl rfl
 refine zr <| y (y_build rfl zf65 rfl rfl .nil) rfl ?_
 refine y (y_iface rfl un65) rfl ?_
 exact r_panic (Option.some.inj h).symm rfl

theorem script_reader_command_ok (b0 : Nat) (a0 : (List (List Int × Bool × Unit)) × Unit) (r : Option ((Int × (Int × Int × List (List (Int)) × List (List (Int)) × Int × Int × Unit) × (Int × Int × (Int × Int × Int × Int × List (Int) × List Int × List Int × (List (List Int × Int × Int × List Int × Unit)) × Unit) × Unit) × Int × Int × Unit) × (((List (List Int × Bool × Unit)) × Unit)))) (h : script_reader_command a0 = some r) : FnET Tryd.prog tabs 29 [ptr b0 0] [Res.var b0 73 (.pair Y70 .unit) a0] r (fun r _ => .one Y55 r.1) (fun r _ => [Res.var b0 73 (.pair Y70 .unit) r.2]) NOTH := by
 unfold script_reader_command at h
 refine enterET Tryd.func29 rfl 83 rfl rfl fun F hT => ?_
 refine zu <| r_alloc (t := Y55) rfl zf55 rfl fun b1 => zz <| p 1 [0,2,5] rfl <| cB h fun or2 hr2 h => rcE [1] (script_reader_name_ok _ _ _ hr2) h (by kernel_rfl) rfl rfl rfl fun r2 h _ => q 1 [(3, ts r2.1)] [0,2] rfl <| za <| zs <| zu <| q 1 [(7, ts r2.1)] [0,2,3] rfl <| za <| zb <| zu ?_
 refine q 2 [(8, tb (r2.1 == [119, 111, 114, 108, 100]))] [0,2,3,7] rfl <| za <| rI h rfl (fun hc h => ?_) fun hc h => ?_
 ·refine zu <| y (y_build rfl zf55 rfl rfl (.cons ((.fst .here)) rfl rfl ok_here .nil)) rfl ?_
  refine r_alloc (t := Y55) rfl zf55 rfl fun b3 => st 0 .here ty55 rfl rfl rfl rfl trivial <| zz <| p 1 [0,2,4,11] rfl <| cB h fun or4 hr4 h => rcET hT [1] (script_reader_number_ok _ _ _ hr4) h (by kernel_rfl) rfl rfl rfl fun r4 h _ => q 1 [(12, ti r4.1), (13, ptr b0 0)] [0,2,4] rfl <| cB h fun or5 hr5 h => rcET hT [0] (script_reader_number_ok _ _ _ hr5) h (by kernel_rfl) rfl rfl rfl fun r5 h _ => q 1 [(14, ti r5.1), (15, ptr b0 0)] [0,2,4,12] rfl <| cB h fun or6 hr6 h => rcET hT [0] (script_reader_count_ok _ _ _ hr6) h (by kernel_rfl) rfl rfl rfl fun r6 h _ => q 1 [(16, ti r6.1), (17, ptr b0 0)] [0,2,4,12,14] rfl <| cB h fun or7 hr7 h => ?_
  refine rcET hT [0] (script_reader_count_ok _ _ _ hr7) h (by kernel_rfl) rfl rfl rfl fun r7 h _ => y (y_build rfl zf53 rfl rfl (.cons ((.fst .here)) rfl rfl ok_here (.cons ((.snd (.fst .here))) rfl rfl ok_here (.cons ((.snd (.snd (.snd (.snd (.fst .here)))))) rfl rfl ok_here (.cons ((.snd (.snd (.snd (.snd (.snd (.fst .here))))))) rfl rfl ok_here .nil))))) rfl ?_
  refine q 1 [(19, .one Y53 (r4.1, r5.1, (List.replicate 2 ((List.replicate 32 (0 : Int)) : List (Int))), (List.replicate 2 ((List.replicate 32 (0 : Int)) : List (Int))), r6.1, r7.1, ())), (20, ptr b3 1)] [0,2,4] rfl <| st 1 ((.snd (.fst .here))) ty53 rfl rfl rfl rfl trivial <| zz <| p 1 [0,2,4,21] rfl <| cB h fun or8 hr8 h => rcE [0] (script_reader_hash_ok _ _ _ hr8) h (by kernel_rfl) rfl rfl rfl fun r8 h _ => q 1 [(22, .one (.arr 32 (.int .u8)) r8.1), (23, ptr b0 0)] [0,2,4] rfl <| cB h fun or9 hr9 h => rcE [0] (script_reader_hash_ok _ _ _ hr9) h (by kernel_rfl) rfl rfl rfl fun r9 h _ => q 2 [(24, .one (.arr 32 (.int .u8)) r9.1), (26, ptr b3 3)] [0,2,4,22] rfl <| iE h fun hc h => y (y_ivar rfl rfl hc.1 hc.2 un51 ty34) rfl ?_
  refine r_store 1 ((.snd (.fst ((.snd (.snd (.fst (.elem 0 .here)))))))) rfl rfl rfl (by first | rfl | (simp only [Pth.off, T.size]; omega)) (ok_snd (ok_fst (ok_snd (ok_snd (ok_fst (ok_elem (by first | omega | (simp only [List.length_set] at hc ⊢; omega)) ok_here)))))) ty34 <| p 2 [0,2,4,24,29] rfl <| iE h fun hc h => y (y_ivar rfl rfl hc.1 hc.2 un51 ty34) rfl ?_
  refine r_store 1 ((.snd (.fst ((.snd (.snd (.fst (.elem 1 .here)))))))) rfl rfl rfl (by first | rfl | (simp only [Pth.off, T.size]; omega)) (ok_snd (ok_fst (ok_snd (ok_snd (ok_fst (ok_elem (by first | omega | (simp only [List.length_set] at hc ⊢; omega)) ok_here)))))) ty34 <| zz <| p 1 [0,2,4,31] rfl <| cB h fun or10 hr10 h => rcE [0] (script_reader_hash_ok _ _ _ hr10) h (by kernel_rfl) rfl rfl rfl fun r10 h _ => q 1 [(32, .one (.arr 32 (.int .u8)) r10.1), (33, ptr b0 0)] [2,4] rfl <| cB h fun or11 hr11 h => rcE [0] (script_reader_hash_ok _ _ _ hr11) h (by kernel_rfl) rfl rfl rfl fun r11 h _ => q 2 [(34, .one (.arr 32 (.int .u8)) r11.1), (36, ptr b3 67)] [2,4,32] rfl <| iE h fun hc h => y (y_ivar rfl rfl hc.1 hc.2 un51 ty34) rfl ?_
  refine r_store 1 ((.snd (.fst ((.snd (.snd (.snd (.fst (.elem 0 .here))))))))) rfl rfl rfl (by first | rfl | (simp only [Pth.off, T.size]; omega)) (ok_snd (ok_fst (ok_snd (ok_snd (ok_snd (ok_fst (ok_elem (by first | omega | (simp only [List.length_set] at hc ⊢; omega)) ok_here))))))) ty34 <| p 2 [2,4,34,39] rfl <| iE h fun hc h => y (y_ivar rfl rfl hc.1 hc.2 un51 ty34) rfl ?_
  refine r_store 1 ((.snd (.fst ((.snd (.snd (.snd (.fst (.elem 1 .here))))))))) rfl rfl rfl (by first | rfl | (simp only [Pth.off, T.size]; omega)) (ok_snd (ok_fst (ok_snd (ok_snd (ok_snd (ok_fst (ok_elem (by first | omega | (simp only [List.length_set] at hc ⊢; omega)) ok_here))))))) ty34 <| zz <| yl 1 .here ty55 rfl rfl rfl trivial rfl <| st 2 .here ty55 rfl rfl rfl rfl trivial <| zf <| zB <| zT ?_
  cases h
  refine xN ?_
  exact r_ret1 rfl (.cell 2 .here rfl rfl (by first | rfl | (simp only [Pth.off, T.size]; omega)) ok_here ty55) (fun _ _ g => g) (fun _ _ _ => (.cons_cons _ (.cons _ (.cons _ .slnil))))
 refine zu <| q 2 [(42, tb (r2.1 == [115, 116, 101, 112]))] [0,2,3,7] rfl <| za <| rI h rfl (fun hc h => ?_) fun hc h => ?_
 ·refine zu <| p 1 [0,2,44] rfl <| cB h fun or12 hr12 h => rcET hT [0] (script_reader_count_ok _ _ _ hr12) h (by kernel_rfl) rfl rfl rfl fun r12 h _ => q 1 [(45, ti r12.1), (46, ptr b0 0)] [2] rfl <| cB h fun or13 hr13 h => rcET hT [0] (script_reader_step_ok _ _ _ hr13) h (by kernel_rfl) rfl rfl rfl fun r13 h _ => y (y_build rfl zf50 rfl rfl (.cons ((.fst .here)) rfl rfl ok_here (.cons ((.snd (.fst .here))) rfl rfl ok_here (.cons ((.snd (.snd (.fst .here)))) rfl rfl ok_here .nil)))) rfl ?_
  refine y (y_build rfl zf55 rfl rfl (.cons ((.fst .here)) rfl rfl ok_here (.cons ((.snd (.snd (.fst .here)))) rfl rfl ok_here .nil))) rfl ?_
  refine st 1 .here ty55 rfl rfl rfl rfl trivial <| zf <| zB <| zT ?_
  cases h
  refine xN ?_
  exact r_ret1 rfl (.cell 1 .here rfl rfl (by first | rfl | (simp only [Pth.off, T.size]; omega)) ok_here ty55) (fun _ _ g => g) (fun _ _ _ => (.cons_cons _ (.cons _ .slnil)))
 refine zu <| q 2 [(50, tb (r2.1 == [106, 111, 105, 110]))] [0,2,3,7] rfl <| za <| rI h rfl (fun hc h => ?_) fun hc h => ?_
 ·refine zu <| y (y_build rfl zf50 rfl rfl (.cons ((.fst .here)) rfl rfl ok_here .nil)) rfl ?_
  refine y (y_build rfl zf55 rfl rfl (.cons ((.fst .here)) rfl rfl ok_here (.cons ((.snd (.snd (.fst .here)))) rfl rfl ok_here .nil))) rfl ?_
  refine st 1 .here ty55 rfl rfl rfl rfl trivial <| zf <| zB <| zT ?_
  cases h
  refine xN ?_
  exact r_ret1 rfl (.cell 1 .here rfl rfl (by first | rfl | (simp only [Pth.off, T.size]; omega)) ok_here ty55) (fun _ _ g => g) (fun _ _ _ => (.cons_cons _ (.cons _ .slnil)))
 refine zu <| q 2 [(54, tb (r2.1 == [99, 117, 116]))] [0,2,3,7] rfl <| za <| rI h rfl (fun hc h => ?_) fun hc h => ?_
 ·refine zu <| y (y_build rfl zf50 rfl rfl (.cons ((.fst .here)) rfl rfl ok_here .nil)) rfl ?_
  refine y (y_build rfl zf55 rfl rfl (.cons ((.fst .here)) rfl rfl ok_here (.cons ((.snd (.snd (.fst .here)))) rfl rfl ok_here .nil))) rfl ?_
  refine st 1 .here ty55 rfl rfl rfl rfl trivial <| zf <| zB <| zT ?_
  cases h
  refine xN ?_
  exact r_ret1 rfl (.cell 1 .here rfl rfl (by first | rfl | (simp only [Pth.off, T.size]; omega)) ok_here ty55) (fun _ _ g => g) (fun _ _ _ => (.cons_cons _ (.cons _ .slnil)))
 refine zu <| q 2 [(58, tb (r2.1 == [100, 101, 108, 105, 118, 101, 114]))] [0,2,3,7] rfl <| za <| rI h rfl (fun hc h => ?_) fun hc h => ?_
 ·refine zu <| p 1 [2,60] rfl <| cB h fun or14 hr14 h => rcET hT [0] (script_reader_count_ok _ _ _ hr14) h (by kernel_rfl) rfl rfl rfl fun r14 h _ => y (y_build rfl zf50 rfl rfl (.cons ((.fst .here)) rfl rfl ok_here (.cons ((.snd (.fst .here))) rfl rfl ok_here .nil))) rfl ?_
  refine y (y_build rfl zf55 rfl rfl (.cons ((.fst .here)) rfl rfl ok_here (.cons ((.snd (.snd (.fst .here)))) rfl rfl ok_here .nil))) rfl ?_
  refine st 1 .here ty55 rfl rfl rfl rfl trivial <| zf <| zB <| zT ?_
  cases h
  refine xN ?_
  exact r_ret1 rfl (.cell 1 .here rfl rfl (by first | rfl | (simp only [Pth.off, T.size]; omega)) ok_here ty55) (fun _ _ g => g) (fun _ _ _ => (.cons_cons _ (.cons _ .slnil)))
 refine zu <| q 2 [(64, tb (r2.1 == [108, 111, 115, 101]))] [0,2,3,7] rfl <| za <| rI h rfl (fun hc h => ?_) fun hc h => ?_
 ·refine zu <| p 1 [2,66] rfl <| cB h fun or15 hr15 h => rcET hT [0] (script_reader_count_ok _ _ _ hr15) h (by kernel_rfl) rfl rfl rfl fun r15 h _ => y (y_build rfl zf50 rfl rfl (.cons ((.fst .here)) rfl rfl ok_here (.cons ((.snd (.fst .here))) rfl rfl ok_here .nil))) rfl ?_
  refine y (y_build rfl zf55 rfl rfl (.cons ((.fst .here)) rfl rfl ok_here (.cons ((.snd (.snd (.fst .here)))) rfl rfl ok_here .nil))) rfl ?_
  refine st 1 .here ty55 rfl rfl rfl rfl trivial <| zf <| zB <| zT ?_
  cases h
  refine xN ?_
  exact r_ret1 rfl (.cell 1 .here rfl rfl (by first | rfl | (simp only [Pth.off, T.size]; omega)) ok_here ty55) (fun _ _ g => g) (fun _ _ _ => (.cons_cons _ (.cons _ .slnil)))
 refine zu <| q 2 [(70, tb (r2.1 == [113, 117, 105, 101, 116]))] [0,2,3,7] rfl <| za <| rI h rfl (fun hc h => ?_) fun hc h => ?_
 ·refine zu <| p 1 [2,72] rfl <| cB h fun or16 hr16 h => rcET hT [0] (script_reader_number_ok _ _ _ hr16) h (by kernel_rfl) rfl rfl rfl fun r16 h _ => y (y_build rfl zf55 rfl rfl (.cons ((.fst .here)) rfl rfl ok_here (.cons ((.snd (.snd (.snd (.fst .here))))) rfl rfl ok_here .nil))) rfl ?_
  refine st 1 .here ty55 rfl rfl rfl rfl trivial <| zf <| zB <| zT ?_
  cases h
  refine xN ?_
  exact r_ret1 rfl (.cell 1 .here rfl rfl (by first | rfl | (simp only [Pth.off, T.size]; omega)) ok_here ty55) (fun _ _ g => g) (fun _ _ _ => (.cons_cons _ (.cons _ .slnil)))
 refine zu <| q 2 [(75, tb (r2.1 == [106, 111, 105, 110, 101, 100]))] [0,2,3] rfl <| za <| rI h rfl (fun hc h => ?_) fun hc h => ?_
 ·refine zu <| y (y_build rfl zf55 rfl rfl (.cons ((.fst .here)) rfl rfl ok_here .nil)) rfl ?_
  refine st 1 .here ty55 rfl rfl rfl rfl trivial <| zf <| zB <| zT ?_
  cases h
  refine xN ?_
  exact r_ret1 rfl (.cell 1 .here rfl rfl (by first | rfl | (simp only [Pth.off, T.size]; omega)) ok_here ty55) (fun _ _ g => g) (fun _ _ _ => (.cons_cons _ (.cons _ .slnil)))
 refine zk <| zi <| zt <| zu <| q 1 [(78, ts r2.1)] [0,2] rfl <| cB h fun or17 hr17 h => rcE [] (script_kindOf_question_ok _ _ _ hr17) h (by kernel_rfl) rfl rfl rfl fun r17 h _ => p 1 [2,79,80] rfl <| cB h fun or18 hr18 h => rcET hT [0] (script_reader_count_ok _ _ _ hr18) h (by kernel_rfl) rfl rfl rfl fun r18 h _ => y (y_build rfl zf55 rfl rfl (.cons ((.fst .here)) rfl rfl ok_here (.cons ((.snd (.snd (.snd (.snd (.fst .here)))))) rfl rfl ok_here .nil))) rfl ?_
 refine st 1 .here ty55 rfl rfl rfl rfl trivial <| zf ?_
 cases h
 refine xN ?_
 exact r_ret1 rfl (.cell 1 .here rfl rfl (by first | rfl | (simp only [Pth.off, T.size]; omega)) ok_here ty55) (fun _ _ g => g) (fun _ _ _ => (.cons_cons _ (.cons _ .slnil)))

theorem script_Parse_ok (a0 : List Int) (r : (List (Int × (Int × Int × List (List (Int)) × List (List (Int)) × Int × Int × Unit) × (Int × Int × (Int × Int × Int × Int × List (Int) × List Int × List Int × (List (List Int × Int × Int × List Int × Unit)) × Unit) × Unit) × Int × Int × Unit)) × Int) (h0 : script_Parse a0 = some r) : FnT Tryd.prog tabs 11 [ts a0] [] (fun v => .tup [⟨.raw (.slice none 0 0), tupv v 0⟩, ⟨(.int .i64), r.2⟩]) (fun v => [Res.own (tupv v 0) 55 Y55 r.1]) := by
 unfold script_Parse at h0
 obtain ⟨o, h, hr⟩ := Option.map_eq_some_iff.1 h0
 clear h0
 subst hr
 unfold script_Parse_in at h
 refine enterDT (kc := 26) o ([], 250) (res := fun r => (fun v => .tup [⟨.raw (.slice none 0 0), tupv v 0⟩, ⟨(.int .i64), r.2⟩])) (L' := fun r => (fun v => [Res.own (tupv v 0) 55 Y55 r.1])) 2 3 Tryd.func11 rfl 41 rfl rfl rfl (by kernel_rfl) rfl (by kernel_rfl) rfl (fun F M w st => finOwn (holds_int.2 ⟨rfl, by decide⟩) st) fun F hT hb => ?_
 refine zu <| r_alloc (t := (.raw (.slice none 0 0))) rfl zf23 rfl fun b1 => r_nilown (.slice none 0 0) rfl 55 Y55 ?_
 refine r_alloc (t := (.int .i64)) rfl zf24 rfl fun b2 => za <| zs <| zu <| p 1 [0,2,3,7] rfl <| cB h fun r3 hr3 h => rcT hT [] (script_long_ok _ _ hr3) (by kernel_rfl) rfl rfl rfl fun _ => za <| rI h rfl (fun hc h => ?_) fun hc h => ?_
 ·refine zu <| r_nilown (.slice none 0 0) rfl 55 Y55 ?_
  refine st 3 .here tx0 rfl rfl rfl rfl trivial <| st 1 .here ty24 rfl rfl rfl rfl trivial <| zf <| zT ?_
  cases h
  refine d_is ?_
  refine d_ret ?_
  exact r_rets (rs := [.cell 2 23, .cell 3 24]) rfl (.cons (.cell 3 .here rfl rfl (by first | rfl | (simp only [Pth.off, T.size]; omega)) ok_here tx0) (.cons (.cell 1 .here rfl rfl (by first | rfl | (simp only [Pth.off, T.size]; omega)) ok_here ty24) (.nil))) rfl (fun _ vs g => by cases g with | cons h0 g => cases g with | cons h1 g => cases g; exact ⟨_, rfl, .cons (raw_self h0) (.cons h1 (.nil))⟩) (fun _ vs g => by cases g with | cons h0 g => cases g with | cons h1 g => cases g; rw [raw_eq h0]; exact (.cons_cons _ (.cons _ (.cons _ (.cons _ .slnil)))))
 refine zy <| y (y_makefn rfl rfl) rfl ?_
 refine r_defer rfl ?_
 refine za <| bX h fun k4 hk4 h => ?_
 refine r_joink (γ := Value) (fun (o5 : (List (Int × (Int × Int × List (List (Int)) × List (List (Int)) × Int × Int × Unit) × (Int × Int × (Int × Int × Int × Int × List (Int) × List Int × List Int × (List (List Int × Int × Int × List Int × Unit)) × Unit) × Unit) × Int × Int × Unit))) g6 => [(2, ptr b1 0), (3, ptr b2 0)]) (fun (o5 : (List (Int × (Int × Int × List (List (Int)) × List (List (Int)) × Int × Int × Unit) × (Int × Int × (Int × Int × Int × Int × List (Int) × List Int × List Int × (List (List Int × Int × Int × List Int × Unit)) × Unit) × Unit) × Int × Int × Unit))) g6 => [Res.var b2 24 (.int .i64) 0, Res.own g6 55 Y55 o5, Res.var b1 23 (.raw (.slice none 0 0)) g6]) k4 o ?_ ?_
 ·refine zu <| p 1 [2,3,10] rfl <| cB h fun r7 hr7 h => rcTK hT [] (strings_Split_ok a0 [10] _ hr7) (by kernel_rfl) rfl rfl rfl fun _ => ?_
  refine q 2 [(11, .one (.sl 9 .str) r7), (12, ti (List.length r7 : Int)), (13, ti 0)] [2,3] rfl <| za <| zb <| r_less [2,3,11,12,13] rfl <| r_loopg (γ := Value) (fun (s11 : Int × (List (Int × (Int × Int × List (List (Int)) × List (List (Int)) × Int × Int × Unit) × (Int × Int × (Int × Int × Int × Int × List (Int) × List Int × List Int × (List (List Int × Int × Int × List Int × Unit)) × Unit) × Unit) × Int × Int × Unit))) g12 => [(2, ptr b1 0), (3, ptr b2 0), (11, .one (.sl 9 .str) r7), (12, ti (List.length r7 : Int)), (13, ti s11.1)]) (fun (s11 : Int × (List (Int × (Int × Int × List (List (Int)) × List (List (Int)) × Int × Int × Unit) × (Int × Int × (Int × Int × Int × Int × List (Int) × List Int × List Int × (List (List Int × Int × Int × List Int × Unit)) × Unit) × Unit) × Int × Int × Unit))) g12 => [Res.var b2 24 (.int .i64) 0, Res.own g12 55 Y55 s11.2, Res.var b1 23 (.raw (.slice none 0 0)) g12]) (script_Parse_in_l0 k4 r7) (0, []) (.slice none 0 0) h rfl rfl ?_
  clear h
  intro m13 s11 g12 h
  cases m13 with
  | zero => cases h
  | succ m13 =>
  simp only [script_Parse_in_l0] at h
  refine zu <| q 1 [(13, ti s11.1), (14, tb (decide (s11.1 < (List.length r7 : Int))))] [2,3,11,12] rfl <| za <| zs <| rI h rfl (fun hc h => ?_) fun hc h => ?_
  ·refine zk <| zt <| bX h fun k14 hk14 h => ?_
   refine r_joink (γ := Value) (fun (o15 : (List (Int × (Int × Int × List (List (Int)) × List (List (Int)) × Int × Int × Unit) × (Int × Int × (Int × Int × Int × Int × List (Int) × List Int × List Int × (List (List Int × Int × Int × List Int × Unit)) × Unit) × Unit) × Int × Int × Unit))) g16 => [(2, ptr b1 0), (3, ptr b2 0), (11, .one (.sl 9 .str) r7), (12, ti (List.length r7 : Int)), (13, ti s11.1)]) (fun (o15 : (List (Int × (Int × Int × List (List (Int)) × List (List (Int)) × Int × Int × Unit) × (Int × Int × (Int × Int × Int × Int × List (Int) × List Int × List Int × (List (List Int × Int × Int × List Int × Unit)) × Unit) × Unit) × Int × Int × Unit))) g16 => [Res.var b2 24 (.int .i64) 0, Res.own g16 55 Y55 o15, Res.var b1 23 (.raw (.slice none 0 0)) g16]) k14 o ?_ ?_
   ·refine zb <| zu <| iE h fun hc h => y (y_iref tabOk rfl rfl hc.1 hc.2 rfl ty9) rfl ?_
    refine y (y_ref rfl ty9) rfl ?_
    refine q 1 [(5, ts (List.getD r7 (Int.toNat s11.1) []))] [2,3,11,12,13] rfl ?_
    obtain ⟨s17, e, h⟩ := bnd_ex h; rw [e]
    refine za <| zs <| zu <| q 3 [(5, ts s17), (19, tb (s17 == []))] [2,3,11,12,13] rfl ?_
    obtain ⟨b18, e, h⟩ := bnd_ex h; rw [e]
    refine bX h fun k19 hk19 h => ?_
    refine r_lsplitk (γ := Unit) 4 (fun (o20 : Bool) _ => [(2, ptr b1 0), (3, ptr b2 0), (5, ts s17), (11, .one (.sl 9 .str) r7), (12, ti (List.length r7 : Int)), (13, ti s11.1), (23, tb o20)]) (fun _ _ => [Res.var b2 24 (.int .i64) 0, Res.own g12 55 Y55 s11.2, Res.var b1 23 (.raw (.slice none 0 0)) g12]) k19 o ?_ ?_
    ·rcases Bool.eq_false_or_eq_true b18 with hh | hh
     ·rw [hh] at h ⊢
      rw [if_pos rfl] at h
      exact p 4 [2,3,5,11,12,13,23] rfl <| zn <| r_less [2,3,5,11,12,13,23] rfl <| zt <| by exact r_meetk true () h rfl rfl
     rw [hh] at h ⊢
     rw [if_neg (by decide)] at h
     refine p 1 [2,3,5,11,12,13,19,20] rfl <| r_guard (by rfl) rfl ?_
     refine iE h fun hc h => y (y_byte tabOk rfl rfl hc.1 hc.2 rfl) rfl ?_
     exact q 2 [(23, tb ((List.getD s17 0 0) == 35))] [2,3,5,11,12,13] rfl <| zn <| r_less [2,3,5,11,12,13,23] rfl <| zt <| by exact r_meetk ((List.getD s17 0 0) == 35) () h rfl rfl
    intro o20 _ h
    rw [← hk19] at h
    try dsimp only at h
    refine za <| rI h rfl (fun hc h => zx <| ze <| zq <| zt <| r_less [2,3,11,12,13] rfl <| by exact r_meetk s11.2 g12 h rfl rfl) fun hc h => zy <| p 1 [2,3,11,12,13,24] rfl <| cB h fun or21 hr21 h => rcETK hT [] (script_words_ok s17 _ hr21) h (by kernel_rfl) rfl rfl rfl (KC.of 2 3 23 24 b1 b2 2 0 rfl rfl rfl rfl rfl rfl rfl) fun r21 h v22 => ?_
    refine r_freeze (i := 0) (k := 25) rfl rfl ?_
    refine y (y_build rfl zf73 rfl rfl (.cons ((.fst .here)) rfl rfl ok_here .nil)) rfl ?_
    refine r_box rfl rfl fun b23 => p 1 [2,3,6,11,12,13] rfl <| za <| zs <| r_any (by kernel_rfl) ?_
    refine a_two (i := 0) (j := 1) (by kernel_rfl) rfl rfl ?_ ?_
    ·refine yl 3 .here tx0 rfl rfl rfl trivial rfl <| za <| r_less [2,3,6,11,12,13,28] rfl <| a_one (i := 1) (by kernel_rfl) rfl ?_
     refine p 1 [2,3,6,11,12,13,28,29] rfl <| za <| r_less [2,3,6,11,12,13,28,29] rfl <| a_one (i := 2) (by kernel_rfl) rfl ?_
     refine cB h fun or24 hr24 h => rcETK hT [0] (script_reader_command_ok b23 (r21, ()) _ hr24) h (by kernel_rfl) rfl rfl rfl (KC.of 2 3 23 24 b1 b2 2 0 rfl rfl rfl rfl rfl rfl rfl) fun r24 h _ => ?_
     refine za <| r_less [2,3,6,11,12,13,28,30] rfl <| a_one (i := 3) (by kernel_rfl) rfl ?_
     refine r_lits (B := 320) tabOk rfl el55 rfl rfl rfl (.cons rfl .nil) rfl fun v25 => ?_
     refine za <| r_less [2,3,6,11,12,13,28,31] rfl <| a_one (i := 4) (by kernel_rfl) rfl ?_
     refine iE h fun hc h => r_append (B := 320) tabOk 3 rfl rfl (src_own 0 rfl rfl) rfl el55 rfl rfl hc rfl fun v26 => ?_
     refine pk [1,1,1,1] rfl <| za <| r_less [2,3,6,11,12,13,32] rfl <| a_one (i := 5) (by kernel_rfl) rfl ?_
     refine st 3 .here tx0 rfl rfl rfl rfl trivial <| za <| r_less [2,3,6,11,12,13] rfl <| a_end (by kernel_rfl) ?_
     refine zt <| zu <| p 3 [2,3,11,12,13,35] rfl <| yl 0 ((.fst .here)) ty70 rfl rfl rfl trivial rfl <| q 2 [(38, tb (decide ((List.length r24.2.1 : Int) > 0)))] [2,3,11,12,13] rfl <| za <| rI h rfl (fun hc h => ?_) fun hc h => ?_
     ·refine zu <| r_nilown (.slice none 0 0) rfl 55 Y55 ?_
      refine st 4 .here tx0 rfl rfl rfl rfl trivial <| st 2 .here ty24 rfl rfl rfl rfl trivial <| zf <| zB <| zT <| zT <| zB <| zT ?_
      cases h
      refine d_is ?_
      refine d_back ?_
      exact r_rets (rs := [.cell 2 23, .cell 3 24]) rfl (.cons (.cell 4 .here rfl rfl (by first | rfl | (simp only [Pth.off, T.size]; omega)) ok_here tx0) (.cons (.cell 2 .here rfl rfl (by first | rfl | (simp only [Pth.off, T.size]; omega)) ok_here ty24) (.nil))) rfl (fun _ vs g => by cases g with | cons h0 g => cases g with | cons h1 g => cases g; exact ⟨_, rfl, .cons (raw_self h0) (.cons h1 (.nil))⟩) (fun _ vs g => by cases g with | cons h0 g => cases g with | cons h1 g => cases g; rw [raw_eq h0]; exact (.cons_cons _ (.cons _ (.cons _ (.cons _ (.cons _ .slnil))))))
     exact zk <| zi <| zt <| pk [1,1,1] rfl <| r_less [2,3,11,12,13] rfl <| by exact r_meetk (s11.2 ++ [r24.1]) v26 h rfl rfl
    refine p 1 [2,3,6,11,12,13,29] rfl <| za <| r_less [2,3,6,11,12,13,29] rfl ?_
    refine a_two (i := 0) (j := 2) (by kernel_rfl) rfl rfl ?_ ?_
    ·refine yl 3 .here tx0 rfl rfl rfl trivial rfl <| za <| r_less [2,3,6,11,12,13,28,29] rfl <| a_one (i := 2) (by kernel_rfl) rfl ?_
     refine cB h fun or24 hr24 h => rcETK hT [0] (script_reader_command_ok b23 (r21, ()) _ hr24) h (by kernel_rfl) rfl rfl rfl (KC.of 2 3 23 24 b1 b2 2 0 rfl rfl rfl rfl rfl rfl rfl) fun r24 h _ => ?_
     refine za <| r_less [2,3,6,11,12,13,28,30] rfl <| a_one (i := 3) (by kernel_rfl) rfl ?_
     refine r_lits (B := 320) tabOk rfl el55 rfl rfl rfl (.cons rfl .nil) rfl fun v25 => ?_
     refine za <| r_less [2,3,6,11,12,13,28,31] rfl <| a_one (i := 4) (by kernel_rfl) rfl ?_
     refine iE h fun hc h => r_append (B := 320) tabOk 3 rfl rfl (src_own 0 rfl rfl) rfl el55 rfl rfl hc rfl fun v26 => ?_
     refine pk [1,1,1,1] rfl <| za <| r_less [2,3,6,11,12,13,32] rfl <| a_one (i := 5) (by kernel_rfl) rfl ?_
     refine st 3 .here tx0 rfl rfl rfl rfl trivial <| za <| r_less [2,3,6,11,12,13] rfl <| a_end (by kernel_rfl) ?_
     refine zt <| zu <| p 3 [2,3,11,12,13,35] rfl <| yl 0 ((.fst .here)) ty70 rfl rfl rfl trivial rfl <| q 2 [(38, tb (decide ((List.length r24.2.1 : Int) > 0)))] [2,3,11,12,13] rfl <| za <| rI h rfl (fun hc h => ?_) fun hc h => ?_
     ·refine zu <| r_nilown (.slice none 0 0) rfl 55 Y55 ?_
      refine st 4 .here tx0 rfl rfl rfl rfl trivial <| st 2 .here ty24 rfl rfl rfl rfl trivial <| zf <| zB <| zT <| zT <| zB <| zT ?_
      cases h
      refine d_is ?_
      refine d_back ?_
      exact r_rets (rs := [.cell 2 23, .cell 3 24]) rfl (.cons (.cell 4 .here rfl rfl (by first | rfl | (simp only [Pth.off, T.size]; omega)) ok_here tx0) (.cons (.cell 2 .here rfl rfl (by first | rfl | (simp only [Pth.off, T.size]; omega)) ok_here ty24) (.nil))) rfl (fun _ vs g => by cases g with | cons h0 g => cases g with | cons h1 g => cases g; exact ⟨_, rfl, .cons (raw_self h0) (.cons h1 (.nil))⟩) (fun _ vs g => by cases g with | cons h0 g => cases g with | cons h1 g => cases g; rw [raw_eq h0]; exact (.cons_cons _ (.cons _ (.cons _ (.cons _ (.cons _ .slnil))))))
     exact zk <| zi <| zt <| pk [1,1,1] rfl <| r_less [2,3,11,12,13] rfl <| by exact r_meetk (s11.2 ++ [r24.1]) v26 h rfl rfl
    refine cB h fun or24 hr24 h => rcETK hT [0] (script_reader_command_ok b23 (r21, ()) _ hr24) h (by kernel_rfl) rfl rfl rfl (KC.of 2 3 23 24 b1 b2 2 0 rfl rfl rfl rfl rfl rfl rfl) fun r24 h _ => ?_
    refine za <| r_less [2,3,6,11,12,13,30] rfl ?_
    refine a_two (i := 0) (j := 3) (by kernel_rfl) rfl rfl ?_ ?_
    ·refine yl 3 .here tx0 rfl rfl rfl trivial rfl <| za <| r_less [2,3,6,11,12,13,28,30] rfl <| a_one (i := 3) (by kernel_rfl) rfl ?_
     refine r_lits (B := 320) tabOk rfl el55 rfl rfl rfl (.cons rfl .nil) rfl fun v25 => ?_
     refine za <| r_less [2,3,6,11,12,13,28,31] rfl <| a_one (i := 4) (by kernel_rfl) rfl ?_
     refine iE h fun hc h => r_append (B := 320) tabOk 3 rfl rfl (src_own 0 rfl rfl) rfl el55 rfl rfl hc rfl fun v26 => ?_
     refine pk [1,1,1,1] rfl <| za <| r_less [2,3,6,11,12,13,32] rfl <| a_one (i := 5) (by kernel_rfl) rfl ?_
     refine st 3 .here tx0 rfl rfl rfl rfl trivial <| za <| r_less [2,3,6,11,12,13] rfl <| a_end (by kernel_rfl) ?_
     refine zt <| zu <| p 3 [2,3,11,12,13,35] rfl <| yl 0 ((.fst .here)) ty70 rfl rfl rfl trivial rfl <| q 2 [(38, tb (decide ((List.length r24.2.1 : Int) > 0)))] [2,3,11,12,13] rfl <| za <| rI h rfl (fun hc h => ?_) fun hc h => ?_
     ·refine zu <| r_nilown (.slice none 0 0) rfl 55 Y55 ?_
      refine st 4 .here tx0 rfl rfl rfl rfl trivial <| st 2 .here ty24 rfl rfl rfl rfl trivial <| zf <| zB <| zT <| zT <| zB <| zT ?_
      cases h
      refine d_is ?_
      refine d_back ?_
      exact r_rets (rs := [.cell 2 23, .cell 3 24]) rfl (.cons (.cell 4 .here rfl rfl (by first | rfl | (simp only [Pth.off, T.size]; omega)) ok_here tx0) (.cons (.cell 2 .here rfl rfl (by first | rfl | (simp only [Pth.off, T.size]; omega)) ok_here ty24) (.nil))) rfl (fun _ vs g => by cases g with | cons h0 g => cases g with | cons h1 g => cases g; exact ⟨_, rfl, .cons (raw_self h0) (.cons h1 (.nil))⟩) (fun _ vs g => by cases g with | cons h0 g => cases g with | cons h1 g => cases g; rw [raw_eq h0]; exact (.cons_cons _ (.cons _ (.cons _ (.cons _ (.cons _ .slnil))))))
     exact zk <| zi <| zt <| pk [1,1,1] rfl <| r_less [2,3,11,12,13] rfl <| by exact r_meetk (s11.2 ++ [r24.1]) v26 h rfl rfl
    refine r_lits (B := 320) tabOk rfl el55 rfl rfl rfl (.cons rfl .nil) rfl fun v25 => ?_
    refine za <| r_less [2,3,6,11,12,13,31] rfl <| a_one (i := 0) (by kernel_rfl) rfl ?_
    refine yl 4 .here tx0 rfl rfl rfl trivial rfl <| za <| r_less [2,3,6,11,12,13,28,31] rfl <| a_one (i := 4) (by kernel_rfl) rfl ?_
    refine iE h fun hc h => r_append (B := 320) tabOk 3 rfl rfl (src_own 0 rfl rfl) rfl el55 rfl rfl hc rfl fun v26 => ?_
    refine pk [1,1,1,1] rfl <| za <| r_less [2,3,6,11,12,13,32] rfl <| a_one (i := 5) (by kernel_rfl) rfl ?_
    refine st 3 .here tx0 rfl rfl rfl rfl trivial <| za <| r_less [2,3,6,11,12,13] rfl <| a_end (by kernel_rfl) ?_
    refine zt <| zu <| p 3 [2,3,11,12,13,35] rfl <| yl 0 ((.fst .here)) ty70 rfl rfl rfl trivial rfl <| q 2 [(38, tb (decide ((List.length r24.2.1 : Int) > 0)))] [2,3,11,12,13] rfl <| za <| rI h rfl (fun hc h => ?_) fun hc h => ?_
    ·refine zu <| r_nilown (.slice none 0 0) rfl 55 Y55 ?_
     refine st 4 .here tx0 rfl rfl rfl rfl trivial <| st 2 .here ty24 rfl rfl rfl rfl trivial <| zf <| zB <| zT <| zT <| zB <| zT ?_
     cases h
     refine d_is ?_
     refine d_back ?_
     exact r_rets (rs := [.cell 2 23, .cell 3 24]) rfl (.cons (.cell 4 .here rfl rfl (by first | rfl | (simp only [Pth.off, T.size]; omega)) ok_here tx0) (.cons (.cell 2 .here rfl rfl (by first | rfl | (simp only [Pth.off, T.size]; omega)) ok_here ty24) (.nil))) rfl (fun _ vs g => by cases g with | cons h0 g => cases g with | cons h1 g => cases g; exact ⟨_, rfl, .cons (raw_self h0) (.cons h1 (.nil))⟩) (fun _ vs g => by cases g with | cons h0 g => cases g with | cons h1 g => cases g; rw [raw_eq h0]; exact (.cons_cons _ (.cons _ (.cons _ (.cons _ (.cons _ .slnil))))))
    exact zk <| zi <| zt <| pk [1,1,1] rfl <| r_less [2,3,11,12,13] rfl <| by exact r_meetk (s11.2 ++ [r24.1]) v26 h rfl rfl
   intro o15 g16 h
   rw [← hk14] at h
   try dsimp only at h
   exact zr <| q 2 [(13, ti (IntKind.wrap .i64 (s11.1 + 1)))] [2,3,11,12] rfl <| za <| r_less [2,3,11,12,13] rfl <| by exact r_backg ((IntKind.wrap .i64 (s11.1 + 1)), o15) g16 (Nat.lt_succ_self _) h rfl rfl
  exact zx <| ze <| ze <| zq <| zt <| r_less [2,3] rfl <| by exact r_meetk s11.2 g12 h rfl rfl
 intro o5 g6 h
 rw [← hk4] at h
 try dsimp only at h
 refine zu <| yl 2 .here tx0 rfl rfl rfl trivial rfl <| st 2 .here tx0 rfl rfl rfl rfl trivial <| st 0 .here ty24 rfl rfl rfl rfl trivial <| zf ?_
 cases h
 refine d_is ?_
 refine d_back ?_
 exact r_rets (rs := [.cell 2 23, .cell 3 24]) rfl (.cons (.cell 2 .here rfl rfl (by first | rfl | (simp only [Pth.off, T.size]; omega)) ok_here tx0) (.cons (.cell 0 .here rfl rfl (by first | rfl | (simp only [Pth.off, T.size]; omega)) ok_here ty24) (.nil))) rfl (fun _ vs g => by cases g with | cons h0 g => cases g with | cons h1 g => cases g; exact ⟨_, rfl, .cons (raw_self h0) (.cons h1 (.nil))⟩) (fun _ vs g => by cases g with | cons h0 g => cases g with | cons h1 g => cases g; rw [raw_eq h0]; exact (.cons _ (.cons_cons _ (.cons _ .slnil))))

theorem script_line_word_ok (p0 : Value) (a0 : List (List Int) × Unit) (a1 : List (List Int)) (r : (List (List Int) × Unit)) (h : script_line_word a0 a1 = some r) : Fn Tryd.prog 62 [tp p0, .one (.sl 9 .str) a1] [Res.cls Cline p0 a0] (fun _ => .tup []) (fun _ => [Res.cls Cline p0 r]) := by
 unfold script_line_word at h
 refine enter Tryd.func62 rfl 13 rfl rfl fun F => ?_
 refine r_unCline fun b2 sv1 hp => ?_
 subst hp
 refine r_Cline (x := a0) ?_
 refine r_unClineb fun sv3 => ?_
 refine zr <| p 4 [1,4,7] rfl <| yl 0 ((.fst .here)) tx1 rfl rfl rfl trivial rfl <| p 1 [4,8,9] rfl <| iE h fun hc h => r_append (B := 16) tabOk 1 rfl rfl (src_sl rfl) rfl el9 rfl rfl hc rfl fun v4 => ?_
 refine p 2 [10,12] rfl <| st 0 ((.fst .here)) tx1 rfl rfl rfl rfl trivial <| zn <| r_Cline (x := ((a0.1 ++ a1), a0.2)) ?_
 cases h
 exact r_end0 rfl (fun _ => tup_ok [] .nil) ((.cons_cons _ .slnil))

theorem script_line_number_ok (p0 : Value) (a0 : List (List Int) × Unit) (a1 : Int) (r : (List (List Int) × Unit)) (h : script_line_number a0 a1 = some r) : FnT Tryd.prog tabs 63 [tp p0, ti a1] [Res.cls Cline p0 a0] (fun _ => .tup []) (fun _ => [Res.cls Cline p0 r]) := by
 unfold script_line_number at h
 refine enterT Tryd.func63 rfl 9 rfl rfl fun F hT => ?_
 refine r_unCline fun b2 sv1 hp => ?_
 subst hp
 refine r_Cline (x := a0) ?_
 refine zr <| p 2 [4,5] rfl <| cB h fun r3 hr3 h => rcT hT [] (strconv_FormatInt_ok _ _ _ hr3) (by kernel_rfl) rfl rfl rfl fun _ => r_lits (B := 16) tabOk rfl el9 rfl rfl rfl (.cons rfl .nil) rfl fun v4 => ?_
 refine r_freeze (i := 0) (k := 7) rfl rfl ?_
 refine cB h fun r5 hr5 h => rc [0] (script_line_word_ok _ _ _ _ hr5) (by kernel_rfl) rfl rfl rfl fun _ => zn ?_
 cases h
 exact r_end0 rfl (fun _ => tup_ok [] .nil) ((.cons_cons _ .slnil))

theorem strings_Builder_WriteByte_ok (p0 : Value) (a0 : List Int) (a1 : Int) (r : Value × List Int) (h : strings_Builder_WriteByte a0 a1 = some r) : Fn Tryd.prog 40 [tp p0, .one (.int .u8) a1] [Res.cls (CBld 92 5) p0 a0] (fun _ => .one (.raw .nilIface) r.1) (fun _ => [Res.cls (CBld 92 5) p0 r.2]) := by
 unfold strings_Builder_WriteByte at h
 obtain ⟨hc, h⟩ := ite_ex h; cases h
 refine enter Tryd.func40 rfl 17 rfl rfl fun F => r_unbld fun b q sv hp hq => ?_
 subst hp
 repeat (first | refine zs ?_ | refine zr ?_)
 refine p 1 [0,1] rfl <| za ?_
 repeat (first | refine zs ?_ | refine zr ?_)
 refine p 1 [0,1,5] rfl <| rc [0] (cc_fn Go.Proofs.Tryd.cc_used Go.Proofs.Tryd.cc_fresh hq) (by kernel_rfl) rfl rfl rfl fun _ => za ?_
 repeat (first | refine zs ?_ | refine zr ?_)
 refine p 4 [0,1,7,10] rfl ?_
 refine y (y_load 0 (.snd (.fst .here)) rfl rfl (by first | rfl | (simp only [Pth.off, T.size]; omega)) (ok_snd (ok_fst ok_here)) tx2) rfl ?_
 refine p 1 [0,7,11,12] rfl ?_
 refine r_lits (B := 1) tabOk rfl el5 rfl rfl rfl (.cons rfl .nil) rfl fun v1 => ?_
 refine r_append (B := 1) tabOk 2 rfl rfl (src_own 0 rfl rfl) rfl el5 rfl rfl (by simp only [List.length_cons, List.length_nil]; omega) rfl fun v2 => ?_
 refine pk [1,1] rfl <| p 2 [14,16] rfl ?_
 refine r_storeraw 0 (.snd (.fst .here)) rfl rfl rfl (by first | rfl | (simp only [Pth.off, T.size]; omega)) rfl rfl tx2 ?_
 refine za ?_
 repeat (first | refine zs ?_ | refine zr ?_)
 refine p 1 [4] rfl <| zf <| r_bld (.inr rfl) (by simp) ?_
 exact r_ret1 rfl (.tmp rfl) (fun _ _ g => g) (fun _ _ _ => (.cons_cons _ .slnil))

theorem strings_Builder_String_ok (p0 : Value) (a0 : List Int) : Fn Tryd.prog 41 [tp p0] [Res.cls (CBldR 92 5) p0 a0] (fun _ => ts a0) (fun _ => [Res.cls (CBldR 92 5) p0 a0]) := str_fn Go.Proofs.Tryd.bstr Go.Proofs.Tryd.bstr0

theorem script_Hex_ok (a0 : List (Int)) (r : List Int) (h : script_Hex a0 = some r) : Pure Tryd.prog 19 [.one (.arr 32 (.int .u8)) a0] (ts r) := by
 unfold script_Hex at h
 refine enter Tryd.func19 rfl 20 rfl rfl fun F => ?_
 refine zu <| r_box rfl rfl fun b1 => p 1 [1] rfl <| zz <| r_alloc (t := BT) rfl zf92 rfl fun b2 => r_newbld (e := 5) ?_
 refine za <| jK h (γ := Unit) (fun (o4 : List Int) _ => [(3, tp (.pointer (some ⟨b2, 0, none⟩)))]) (fun (o4 : List Int) _ => [Res.cls (CBld 92 5) (.pointer (some ⟨b2, 0, none⟩)) o4, Res.var b1 34 (.arr 32 (.int .u8)) a0]) (fun k3 h => ?_) fun o4 gg h => ?_
 ·refine zu <| yl 1 .here ty34 rfl rfl rfl trivial rfl <| p 1 [3,6,7] rfl <| za <| zb <| r_less [3,6,7] rfl <| r_loopg (γ := Unit) (fun (s7 : Int × List Int) _ => [(3, tp (.pointer (some ⟨b2, 0, none⟩))), (6, .one (.arr 32 (.int .u8)) a0), (7, ti s7.1)]) (fun (s7 : Int × List Int) _ => [Res.cls (CBld 92 5) (.pointer (some ⟨b2, 0, none⟩)) s7.2, Res.var b1 34 (.arr 32 (.int .u8)) a0]) (script_Hex_l0 a0 k3) (0, []) () h rfl rfl ?_
  clear h
  intro m8 s7 gg h
  cases m8 with
  | zero => cases h
  | succ m8 =>
  simp only [script_Hex_l0] at h
  refine zu <| q 1 [(7, ti s7.1), (8, tb (decide (s7.1 < 32)))] [3,6] rfl <| za <| zs <| rI h rfl (fun hc h => ?_) fun hc h => ?_
  ·refine zk <| zt <| zs <| zb <| zu <| iE h fun hc h => y (y_elem rfl rfl hc.1 hc.2 un34 ty5) rfl ?_
   refine q 1 [(5, .one (.int .u8) (List.getD a0 (Int.toNat s7.1) 0))] [3,6,7] rfl ?_
   obtain ⟨c9, e, h⟩ := bnd_ex h; rw [e]
   refine zz <| p 2 [3,5,6,7,11] rfl <| iE h fun hc h => y (y_byte tabOk rfl rfl hc.1 hc.2 rfl) rfl ?_
   refine cB h fun r10 hr10 h => rc [0] (strings_Builder_WriteByte_ok _ _ _ _ hr10) (by kernel_rfl) rfl rfl rfl fun _ => za <| zr <| p 2 [3,6,7,15] rfl <| iE h fun hc h => y (y_byte tabOk rfl rfl hc.1 hc.2 rfl) rfl ?_
   exact cB h fun r11 hr11 h => rc [0] (strings_Builder_WriteByte_ok _ _ _ _ hr11) (by kernel_rfl) rfl rfl rfl fun _ => zn <| zi <| zt <| zr <| q 2 [(7, ti (IntKind.wrap .i64 (s7.1 + 1)))] [3,6] rfl <| za <| r_less [3,6,7] rfl <| by exact r_backg ((IntKind.wrap .i64 (s7.1 + 1)), r11.2) () (Nat.lt_succ_self _) h rfl rfl
  exact zx <| ze <| ze <| zq <| zt <| r_less [3] rfl <| by exact r_meetk s7.2 () h rfl rfl
 refine zu <| r_imp_at (R' := Res.cls (CBldR 92 5) (.pointer (some ⟨b2, 0, none⟩)) o4) 0 rfl bld_read <| rc [0] (strings_Builder_String_ok _ _) (by kernel_rfl) rfl rfl rfl fun _ => p 1 [2] rfl <| zf ?_
 cases h
 exact r_ret1 rfl (.tmp rfl) (fun _ _ g => g) (fun _ _ _ => List.nil_sublist _)

theorem strings_Builder_WriteString_ok (p0 : Value) (a0 : List Int) (a1 : List Int) (r : Int × Value × List Int) (h : strings_Builder_WriteString a0 a1 = some r) : Fn Tryd.prog 38 [tp p0, ts a1] [Res.cls (CBld 92 5) p0 a0] (fun _ => .tup [⟨.int .i64, r.1⟩, ⟨.raw .nilIface, r.2.1⟩]) (fun _ => [Res.cls (CBld 92 5) p0 r.2.2]) := by
 unfold strings_Builder_WriteString at h
 obtain ⟨⟨hne, hc⟩, h⟩ := ite_ex h; cases h
 refine enter Tryd.func38 rfl 19 rfl rfl fun F => r_unbld fun b q sv hp hq => ?_
 subst hp
 repeat (first | refine zs ?_ | refine zr ?_)
 refine p 2 [0,1] rfl <| za ?_
 repeat (first | refine zs ?_ | refine zr ?_)
 refine p 1 [0,1,6] rfl <| rc [0] (cc_fn Go.Proofs.Tryd.cc_used Go.Proofs.Tryd.cc_fresh hq) (by kernel_rfl) rfl rfl rfl fun _ => za ?_
 repeat (first | refine zs ?_ | refine zr ?_)
 refine p 4 [0,1,8,11] rfl ?_
 refine y (y_load 0 (.snd (.fst .here)) rfl rfl (by first | rfl | (simp only [Pth.off, T.size]; omega)) (ok_snd (ok_fst ok_here)) tx2) rfl ?_
 refine p 1 [0,1,8,12,13] rfl ?_
 refine r_append (B := 1) tabOk 1 rfl rfl (src_str rfl) rfl el5 rfl rfl (by omega) rfl fun v2 => ?_
 refine p 2 [1,14,16] rfl ?_
 refine r_storeraw 0 (.snd (.fst .here)) rfl rfl rfl (by first | rfl | (simp only [Pth.off, T.size]; omega)) rfl rfl tx2 ?_
 refine za ?_
 repeat (first | refine zs ?_ | refine zr ?_)
 refine p 4 [4,5] rfl <| zf <| r_bld (.inr rfl) (by intro hx; exact hne (List.append_eq_nil_iff.1 hx).2) ?_
 exact r_rets (rs := [.tmp 4, .tmp 5]) rfl (.cons (.tmp rfl) (.cons (.tmp rfl) .nil)) rfl (fun _ vs g => tup_ok vs g) (fun _ _ _ => (.cons_cons _ .slnil))

theorem script_Quote_ok (a0 : List Int) (r : List Int) (h : script_Quote a0 = some r) : Pure Tryd.prog 17 [ts a0] (ts r) := by
 unfold script_Quote at h
 refine enter Tryd.func17 rfl 44 rfl rfl fun F => ?_
 refine zu <| p 1 [0] rfl <| zz <| r_alloc (t := BT) rfl zf92 rfl fun b1 => r_newbld (e := 5) ?_
 refine zz <| cB h fun r2 hr2 h => rc [0] (strings_Builder_WriteByte_ok _ _ _ _ hr2) (by kernel_rfl) rfl rfl rfl fun _ => za <| jK h (γ := Unit) (fun (o4 : List Int) _ => [(3, tp (.pointer (some ⟨b1, 0, none⟩)))]) (fun (o4 : List Int) _ => [Res.cls (CBld 92 5) (.pointer (some ⟨b1, 0, none⟩)) o4]) (fun k3 h => ?_) fun o4 gg h => ?_
 ·refine zu <| q 3 [(3, tp (.pointer (some ⟨b1, 0, none⟩))), (8, ti (List.length a0 : Int)), (9, ti 0)] [0] rfl <| za <| zb <| r_less [0,3,8,9] rfl <| r_loopg (γ := Unit) (fun (s8 : Int × List Int) _ => [(0, ts a0), (3, tp (.pointer (some ⟨b1, 0, none⟩))), (8, ti (List.length a0 : Int)), (9, ti s8.1)]) (fun (s8 : Int × List Int) _ => [Res.cls (CBld 92 5) (.pointer (some ⟨b1, 0, none⟩)) s8.2]) (script_Quote_l0 a0 k3) (0, r2.2) () h rfl rfl ?_
  clear h
  intro m9 s8 gg h
  cases m9 with
  | zero => cases h
  | succ m9 =>
  simp only [script_Quote_l0] at h
  refine zu <| q 1 [(9, ti s8.1), (10, tb (decide (s8.1 < (List.length a0 : Int))))] [0,3,8] rfl <| za <| zs <| rI h rfl (fun hc h => ?_) fun hc h => ?_
  ·refine zk <| zt <| jK h (γ := Unit) (fun (o11 : List Int) _ => [(0, ts a0), (3, tp (.pointer (some ⟨b1, 0, none⟩))), (8, ti (List.length a0 : Int)), (9, ti s8.1)]) (fun (o11 : List Int) _ => [Res.cls (CBld 92 5) (.pointer (some ⟨b1, 0, none⟩)) o11]) (fun k10 h => ?_) fun o11 gg h => ?_
   ·refine zb <| zu <| q 2 [(4, ti s8.1)] [0,3,8,9] rfl <| zz <| q 2 [(12, ts a0), (13, ti s8.1)] [0,3,8,9] rfl <| iE h fun hc h => y (y_byte tabOk rfl rfl hc.1 hc.2 rfl) rfl ?_
    refine q 1 [(5, .one (.int .u8) (List.getD a0 (Int.toNat s8.1) 0))] [0,3,8,9] rfl ?_
    obtain ⟨c12, e, h⟩ := bnd_ex h; rw [e]
    refine za <| zb <| zs <| zb <| jK h (γ := Unit) (fun (o14 : List Int) _ => [(0, ts a0), (3, tp (.pointer (some ⟨b1, 0, none⟩))), (5, .one (.int .u8) c12), (8, ti (List.length a0 : Int)), (9, ti s8.1)]) (fun (o14 : List Int) _ => [Res.cls (CBld 92 5) (.pointer (some ⟨b1, 0, none⟩)) o14]) (fun k13 h => ?_) fun o14 gg h => ?_
    ·refine zb <| zs <| zb <| zs <| zs <| zu <| p 3 [0,3,5,8,9,18] rfl ?_
     obtain ⟨b16, e, h⟩ := bnd_ex h; rw [e]
     refine r_lsplit (γ := Unit) 3 (fun _ => [(0, ts a0), (3, tp (.pointer (some ⟨b1, 0, none⟩))), (5, .one (.int .u8) c12), (8, ti (List.length a0 : Int)), (9, ti s8.1), (21, tb (b16 || (c12 == 92)))]) (fun _ => [Res.cls (CBld 92 5) (.pointer (some ⟨b1, 0, none⟩)) s8.2]) ?_ (fun _ => ?_)
     ·clear h
      cases b16
      ·exact p 3 [0,3,5,8,9,21] rfl <| za <| by exact r_meetg () rfl rfl
      exact p 3 [0,3,5,8,9,21] rfl <| za <| by exact r_meetg () rfl rfl
     refine p 1 [0,3,5,8,9,15] rfl <| za <| rI h rfl (fun hc h => zx <| ze <| ze <| zq <| zt <| zr <| cB h fun r17 hr17 h => rc [0] (strings_Builder_WriteByte_ok _ _ _ _ hr17) (by kernel_rfl) rfl rfl rfl fun _ => zn <| zi <| zt <| r_less [0,3,5,8,9] rfl <| by exact r_meetk r17.2 () h rfl rfl) fun hc h => zy <| p 3 [0,3,5,8,9,25] rfl ?_
     obtain ⟨b18, e, h⟩ := bnd_ex h; rw [e]
     refine r_lsplit (γ := Unit) 3 (fun _ => [(0, ts a0), (3, tp (.pointer (some ⟨b1, 0, none⟩))), (5, .one (.int .u8) c12), (8, ti (List.length a0 : Int)), (9, ti s8.1), (28, tb (b18 && (decide (c12 ≤ 126))))]) (fun _ => [Res.cls (CBld 92 5) (.pointer (some ⟨b1, 0, none⟩)) s8.2]) ?_ (fun _ => ?_)
     ·clear h
      cases b18
      ·exact p 3 [0,3,5,8,9,28] rfl <| za <| by exact r_meetg () rfl rfl
      exact p 3 [0,3,5,8,9,28] rfl <| za <| by exact r_meetg () rfl rfl
     refine p 1 [0,3,5,8,9,22] rfl <| za <| rI h rfl (fun hc h => ?_) fun hc h => ?_
     ·refine zx <| ze <| e_ne rfl ?_
      exact ze <| zq <| zt <| r_less [0,3,5,8,9] rfl <| by exact r_meetk s8.2 () h rfl rfl
     refine zk <| zt <| zx <| e_ne rfl ?_
     refine ze <| e_ne rfl ?_
     refine ze <| zq <| zt <| zs <| zu <| cB h fun r19 hr19 h => rc [0] (strings_Builder_WriteString_ok _ _ _ _ hr19) (by kernel_rfl) rfl rfl rfl fun _ => zz <| p 2 [0,3,5,8,9,34] rfl <| iE h fun hc h => y (y_byte tabOk rfl rfl hc.1 hc.2 rfl) rfl ?_
     refine cB h fun r20 hr20 h => rc [0] (strings_Builder_WriteByte_ok _ _ _ _ hr20) (by kernel_rfl) rfl rfl rfl fun _ => za <| zr <| p 2 [0,3,8,9,38] rfl <| iE h fun hc h => y (y_byte tabOk rfl rfl hc.1 hc.2 rfl) rfl ?_
     exact cB h fun r21 hr21 h => rc [0] (strings_Builder_WriteByte_ok _ _ _ _ hr21) (by kernel_rfl) rfl rfl rfl fun _ => za <| zx <| zq <| zi <| zt <| r_less [0,3,8,9] rfl <| by exact r_meetk r21.2 () h rfl rfl
    refine zu <| q 1 [(0, ts a0), (3, tp (.pointer (some ⟨b1, 0, none⟩))), (8, ti (List.length a0 : Int)), (9, ti s8.1), (30, .one (.int .u8) c12)] [] rfl <| cB h fun r15 hr15 h => rc [0] (strings_Builder_WriteByte_ok _ _ _ _ hr15) (by kernel_rfl) rfl rfl rfl fun _ => za <| zx <| e_ne rfl ?_
    exact ze <| zq <| zi <| zt <| r_less [0,3,8,9] rfl <| by exact r_meetk r15.2 () h rfl rfl
   exact zr <| q 2 [(0, ts a0), (3, tp (.pointer (some ⟨b1, 0, none⟩))), (8, ti (List.length a0 : Int)), (9, ti (IntKind.wrap .i64 (s8.1 + 1)))] [] rfl <| za <| r_less [0,3,8,9] rfl <| by exact r_backg ((IntKind.wrap .i64 (s8.1 + 1)), o11) () (Nat.lt_succ_self _) h rfl rfl
  exact zx <| ze <| ze <| zq <| zt <| r_less [3] rfl <| by exact r_meetk s8.2 () h rfl rfl
 refine zu <| cB h fun r5 hr5 h => rc [0] (strings_Builder_WriteByte_ok _ _ _ _ hr5) (by kernel_rfl) rfl rfl rfl fun _ => zz <| r_imp_at (R' := Res.cls (CBldR 92 5) (.pointer (some ⟨b1, 0, none⟩)) r5.2) 0 rfl bld_read <| rc [0] (strings_Builder_String_ok _ _) (by kernel_rfl) rfl rfl rfl fun _ => q 1 [(2, ts r5.2)] [] rfl <| zf ?_
 cases h
 exact r_ret1 rfl (.tmp rfl) (fun _ _ g => g) (fun _ _ _ => List.nil_sublist _)

theorem script_line_fate_ok (p0 : Value) (a0 : List (List Int) × Unit) (a1 : List Int × Int × Int × List Int × Unit) (r : Option ((List (List Int) × Unit))) (h : script_line_fate a0 a1 = some r) : FnET Tryd.prog tabs 97 [tp p0, .one Y61 a1] [Res.cls Cline p0 a0] r (fun r _ => .tup []) (fun r _ => [Res.cls Cline p0 r]) NOTH := by
 unfold script_line_fate at h
 refine enterET Tryd.func97 rfl 42 rfl rfl fun F hT => ?_
 refine r_unCline fun b2 sv1 hp => ?_
 subst hp
 refine r_Cline (x := a0) ?_
 refine zu <| r_box rfl rfl fun b3 => za <| jK h (γ := Unit) (fun (o5 : (List (List Int) × Unit)) _ => [(0, ptr b2 0), (3, ptr b3 0)]) (fun (o5 : (List (List Int) × Unit)) _ => [Res.cls Cline (.pointer (some ⟨b2, 0, none⟩)) o5, Res.var b3 61 Y61 a1]) (fun k4 h => ?_) fun o5 gg h => ?_
 ·refine zu <| p 1 [0,3,4] rfl <| yl 0 ((.snd (.snd (.fst .here)))) ty3 rfl rfl rfl trivial rfl <| za <| zb <| zu <| q 2 [(5, ti a1.2.2.1), (8, tb (a1.2.2.1 == 0))] [0,3] rfl <| za <| rI h rfl (fun hc h => ?_) fun hc h => ?_
  ·refine zr <| p 1 [0,3,10] rfl <| r_lits (B := 16) tabOk rfl el9 rfl rfl rfl (.cons rfl .nil) rfl fun v13 => ?_
   refine r_freeze (i := 0) (k := 11) rfl rfl ?_
   exact cB h fun r14 hr14 h => rc [1] (script_line_word_ok _ _ _ _ hr14) (by kernel_rfl) rfl rfl rfl fun _ => zn <| zi <| zt <| r_less [0,3] rfl <| by exact r_meetk r14 () h rfl rfl
  refine zu <| q 2 [(13, tb (a1.2.2.1 == 1))] [0,3,5] rfl <| za <| rI h rfl (fun hc h => ?_) fun hc h => ?_
  ·refine zr <| p 1 [0,3,15] rfl <| r_lits (B := 16) tabOk rfl el9 rfl rfl rfl (.cons rfl .nil) rfl fun v15 => ?_
   refine r_freeze (i := 0) (k := 16) rfl rfl ?_
   exact cB h fun r16 hr16 h => rc [1] (script_line_word_ok _ _ _ _ hr16) (by kernel_rfl) rfl rfl rfl fun _ => zn <| zi <| zt <| r_less [0,3] rfl <| by exact r_meetk r16 () h rfl rfl
  refine zu <| q 2 [(18, tb (a1.2.2.1 == 2))] [0,3] rfl <| za <| rI h rfl (fun hc h => ?_) fun hc h => ?_
  ·refine zr <| p 1 [0,3,20] rfl <| r_lits (B := 16) tabOk rfl el9 rfl rfl rfl (.cons rfl .nil) rfl fun v17 => ?_
   refine r_freeze (i := 0) (k := 21) rfl rfl ?_
   exact cB h fun r18 hr18 h => rc [1] (script_line_word_ok _ _ _ _ hr18) (by kernel_rfl) rfl rfl rfl fun _ => zn <| zi <| zt <| r_less [0,3] rfl <| by exact r_meetk r18 () h rfl rfl
  refine zr <| y (y_build rfl zf65 rfl rfl .nil) rfl ?_
  refine y (y_iface rfl un65) rfl ?_
  exact r_panic (Option.some.inj h).symm rfl
 refine zu <| p 2 [0,3,23,24] rfl <| yl 1 ((.fst .here)) ty9 rfl rfl rfl trivial rfl <| cB h fun r6 hr6 h => r_calls (script_Quote_ok _ _ hr6) (by kernel_rfl) rfl rfl <| r_lits (B := 16) tabOk rfl el9 rfl rfl rfl (.cons rfl .nil) rfl fun v7 => ?_
 refine r_freeze (i := 0) (k := 27) rfl rfl ?_
 refine cB h fun r8 hr8 h => rc [0] (script_line_word_ok _ _ _ _ hr8) (by kernel_rfl) rfl rfl rfl fun _ => zz <| p 2 [0,3,29,30] rfl <| yl 1 ((.snd (.fst .here))) ty3 rfl rfl rfl trivial rfl <| cB h fun r9 hr9 h => rcT hT [0] (script_line_number_ok _ _ _ _ hr9) (by kernel_rfl) rfl rfl rfl fun _ => zz <| p 1 [0,3,33] rfl <| yl 1 ((.snd (.snd (.fst .here)))) ty3 rfl rfl rfl trivial rfl <| q 1 [(35, tb (a1.2.2.1 == 2))] [0,3] rfl <| za <| rI h rfl (fun hc h => ?_) fun hc h => ?_
 ·refine zr <| p 2 [36,37] rfl <| yl 1 ((.snd (.snd (.snd (.fst .here))))) ty9 rfl rfl rfl trivial rfl <| cB h fun r10 hr10 h => r_calls (script_Quote_ok _ _ hr10) (by kernel_rfl) rfl rfl <| r_lits (B := 16) tabOk rfl el9 rfl rfl rfl (.cons rfl .nil) rfl fun v11 => ?_
  refine r_freeze (i := 0) (k := 40) rfl rfl ?_
  refine cB h fun r12 hr12 h => rc [0] (script_line_word_ok _ _ _ _ hr12) (by kernel_rfl) rfl rfl rfl fun _ => zn ?_
  cases h
  refine xN ?_
  exact r_end0 rfl (fun _ => tup_ok [] .nil) ((.cons_cons _ (.cons _ .slnil)))
 refine zk ?_
 cases h
 refine xN ?_
 exact r_end0 rfl (fun _ => tup_ok [] .nil) ((.cons_cons _ (.cons _ .slnil)))

theorem script_line_step_ok (p0 : Value) (a0 : List (List Int) × Unit) (a1 : Int × Int × Int × Int × List (Int) × List Int × List Int × (List (List Int × Int × Int × List Int × Unit)) × Unit) (r : Option ((List (List Int) × Unit))) (h : script_line_step a0 a1 = some r) : FnET Tryd.prog tabs 86 [tp p0, .one Y48 a1] [Res.cls Cline p0 a0] r (fun r _ => .tup []) (fun r _ => [Res.cls Cline p0 r]) NOTH := by
 unfold script_line_step at h
 refine enterET Tryd.func86 rfl 111 rfl rfl fun F hT => ?_
 refine r_unCline fun b2 sv1 hp => ?_
 subst hp
 refine r_Cline (x := a0) ?_
 refine zu <| r_box rfl rfl fun b3 => zz <| p 1 [0,3,7] rfl <| yl 0 ((.fst .here)) ty3 rfl rfl rfl trivial rfl <| za <| zb <| zu <| q 2 [(8, ti a1.1), (20, tb (a1.1 == 1))] [0,3] rfl <| za <| rI h rfl (fun hc h => ?_) fun hc h => ?_
 ·refine zu <| p 1 [0,3,22] rfl <| r_lits (B := 16) tabOk rfl el9 rfl rfl rfl (.cons rfl .nil) rfl fun v4 => ?_
  refine r_freeze (i := 0) (k := 23) rfl rfl ?_
  refine cB h fun r5 hr5 h => rc [1] (script_line_word_ok _ _ _ _ hr5) (by kernel_rfl) rfl rfl rfl fun _ => zz <| p 2 [0,3,25,26] rfl <| yl 1 ((.snd (.fst .here))) ty2 rfl rfl rfl trivial rfl <| cB h fun r6 hr6 h => rcT hT [0] (script_line_number_ok _ _ _ _ hr6) (by kernel_rfl) rfl rfl rfl fun _ => za <| zr <| p 2 [29,30] rfl <| yl 1 ((.snd (.snd (.snd (.snd (.fst .here)))))) ty34 rfl rfl rfl trivial rfl <| cB h fun r7 hr7 h => r_calls (script_Hex_ok _ _ hr7) (by kernel_rfl) rfl rfl <| r_lits (B := 16) tabOk rfl el9 rfl rfl rfl (.cons rfl .nil) rfl fun v8 => ?_
  refine r_freeze (i := 0) (k := 33) rfl rfl ?_
  refine cB h fun r9 hr9 h => rc [0] (script_line_word_ok _ _ _ _ hr9) (by kernel_rfl) rfl rfl rfl fun _ => zn <| zi ?_
  cases h
  refine xN ?_
  exact r_end0 rfl (fun _ => tup_ok [] .nil) ((.cons_cons _ (.cons _ .slnil)))
 refine zu <| q 2 [(35, tb (a1.1 == 2))] [0,3,8] rfl <| za <| rI h rfl (fun hc h => ?_) fun hc h => ?_
 ·refine zu <| p 1 [0,3,37] rfl <| r_lits (B := 16) tabOk rfl el9 rfl rfl rfl (.cons rfl .nil) rfl fun v10 => ?_
  refine r_freeze (i := 0) (k := 38) rfl rfl ?_
  refine cB h fun r11 hr11 h => rc [1] (script_line_word_ok _ _ _ _ hr11) (by kernel_rfl) rfl rfl rfl fun _ => zz <| p 2 [0,3,40,41] rfl <| yl 1 ((.snd (.snd (.fst .here)))) ty2 rfl rfl rfl trivial rfl <| cB h fun r12 hr12 h => rcT hT [0] (script_line_number_ok _ _ _ _ hr12) (by kernel_rfl) rfl rfl rfl fun _ => za <| zr <| p 2 [44,45] rfl <| yl 1 ((.snd (.snd (.snd (.snd (.fst .here)))))) ty34 rfl rfl rfl trivial rfl <| cB h fun r13 hr13 h => r_calls (script_Hex_ok _ _ hr13) (by kernel_rfl) rfl rfl <| r_lits (B := 16) tabOk rfl el9 rfl rfl rfl (.cons rfl .nil) rfl fun v14 => ?_
  refine r_freeze (i := 0) (k := 48) rfl rfl ?_
  refine cB h fun r15 hr15 h => rc [0] (script_line_word_ok _ _ _ _ hr15) (by kernel_rfl) rfl rfl rfl fun _ => zn <| zi ?_
  cases h
  refine xN ?_
  exact r_end0 rfl (fun _ => tup_ok [] .nil) ((.cons_cons _ (.cons _ .slnil)))
 refine zu <| q 2 [(50, tb (a1.1 == 3))] [0,3,8] rfl <| za <| rI h rfl (fun hc h => ?_) fun hc h => ?_
 ·refine zu <| p 1 [0,3,52] rfl <| r_lits (B := 16) tabOk rfl el9 rfl rfl rfl (.cons rfl .nil) rfl fun v16 => ?_
  refine r_freeze (i := 0) (k := 53) rfl rfl ?_
  refine cB h fun r17 hr17 h => rc [1] (script_line_word_ok _ _ _ _ hr17) (by kernel_rfl) rfl rfl rfl fun _ => zz <| p 2 [0,3,55,56] rfl <| yl 1 ((.snd (.snd (.fst .here)))) ty2 rfl rfl rfl trivial rfl <| cB h fun r18 hr18 h => rcT hT [0] (script_line_number_ok _ _ _ _ hr18) (by kernel_rfl) rfl rfl rfl fun _ => za <| zr <| p 2 [59,60] rfl <| yl 1 ((.snd (.snd (.snd (.snd (.snd (.fst .here))))))) ty9 rfl rfl rfl trivial rfl <| cB h fun r19 hr19 h => r_calls (script_Quote_ok _ _ hr19) (by kernel_rfl) rfl rfl <| r_lits (B := 16) tabOk rfl el9 rfl rfl rfl (.cons rfl .nil) rfl fun v20 => ?_
  refine r_freeze (i := 0) (k := 63) rfl rfl ?_
  refine cB h fun r21 hr21 h => rc [0] (script_line_word_ok _ _ _ _ hr21) (by kernel_rfl) rfl rfl rfl fun _ => zn <| zi ?_
  cases h
  refine xN ?_
  exact r_end0 rfl (fun _ => tup_ok [] .nil) ((.cons_cons _ (.cons _ .slnil)))
 refine zu <| q 2 [(65, tb (a1.1 == 8))] [0,3,8] rfl <| za <| rI h rfl (fun hc h => ?_) fun hc h => ?_
 ·refine zr <| p 2 [67,68] rfl <| yl 0 ((.snd (.snd (.snd (.snd (.snd (.snd (.fst .here)))))))) ty9 rfl rfl rfl trivial rfl <| cB h fun r22 hr22 h => r_calls (script_Quote_ok _ _ hr22) (by kernel_rfl) rfl rfl <| r_lits (B := 16) tabOk rfl el9 rfl rfl rfl (.cons rfl (.cons rfl .nil)) rfl fun v23 => ?_
  refine r_freeze (i := 0) (k := 71) rfl rfl ?_
  refine cB h fun r24 hr24 h => rc [1] (script_line_word_ok _ _ _ _ hr24) (by kernel_rfl) rfl rfl rfl fun _ => zn <| zi ?_
  cases h
  refine xN ?_
  exact r_end0 rfl (fun _ => tup_ok [] .nil) ((.cons_cons _ (.cons _ .slnil)))
 refine zu <| q 2 [(73, tb (a1.1 == 10))] [0,3,8] rfl <| za <| rI h rfl (fun hc h => ?_) fun hc h => ?_
 ·refine zu <| p 1 [0,3,75] rfl <| r_lits (B := 16) tabOk rfl el9 rfl rfl rfl (.cons rfl .nil) rfl fun v25 => ?_
  refine r_freeze (i := 0) (k := 76) rfl rfl ?_
  refine cB h fun r26 hr26 h => rc [1] (script_line_word_ok _ _ _ _ hr26) (by kernel_rfl) rfl rfl rfl fun _ => za <| zr <| p 2 [78,79] rfl <| yl 1 ((.snd (.snd (.snd (.fst .here))))) ty2 rfl rfl rfl trivial rfl <| cB h fun r27 hr27 h => rcT hT [0] (script_line_number_ok _ _ _ _ hr27) (by kernel_rfl) rfl rfl rfl fun _ => zn <| zi ?_
  cases h
  refine xN ?_
  exact r_end0 rfl (fun _ => tup_ok [] .nil) ((.cons_cons _ (.cons _ .slnil)))
 refine zu <| q 2 [(82, tb (a1.1 == 11))] [0,3,8] rfl <| za <| rI h rfl (fun hc h => ?_) fun hc h => ?_
 ·refine zu <| p 1 [0,3,84] rfl <| r_lits (B := 16) tabOk rfl el9 rfl rfl rfl (.cons rfl .nil) rfl fun v28 => ?_
  refine r_freeze (i := 0) (k := 85) rfl rfl ?_
  refine cB h fun r29 hr29 h => rc [1] (script_line_word_ok _ _ _ _ hr29) (by kernel_rfl) rfl rfl rfl fun _ => za <| zr <| p 2 [87,88] rfl <| yl 1 ((.snd (.snd (.snd (.fst .here))))) ty2 rfl rfl rfl trivial rfl <| cB h fun r30 hr30 h => rcT hT [0] (script_line_number_ok _ _ _ _ hr30) (by kernel_rfl) rfl rfl rfl fun _ => zn <| zi ?_
  cases h
  refine xN ?_
  exact r_end0 rfl (fun _ => tup_ok [] .nil) ((.cons_cons _ (.cons _ .slnil)))
 refine zu <| q 2 [(91, tb (a1.1 == 12))] [0,3] rfl <| za <| rI h rfl (fun hc h => ?_) fun hc h => ?_
 ·refine zu <| p 1 [0,3,93] rfl <| r_lits (B := 16) tabOk rfl el9 rfl rfl rfl (.cons rfl .nil) rfl fun v31 => ?_
  refine r_freeze (i := 0) (k := 94) rfl rfl ?_
  refine cB h fun r32 hr32 h => rc [1] (script_line_word_ok _ _ _ _ hr32) (by kernel_rfl) rfl rfl rfl fun _ => zz <| p 2 [0,3,96,97] rfl <| yl 1 ((.snd (.snd (.snd (.fst .here))))) ty2 rfl rfl rfl trivial rfl <| cB h fun r33 hr33 h => rcT hT [0] (script_line_number_ok _ _ _ _ hr33) (by kernel_rfl) rfl rfl rfl fun _ => zz <| p 1 [0,100] rfl <| yl 1 ((.snd (.snd (.snd (.snd (.snd (.snd (.snd (.fst .here))))))))) ty46 rfl rfl rfl trivial rfl <| q 2 [(101, .one (.sl 61 Y61) a1.2.2.2.2.2.2.2.1), (102, ti (List.length a1.2.2.2.2.2.2.2.1 : Int)), (103, ti 0)] [0] rfl <| za <| bX h fun k34 hk34 h => ?_
  refine r_cutk (γ := Unit) (fun (o35 : (List (List Int) × Unit)) _ => []) (fun (o35 : (List (List Int) × Unit)) _ => [Res.cls Cline (.pointer (some ⟨b2, 0, none⟩)) o35, Res.var b3 48 Y48 a1]) k34 r ?_ ?_
  ·refine zb <| r_less [0,101,102,103] rfl <| r_loopg (γ := Unit) (fun (s38 : Int × (List (List Int) × Unit)) _ => [(0, ptr b2 0), (101, .one (.sl 61 Y61) a1.2.2.2.2.2.2.2.1), (102, ti (List.length a1.2.2.2.2.2.2.2.1 : Int)), (103, ti s38.1)]) (fun (s38 : Int × (List (List Int) × Unit)) _ => [Res.cls Cline (.pointer (some ⟨b2, 0, none⟩)) s38.2, Res.var b3 48 Y48 a1]) (script_line_step_l0 a1 k34) (0, r33) () h rfl rfl ?_
   clear h
   intro m39 s38 gg h
   cases m39 with
   | zero => cases h
   | succ m39 =>
   simp only [script_line_step_l0] at h
   refine zu <| q 1 [(103, ti s38.1), (104, tb (decide (s38.1 < (List.length a1.2.2.2.2.2.2.2.1 : Int))))] [0,101,102] rfl <| za <| zs <| rI h rfl (fun hc h => ?_) fun hc h => ?_
   ·refine zk <| zt <| zs <| zb <| zu <| iE h fun hc h => y (y_iref tabOk rfl rfl hc.1 hc.2 rfl ty61) rfl ?_
    refine y (y_ref rfl ty61) rfl ?_
    refine r_alloc (t := Y61) rfl zf61 rfl fun b40 => st 0 .here ty61 rfl rfl rfl rfl trivial <| za <| zr <| p 1 [0,5,101,102,103,107] rfl <| yl 0 .here ty61 rfl rfl rfl trivial rfl <| cB h fun or41 hr41 h => rcET hT [1] (script_line_fate_ok _ _ _ _ hr41) h (by kernel_rfl) rfl rfl rfl fun r41 h _ => zn <| zi <| zt <| zr <| q 2 [(103, ti (IntKind.wrap .i64 (s38.1 + 1)))] [0,101,102] rfl <| za ?_
    exact pk [0,1] rfl <| r_less [0,101,102,103] rfl <| by exact r_backg ((IntKind.wrap .i64 (s38.1 + 1)), r41) () (Nat.lt_succ_self _) h rfl rfl
   exact zx <| ze <| ze <| zq <| zt <| r_less [] rfl <| by exact r_meetk s38.2 () h rfl rfl
  intro o35 gg h
  rw [← hk34] at h
  try dsimp only at h
  refine zi ?_
  cases h
  refine xN ?_
  exact r_end0 rfl (fun _ => tup_ok [] .nil) ((.cons_cons _ (.cons _ .slnil)))
 refine zu <| p 1 [0,9] rfl <| yl 0 ((.fst .here)) ty3 rfl rfl rfl trivial rfl <| cB h fun r42 hr42 h => r_calls (script_bare_ok _ _ hr42) (by kernel_rfl) rfl rfl <| p 1 [0,6] rfl <| za <| jK h (γ := Unit) (fun (o44 : Unit) _ => [(0, ptr b2 0), (6, ts r42)]) (fun (o44 : Unit) _ => [Res.var b3 48 Y48 a1, Res.cls Cline (.pointer (some ⟨b2, 0, none⟩)) a0]) (fun k43 h => ?_) fun o44 gg h => ?_
 ·refine zu <| q 2 [(13, tb (r42 == []))] [0,6] rfl <| za <| rI h rfl (fun hc h => ?_) fun hc h => ?_
  ·refine zr <| y (y_build rfl zf65 rfl rfl .nil) rfl ?_
   refine y (y_iface rfl un65) rfl ?_
   exact r_panic (Option.some.inj h).symm rfl
  exact zk <| zt <| r_less [0,6] rfl <| by exact r_meetk () () h rfl rfl
 refine zr <| p 2 [16,17] rfl <| r_lits (B := 16) tabOk rfl el9 rfl rfl rfl (.cons rfl .nil) rfl fun v45 => ?_
 refine r_freeze (i := 0) (k := 18) rfl rfl ?_
 refine cB h fun r46 hr46 h => rc [1] (script_line_word_ok _ _ _ _ hr46) (by kernel_rfl) rfl rfl rfl fun _ => zn <| zi ?_
 cases h
 refine xN ?_
 exact r_end0 rfl (fun _ => tup_ok [] .nil) ((.cons_cons _ (.cons _ .slnil)))

theorem script_line_move_ok (p0 : Value) (a0 : List (List Int) × Unit) (a1 : Int × Int × (Int × Int × Int × Int × List (Int) × List Int × List Int × (List (List Int × Int × Int × List Int × Unit)) × Unit) × Unit) (r : Option ((List (List Int) × Unit))) (h : script_line_move a0 a1 = some r) : FnET Tryd.prog tabs 64 [tp p0, .one Y50 a1] [Res.cls Cline p0 a0] r (fun r _ => .tup []) (fun r _ => [Res.cls Cline p0 r]) NOTH := by
 unfold script_line_move at h
 refine enterET Tryd.func64 rfl 46 rfl rfl fun F hT => ?_
 refine r_unCline fun b2 sv1 hp => ?_
 subst hp
 refine r_Cline (x := a0) ?_
 refine zu <| r_box rfl rfl fun b3 => zz <| p 1 [0,3,4] rfl <| za <| jK h (γ := Unit) (fun (o5 : Bool × (List (List Int) × Unit)) _ => [(0, ptr b2 0), (3, ptr b3 0), (4, tb o5.1)]) (fun (o5 : Bool × (List (List Int) × Unit)) _ => [Res.cls Cline (.pointer (some ⟨b2, 0, none⟩)) o5.2, Res.var b3 50 Y50 a1]) (fun k4 h => ?_) fun o5 gg h => ?_
 ·refine zu <| p 1 [0,3,4,5] rfl <| yl 0 ((.fst .here)) ty3 rfl rfl rfl trivial rfl <| za <| zb <| zu <| q 2 [(6, ti a1.1), (9, tb (a1.1 == 1))] [0,3,4] rfl <| za <| rI h rfl (fun hc h => ?_) fun hc h => ?_
  ·refine zr <| p 1 [0,3,4,11] rfl <| r_lits (B := 16) tabOk rfl el9 rfl rfl rfl (.cons rfl .nil) rfl fun v10 => ?_
   refine r_freeze (i := 0) (k := 12) rfl rfl ?_
   exact cB h fun r11 hr11 h => rc [1] (script_line_word_ok _ _ _ _ hr11) (by kernel_rfl) rfl rfl rfl fun _ => zn <| zi <| zt <| r_less [0,3,4] rfl <| by exact r_meetk (true, r11) () h rfl rfl
  refine zu <| q 2 [(14, tb (a1.1 == 2))] [0,3,4,6] rfl <| za <| rI h rfl (fun hc h => ?_) fun hc h => ?_
  ·refine zu <| p 1 [0,3,16] rfl <| r_lits (B := 16) tabOk rfl el9 rfl rfl rfl (.cons rfl .nil) rfl fun v12 => ?_
   refine r_freeze (i := 0) (k := 17) rfl rfl ?_
   exact cB h fun r13 hr13 h => rc [1] (script_line_word_ok _ _ _ _ hr13) (by kernel_rfl) rfl rfl rfl fun _ => za <| zr <| p 1 [0,3,4] rfl <| zn <| zi <| zt <| r_less [0,3,4] rfl <| by exact r_meetk (false, r13) () h rfl rfl
  refine zu <| q 2 [(19, tb (a1.1 == 3))] [0,3,4,6] rfl <| za <| rI h rfl (fun hc h => ?_) fun hc h => ?_
  ·refine zu <| p 1 [0,3,21] rfl <| r_lits (B := 16) tabOk rfl el9 rfl rfl rfl (.cons rfl .nil) rfl fun v14 => ?_
   refine r_freeze (i := 0) (k := 22) rfl rfl ?_
   exact cB h fun r15 hr15 h => rc [1] (script_line_word_ok _ _ _ _ hr15) (by kernel_rfl) rfl rfl rfl fun _ => za <| zr <| p 1 [0,3,4] rfl <| zn <| zi <| zt <| r_less [0,3,4] rfl <| by exact r_meetk (false, r15) () h rfl rfl
  refine zu <| q 2 [(24, tb (a1.1 == 4))] [0,3,4,6] rfl <| za <| rI h rfl (fun hc h => ?_) fun hc h => ?_
  ·refine zr <| p 1 [0,3,4,26] rfl <| r_lits (B := 16) tabOk rfl el9 rfl rfl rfl (.cons rfl .nil) rfl fun v16 => ?_
   refine r_freeze (i := 0) (k := 27) rfl rfl ?_
   exact cB h fun r17 hr17 h => rc [1] (script_line_word_ok _ _ _ _ hr17) (by kernel_rfl) rfl rfl rfl fun _ => zn <| zi <| zt <| r_less [0,3,4] rfl <| by exact r_meetk (true, r17) () h rfl rfl
  refine zu <| q 2 [(29, tb (a1.1 == 5))] [0,3,4] rfl <| za <| rI h rfl (fun hc h => ?_) fun hc h => ?_
  ·refine zr <| p 1 [0,3,4,31] rfl <| r_lits (B := 16) tabOk rfl el9 rfl rfl rfl (.cons rfl .nil) rfl fun v18 => ?_
   refine r_freeze (i := 0) (k := 32) rfl rfl ?_
   exact cB h fun r19 hr19 h => rc [1] (script_line_word_ok _ _ _ _ hr19) (by kernel_rfl) rfl rfl rfl fun _ => zn <| zi <| zt <| r_less [0,3,4] rfl <| by exact r_meetk (true, r19) () h rfl rfl
  refine zr <| y (y_build rfl zf65 rfl rfl .nil) rfl ?_
  refine y (y_iface rfl un65) rfl ?_
  exact r_panic (Option.some.inj h).symm rfl
 refine jK h (γ := Unit) (fun (o7 : (List (List Int) × Unit)) _ => [(0, ptr b2 0), (3, ptr b3 0)]) (fun (o7 : (List (List Int) × Unit)) _ => [Res.cls Cline (.pointer (some ⟨b2, 0, none⟩)) o7, Res.var b3 50 Y50 a1]) (fun k6 h => zu <| q 1 [(0, ptr b2 0), (3, ptr b3 0), (34, tb o5.1)] [] rfl <| za <| rI h rfl (fun hc h => zr <| p 2 [0,3,35,36] rfl <| yl 1 ((.snd (.fst .here))) ty3 rfl rfl rfl trivial rfl <| cB h fun r9 hr9 h => rcT hT [0] (script_line_number_ok _ _ _ _ hr9) (by kernel_rfl) rfl rfl rfl fun _ => za <| r_less [0,3] rfl <| by exact r_meetk r9 () h rfl rfl) fun hc h => zk <| zt <| r_less [0,3] rfl <| by exact r_meetk o5.2 () h rfl rfl) fun o7 gg h => zu <| p 1 [0,3,39] rfl <| yl 1 ((.fst .here)) ty3 rfl rfl rfl trivial rfl <| q 1 [(41, tb (a1.1 == 1))] [0,3] rfl <| za <| rI h rfl (fun hc h => ?_) fun hc h => ?_
 ·refine zr <| p 2 [42,43] rfl <| yl 1 ((.snd (.snd (.fst .here)))) ty48 rfl rfl rfl trivial rfl <| cB h fun or8 hr8 h => rcET hT [0] (script_line_step_ok _ _ _ _ hr8) h (by kernel_rfl) rfl rfl rfl fun r8 h _ => zn ?_
  cases h
  refine xN ?_
  exact r_end0 rfl (fun _ => tup_ok [] .nil) ((.cons_cons _ (.cons _ .slnil)))
 refine zk ?_
 cases h
 refine xN ?_
 exact r_end0 rfl (fun _ => tup_ok [] .nil) ((.cons_cons _ (.cons _ .slnil)))

theorem script_line_command_ok (p0 : Value) (a0 : List (List Int) × Unit) (a1 : Int × (Int × Int × List (List (Int)) × List (List (Int)) × Int × Int × Unit) × (Int × Int × (Int × Int × Int × Int × List (Int) × List Int × List Int × (List (List Int × Int × Int × List Int × Unit)) × Unit) × Unit) × Int × Int × Unit) (r : Option ((List (List Int) × Unit))) (h : script_line_command a0 a1 = some r) : FnET Tryd.prog tabs 37 [tp p0, .one Y55 a1] [Res.cls Cline p0 a0] r (fun r _ => .tup []) (fun r _ => [Res.cls Cline p0 r]) NOTH := by
 unfold script_line_command at h
 refine enterET Tryd.func37 rfl 91 rfl rfl fun F hT => ?_
 refine r_unCline fun b2 sv1 hp => ?_
 subst hp
 refine r_Cline (x := a0) ?_
 refine zu <| r_box rfl rfl fun b3 => zz <| p 1 [0,3,9] rfl <| yl 0 ((.fst .here)) ty3 rfl rfl rfl trivial rfl <| za <| zb <| zu <| q 2 [(10, ti a1.1), (26, tb (a1.1 == 1))] [0,3] rfl <| za <| rI h rfl (fun hc h => ?_) fun hc h => ?_
 ·refine zu <| p 1 [0,3,28] rfl <| r_lits (B := 16) tabOk rfl el9 rfl rfl rfl (.cons rfl .nil) rfl fun v4 => ?_
  refine r_freeze (i := 0) (k := 29) rfl rfl ?_
  refine cB h fun r5 hr5 h => rc [1] (script_line_word_ok _ _ _ _ hr5) (by kernel_rfl) rfl rfl rfl fun _ => za <| jK h (γ := Unit) (fun (o7 : (List (List Int) × Unit)) _ => [(0, ptr b2 0), (3, ptr b3 0)]) (fun (o7 : (List (List Int) × Unit)) _ => [Res.cls Cline (.pointer (some ⟨b2, 0, none⟩)) o7, Res.var b3 55 Y55 a1]) (fun k6 h => ?_) fun o7 gg h => ?_
  ·refine zu <| p 2 [0,3,32] rfl <| yl 1 ((.snd (.fst ((.fst .here))))) ty2 rfl rfl rfl trivial rfl <| q 2 [(33, ti a1.2.1.1), (35, ptr b3 2)] [0,3] rfl <| yl 1 ((.snd (.fst ((.snd (.fst .here)))))) ty2 rfl rfl rfl trivial rfl <| q 2 [(36, ti a1.2.1.2.1), (38, ptr b3 131)] [0,3,33] rfl <| yl 1 ((.snd (.fst ((.snd (.snd (.snd (.snd (.fst .here))))))))) ty3 rfl rfl rfl trivial rfl <| q 2 [(39, ti a1.2.1.2.2.2.2.1), (41, ptr b3 132)] [0,3,33,36] rfl <| yl 1 ((.snd (.fst ((.snd (.snd (.snd (.snd (.snd (.fst .here)))))))))) ty3 rfl rfl rfl trivial rfl <| r_lits (B := 8) tabOk rfl el2 rfl rfl rfl (.cons rfl (.cons rfl (.cons rfl (.cons rfl .nil)))) rfl fun v24 => ?_
   refine y (y_lenown tabOk 0 rfl rfl rfl) rfl ?_
   refine q 1 [(43, .one (.raw (.slice none 0 0)) v24), (44, ti (List.length [a1.2.1.1, a1.2.1.2.1, a1.2.1.2.2.2.2.1, a1.2.1.2.2.2.2.2.1] : Int)), (45, ti 0)] [0,3] rfl <| za <| zb <| r_less [0,3,43,44,45] rfl <| r_loopg (γ := Value) (fun (s28 : Int × (List (List Int) × Unit)) g29 => [(0, ptr b2 0), (3, ptr b3 0), (43, .one (.raw (.slice none 0 0)) g29), (44, ti (List.length [a1.2.1.1, a1.2.1.2.1, a1.2.1.2.2.2.2.1, a1.2.1.2.2.2.2.2.1] : Int)), (45, ti s28.1)]) (fun (s28 : Int × (List (List Int) × Unit)) g29 => [Res.own g29 2 (.int .i64) [a1.2.1.1, a1.2.1.2.1, a1.2.1.2.2.2.2.1, a1.2.1.2.2.2.2.2.1], Res.cls Cline (.pointer (some ⟨b2, 0, none⟩)) s28.2, Res.var b3 55 Y55 a1]) (script_line_command_l1 a1 k6) (0, r5) v24 h rfl rfl ?_
   clear h
   intro m30 s28 g29 h
   cases m30 with
   | zero => cases h
   | succ m30 =>
   simp only [script_line_command_l1] at h
   refine zu <| q 1 [(43, .one (.raw (.slice none 0 0)) g29), (45, ti s28.1), (46, tb (decide (s28.1 < (List.length [a1.2.1.1, a1.2.1.2.1, a1.2.1.2.2.2.2.1, a1.2.1.2.2.2.2.2.1] : Int))))] [0,3,44] rfl ?_
   obtain ⟨t31, e, h⟩ := bnd_ex h; rw [e]
   refine za <| zs <| rI h rfl (fun hc h => ?_) fun hc h => ?_
   ·refine zk <| zt <| zs <| zb <| zu <| iE h fun hc h => r_expose 0 rfl (by first | omega | (simp only [List.length_set] at hc ⊢; omega)) fun b32 c33 hv => ?_
    rw [hv]
    try clear hv
    refine y (y_iraw tabOk rfl rfl hc.1 (by first | exact hc.2 | simpa using hc.2) rfl ty2) rfl ?_
    refine y (y_lown 0 (Int.toNat s28.1) .here rfl rfl (by first | omega | (simp only [List.length_set] at hc ⊢; omega)) (by first | rfl | (simp only [Pth.off, T.size]; omega)) ok_here ty2) rfl ?_
    refine q 1 [(5, ti (List.getD [a1.2.1.1, a1.2.1.2.1, a1.2.1.2.2.2.2.1, a1.2.1.2.2.2.2.2.1] (Int.toNat s28.1) 0)), (43, .one (.raw (.slice none 0 0)) (.slice (some ⟨b32, 0, none⟩) (List.length [a1.2.1.1, a1.2.1.2.1, a1.2.1.2.2.2.2.1, a1.2.1.2.2.2.2.2.1]) c33))] [0,3,44,45] rfl ?_
    obtain ⟨n34, e, h⟩ := bnd_ex h; rw [e]
    exact za <| zr <| p 2 [0,3,43,44,45,49,50] rfl <| cB h fun r35 hr35 h => rcT hT [1] (script_line_number_ok _ _ _ _ hr35) (by kernel_rfl) rfl rfl rfl fun _ => zn <| zi <| zt <| zr <| q 2 [(45, ti (IntKind.wrap .i64 (s28.1 + 1)))] [0,3,43,44] rfl <| za <| r_less [0,3,43,44,45] rfl <| pk [1,0,0] rfl <| by exact r_backg ((IntKind.wrap .i64 (s28.1 + 1)), r35) (.slice (some ⟨b32, 0, none⟩) (List.length [a1.2.1.1, a1.2.1.2.1, a1.2.1.2.2.2.2.1, a1.2.1.2.2.2.2.2.1]) c33) (Nat.lt_succ_self _) h rfl rfl
   exact zx <| ze <| ze <| zq <| zt <| pk [1,1] rfl <| r_less [0,3] rfl <| by exact r_meetk s28.2 () h rfl rfl
  refine zs <| r_any (by kernel_rfl) ?_
  refine a_float (i := 0) (t := ptr b3 1) (blind_then (blind_block blind_body)) rfl (by kernel_rfl) (by kernel_rfl) (by kernel_rfl) (y_pure tabOk rfl) rfl ?_
  refine a_float (i := 1) (t := ptr b3 3) (blind_then (blind_block blind_body)) rfl (by kernel_rfl) (by kernel_rfl) (by kernel_rfl) (y_pure tabOk rfl) rfl ?_
  refine a_float (i := 2) (t := .one (.raw (.slice none 0 0)) (.slice (some ⟨b3, 3, none⟩) 2 2)) (blind_then (blind_block blind_body)) rfl (by kernel_rfl) (by kernel_rfl) (by kernel_rfl) (y_arrsl rfl un51 rfl ty34) rfl ?_
  refine a_float (i := 3) (t := ptr b3 1) (blind_then (blind_block blind_body)) rfl (by kernel_rfl) (by kernel_rfl) (by kernel_rfl) (y_pure tabOk rfl) rfl ?_
  refine a_float (i := 4) (t := ptr b3 67) (blind_then (blind_block blind_body)) rfl (by kernel_rfl) (by kernel_rfl) (by kernel_rfl) (y_pure tabOk rfl) rfl ?_
  refine a_float (i := 5) (t := .one (.raw (.slice none 0 0)) (.slice (some ⟨b3, 67, none⟩) 2 2)) (blind_then (blind_block blind_body)) rfl (by kernel_rfl) (by kernel_rfl) (by kernel_rfl) (y_arrsl rfl un51 rfl ty34) rfl ?_
  refine a_float (i := 8) (t := ti 0) (blind_then (blind_block blind_body)) rfl (by kernel_rfl) (by kernel_rfl) (by kernel_rfl) (y_pure tabOk rfl) rfl ?_
  refine a_one (i := 6) (by kernel_rfl) rfl ?_
  refine r_apparr (B := 32) tabOk 1 ((.snd (.fst ((.snd (.snd (.fst .here))))))) 1 ((.snd (.fst ((.snd (.snd (.snd (.fst .here)))))))) rfl rfl (by first | rfl | (simp only [Pth.off, T.size]; omega)) (ok_snd (ok_fst (ok_snd (ok_snd (ok_fst ok_here))))) rfl rfl (by first | rfl | (simp only [Pth.off, T.size]; omega)) (ok_snd (ok_fst (ok_snd (ok_snd (ok_snd (ok_fst ok_here)))))) rfl el34 rfl rfl rfl rfl rfl fun v8 => ?_
  refine za <| r_less [0,59,61] rfl <| a_one (i := 7) (by kernel_rfl) rfl ?_
  refine y (y_lenown tabOk 0 rfl rfl rfl) rfl ?_
  refine za <| r_less [0,59,60,61] rfl <| a_end (by kernel_rfl) ?_
  refine zt <| bX h fun k9 hk9 h => ?_
  refine r_cutk (γ := Value) (fun (o10 : (List (List Int) × Unit)) g11 => []) (fun (o10 : (List (List Int) × Unit)) g11 => [Res.own g11 34 (.arr 32 (.int .u8)) (a1.2.1.2.2.1 ++ a1.2.1.2.2.2.1), Res.cls Cline (.pointer (some ⟨b2, 0, none⟩)) o10, Res.var b3 55 Y55 a1]) k9 r ?_ ?_
  ·refine zb <| r_less [0,59,60,61] rfl <| r_loopg (γ := Value) (fun (s15 : Int × (List (List Int) × Unit)) g16 => [(0, ptr b2 0), (59, .one (.raw (.slice none 0 0)) g16), (60, ti (List.length (a1.2.1.2.2.1 ++ a1.2.1.2.2.2.1) : Int)), (61, ti s15.1)]) (fun (s15 : Int × (List (List Int) × Unit)) g16 => [Res.own g16 34 (.arr 32 (.int .u8)) (a1.2.1.2.2.1 ++ a1.2.1.2.2.2.1), Res.cls Cline (.pointer (some ⟨b2, 0, none⟩)) s15.2, Res.var b3 55 Y55 a1]) (script_line_command_l0 a1 k9) (0, o7) v8 h rfl rfl ?_
   clear h
   intro m17 s15 g16 h
   cases m17 with
   | zero => cases h
   | succ m17 =>
   simp only [script_line_command_l0] at h
   refine zu <| q 1 [(0, ptr b2 0), (59, .one (.raw (.slice none 0 0)) g16), (60, ti (List.length (a1.2.1.2.2.1 ++ a1.2.1.2.2.2.1) : Int)), (61, ti s15.1), (62, tb (decide (s15.1 < (List.length (a1.2.1.2.2.1 ++ a1.2.1.2.2.2.1) : Int))))] [] rfl <| za <| zs <| rI h rfl (fun hc h => ?_) fun hc h => ?_
   ·refine zk <| zt <| zs <| zb <| zu <| iE h fun hc h => r_expose 0 rfl (by first | omega | (simp only [List.length_set] at hc ⊢; omega)) fun b18 c19 hv => ?_
    rw [hv]
    try clear hv
    refine y (y_iraw tabOk rfl rfl hc.1 (by first | exact hc.2 | simpa using hc.2) rfl ty34) rfl ?_
    refine y (y_lown 0 (Int.toNat s15.1) .here rfl rfl (by first | omega | (simp only [List.length_set] at hc ⊢; omega)) (by first | rfl | (simp only [Pth.off, T.size]; omega)) ok_here ty34) rfl ?_
    refine r_alloc (t := (.arr 32 (.int .u8))) rfl zf34 rfl fun b20 => st 0 .here ty34 rfl rfl rfl rfl trivial <| za <| zr <| q 1 [(7, ptr b20 0), (59, .one (.raw (.slice none 0 0)) (.slice (some ⟨b18, 0, none⟩) (List.length (a1.2.1.2.2.1 ++ a1.2.1.2.2.2.1)) c19)), (65, ptr b2 0)] [0,60,61] rfl <| yl 0 .here ty34 rfl rfl rfl trivial rfl <| cB h fun r21 hr21 h => r_calls (script_Hex_ok _ _ hr21) (by kernel_rfl) rfl rfl <| r_lits (B := 16) tabOk rfl el9 rfl rfl rfl (.cons rfl .nil) rfl fun v22 => ?_
    refine r_freeze (i := 0) (k := 68) rfl rfl ?_
    exact cB h fun r23 hr23 h => rc [2] (script_line_word_ok _ _ _ _ hr23) (by kernel_rfl) rfl rfl rfl fun _ => zn <| zi <| zt <| zr <| q 2 [(61, ti (IntKind.wrap .i64 (s15.1 + 1)))] [0,59,60] rfl <| za <| pk [0,1,1] rfl <| r_less [0,59,60,61] rfl <| pk [1,0,0] rfl <| by exact r_backg ((IntKind.wrap .i64 (s15.1 + 1)), r23) (.slice (some ⟨b18, 0, none⟩) (List.length (a1.2.1.2.2.1 ++ a1.2.1.2.2.2.1)) c19) (Nat.lt_succ_self _) h rfl rfl
   exact zx <| ze <| ze <| zq <| zt <| r_less [] rfl <| by exact r_meetk s15.2 g16 h rfl rfl
  intro o10 g11 h
  rw [← hk9] at h
  try dsimp only at h
  refine zi ?_
  cases h
  refine xN ?_
  exact r_end0 rfl (fun _ => tup_ok [] .nil) ((.cons _ (.cons_cons _ (.cons _ .slnil))))
 refine zu <| q 2 [(71, tb (a1.1 == 2))] [0,3,10] rfl <| za <| rI h rfl (fun hc h => ?_) fun hc h => ?_
 ·refine zr <| p 2 [73,74] rfl <| yl 0 ((.snd (.snd (.fst .here)))) ty50 rfl rfl rfl trivial rfl <| cB h fun or36 hr36 h => rcET hT [1] (script_line_move_ok _ _ _ _ hr36) h (by kernel_rfl) rfl rfl rfl fun r36 h _ => zn <| zi ?_
  cases h
  refine xN ?_
  exact r_end0 rfl (fun _ => tup_ok [] .nil) ((.cons_cons _ (.cons _ .slnil)))
 refine zu <| q 2 [(77, tb (a1.1 == 3))] [0,3,10] rfl <| za <| rI h rfl (fun hc h => ?_) fun hc h => ?_
 ·refine zu <| p 1 [0,3,79] rfl <| r_lits (B := 16) tabOk rfl el9 rfl rfl rfl (.cons rfl .nil) rfl fun v37 => ?_
  refine r_freeze (i := 0) (k := 80) rfl rfl ?_
  refine cB h fun r38 hr38 h => rc [1] (script_line_word_ok _ _ _ _ hr38) (by kernel_rfl) rfl rfl rfl fun _ => za <| zr <| p 2 [82,83] rfl <| yl 1 ((.snd (.snd (.snd (.fst .here))))) ty2 rfl rfl rfl trivial rfl <| cB h fun r39 hr39 h => rcT hT [0] (script_line_number_ok _ _ _ _ hr39) (by kernel_rfl) rfl rfl rfl fun _ => zn <| zi ?_
  cases h
  refine xN ?_
  exact r_end0 rfl (fun _ => tup_ok [] .nil) ((.cons_cons _ (.cons _ .slnil)))
 refine zu <| q 2 [(86, tb (a1.1 == 9))] [0,3] rfl <| za <| rI h rfl (fun hc h => ?_) fun hc h => ?_
 ·refine zr <| p 1 [88] rfl <| r_lits (B := 16) tabOk rfl el9 rfl rfl rfl (.cons rfl .nil) rfl fun v40 => ?_
  refine r_freeze (i := 0) (k := 89) rfl rfl ?_
  refine cB h fun r41 hr41 h => rc [1] (script_line_word_ok _ _ _ _ hr41) (by kernel_rfl) rfl rfl rfl fun _ => zn <| zi ?_
  cases h
  refine xN ?_
  exact r_end0 rfl (fun _ => tup_ok [] .nil) ((.cons_cons _ (.cons _ .slnil)))
 refine zu <| p 1 [0,3,11] rfl <| yl 0 ((.fst .here)) ty3 rfl rfl rfl trivial rfl <| cB h fun r42 hr42 h => r_calls (script_question_ok _ _ hr42) (by kernel_rfl) rfl rfl <| p 1 [0,3,8] rfl <| za <| jK h (γ := Unit) (fun (o44 : Unit) _ => [(0, ptr b2 0), (3, ptr b3 0), (8, ts r42)]) (fun (o44 : Unit) _ => [Res.var b3 55 Y55 a1, Res.cls Cline (.pointer (some ⟨b2, 0, none⟩)) a0]) (fun k43 h => ?_) fun o44 gg h => ?_
 ·refine zu <| q 2 [(15, tb (r42 == []))] [0,3,8] rfl <| za <| rI h rfl (fun hc h => ?_) fun hc h => ?_
  ·refine zr <| y (y_build rfl zf65 rfl rfl .nil) rfl ?_
   refine y (y_iface rfl un65) rfl ?_
   exact r_panic (Option.some.inj h).symm rfl
  exact zk <| zt <| r_less [0,3,8] rfl <| by exact r_meetk () () h rfl rfl
 refine zu <| p 2 [0,3,18,19] rfl <| r_lits (B := 16) tabOk rfl el9 rfl rfl rfl (.cons rfl .nil) rfl fun v45 => ?_
 refine r_freeze (i := 0) (k := 20) rfl rfl ?_
 refine cB h fun r46 hr46 h => rc [1] (script_line_word_ok _ _ _ _ hr46) (by kernel_rfl) rfl rfl rfl fun _ => za <| zr <| p 2 [22,23] rfl <| yl 1 ((.snd (.snd (.snd (.snd (.fst .here)))))) ty3 rfl rfl rfl trivial rfl <| cB h fun r47 hr47 h => rcT hT [0] (script_line_number_ok _ _ _ _ hr47) (by kernel_rfl) rfl rfl rfl fun _ => zn <| zi ?_
 cases h
 refine xN ?_
 exact r_end0 rfl (fun _ => tup_ok [] .nil) ((.cons_cons _ (.cons _ .slnil)))

theorem strings_Join_ok (a0 : List (List Int)) (a1 : List Int) (r : List Int) (h : strings_Join a0 a1 = some r) : Pure Tryd.prog 66 [.one (.sl 9 .str) a0, ts a1] (ts r) := join_pure Go.Proofs.Tryd.strings_Join_none Go.Proofs.Tryd.strings_Join a0 a1 r h

theorem script_line_text_ok (p0 : Value) (a0 : List (List Int) × Unit) (r : List Int) (h : script_line_text a0 = some r) : Fn Tryd.prog 39 [tp p0] [Res.cls Cline p0 a0] (fun _ => ts r) (fun _ => [Res.cls Cline p0 a0]) := by
 unfold script_line_text at h
 refine enter Tryd.func39 rfl 8 rfl rfl fun F => ?_
 refine r_unCline fun b2 sv1 hp => ?_
 subst hp
 refine r_Cline (x := a0) ?_
 refine zu <| p 1 [0] rfl <| za <| zs <| r_unClineb fun sv3 => ?_
 refine zr <| p 3 [5] rfl <| yl 0 ((.fst .here)) tx1 rfl rfl rfl trivial rfl <| cB h fun r4 hr4 h => r_callw (strings_Join_ok a0.1 [32] _ hr4) (by kernel_rfl) rfl (.own 1 rfl rfl (.val rfl .nil)) rfl ?_
 refine p 1 [2] rfl <| zf <| r_Cline (x := a0) ?_
 cases h
 exact r_ret1 rfl (.tmp rfl) (fun _ _ g => g) (fun _ _ _ => (.cons_cons _ .slnil))

theorem script_Print_ok (a0 : List (Int × (Int × Int × List (List (Int)) × List (List (Int)) × Int × Int × Unit) × (Int × Int × (Int × Int × Int × Int × List (Int) × List Int × List Int × (List (List Int × Int × Int × List Int × Unit)) × Unit) × Unit) × Int × Int × Unit)) (r : List Int × Int) (h0 : script_Print a0 = some r) : FnT Tryd.prog tabs 16 [.one (.sl 55 Y55) a0] [] (fun _ => .tup [⟨.str, r.1⟩, ⟨(.int .i64), r.2⟩]) (fun _ => []) := by
 unfold script_Print at h0
 obtain ⟨o, h, hr⟩ := Option.map_eq_some_iff.1 h0
 clear h0
 subst hr
 unfold script_Print_in at h
 refine enterDT (kc := 36) o ([], 250) (res := fun r => (fun _ => .tup [⟨.str, r.1⟩, ⟨(.int .i64), r.2⟩])) (L' := fun r => (fun _ => [])) 2 3 Tryd.func16 rfl 24 rfl rfl rfl (by kernel_rfl) rfl (by kernel_rfl) rfl (fun F M w st => finPure (holds_str.2 ⟨rfl, by simp [byteOk], by simp [most]⟩) (holds_int.2 ⟨rfl, by decide⟩) st) fun F hT hb => ?_
 refine zu <| r_alloc (t := .str) rfl zf9 rfl fun b1 => r_alloc (t := (.int .i64)) rfl zf24 rfl fun b2 => zz <| y (y_makefn rfl rfl) rfl ?_
 refine r_defer rfl ?_
 refine zz <| r_alloc (t := BT) rfl zf92 rfl fun b3 => r_newbld (e := 5) ?_
 refine za <| bX h fun k4 hk4 h => ?_
 refine r_joink (γ := Unit) (fun (o5 : List Int) _ => [(2, ptr b1 0), (3, ptr b2 0), (4, tp (.pointer (some ⟨b3, 0, none⟩)))]) (fun (o5 : List Int) _ => [Res.cls (CBld 92 5) (.pointer (some ⟨b3, 0, none⟩)) o5, Res.var b2 24 (.int .i64) 0, Res.var b1 9 .str []]) k4 o ?_ ?_
 ·refine zu <| q 3 [(2, ptr b1 0), (3, ptr b2 0), (4, tp (.pointer (some ⟨b3, 0, none⟩))), (9, .one (.sl 55 Y55) a0), (10, ti (List.length a0 : Int)), (11, ti 0)] [] rfl <| za <| zb <| r_less [2,3,4,9,10,11] rfl <| r_loopg (γ := Unit) (fun (s9 : Int × List Int) _ => [(2, ptr b1 0), (3, ptr b2 0), (4, tp (.pointer (some ⟨b3, 0, none⟩))), (9, .one (.sl 55 Y55) a0), (10, ti (List.length a0 : Int)), (11, ti s9.1)]) (fun (s9 : Int × List Int) _ => [Res.cls (CBld 92 5) (.pointer (some ⟨b3, 0, none⟩)) s9.2, Res.var b2 24 (.int .i64) 0, Res.var b1 9 .str []]) (script_Print_in_l0 a0 k4) (0, []) () h rfl rfl ?_
  clear h
  intro m10 s9 gg h
  cases m10 with
  | zero => cases h
  | succ m10 =>
  simp only [script_Print_in_l0] at h
  refine zu <| q 1 [(11, ti s9.1), (12, tb (decide (s9.1 < (List.length a0 : Int))))] [2,3,4,9,10] rfl <| za <| zs <| rI h rfl (fun hc h => ?_) fun hc h => ?_
  ·refine zk <| zt <| zs <| zb <| zu <| iE h fun hc h => y (y_iref tabOk rfl rfl hc.1 hc.2 rfl ty55) rfl ?_
   refine y (y_ref rfl ty55) rfl ?_
   refine r_alloc (t := Y55) rfl zf55 rfl fun b11 => st 0 .here ty55 rfl rfl rfl rfl trivial <| zz <| r_alloc (t := (.pair (.raw (.slice none 0 0)) .unit)) rfl zf94 rfl fun b12 => r_nilown (.slice none 0 0) rfl 9 .str ?_
   refine zz <| yl 2 .here ty55 rfl rfl rfl trivial rfl <| pk [1,0,0,0,0,0] rfl <| r_Cline (x := ([], ())) ?_
   refine cB h fun or13 hr13 h => rcETK hT [0] (script_line_command_ok (.pointer (some ⟨b12, 0, none⟩)) ([], ()) (List.getD a0 (Int.toNat s9.1) (0, (0, 0, (List.replicate 2 ((List.replicate 32 (0 : Int)) : List (Int))), (List.replicate 2 ((List.replicate 32 (0 : Int)) : List (Int))), 0, 0, ()), (0, 0, (0, 0, 0, 0, (List.replicate 32 (0 : Int)), [], [], [], ()), ()), 0, 0, ())) _ hr13) h (by kernel_rfl) rfl rfl rfl (KC.of 2 3 9 24 b1 b2 3 2 rfl rfl rfl rfl rfl rfl rfl) fun r13 h _ => ?_
   refine zz <| cB h fun r14 hr14 h => rc [0] (script_line_text_ok _ _ _ hr14) (by kernel_rfl) rfl rfl rfl fun _ => cB h fun r15 hr15 h => rc [2] (strings_Builder_WriteString_ok _ _ _ _ hr15) (by kernel_rfl) rfl rfl rfl fun _ => za <| zr <| cB h fun r16 hr16 h => rc [0] (strings_Builder_WriteByte_ok _ _ _ _ hr16) (by kernel_rfl) rfl rfl rfl fun _ => zn <| zi <| zt <| zr <| q 2 [(11, ti (IntKind.wrap .i64 (s9.1 + 1)))] [2,3,4,9,10] rfl ?_
   exact za <| pk [0,2,2] rfl <| r_less [2,3,4,9,10,11] rfl <| by exact r_backg ((IntKind.wrap .i64 (s9.1 + 1)), r16.2) () (Nat.lt_succ_self _) h rfl rfl
  exact zx <| ze <| ze <| zq <| zt <| r_less [2,3,4] rfl <| by exact r_meetk s9.2 () h rfl rfl
 intro o5 gg h
 rw [← hk4] at h
 try dsimp only at h
 refine zs <| zu <| r_imp_at (R' := Res.cls (CBldR 92 5) (.pointer (some ⟨b3, 0, none⟩)) o5) 0 rfl bld_read <| rc [0] (strings_Builder_String_ok _ _) (by kernel_rfl) rfl rfl rfl fun _ => cB h fun r6 hr6 h => rcTK hT [] (script_long_ok o5 _ hr6) (by kernel_rfl) rfl rfl rfl fun _ => ?_
 refine za <| rI h rfl (fun hc h => ?_) fun hc h => ?_
 ·refine zu <| st 2 .here ty9 rfl rfl rfl rfl trivial <| st 1 .here ty24 rfl rfl rfl rfl trivial <| zf <| zT ?_
  cases h
  refine d_is ?_
  refine d_back ?_
  exact r_rets (rs := [.cell 2 9, .cell 3 24]) rfl (.cons (.cell 2 .here rfl rfl (by first | rfl | (simp only [Pth.off, T.size]; omega)) ok_here ty9) (.cons (.cell 1 .here rfl rfl (by first | rfl | (simp only [Pth.off, T.size]; omega)) ok_here ty24) (.nil))) rfl (fun _ vs g => tup_ok vs g) (fun _ _ _ => List.nil_sublist _)
 refine zy <| rc [0] (strings_Builder_String_ok _ _) (by kernel_rfl) rfl rfl rfl fun _ => st 2 .here ty9 rfl rfl rfl rfl trivial <| st 1 .here ty24 rfl rfl rfl rfl trivial <| zf ?_
 cases h
 refine d_is ?_
 refine d_back ?_
 exact r_rets (rs := [.cell 2 9, .cell 3 24]) rfl (.cons (.cell 2 .here rfl rfl (by first | rfl | (simp only [Pth.off, T.size]; omega)) ok_here ty9) (.cons (.cell 1 .here rfl rfl (by first | rfl | (simp only [Pth.off, T.size]; omega)) ok_here ty24) (.nil))) rfl (fun _ vs g => tup_ok vs g) (fun _ _ _ => List.nil_sublist _)

theorem escrowlaw25_head_ok  (r : Bool) (h : escrowlaw25_head  = some r) : FnT Tryd.prog tabs 10 [] [] (fun _ => tb r) (fun _ => []) := by
 unfold escrowlaw25_head at h
 refine enterT Tryd.func10 rfl 98 rfl rfl fun F hT => ?_
 refine zu <| p 1 [] rfl <| zz <| cB h fun r1 hr1 h => rcT hT [] (script_Parse_ok _ _ hr1) (by kernel_rfl) rfl rfl rfl fun v2 => q 5 [(1, .one (.raw (.slice none 0 0)) (tupv v2 0)), (2, ti r1.2)] [] rfl <| zz <| y (y_build rfl zf61 rfl rfl (.cons ((.fst .here)) rfl rfl ok_here (.cons ((.snd (.fst .here))) rfl rfl ok_here (.cons ((.snd (.snd (.fst .here)))) rfl rfl ok_here (.cons ((.snd (.snd (.snd (.fst .here))))) rfl rfl ok_here .nil))))) rfl ?_
 refine r_lits (B := 48) tabOk rfl el61 rfl rfl rfl (.cons rfl .nil) rfl fun v3 => ?_
 refine r_freeze (i := 0) (k := 15) rfl rfl ?_
 refine y (y_build rfl zf48 rfl rfl (.cons ((.fst .here)) rfl rfl ok_here (.cons ((.snd (.snd (.snd (.snd (.snd (.snd (.snd (.fst .here))))))))) rfl rfl ok_here .nil))) rfl ?_
 refine y (y_build rfl zf50 rfl rfl (.cons ((.fst .here)) rfl rfl ok_here (.cons ((.snd (.snd (.fst .here)))) rfl rfl ok_here .nil))) rfl ?_
 refine y (y_build rfl zf55 rfl rfl (.cons ((.fst .here)) rfl rfl ok_here (.cons ((.snd (.snd (.fst .here)))) rfl rfl ok_here .nil))) rfl ?_
 refine r_lits (B := 320) tabOk rfl el55 rfl rfl rfl (.cons rfl .nil) rfl fun v4 => ?_
 refine r_freeze (i := 0) (k := 19) rfl rfl ?_
 refine cB h fun r5 hr5 h => rcT hT [] (script_Print_ok _ _ hr5) (by kernel_rfl) rfl rfl rfl fun _ => q 5 [(3, ts r5.1), (4, ti r5.2)] [1,2] rfl <| zz <| cB h fun r6 hr6 h => rcT hT [] (script_Parse_ok _ _ hr6) (by kernel_rfl) rfl rfl rfl fun v7 => q 5 [(6, ti r6.2)] [1,2,3,4] rfl <| zz <| y (y_build rfl zf55 rfl rfl (.cons ((.fst .here)) rfl rfl ok_here .nil)) rfl ?_
 refine r_lits (B := 320) tabOk rfl el55 rfl rfl rfl (.cons rfl .nil) rfl fun v8 => ?_
 refine r_freeze (i := 0) (k := 29) rfl rfl ?_
 refine cB h fun r9 hr9 h => rcT hT [] (script_Print_ok _ _ hr9) (by kernel_rfl) rfl rfl rfl fun _ => q 5 [(8, ti r9.2)] [1,2,3,4,6] rfl <| za <| zs <| zu <| q 3 [(35, tb (r1.2 != 0))] [1,3,4,6,8] rfl ?_
 obtain ⟨b10, e, h⟩ := bnd_ex h; rw [e]
 refine r_lsplit (γ := Unit) 3 (fun _ => [(1, .one (.raw (.slice none 0 0)) (tupv v2 0)), (3, ts r5.1), (6, ti r6.2), (8, ti r9.2), (38, tb (b10 || (r5.2 != 0)))]) (fun _ => [Res.own (tupv v7 0) 55 Y55 r6.1, Res.own (tupv v2 0) 55 Y55 r1.1]) ?_ (fun _ => ?_)
 ·clear h
  cases b10
  ·exact q 3 [(38, tb (r5.2 != 0))] [1,3,6,8] rfl <| r_less [1,3,6,8,38] rfl <| za <| by exact r_meetg () rfl rfl
  exact p 3 [1,3,6,8,38] rfl <| za <| by exact r_meetg () rfl rfl
 refine q 1 [(39, tb (b10 || (r5.2 != 0)))] [1,3,6,8] rfl ?_
 obtain ⟨b11, e, h⟩ := bnd_ex h; rw [e]
 refine r_lsplit (γ := Unit) 3 (fun _ => [(1, .one (.raw (.slice none 0 0)) (tupv v2 0)), (3, ts r5.1), (8, ti r9.2), (42, tb (b11 || (r6.2 != 250)))]) (fun _ => [Res.own (tupv v7 0) 55 Y55 r6.1, Res.own (tupv v2 0) 55 Y55 r1.1]) ?_ (fun _ => ?_)
 ·clear h
  cases b11
  ·exact q 3 [(42, tb (r6.2 != 250))] [1,3,8] rfl <| r_less [1,3,8,42] rfl <| za <| by exact r_meetg () rfl rfl
  exact p 3 [1,3,8,42] rfl <| za <| by exact r_meetg () rfl rfl
 refine q 1 [(43, tb (b11 || (r6.2 != 250)))] [1,3,8] rfl ?_
 obtain ⟨b12, e, h⟩ := bnd_ex h; rw [e]
 refine r_lsplit (γ := Unit) 3 (fun _ => [(1, .one (.raw (.slice none 0 0)) (tupv v2 0)), (3, ts r5.1), (46, tb (b12 || (r9.2 != 250)))]) (fun _ => [Res.own (tupv v7 0) 55 Y55 r6.1, Res.own (tupv v2 0) 55 Y55 r1.1]) ?_ (fun _ => ?_)
 ·clear h
  cases b12
  ·exact q 3 [(46, tb (r9.2 != 250))] [1,3] rfl <| r_less [1,3,46] rfl <| za <| by exact r_meetg () rfl rfl
  exact p 3 [1,3,46] rfl <| za <| by exact r_meetg () rfl rfl
 refine q 1 [(47, tb (b12 || (r9.2 != 250)))] [1,3] rfl ?_
 obtain ⟨b13, e, h⟩ := bnd_ex h; rw [e]
 refine r_lsplit (γ := Unit) 4 (fun _ => [(1, .one (.raw (.slice none 0 0)) (tupv v2 0)), (3, ts r5.1), (51, tb (b13 || ((List.length r1.1 : Int) != 2)))]) (fun _ => [Res.own (tupv v7 0) 55 Y55 r6.1, Res.own (tupv v2 0) 55 Y55 r1.1]) ?_ (fun _ => ?_)
 ·clear h
  cases b13
  ·refine p 1 [1,3,47,48] rfl <| r_guard (by rfl) rfl ?_
   refine y (y_lenown tabOk 1 rfl rfl rfl) rfl ?_
   exact q 2 [(51, tb ((List.length r1.1 : Int) != 2))] [1,3] rfl <| r_less [1,3,51] rfl <| za <| by exact r_meetg () rfl rfl
  exact p 4 [1,3,51] rfl <| za <| by exact r_meetg () rfl rfl
 refine q 1 [(52, tb (b13 || ((List.length r1.1 : Int) != 2)))] [1,3] rfl ?_
 obtain ⟨b14, e, h⟩ := bnd_ex h; rw [e]
 refine bX h fun k15 hk15 h => ?_
 refine r_lsplitk (γ := Unit) 6 (fun (o16 : Bool) _ => [(1, .one (.raw (.slice none 0 0)) (tupv v2 0)), (3, ts r5.1), (58, tb o16)]) (fun _ _ => [Res.own (tupv v7 0) 55 Y55 r6.1, Res.own (tupv v2 0) 55 Y55 r1.1]) k15 r ?_ ?_
 ·rcases Bool.eq_false_or_eq_true b14 with hh | hh
  ·rw [hh] at h ⊢
   rw [if_pos rfl] at h
   exact p 6 [1,3,58] rfl <| zn <| r_less [1,3,58] rfl <| zt <| by exact r_meetk true () h rfl rfl
  rw [hh] at h ⊢
  rw [if_neg (by decide)] at h
  refine p 1 [1,3,52,53] rfl <| r_guard (by rfl) rfl ?_
  refine iE h fun hc h => r_expose 1 rfl (by first | omega | (simp only [List.length_set] at hc ⊢; omega)) fun b17 c18 hv => ?_
  rw [hv]
  try clear hv
  refine y (y_iraw tabOk rfl rfl hc.1 (by first | exact hc.2 | simpa using hc.2) rfl ty55) rfl ?_
  refine q 1 [(1, .one (.raw (.slice none 0 0)) (.slice (some ⟨b17, 0, none⟩) (List.length r1.1) c18)), (55, ptr b17 ((0 + 0 * 176) + 0))] [3,52] rfl <| r_guard (by rfl) rfl ?_
  refine y (y_lown 1 0 ((.fst .here)) rfl rfl (by first | omega | (simp only [List.length_set] at hc ⊢; omega)) (by first | rfl | (simp only [Pth.off, T.size]; omega)) (ok_fst ok_here) ty3) rfl ?_
  refine q 1 [(57, tb (((List.getD r1.1 0 (0, (0, 0, (List.replicate 2 ((List.replicate 32 (0 : Int)) : List (Int))), (List.replicate 2 ((List.replicate 32 (0 : Int)) : List (Int))), 0, 0, ()), (0, 0, (0, 0, 0, 0, (List.replicate 32 (0 : Int)), [], [], [], ()), ()), 0, 0, ())).1) != 2))] [1,3,52] rfl ?_
  obtain ⟨t19, e, h⟩ := bnd_ex h; rw [e]
  exact p 1 [1,3,58] rfl <| zn <| r_less [1,3,58] rfl <| zt <| by exact r_meetk t19 () h rfl rfl
 intro o16 _ h
 rw [← hk15] at h
 try dsimp only at h
 refine p 1 [1,3,59] rfl <| bX h fun k21 hk21 h => ?_
 refine r_lsplitk (γ := Unit) 7 (fun (o22 : Bool) _ => [(1, .one (.raw (.slice none 0 0)) (tupv v2 0)), (3, ts r5.1), (66, tb o22)]) (fun _ _ => [Res.own (tupv v7 0) 55 Y55 r6.1, Res.own (tupv v2 0) 55 Y55 r1.1]) k21 r ?_ ?_
 ·rcases Bool.eq_false_or_eq_true o16 with hh | hh
  ·rw [hh] at h ⊢
   rw [if_pos rfl] at h
   exact p 7 [1,3,66] rfl <| zn <| r_less [1,3,66] rfl <| zt <| by exact r_meetk true () h rfl rfl
  rw [hh] at h ⊢
  rw [if_neg (by decide)] at h
  refine p 1 [1,3,59,60] rfl <| r_guard (by rfl) rfl ?_
  refine iE h fun hc h => r_expose 1 rfl (by first | omega | (simp only [List.length_set] at hc ⊢; omega)) fun b23 c24 hv => ?_
  rw [hv]
  try clear hv
  refine y (y_iraw tabOk rfl rfl hc.1 (by first | exact hc.2 | simpa using hc.2) rfl ty55) rfl ?_
  refine q 2 [(1, .one (.raw (.slice none 0 0)) (.slice (some ⟨b23, 0, none⟩) (List.length r1.1) c24)), (63, ptr b23 (((0 + 0 * 176) + 133) + 0))] [3,59] rfl <| r_guard (by rfl) rfl ?_
  refine y (y_lown 1 0 ((.snd (.snd (.fst ((.fst .here)))))) rfl rfl (by first | omega | (simp only [List.length_set] at hc ⊢; omega)) (by first | rfl | (simp only [Pth.off, T.size]; omega)) (ok_snd (ok_snd (ok_fst (ok_fst ok_here)))) ty3) rfl ?_
  refine q 1 [(65, tb ((((List.getD r1.1 0 (0, (0, 0, (List.replicate 2 ((List.replicate 32 (0 : Int)) : List (Int))), (List.replicate 2 ((List.replicate 32 (0 : Int)) : List (Int))), 0, 0, ()), (0, 0, (0, 0, 0, 0, (List.replicate 32 (0 : Int)), [], [], [], ()), ()), 0, 0, ())).2.2.1).1) != 4))] [1,3,59] rfl ?_
  obtain ⟨t25, e, h⟩ := bnd_ex h; rw [e]
  exact p 1 [1,3,66] rfl <| zn <| r_less [1,3,66] rfl <| zt <| by exact r_meetk t25 () h rfl rfl
 intro o22 _ h
 rw [← hk21] at h
 try dsimp only at h
 refine p 1 [1,3,67] rfl <| bX h fun k27 hk27 h => ?_
 refine r_lsplitk (γ := Unit) 7 (fun (o28 : Bool) _ => [(1, .one (.raw (.slice none 0 0)) (tupv v2 0)), (3, ts r5.1), (74, tb o28)]) (fun _ _ => [Res.own (tupv v7 0) 55 Y55 r6.1, Res.own (tupv v2 0) 55 Y55 r1.1]) k27 r ?_ ?_
 ·rcases Bool.eq_false_or_eq_true o22 with hh | hh
  ·rw [hh] at h ⊢
   rw [if_pos rfl] at h
   exact p 7 [1,3,74] rfl <| zn <| r_less [1,3,74] rfl <| zt <| by exact r_meetk true () h rfl rfl
  rw [hh] at h ⊢
  rw [if_neg (by decide)] at h
  refine p 1 [1,3,67,68] rfl <| r_guard (by rfl) rfl ?_
  refine iE h fun hc h => r_expose 1 rfl (by first | omega | (simp only [List.length_set] at hc ⊢; omega)) fun b29 c30 hv => ?_
  rw [hv]
  try clear hv
  refine y (y_iraw tabOk rfl rfl hc.1 (by first | exact hc.2 | simpa using hc.2) rfl ty55) rfl ?_
  refine q 2 [(1, .one (.raw (.slice none 0 0)) (.slice (some ⟨b29, 0, none⟩) (List.length r1.1) c30)), (71, ptr b29 (((0 + 0 * 176) + 133) + 1))] [3,67] rfl <| r_guard (by rfl) rfl ?_
  refine y (y_lown 1 0 ((.snd (.snd (.fst ((.snd (.fst .here))))))) rfl rfl (by first | omega | (simp only [List.length_set] at hc ⊢; omega)) (by first | rfl | (simp only [Pth.off, T.size]; omega)) (ok_snd (ok_snd (ok_fst (ok_snd (ok_fst ok_here))))) ty3) rfl ?_
  refine q 1 [(73, tb ((((List.getD r1.1 0 (0, (0, 0, (List.replicate 2 ((List.replicate 32 (0 : Int)) : List (Int))), (List.replicate 2 ((List.replicate 32 (0 : Int)) : List (Int))), 0, 0, ()), (0, 0, (0, 0, 0, 0, (List.replicate 32 (0 : Int)), [], [], [], ()), ()), 0, 0, ())).2.2.1).2.1) != 1))] [1,3,67] rfl ?_
  obtain ⟨t31, e, h⟩ := bnd_ex h; rw [e]
  exact p 1 [1,3,74] rfl <| zn <| r_less [1,3,74] rfl <| zt <| by exact r_meetk t31 () h rfl rfl
 intro o28 _ h
 rw [← hk27] at h
 try dsimp only at h
 refine p 1 [1,3,75] rfl <| bX h fun k33 hk33 h => ?_
 refine r_lsplitk (γ := Unit) 6 (fun (o34 : Bool) _ => [(3, ts r5.1), (81, tb o34)]) (fun _ _ => [Res.own (tupv v7 0) 55 Y55 r6.1, Res.own (tupv v2 0) 55 Y55 r1.1]) k33 r ?_ ?_
 ·rcases Bool.eq_false_or_eq_true o28 with hh | hh
  ·rw [hh] at h ⊢
   rw [if_pos rfl] at h
   exact p 6 [3,81] rfl <| zn <| r_less [3,81] rfl <| zt <| by exact r_meetk true () h rfl rfl
  rw [hh] at h ⊢
  rw [if_neg (by decide)] at h
  refine p 1 [3,75,76] rfl <| r_guard (by rfl) rfl ?_
  refine iE h fun hc h => r_expose 1 rfl (by first | omega | (simp only [List.length_set] at hc ⊢; omega)) fun b35 c36 hv => ?_
  rw [hv]
  try clear hv
  refine y (y_iraw tabOk rfl rfl hc.1 (by first | exact hc.2 | simpa using hc.2) rfl ty55) rfl ?_
  refine p 1 [3,75,78] rfl <| r_guard (by rfl) rfl ?_
  refine y (y_lown 1 1 ((.fst .here)) rfl rfl (by first | omega | (simp only [List.length_set] at hc ⊢; omega)) (by first | rfl | (simp only [Pth.off, T.size]; omega)) (ok_fst ok_here) ty3) rfl ?_
  refine q 1 [(80, tb (((List.getD r1.1 1 (0, (0, 0, (List.replicate 2 ((List.replicate 32 (0 : Int)) : List (Int))), (List.replicate 2 ((List.replicate 32 (0 : Int)) : List (Int))), 0, 0, ()), (0, 0, (0, 0, 0, 0, (List.replicate 32 (0 : Int)), [], [], [], ()), ()), 0, 0, ())).1) != 9))] [3,75] rfl ?_
  obtain ⟨t37, e, h⟩ := bnd_ex h; rw [e]
  exact p 1 [3,81] rfl <| zn <| r_less [3,81] rfl <| zt <| by exact r_meetk t37 () h rfl rfl
 intro o34 _ h
 rw [← hk33] at h
 try dsimp only at h
 refine za <| rI h rfl (fun hc h => zu <| p 1 [0] rfl <| zf <| zT <| by cases h; exact r_ret1 rfl (.tmp rfl) (fun _ _ g => g) (fun _ _ _ => List.nil_sublist _)) fun hc h => zy <| q 2 [(83, tb (r5.1 == [115, 116, 101, 112, 32, 48, 32, 99, 114, 97, 115, 104, 32, 48, 32, 114, 101, 112, 108, 97, 99, 101, 32, 34, 102, 34, 32, 50, 32, 34, 97, 92, 120, 48, 48, 34, 10]))] [] rfl ?_
 obtain ⟨t38, e, h⟩ := bnd_ex h; rw [e]
 refine p 1 [84] rfl <| bX h fun k40 hk40 h => ?_
 refine r_lsplitk (γ := Unit) 3 (fun (o41 : Bool) _ => [(87, tb o41)]) (fun _ _ => [Res.own (tupv v7 0) 55 Y55 r6.1, Res.own (tupv v2 0) 55 Y55 r1.1]) k40 r ?_ ?_
 ·rcases Bool.eq_false_or_eq_true t38 with hh | hh
  ·rw [hh] at h ⊢
   rw [if_pos rfl] at h
   refine r_guard (by rfl) rfl ?_
   exact cB h fun r42 hr42 h => r_calls (script_Quote_ok _ _ hr42) (by kernel_rfl) rfl rfl <| q 2 [(87, tb (r42 == [34, 92, 34, 34]))] [] rfl <| zn <| r_less [87] rfl <| zt <| by exact r_meetk (r42 == [34, 92, 34, 34]) () h rfl rfl
  rw [hh] at h ⊢
  rw [if_neg (by decide)] at h
  exact p 3 [87] rfl <| zn <| r_less [87] rfl <| zt <| by exact r_meetk false () h rfl rfl
 intro o41 _ h
 rw [← hk40] at h
 try dsimp only at h
 refine p 1 [88] rfl <| bX h fun k44 hk44 h => ?_
 refine r_lsplitk (γ := Unit) 5 (fun (o45 : Bool) _ => [(93, tb o45)]) (fun _ _ => [Res.own (tupv v7 0) 55 Y55 r6.1, Res.own (tupv v2 0) 55 Y55 r1.1]) k44 r ?_ ?_
 ·rcases Bool.eq_false_or_eq_true o41 with hh | hh
  ·rw [hh] at h ⊢
   rw [if_pos rfl] at h
   refine r_guard (by rfl) rfl ?_
   refine y (y_build rfl zf34 rfl rfl (.cons (.elem 0 .here) rfl rfl (ok_elem (by first | omega | (simp only [List.length_set] at hc ⊢; omega)) ok_here) .nil)) rfl ?_
   refine r_guard (by rfl) rfl ?_
   refine cB h fun r46 hr46 h => r_calls (script_Hex_ok _ _ hr46) (by kernel_rfl) rfl rfl <| r_guard (by rfl) rfl ?_
   refine iE h fun hc h => y (y_sub (i := (0 : Int)) (j := 4) tabOk rfl rfl rfl hc.1 hc.2.1 hc.2.2 rfl) rfl ?_
   exact q 2 [(93, tb ((List.drop 0 (List.take 4 r46)) == [97, 98, 48, 48]))] [] rfl <| zn <| r_less [93] rfl <| zt <| by exact r_meetk ((List.drop 0 (List.take 4 r46)) == [97, 98, 48, 48]) () h rfl rfl
  rw [hh] at h ⊢
  rw [if_neg (by decide)] at h
  exact p 5 [93] rfl <| zn <| r_less [93] rfl <| zt <| by exact r_meetk false () h rfl rfl
 intro o45 _ h
 rw [← hk44] at h
 try dsimp only at h
 refine p 1 [94] rfl ?_
 refine r_lsplit (γ := Unit) 1 (fun _ => [(95, tb (o45 && true))]) (fun _ => [Res.own (tupv v7 0) 55 Y55 r6.1, Res.own (tupv v2 0) 55 Y55 r1.1]) ?_ (fun _ => ?_)
 ·clear h
  rcases Bool.eq_false_or_eq_true o45 with hh | hh
  ·rw [hh]
   exact p 1 [95] rfl <| za <| by exact r_meetg () rfl rfl
  rw [hh]
  exact p 1 [95] rfl <| za <| by exact r_meetg () rfl rfl
 refine p 1 [96] rfl ?_
 obtain ⟨b48, e, h⟩ := bnd_ex h; rw [e]
 refine r_lsplit (γ := Unit) 1 (fun _ => [(97, tb (b48 && true))]) (fun _ => [Res.own (tupv v7 0) 55 Y55 r6.1, Res.own (tupv v2 0) 55 Y55 r1.1]) ?_ (fun _ => ?_)
 ·clear h
  cases b48
  ·exact p 1 [97] rfl <| za <| by exact r_meetg () rfl rfl
  exact p 1 [97] rfl <| za <| by exact r_meetg () rfl rfl
 refine p 1 [0] rfl <| zf ?_
 cases h
 exact r_ret1 rfl (.tmp rfl) (fun _ _ g => g) (fun _ _ _ => List.nil_sublist _)

theorem escrowref25_Lines_ok (a0 : List Int) (r : List (List Int)) (h : escrowref25_Lines a0 = some r) : Fn Tryd.prog 31 [ts a0] [] (fun v => .one (.raw (.slice none 0 0)) v) (fun v => [Res.own v 9 .str r]) := by
 unfold escrowref25_Lines at h
 refine enter Tryd.func31 rfl 36 rfl rfl fun F => ?_
 refine zu <| p 1 [0] rfl <| zz <| p 1 [0,3] rfl <| r_nilown (.slice none 0 0) rfl 9 .str ?_
 refine zz <| p 1 [0,3,4] rfl <| za <| jK h (γ := Value) (fun (o2 : Int × List (List Int)) g3 => [(0, ts a0), (3, .one (.raw (.slice none 0 0)) g3), (4, ti o2.1)]) (fun (o2 : Int × List (List Int)) g3 => [Res.own g3 9 .str o2.2]) (fun k1 h => ?_) fun o2 g3 h => ?_
 ·refine zu <| p 1 [0,3,4,5] rfl <| za <| zb <| r_less [0,3,4,5] rfl <| r_loopg (γ := Value) (fun (s12 : Int × Int × List (List Int)) g13 => [(0, ts a0), (3, .one (.raw (.slice none 0 0)) g13), (4, ti s12.1), (5, ti s12.2.1)]) (fun (s12 : Int × Int × List (List Int)) g13 => [Res.own g13 9 .str s12.2.2]) (escrowref25_Lines_l0 a0 k1) (0, 0, []) (.slice none 0 0) h rfl rfl ?_
  clear h
  intro m14 s12 g13 h
  cases m14 with
  | zero => cases h
  | succ m14 =>
  simp only [escrowref25_Lines_l0] at h
  refine zs <| zu <| q 4 [(3, .one (.raw (.slice none 0 0)) g13), (4, ti s12.1), (5, ti s12.2.1), (9, tb (decide (s12.2.1 < (List.length a0 : Int))))] [0] rfl <| za <| rI h rfl (fun hc h => ?_) fun hc h => ?_
  ·refine zk <| zt <| jK h (γ := Value) (fun (o16 : Int × List (List Int)) g17 => [(0, ts a0), (3, .one (.raw (.slice none 0 0)) g17), (4, ti o16.1), (5, ti s12.2.1)]) (fun (o16 : Int × List (List Int)) g17 => [Res.own g17 9 .str o16.2]) (fun k15 h => ?_) fun o16 g17 h => ?_
   ·refine zb <| zu <| q 2 [(12, ts a0), (13, ti s12.2.1)] [0,3,4,5] rfl <| iE h fun hc h => y (y_byte tabOk rfl rfl hc.1 hc.2 rfl) rfl ?_
    refine q 1 [(15, tb ((List.getD a0 (Int.toNat s12.2.1) 0) == 10))] [0,3,4,5] rfl <| za <| rI h rfl (fun hc h => ?_) fun hc h => ?_
    ·refine zu <| q 4 [(16, .one (.raw (.slice none 0 0)) g13), (17, ts a0), (18, ti s12.1), (19, ti s12.2.1)] [0,5] rfl <| iE h fun hc h => y (y_sub (i := s12.1) (j := s12.2.1) tabOk rfl rfl rfl hc.1 hc.2.1 hc.2.2 rfl) rfl ?_
     refine r_lits (B := 16) tabOk rfl el9 rfl rfl rfl (.cons rfl .nil) rfl fun v19 => ?_
     refine iE h fun hc h => r_append (B := 16) tabOk 1 rfl rfl (src_own 0 rfl rfl) rfl el9 rfl rfl hc rfl fun v20 => ?_
     refine pk [1] rfl <| p 1 [0,3,5] rfl <| za <| zr <| q 3 [(4, ti (IntKind.wrap .i64 (s12.2.1 + 1)))] [0,3,5] rfl ?_
     obtain ⟨from21, e, h⟩ := bnd_ex h; rw [e]
     exact zn <| zi <| zt <| r_less [0,3,4,5] rfl <| by exact r_meetk (from21, (s12.2.2 ++ [(List.drop (Int.toNat s12.1) (List.take (Int.toNat s12.2.1) a0))])) v20 h rfl rfl
    exact zk <| zi <| zt <| r_less [0,3,4,5] rfl <| by exact r_meetk (s12.1, s12.2.2) g13 h rfl rfl
   refine zr <| q 3 [(0, ts a0), (3, .one (.raw (.slice none 0 0)) g17), (4, ti o16.1), (5, ti (IntKind.wrap .i64 (s12.2.1 + 1)))] [] rfl ?_
   obtain ⟨i18, e, h⟩ := bnd_ex h; rw [e]
   exact za <| r_less [0,3,4,5] rfl <| by exact r_backg (o16.1, i18, o16.2) g17 (Nat.lt_succ_self _) h rfl rfl
  exact zx <| ze <| ze <| zq <| zt <| r_less [0,3,4] rfl <| by exact r_meetk (s12.1, s12.2.2) g13 h rfl rfl
 refine jK h (γ := Value) (fun (o5 : List (List Int)) g6 => [(3, .one (.raw (.slice none 0 0)) g6)]) (fun (o5 : List (List Int)) g6 => [Res.own g6 9 .str o5]) (fun k4 h => ?_) fun o5 g6 h => ?_
 ·refine zu <| q 4 [(0, ts a0), (3, .one (.raw (.slice none 0 0)) g3), (4, ti o2.1), (28, tb (decide (o2.1 < (List.length a0 : Int))))] [] rfl <| za <| rI h rfl (fun hc h => ?_) fun hc h => ?_
  ·refine zr <| q 3 [(29, .one (.raw (.slice none 0 0)) g3), (30, ts a0), (31, ti o2.1)] [] rfl <| iE h fun hc h => y (y_sub (i := o2.1) (j := (List.length a0 : Int)) tabOk rfl rfl rfl hc.1 hc.2.1 hc.2.2 rfl) rfl ?_
   refine r_lits (B := 16) tabOk rfl el9 rfl rfl rfl (.cons rfl .nil) rfl fun v7 => ?_
   refine iE h fun hc h => r_append (B := 16) tabOk 1 rfl rfl (src_own 0 rfl rfl) rfl el9 rfl rfl hc rfl fun v8 => ?_
   exact pk [1] rfl <| p 1 [3] rfl <| za <| r_less [3] rfl <| by exact r_meetk (o2.2 ++ [(List.drop (Int.toNat o2.1) (List.take (Int.toNat (List.length a0 : Int)) a0))]) v8 h rfl rfl
  exact zk <| zt <| r_less [3] rfl <| by exact r_meetk o2.2 g3 h rfl rfl
 refine zu <| p 2 [2] rfl <| zf ?_
 cases h
 exact r_ret1 rfl (.tmp rfl) (fun _ _ g => holds_raw.2 ⟨rfl, by rw [(holds_raw.1 g).1]; exact (holds_raw.1 g).2⟩) (fun _ _ g => by obtain ⟨rfl, _⟩ := holds_raw.1 g; exact (.cons_cons _ .slnil))

theorem escrowref25_long_ok (a0 : List Int) (r : Bool) (h : escrowref25_long a0 = some r) : Pure Tryd.prog 30 [ts a0] (tb r) := by
 unfold escrowref25_long at h
 refine enter Tryd.func30 rfl 27 rfl rfl fun F => ?_
 refine zu <| p 1 [0] rfl <| zz <| p 1 [0,5] rfl <| cB h fun r1 hr1 h => rc [] (escrowref25_Lines_ok _ _ hr1) (by kernel_rfl) rfl rfl rfl fun v2 => p 1 [0,3] rfl <| za <| zs <| zu <| q 4 [(10, tb (decide ((List.length a0 : Int) > 65536)))] [3] rfl ?_
 obtain ⟨b3, e, h⟩ := bnd_ex h; rw [e]
 refine r_lsplit (γ := Unit) 4 (fun _ => [(3, .one (.raw (.slice none 0 0)) v2), (14, tb (b3 || (decide ((List.length r1 : Int) > 1024))))]) (fun _ => [Res.own v2 9 .str r1]) ?_ (fun _ => ?_)
 ·clear h
  cases b3
  ·refine p 1 [3,10,11] rfl <| r_guard (by rfl) rfl ?_
   refine y (y_lenown tabOk 0 rfl rfl rfl) rfl ?_
   exact q 2 [(14, tb (decide ((List.length r1 : Int) > 1024)))] [3] rfl <| r_less [3,14] rfl <| za <| by exact r_meetg () rfl rfl
  exact p 4 [3,14] rfl <| za <| by exact r_meetg () rfl rfl
 refine za <| rI h rfl (fun hc h => zu <| p 1 [2] rfl <| zf <| zT <| by cases h; exact r_ret1 rfl (.tmp rfl) (fun _ _ g => g) (fun _ _ _ => List.nil_sublist _)) fun hc h => zk <| zt <| jK h (γ := Value) (fun (o5 : Unit) g6 => []) (fun (o5 : Unit) g6 => [Res.own g6 9 .str r1]) (fun k4 h => ?_) fun o5 g6 h => ?_
 ·refine zu <| p 1 [3,4] rfl <| za <| zb <| r_less [3,4] rfl <| r_loopg (γ := Value) (fun (s10 : Int) g11 => [(3, .one (.raw (.slice none 0 0)) g11), (4, ti s10)]) (fun (s10 : Int) g11 => [Res.own g11 9 .str r1]) (escrowref25_long_l0 r1 k4) 0 v2 h rfl rfl ?_
  clear h
  intro m12 s10 g11 h
  cases m12 with
  | zero => cases h
  | succ m12 =>
  simp only [escrowref25_long_l0] at h
  refine zs <| zu <| p 2 [3,4,15,16] rfl <| y (y_lenown tabOk 0 rfl rfl rfl) rfl ?_
  refine q 1 [(18, tb (decide (s10 < (List.length r1 : Int))))] [3,4] rfl <| za <| rI h rfl (fun hc h => ?_) fun hc h => ?_
  ·refine zk <| zt <| zs <| zb <| zu <| p 2 [3,4,21,22] rfl <| iE h fun hc h => r_expose 0 rfl (by first | omega | (simp only [List.length_set] at hc ⊢; omega)) fun b13 c14 hv => ?_
   rw [hv]
   try clear hv
   refine y (y_iraw tabOk rfl rfl hc.1 (by first | exact hc.2 | simpa using hc.2) rfl ty9) rfl ?_
   refine y (y_lown 0 (Int.toNat s10) .here rfl rfl (by first | omega | (simp only [List.length_set] at hc ⊢; omega)) (by first | rfl | (simp only [Pth.off, T.size]; omega)) ok_here ty9) rfl ?_
   refine q 2 [(3, .one (.raw (.slice none 0 0)) (.slice (some ⟨b13, 0, none⟩) (List.length r1) c14)), (26, tb (decide ((List.length (List.getD r1 (Int.toNat s10) []) : Int) > 4096)))] [4] rfl <| za <| rI h rfl (fun hc h => zu <| p 1 [2] rfl <| zf <| zB <| zT <| zT <| zB <| zT <| by cases h; exact r_ret1 rfl (.tmp rfl) (fun _ _ g => g) (fun _ _ _ => List.nil_sublist _)) fun hc h => zk <| zi <| zt <| zr <| p 3 [3,4] rfl ?_
   obtain ⟨i15, e, h⟩ := bnd_ex h; rw [e]
   exact za <| r_less [3,4] rfl <| by exact r_backg i15 (.slice (some ⟨b13, 0, none⟩) (List.length r1) c14) (Nat.lt_succ_self _) h rfl rfl
  exact zx <| ze <| ze <| zq <| zt <| r_less [] rfl <| by exact r_meetk () g11 h rfl rfl
 refine zu <| p 1 [2] rfl <| zf ?_
 cases h
 exact r_ret1 rfl (.tmp rfl) (fun _ _ g => g) (fun _ _ _ => List.nil_sublist _)

theorem escrowref25_digit_ok (a0 : Int) (r : Int) (h : escrowref25_digit a0 = some r) : Pure Tryd.prog 80 [.one (.int .u8) a0] (ti r) := by
 unfold escrowref25_digit at h
 refine enter Tryd.func80 rfl 13 rfl rfl fun F => ?_
 refine zu <| p 1 [0] rfl <| za <| jK h (γ := Unit) (fun (o2 : Unit) _ => []) (fun (o2 : Unit) _ => []) (fun k1 h => ?_) fun o2 gg h => ?_
 ·refine zu <| p 1 [0,3] rfl <| za <| zb <| r_less [0,3] rfl <| r_loopg (γ := Unit) (fun (s4 : Int) _ => [(0, .one (.int .u8) a0), (3, ti s4)]) (fun (s4 : Int) _ => []) (escrowref25_digit_l0 a0 k1) 0 () h rfl rfl ?_
  clear h
  intro m5 s4 gg h
  cases m5 with
  | zero => cases h
  | succ m5 =>
  simp only [escrowref25_digit_l0] at h
  refine zs <| zu <| p 2 [0,3,5] rfl <| za <| rI h rfl (fun hc h => ?_) fun hc h => ?_
  ·refine zk <| zt <| zs <| zb <| zu <| p 1 [0,3,8] rfl <| iE h fun hc h => y (y_byte tabOk rfl rfl hc.1 hc.2 rfl) rfl ?_
   refine q 2 [(11, tb ((List.getD [48, 49, 50, 51, 52, 53, 54, 55, 56, 57, 97, 98, 99, 100, 101, 102] (Int.toNat s4) 0) == a0))] [0,3] rfl ?_
   obtain ⟨t6, e, h⟩ := bnd_ex h; rw [e]
   refine za <| rI h rfl (fun hc h => zu <| p 2 [2] rfl <| zf <| zB <| zT <| zT <| zB <| zT <| by cases h; exact r_ret1 rfl (.tmp rfl) (fun _ _ g => g) (fun _ _ _ => List.nil_sublist _)) fun hc h => zk <| zi <| zt <| zr <| p 3 [0,3] rfl ?_
   obtain ⟨i7, e, h⟩ := bnd_ex h; rw [e]
   exact za <| r_less [0,3] rfl <| by exact r_backg i7 () (Nat.lt_succ_self _) h rfl rfl
  exact zx <| ze <| ze <| zq <| zt <| r_less [] rfl <| by exact r_meetk () () h rfl rfl
 refine zu <| p 1 [2] rfl <| zf ?_
 cases h
 exact r_ret1 rfl (.tmp rfl) (fun _ _ g => g) (fun _ _ _ => List.nil_sublist _)

theorem escrowref25_quoted_ok (a0 : List Int) (a1 : Int) (r : List Int × Int) (h : escrowref25_quoted a0 a1 = some r) : Pure Tryd.prog 54 [ts a0, ti a1] (.tup [⟨.str, r.1⟩, ⟨(.int .i64), r.2⟩]) := by
 unfold escrowref25_quoted at h
 refine enter Tryd.func54 rfl 117 rfl rfl fun F => ?_
 refine zu <| p 2 [0,1] rfl <| zz <| p 1 [0,1,6] rfl <| r_nilown (.slice none 0 0) rfl 5 (.int .u8) ?_
 refine zz <| p 3 [0,6,7] rfl ?_
 obtain ⟨i1, e, h⟩ := bnd_ex h; rw [e]
 refine za <| jK h (γ := Value) (fun (o3 : List (Int)) g4 => []) (fun (o3 : List (Int)) g4 => [Res.own g4 5 (.int .u8) o3]) (fun k2 h => ?_) fun o3 g4 h => ?_
 ·refine zb <| r_less [0,6,7] rfl <| r_loopg (γ := Value) (fun (s8 : Int × List (Int)) g9 => [(0, ts a0), (6, .one (.raw (.slice none 0 0)) g9), (7, ti s8.1)]) (fun (s8 : Int × List (Int)) g9 => [Res.own g9 5 (.int .u8) s8.2]) (escrowref25_quoted_l0 a0 k2) (i1, []) (.slice none 0 0) h rfl rfl ?_
  clear h
  intro m10 s8 g9 h
  cases m10 with
  | zero => cases h
  | succ m10 =>
  simp only [escrowref25_quoted_l0] at h
  refine zs <| zu <| q 4 [(6, .one (.raw (.slice none 0 0)) g9), (7, ti s8.1), (14, tb (decide (s8.1 < (List.length a0 : Int))))] [0] rfl <| za <| rI h rfl (fun hc h => ?_) fun hc h => ?_
  ·refine zk <| zt <| zb <| zu <| q 2 [(15, ts a0), (16, ti s8.1)] [0,6,7] rfl <| iE h fun hc h => y (y_byte tabOk rfl rfl hc.1 hc.2 rfl) rfl ?_
   refine q 1 [(8, .one (.int .u8) (List.getD a0 (Int.toNat s8.1) 0))] [0,6,7] rfl ?_
   obtain ⟨c11, e, h⟩ := bnd_ex h; rw [e]
   refine za <| zb <| zu <| p 3 [0,6,7,8,18] rfl <| za <| rI h rfl (fun hc h => ?_) fun hc h => ?_
   ·refine zu <| p 1 [7,21] rfl <| y (y_text tabOk 0 rfl rfl rfl rfl rfl) rfl ?_
    refine q 4 [(4, ts s8.2), (5, ti (IntKind.wrap .i64 (s8.1 + 1)))] [] rfl <| zf <| zB <| zB <| zT <| zB <| zT ?_
    cases h
    exact r_rets (rs := [.tmp 4, .tmp 5]) rfl (.cons (.tmp rfl) (.cons (.tmp rfl) (.nil))) rfl (fun _ vs g => tup_ok vs g) (fun _ _ _ => List.nil_sublist _)
   refine zu <| p 3 [0,6,7,8,28] rfl ?_
   obtain ⟨b12, e, h⟩ := bnd_ex h; rw [e]
   refine r_lsplit (γ := Unit) 3 (fun _ => [(0, ts a0), (6, .one (.raw (.slice none 0 0)) g9), (7, ti s8.1), (8, .one (.int .u8) c11), (31, tb (b12 || (decide (c11 > 126))))]) (fun _ => [Res.own g9 5 (.int .u8) s8.2]) ?_ (fun _ => ?_)
   ·clear h
    cases b12
    ·exact p 3 [0,6,7,8,31] rfl <| za <| by exact r_meetg () rfl rfl
    exact p 3 [0,6,7,8,31] rfl <| za <| by exact r_meetg () rfl rfl
   refine p 1 [0,6,7,8,25] rfl <| za <| rI h rfl (fun hc h => zu <| q 2 [(4, ts []), (5, ti (-1))] [] rfl <| zf <| zB <| zB <| zT <| zB <| zT <| by cases h; exact r_rets (rs := [.tmp 4, .tmp 5]) rfl (.cons (.tmp rfl) (.cons (.tmp rfl) (.nil))) rfl (fun _ vs g => tup_ok vs g) (fun _ _ _ => List.nil_sublist _)) fun hc h => zu <| p 3 [0,6,7,8,32] rfl <| za <| rI h rfl (fun hc h => ?_) fun hc h => ?_
   ·refine zu <| p 2 [0,7,35,36] rfl <| r_lits (B := 1) tabOk rfl el5 rfl rfl rfl (.cons rfl .nil) rfl fun v13 => ?_
    refine iE h fun hc h => r_append (B := 1) tabOk 1 rfl rfl (src_own 0 rfl rfl) rfl el5 rfl rfl hc rfl fun v14 => ?_
    refine pk [1] rfl <| p 1 [0,6,7] rfl <| za <| zr <| q 3 [(7, ti (IntKind.wrap .i64 (s8.1 + 1)))] [0,6] rfl ?_
    obtain ⟨i15, e, h⟩ := bnd_ex h; rw [e]
    exact zn <| zi <| zi <| zt <| r_less [0,6,7] rfl <| by exact r_backg (i15, (s8.2 ++ [c11])) v14 (Nat.lt_succ_self _) h rfl rfl
   refine zu <| q 6 [(47, tb (decide ((IntKind.wrap .i64 (s8.1 + 1)) < (List.length a0 : Int))))] [0,6,7] rfl ?_
   obtain ⟨b16, e, h⟩ := bnd_ex h; rw [e]
   refine bX h fun k17 hk17 h => ?_
   refine r_lsplitk (γ := Unit) 13 (fun (o18 : Bool) _ => [(0, ts a0), (6, .one (.raw (.slice none 0 0)) g9), (7, ti s8.1), (60, tb o18)]) (fun _ _ => [Res.own g9 5 (.int .u8) s8.2]) k17 r ?_ ?_
   ·rcases Bool.eq_false_or_eq_true b16 with hh | hh
    ·rw [hh] at h ⊢
     rw [if_pos rfl] at h
     refine q 3 [(47, tb true), (48, ts a0), (50, ti (IntKind.wrap .i64 (s8.1 + 1)))] [0,6,7] rfl <| r_guard (by rfl) rfl ?_
     refine iE h fun hc h => y (y_byte tabOk rfl rfl hc.1 hc.2 rfl) rfl ?_
     refine q 2 [(53, tb ((List.getD a0 (Int.toNat (IntKind.wrap .i64 (s8.1 + 1))) 0) == 34))] [0,6,7,47] rfl ?_
     obtain ⟨b19, e, h⟩ := bnd_ex h; rw [e]
     refine bX h fun k20 hk20 h => ?_
     refine r_lsplitk (γ := Unit) 6 (fun (o21 : Bool) _ => [(0, ts a0), (6, .one (.raw (.slice none 0 0)) g9), (7, ti s8.1), (47, tb true), (59, tb o21)]) (fun _ _ => [Res.own g9 5 (.int .u8) s8.2]) k20 r ?_ ?_
     ·rcases Bool.eq_false_or_eq_true b19 with hh | hh
      ·rw [hh] at h ⊢
       rw [if_pos rfl] at h
       exact p 6 [0,6,7,47,59] rfl <| zn <| r_less [0,6,7,47,59] rfl <| zt <| by exact r_meetk true () h rfl rfl
      rw [hh] at h ⊢
      rw [if_neg (by decide)] at h
      refine q 3 [(53, tb false), (54, ts a0), (56, ti (IntKind.wrap .i64 (s8.1 + 1)))] [0,6,7,47] rfl <| r_guard (by rfl) rfl ?_
      refine iE h fun hc h => y (y_byte tabOk rfl rfl hc.1 hc.2 rfl) rfl ?_
      exact q 2 [(59, tb ((List.getD a0 (Int.toNat (IntKind.wrap .i64 (s8.1 + 1))) 0) == 92))] [0,6,7,47] rfl <| zn <| r_less [0,6,7,47,59] rfl <| zt <| by exact r_meetk ((List.getD a0 (Int.toNat (IntKind.wrap .i64 (s8.1 + 1))) 0) == 92) () h rfl rfl
     intro o21 _ h
     rw [← hk20] at h
     try dsimp only at h
     exact p 1 [0,6,7,60] rfl <| zn <| r_less [0,6,7,60] rfl <| zt <| by exact r_meetk o21 () h rfl rfl
    rw [hh] at h ⊢
    rw [if_neg (by decide)] at h
    exact p 13 [0,6,7,60] rfl <| zn <| r_less [0,6,7,60] rfl <| zt <| by exact r_meetk false () h rfl rfl
   intro o18 _ h
   rw [← hk17] at h
   try dsimp only at h
   refine p 1 [0,6,7,41] rfl <| za <| rI h rfl (fun hc h => ?_) fun hc h => ?_
   ·refine zu <| q 4 [(61, .one (.raw (.slice none 0 0)) g9), (62, ts a0), (64, ti (IntKind.wrap .i64 (s8.1 + 1)))] [0,7] rfl <| iE h fun hc h => y (y_byte tabOk rfl rfl hc.1 hc.2 rfl) rfl ?_
    refine r_lits (B := 1) tabOk rfl el5 rfl rfl rfl (.cons rfl .nil) rfl fun v22 => ?_
    refine iE h fun hc h => r_append (B := 1) tabOk 1 rfl rfl (src_own 0 rfl rfl) rfl el5 rfl rfl hc rfl fun v23 => ?_
    refine pk [1] rfl <| p 1 [0,6,7] rfl <| za <| zr <| q 3 [(7, ti (IntKind.wrap .i64 (s8.1 + 2)))] [0,6] rfl ?_
    obtain ⟨i24, e, h⟩ := bnd_ex h; rw [e]
    exact zn <| zi <| zi <| zt <| r_less [0,6,7] rfl <| by exact r_backg (i24, (s8.2 ++ [(List.getD a0 (Int.toNat (IntKind.wrap .i64 (s8.1 + 1))) 0)])) v23 (Nat.lt_succ_self _) h rfl rfl
   refine zu <| q 6 [(76, tb (decide ((IntKind.wrap .i64 (s8.1 + 3)) < (List.length a0 : Int))))] [0,6,7] rfl ?_
   obtain ⟨b25, e, h⟩ := bnd_ex h; rw [e]
   refine bX h fun k26 hk26 h => ?_
   refine r_lsplitk (γ := Unit) 6 (fun (o27 : Bool) _ => [(0, ts a0), (6, .one (.raw (.slice none 0 0)) g9), (7, ti s8.1), (82, tb o27)]) (fun _ _ => [Res.own g9 5 (.int .u8) s8.2]) k26 r ?_ ?_
   ·rcases Bool.eq_false_or_eq_true b25 with hh | hh
    ·rw [hh] at h ⊢
     rw [if_pos rfl] at h
     refine q 3 [(76, tb true), (77, ts a0), (79, ti (IntKind.wrap .i64 (s8.1 + 1)))] [0,6,7] rfl <| r_guard (by rfl) rfl ?_
     refine iE h fun hc h => y (y_byte tabOk rfl rfl hc.1 hc.2 rfl) rfl ?_
     exact q 2 [(82, tb ((List.getD a0 (Int.toNat (IntKind.wrap .i64 (s8.1 + 1))) 0) == 120))] [0,6,7] rfl <| zn <| r_less [0,6,7,82] rfl <| zt <| by exact r_meetk ((List.getD a0 (Int.toNat (IntKind.wrap .i64 (s8.1 + 1))) 0) == 120) () h rfl rfl
    rw [hh] at h ⊢
    rw [if_neg (by decide)] at h
    exact p 6 [0,6,7,82] rfl <| zn <| r_less [0,6,7,82] rfl <| zt <| by exact r_meetk false () h rfl rfl
   intro o27 _ h
   rw [← hk26] at h
   try dsimp only at h
   refine p 1 [0,6,7,83] rfl <| bX h fun k29 hk29 h => ?_
   refine r_lsplitk (γ := Unit) 7 (fun (o30 : Bool) _ => [(0, ts a0), (6, .one (.raw (.slice none 0 0)) g9), (7, ti s8.1), (90, tb o30)]) (fun _ _ => [Res.own g9 5 (.int .u8) s8.2]) k29 r ?_ ?_
   ·rcases Bool.eq_false_or_eq_true o27 with hh | hh
    ·rw [hh] at h ⊢
     rw [if_pos rfl] at h
     refine q 3 [(83, tb true), (84, ts a0), (86, ti (IntKind.wrap .i64 (s8.1 + 2)))] [0,6,7] rfl <| r_guard (by rfl) rfl ?_
     refine iE h fun hc h => y (y_byte tabOk rfl rfl hc.1 hc.2 rfl) rfl ?_
     refine r_guard (by rfl) rfl ?_
     exact cB h fun r31 hr31 h => r_calls (escrowref25_digit_ok _ _ hr31) (by kernel_rfl) rfl rfl <| p 2 [0,6,7,90] rfl <| zn <| r_less [0,6,7,90] rfl <| zt <| by exact r_meetk (decide (r31 ≥ 0)) () h rfl rfl
    rw [hh] at h ⊢
    rw [if_neg (by decide)] at h
    exact p 7 [0,6,7,90] rfl <| zn <| r_less [0,6,7,90] rfl <| zt <| by exact r_meetk false () h rfl rfl
   intro o30 _ h
   rw [← hk29] at h
   try dsimp only at h
   refine p 1 [0,6,7,91] rfl <| bX h fun k33 hk33 h => ?_
   refine r_lsplitk (γ := Unit) 7 (fun (o34 : Bool) _ => [(0, ts a0), (6, .one (.raw (.slice none 0 0)) g9), (7, ti s8.1), (98, tb o34)]) (fun _ _ => [Res.own g9 5 (.int .u8) s8.2]) k33 r ?_ ?_
   ·rcases Bool.eq_false_or_eq_true o30 with hh | hh
    ·rw [hh] at h ⊢
     rw [if_pos rfl] at h
     refine q 3 [(91, tb true), (92, ts a0), (94, ti (IntKind.wrap .i64 (s8.1 + 3)))] [0,6,7] rfl <| r_guard (by rfl) rfl ?_
     refine iE h fun hc h => y (y_byte tabOk rfl rfl hc.1 hc.2 rfl) rfl ?_
     refine r_guard (by rfl) rfl ?_
     exact cB h fun r35 hr35 h => r_calls (escrowref25_digit_ok _ _ hr35) (by kernel_rfl) rfl rfl <| p 2 [0,6,7,98] rfl <| zn <| r_less [0,6,7,98] rfl <| zt <| by exact r_meetk (decide (r35 ≥ 0)) () h rfl rfl
    rw [hh] at h ⊢
    rw [if_neg (by decide)] at h
    exact p 7 [0,6,7,98] rfl <| zn <| r_less [0,6,7,98] rfl <| zt <| by exact r_meetk false () h rfl rfl
   intro o34 _ h
   rw [← hk33] at h
   try dsimp only at h
   refine p 1 [0,6,7,70] rfl <| za <| rI h rfl (fun hc h => ?_) fun hc h => ?_
   ·refine zs <| r_any (by kernel_rfl) ?_
    refine a_float (i := 0) (t := .one (.raw (.slice none 0 0)) g9) (blind_then (blind_block (blind_block (blind_then (blind_block (blind_then blind_body)))))) rfl (by kernel_rfl) (by kernel_rfl) (by kernel_rfl) (y_pure tabOk rfl) rfl ?_
    refine a_float (i := 1) (t := ts a0) (blind_then (blind_block (blind_block (blind_then (blind_block (blind_then blind_body)))))) rfl (by kernel_rfl) (by kernel_rfl) (by kernel_rfl) (y_pure tabOk rfl) rfl ?_
    refine a_float (i := 2) (t := ti s8.1) (blind_then (blind_block (blind_block (blind_then (blind_block (blind_then blind_body)))))) rfl (by kernel_rfl) (by kernel_rfl) (by kernel_rfl) (y_pure tabOk rfl) rfl ?_
    refine a_float (i := 3) (t := ti (IntKind.wrap .i64 (s8.1 + 2))) (blind_then (blind_block (blind_block (blind_then (blind_block (blind_then blind_body)))))) rfl (by kernel_rfl) (by kernel_rfl) (by kernel_rfl) (y_pure tabOk rfl) rfl ?_
    refine iE h fun hc h => a_float (i := 4) (t := .one (.int .u8) (List.getD a0 (Int.toNat (IntKind.wrap .i64 (s8.1 + 2))) 0)) (blind_then (blind_block (blind_block (blind_then (blind_block (blind_then blind_body)))))) rfl (by kernel_rfl) (by kernel_rfl) (by kernel_rfl) (y_byte tabOk rfl rfl hc.1 hc.2 rfl) rfl ?_
    refine a_float (i := 7) (t := ts a0) (blind_then (blind_block (blind_block (blind_then (blind_block (blind_then blind_body)))))) rfl (by kernel_rfl) (by kernel_rfl) (by kernel_rfl) (y_pure tabOk rfl) rfl ?_
    refine a_float (i := 8) (t := ti s8.1) (blind_then (blind_block (blind_block (blind_then (blind_block (blind_then blind_body)))))) rfl (by kernel_rfl) (by kernel_rfl) (by kernel_rfl) (y_pure tabOk rfl) rfl ?_
    refine a_float (i := 9) (t := ti (IntKind.wrap .i64 (s8.1 + 3))) (blind_then (blind_block (blind_block (blind_then (blind_block (blind_then blind_body)))))) rfl (by kernel_rfl) (by kernel_rfl) (by kernel_rfl) (y_pure tabOk rfl) rfl ?_
    refine iE h fun hc h => a_float (i := 10) (t := .one (.int .u8) (List.getD a0 (Int.toNat (IntKind.wrap .i64 (s8.1 + 3))) 0)) (blind_then (blind_block (blind_block (blind_then (blind_block (blind_then blind_body)))))) rfl (by kernel_rfl) (by kernel_rfl) (by kernel_rfl) (y_byte tabOk rfl rfl hc.1 hc.2 rfl) rfl ?_
    refine a_one (i := 5) (by kernel_rfl) rfl ?_
    refine cB h fun r36 hr36 h => r_calls (escrowref25_digit_ok _ _ hr36) (by kernel_rfl) rfl rfl <| za <| r_less [0,6,7,99,104,109] rfl <| a_float (i := 6) (t := ti (IntKind.wrap .i64 (16 * r36))) (blind_then (blind_block (blind_block (blind_then (blind_block (blind_then blind_body)))))) rfl (by kernel_rfl) (by kernel_rfl) (by kernel_rfl) (y_pure tabOk rfl) rfl ?_
    refine a_one (i := 11) (by kernel_rfl) rfl ?_
    refine cB h fun r37 hr37 h => r_calls (escrowref25_digit_ok _ _ hr37) (by kernel_rfl) rfl rfl <| za <| r_less [0,6,7,99,105,110] rfl <| a_float (i := 12) (t := ti (IntKind.wrap .i64 ((IntKind.wrap .i64 (16 * r36)) + r37))) (blind_then (blind_block (blind_block (blind_then (blind_block (blind_then blind_body)))))) rfl (by kernel_rfl) (by kernel_rfl) (by kernel_rfl) (y_pure tabOk rfl) rfl ?_
    refine a_float (i := 13) (t := .one (.int .u8) (IntKind.wrap .u8 (IntKind.wrap .i64 ((IntKind.wrap .i64 (16 * r36)) + r37)))) (blind_then (blind_block (blind_block (blind_then (blind_block (blind_then blind_body)))))) rfl (by kernel_rfl) (by kernel_rfl) (by kernel_rfl) (y_pure tabOk rfl) rfl ?_
    refine a_one (i := 14) (by kernel_rfl) rfl ?_
    refine r_lits (B := 1) tabOk rfl el5 rfl rfl rfl (.cons rfl .nil) rfl fun v38 => ?_
    refine za <| r_less [0,6,7,99,113] rfl <| a_one (i := 15) (by kernel_rfl) rfl ?_
    refine iE h fun hc h => r_append (B := 1) tabOk 1 rfl rfl (src_own 0 rfl rfl) rfl el5 rfl rfl hc rfl fun v39 => ?_
    refine pk [1] rfl <| za <| r_less [0,7,114] rfl <| a_float (i := 16) (t := .one (.raw (.slice none 0 0)) v39) (blind_then (blind_block (blind_block (blind_then (blind_block (blind_then blind_body)))))) rfl (by kernel_rfl) (by kernel_rfl) (by kernel_rfl) (y_pure tabOk rfl) rfl ?_
    refine a_end (by kernel_rfl) ?_
    refine zt <| zr <| q 3 [(6, .one (.raw (.slice none 0 0)) v39), (7, ti (IntKind.wrap .i64 (s8.1 + 4)))] [0] rfl ?_
    obtain ⟨i40, e, h⟩ := bnd_ex h; rw [e]
    exact zn <| zi <| zi <| zt <| r_less [0,6,7] rfl <| by exact r_backg (i40, (s8.2 ++ [(IntKind.wrap .u8 (IntKind.wrap .i64 ((IntKind.wrap .i64 (16 * r36)) + r37)))])) v39 (Nat.lt_succ_self _) h rfl rfl
   refine zu <| q 2 [(4, ts []), (5, ti (-1))] [] rfl <| zf <| zB <| zB <| zT <| zB <| zT ?_
   cases h
   exact r_rets (rs := [.tmp 4, .tmp 5]) rfl (.cons (.tmp rfl) (.cons (.tmp rfl) (.nil))) rfl (fun _ vs g => tup_ok vs g) (fun _ _ _ => List.nil_sublist _)
  exact zx <| ze <| ze <| zq <| zt <| r_less [] rfl <| by exact r_meetk s8.2 g9 h rfl rfl
 refine zu <| q 2 [(4, ts []), (5, ti (-1))] [] rfl <| zf ?_
 cases h
 exact r_rets (rs := [.tmp 4, .tmp 5]) rfl (.cons (.tmp rfl) (.cons (.tmp rfl) (.nil))) rfl (fun _ vs g => tup_ok vs g) (fun _ _ _ => List.nil_sublist _)

end Sx
