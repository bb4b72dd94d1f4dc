/-
  Own work, printed by a program of the same hand. Each function of the code answers what its plain twin reckons.
-/
import Derived.Test.YtfgbjaoendfhdaaGreatDoorProg
import Derived.Test.YtfgbjaoendfhdaaGreatDoorDefs
import Derived.Test.YtfgbjaoendfhdaaGreatDoorComm
import Derived.Test.YtfgbjaoendfhdaaGreatDoorLib3
import Derived.Test.YtfgbjaoendfhdaaGreatDoorLib2
import Derived.Test.YtfgbjaoendfhdaaGreatDoorHandD
import Derived.Test.YtfgbjaoendfhdaaGreatDoorHandP
import Derived.Test.YtfgbjaoendfhdaaGreatDoorHandS
import Derived.KernelRfl
namespace Sx
open Go Go.Proofs
set_option maxRecDepth 10000
set_option maxHeartbeats 1000000
attribute [local irreducible] wpList

abbrev Y107 : T := (.pair .str (.pair (.int .i64) (.pair (.int .i64) (.pair .str .unit))))
abbrev Y31 : T := (.pair (.int .i64) (.pair .str (.pair .str (.pair (.int .i64) (.pair (.int .i64) (.pair (.int .i64) (.pair (.sl 107 Y107) .unit)))))))
abbrev Y77 : T := (.pair (.int .i64) (.pair (.int .i64) (.pair (.int .i64) .unit)))
theorem ty2 : tyChk Tryz.prog (.int .i64) 2 = true := by kernel_rfl
theorem ty3 : tyChk Tryz.prog (.int .i64) 3 = true := by kernel_rfl
theorem ty4 : tyChk Tryz.prog .bool 4 = true := by kernel_rfl
theorem ty5 : tyChk Tryz.prog (.int .u8) 5 = true := by kernel_rfl
theorem ty9 : tyChk Tryz.prog .str 9 = true := by kernel_rfl
theorem ty23 : tyChk Tryz.prog (.raw (.pointer none)) 23 = true := by kernel_rfl
theorem ty24 : tyChk Tryz.prog (.int .i64) 24 = true := by kernel_rfl
theorem ty29 : tyChk Tryz.prog (.sl 107 Y107) 29 = true := by kernel_rfl
theorem ty31 : tyChk Tryz.prog Y31 31 = true := by kernel_rfl
theorem ty33 : tyChk Tryz.prog (.raw (.pointer none)) 33 = true := by kernel_rfl
theorem ty34 : tyChk Tryz.prog (.sl 9 .str) 34 = true := by kernel_rfl
theorem ty52 : tyChk Tryz.prog (.raw (.map none)) 52 = true := by kernel_rfl
theorem ty58 : tyChk Tryz.prog (.raw (.map none)) 58 = true := by kernel_rfl
theorem ty77 : tyChk Tryz.prog Y77 77 = true := by kernel_rfl
theorem ty107 : tyChk Tryz.prog Y107 107 = true := by kernel_rfl
theorem ty112 : tyChk Tryz.prog (.int .u32) 112 = true := by kernel_rfl
theorem ty122 : tyChk Tryz.prog (.arr 16 (.int .u32)) 122 = true := by kernel_rfl
theorem tx0 : tyChk Tryz.prog (.raw (.slice none 0 0)) 34 = true := by kernel_rfl
theorem tx1 : tyChk Tryz.prog (.raw (.slice none 0 0)) 57 = true := by kernel_rfl
theorem tx2 : tyChk Tryz.prog (.raw (.slice none 0 0)) 66 = true := by kernel_rfl
theorem zf3 : (Tryz.prog.info? 3).bind (·.zero) = some (mk (.int .i64) (zc (.int .i64))) := by kernel_rfl
theorem zf4 : (Tryz.prog.info? 4).bind (·.zero) = some (mk .bool (zc .bool)) := by kernel_rfl
theorem zf5 : (Tryz.prog.info? 5).bind (·.zero) = some (mk (.int .u8) (zc (.int .u8))) := by kernel_rfl
theorem zf24 : (Tryz.prog.info? 24).bind (·.zero) = some (mk (.int .i64) (zc (.int .i64))) := by kernel_rfl
theorem zf31 : (Tryz.prog.info? 31).bind (·.zero) = some (mk Y31 (zc Y31)) := by kernel_rfl
theorem zf33 : (Tryz.prog.info? 33).bind (·.zero) = some (mk (.raw (.pointer none)) (zc (.raw (.pointer none)))) := by kernel_rfl
theorem zf34 : (Tryz.prog.info? 34).bind (·.zero) = some (mk (.sl 9 .str) (zc (.sl 9 .str))) := by kernel_rfl
theorem zf45 : (Tryz.prog.info? 45).bind (·.zero) = some (mk (.pair (.raw (.pointer none)) (.pair (.raw (.pointer none)) (.pair (.int .i64) (.pair (.int .i64) (.pair (.raw (.slice none 0 0)) (.pair .str (.pair .bool (.pair .bool .unit)))))))) (zc (.pair (.raw (.pointer none)) (.pair (.raw (.pointer none)) (.pair (.int .i64) (.pair (.int .i64) (.pair (.raw (.slice none 0 0)) (.pair .str (.pair .bool (.pair .bool .unit)))))))))) := by kernel_rfl
theorem zf54 : (Tryz.prog.info? 54).bind (·.zero) = some (mk DT (zc DT)) := by kernel_rfl
theorem zf60 : (Tryz.prog.info? 60).bind (·.zero) = some (mk FT (zc FT)) := by kernel_rfl
theorem zf68 : (Tryz.prog.info? 68).bind (·.zero) = some (mk (.pair (.raw (.pointer none)) (.pair .str (.pair (.int .i64) (.pair (.raw (.slice none 0 0)) (.pair (.int .i64) (.pair .bool .unit)))))) (zc (.pair (.raw (.pointer none)) (.pair .str (.pair (.int .i64) (.pair (.raw (.slice none 0 0)) (.pair (.int .i64) (.pair .bool .unit)))))))) := by kernel_rfl
theorem zf73 : (Tryz.prog.info? 73).bind (·.zero) = some (mk (.pair (.raw (.slice none 0 0)) (.pair (.int .i64) (.pair .bool (.pair .bool .unit)))) (zc (.pair (.raw (.slice none 0 0)) (.pair (.int .i64) (.pair .bool (.pair .bool .unit)))))) := by kernel_rfl
theorem zf77 : (Tryz.prog.info? 77).bind (·.zero) = some (mk Y77 (zc Y77)) := by kernel_rfl
theorem zf107 : (Tryz.prog.info? 107).bind (·.zero) = some (mk Y107 (zc Y107)) := by kernel_rfl
theorem zf122 : (Tryz.prog.info? 122).bind (·.zero) = some (mk (.arr 16 (.int .u32)) (zc (.arr 16 (.int .u32)))) := by kernel_rfl
theorem el3 : uda Tryz.prog (.int .i64) 3 8 = true := by kernel_rfl
theorem el5 : uda Tryz.prog (.int .u8) 5 1 = true := by kernel_rfl
theorem el9 : uda Tryz.prog .str 9 16 = true := by kernel_rfl
theorem el77 : uda Tryz.prog Y77 77 24 = true := by kernel_rfl
theorem el107 : uda Tryz.prog Y107 107 48 = true := by kernel_rfl
theorem un122 : Tryz.prog.underlying 122 = some (.array 16 112) := Tryz.underlying122
def CLog (q : Value) : Kind := ⟨Unit × List Int × Int × (List (Int × Int × Int × Unit)) × Int × Bool × Unit, Value, fun b s x => [Res.var b 68 (.pair (.raw (.pointer none)) (.pair .str (.pair (.int .i64) (.pair (.raw (.slice none 0 0)) (.pair (.int .i64) (.pair .bool .unit)))))) (q, x.2.1, x.2.2.1, s, x.2.2.2.2.1, x.2.2.2.2.2.1, x.2.2.2.2.2.2), Res.own s 77 Y77 x.2.2.2.1]⟩
theorem ud1 {F : Fr} {n : Nat} {E : Env} {L : List Res} {X : Act → World → Prop} {q : Value} {p : Value} {x : Unit × List Int × Int × (List (Int × Int × Int × Unit)) × Int × Bool × Unit} (g : ∀ b v0, p = .pointer (some ⟨b, 0, none⟩) → Go F n E (Res.var b 68 (.pair (.raw (.pointer none)) (.pair .str (.pair (.int .i64) (.pair (.raw (.slice none 0 0)) (.pair (.int .i64) (.pair .bool .unit)))))) (q, x.2.1, x.2.2.1, v0, x.2.2.2.2.1, x.2.2.2.2.2.1, x.2.2.2.2.2.2) :: Res.own v0 77 Y77 x.2.2.2.1 :: L) X) : Go F n E (Res.cls (CLog q) p x :: L) X := uhg (K := (CLog q)) fun b v0 h => g b v0 h
theorem ubZ {F : Fr} {n : Nat} {E : Env} {L : List Res} {X : Act → World → Prop} {q : Value} {b : Nat} {x : Unit × List Int × Int × (List (Int × Int × Int × Unit)) × Int × Bool × Unit} (g : ∀ v0, Go F n E (Res.var b 68 (.pair (.raw (.pointer none)) (.pair .str (.pair (.int .i64) (.pair (.raw (.slice none 0 0)) (.pair (.int .i64) (.pair .bool .unit)))))) (q, x.2.1, x.2.2.1, v0, x.2.2.2.2.1, x.2.2.2.2.2.1, x.2.2.2.2.2.2) :: Res.own v0 77 Y77 x.2.2.2.1 :: L) X) : Go F n E (Res.cls (CLog q) (.pointer (some ⟨b, 0, none⟩)) x :: L) X := uhV (K := (CLog q)) fun v0 => g v0
theorem uaK {F : Fr} {n : Nat} {E : Env} {L : List Res} {X : Act → World → Prop} {q : Value} {b : Nat} {v0 : Value} {x : Unit × List Int × Int × (List (Int × Int × Int × Unit)) × Int × Bool × Unit} (g : Go F n E (Res.cls (CLog q) (.pointer (some ⟨b, 0, none⟩)) x :: L) X) : Go F n E (Res.var b 68 (.pair (.raw (.pointer none)) (.pair .str (.pair (.int .i64) (.pair (.raw (.slice none 0 0)) (.pair (.int .i64) (.pair .bool .unit)))))) (q, x.2.1, x.2.2.1, v0, x.2.2.2.2.1, x.2.2.2.2.2.1, x.2.2.2.2.2.2) :: Res.own v0 77 Y77 x.2.2.2.1 :: L) X := r_cls (K := (CLog q)) (s := v0) g
def ucY : Kind := ⟨List (List Int) × Int × Bool × Bool × Unit, Value, fun b s x => [Res.var b 73 (.pair (.raw (.slice none 0 0)) (.pair (.int .i64) (.pair .bool (.pair .bool .unit)))) (s, x.2.1, x.2.2.1, x.2.2.2.1, x.2.2.2.2), Res.own s 9 .str x.1]⟩
theorem umE {F : Fr} {n : Nat} {E : Env} {L : List Res} {X : Act → World → Prop} {p : Value} {x : List (List Int) × Int × Bool × Bool × Unit} (g : ∀ b v0, p = .pointer (some ⟨b, 0, none⟩) → Go F n E (Res.var b 73 (.pair (.raw (.slice none 0 0)) (.pair (.int .i64) (.pair .bool (.pair .bool .unit)))) (v0, x.2.1, x.2.2.1, x.2.2.2.1, x.2.2.2.2) :: Res.own v0 9 .str x.1 :: L) X) : Go F n E (Res.cls ucY p x :: L) X := uhg (K := ucY) fun b v0 h => g b v0 h
theorem uee {F : Fr} {n : Nat} {E : Env} {L : List Res} {X : Act → World → Prop} {b : Nat} {x : List (List Int) × Int × Bool × Bool × Unit} (g : ∀ v0, Go F n E (Res.var b 73 (.pair (.raw (.slice none 0 0)) (.pair (.int .i64) (.pair .bool (.pair .bool .unit)))) (v0, x.2.1, x.2.2.1, x.2.2.2.1, x.2.2.2.2) :: Res.own v0 9 .str x.1 :: L) X) : Go F n E (Res.cls ucY (.pointer (some ⟨b, 0, none⟩)) x :: L) X := uhV (K := ucY) fun v0 => g v0
theorem udh {F : Fr} {n : Nat} {E : Env} {L : List Res} {X : Act → World → Prop} {b : Nat} {v0 : Value} {x : List (List Int) × Int × Bool × Bool × Unit} (g : Go F n E (Res.cls ucY (.pointer (some ⟨b, 0, none⟩)) x :: L) X) : Go F n E (Res.var b 73 (.pair (.raw (.slice none 0 0)) (.pair (.int .i64) (.pair .bool (.pair .bool .unit)))) (v0, x.2.1, x.2.2.1, x.2.2.2.1, x.2.2.2.2) :: Res.own v0 9 .str x.1 :: L) X := r_cls (K := ucY) (s := v0) g
def uct (q : Value) : Kind := ⟨Unit × (Int × Unit × List Int × Int × (List (Int × Int × Int × Unit)) × Int × Bool × Unit) × Int × Int × List (List Int) × List Int × Bool × Bool × Unit, Value × Value, fun b s x => [Res.var b 45 (.pair (.raw (.pointer none)) (.pair (.raw (.pointer none)) (.pair (.int .i64) (.pair (.int .i64) (.pair (.raw (.slice none 0 0)) (.pair .str (.pair .bool (.pair .bool .unit)))))))) (q, s.1, x.2.2.1, x.2.2.2.1, s.2, x.2.2.2.2.2.1, x.2.2.2.2.2.2.1, x.2.2.2.2.2.2.2.1, x.2.2.2.2.2.2.2.2), Res.clsif (CLog q) s.1 x.2.1.2 x.2.1.1, Res.own s.2 9 .str x.2.2.2.2.1]⟩
theorem ufY {F : Fr} {n : Nat} {E : Env} {L : List Res} {X : Act → World → Prop} {q : Value} {p : Value} {x : Unit × (Int × Unit × List Int × Int × (List (Int × Int × Int × Unit)) × Int × Bool × Unit) × Int × Int × List (List Int) × List Int × Bool × Bool × Unit} (g : ∀ b v0 v1, p = .pointer (some ⟨b, 0, none⟩) → Go F n E (Res.var b 45 (.pair (.raw (.pointer none)) (.pair (.raw (.pointer none)) (.pair (.int .i64) (.pair (.int .i64) (.pair (.raw (.slice none 0 0)) (.pair .str (.pair .bool (.pair .bool .unit)))))))) (q, v0, x.2.2.1, x.2.2.2.1, v1, x.2.2.2.2.2.1, x.2.2.2.2.2.2.1, x.2.2.2.2.2.2.2.1, x.2.2.2.2.2.2.2.2) :: Res.clsif (CLog q) v0 x.2.1.2 x.2.1.1 :: Res.own v1 9 .str x.2.2.2.2.1 :: L) X) : Go F n E (Res.cls (uct q) p x :: L) X := uhg (K := (uct q)) fun b ⟨v0, v1⟩ h => g b v0 v1 h
theorem ueL {F : Fr} {n : Nat} {E : Env} {L : List Res} {X : Act → World → Prop} {q : Value} {b : Nat} {x : Unit × (Int × Unit × List Int × Int × (List (Int × Int × Int × Unit)) × Int × Bool × Unit) × Int × Int × List (List Int) × List Int × Bool × Bool × Unit} (g : ∀ v0 v1, Go F n E (Res.var b 45 (.pair (.raw (.pointer none)) (.pair (.raw (.pointer none)) (.pair (.int .i64) (.pair (.int .i64) (.pair (.raw (.slice none 0 0)) (.pair .str (.pair .bool (.pair .bool .unit)))))))) (q, v0, x.2.2.1, x.2.2.2.1, v1, x.2.2.2.2.2.1, x.2.2.2.2.2.2.1, x.2.2.2.2.2.2.2.1, x.2.2.2.2.2.2.2.2) :: Res.clsif (CLog q) v0 x.2.1.2 x.2.1.1 :: Res.own v1 9 .str x.2.2.2.2.1 :: L) X) : Go F n E (Res.cls (uct q) (.pointer (some ⟨b, 0, none⟩)) x :: L) X := uhV (K := (uct q)) fun ⟨v0, v1⟩ => g v0 v1
theorem ub0 {F : Fr} {n : Nat} {E : Env} {L : List Res} {X : Act → World → Prop} {q : Value} {b : Nat} {v0 v1 : Value} {x : Unit × (Int × Unit × List Int × Int × (List (Int × Int × Int × Unit)) × Int × Bool × Unit) × Int × Int × List (List Int) × List Int × Bool × Bool × Unit} (g : Go F n E (Res.cls (uct q) (.pointer (some ⟨b, 0, none⟩)) x :: L) X) : Go F n E (Res.var b 45 (.pair (.raw (.pointer none)) (.pair (.raw (.pointer none)) (.pair (.int .i64) (.pair (.int .i64) (.pair (.raw (.slice none 0 0)) (.pair .str (.pair .bool (.pair .bool .unit)))))))) (q, v0, x.2.2.1, x.2.2.2.1, v1, x.2.2.2.2.2.1, x.2.2.2.2.2.2.1, x.2.2.2.2.2.2.2.1, x.2.2.2.2.2.2.2.2) :: Res.clsif (CLog q) v0 x.2.1.2 x.2.1.1 :: Res.own v1 9 .str x.2.2.2.2.1 :: L) X := r_cls (K := (uct q)) (s := (v0, v1)) g
def tabs : List (String × IntKind × List Int) := [pow10]
@[reducible] def dI : DI := ⟨54, 60, 9, 3, 5⟩
theorem kstr : ktChk Tryz.prog .str dI.str = true := by kernel_rfl
theorem kint : ktChk Tryz.prog (.int .i64) dI.int = true := by kernel_rfl
theorem zNV : (Tryz.prog.info? 55).bind (·.zero) = some NV := by kernel_rfl
theorem ktc3 : ktChk Tryz.prog (.int .i64) 3 = true := by kernel_rfl
def tab : Tab := { ints := [(2, .i64), (3, .i64), (5, .u8), (111, .u64), (112, .u32)], strs := [(9, ())], slices := [(22, 31), (29, 107), (34, 9), (57, 5), (66, 77), (93, 3)], arrs := [], offs := [(31, [0, 1, 2, 3, 4, 5, 6]), (45, [0, 1, 2, 3, 4, 5, 6, 7]), (54, [0, 1, 2, 3, 4, 5, 6]), (60, [0, 1, 2]), (68, [0, 1, 2, 3, 4, 5]), (73, [0, 1, 2, 3]), (77, [0, 1, 2]), (107, [0, 1, 2, 3])] }
theorem tabOk : tab.chk Tryz.prog = true := by kernel_rfl
theorem p {F : Fr} {n : Nat} {E E0 : Env} {L : List Res} {ops : Array Oper} {Q : Exit → Act → World → Prop} {l : List Oper} (k : Nat) (keys : List Nat) (h : seg tab n ops (l.take k) E keys = some E0) (g : Go F n E0 L (wpList Tryz.prog ops Q (l.drop k))) : Go F n E L (wpList Tryz.prog ops Q l) := ucm tabOk k keys h g
theorem q {F : Fr} {n : Nat} {E E0 : Env} {L : List Res} {ops : Array Oper} {Q : Exit → Act → World → Prop} {l : List Oper} (k : Nat) (new : Env) (keys : List Nat) (h : seg2 tab n ops (l.take k) E (new.map (·.1)) keys = some (new, E0)) (g : Go F n (new ++ E0) L (wpList Tryz.prog ops Q (l.drop k))) : Go F n E L (wpList Tryz.prog ops Q l) := uoL tabOk k h g
theorem uhJ (a0 : Int) (r : Int × DiskS) (h : ufG a0 = some r) : Fn Tryz.prog 5 [ti a0] [] (fun v => .tup [⟨.raw NV, tupv v 0⟩, ⟨(.int .i64), r.1⟩]) (fun v => [Res.diskif Tryz.prog dI (tupv v 0) r.2 r.1]) := by
 unfold ufG at h
 refine enter Tryz.func5 rfl 14 rfl rfl fun F => ?_
 refine zu <| p 2 [0] rfl <| za <| zs <| zu <| p 3 [0,6] rfl ?_
 obtain ⟨b1, e, h⟩ := uao h; rw [e]
 refine uaG (γ := Unit) 3 (fun _ => [(0, ti a0), (9, tb (b1 || (decide (a0 > 16777216))))]) (fun _ => []) ?_ (fun _ => ?_)
 ·clear h
  cases b1
  ·exact p 3 [0,9] rfl <| za <| by exact uau () rfl rfl
  exact p 3 [0,9] rfl <| za <| by exact uau () rfl rfl
 refine za <| rI h rfl (fun hc h => zu <| p 2 [2,3] rfl <| zf <| zT <| un0 (P := Tryz.prog) (I := dI) (D := (0, [], 0, 0, 0, false, false)) (e := 1) (by decide) <| by cases h; exact ua2 (rs := [.tmp 2, .tmp 3]) rfl (.cons (.tmp rfl) (.cons (.tmp rfl) .nil)) rfl (fun _ vs g => by cases g with | cons h0 g => cases g with | cons h1 g => cases g; exact ⟨_, rfl, .cons (ua5 h0) (.cons h1 .nil)⟩) (fun _ vs g => by cases g with | cons h0 g => cases g with | cons h1 g => cases g; rw [ubI h0]; exact (.cons_cons _ .slnil))) fun hc h => zy <| p 1 [10] rfl <| ue7 9 .str (.raw NV) rfl fun v2 => ?_
 refine una (P := Tryz.prog) (I := dI) ?_
 refine y (udN rfl zf54 rfl rfl (.cons ((.fst .here)) rfl rfl (uaC uam) (.cons ((.snd (.fst .here))) rfl rfl (uaw (uaC uam)) .nil))) rfl ?_
 refine r_box rfl rfl fun b3 => p 2 [2,3] rfl <| zf <| ua3 (P := Tryz.prog) (I := dI) (D := (a0, [], 0, 0, 0, false, false)) <| un2 ?_
 cases h
 exact ua2 (rs := [.tmp 2, .tmp 3]) rfl (.cons (.tmp rfl) (.cons (.tmp rfl) .nil)) rfl (fun _ vs g => by cases g with | cons h0 g => cases g with | cons h1 g => cases g; exact ⟨_, rfl, .cons (ua5 h0) (.cons h1 .nil)⟩) (fun _ vs g => by cases g with | cons h0 g => cases g with | cons h1 g => cases g; rw [ubI h0]; exact (.cons_cons _ .slnil))

theorem ukZ (a0 : List Int) (r : Bool) (h : ufa a0 = some r) : Pure Tryz.prog 28 [ts a0] (tb r) := by
 unfold ufa at h
 refine enter Tryz.func28 rfl 27 rfl rfl fun F => ?_
 refine zu <| p 1 [0] rfl <| za <| jK h (γ := Unit) (fun (o2 : Unit) _ => [(0, ts a0)]) (fun (o2 : Unit) _ => []) (fun k1 h => ?_) fun o2 gg h => ?_
 ·refine zu <| q 3 [(5, ti (List.length a0 : Int)), (6, ti 0)] [0] rfl <| za <| zb <| uab [0,5,6] rfl <| ubv (γ := Unit) (fun (s5 : Int) _ => [(0, ts a0), (5, ti (List.length a0 : Int)), (6, ti s5)]) (fun (s5 : Int) _ => []) (udf a0 k1) 0 () h rfl rfl ?_
  clear h
  intro m6 s5 gg h
  cases m6 with
  | zero => cases h
  | succ m6 =>
  simp only [udf] at h
  refine zu <| q 1 [(6, ti s5), (7, tb (decide (s5 < (List.length a0 : Int))))] [0,5] rfl <| za <| zs <| rI h rfl (fun hc h => ?_) fun hc h => ?_
  ·refine zk <| zt <| zs <| zb <| zu <| p 2 [0,3,5,6] rfl <| zz <| p 2 [0,3,5,6,9,10] rfl <| iE h fun hc h => y (udH tabOk rfl rfl hc.1 hc.2 rfl) rfl ?_
   refine q 2 [(13, tb (decide ((List.getD a0 (Int.toNat s5) 0) < 33)))] [0,3,5,6] rfl ?_
   obtain ⟨b7, e, h⟩ := uao h; rw [e]
   refine bX h fun k8 hk8 h => ?_
   refine ubh (γ := Unit) 5 (fun (o9 : Bool) _ => [(0, ts a0), (5, ti (List.length a0 : Int)), (6, ti s5), (18, tb o9)]) (fun _ _ => []) k8 r ?_ ?_
   ·rcases Bool.eq_false_or_eq_true b7 with hh | hh
    ·rw [hh] at h ⊢
     rw [if_pos rfl] at h
     exact p 5 [0,5,6,18] rfl <| zn <| uab [0,5,6,18] rfl <| zt <| by exact uai true () h rfl rfl
    rw [hh] at h ⊢
    rw [if_neg (by decide)] at h
    refine p 2 [0,5,6,13,14,15] rfl <| uaI (by rfl) rfl ?_
    refine iE h fun hc h => y (udH tabOk rfl rfl hc.1 hc.2 rfl) rfl ?_
    exact q 2 [(18, tb (decide ((List.getD a0 (Int.toNat s5) 0) > 126)))] [0,5,6] rfl <| zn <| uab [0,5,6,18] rfl <| zt <| by exact uai (decide ((List.getD a0 (Int.toNat s5) 0) > 126)) () h rfl rfl
   intro o9 _ h
   rw [← hk8] at h
   try dsimp only at h
   exact za <| rI h rfl (fun hc h => zu <| p 1 [2] rfl <| zf <| zB <| zT <| zT <| zB <| zT <| by cases h; exact uav rfl (.tmp rfl) (fun _ _ g => g) (fun _ _ _ => List.nil_sublist _)) fun hc h => zk <| zi <| zt <| zr <| p 2 [0,5,6] rfl <| za <| uab [0,5,6] rfl <| by exact ubp (IntKind.wrap .i64 (s5 + 1)) () (Nat.lt_succ_self _) h rfl rfl
  exact zx <| ze <| ze <| zq <| zt <| uab [0] rfl <| by exact uai () () h rfl rfl
 refine zu <| q 3 [(0, ts a0), (22, tb (a0 != []))] [] rfl ?_
 obtain ⟨b3, e, h⟩ := uao h; rw [e]
 refine uaG (γ := Unit) 4 (fun _ => [(26, tb (b3 && (decide ((List.length a0 : Int) ≤ 24))))]) (fun _ => []) ?_ (fun _ => ?_)
 ·clear h
  cases b3
  ·exact p 4 [26] rfl <| za <| by exact uau () rfl rfl
  exact q 4 [(26, tb (decide ((List.length a0 : Int) ≤ 24)))] [] rfl <| uab [26] rfl <| za <| by exact uau () rfl rfl
 refine q 1 [(2, tb (b3 && (decide ((List.length a0 : Int) ≤ 24))))] [] rfl <| zf ?_
 cases h
 exact uav rfl (.tmp rfl) (fun _ _ g => g) (fun _ _ _ => List.nil_sublist _)

theorem ufH (p0 : Value) (a0 : DiskS) (r : Bool) (h : udK a0 = some r) : Fn Tryz.prog 17 [tp p0] [Res.disk Tryz.prog dI p0 a0] (fun _ => tb r) (fun _ => [Res.disk Tryz.prog dI p0 a0]) := by
 unfold udK at h
 refine enter Tryz.func17 rfl 7 rfl rfl fun F => ?_
 refine ucK fun b2 mv1 hp => ?_
 subst hp
 refine zu <| p 1 [0] rfl <| zz <| p 3 [5] rfl <| yl 0 ((.snd (.snd (.snd (.snd (.snd (.fst .here))))))) ty4 rfl rfl rfl trivial rfl <| q 1 [(2, tb a0.2.2.2.2.2.1)] [] rfl <| zf <| ua3 (P := Tryz.prog) (I := dI) (D := a0) ?_
 cases h
 exact uav rfl (.tmp rfl) (fun _ _ g => g) (fun _ _ _ => (.cons_cons _ .slnil))

theorem ufc (p : Value) : Fn Tryz.prog 29 [.one (.raw NV) p] [] (fun v => .one (.raw .nilFunc) v) (fun v => [Res.seqv 42 33 v p]) := by
 refine enter Tryz.func29 rfl 4 rfl rfl fun F => ?_
 refine r_seq ?_
 refine ubB ?_
 refine r_box rfl rfl fun b => ?_
 refine ucm tabOk 1 [1] (E' := [(1, ptr b 0)]) rfl ?_
 refine r_nil ?_
 refine ub2 ?_
 refine r_seq ?_
 refine ubB ?_
 refine y (uoW rfl) rfl ?_
 refine ucm tabOk 1 [2] (E' := [(2, .one (.raw .nilFunc) (.func (.func 42) #[] #[adr b]))]) rfl ?_
 refine r_nil ?_
 refine ub2 ?_
 refine r_ret ?_
 refine Res.seqv_of (g := 42) ?_
 exact uav rfl (.tmp rfl) (fun _ _ g => holds_raw.2 ⟨rfl, by rw [(holds_raw.1 g).1]; exact (holds_raw.1 g).2⟩) (fun _ _ g => by obtain ⟨rfl, _⟩ := holds_raw.1 g; exact List.Sublist.refl _)

theorem sortS : ufB Tryz.prog 59 Go.Proofs.encStr (fun x y => decide (x ≤ y)) := un9 Tryz.laysSortS

theorem uhn (p0 : Value) (a0 : DiskS) (r : List (List Int)) (h : udw a0 = some r) : Fn Tryz.prog 43 [.one (.raw NV) p0] [Res.disk Tryz.prog dI p0 a0] (fun v => .one (.raw (.slice none 0 0)) v) (fun v => [Res.disk Tryz.prog dI p0 a0, Res.own v 9 .str r]) := by
  unfold udw at h
  refine enter Tryz.func43 rfl 25 rfl rfl fun F => ?_
  refine ucK fun b2 mv1 hp => ?_
  subst hp
  refine r_seq ?_
  refine ubB ?_
  refine ucm tabOk 1 [0] (E' := [(0, ptr b2 0)]) rfl ?_
  refine r_nil ?_
  refine ub2 ?_
  refine r_seq ?_
  refine r_seq ?_
  refine ubB ?_
  refine ucm tabOk 3 [0, 7] (E' := [(0, ptr b2 0), (7, ptr b2 5)]) rfl ?_
  refine y (ubx 0 (.snd (.snd (.snd (.snd (.snd (.fst .here)))))) rfl rfl (by first | rfl | (simp only [Pth.off, T.size]; omega)) (uaw (uaw (uaw (uaw (uaw (uaC uam)))))) ty4) rfl ?_
  refine r_nil ?_
  refine ub2 ?_
  refine r_if (b := a0.2.2.2.2.2.1) rfl (fun hc => ?_) (fun hc => ?_)
  · rw [if_pos hc] at h
    refine r_seq ?_
    refine ubB ?_
    refine ucm tabOk 1 [2] (E' := [(2, .one (.raw (.slice none 0 0)) (.slice none 0 0))]) rfl ?_
    refine r_nil ?_
    refine ub2 ?_
    refine r_ret ?_
    refine uj0 ?_
    refine ua3 (P := Tryz.prog) (I := dI) (D := a0) ?_
    refine ua1 (.slice none 0 0) rfl 9 .str ?_
    refine udV ?_
    obtain rfl := Option.some.inj h
    exact uav rfl (.tmp rfl) (fun _ _ g => ua5 g) (fun _ _ g => by obtain ⟨rfl, _⟩ := holds_raw.1 g; exact List.Sublist.refl _)
  · rw [if_neg (ne_true_of_eq_false hc)] at h
    obtain ⟨hlen, h⟩ := ubo h
    obtain rfl := Option.some.inj h
    refine uf5 ?_
    refine ub2 ?_
    refine r_seq ?_
    refine ubB ?_
    refine ucm tabOk 1 [0, 3] (E' := [(0, ptr b2 0), (3, .one (.raw (.slice none 0 0)) (.slice none 0 0))]) rfl ?_
    refine r_nil ?_
    refine ub2 ?_
    repeat refine r_seq ?_
    refine ubB ?_
    refine ucm tabOk 3 [0, 3, 11] (E' := [(0, ptr b2 0), (3, .one (.raw (.slice none 0 0)) (.slice none 0 0)), (11, ptr b2 1)]) rfl ?_
    refine y (ubx 0 (.snd (.fst .here)) rfl rfl (by first | rfl | (simp only [Pth.off, T.size]; omega)) (uaw (uaC uam)) ty52) rfl ?_
    refine udV ?_
    refine ukk kstr rfl Tryz.underlying52 rfl fun it6 hn7 => ?_
    refine r_nil ?_
    refine ub2 ?_
    refine ug8 ?_
    refine ua1 (.slice none 0 0) rfl 9 .str ?_
    refine uab [0, 3, 13] rfl ?_
    refine ugN (p := (([] : List (List Int)) ++ a0.2.1.map (·.1)).Perm (a0.2.1.map (·.1))) (List.Perm.refl _) ?_
    refine uoE (σ := List (List Int) × Value × List (List Int)) (fun s => [(0, ptr b2 0), (3, .one (.raw (.slice none 0 0)) s.2.1), (13, .one (.raw (.pointer none)) it6)]) (fun s => [Res.fact ((s.2.2 ++ s.1).Perm (a0.2.1.map (·.1))), Res.own s.2.1 9 .str s.2.2, Res.diter Tryz.prog dI mv1 it6 a0.2.1 s.1 none none, Res.var b2 54 DT (a0.1, mv1, a0.2.2.1, a0.2.2.2.1, a0.2.2.2.2.1, a0.2.2.2.2.2.1, a0.2.2.2.2.2.2, ())]) (fun s => s.1.length) (a0.2.1.map (·.1), .slice none 0 0, []) rfl rfl ?_
    rintro ⟨todo, v8, xs⟩
    refine ubu fun hperm => ?_
    refine udV ?_
    refine r_seq ?_
    refine ubB ?_
    refine uiV kstr rfl rfl (fun ht => ?_) (fun A k B q htk hk => ?_)
    · have hperm2 : xs.Perm (a0.2.1.map (·.1)) := by have hp := hperm; simp only at ht hp; rw [ht, List.append_nil] at hp; exact hp
      refine uio ?_
      refine ucm tabOk 1 [0, 3, 15] (E' := [(0, ptr b2 0), (3, .one (.raw (.slice none 0 0)) v8), (15, .one .bool false)]) rfl ?_
      refine r_nil ?_
      refine ub2 ?_
      refine r_seq ?_
      refine r_if (b := false) rfl (fun hc => ?_) (fun hc => ?_)
      · cases hc
      · refine ujZ ?_
        refine uib ?_
        refine uib ?_
        refine e_eq ?_
        refine ub2 ?_
        refine und kstr fun hko hso => ?_
        refine udV ?_
        refine r_seq ?_
        refine ubB ?_
        refine ucm tabOk 1 [3, 22] (E' := [(3, .one (.raw (.slice none 0 0)) v8), (22, .one (.raw (.slice none 0 0)) v8)]) rfl ?_
        refine ucI (Lo := [Res.dfiles Tryz.prog dI mv1 a0.2.1, Res.var b2 54 DT (a0.1, mv1, a0.2.2.1, a0.2.2.2.1, a0.2.2.2.2.1, a0.2.2.2.2.2.1, a0.2.2.2.2.2.2, ())]) (uob sortS hperm2 hso (fun x hx => by obtain ⟨p, hp, rfl⟩ := List.mem_map.1 (hperm2.mem_iff.1 hx); exact (hko p hp).1) (by rw [hperm2.length_eq, List.length_map]; omega) v8) (by kernel_rfl) (List.Perm.refl _) rfl rfl fun _ => ?_
        refine r_nil ?_
        refine ub2 ?_
        refine r_seq ?_
        refine ubB ?_
        refine ucm tabOk 2 [2] (E' := [(2, .one (.raw (.slice none 0 0)) v8)]) rfl ?_
        refine r_nil ?_
        refine ub2 ?_
        refine r_ret ?_
        refine ue6 (L' := [Res.var b2 54 DT (a0.1, mv1, a0.2.2.1, a0.2.2.2.1, a0.2.2.2.2.1, a0.2.2.2.2.2.1, a0.2.2.2.2.2.2, ()), Res.dfiles Tryz.prog dI mv1 a0.2.1, Res.own v8 9 .str (a0.2.1.map (·.1))]) ((List.Perm.swap _ _ _).trans ((List.Perm.cons _ (List.Perm.swap _ _ _)).trans (List.Perm.swap _ _ _))) ?_
        refine ua3 (P := Tryz.prog) (I := dI) (D := a0) ?_
        exact uav rfl (.tmp rfl) (fun _ _ g => ua5 g) (fun _ _ g => by obtain ⟨rfl, _⟩ := holds_raw.1 g; exact List.Sublist.refl _)
    · refine ucm tabOk 1 [0, 3, 13, 15] (E' := [(0, ptr b2 0), (3, .one (.raw (.slice none 0 0)) v8), (13, .one (.raw (.pointer none)) it6), (15, .one .bool true)]) rfl ?_
      refine r_nil ?_
      refine ub2 ?_
      refine r_seq ?_
      refine r_if (b := true) rfl (fun hc => ?_) (fun hc => ?_)
      · refine uf5 ?_
        refine ub2 ?_
        refine ug8 ?_
        refine r_seq ?_
        refine ubB ?_
        refine y (uhT rfl 0 rfl) rfl ?_
        refine ucm tabOk 2 [0, 3, 4, 13] (E' := [(0, ptr b2 0), (3, .one (.raw (.slice none 0 0)) v8), (4, .one .str k), (13, .one (.raw (.pointer none)) it6)]) rfl ?_
        refine r_nil ?_
        refine ub2 ?_
        refine ubB ?_
        refine ucm tabOk 2 [0, 13, 18, 19] (E' := [(0, ptr b2 0), (13, .one (.raw (.pointer none)) it6), (18, .one (.raw (.slice none 0 0)) v8), (19, .one .str k)]) rfl ?_
        refine ub7 (B := 16) tabOk rfl el9 rfl rfl rfl (.cons rfl .nil) rfl fun v9 => ?_
        have hroom : (List.length xs + List.length [k]) * 16 ≤ 140737488355328 := by
          have e1 := hperm.length_eq
          simp only at htk e1
          rw [htk] at e1
          simp only [List.length_append, List.length_cons, List.length_nil, List.length_map] at e1 ⊢
          omega
        refine ubd (B := 16) tabOk 2 rfl rfl (uca 0 rfl rfl) rfl el9 rfl rfl hroom rfl fun v10 => ?_
        refine ucm tabOk 1 [0, 3, 13] (E' := [(0, ptr b2 0), (3, .one (.raw (.slice none 0 0)) v10), (13, .one (.raw (.pointer none)) it6)]) rfl ?_
        refine r_nil ?_
        refine ui5 ?_
        refine ub2 ?_
        refine uj2 (L' := [Res.diter Tryz.prog dI mv1 it6 a0.2.1 (A ++ B) (some (k, q)) none, Res.own v10 9 .str (xs ++ [k]), Res.var b2 54 DT (a0.1, mv1, a0.2.2.1, a0.2.2.2.1, a0.2.2.2.2.1, a0.2.2.2.2.2.1, a0.2.2.2.2.2.2, ())]) (.cons _ (List.Sublist.refl _)) ?_
        refine uay (R' := Res.diter Tryz.prog dI mv1 it6 a0.2.1 (A ++ B) none none) 0 rfl ugo ?_
        refine udV ?_
        refine ugN (p := ((xs ++ [k]) ++ (A ++ B)).Perm (a0.2.1.map (·.1))) (by
          have hp := hperm
          simp only at htk hp
          rw [htk] at hp
          refine List.Perm.trans ?_ hp
          rw [List.append_assoc]
          exact List.Perm.append_left _ (List.perm_middle (a := k) (l₁ := A) (l₂ := B)).symm) ?_
        exact uoF (A ++ B, v10, xs ++ [k]) (by simp only at htk ⊢; rw [htk]; simp) rfl rfl
      · cases hc

theorem uc8 (a0 : List Int) (a1 : List Int) (r : Bool) (h : uaS a0 a1 = some r) : Pure Tryz.prog 73 [ts a0, ts a1] (tb r) := by
 unfold uaS at h
 refine enter Tryz.func73 rfl 18 rfl rfl fun F => ?_
 refine zu <| p 1 [0,1] rfl <| zz <| q 6 [(10, tb (decide ((List.length a0 : Int) ≥ (List.length a1 : Int))))] [0,1] rfl ?_
 obtain ⟨b1, e, h⟩ := uao h; rw [e]
 refine bX h fun k2 hk2 h => ?_
 refine ubh (γ := Unit) 7 (fun (o3 : Bool) _ => [(17, tb o3)]) (fun _ _ => []) k2 r ?_ ?_
 ·rcases Bool.eq_false_or_eq_true b1 with hh | hh
  ·rw [hh] at h ⊢
   rw [if_pos rfl] at h
   refine q 3 [(10, tb true), (11, ts a0), (13, ti (List.length a1 : Int))] [1] rfl <| uaI (by rfl) rfl ?_
   refine iE h fun hc h => y (y_sub (i := (0 : Int)) (j := (List.length a1 : Int)) tabOk rfl rfl rfl hc.1 hc.2.1 hc.2.2 rfl) rfl ?_
   exact q 3 [(17, tb ((List.drop 0 (List.take (Int.toNat (List.length a1 : Int)) a0)) == a1))] [] rfl <| zn <| uab [17] rfl <| zt <| by exact uai ((List.drop 0 (List.take (Int.toNat (List.length a1 : Int)) a0)) == a1) () h rfl rfl
  rw [hh] at h ⊢
  rw [if_neg (by decide)] at h
  exact p 7 [17] rfl <| zn <| uab [17] rfl <| zt <| by exact uai false () h rfl rfl
 intro o3 _ h
 rw [← hk2] at h
 try dsimp only at h
 refine p 1 [4] rfl <| zf ?_
 cases h
 exact uav rfl (.tmp rfl) (fun _ _ g => g) (fun _ _ _ => List.nil_sublist _)

theorem uef (a0 : List Int) (a1 : List Int) (r : List Int × Bool) (h : ub3 a0 a1 = some r) : Pure Tryz.prog 60 [ts a0, ts a1] (.tup [⟨.str, r.1⟩, ⟨.bool, r.2⟩]) := by
 unfold ub3 at h
 refine enter Tryz.func60 rfl 15 rfl rfl fun F => ?_
 refine zu <| p 2 [0,1] rfl <| za <| zs <| zu <| p 2 [0,1,6,7] rfl <| cB h fun r1 hr1 h => ubk (uc8 _ _ _ hr1) (by kernel_rfl) rfl rfl <| p 1 [0,1,9] rfl <| za <| rI h rfl (fun hc h => zu <| p 3 [4,5] rfl <| zf <| zT <| by cases h; exact ua2 (rs := [.tmp 4, .tmp 5]) rfl (.cons (.tmp rfl) (.cons (.tmp rfl) (.nil))) rfl (fun _ vs g => ubr vs g) (fun _ _ _ => List.nil_sublist _)) fun hc h => ?_
 refine zy <| q 3 [(11, ts a0), (13, ti (List.length a1 : Int))] [] rfl <| iE h fun hc h => y (y_sub (i := (List.length a1 : Int)) (j := (List.length a0 : Int)) tabOk rfl rfl rfl hc.1 hc.2.1 hc.2.2 rfl) rfl ?_
 refine q 1 [(4, ts (List.drop (Int.toNat (List.length a1 : Int)) (List.take (Int.toNat (List.length a0 : Int)) a0)))] [] rfl ?_
 obtain ⟨after2, e, h⟩ := uao h; rw [e]
 refine p 1 [4,5] rfl <| zf ?_
 cases h
 exact ua2 (rs := [.tmp 4, .tmp 5]) rfl (.cons (.tmp rfl) (.cons (.tmp rfl) (.nil))) rfl (fun _ vs g => ubr vs g) (fun _ _ _ => List.nil_sublist _)

theorem ugv (a0 : List Int) (a1 : List Int) (r : List Int × Bool) (h : ucX a0 a1 = some r) : Pure Tryz.prog 44 [ts a0, ts a1] (.tup [⟨.str, r.1⟩, ⟨.bool, r.2⟩]) := by
 unfold ucX at h
 refine enter Tryz.func44 rfl 11 rfl rfl fun F => ?_
 refine zu <| p 2 [0,1] rfl <| zz <| p 2 [6,7] rfl <| cB h fun r1 hr1 h => ubk (uef _ _ _ hr1) (by kernel_rfl) rfl rfl <| q 4 [(4, ts r1.1), (5, tb r1.2)] [] rfl <| zf ?_
 cases h
 exact ua2 (rs := [.tmp 4, .tmp 5]) rfl (.cons (.tmp rfl) (.cons (.tmp rfl) (.nil))) rfl (fun _ vs g => ubr vs g) (fun _ _ _ => List.nil_sublist _)

theorem ujR (a0 : List Int) (r : Int) (h : ueI a0 = some r) : Pure Tryz.prog 45 [ts a0] (ti r) := by
 unfold ueI at h
 refine enter Tryz.func45 rfl 48 rfl rfl fun F => ?_
 refine zu <| p 1 [0] rfl <| za <| zs <| zu <| q 3 [(7, tb (a0 == []))] [0] rfl ?_
 obtain ⟨b1, e, h⟩ := uao h; rw [e]
 refine bX h fun k2 hk2 h => ?_
 refine ubh (γ := Unit) 9 (fun (o3 : Bool) _ => [(0, ts a0), (16, tb o3)]) (fun _ _ => []) k2 r ?_ ?_
 ·rcases Bool.eq_false_or_eq_true b1 with hh | hh
  ·rw [hh] at h ⊢
   rw [if_pos rfl] at h
   exact p 9 [0,16] rfl <| zn <| uab [0,16] rfl <| zt <| by exact uai true () h rfl rfl
  rw [hh] at h ⊢
  rw [if_neg (by decide)] at h
  refine q 4 [(7, tb false), (11, tb (decide ((List.length a0 : Int) > 1)))] [0] rfl ?_
  obtain ⟨b4, e, h⟩ := uao h; rw [e]
  refine bX h fun k5 hk5 h => ?_
  refine ubh (γ := Unit) 4 (fun (o6 : Bool) _ => [(0, ts a0), (7, tb false), (15, tb o6)]) (fun _ _ => []) k5 r ?_ ?_
  ·rcases Bool.eq_false_or_eq_true b4 with hh | hh
   ·rw [hh] at h ⊢
    rw [if_pos rfl] at h
    refine p 1 [0,7,11,12] rfl <| uaI (by rfl) rfl ?_
    refine iE h fun hc h => y (udH tabOk rfl rfl hc.1 hc.2 rfl) rfl ?_
    exact q 2 [(15, tb ((List.getD a0 0 0) == 48))] [0,7] rfl <| zn <| uab [0,7,15] rfl <| zt <| by exact uai ((List.getD a0 0 0) == 48) () h rfl rfl
   rw [hh] at h ⊢
   rw [if_neg (by decide)] at h
   exact p 4 [0,7,15] rfl <| zn <| uab [0,7,15] rfl <| zt <| by exact uai false () h rfl rfl
  intro o6 _ h
  rw [← hk5] at h
  try dsimp only at h
  exact p 1 [0,16] rfl <| zn <| uab [0,16] rfl <| zt <| by exact uai o6 () h rfl rfl
 intro o3 _ h
 rw [← hk2] at h
 try dsimp only at h
 refine za <| rI h rfl (fun hc h => zu <| p 1 [2] rfl <| zf <| zT <| by cases h; exact uav rfl (.tmp rfl) (fun _ _ g => g) (fun _ _ _ => List.nil_sublist _)) fun hc h => zy <| p 1 [0,3] rfl <| za <| jK h (γ := Unit) (fun (o8 : Int) _ => [(3, ti o8)]) (fun (o8 : Int) _ => []) (fun k7 h => ?_) fun o8 gg h => ?_
 ·refine zu <| q 3 [(18, ti (List.length a0 : Int)), (19, ti 0)] [0,3] rfl <| za <| zb <| uab [0,3,18,19] rfl <| ubv (γ := Unit) (fun (s10 : Int × Int) _ => [(0, ts a0), (3, ti s10.1), (18, ti (List.length a0 : Int)), (19, ti s10.2)]) (fun (s10 : Int × Int) _ => []) (ucG a0 k7) (0, 0) () h rfl rfl ?_
  clear h
  intro m11 s10 gg h
  cases m11 with
  | zero => cases h
  | succ m11 =>
  simp only [ucG] at h
  refine zu <| q 1 [(3, ti s10.1), (19, ti s10.2), (20, tb (decide (s10.2 < (List.length a0 : Int))))] [0,18] rfl <| za <| zs <| rI h rfl (fun hc h => ?_) fun hc h => ?_
  ·refine zk <| zt <| zs <| zb <| zu <| q 2 [(4, ti s10.2)] [0,3,18,19] rfl <| za <| zs <| zu <| q 2 [(22, ts a0), (23, ti s10.2)] [0,3,4,18,19] rfl <| iE h fun hc h => y (udH tabOk rfl rfl hc.1 hc.2 rfl) rfl ?_
   refine q 2 [(26, tb (decide ((List.getD a0 (Int.toNat s10.2) 0) < 48)))] [0,3,4,18,19] rfl ?_
   obtain ⟨b12, e, h⟩ := uao h; rw [e]
   refine bX h fun k13 hk13 h => ?_
   refine ubh (γ := Unit) 5 (fun (o14 : Bool) _ => [(0, ts a0), (3, ti s10.1), (4, ti s10.2), (18, ti (List.length a0 : Int)), (19, ti s10.2), (31, tb o14)]) (fun _ _ => []) k13 r ?_ ?_
   ·rcases Bool.eq_false_or_eq_true b12 with hh | hh
    ·rw [hh] at h ⊢
     rw [if_pos rfl] at h
     exact p 5 [0,3,4,18,19,31] rfl <| zn <| uab [0,3,4,18,19,31] rfl <| zt <| by exact uai true () h rfl rfl
    rw [hh] at h ⊢
    rw [if_neg (by decide)] at h
    refine q 2 [(26, tb false), (27, ts a0), (28, ti s10.2)] [0,3,4,18,19] rfl <| uaI (by rfl) rfl ?_
    refine iE h fun hc h => y (udH tabOk rfl rfl hc.1 hc.2 rfl) rfl ?_
    exact q 2 [(31, tb (decide ((List.getD a0 (Int.toNat s10.2) 0) > 57)))] [0,3,4,18,19] rfl <| zn <| uab [0,3,4,18,19,31] rfl <| zt <| by exact uai (decide ((List.getD a0 (Int.toNat s10.2) 0) > 57)) () h rfl rfl
   intro o14 _ h
   rw [← hk13] at h
   try dsimp only at h
   refine p 1 [0,3,4,18,19,32] rfl ?_
   refine uaG (γ := Unit) 3 (fun _ => [(0, ts a0), (3, ti s10.1), (4, ti s10.2), (18, ti (List.length a0 : Int)), (19, ti s10.2), (35, tb (o14 || (decide (s10.1 > 9999999))))]) (fun _ => []) ?_ (fun _ => ?_)
   ·clear h
    rcases Bool.eq_false_or_eq_true o14 with hh | hh
    ·rw [hh]
     exact p 3 [0,3,4,18,19,35] rfl <| za <| by exact uau () rfl rfl
    rw [hh]
    exact q 3 [(35, tb (decide (s10.1 > 9999999)))] [0,3,4,18,19] rfl <| uab [0,3,4,18,19,35] rfl <| za <| by exact uau () rfl rfl
   refine za <| rI h rfl (fun hc h => zu <| p 1 [2] rfl <| zf <| zT <| zB <| zT <| zT <| zB <| zT <| by cases h; exact uav rfl (.tmp rfl) (fun _ _ g => g) (fun _ _ _ => List.nil_sublist _)) fun hc h => zk <| zt <| zr <| q 4 [(37, ti (IntKind.wrap .i64 (10 * s10.1))), (38, ts a0), (39, ti s10.2)] [0,18,19] rfl <| iE h fun hc h => y (udH tabOk rfl rfl hc.1 hc.2 rfl) rfl ?_
   refine q 3 [(43, ti (IntKind.wrap .i64 ((IntKind.wrap .i64 (10 * s10.1)) + (IntKind.wrap .i64 (IntKind.wrap .u8 ((List.getD a0 (Int.toNat s10.2) 0) - 48))))))] [0,18,19] rfl ?_
   obtain ⟨t16, e, h⟩ := uao h; rw [e]
   exact p 1 [0,3,18,19] rfl <| zn <| zi <| zt <| zr <| q 2 [(19, ti (IntKind.wrap .i64 (s10.2 + 1)))] [0,3,18] rfl <| za <| uab [0,3,18,19] rfl <| by exact ubp (t16, (IntKind.wrap .i64 (s10.2 + 1))) () (Nat.lt_succ_self _) h rfl rfl
  exact zx <| ze <| ze <| zq <| zt <| uab [3] rfl <| by exact uai s10.1 () h rfl rfl
 refine zs <| zu <| p 2 [3,46] rfl <| za <| rI h rfl (fun hc h => zu <| p 1 [2] rfl <| zf <| zT <| by cases h; exact uav rfl (.tmp rfl) (fun _ _ g => g) (fun _ _ _ => List.nil_sublist _)) fun hc h => zy <| p 2 [2] rfl <| zf ?_
 cases h
 exact uav rfl (.tmp rfl) (fun _ _ g => g) (fun _ _ _ => List.nil_sublist _)

theorem sortI : ufB Tryz.prog 46 (Value.int .i64) (fun x y => decide (x ≤ y)) := uoa Tryz.laysSortI

theorem ueM (b1 : Nat) (p1 p100 : Value) (a1 : Unit × List Int × Int × (List (Int × Int × Int × Unit)) × Int × Bool × Unit) (a100 : DiskS) (r : List Int) (h : ucd a1 a100 = some r) : IterOk Tryz.prog (TabM Tryz.prog tabs) 42 [adr b1] [Res.var b1 33 (.raw (.pointer none)) p1, Res.cls (CLog p100) p1 a1, Res.disk Tryz.prog dI p100 a100] r := by
 unfold ucd at h
 refine IterOk.of fun F w l K B Lo hT hR hK hperm hst => ?_
 refine unb (F := F) (args := [.one (.raw .nilFunc) (.func (.yield l) #[] #[]), ptr b1 0]) Tryz.func42 rfl 56 rfl rfl ?_ hst (.cons (holds_raw.2 ⟨rfl, rfl⟩) (.cons (holds_raw.2 ⟨rfl, rfl⟩) .nil))
 refine uog (Lc := [Res.var b1 33 (.raw (.pointer none)) p1, Res.cls (CLog p100) p1 a1, Res.disk Tryz.prog dI p100 a100]) fun F1 hle back => ?_
 replace hT := TabM.mono hle hT
 refine pk [1,0,0] rfl <| ud1 fun b2 sv1 hp => ?_
 subst hp
 refine uaK (x := a1) (q := p100) ?_
 refine pk [1,0,0] rfl <| zu <| q 1 [(0, .one (.raw .nilFunc) (.func (.yield l) #[] #[])), (1, ptr b1 0), (3, .one (.raw (.slice none 0 0)) (.slice none 0 0))] [] rfl <| ua1 (.slice none 0 0) rfl 3 (.int .i64) ?_
 refine za <| jK h (γ := Value) (fun (o4 : List (Int)) g5 => [(0, .one (.raw .nilFunc) (.func (.yield l) #[] #[])), (3, .one (.raw (.slice none 0 0)) g5)]) (fun (o4 : List (Int)) g5 => [Res.cls (CLog p100) (.pointer (some ⟨b2, 0, none⟩)) a1, Res.disk Tryz.prog dI p100 a100, Res.own g5 3 (.int .i64) o4, Res.var b1 33 (.raw (.pointer none)) (.pointer (some ⟨b2, 0, none⟩))]) (fun k3 h => ?_) fun o4 g5 h => ?_
 ·refine zs <| pk [2,0,0,0] rfl <| ubZ fun sv6 => ?_
  refine zr <| yl 3 .here ty33 rfl rfl rfl trivial rfl <| p 2 [0,1,3,13] rfl <| yl 0 ((.fst .here)) ty23 rfl rfl rfl trivial rfl <| cB h fun r7 hr7 h => rc [4] (uhn _ _ _ hr7) (by kernel_rfl) rfl rfl rfl fun v8 => y (uaZ tabOk 1 rfl rfl rfl) rfl ?_
  refine q 1 [(15, .one (.raw (.slice none 0 0)) v8), (16, ti (List.length r7 : Int)), (17, ti 0)] [0,1,3] rfl <| za <| zb <| uab [0,1,3,15,16,17] rfl <| ubv (γ := Value × Value) (fun (s14 : Int × List (Int)) g17 => [(0, .one (.raw .nilFunc) (.func (.yield l) #[] #[])), (1, ptr b1 0), (3, .one (.raw (.slice none 0 0)) g17.2), (15, .one (.raw (.slice none 0 0)) g17.1), (16, ti (List.length r7 : Int)), (17, ti s14.1)]) (fun (s14 : Int × List (Int)) g17 => [Res.disk Tryz.prog dI p100 a100, Res.own g17.1 9 .str r7, Res.var b2 68 (.pair (.raw (.pointer none)) (.pair .str (.pair (.int .i64) (.pair (.raw (.slice none 0 0)) (.pair (.int .i64) (.pair .bool .unit)))))) (p100, a1.2.1, a1.2.2.1, sv6, a1.2.2.2.2.1, a1.2.2.2.2.2.1, a1.2.2.2.2.2.2), Res.own sv6 77 Y77 a1.2.2.2.1, Res.own g17.2 3 (.int .i64) s14.2, Res.var b1 33 (.raw (.pointer none)) (.pointer (some ⟨b2, 0, none⟩))]) (ubN a1 k3 r7) (0, []) (v8, (.slice none 0 0)) h rfl rfl ?_
  clear h
  intro m18 s14 g17 h
  cases m18 with
  | zero => cases h
  | succ m18 =>
  simp only [ubN] at h
  refine zu <| q 1 [(3, .one (.raw (.slice none 0 0)) g17.2), (15, .one (.raw (.slice none 0 0)) g17.1), (17, ti s14.1), (18, tb (decide (s14.1 < (List.length r7 : Int))))] [0,1,16] rfl <| za <| zs <| rI h rfl (fun hc h => ?_) fun hc h => ?_
  ·refine zk <| zt <| jK h (γ := Value × Value) (fun (o20 : List (Int)) g23 => [(0, .one (.raw .nilFunc) (.func (.yield l) #[] #[])), (1, ptr b1 0), (3, .one (.raw (.slice none 0 0)) g23.2), (15, .one (.raw (.slice none 0 0)) g23.1), (16, ti (List.length r7 : Int)), (17, ti s14.1)]) (fun (o20 : List (Int)) g23 => [Res.disk Tryz.prog dI p100 a100, Res.own g23.1 9 .str r7, Res.var b2 68 (.pair (.raw (.pointer none)) (.pair .str (.pair (.int .i64) (.pair (.raw (.slice none 0 0)) (.pair (.int .i64) (.pair .bool .unit)))))) (p100, a1.2.1, a1.2.2.1, sv6, a1.2.2.2.2.1, a1.2.2.2.2.2.1, a1.2.2.2.2.2.2), Res.own sv6 77 Y77 a1.2.2.2.1, Res.own g23.2 3 (.int .i64) o20, Res.var b1 33 (.raw (.pointer none)) (.pointer (some ⟨b2, 0, none⟩))]) (fun k19 h => ?_) fun o20 g23 h => ?_
   ·refine zb <| zu <| iE h fun hc h => ubD 1 rfl (by first | omega | (simp only [List.length_set] at hc ⊢; omega)) fun b24 o26 c25 hv => ?_
    rw [hv]
    try clear hv
    refine y (ucb tabOk rfl rfl hc.1 (by first | exact hc.2 | simpa using hc.2) rfl ty9) rfl ?_
    refine y (uco 1 (Int.toNat s14.1) .here rfl rfl (by first | omega | (simp only [List.length_set] at hc ⊢; omega)) (by first | rfl | (simp only [Pth.off, T.size]; omega)) uam ty9) rfl ?_
    refine q 1 [(5, ts (List.getD r7 (Int.toNat s14.1) [])), (15, .one (.raw (.slice none 0 0)) (.slice (some ⟨b24, o26, none⟩) (List.length r7) c25))] [0,1,3,16,17] rfl ?_
    obtain ⟨f27, e, h⟩ := uao h; rw [e]
    refine zz <| p 1 [0,1,3,15,16,17,22] rfl <| yl 5 .here ty33 rfl rfl rfl trivial rfl <| p 2 [0,1,3,15,16,17,22,25] rfl <| yl 2 ((.snd (.fst .here))) ty9 rfl rfl rfl trivial rfl <| iE h fun hc h => y (y_cat rfl rfl hc) rfl ?_
    refine cB h fun r28 hr28 h => ubk (ugv _ _ _ hr28) (by kernel_rfl) rfl rfl <| q 5 [(6, ts r28.1), (7, tb r28.2)] [0,1,3,15,16,17] rfl <| zz <| q 1 [(31, ts r28.1)] [0,1,3,7,15,16,17] rfl <| cB h fun r29 hr29 h => ubk (ujR _ _ hr29) (by kernel_rfl) rfl rfl <| p 1 [0,1,3,7,8,15,16,17] rfl <| zz <| q 2 [(34, tb r28.2)] [0,1,3,8,15,16,17] rfl ?_
    refine uaG (γ := Unit) 3 (fun _ => [(0, .one (.raw .nilFunc) (.func (.yield l) #[] #[])), (1, ptr b1 0), (3, .one (.raw (.slice none 0 0)) g17.2), (8, ti r29), (15, .one (.raw (.slice none 0 0)) (.slice (some ⟨b24, o26, none⟩) (List.length r7) c25)), (16, ti (List.length r7 : Int)), (17, ti s14.1), (37, tb (r28.2 && (decide (r29 ≥ 0))))]) (fun _ => [Res.disk Tryz.prog dI p100 a100, Res.own (.slice (some ⟨b24, o26, none⟩) (List.length r7) c25) 9 .str r7, Res.var b2 68 (.pair (.raw (.pointer none)) (.pair .str (.pair (.int .i64) (.pair (.raw (.slice none 0 0)) (.pair (.int .i64) (.pair .bool .unit)))))) (p100, a1.2.1, a1.2.2.1, sv6, a1.2.2.2.2.1, a1.2.2.2.2.2.1, a1.2.2.2.2.2.2), Res.own sv6 77 Y77 a1.2.2.2.1, Res.own g17.2 3 (.int .i64) s14.2, Res.var b1 33 (.raw (.pointer none)) (.pointer (some ⟨b2, 0, none⟩))]) ?_ (fun _ => ?_)
    ·clear h
     rcases Bool.eq_false_or_eq_true r28.2 with hh | hh
     ·rw [hh]
      exact p 3 [0,1,3,8,15,16,17,37] rfl <| za <| by exact uau () rfl rfl
     rw [hh]
     exact p 3 [0,1,3,8,15,16,17,37] rfl <| za <| by exact uau () rfl rfl
    refine za <| rI h rfl (fun hc h => ?_) fun hc h => ?_
    ·refine zr <| q 2 [(38, .one (.raw (.slice none 0 0)) g17.2), (39, ti r29)] [0,1,15,16,17] rfl <| ub7 (B := 8) tabOk rfl el3 rfl rfl rfl (.cons rfl .nil) rfl fun v31 => ?_
     refine iE h fun hc h => ubd (B := 8) tabOk 5 rfl rfl (uca 0 rfl rfl) rfl el3 rfl rfl hc rfl fun v32 => ?_
     exact pk [1,1,1,1,1,1] rfl <| p 1 [0,1,3,15,16,17] rfl <| zn <| zi <| zt <| uab [0,1,3,15,16,17] rfl <| by exact uai (s14.2 ++ [r29]) ((.slice (some ⟨b24, o26, none⟩) (List.length r7) c25), v32) h rfl rfl
    exact zk <| zi <| zt <| uab [0,1,3,15,16,17] rfl <| by exact uai s14.2 ((.slice (some ⟨b24, o26, none⟩) (List.length r7) c25), g17.2) h rfl rfl
   exact zr <| q 2 [(0, .one (.raw .nilFunc) (.func (.yield l) #[] #[])), (1, ptr b1 0), (3, .one (.raw (.slice none 0 0)) g23.2), (15, .one (.raw (.slice none 0 0)) g23.1), (16, ti (List.length r7 : Int)), (17, ti (IntKind.wrap .i64 (s14.1 + 1)))] [] rfl <| za <| uab [0,1,3,15,16,17] rfl <| by exact ubp ((IntKind.wrap .i64 (s14.1 + 1)), o20) (g23.1, g23.2) (Nat.lt_succ_self _) h rfl rfl
  refine zx <| ze <| ze <| zq <| zt <| pk [2,2,0,0,0,0] rfl <| uaK (x := a1) (q := p100) ?_
  exact pk [0,0,1,1] rfl <| uab [0,3] rfl <| by exact uai s14.2 g17.2 h rfl rfl
 refine zu <| q 1 [(0, .one (.raw .nilFunc) (.func (.yield l) #[] #[])), (3, .one (.raw (.slice none 0 0)) g5), (43, .one (.raw (.slice none 0 0)) g5)] [] rfl ?_
 obtain ⟨hsrt, h⟩ := ubo h
 refine rc [2] (uoc sortI hsrt _) (by kernel_rfl) rfl rfl rfl fun _ => zz <| p 1 [0,45] rfl <| y (uaZ tabOk 0 rfl rfl rfl) rfl ?_
 refine q 1 [(46, ti (List.length (ubj o4) : Int)), (47, ti 0)] [0,45] rfl <| za <| udc (i := 0) (k := 45) rfl rfl ?_
 refine pk [2,0,0] rfl <| uab [0,45,46,47] rfl ?_
 cases h
 refine umd back ?_
 refine zb ?_
 have hlen : List.length (ubj o4) < 4611686018427387904 := by rw [(udP _).length_eq]; exact hsrt
 refine uoT (σ := Nat × List Res) (fun m s => m = List.length (ubj o4) - s.1 ∧ s.1 ≤ List.length (ubj o4) ∧ K (List.drop s.1 (ubj o4)) s.2) (fun s => [(0, .one (.raw .nilFunc) (.func (.yield l) #[] #[])), (45, .one (.sl 3 (.int .i64)) (ubj o4)), (46, ti (List.length (ubj o4) : Int)), (47, ti (s.1 : Int))]) (fun s => s.2) (List.length (ubj o4)) (0, [Res.var b1 33 (.raw (.pointer none)) (.pointer (some ⟨b2, 0, none⟩)), Res.cls (CLog p100) (.pointer (some ⟨b2, 0, none⟩)) a1, Res.disk Tryz.prog dI p100 a100] ++ Lo) ⟨rfl, Nat.zero_le _, hK⟩ rfl rfl ?_
 rintro m ⟨i, LK⟩ ⟨hm, hi, hKi⟩
 dsimp only at hm hi hKi
 refine zu <| q 1 [(45, .one (.sl 3 (.int .i64)) (ubj o4)), (47, ti (i : Int)), (48, tb (decide ((i : Int) < (List.length (ubj o4) : Int))))] [0,46] rfl <| za <| zs ?_
 refine r_if (b := decide ((i : Int) < (List.length (ubj o4) : Int))) rfl (fun hc => ?_) (fun hc => ?_)
 · have hlt : i < List.length (ubj o4) := by have := of_decide_eq_true hc; omega
   obtain ⟨x, rest, hdr, hgx, hdr2⟩ := ujN hlt
   refine uf5 ?_
   refine ub2 ?_
   refine r_seq ?_
   refine ug8 ?_
   refine r_seq ?_
   refine ubB ?_
   refine y (ue5 tabOk rfl rfl (by omega) (by omega) rfl ty3) rfl ?_
   refine y (y_ref rfl ty3) rfl ?_
   refine ucm tabOk 1 [0, 45, 46, 47, 10] (E' := [(0, .one (.raw .nilFunc) (.func (.yield l) #[] #[])), (45, .one (.sl 3 (.int .i64)) (ubj o4)), (46, ti (List.length (ubj o4) : Int)), (47, ti (i : Int)), (10, ti (List.getD (ubj o4) (Int.toNat (i : Int)) 0))]) rfl ?_
   refine r_nil ?_
   refine ub2 ?_
   refine r_seq ?_
   rw [show List.getD (ubj o4) (Int.toNat (i : Int)) 0 = x from hgx]
   refine uni (A := K rest) (B := B) rfl rfl rfl rfl rfl rfl rfl rfl (fun hr => hR x rest LK hr (hdr ▸ hKi)) (fun L' hA => ?_) (fun L' hB => ?_)
   · refine ub2 ?_
     refine r_if (b := false) rfl (fun hc => ?_) (fun hc => ?_)
     · cases hc
     · refine uf5 ?_
       refine ui5 ?_
       refine ub2 ?_
       refine ubB ?_
       refine ucm tabOk 2 [0, 45, 46, 47] (E' := [(0, .one (.raw .nilFunc) (.func (.yield l) #[] #[])), (45, .one (.sl 3 (.int .i64)) (ubj o4)), (46, ti (List.length (ubj o4) : Int)), (47, ti (IntKind.wrap .i64 ((i : Int) + 1)))]) rfl ?_
       refine r_nil ?_
       refine ub2 ?_
       rw [unf hlt hlen]
       exact uoU (List.length (ubj o4) - (i + 1)) (i + 1, L') (by omega) ⟨rfl, hlt, by rw [hdr2]; exact hA⟩ rfl rfl
   · refine ub2 ?_
     refine r_if (b := true) rfl (fun hc => ?_) (fun hc => ?_)
     · refine r_ret ?_
       refine ulq ?_
       refine uj0 ?_
       refine uj0 ?_
       refine ulq ?_
       exact uoV rfl (.inr hB)
     · cases hc
 · have hge : List.length (ubj o4) ≤ i := by have := of_decide_eq_false hc; omega
   refine ujZ ?_
   refine uib ?_
   refine uib ?_
   refine e_eq ?_
   exact unj rfl (.inl (by rw [List.drop_eq_nil_of_le hge] at hKi; exact hKi))

theorem uiI (a0 : Int) (r : List Int) (h : strconv_Itoa a0 = some r) : FnT Tryz.prog tabs 52 [ti a0] [] (fun _ => ts r) (fun _ => []) := une (List.mem_singleton.2 rfl) Go.Proofs.Tryz.strconv_Itoa a0 r h

theorem uar (b0 : Nat) (v0 v3 : Value) (a0 : Unit × List Int × Int × (List (Int × Int × Int × Unit)) × Int × Bool × Unit) (a1 : Int) (r : List Int) (h : ube a0 a1 = some r) : FnT Tryz.prog tabs 32 [ptr b0 0, ti a1] [Res.var b0 68 (.pair (.raw (.pointer none)) (.pair .str (.pair (.int .i64) (.pair (.raw (.slice none 0 0)) (.pair (.int .i64) (.pair .bool .unit)))))) (v0, a0.2.1, a0.2.2.1, v3, a0.2.2.2.2.1, a0.2.2.2.2.2.1, a0.2.2.2.2.2.2)] (fun _ => ts r) (fun _ => [Res.var b0 68 (.pair (.raw (.pointer none)) (.pair .str (.pair (.int .i64) (.pair (.raw (.slice none 0 0)) (.pair (.int .i64) (.pair .bool .unit)))))) (v0, a0.2.1, a0.2.2.1, v3, a0.2.2.2.2.1, a0.2.2.2.2.2.1, a0.2.2.2.2.2.2)]) := by
 unfold ube at h
 refine udW Tryz.func32 rfl 13 rfl rfl fun F hT => ?_
 refine zu <| p 1 [0,1] rfl <| za <| zs <| uft (by kernel_rfl) (by kernel_rfl) ?_
 refine uaD tabOk 3 [1, 7] (E' := [(1, ti a1), (7, ptr b0 1)]) rfl ?_
 refine q_y (ubx 0 ((.snd (.fst .here))) rfl rfl (by first | rfl | (simp only [Pth.off, T.size]; omega)) (uaw (uaC uam)) ty9) rfl ?_
 refine iE h fun hc h => q_y (y_cat rfl rfl hc) rfl ?_
 refine uaD tabOk 1 [9, 10] (E' := [(9, ts (a0.2.1 ++ [46])), (10, ti a1)]) rfl ?_
 refine cB h fun r1 hr1 h => uod hT (by rfl) (uiI a1 _ hr1) (by kernel_rfl) rfl rfl rfl ?_
 refine iE h fun hc h => q_y (y_cat rfl rfl hc) rfl ?_
 refine uaD tabOk 1 [4] (E' := [(4, ts ((a0.2.1 ++ [46]) ++ r1))]) rfl ?_
 refine q_nil ?_
 refine zt <| zR ?_
 cases h
 exact uav rfl (.tmp rfl) (fun _ _ g => g) (fun _ _ _ => (.cons_cons _ .slnil))

theorem ucQ (b0 : Nat) (mv0 : Value) (a0 : DiskS) (a1 : List Int) (r : Int) (h : ub4 a0 a1 = some r) : Fn Tryz.prog 26 [ptr b0 0, ts a1] [Res.var b0 54 DT (a0.1, mv0, a0.2.2.1, a0.2.2.2.1, a0.2.2.2.2.1, a0.2.2.2.2.2.1, a0.2.2.2.2.2.2, ()), Res.dfiles Tryz.prog dI mv0 a0.2.1] (fun v => .tup [⟨.raw NV, tupv v 0⟩, ⟨(.int .i64), r⟩]) (fun v => [Res.var b0 54 DT (a0.1, mv0, a0.2.2.1, a0.2.2.2.1, a0.2.2.2.2.1, a0.2.2.2.2.2.1, a0.2.2.2.2.2.2, ()), Res.dfound Tryz.prog dI mv0 a0.2.1 a1 (tupv v 0) r]) := by
 unfold ub4 at h
 refine enter Tryz.func26 rfl 24 rfl rfl fun F => ?_
 refine zu <| p 2 [0,1] rfl <| za <| zs <| zu <| p 3 [0,1,10] rfl <| yl 0 ((.snd (.snd (.snd (.snd (.snd (.fst .here))))))) ty4 rfl rfl rfl trivial rfl <| za <| rI h rfl (fun hc h => zu <| p 2 [4,5] rfl <| zf <| zT <| pk [1,0] rfl <| uii (name := a1) (q := NV) (e := 9) (by decide) <| pk [1,0] rfl <| by cases h; exact ua2 (rs := [.tmp 4, .tmp 5]) rfl (.cons (.tmp rfl) (.cons (.tmp rfl) .nil)) rfl (fun _ vs g => by cases g with | cons h0 g => cases g with | cons h1 g => cases g; exact ⟨_, rfl, .cons (ua5 h0) (.cons h1 .nil)⟩) (fun _ vs g => by cases g with | cons h0 g => cases g with | cons h1 g => cases g; rw [ubI h0]; exact (.cons_cons _ (.cons_cons _ .slnil)))) fun hc h => zy <| p 3 [1,15] rfl <| yl 0 ((.snd (.fst .here))) ty52 rfl rfl rfl trivial rfl <| p 1 [16,17] rfl <| pk [1,0] rfl ?_
 refine ulD kstr rfl rfl Tryz.underlying52 zNV rfl fun q1 => ?_
 refine q 5 [(6, tp q1), (7, tb (Option.isSome (pget .str a1 a0.2.1)))] [] rfl ?_
 obtain ⟨there2, e, h⟩ := uao h; rw [e]
 refine za <| zs <| zu <| p 2 [6,22] rfl <| za <| rI h rfl (fun hc h => zu <| p 2 [4,5] rfl <| zf <| zT <| uay (R' := Res.dfiles Tryz.prog dI mv0 a0.2.1) 0 rfl uaY <| uii (name := a1) (q := NV) (e := 5) (by decide) <| pk [1,0] rfl <| by cases h; exact ua2 (rs := [.tmp 4, .tmp 5]) rfl (.cons (.tmp rfl) (.cons (.tmp rfl) .nil)) rfl (fun _ vs g => by cases g with | cons h0 g => cases g with | cons h1 g => cases g; exact ⟨_, rfl, .cons (ua5 h0) (.cons h1 .nil)⟩) (fun _ vs g => by cases g with | cons h0 g => cases g with | cons h1 g => cases g; rw [ubI h0]; exact (.cons_cons _ (.cons_cons _ .slnil)))) fun hc h => zy <| p 3 [4,5] rfl <| zf <| um1 <| pk [1,0] rfl ?_
 cases h
 exact ua2 (rs := [.tmp 4, .tmp 5]) rfl (.cons (.tmp rfl) (.cons (.tmp rfl) .nil)) rfl (fun _ vs g => by cases g with | cons h0 g => cases g with | cons h1 g => cases g; exact ⟨_, rfl, .cons (ua5 h0) (.cons h1 .nil)⟩) (fun _ vs g => by cases g with | cons h0 g => cases g with | cons h1 g => cases g; rw [ubI h0]; exact (.cons_cons _ (.cons_cons _ .slnil)))

theorem ud5 (p0 : Value) (a0 : DiskS) (a1 : List Int) (r : Int × Int) (h : udx a0 a1 = some r) : Fn Tryz.prog 35 [tp p0, ts a1] [Res.disk Tryz.prog dI p0 a0] (fun _ => .tup [⟨(.int .i64), r.1⟩, ⟨(.int .i64), r.2⟩]) (fun _ => [Res.disk Tryz.prog dI p0 a0]) := by
 unfold udx at h
 refine enter Tryz.func35 rfl 22 rfl rfl fun F => ?_
 refine ucK fun b2 mv1 hp => ?_
 subst hp
 refine zu <| p 2 [0,1] rfl <| zz <| p 2 [9,10] rfl <| cB h fun r3 hr3 h => ucI (Lo := []) (ucQ b2 mv1 a0 a1 _ hr3) (by kernel_rfl) (List.Perm.refl _) rfl rfl fun v4 => ?_
 refine p 5 [6,7] rfl <| za <| zs <| zu <| p 2 [6,7,15] rfl <| za <| rI h rfl (fun hc h => zu <| p 3 [4,5] rfl <| zf <| zT <| uay (R' := Res.dfiles Tryz.prog dI mv1 a0.2.1) 1 rfl ucF <| ua3 (P := Tryz.prog) (I := dI) (D := a0) <| by cases h; exact ua2 (rs := [.tmp 4, .tmp 5]) rfl (.cons (.tmp rfl) (.cons (.tmp rfl) (.nil))) rfl (fun _ vs g => ubr vs g) (fun _ _ _ => (.cons_cons _ .slnil))) fun hc h => zk <| zt <| zs <| iE h fun hc h => uay (R' := Res.dat Tryz.prog dI mv1 a0.2.1 a1 (tupv v4 0)) 1 rfl (ufm hc) <| cB h fun f5 hf5 h => pk [1,0] rfl ?_
 refine udd kstr hf5 fun fb6 sv7 tv8 dv9 hq => ?_
 rw [hq]
 clear hq
 refine zr <| p 3 [19] rfl <| yl 0 ((.fst .here)) tx1 rfl rfl rfl trivial rfl <| y (uaZ tabOk 1 rfl rfl rfl) rfl ?_
 refine q 2 [(4, ti (List.length f5.1 : Int)), (5, ti 0)] [] rfl <| zf <| udm (P := Tryz.prog) (I := dI) kstr hf5 ?_
 refine uay (R' := Res.dfiles Tryz.prog dI mv1 a0.2.1) 0 rfl uaY <| pk [1,0] rfl <| ua3 (P := Tryz.prog) (I := dI) (D := a0) ?_
 cases h
 exact ua2 (rs := [.tmp 4, .tmp 5]) rfl (.cons (.tmp rfl) (.cons (.tmp rfl) (.nil))) rfl (fun _ vs g => ubr vs g) (fun _ _ _ => (.cons_cons _ .slnil))

theorem ud6 (p0 : Value) (a0 : DiskS) (a1 : List Int) (a2 : Int) (a3 : Int) (r : List Int × Int) (h : udy a0 a1 a2 a3 = some r) : Fn Tryz.prog 47 [tp p0, ts a1, ti a2, ti a3] [Res.disk Tryz.prog dI p0 a0] (fun _ => .tup [⟨.str, r.1⟩, ⟨(.int .i64), r.2⟩]) (fun _ => [Res.disk Tryz.prog dI p0 a0]) := by
 unfold udy at h
 refine enter Tryz.func47 rfl 48 rfl rfl fun F => ?_
 refine ucK fun b2 mv1 hp => ?_
 subst hp
 refine zu <| p 2 [0,1,2,3] rfl <| zz <| p 2 [2,3,14,15] rfl <| cB h fun r3 hr3 h => ucI (Lo := []) (ucQ b2 mv1 a0 a1 _ hr3) (by kernel_rfl) (List.Perm.refl _) rfl rfl fun v4 => ?_
 refine p 5 [2,3,10,11] rfl <| za <| zs <| zu <| p 2 [2,3,10,11,20] rfl <| za <| rI h rfl (fun hc h => zu <| q 3 [(8, ts []), (9, ti r3)] [] rfl <| zf <| zT <| uay (R' := Res.dfiles Tryz.prog dI mv1 a0.2.1) 1 rfl ucF <| ua3 (P := Tryz.prog) (I := dI) (D := a0) <| by cases h; exact ua2 (rs := [.tmp 8, .tmp 9]) rfl (.cons (.tmp rfl) (.cons (.tmp rfl) (.nil))) rfl (fun _ vs g => ubr vs g) (fun _ _ _ => (.cons_cons _ .slnil))) fun hc h => zk <| zt <| zs <| zu <| p 3 [2,3,10,24] rfl ?_
 obtain ⟨b5, e, h⟩ := uao h; rw [e]
 refine uaG (γ := Unit) 3 (fun _ => [(2, ti a2), (3, ti a3), (10, tp (tupv v4 0)), (27, tb (b5 || (decide (a3 < 0))))]) (fun _ => [Res.var b2 54 DT (a0.1, mv1, a0.2.2.1, a0.2.2.2.1, a0.2.2.2.2.1, a0.2.2.2.2.2.1, a0.2.2.2.2.2.2, ()), Res.dfound Tryz.prog dI mv1 a0.2.1 a1 (tupv v4 0) r3]) ?_ (fun _ => ?_)
 ·clear h
  cases b5
  ·exact p 3 [2,3,10,27] rfl <| za <| by exact uau () rfl rfl
  exact p 3 [2,3,10,27] rfl <| za <| by exact uau () rfl rfl
 refine za <| rI h rfl (fun hc h => zu <| q 2 [(8, ts []), (9, ti 1)] [] rfl <| zf <| zT <| uay (R' := Res.dfiles Tryz.prog dI mv1 a0.2.1) 1 rfl ucF <| ua3 (P := Tryz.prog) (I := dI) (D := a0) <| by cases h; exact ua2 (rs := [.tmp 8, .tmp 9]) rfl (.cons (.tmp rfl) (.cons (.tmp rfl) (.nil))) rfl (fun _ vs g => ubr vs g) (fun _ _ _ => (.cons_cons _ .slnil))) fun hc h => zk <| zt <| zs <| zs <| iE h fun hc h => uay (R' := Res.dat Tryz.prog dI mv1 a0.2.1 a1 (tupv v4 0)) 1 rfl (ufm hc) <| cB h fun f6 hf6 h => pk [1,0] rfl <| udd kstr hf6 fun fb7 sv8 tv9 dv10 hq => ?_
 rw [hq]
 clear hq
 refine zr <| p 4 [2,3,10,28,31] rfl <| yl 0 ((.fst .here)) tx1 rfl rfl rfl trivial rfl <| y (uaZ tabOk 1 rfl rfl rfl) rfl ?_
 refine q 1 [(34, tb (decide (a2 ≥ (List.length f6.1 : Int))))] [2,3,10] rfl <| za <| rI h rfl (fun hc h => ?_) fun hc h => ?_
 ·refine zu <| q 2 [(8, ts []), (9, ti 0)] [] rfl <| zf <| zT <| udm (P := Tryz.prog) (I := dI) kstr hf6 ?_
  refine uay (R' := Res.dfiles Tryz.prog dI mv1 a0.2.1) 0 rfl uaY <| pk [1,0] rfl <| ua3 (P := Tryz.prog) (I := dI) (D := a0) ?_
  cases h
  exact ua2 (rs := [.tmp 8, .tmp 9]) rfl (.cons (.tmp rfl) (.cons (.tmp rfl) (.nil))) rfl (fun _ vs g => ubr vs g) (fun _ _ _ => (.cons_cons _ .slnil))
 refine zy <| p 3 [2,3,37] rfl <| yl 0 ((.fst .here)) tx1 rfl rfl rfl trivial rfl <| p 1 [3,38,39] rfl ?_
 obtain ⟨hs11, h⟩ := ubo h
 refine y (udv tabOk (i := a2) (j := (List.length f6.1 : Int)) rfl (ubX 1 rfl) rfl rfl hs11.1 hs11.2.1 hs11.2.2 rfl ty5) rfl ?_
 refine q 1 [(12, .one (.raw (.slice none 0 0)) (subv (T.size (.int .u8)) sv8 (Int.toNat a2) (Int.toNat (List.length f6.1 : Int))))] [3] rfl <| zz <| q 3 [(41, .one (.raw (.slice none 0 0)) (subv (T.size (.int .u8)) sv8 (Int.toNat a2) (Int.toNat (List.length f6.1 : Int)))), (42, ti a3), (43, .one (.raw (.slice none 0 0)) (subv (T.size (.int .u8)) sv8 (Int.toNat a2) (Int.toNat (List.length f6.1 : Int))))] [] rfl <| y (unW tabOk rfl (ues (ubX 1 rfl) hs11.1 hs11.2.1 hs11.2.2) rfl) rfl ?_
 refine y (y_min rfl rfl) rfl ?_
 obtain ⟨hs12, h⟩ := ubo h
 refine y (udv tabOk (i := (0 : Int)) (j := (min a3 (List.length (List.drop (Int.toNat a2) (List.take (Int.toNat (List.length f6.1 : Int)) f6.1)) : Int))) rfl (ues (ubX 1 rfl) hs11.1 hs11.2.1 hs11.2.2) rfl rfl hs12.1 hs12.2.1 hs12.2.2 rfl ty5) rfl ?_
 refine y (umZ tabOk rfl (ues (ues (ubX 1 rfl) hs11.1 hs11.2.1 hs11.2.2) hs12.1 hs12.2.1 hs12.2.2) rfl rfl rfl) rfl ?_
 refine q 1 [(8, ts (List.take (Int.toNat (min a3 (List.length (List.drop (Int.toNat a2) (List.take (Int.toNat (List.length f6.1 : Int)) f6.1)) : Int))) (List.drop (Int.toNat a2) (List.take (Int.toNat (List.length f6.1 : Int)) f6.1))))] [] rfl ?_
 obtain ⟨t13, e, h⟩ := uao h; rw [e]
 refine p 1 [8,9] rfl <| zf <| udm (P := Tryz.prog) (I := dI) kstr hf6 ?_
 refine uay (R' := Res.dfiles Tryz.prog dI mv1 a0.2.1) 0 rfl uaY <| pk [1,0] rfl <| ua3 (P := Tryz.prog) (I := dI) (D := a0) ?_
 cases h
 exact ua2 (rs := [.tmp 8, .tmp 9]) rfl (.cons (.tmp rfl) (.cons (.tmp rfl) (.nil))) rfl (fun _ vs g => ubr vs g) (fun _ _ _ => (.cons_cons _ .slnil))

theorem ufh (a0 : Int) (a1 : Int) (r : List Int) (h : ucZ a0 a1 = some r) : Pure Tryz.prog 55 [.one (.int .u64) a0, ti a1] (ts r) := by
 unfold ucZ at h
 refine enter Tryz.func55 rfl 28 rfl rfl fun F => ?_
 refine zu <| p 1 [0,1] rfl <| zz <| p 1 [0,1,7] rfl <| iE h fun hc h => umQ (B := 1) tabOk rfl el5 rfl zf5 rfl rfl rfl hc.1 hc.2 rfl fun v1 => ?_
 refine p 1 [0,1,5] rfl <| za <| jK h (γ := Value) (fun (o3 : List (Int)) g4 => [(5, .one (.raw (.slice none 0 0)) g4)]) (fun (o3 : List (Int)) g4 => [Res.own g4 5 (.int .u8) o3]) (fun k2 h => ?_) fun o3 g4 h => ?_
 ·refine zu <| p 1 [0,1,5,9] rfl <| y (uaZ tabOk 0 rfl rfl rfl) rfl ?_
  refine q 1 [(10, ti (List.length (List.replicate (Int.toNat a1) (0 : Int)) : Int)), (11, ti 0)] [0,1,5] rfl <| za <| zb <| uab [0,1,5,10,11] rfl <| ubv (γ := Value) (fun (s8 : Int × List (Int)) g9 => [(0, .one (.int .u64) a0), (1, ti a1), (5, .one (.raw (.slice none 0 0)) g9), (10, ti (List.length (List.replicate (Int.toNat a1) (0 : Int)) : Int)), (11, ti s8.1)]) (fun (s8 : Int × List (Int)) g9 => [Res.own g9 5 (.int .u8) s8.2]) (ucU a0 a1 k2) (0, (List.replicate (Int.toNat a1) (0 : Int))) v1 h rfl rfl ?_
  clear h
  intro m10 s8 g9 h
  cases m10 with
  | zero => cases h
  | succ m10 =>
  simp only [ucU] at h
  refine zu <| q 1 [(5, .one (.raw (.slice none 0 0)) g9), (11, ti s8.1), (12, tb (decide (s8.1 < (List.length (List.replicate (Int.toNat a1) (0 : Int)) : Int))))] [0,1,10] rfl <| za <| zs <| rI h rfl (fun hc h => ?_) fun hc h => ?_
  ·refine zk <| zt <| zs <| zb <| zu <| q 2 [(6, ti s8.1)] [0,1,5,10,11] rfl <| za <| zr <| q 8 [(14, .one (.raw (.slice none 0 0)) g9), (15, ti s8.1), (16, .one (.int .u64) a0), (21, ti (IntKind.wrap .i64 (8 * (IntKind.wrap .i64 ((IntKind.wrap .i64 (a1 - 1)) - s8.1)))))] [0,1,5,10,11] rfl <| iE h fun hc h => y (y_shr rfl rfl hc) rfl ?_
   refine q 1 [(23, .one (.int .u8) (IntKind.wrap .u8 (ishr .u64 a0 (IntKind.wrap .i64 (8 * (IntKind.wrap .i64 ((IntKind.wrap .i64 (a1 - 1)) - s8.1)))))))] [0,1,5,10,11,14,15] rfl ?_
   obtain ⟨t11, e, h⟩ := uao h; rw [e]
   refine iE h fun hc h => ubD 0 rfl (by first | omega | (simp only [List.length_set] at hc ⊢; omega)) fun b12 o14 c13 hv => ?_
   rw [hv]
   try clear hv
   refine y (ucb tabOk rfl rfl hc.1 (by first | exact hc.2 | simpa using hc.2) rfl ty5) rfl ?_
   refine ugJ 0 (Int.toNat s8.1) .here rfl rfl rfl (by first | omega | (simp only [List.length_set] at hc ⊢; omega)) (by first | rfl | (simp only [Pth.off, T.size]; omega)) uam ty5 ?_
   exact zn <| zi <| zt <| zr <| q 2 [(5, .one (.raw (.slice none 0 0)) (.slice (some ⟨b12, o14, none⟩) (List.length s8.2) c13)), (11, ti (IntKind.wrap .i64 (s8.1 + 1)))] [0,1,10] rfl <| za <| uab [0,1,5,10,11] rfl <| by exact ubp ((IntKind.wrap .i64 (s8.1 + 1)), (List.set s8.2 (Int.toNat s8.1) t11)) (.slice (some ⟨b12, o14, none⟩) (List.length s8.2) c13) (Nat.lt_succ_self _) h rfl rfl
  exact zx <| ze <| ze <| zq <| zt <| uab [5] rfl <| by exact uai s8.2 g9 h rfl rfl
 refine zu <| p 1 [26] rfl <| y (umR tabOk 0 rfl rfl rfl rfl rfl) rfl ?_
 refine p 1 [4] rfl <| zf ?_
 cases h
 exact uav rfl (.tmp rfl) (fun _ _ g => g) (fun _ _ _ => List.nil_sublist _)

theorem uk0 (a0 : Int) (a1 : Int) (r : Int) (h : ug6 a0 a1 = some r) : Pure Tryz.prog 86 [.one (.int .u32) a0, ti a1] (.one (.int .u32) r) := by
 unfold ug6 at h
 refine enter Tryz.func86 rfl 19 rfl rfl fun F => ?_
 refine zu <| p 1 [0,1] rfl <| za <| jK h (γ := Unit) (fun (o2 : Int) _ => [(0, .one (.int .u32) o2)]) (fun (o2 : Int) _ => []) (fun k1 h => ?_) fun o2 gg h => ?_
 ·refine zu <| p 2 [0,6,7] rfl <| za <| zb <| uab [0,6,7] rfl <| ubv (γ := Unit) (fun (s4 : Int × Int) _ => [(0, .one (.int .u32) s4.1), (6, ti a1), (7, ti s4.2)]) (fun (s4 : Int × Int) _ => []) (ueJ a1 k1) (a0, 0) () h rfl rfl ?_
  clear h
  intro m5 s4 gg h
  cases m5 with
  | zero => cases h
  | succ m5 =>
  simp only [ueJ] at h
  refine zu <| q 1 [(0, .one (.int .u32) s4.1), (7, ti s4.2), (8, tb (decide (s4.2 < a1)))] [6] rfl <| za <| zs <| rI h rfl (fun hc h => ?_) fun hc h => ?_
  ·refine zk <| zt <| jK h (γ := Unit) (fun (o7 : Int) _ => [(0, .one (.int .u32) o7), (6, ti a1), (7, ti s4.2)]) (fun (o7 : Int) _ => []) (fun k6 h => ?_) fun o7 gg h => ?_
   ·refine zb <| zu <| q 3 [(5, .one (.int .u32) (iand .u32 s4.1 1))] [0,6,7] rfl ?_
    obtain ⟨low8, e, h⟩ := uao h; rw [e]
    refine zz <| q 3 [(0, .one (.int .u32) (ishr .u32 s4.1 1)), (5, .one (.int .u32) low8)] [6,7] rfl ?_
    obtain ⟨x9, e, h⟩ := uao h; rw [e]
    refine zz <| p 2 [0,6,7,14] rfl <| za <| rI h rfl (fun hc h => ?_) fun hc h => ?_
    ·refine zr <| p 3 [0,6,7] rfl ?_
     obtain ⟨x10, e, h⟩ := uao h; rw [e]
     exact zn <| zi <| zt <| uab [0,6,7] rfl <| by exact uai x10 () h rfl rfl
    exact zk <| zi <| zt <| uab [0,6,7] rfl <| by exact uai x9 () h rfl rfl
   exact zr <| q 2 [(0, .one (.int .u32) o7), (6, ti a1), (7, ti (IntKind.wrap .i64 (s4.2 + 1)))] [] rfl <| za <| uab [0,6,7] rfl <| by exact ubp (o7, (IntKind.wrap .i64 (s4.2 + 1))) () (Nat.lt_succ_self _) h rfl rfl
  exact zx <| ze <| ze <| zq <| zt <| uab [0] rfl <| by exact uai s4.1 () h rfl rfl
 refine zu <| p 2 [4] rfl <| zf ?_
 cases h
 exact uav rfl (.tmp rfl) (fun _ _ g => g) (fun _ _ _ => List.nil_sublist _)

theorem ujS  (r : List (Int)) (h : ufs  = some r) : Pure Tryz.prog 65 [] (.one (.arr 16 (.int .u32)) r) := by
 unfold ufs at h
 refine enter Tryz.func65 rfl 13 rfl rfl fun F => ?_
 refine zu <| ubK (t := (.arr 16 (.int .u32))) rfl zf122 rfl fun b1 => zz <| ubK (t := (.arr 16 (.int .u32))) rfl zf122 rfl fun b2 => za <| jK h (γ := Unit) (fun (o4 : List (Int)) _ => [(0, ptr b1 0), (1, ptr b2 0)]) (fun (o4 : List (Int)) _ => [Res.var b2 122 (.arr 16 (.int .u32)) o4, Res.var b1 122 (.arr 16 (.int .u32)) (List.replicate 16 (0 : Int))]) (fun k3 h => ?_) fun o4 gg h => ?_
 ·refine zu <| p 1 [0,1,3] rfl <| za <| zb <| uab [0,1,3] rfl <| ubv (γ := Unit) (fun (s7 : Int × List (Int)) _ => [(0, ptr b1 0), (1, ptr b2 0), (3, ti s7.1)]) (fun (s7 : Int × List (Int)) _ => [Res.var b2 122 (.arr 16 (.int .u32)) s7.2, Res.var b1 122 (.arr 16 (.int .u32)) (List.replicate 16 (0 : Int))]) (ueh k3) (0, (List.replicate 16 (0 : Int))) () h rfl rfl ?_
  clear h
  intro m8 s7 gg h
  cases m8 with
  | zero => cases h
  | succ m8 =>
  simp only [ueh] at h
  refine zu <| q 1 [(3, ti s7.1), (4, tb (decide (s7.1 < 16)))] [0,1] rfl <| za <| zs <| rI h rfl (fun hc h => ?_) fun hc h => ?_
  ·refine zk <| zt <| zs <| zb <| zu <| q 2 [(2, ti s7.1)] [0,1,3] rfl <| za <| zr <| q 3 [(6, ti s7.1), (8, .one (.int .u32) (IntKind.wrap .u32 s7.1))] [0,1,3] rfl <| cB h fun r9 hr9 h => ubk (uk0 _ _ _ hr9) (by kernel_rfl) rfl rfl <| iE h fun hc h => y (uj1 rfl rfl hc.1 hc.2 un122 ty112) rfl ?_
   exact ulr 0 (.elem (Int.toNat s7.1) .here) rfl rfl rfl (by first | rfl | (simp only [Pth.off, T.size]; omega)) (uiN (by first | omega | (simp only [List.length_set] at hc ⊢; omega)) uam) ty112 <| zn <| zi <| zt <| zr <| q 2 [(3, ti (IntKind.wrap .i64 (s7.1 + 1)))] [0,1] rfl <| za <| uab [0,1,3] rfl <| by exact ubp ((IntKind.wrap .i64 (s7.1 + 1)), (List.set s7.2 (Int.toNat s7.1) r9)) () (Nat.lt_succ_self _) h rfl rfl
  exact zx <| ze <| ze <| zq <| zt <| uab [0,1] rfl <| by exact uai s7.2 () h rfl rfl
 refine zu <| yl 0 .here ty122 rfl rfl rfl trivial rfl <| st 1 .here ty122 rfl rfl rfl rfl trivial <| zf ?_
 cases h
 exact uav rfl (.cell 1 .here rfl rfl (by first | rfl | (simp only [Pth.off, T.size]; omega)) uam ty122) (fun _ _ g => g) (fun _ _ _ => List.nil_sublist _)

theorem ujI (a0 : Int) (a1 : List Int) (r : Int) (h : ufb a0 a1 = some r) : Pure Tryz.prog 56 [.one (.int .u32) a0, ts a1] (.one (.int .u32) r) := by
 unfold ufb at h
 refine enter Tryz.func56 rfl 39 rfl rfl fun F => ?_
 refine zu <| p 1 [0,1] rfl <| zz <| cB h fun r1 hr1 h => ubk (ujS _ hr1) (by kernel_rfl) rfl rfl <| ubK (t := (.arr 16 (.int .u32))) rfl zf122 rfl fun b2 => st 0 .here ty122 rfl rfl rfl rfl trivial <| zz <| p 3 [1,5,6] rfl ?_
 obtain ⟨x3, e, h⟩ := uao h; rw [e]
 refine za <| jK h (γ := Unit) (fun (o5 : Int) _ => [(6, .one (.int .u32) o5)]) (fun (o5 : Int) _ => [Res.var b2 122 (.arr 16 (.int .u32)) r1]) (fun k4 h => ?_) fun o5 gg h => ?_
 ·refine zu <| q 3 [(6, .one (.int .u32) x3), (12, ti (List.length a1 : Int)), (13, ti 0)] [1,5] rfl <| za <| zb <| uab [1,5,6,12,13] rfl <| ubv (γ := Unit) (fun (s7 : Int × Int) _ => [(1, ts a1), (5, ptr b2 0), (6, .one (.int .u32) s7.1), (12, ti (List.length a1 : Int)), (13, ti s7.2)]) (fun (s7 : Int × Int) _ => [Res.var b2 122 (.arr 16 (.int .u32)) r1]) (udY a1 r1 k4) (x3, 0) () h rfl rfl ?_
  clear h
  intro m8 s7 gg h
  cases m8 with
  | zero => cases h
  | succ m8 =>
  simp only [udY] at h
  refine zu <| q 1 [(6, .one (.int .u32) s7.1), (13, ti s7.2), (14, tb (decide (s7.2 < (List.length a1 : Int))))] [1,5,12] rfl <| za <| zs <| rI h rfl (fun hc h => ?_) fun hc h => ?_
  ·refine zk <| zt <| zs <| zb <| zu <| q 2 [(7, ti s7.2)] [1,5,6,12,13] rfl <| zz <| q 3 [(16, .one (.int .u32) s7.1), (17, ts a1), (18, ti s7.2)] [1,5,12,13] rfl <| iE h fun hc h => y (udH tabOk rfl rfl hc.1 hc.2 rfl) rfl ?_
   refine q 3 [(6, .one (.int .u32) (ixor .u32 s7.1 (IntKind.wrap .u32 (List.getD a1 (Int.toNat s7.2) 0))))] [1,5,12,13] rfl ?_
   obtain ⟨x9, e, h⟩ := uao h; rw [e]
   refine zz <| p 4 [1,5,12,13,23,25] rfl <| iE h fun hc h => y (uj1 rfl rfl hc.1 hc.2 un122 ty112) rfl ?_
   refine y (ubx 0 (.elem (Int.toNat (iand .u32 x9 15)) .here) rfl rfl (by first | rfl | (simp only [Pth.off, T.size]; omega)) (uiN (by first | omega | (simp only [List.length_set] at hc ⊢; omega)) uam) ty112) rfl ?_
   refine q 2 [(6, .one (.int .u32) (ixor .u32 (ishr .u32 x9 4) (List.getD r1 (Int.toNat (iand .u32 x9 15)) 0)))] [1,5,12,13] rfl ?_
   obtain ⟨x10, e, h⟩ := uao h; rw [e]
   refine za <| zr <| p 4 [1,5,12,13,30,32] rfl <| iE h fun hc h => y (uj1 rfl rfl hc.1 hc.2 un122 ty112) rfl ?_
   refine y (ubx 0 (.elem (Int.toNat (iand .u32 x10 15)) .here) rfl rfl (by first | rfl | (simp only [Pth.off, T.size]; omega)) (uiN (by first | omega | (simp only [List.length_set] at hc ⊢; omega)) uam) ty112) rfl ?_
   refine q 2 [(6, .one (.int .u32) (ixor .u32 (ishr .u32 x10 4) (List.getD r1 (Int.toNat (iand .u32 x10 15)) 0)))] [1,5,12,13] rfl ?_
   obtain ⟨x11, e, h⟩ := uao h; rw [e]
   exact zn <| zi <| zt <| zr <| q 2 [(6, .one (.int .u32) x11), (13, ti (IntKind.wrap .i64 (s7.2 + 1)))] [1,5,12] rfl <| za <| uab [1,5,6,12,13] rfl <| by exact ubp (x11, (IntKind.wrap .i64 (s7.2 + 1))) () (Nat.lt_succ_self _) h rfl rfl
  exact zx <| ze <| ze <| zq <| zt <| uab [6] rfl <| by exact uai s7.1 () h rfl rfl
 refine zu <| p 3 [4] rfl <| zf ?_
 cases h
 exact uav rfl (.tmp rfl) (fun _ _ g => g) (fun _ _ _ => List.nil_sublist _)

theorem umF (a0 : List Int) (r : Int) (h : ufv a0 = some r) : Pure Tryz.prog 57 [ts a0] (.one (.int .u32) r) := by
 unfold ufv at h
 refine enter Tryz.func57 rfl 5 rfl rfl fun F => ?_
 refine zu <| p 1 [0] rfl <| zz <| p 1 [3] rfl <| cB h fun r1 hr1 h => ubk (ujI _ _ _ hr1) (by kernel_rfl) rfl rfl <| p 1 [2] rfl <| zf ?_
 cases h
 exact uav rfl (.tmp rfl) (fun _ _ g => g) (fun _ _ _ => List.nil_sublist _)

theorem uho (a0 : List Int) (a1 : Int) (r : List Int) (h : strings_Repeat a0 a1 = some r) : Pure Tryz.prog 58 [.one .str a0, .one (.int .i64) a1] (.one .str r) := uk5 Go.Proofs.Tryz.strings_Repeat a0 a1 r h

theorem ugf (a0 : Int) (a1 : List Int) (r : List Int × Int) (h : udR a0 a1 = some r) : Pure Tryz.prog 39 [ti a0, ts a1] (.tup [⟨.str, r.1⟩, ⟨(.int .i64), r.2⟩]) := by
 unfold udR at h
 refine enter Tryz.func39 rfl 40 rfl rfl fun F => ?_
 refine zu <| p 2 [0,1] rfl <| za <| zs <| zu <| p 2 [0,1,10] rfl <| za <| rI h rfl (fun hc h => zu <| q 2 [(4, ts []), (5, ti 1)] [] rfl <| zf <| zT <| by cases h; exact ua2 (rs := [.tmp 4, .tmp 5]) rfl (.cons (.tmp rfl) (.cons (.tmp rfl) (.nil))) rfl (fun _ vs g => ubr vs g) (fun _ _ _ => List.nil_sublist _)) fun hc h => zk <| zt <| zs <| zu <| q 3 [(13, tb (decide ((List.length a1 : Int) > 65536)))] [0,1] rfl <| za ?_
 refine rI h rfl (fun hc h => zu <| q 2 [(4, ts []), (5, ti 3)] [] rfl <| zf <| zT <| by cases h; exact ua2 (rs := [.tmp 4, .tmp 5]) rfl (.cons (.tmp rfl) (.cons (.tmp rfl) (.nil))) rfl (fun _ vs g => ubr vs g) (fun _ _ _ => List.nil_sublist _)) fun hc h => zy <| q 3 [(16, .one (.int .u64) (IntKind.wrap .u64 (List.length a1 : Int)))] [0,1] rfl <| cB h fun r1 hr1 h => ubk (ufh _ _ _ hr1) (by kernel_rfl) rfl rfl <| p 2 [1,17,19] rfl <| cB h fun r2 hr2 h => ubk (ufh _ _ _ hr2) (by kernel_rfl) rfl rfl <| iE h fun hc h => y (y_cat rfl rfl hc) rfl ?_
 refine p 1 [1,6] rfl ?_
 obtain ⟨head3, e, h⟩ := uao h; rw [e]
 refine zz <| p 1 [1,6,22] rfl <| cB h fun r4 hr4 h => ubk (umF _ _ hr4) (by kernel_rfl) rfl rfl <| p 1 [1,6,23,24] rfl <| cB h fun r5 hr5 h => ubk (ujI _ _ _ hr5) (by kernel_rfl) rfl rfl <| p 1 [1,6,7] rfl <| zz <| p 3 [1,26,28] rfl <| cB h fun r6 hr6 h => ubk (ufh _ _ _ hr6) (by kernel_rfl) rfl rfl <| iE h fun hc h => y (y_cat rfl rfl hc) rfl ?_
 refine p 1 [30,31] rfl <| iE h fun hc h => y (y_cat rfl rfl hc) rfl ?_
 refine p 1 [8] rfl ?_
 obtain ⟨f7, e, h⟩ := uao h; rw [e]
 refine zz <| q 5 [(33, ts f7), (37, ti (iand .i64 (IntKind.wrap .i64 (0 - (List.length f7 : Int))) 63))] [] rfl <| cB h fun r8 hr8 h => ubk (uho _ _ _ hr8) (by kernel_rfl) rfl rfl <| iE h fun hc h => y (y_cat rfl rfl hc) rfl ?_
 refine p 2 [4,5] rfl <| zf ?_
 cases h
 exact ua2 (rs := [.tmp 4, .tmp 5]) rfl (.cons (.tmp rfl) (.cons (.tmp rfl) (.nil))) rfl (fun _ vs g => ubr vs g) (fun _ _ _ => List.nil_sublist _)

theorem ugw (a0 : List Int) (a1 : List Int) (r : Bool) (h : ubY a0 a1 = some r) : Pure Tryz.prog 67 [ts a0, ts a1] (tb r) := by
 unfold ubY at h
 refine enter Tryz.func67 rfl 8 rfl rfl fun F => ?_
 refine zu <| p 1 [0,1] rfl <| zz <| p 2 [5,6] rfl <| cB h fun r1 hr1 h => ubk (uc8 _ _ _ hr1) (by kernel_rfl) rfl rfl <| p 1 [4] rfl <| zf ?_
 cases h
 exact uav rfl (.tmp rfl) (fun _ _ g => g) (fun _ _ _ => List.nil_sublist _)

theorem ugC (a0 : List Int) (a1 : Int) (a2 : Int) (r : List Int × Int × Int) (h : udE a0 a1 a2 = some r) : Pure Tryz.prog 63 [ts a0, ti a1, ti a2] (.tup [⟨.str, r.1⟩, ⟨(.int .i64), r.2.1⟩, ⟨(.int .i64), r.2.2⟩]) := by
 unfold udE at h
 refine enter Tryz.func63 rfl 77 rfl rfl fun F => ?_
 refine zu <| p 3 [0,1,2] rfl <| za <| zs <| zu <| q 4 [(17, tb (a1 == (List.length a0 : Int)))] [0,1,2] rfl <| za <| rI h rfl (fun hc h => zu <| q 3 [(6, ts []), (7, ti 0), (8, ti 0)] [] rfl <| zf <| zT <| by cases h; exact ua2 (rs := [.tmp 6, .tmp 7, .tmp 8]) rfl (.cons (.tmp rfl) (.cons (.tmp rfl) (.cons (.tmp rfl) (.nil)))) rfl (fun _ vs g => ubr vs g) (fun _ _ _ => List.nil_sublist _)) fun hc h => zk <| zt <| zs <| zu <| p 3 [0,1,2,20] rfl ?_
 obtain ⟨b1, e, h⟩ := uao h; rw [e]
 refine uaG (γ := Unit) 5 (fun _ => [(0, ts a0), (1, ti a1), (2, ti a2), (25, tb (b1 || (decide (a1 > (List.length a0 : Int)))))]) (fun _ => []) ?_ (fun _ => ?_)
 ·clear h
  cases b1
  ·exact q 5 [(25, tb (decide (a1 > (List.length a0 : Int))))] [0,1,2] rfl <| uab [0,1,2,25] rfl <| za <| by exact uau () rfl rfl
  exact p 5 [0,1,2,25] rfl <| za <| by exact uau () rfl rfl
 refine q 1 [(26, tb (b1 || (decide (a1 > (List.length a0 : Int)))))] [0,1,2] rfl ?_
 obtain ⟨b2, e, h⟩ := uao h; rw [e]
 refine uaG (γ := Unit) 6 (fun _ => [(0, ts a0), (1, ti a1), (2, ti a2), (32, tb (b2 || (decide ((IntKind.wrap .i64 ((List.length a0 : Int) - a1)) < 16))))]) (fun _ => []) ?_ (fun _ => ?_)
 ·clear h
  cases b2
  ·exact q 6 [(32, tb (decide ((IntKind.wrap .i64 ((List.length a0 : Int) - a1)) < 16)))] [0,1,2] rfl <| uab [0,1,2,32] rfl <| za <| by exact uau () rfl rfl
  exact p 6 [0,1,2,32] rfl <| za <| by exact uau () rfl rfl
 refine za <| rI h rfl (fun hc h => zu <| q 3 [(6, ts []), (7, ti 0), (8, ti 2)] [] rfl <| zf <| zT <| by cases h; exact ua2 (rs := [.tmp 6, .tmp 7, .tmp 8]) rfl (.cons (.tmp rfl) (.cons (.tmp rfl) (.cons (.tmp rfl) (.nil)))) rfl (fun _ vs g => ubr vs g) (fun _ _ _ => List.nil_sublist _)) fun hc h => zy <| p 2 [2,33,34] rfl <| iE h fun hc h => y (y_sub (i := a1) (j := (List.length a0 : Int)) tabOk rfl rfl rfl hc.1 hc.2.1 hc.2.2 rfl) rfl ?_
 refine q 1 [(0, ts (List.drop (Int.toNat a1) (List.take (Int.toNat (List.length a0 : Int)) a0)))] [2] rfl ?_
 obtain ⟨bx3, e, h⟩ := uao h; rw [e]
 refine zz <| p 1 [0,2,9] rfl <| za <| jK h (γ := Unit) (fun (o5 : Int) _ => [(0, ts bx3), (2, ti a2), (9, ti o5)]) (fun (o5 : Int) _ => []) (fun k4 h => ?_) fun o5 gg h => ?_
 ·refine zu <| p 1 [0,2,9,36] rfl <| za <| zb <| uab [0,2,9,36] rfl <| ubv (γ := Unit) (fun (s14 : Int × Int) _ => [(0, ts bx3), (2, ti a2), (9, ti s14.1), (36, ti s14.2)]) (fun (s14 : Int × Int) _ => []) (ucV bx3 k4) (0, 0) () h rfl rfl ?_
  clear h
  intro m15 s14 gg h
  cases m15 with
  | zero => cases h
  | succ m15 =>
  simp only [ucV] at h
  refine zu <| q 1 [(9, ti s14.1), (36, ti s14.2), (37, tb (decide (s14.2 < 4)))] [0,2] rfl <| za <| zs <| rI h rfl (fun hc h => ?_) fun hc h => ?_
  ·refine zk <| zt <| zs <| zb <| zu <| q 2 [(10, ti s14.2)] [0,2,9,36] rfl <| za <| zr <| q 4 [(40, ti (ishl .i64 s14.1 8)), (41, ts bx3), (42, ti s14.2)] [0,2,36] rfl <| iE h fun hc h => y (udH tabOk rfl rfl hc.1 hc.2 rfl) rfl ?_
   refine q 3 [(9, ti (ior .i64 (ishl .i64 s14.1 8) (IntKind.wrap .i64 (List.getD bx3 (Int.toNat s14.2) 0))))] [0,2,36] rfl ?_
   obtain ⟨length16, e, h⟩ := uao h; rw [e]
   exact zn <| zi <| zt <| zr <| q 2 [(9, ti length16), (36, ti (IntKind.wrap .i64 (s14.2 + 1)))] [0,2] rfl <| za <| uab [0,2,9,36] rfl <| by exact ubp (length16, (IntKind.wrap .i64 (s14.2 + 1))) () (Nat.lt_succ_self _) h rfl rfl
  exact zx <| ze <| ze <| zq <| zt <| uab [0,2,9] rfl <| by exact uai s14.1 () h rfl rfl
 refine zs <| zu <| p 3 [0,2,9,49] rfl ?_
 obtain ⟨b6, e, h⟩ := uao h; rw [e]
 refine uaG (γ := Unit) 6 (fun _ => [(0, ts bx3), (2, ti a2), (9, ti o5), (55, tb (b6 || (decide ((IntKind.wrap .i64 ((List.length bx3 : Int) - 16)) < o5))))]) (fun _ => []) ?_ (fun _ => ?_)
 ·clear h
  cases b6
  ·exact q 6 [(55, tb (decide ((IntKind.wrap .i64 ((List.length bx3 : Int) - 16)) < o5)))] [0,2,9] rfl <| uab [0,2,9,55] rfl <| za <| by exact uau () rfl rfl
  exact p 6 [0,2,9,55] rfl <| za <| by exact uau () rfl rfl
 refine za <| rI h rfl (fun hc h => zu <| q 3 [(6, ts []), (7, ti 0), (8, ti 2)] [] rfl <| zf <| zT <| by cases h; exact ua2 (rs := [.tmp 6, .tmp 7, .tmp 8]) rfl (.cons (.tmp rfl) (.cons (.tmp rfl) (.cons (.tmp rfl) (.nil)))) rfl (fun _ vs g => ubr vs g) (fun _ _ _ => List.nil_sublist _)) fun hc h => zy <| p 3 [0,2,56,58] rfl <| iE h fun hc h => y (y_sub (i := 16) (j := (IntKind.wrap .i64 (16 + o5))) tabOk rfl rfl rfl hc.1 hc.2.1 hc.2.2 rfl) rfl ?_
 refine q 1 [(11, ts (List.drop 16 (List.take (Int.toNat (IntKind.wrap .i64 (16 + o5))) bx3)))] [0,2] rfl ?_
 obtain ⟨payload7, e, h⟩ := uao h; rw [e]
 refine zz <| p 2 [0,11,61,62] rfl <| cB h fun r8 hr8 h => ubk (ugf _ _ _ hr8) (by kernel_rfl) rfl rfl <| q 5 [(12, ts r8.1), (13, ti r8.2)] [0,11] rfl <| zz <| q 3 [(68, tb (r8.2 != 0))] [0,11,12] rfl ?_
 obtain ⟨b9, e, h⟩ := uao h; rw [e]
 refine bX h fun k10 hk10 h => ?_
 refine ubh (γ := Unit) 5 (fun (o11 : Bool) _ => [(11, ts payload7), (12, ts r8.1), (73, tb o11)]) (fun _ _ => []) k10 r ?_ ?_
 ·rcases Bool.eq_false_or_eq_true b9 with hh | hh
  ·rw [hh] at h ⊢
   rw [if_pos rfl] at h
   exact p 5 [11,12,73] rfl <| zn <| uab [11,12,73] rfl <| zt <| by exact uai true () h rfl rfl
  rw [hh] at h ⊢
  rw [if_neg (by decide)] at h
  refine q 2 [(68, tb false), (69, ts bx3), (70, ts r8.1)] [11,12] rfl <| uaI (by rfl) rfl ?_
  exact cB h fun r12 hr12 h => ubk (ugw _ _ _ hr12) (by kernel_rfl) rfl rfl <| p 2 [11,12,73] rfl <| zn <| uab [11,12,73] rfl <| zt <| by exact uai (!r12) () h rfl rfl
 intro o11 _ h
 rw [← hk10] at h
 try dsimp only at h
 refine za <| rI h rfl (fun hc h => zu <| q 3 [(6, ts []), (7, ti 0), (8, ti 2)] [] rfl <| zf <| by cases h; exact ua2 (rs := [.tmp 6, .tmp 7, .tmp 8]) rfl (.cons (.tmp rfl) (.cons (.tmp rfl) (.cons (.tmp rfl) (.nil)))) rfl (fun _ vs g => ubr vs g) (fun _ _ _ => List.nil_sublist _)) fun hc h => zu <| q 6 [(6, ts payload7), (7, ti (List.length r8.1 : Int)), (8, ti 1)] [] rfl <| zf ?_
 cases h
 exact ua2 (rs := [.tmp 6, .tmp 7, .tmp 8]) rfl (.cons (.tmp rfl) (.cons (.tmp rfl) (.cons (.tmp rfl) (.nil)))) rfl (fun _ vs g => ubr vs g) (fun _ _ _ => List.nil_sublist _)

theorem ujT (a0 : List Int) (r : Int × Bool) (h : ud4 a0 = some r) : Pure Tryz.prog 48 [ts a0] (.tup [⟨(.int .i64), r.1⟩, ⟨.bool, r.2⟩]) := by
 unfold ud4 at h
 refine enter Tryz.func48 rfl 37 rfl rfl fun F => ?_
 refine zu <| p 2 [0] rfl <| za <| zs <| zu <| q 3 [(11, tb (decide ((List.length a0 : Int) < 16)))] [0] rfl <| za <| rI h rfl (fun hc h => zu <| p 2 [2,3] rfl <| zf <| zT <| by cases h; exact ua2 (rs := [.tmp 2, .tmp 3]) rfl (.cons (.tmp rfl) (.cons (.tmp rfl) (.nil))) rfl (fun _ vs g => ubr vs g) (fun _ _ _ => List.nil_sublist _)) fun hc h => zy <| p 1 [0,4] rfl <| za <| jK h (γ := Unit) (fun (o2 : Int) _ => [(0, ts a0), (4, .one (.int .u64) o2)]) (fun (o2 : Int) _ => []) (fun k1 h => ?_) fun o2 gg h => ?_
 ·refine zu <| p 1 [0,4,5] rfl <| za <| zb <| uab [0,4,5] rfl <| ubv (γ := Unit) (fun (s5 : Int × Int) _ => [(0, ts a0), (4, .one (.int .u64) s5.1), (5, ti s5.2)]) (fun (s5 : Int × Int) _ => []) (ucW a0 k1) (0, 4) () h rfl rfl ?_
  clear h
  intro m6 s5 gg h
  cases m6 with
  | zero => cases h
  | succ m6 =>
  simp only [ucW] at h
  refine zs <| zu <| q 2 [(4, .one (.int .u64) s5.1), (5, ti s5.2), (13, tb (decide (s5.2 < 12)))] [0] rfl <| za <| rI h rfl (fun hc h => ?_) fun hc h => ?_
  ·refine zk <| zt <| zs <| zb <| zr <| q 4 [(17, .one (.int .u64) (ishl .u64 s5.1 8)), (18, ts a0), (19, ti s5.2)] [0,5] rfl <| iE h fun hc h => y (udH tabOk rfl rfl hc.1 hc.2 rfl) rfl ?_
   refine q 3 [(4, .one (.int .u64) (ior .u64 (ishl .u64 s5.1 8) (IntKind.wrap .u64 (List.getD a0 (Int.toNat s5.2) 0))))] [0,5] rfl ?_
   obtain ⟨n7, e, h⟩ := uao h; rw [e]
   refine zn <| zi <| zt <| zr <| q 3 [(4, .one (.int .u64) n7), (5, ti (IntKind.wrap .i64 (s5.2 + 1)))] [0] rfl ?_
   obtain ⟨i8, e, h⟩ := uao h; rw [e]
   exact za <| uab [0,4,5] rfl <| by exact ubp (n7, i8) () (Nat.lt_succ_self _) h rfl rfl
  exact zx <| ze <| ze <| zq <| zt <| uab [0,4] rfl <| by exact uai s5.1 () h rfl rfl
 refine zs <| zu <| p 2 [0,4,24] rfl <| za <| rI h rfl (fun hc h => zu <| p 2 [2,3] rfl <| zf <| zT <| by cases h; exact ua2 (rs := [.tmp 2, .tmp 3]) rfl (.cons (.tmp rfl) (.cons (.tmp rfl) (.nil))) rfl (fun _ vs g => ubr vs g) (fun _ _ _ => List.nil_sublist _)) fun hc h => zy <| p 3 [4,26,28] rfl <| cB h fun r3 hr3 h => ubk (ugC _ _ _ _ hr3) (by kernel_rfl) rfl rfl <| q 7 [(8, ti r3.2.2)] [4] rfl <| zz <| q 6 [(2, ti (IntKind.wrap .i64 o2)), (3, tb (r3.2.2 == 1))] [] rfl <| zf ?_
 cases h
 exact ua2 (rs := [.tmp 2, .tmp 3]) rfl (.cons (.tmp rfl) (.cons (.tmp rfl) (.nil))) rfl (fun _ vs g => ubr vs g) (fun _ _ _ => List.nil_sublist _)

theorem ujU (a0 : List Int) (a1 : Int) (r : List (List Int) × Int × Bool) (h : ueK a0 a1 = some r) : Fn Tryz.prog 49 [ts a0, ti a1] [] (fun v => .tup [⟨.raw (.slice none 0 0), tupv v 0⟩, ⟨(.int .i64), r.2.1⟩, ⟨.bool, r.2.2⟩]) (fun v => [Res.own (tupv v 0) 9 .str r.1]) := by
 unfold ueK at h
 refine enter Tryz.func49 rfl 52 rfl rfl fun F => ?_
 refine zu <| p 3 [0,1] rfl <| za <| ulv ?_
 refine zu <| p 1 [0,1,7] rfl <| ua1 (.slice none 0 0) rfl 9 .str ?_
 refine zz <| p 2 [0,1,7,8] rfl <| za <| zs <| ulw ?_
 refine zt <| jK h (γ := Value) (fun (o2 : Int × Bool × List (List Int)) g3 => [(7, .one (.raw (.slice none 0 0)) g3), (8, ti o2.1), (9, tb o2.2.1)]) (fun (o2 : Int × Bool × List (List Int)) g3 => [Res.own g3 9 .str o2.2.2]) (fun k1 h => ?_) fun o2 g3 h => ?_
 ·refine zb <| uab [0,1,7,8] rfl <| ubv (γ := Value) (fun (s7 : Int × Int × List (List Int)) g8 => [(0, ts a0), (1, ti s7.1), (7, .one (.raw (.slice none 0 0)) g8), (8, ti s7.2.1)]) (fun (s7 : Int × Int × List (List Int)) g8 => [Res.own g8 9 .str s7.2.2]) (udk a0 k1) (a1, 0, []) (.slice none 0 0) h rfl rfl ?_
  clear h
  intro m9 s7 g8 h
  cases m9 with
  | zero => cases h
  | succ m9 =>
  simp only [udk] at h
  refine zb <| zu <| q 3 [(1, ti s7.1), (7, .one (.raw (.slice none 0 0)) g8), (8, ti s7.2.1), (14, ts a0), (15, ti s7.2.1), (16, ti s7.1)] [0] rfl <| cB h fun r10 hr10 h => ubk (ugC _ _ _ _ hr10) (by kernel_rfl) rfl rfl <| q 7 [(10, ts r10.1), (11, ti r10.2.1), (12, ti r10.2.2)] [0,1,7,8] rfl <| za <| zs <| zb <| zu <| q 3 [(21, tb (r10.2.2 != 1))] [0,1,7,8,10,11,12] rfl <| za <| rI h rfl (fun hc h => ?_) fun hc h => ?_
  ·refine zu <| q 3 [(9, tb (r10.2.2 == 2))] [7,8] rfl ?_
   obtain ⟨torn11, e, h⟩ := uao h; rw [e]
   refine za <| zx <| e_ne rfl ?_
   refine ze <| e_ne rfl ?_
   exact ze <| zq <| zt <| uab [7,8,9] rfl <| by exact uai (s7.2.1, torn11, s7.2.2) g8 h rfl rfl
  refine zu <| q 3 [(26, tb (s7.1 == 9223372036854775807))] [0,1,7,8,10,11] rfl <| za <| rI h rfl (fun hc h => ?_) fun hc h => ?_
  ·refine zu <| q 2 [(29, .one (.raw (.slice none 0 0)) g8), (30, ts r10.1)] [0,8,11] rfl <| ub7 (B := 16) tabOk rfl el9 rfl rfl rfl (.cons rfl .nil) rfl fun v12 => ?_
   refine iE h fun hc h => ubd (B := 16) tabOk 1 rfl rfl (uca 0 rfl rfl) rfl el9 rfl rfl hc rfl fun v13 => ?_
   refine pk [1] rfl <| p 1 [0,7,8,11] rfl <| zz <| q 4 [(8, ti (IntKind.wrap .i64 (s7.2.1 + r10.2.1)))] [0,7] rfl ?_
   obtain ⟨at14, e, h⟩ := uao h; rw [e]
   refine zz <| q 5 [(8, ti at14), (9, tb (decide (at14 < (List.length a0 : Int))))] [7] rfl ?_
   obtain ⟨torn15, e, h⟩ := uao h; rw [e]
   refine za <| zx <| e_ne rfl ?_
   refine ze <| e_ne rfl ?_
   exact ze <| zq <| zt <| uab [7,8,9] rfl <| by exact uai (at14, torn15, (s7.2.2 ++ [r10.1])) v13 h rfl rfl
  refine zk <| zi <| zt <| zu <| q 2 [(40, .one (.raw (.slice none 0 0)) g8), (41, ts r10.1)] [0,1,8,11] rfl <| ub7 (B := 16) tabOk rfl el9 rfl rfl rfl (.cons rfl .nil) rfl fun v16 => ?_
  refine iE h fun hc h => ubd (B := 16) tabOk 1 rfl rfl (uca 0 rfl rfl) rfl el9 rfl rfl hc rfl fun v17 => ?_
  refine pk [1] rfl <| p 1 [0,1,7,8,11] rfl <| zz <| q 4 [(8, ti (IntKind.wrap .i64 (s7.2.1 + r10.2.1)))] [0,1,7] rfl ?_
  obtain ⟨at18, e, h⟩ := uao h; rw [e]
  refine za <| zr <| q 3 [(1, ti (IntKind.wrap .i64 (s7.1 + 1))), (8, ti at18)] [0,7] rfl ?_
  obtain ⟨n19, e, h⟩ := uao h; rw [e]
  exact zn <| zi <| zt <| uab [0,1,7,8] rfl <| by exact ubp (n19, at18, (s7.2.2 ++ [r10.1])) v17 (Nat.lt_succ_self _) h rfl rfl
 refine zu <| q 6 [(4, .one (.raw (.slice none 0 0)) g3), (5, ti o2.1), (6, tb o2.2.1)] [] rfl <| zf <| udu ?_
 cases h
 exact ua2 (rs := [.tmp 4, .tmp 5, .tmp 6]) rfl (.cons (.tmp rfl) (.cons (.tmp rfl) (.cons (.tmp rfl) (.nil)))) rfl (fun _ vs g => by cases g with | cons h0 g => cases g with | cons h1 g => cases g with | cons h2 g => cases g; exact ⟨_, rfl, .cons (ua5 h0) (.cons h1 (.cons h2 (.nil)))⟩) (fun _ vs g => by cases g with | cons h0 g => cases g with | cons h1 g => cases g with | cons h2 g => cases g; rw [ubI h0]; exact (.cons_cons _ .slnil))

theorem uiJ (p0 : Value) (p2 : Value) (p100 : Value) (a0 : Unit × List Int × Int × (List (Int × Int × Int × Unit)) × Int × Bool × Unit) (a1 : Int) (a2 : List (List Int) × Int × Bool × Bool × Unit) (a100 : DiskS) (r : Int × (Unit × List Int × Int × (List (Int × Int × Int × Unit)) × Int × Bool × Unit) × (List (List Int) × Int × Bool × Bool × Unit)) (h : udZ a0 a1 a2 a100 = some r) : FnT Tryz.prog tabs 30 [tp p0, ti a1, tp p2] [Res.cls (CLog p100) p0 a0, Res.cls ucY p2 a2, Res.disk Tryz.prog dI p100 a100] (fun _ => ti r.1) (fun _ => [Res.cls (CLog p100) p0 r.2.1, Res.cls ucY p2 r.2.2, Res.disk Tryz.prog dI p100 a100]) := by
 unfold udZ at h
 refine udW Tryz.func30 rfl 136 rfl rfl fun F hT => ?_
 refine ud1 fun b2 sv1 hp => ?_
 subst hp
 refine uaK (x := a0) (q := p100) ?_
 refine pk [1,0,0] rfl <| umE fun b4 sv3 hp => ?_
 subst hp
 refine udh (x := a2) ?_
 refine pk [1,0,0] rfl <| zu <| p 1 [0,1,2] rfl <| za <| jK h (γ := Unit) (fun (o6 : Int × Int) _ => [(0, ptr b2 0), (1, ti a1), (2, ptr b4 0), (7, ti o6.1), (8, ti o6.2)]) (fun (o6 : Int × Int) _ => [Res.cls (CLog p100) (.pointer (some ⟨b2, 0, none⟩)) a0, Res.disk Tryz.prog dI p100 a100, Res.cls ucY (.pointer (some ⟨b4, 0, none⟩)) a2]) (fun k5 h => ?_) fun o6 gg h => ?_
 ·refine ubZ fun sv32 => ?_
  refine r_any (by kernel_rfl) ?_
  refine uah (i := 0) (t := ptr b2 0) (uaa uac) rfl (by kernel_rfl) (by kernel_rfl) (by kernel_rfl) (uaf tabOk rfl) rfl ?_
  refine uah (i := 4) (t := ptr b2 0) (uaa uac) rfl (by kernel_rfl) (by kernel_rfl) (by kernel_rfl) (uaf tabOk rfl) rfl ?_
  refine uah (i := 5) (t := ti a1) (uaa uac) rfl (by kernel_rfl) (by kernel_rfl) (by kernel_rfl) (uaf tabOk rfl) rfl ?_
  refine a_two (i := 1) (j := 6) (by kernel_rfl) rfl rfl ?_ ?_
  ·refine p 1 [0,1,2,16,19,20] rfl <| za <| uab [0,1,2,16,19,20] rfl <| uah (i := 2) (t := ptr b2 0) (uaa uac) rfl (by kernel_rfl) (by kernel_rfl) (by kernel_rfl) (uaf tabOk rfl) rfl ?_
   refine a_two (i := 3) (j := 6) (by kernel_rfl) rfl rfl ?_ ?_
   ·refine yl 0 ((.fst .here)) ty23 rfl rfl rfl trivial rfl <| za <| uab [0,1,2,18,19,20] rfl <| a_one (i := 6) (by kernel_rfl) rfl ?_
    refine cB h fun r33 hr33 h => rcT hT [0] (uar _ _ _ _ _ _ hr33) (by kernel_rfl) rfl rfl rfl fun _ => za <| uab [0,1,2,18,21] rfl <| a_one (i := 7) (by kernel_rfl) rfl ?_
    refine cB h fun r34 hr34 h => rc [3] (ud5 _ _ _ _ hr34) (by kernel_rfl) rfl rfl rfl fun _ => za <| uab [0,1,2,22] rfl <| uah (i := 8) (t := .tup [⟨(.int .i64), r34.1⟩, ⟨(.int .i64), r34.2⟩]) (uaa uac) rfl (by kernel_rfl) (by kernel_rfl) (by kernel_rfl) (uaf tabOk rfl) rfl ?_
    refine uah (i := 9) (t := ti r34.1) (uaa uac) rfl (by kernel_rfl) (by kernel_rfl) (by kernel_rfl) (uaf tabOk rfl) rfl ?_
    refine uah (i := 10) (t := ti r34.2) (uaa uac) rfl (by kernel_rfl) (by kernel_rfl) (by kernel_rfl) (uaf tabOk rfl) rfl ?_
    refine uah (i := 11) (t := ti r34.1) (uaa uac) rfl (by kernel_rfl) (by kernel_rfl) (by kernel_rfl) (uaf tabOk rfl) rfl ?_
    refine uah (i := 12) (t := ti r34.2) (uaa uac) rfl (by kernel_rfl) (by kernel_rfl) (by kernel_rfl) (uaf tabOk rfl) rfl ?_
    refine a_end (by kernel_rfl) ?_
    refine zt <| pk [1,1,0,0] rfl <| uaK (x := a0) (q := p100) ?_
    exact uab [0,1,2,7,8] rfl <| by exact uai (r34.1, r34.2) () h rfl rfl
   refine cB h fun r33 hr33 h => rcT hT [0] (uar _ _ _ _ _ _ hr33) (by kernel_rfl) rfl rfl rfl fun _ => za <| uab [0,1,2,17,21] rfl <| a_one (i := 3) (by kernel_rfl) rfl ?_
   refine yl 0 ((.fst .here)) ty23 rfl rfl rfl trivial rfl <| za <| uab [0,1,2,18,21] rfl <| a_one (i := 7) (by kernel_rfl) rfl ?_
   refine cB h fun r34 hr34 h => rc [3] (ud5 _ _ _ _ hr34) (by kernel_rfl) rfl rfl rfl fun _ => za <| uab [0,1,2,22] rfl <| uah (i := 8) (t := .tup [⟨(.int .i64), r34.1⟩, ⟨(.int .i64), r34.2⟩]) (uaa uac) rfl (by kernel_rfl) (by kernel_rfl) (by kernel_rfl) (uaf tabOk rfl) rfl ?_
   refine uah (i := 9) (t := ti r34.1) (uaa uac) rfl (by kernel_rfl) (by kernel_rfl) (by kernel_rfl) (uaf tabOk rfl) rfl ?_
   refine uah (i := 10) (t := ti r34.2) (uaa uac) rfl (by kernel_rfl) (by kernel_rfl) (by kernel_rfl) (uaf tabOk rfl) rfl ?_
   refine uah (i := 11) (t := ti r34.1) (uaa uac) rfl (by kernel_rfl) (by kernel_rfl) (by kernel_rfl) (uaf tabOk rfl) rfl ?_
   refine uah (i := 12) (t := ti r34.2) (uaa uac) rfl (by kernel_rfl) (by kernel_rfl) (by kernel_rfl) (uaf tabOk rfl) rfl ?_
   refine a_end (by kernel_rfl) ?_
   refine zt <| pk [1,1,0,0] rfl <| uaK (x := a0) (q := p100) ?_
   exact uab [0,1,2,7,8] rfl <| by exact uai (r34.1, r34.2) () h rfl rfl
  refine cB h fun r33 hr33 h => rcT hT [0] (uar _ _ _ _ _ _ hr33) (by kernel_rfl) rfl rfl rfl fun _ => za <| uab [0,1,2,15,21] rfl <| a_one (i := 1) (by kernel_rfl) rfl ?_
  refine p 1 [0,1,2,16,21] rfl <| za <| uab [0,1,2,16,21] rfl <| uah (i := 2) (t := ptr b2 0) (uaa uac) rfl (by kernel_rfl) (by kernel_rfl) (by kernel_rfl) (uaf tabOk rfl) rfl ?_
  refine a_one (i := 3) (by kernel_rfl) rfl ?_
  refine yl 0 ((.fst .here)) ty23 rfl rfl rfl trivial rfl <| za <| uab [0,1,2,18,21] rfl <| a_one (i := 7) (by kernel_rfl) rfl ?_
  refine cB h fun r34 hr34 h => rc [3] (ud5 _ _ _ _ hr34) (by kernel_rfl) rfl rfl rfl fun _ => za <| uab [0,1,2,22] rfl <| uah (i := 8) (t := .tup [⟨(.int .i64), r34.1⟩, ⟨(.int .i64), r34.2⟩]) (uaa uac) rfl (by kernel_rfl) (by kernel_rfl) (by kernel_rfl) (uaf tabOk rfl) rfl ?_
  refine uah (i := 9) (t := ti r34.1) (uaa uac) rfl (by kernel_rfl) (by kernel_rfl) (by kernel_rfl) (uaf tabOk rfl) rfl ?_
  refine uah (i := 10) (t := ti r34.2) (uaa uac) rfl (by kernel_rfl) (by kernel_rfl) (by kernel_rfl) (uaf tabOk rfl) rfl ?_
  refine uah (i := 11) (t := ti r34.1) (uaa uac) rfl (by kernel_rfl) (by kernel_rfl) (by kernel_rfl) (uaf tabOk rfl) rfl ?_
  refine uah (i := 12) (t := ti r34.2) (uaa uac) rfl (by kernel_rfl) (by kernel_rfl) (by kernel_rfl) (uaf tabOk rfl) rfl ?_
  refine a_end (by kernel_rfl) ?_
  refine zt <| pk [1,1,0,0] rfl <| uaK (x := a0) (q := p100) ?_
  exact uab [0,1,2,7,8] rfl <| by exact uai (r34.1, r34.2) () h rfl rfl
 refine zs <| zu <| q 2 [(0, ptr b2 0), (1, ti a1), (2, ptr b4 0), (7, ti o6.1), (8, ti o6.2), (26, tb (o6.2 != 0))] [] rfl <| za <| rI h rfl (fun hc h => zu <| q 2 [(6, ti o6.2)] [] rfl <| zf <| zT <| by cases h; exact pk [0,1,0] rfl <| uav rfl (.tmp rfl) (fun _ _ g => g) (fun _ _ _ => (.cons_cons _ (.cons_cons _ (.cons_cons _ .slnil))))) fun hc h => zk <| zt <| jK h (γ := Unit) (fun (o8 : Int × List Int) _ => [(0, ptr b2 0), (1, ti a1), (2, ptr b4 0), (8, ti o8.1), (9, ts o8.2)]) (fun (o8 : Int × List Int) _ => [Res.cls (CLog p100) (.pointer (some ⟨b2, 0, none⟩)) a0, Res.disk Tryz.prog dI p100 a100, Res.cls ucY (.pointer (some ⟨b4, 0, none⟩)) a2]) (fun k7 h => ?_) fun o8 gg h => ?_
 ·refine ubZ fun sv29 => ?_
  refine r_any (by kernel_rfl) ?_
  refine uah (i := 0) (t := ptr b2 0) (uaa uac) rfl (by kernel_rfl) (by kernel_rfl) (by kernel_rfl) (uaf tabOk rfl) rfl ?_
  refine uah (i := 4) (t := ptr b2 0) (uaa uac) rfl (by kernel_rfl) (by kernel_rfl) (by kernel_rfl) (uaf tabOk rfl) rfl ?_
  refine uah (i := 5) (t := ti a1) (uaa uac) rfl (by kernel_rfl) (by kernel_rfl) (by kernel_rfl) (uaf tabOk rfl) rfl ?_
  refine uah (i := 7) (t := ti o6.1) (uaa uac) rfl (by kernel_rfl) (by kernel_rfl) (by kernel_rfl) (uaf tabOk rfl) rfl ?_
  refine a_two (i := 1) (j := 6) (by kernel_rfl) rfl rfl ?_ ?_
  ·refine q 1 [(30, ptr b2 0), (33, ptr b2 0), (34, ti a1), (36, ti o6.1)] [0,1,2,8] rfl <| za <| uab [0,1,2,8,30,33,34,36] rfl <| uah (i := 2) (t := ptr b2 0) (uaa uac) rfl (by kernel_rfl) (by kernel_rfl) (by kernel_rfl) (uaf tabOk rfl) rfl ?_
   refine a_two (i := 3) (j := 6) (by kernel_rfl) rfl rfl ?_ ?_
   ·refine yl 0 ((.fst .here)) ty23 rfl rfl rfl trivial rfl <| za <| uab [0,1,2,8,32,33,34,36] rfl <| a_one (i := 6) (by kernel_rfl) rfl ?_
    refine cB h fun r30 hr30 h => rcT hT [0] (uar _ _ _ _ _ _ hr30) (by kernel_rfl) rfl rfl rfl fun _ => za <| uab [0,1,2,8,32,35,36] rfl <| a_one (i := 8) (by kernel_rfl) rfl ?_
    refine cB h fun r31 hr31 h => rc [2] (ud6 _ _ _ _ _ _ hr31) (by kernel_rfl) rfl rfl rfl fun _ => za <| uab [0,1,2,8,37] rfl <| uah (i := 9) (t := .tup [⟨.str, r31.1⟩, ⟨(.int .i64), r31.2⟩]) (uaa uac) rfl (by kernel_rfl) (by kernel_rfl) (by kernel_rfl) (uaf tabOk rfl) rfl ?_
    refine uah (i := 10) (t := ts r31.1) (uaa uac) rfl (by kernel_rfl) (by kernel_rfl) (by kernel_rfl) (uaf tabOk rfl) rfl ?_
    refine uah (i := 11) (t := ti r31.2) (uaa uac) rfl (by kernel_rfl) (by kernel_rfl) (by kernel_rfl) (uaf tabOk rfl) rfl ?_
    refine uah (i := 12) (t := ts r31.1) (uaa uac) rfl (by kernel_rfl) (by kernel_rfl) (by kernel_rfl) (uaf tabOk rfl) rfl ?_
    refine uah (i := 13) (t := ti r31.2) (uaa uac) rfl (by kernel_rfl) (by kernel_rfl) (by kernel_rfl) (uaf tabOk rfl) rfl ?_
    refine a_end (by kernel_rfl) ?_
    refine zt <| pk [1,1,0,0] rfl <| uaK (x := a0) (q := p100) ?_
    exact uab [0,1,2,8,9] rfl <| by exact uai (r31.2, r31.1) () h rfl rfl
   refine cB h fun r30 hr30 h => rcT hT [0] (uar _ _ _ _ _ _ hr30) (by kernel_rfl) rfl rfl rfl fun _ => za <| uab [0,1,2,8,31,35,36] rfl <| a_one (i := 3) (by kernel_rfl) rfl ?_
   refine yl 0 ((.fst .here)) ty23 rfl rfl rfl trivial rfl <| za <| uab [0,1,2,8,32,35,36] rfl <| a_one (i := 8) (by kernel_rfl) rfl ?_
   refine cB h fun r31 hr31 h => rc [2] (ud6 _ _ _ _ _ _ hr31) (by kernel_rfl) rfl rfl rfl fun _ => za <| uab [0,1,2,8,37] rfl <| uah (i := 9) (t := .tup [⟨.str, r31.1⟩, ⟨(.int .i64), r31.2⟩]) (uaa uac) rfl (by kernel_rfl) (by kernel_rfl) (by kernel_rfl) (uaf tabOk rfl) rfl ?_
   refine uah (i := 10) (t := ts r31.1) (uaa uac) rfl (by kernel_rfl) (by kernel_rfl) (by kernel_rfl) (uaf tabOk rfl) rfl ?_
   refine uah (i := 11) (t := ti r31.2) (uaa uac) rfl (by kernel_rfl) (by kernel_rfl) (by kernel_rfl) (uaf tabOk rfl) rfl ?_
   refine uah (i := 12) (t := ts r31.1) (uaa uac) rfl (by kernel_rfl) (by kernel_rfl) (by kernel_rfl) (uaf tabOk rfl) rfl ?_
   refine uah (i := 13) (t := ti r31.2) (uaa uac) rfl (by kernel_rfl) (by kernel_rfl) (by kernel_rfl) (uaf tabOk rfl) rfl ?_
   refine a_end (by kernel_rfl) ?_
   refine zt <| pk [1,1,0,0] rfl <| uaK (x := a0) (q := p100) ?_
   exact uab [0,1,2,8,9] rfl <| by exact uai (r31.2, r31.1) () h rfl rfl
  refine cB h fun r30 hr30 h => rcT hT [0] (uar _ _ _ _ _ _ hr30) (by kernel_rfl) rfl rfl rfl fun _ => za <| uab [0,1,2,8,29,35,36] rfl <| a_one (i := 1) (by kernel_rfl) rfl ?_
  refine q 1 [(30, ptr b2 0), (35, ts r30), (36, ti o6.1)] [0,1,2,8] rfl <| za <| uab [0,1,2,8,30,35,36] rfl <| uah (i := 2) (t := ptr b2 0) (uaa uac) rfl (by kernel_rfl) (by kernel_rfl) (by kernel_rfl) (uaf tabOk rfl) rfl ?_
  refine a_one (i := 3) (by kernel_rfl) rfl ?_
  refine yl 0 ((.fst .here)) ty23 rfl rfl rfl trivial rfl <| za <| uab [0,1,2,8,32,35,36] rfl <| a_one (i := 8) (by kernel_rfl) rfl ?_
  refine cB h fun r31 hr31 h => rc [2] (ud6 _ _ _ _ _ _ hr31) (by kernel_rfl) rfl rfl rfl fun _ => za <| uab [0,1,2,8,37] rfl <| uah (i := 9) (t := .tup [⟨.str, r31.1⟩, ⟨(.int .i64), r31.2⟩]) (uaa uac) rfl (by kernel_rfl) (by kernel_rfl) (by kernel_rfl) (uaf tabOk rfl) rfl ?_
  refine uah (i := 10) (t := ts r31.1) (uaa uac) rfl (by kernel_rfl) (by kernel_rfl) (by kernel_rfl) (uaf tabOk rfl) rfl ?_
  refine uah (i := 11) (t := ti r31.2) (uaa uac) rfl (by kernel_rfl) (by kernel_rfl) (by kernel_rfl) (uaf tabOk rfl) rfl ?_
  refine uah (i := 12) (t := ts r31.1) (uaa uac) rfl (by kernel_rfl) (by kernel_rfl) (by kernel_rfl) (uaf tabOk rfl) rfl ?_
  refine uah (i := 13) (t := ti r31.2) (uaa uac) rfl (by kernel_rfl) (by kernel_rfl) (by kernel_rfl) (uaf tabOk rfl) rfl ?_
  refine a_end (by kernel_rfl) ?_
  refine zt <| pk [1,1,0,0] rfl <| uaK (x := a0) (q := p100) ?_
  exact uab [0,1,2,8,9] rfl <| by exact uai (r31.2, r31.1) () h rfl rfl
 refine zs <| zu <| q 2 [(0, ptr b2 0), (1, ti a1), (2, ptr b4 0), (8, ti o8.1), (9, ts o8.2), (41, tb (o8.1 != 0))] [] rfl <| za <| rI h rfl (fun hc h => zu <| q 2 [(6, ti o8.1)] [] rfl <| zf <| zT <| by cases h; exact pk [0,1,0] rfl <| uav rfl (.tmp rfl) (fun _ _ g => g) (fun _ _ _ => (.cons_cons _ (.cons_cons _ (.cons_cons _ .slnil))))) fun hc h => zy <| p 1 [0,2,9,43] rfl <| y (udN rfl zf77 rfl rfl (.cons ((.fst .here)) rfl rfl uam .nil)) rfl ?_
 refine ubK (t := Y77) rfl zf77 rfl fun b9 => st 0 .here ty77 rfl rfl rfl rfl trivial <| za <| jK h (γ := Unit) (fun (o11 : (List (List Int) × Int × Bool × Bool × Unit) × (Unit × List Int × Int × (List (Int × Int × Int × Unit)) × Int × Bool × Unit)) _ => [(0, ptr b2 0), (2, ptr b4 0), (9, ts o8.2), (10, ptr b9 0)]) (fun (o11 : (List (List Int) × Int × Bool × Bool × Unit) × (Unit × List Int × Int × (List (Int × Int × Int × Unit)) × Int × Bool × Unit)) _ => [Res.cls ucY (.pointer (some ⟨b4, 0, none⟩)) o11.1, Res.cls (CLog p100) (.pointer (some ⟨b2, 0, none⟩)) o11.2, Res.var b9 77 Y77 (a1, 0, 0, ()), Res.disk Tryz.prog dI p100 a100]) (fun k10 h => ?_) fun o11 gg h => ?_
 ·refine zs <| pk [3,0,0,0] rfl <| uee fun sv25 => ?_
  refine zr <| p 3 [0,2,9,10,47] rfl <| yl 0 ((.snd (.snd (.fst .here)))) ty4 rfl rfl rfl trivial rfl <| q 2 [(50, tb (!a2.2.2.1))] [0,2,9,10] rfl ?_
  obtain ⟨b26, e, h⟩ := uao h; rw [e]
  refine uaG (γ := Unit) 3 (fun _ => [(0, ptr b2 0), (2, ptr b4 0), (9, ts o8.2), (10, ptr b9 0), (53, tb (b26 && (o8.2 != [])))]) (fun _ => [Res.var b4 73 (.pair (.raw (.slice none 0 0)) (.pair (.int .i64) (.pair .bool (.pair .bool .unit)))) (sv25, a2.2.1, a2.2.2.1, a2.2.2.2.1, a2.2.2.2.2), Res.own sv25 9 .str a2.1, Res.var b9 77 Y77 (a1, 0, 0, ()), Res.cls (CLog p100) (.pointer (some ⟨b2, 0, none⟩)) a0, Res.disk Tryz.prog dI p100 a100]) ?_ (fun _ => ?_)
  ·clear h
   cases b26
   ·exact p 3 [0,2,9,10,53] rfl <| za <| by exact uau () rfl rfl
   exact q 3 [(53, tb (o8.2 != []))] [0,2,9,10] rfl <| uab [0,2,9,10,53] rfl <| za <| by exact uau () rfl rfl
  refine za <| rI h rfl (fun hc h => ?_) fun hc h => ?_
  ·refine zu <| q 3 [(55, ptr b4 0), (56, ptr b4 0), (57, ts o8.2)] [0,2,9,10] rfl <| cB h fun r27 hr27 h => ubk (ujT _ _ hr27) (by kernel_rfl) rfl rfl <| q 5 [(59, ti r27.1), (60, tb r27.2), (62, ptr b4 1)] [0,2,9,10,56] rfl <| st 0 ((.snd (.fst .here))) ty2 rfl rfl rfl rfl trivial <| p 2 [0,2,9,10,60,64] rfl <| st 0 ((.snd (.snd (.fst .here)))) ty4 rfl rfl rfl rfl trivial <| zz <| p 3 [0,2,9,10,67] rfl <| yl 0 ((.snd (.snd (.fst .here)))) ty4 rfl rfl rfl trivial rfl <| za <| rI h rfl (fun hc h => ?_) fun hc h => ?_
   ·refine pk [3,0,0,0,0] rfl <| ubZ fun sv28 => ?_
    refine zr <| p 4 [0,2,9,10,69,72] rfl <| yl 2 ((.snd (.fst .here))) ty2 rfl rfl rfl trivial rfl <| q 2 [(73, ti r27.1), (75, ptr b2 4)] [0,2,9,10] rfl <| st 0 ((.snd (.snd (.snd (.snd (.fst .here)))))) ty2 rfl rfl rfl rfl trivial <| za <| pk [2,2,0,0,0,0] rfl <| udh (x := (a2.1, r27.1, r27.2, a2.2.2.2.1, a2.2.2.2.2)) ?_
    refine pk [1,1,0,0,0] rfl <| uaK (x := ((), a0.2.1, a0.2.2.1, a0.2.2.2.1, r27.1, a0.2.2.2.2.2.1, a0.2.2.2.2.2.2)) (q := p100) ?_
    exact uab [0,2,9,10] rfl <| pk [1,0,0,0] rfl <| by exact uai ((a2.1, r27.1, r27.2, a2.2.2.2.1, a2.2.2.2.2), ((), a0.2.1, a0.2.2.1, a0.2.2.2.1, r27.1, a0.2.2.2.2.2.1, a0.2.2.2.2.2.2)) () h rfl rfl
   refine zk <| zt <| udh (x := (a2.1, r27.1, r27.2, a2.2.2.2.1, a2.2.2.2.2)) ?_
   exact uab [0,2,9,10] rfl <| pk [0,1,0,0] rfl <| by exact uai ((a2.1, r27.1, r27.2, a2.2.2.2.1, a2.2.2.2.2), a0) () h rfl rfl
  refine zk <| zt <| udh (x := a2) ?_
  exact uab [0,2,9,10] rfl <| pk [0,1,0,0] rfl <| by exact uai (a2, a0) () h rfl rfl
 refine jK h (γ := Unit) (fun (o13 : (List (List Int) × Int × Bool × Bool × Unit) × (Unit × List Int × Int × (List (Int × Int × Int × Unit)) × Int × Bool × Unit) × (Int × Int × Int × Unit)) _ => [(0, ptr b2 0), (2, ptr b4 0), (9, ts o8.2), (10, ptr b9 0)]) (fun (o13 : (List (List Int) × Int × Bool × Bool × Unit) × (Unit × List Int × Int × (List (Int × Int × Int × Unit)) × Int × Bool × Unit) × (Int × Int × Int × Unit)) _ => [Res.cls ucY (.pointer (some ⟨b4, 0, none⟩)) o13.1, Res.cls (CLog p100) (.pointer (some ⟨b2, 0, none⟩)) o13.2.1, Res.var b9 77 Y77 o13.2.2, Res.disk Tryz.prog dI p100 a100]) (fun k12 h => ?_) fun o13 gg h => ?_
 ·refine zs <| uee fun sv20 => ?_
  refine zr <| q 3 [(0, ptr b2 0), (2, ptr b4 0), (9, ts o8.2), (10, ptr b9 0), (78, ptr b4 2)] [] rfl <| yl 0 ((.snd (.snd (.fst .here)))) ty4 rfl rfl rfl trivial rfl <| za <| rI h rfl (fun hc h => ?_) fun hc h => ?_
  ·refine zs <| pk [2,0,0,0,0] rfl <| ubZ fun sv21 => ?_
   refine zr <| q 4 [(81, ts o8.2), (84, ptr b2 4)] [0,2,9,10] rfl <| yl 0 ((.snd (.snd (.snd (.snd (.fst .here)))))) ty2 rfl rfl rfl trivial rfl <| cB h fun r22 hr22 h => rc [] (ujU _ _ _ hr22) (by kernel_rfl) rfl rfl rfl fun v23 => q 7 [(11, .one (.raw (.slice none 0 0)) (tupv v23 0)), (12, ti r22.2.1)] [0,2,9,10] rfl <| zz <| p 4 [0,2,9,10,11,12,90,93] rfl <| yl 3 ((.fst .here)) tx0 rfl rfl rfl trivial rfl <| p 1 [0,2,9,10,11,12,90,94,95] rfl <| iE h fun hc h => ubd (B := 16) tabOk 4 rfl rfl (uca 0 rfl rfl) rfl el9 rfl rfl hc rfl fun v24 => ?_
   refine p 2 [0,2,9,10,11,12,96,98] rfl <| st 3 ((.fst .here)) tx0 rfl rfl rfl rfl trivial <| zz <| p 3 [0,2,9,10,11,12,99,101] rfl <| yl 1 ((.snd (.snd (.snd (.snd (.fst .here)))))) ty2 rfl rfl rfl trivial rfl <| q 1 [(102, ti o11.2.2.2.2.2.1), (103, .one (.raw (.slice none 0 0)) (tupv v23 0))] [0,2,9,10,11,12,99] rfl <| y (uaZ tabOk 0 rfl rfl rfl) rfl ?_
   refine q 3 [(105, ti (IntKind.wrap .i64 (o11.2.2.2.2.2.1 + (List.length r22.1 : Int)))), (107, ptr b2 4)] [0,2,9,10,11,12] rfl <| st 1 ((.snd (.snd (.snd (.snd (.fst .here)))))) ty2 rfl rfl rfl rfl trivial <| zz <| q 2 [(108, ti r22.2.1), (109, ptr b9 1)] [0,2,9,10,11] rfl <| st 5 ((.snd (.fst .here))) ty3 rfl rfl rfl rfl trivial <| zz <| p 1 [0,2,9,10,110] rfl <| y (uaZ tabOk 0 rfl rfl rfl) rfl ?_
   refine q 1 [(112, tb (decide ((List.length r22.1 : Int) > 0)))] [0,2,9,10] rfl <| za <| rI h rfl (fun hc h => ?_) fun hc h => ?_
   ·refine zr <| p 3 [0,2,9,10,115] rfl <| yl 1 ((.snd (.snd (.snd (.snd (.fst .here)))))) ty2 rfl rfl rfl trivial rfl <| q 1 [(116, ti (IntKind.wrap .i64 (o11.2.2.2.2.2.1 + (List.length r22.1 : Int)))), (117, ptr b9 2)] [0,2,9,10] rfl <| st 5 ((.snd (.snd (.fst .here)))) ty2 rfl rfl rfl rfl trivial <| za <| pk [3,3,0,0,0,0,0] rfl <| udh (x := ((o11.1.1 ++ r22.1), o11.1.2.1, o11.1.2.2.1, o11.1.2.2.2.1, o11.1.2.2.2.2)) ?_
    refine pk [2,2,0,0,0,0] rfl <| uaK (x := ((), o11.2.2.1, o11.2.2.2.1, o11.2.2.2.2.1, (IntKind.wrap .i64 (o11.2.2.2.2.2.1 + (List.length r22.1 : Int))), o11.2.2.2.2.2.2.1, o11.2.2.2.2.2.2.2)) (q := p100) ?_
    exact pk [0,0,1,1] rfl <| uab [0,2,9,10] rfl <| pk [1,0,0,0] rfl <| by exact uai (((o11.1.1 ++ r22.1), o11.1.2.1, o11.1.2.2.1, o11.1.2.2.2.1, o11.1.2.2.2.2), ((), o11.2.2.1, o11.2.2.2.1, o11.2.2.2.2.1, (IntKind.wrap .i64 (o11.2.2.2.2.2.1 + (List.length r22.1 : Int))), o11.2.2.2.2.2.2.1, o11.2.2.2.2.2.2.2), (a1, r22.2.1, (IntKind.wrap .i64 (o11.2.2.2.2.2.1 + (List.length r22.1 : Int))), ())) () h rfl rfl
   refine zk <| zt <| pk [3,3,0,0,0,0,0] rfl <| udh (x := ((o11.1.1 ++ r22.1), o11.1.2.1, o11.1.2.2.1, o11.1.2.2.2.1, o11.1.2.2.2.2)) ?_
   refine pk [2,2,0,0,0,0] rfl <| uaK (x := ((), o11.2.2.1, o11.2.2.2.1, o11.2.2.2.2.1, (IntKind.wrap .i64 (o11.2.2.2.2.2.1 + (List.length r22.1 : Int))), o11.2.2.2.2.2.2.1, o11.2.2.2.2.2.2.2)) (q := p100) ?_
   exact pk [0,0,1,1] rfl <| uab [0,2,9,10] rfl <| pk [1,0,0,0] rfl <| by exact uai (((o11.1.1 ++ r22.1), o11.1.2.1, o11.1.2.2.1, o11.1.2.2.2.1, o11.1.2.2.2.2), ((), o11.2.2.1, o11.2.2.2.1, o11.2.2.2.2.1, (IntKind.wrap .i64 (o11.2.2.2.2.2.1 + (List.length r22.1 : Int))), o11.2.2.2.2.2.2.1, o11.2.2.2.2.2.2.2), (a1, r22.2.1, 0, ())) () h rfl rfl
  refine zk <| zt <| udh (x := o11.1) ?_
  exact uab [0,2,9,10] rfl <| by exact uai (o11.1, o11.2, (a1, 0, 0, ())) () h rfl rfl
 refine zs <| uee fun sv14 => ?_
 refine zr <| q 2 [(0, ptr b2 0), (9, ts o8.2), (10, ptr b9 0), (118, ptr b4 0), (119, ptr b9 1)] [] rfl <| yl 3 ((.snd (.fst .here))) ty3 rfl rfl rfl trivial rfl <| q 5 [(123, tb (decide (o13.2.2.2.1 < (List.length o8.2 : Int)))), (125, ptr b4 3)] [0,10] rfl <| st 0 ((.snd (.snd (.snd (.fst .here))))) ty4 rfl rfl rfl rfl trivial <| za <| jK h (γ := Unit) (fun (o16 : (Unit × List Int × Int × (List (Int × Int × Int × Unit)) × Int × Bool × Unit)) _ => []) (fun (o16 : (Unit × List Int × Int × (List (Int × Int × Int × Unit)) × Int × Bool × Unit)) _ => [Res.cls (CLog p100) (.pointer (some ⟨b2, 0, none⟩)) o16, Res.var b4 73 (.pair (.raw (.slice none 0 0)) (.pair (.int .i64) (.pair .bool (.pair .bool .unit)))) (sv14, o13.1.2.1, o13.1.2.2.1, (decide (o13.2.2.2.1 < (List.length o8.2 : Int))), o13.1.2.2.2.2), Res.own sv14 9 .str o13.1.1, Res.var b9 77 Y77 o13.2.2, Res.disk Tryz.prog dI p100 a100]) (fun k15 h => ?_) fun o16 gg h => ?_
 ·refine pk [2,0,0,0,0] rfl <| ubZ fun sv17 => ?_
  refine r_any (by kernel_rfl) ?_
  refine uah (i := 0) (t := ptr b2 0) (uaa uac) rfl (by kernel_rfl) (by kernel_rfl) (by kernel_rfl) (uaf tabOk rfl) rfl ?_
  refine uah (i := 1) (t := ptr b2 0) (uaa uac) rfl (by kernel_rfl) (by kernel_rfl) (by kernel_rfl) (uaf tabOk rfl) rfl ?_
  refine a_two (i := 2) (j := 5) (by kernel_rfl) rfl rfl ?_ ?_
  ·refine p 1 [10,126,128] rfl <| za <| uab [10,126,128] rfl <| uah (i := 3) (t := ptr b2 3) (uaa uac) rfl (by kernel_rfl) (by kernel_rfl) (by kernel_rfl) (uaf tabOk rfl) rfl ?_
   refine a_two (i := 4) (j := 5) (by kernel_rfl) rfl rfl ?_ ?_
   ·refine yl 0 ((.snd (.snd (.snd (.fst .here))))) tx2 rfl rfl rfl trivial rfl <| za <| uab [10,126,130] rfl <| a_one (i := 5) (by kernel_rfl) rfl ?_
    refine yl 4 .here ty77 rfl rfl rfl trivial rfl <| za <| uab [126,130,131] rfl <| a_one (i := 6) (by kernel_rfl) rfl ?_
    refine ub7 (B := 24) tabOk rfl el77 rfl rfl rfl (.cons rfl .nil) rfl fun v18 => ?_
    refine za <| uab [126,130,132] rfl <| a_one (i := 7) (by kernel_rfl) rfl ?_
    refine iE h fun hc h => ubd (B := 24) tabOk 2 rfl rfl (uca 0 rfl rfl) rfl el77 rfl rfl hc rfl fun v19 => ?_
    refine pk [1,1,1,1,1,1] rfl <| za <| uab [126,133] rfl <| a_one (i := 8) (by kernel_rfl) rfl ?_
    refine p 1 [133,134] rfl <| za <| uab [133,134] rfl <| uah (i := 9) (t := ptr b2 3) (uaa uac) rfl (by kernel_rfl) (by kernel_rfl) (by kernel_rfl) (uaf tabOk rfl) rfl ?_
    refine a_one (i := 10) (by kernel_rfl) rfl ?_
    refine st 0 ((.snd (.snd (.snd (.fst .here))))) tx2 rfl rfl rfl rfl trivial <| za <| uab [] rfl <| a_end (by kernel_rfl) ?_
    refine zt <| uaK (x := ((), o13.2.1.2.1, o13.2.1.2.2.1, (o13.2.1.2.2.2.1 ++ [o13.2.2]), o13.2.1.2.2.2.2.1, o13.2.1.2.2.2.2.2.1, o13.2.1.2.2.2.2.2.2)) (q := p100) ?_
    exact uab [] rfl <| by exact uai ((), o13.2.1.2.1, o13.2.1.2.2.1, (o13.2.1.2.2.2.1 ++ [o13.2.2]), o13.2.1.2.2.2.2.1, o13.2.1.2.2.2.2.2.1, o13.2.1.2.2.2.2.2.2) () h rfl rfl
   refine yl 4 .here ty77 rfl rfl rfl trivial rfl <| za <| uab [126,129,131] rfl ?_
   refine a_two (i := 4) (j := 6) (by kernel_rfl) rfl rfl ?_ ?_
   ·refine yl 0 ((.snd (.snd (.snd (.fst .here))))) tx2 rfl rfl rfl trivial rfl <| za <| uab [126,130,131] rfl <| a_one (i := 6) (by kernel_rfl) rfl ?_
    refine ub7 (B := 24) tabOk rfl el77 rfl rfl rfl (.cons rfl .nil) rfl fun v18 => ?_
    refine za <| uab [126,130,132] rfl <| a_one (i := 7) (by kernel_rfl) rfl ?_
    refine iE h fun hc h => ubd (B := 24) tabOk 2 rfl rfl (uca 0 rfl rfl) rfl el77 rfl rfl hc rfl fun v19 => ?_
    refine pk [1,1,1,1,1,1] rfl <| za <| uab [126,133] rfl <| a_one (i := 8) (by kernel_rfl) rfl ?_
    refine p 1 [133,134] rfl <| za <| uab [133,134] rfl <| uah (i := 9) (t := ptr b2 3) (uaa uac) rfl (by kernel_rfl) (by kernel_rfl) (by kernel_rfl) (uaf tabOk rfl) rfl ?_
    refine a_one (i := 10) (by kernel_rfl) rfl ?_
    refine st 0 ((.snd (.snd (.snd (.fst .here))))) tx2 rfl rfl rfl rfl trivial <| za <| uab [] rfl <| a_end (by kernel_rfl) ?_
    refine zt <| uaK (x := ((), o13.2.1.2.1, o13.2.1.2.2.1, (o13.2.1.2.2.2.1 ++ [o13.2.2]), o13.2.1.2.2.2.2.1, o13.2.1.2.2.2.2.2.1, o13.2.1.2.2.2.2.2.2)) (q := p100) ?_
    exact uab [] rfl <| by exact uai ((), o13.2.1.2.1, o13.2.1.2.2.1, (o13.2.1.2.2.2.1 ++ [o13.2.2]), o13.2.1.2.2.2.2.1, o13.2.1.2.2.2.2.2.1, o13.2.1.2.2.2.2.2.2) () h rfl rfl
   refine ub7 (B := 24) tabOk rfl el77 rfl rfl rfl (.cons rfl .nil) rfl fun v18 => ?_
   refine za <| uab [126,129,132] rfl <| a_one (i := 4) (by kernel_rfl) rfl ?_
   refine yl 1 ((.snd (.snd (.snd (.fst .here))))) tx2 rfl rfl rfl trivial rfl <| za <| uab [126,130,132] rfl <| a_one (i := 7) (by kernel_rfl) rfl ?_
   refine iE h fun hc h => ubd (B := 24) tabOk 2 rfl rfl (uca 0 rfl rfl) rfl el77 rfl rfl hc rfl fun v19 => ?_
   refine pk [1,1,1,1,1,1] rfl <| za <| uab [126,133] rfl <| a_one (i := 8) (by kernel_rfl) rfl ?_
   refine p 1 [133,134] rfl <| za <| uab [133,134] rfl <| uah (i := 9) (t := ptr b2 3) (uaa uac) rfl (by kernel_rfl) (by kernel_rfl) (by kernel_rfl) (uaf tabOk rfl) rfl ?_
   refine a_one (i := 10) (by kernel_rfl) rfl ?_
   refine st 0 ((.snd (.snd (.snd (.fst .here))))) tx2 rfl rfl rfl rfl trivial <| za <| uab [] rfl <| a_end (by kernel_rfl) ?_
   refine zt <| uaK (x := ((), o13.2.1.2.1, o13.2.1.2.2.1, (o13.2.1.2.2.2.1 ++ [o13.2.2]), o13.2.1.2.2.2.2.1, o13.2.1.2.2.2.2.2.1, o13.2.1.2.2.2.2.2.2)) (q := p100) ?_
   exact uab [] rfl <| by exact uai ((), o13.2.1.2.1, o13.2.1.2.2.1, (o13.2.1.2.2.2.1 ++ [o13.2.2]), o13.2.1.2.2.2.2.1, o13.2.1.2.2.2.2.2.1, o13.2.1.2.2.2.2.2.2) () h rfl rfl
  refine yl 4 .here ty77 rfl rfl rfl trivial rfl <| za <| uab [126,127,131] rfl ?_
  refine a_two (i := 2) (j := 6) (by kernel_rfl) rfl rfl ?_ ?_
  ·refine q 1 [(126, ptr b2 0), (128, ptr b2 0), (131, .one Y77 o13.2.2)] [] rfl <| za <| uab [126,128,131] rfl <| uah (i := 3) (t := ptr b2 3) (uaa uac) rfl (by kernel_rfl) (by kernel_rfl) (by kernel_rfl) (uaf tabOk rfl) rfl ?_
   refine a_two (i := 4) (j := 6) (by kernel_rfl) rfl rfl ?_ ?_
   ·refine yl 0 ((.snd (.snd (.snd (.fst .here))))) tx2 rfl rfl rfl trivial rfl <| za <| uab [126,130,131] rfl <| a_one (i := 6) (by kernel_rfl) rfl ?_
    refine ub7 (B := 24) tabOk rfl el77 rfl rfl rfl (.cons rfl .nil) rfl fun v18 => ?_
    refine za <| uab [126,130,132] rfl <| a_one (i := 7) (by kernel_rfl) rfl ?_
    refine iE h fun hc h => ubd (B := 24) tabOk 2 rfl rfl (uca 0 rfl rfl) rfl el77 rfl rfl hc rfl fun v19 => ?_
    refine pk [1,1,1,1,1,1] rfl <| za <| uab [126,133] rfl <| a_one (i := 8) (by kernel_rfl) rfl ?_
    refine p 1 [133,134] rfl <| za <| uab [133,134] rfl <| uah (i := 9) (t := ptr b2 3) (uaa uac) rfl (by kernel_rfl) (by kernel_rfl) (by kernel_rfl) (uaf tabOk rfl) rfl ?_
    refine a_one (i := 10) (by kernel_rfl) rfl ?_
    refine st 0 ((.snd (.snd (.snd (.fst .here))))) tx2 rfl rfl rfl rfl trivial <| za <| uab [] rfl <| a_end (by kernel_rfl) ?_
    refine zt <| uaK (x := ((), o13.2.1.2.1, o13.2.1.2.2.1, (o13.2.1.2.2.2.1 ++ [o13.2.2]), o13.2.1.2.2.2.2.1, o13.2.1.2.2.2.2.2.1, o13.2.1.2.2.2.2.2.2)) (q := p100) ?_
    exact uab [] rfl <| by exact uai ((), o13.2.1.2.1, o13.2.1.2.2.1, (o13.2.1.2.2.2.1 ++ [o13.2.2]), o13.2.1.2.2.2.2.1, o13.2.1.2.2.2.2.2.1, o13.2.1.2.2.2.2.2.2) () h rfl rfl
   refine ub7 (B := 24) tabOk rfl el77 rfl rfl rfl (.cons rfl .nil) rfl fun v18 => ?_
   refine za <| uab [126,129,132] rfl <| a_one (i := 4) (by kernel_rfl) rfl ?_
   refine yl 1 ((.snd (.snd (.snd (.fst .here))))) tx2 rfl rfl rfl trivial rfl <| za <| uab [126,130,132] rfl <| a_one (i := 7) (by kernel_rfl) rfl ?_
   refine iE h fun hc h => ubd (B := 24) tabOk 2 rfl rfl (uca 0 rfl rfl) rfl el77 rfl rfl hc rfl fun v19 => ?_
   refine pk [1,1,1,1,1,1] rfl <| za <| uab [126,133] rfl <| a_one (i := 8) (by kernel_rfl) rfl ?_
   refine p 1 [133,134] rfl <| za <| uab [133,134] rfl <| uah (i := 9) (t := ptr b2 3) (uaa uac) rfl (by kernel_rfl) (by kernel_rfl) (by kernel_rfl) (uaf tabOk rfl) rfl ?_
   refine a_one (i := 10) (by kernel_rfl) rfl ?_
   refine st 0 ((.snd (.snd (.snd (.fst .here))))) tx2 rfl rfl rfl rfl trivial <| za <| uab [] rfl <| a_end (by kernel_rfl) ?_
   refine zt <| uaK (x := ((), o13.2.1.2.1, o13.2.1.2.2.1, (o13.2.1.2.2.2.1 ++ [o13.2.2]), o13.2.1.2.2.2.2.1, o13.2.1.2.2.2.2.2.1, o13.2.1.2.2.2.2.2.2)) (q := p100) ?_
   exact uab [] rfl <| by exact uai ((), o13.2.1.2.1, o13.2.1.2.2.1, (o13.2.1.2.2.2.1 ++ [o13.2.2]), o13.2.1.2.2.2.2.1, o13.2.1.2.2.2.2.2.1, o13.2.1.2.2.2.2.2.2) () h rfl rfl
  refine ub7 (B := 24) tabOk rfl el77 rfl rfl rfl (.cons rfl .nil) rfl fun v18 => ?_
  refine za <| uab [126,127,132] rfl <| a_one (i := 2) (by kernel_rfl) rfl ?_
  refine p 1 [126,128,132] rfl <| za <| uab [126,128,132] rfl <| uah (i := 3) (t := ptr b2 3) (uaa uac) rfl (by kernel_rfl) (by kernel_rfl) (by kernel_rfl) (uaf tabOk rfl) rfl ?_
  refine a_one (i := 4) (by kernel_rfl) rfl ?_
  refine yl 1 ((.snd (.snd (.snd (.fst .here))))) tx2 rfl rfl rfl trivial rfl <| za <| uab [126,130,132] rfl <| a_one (i := 7) (by kernel_rfl) rfl ?_
  refine iE h fun hc h => ubd (B := 24) tabOk 2 rfl rfl (uca 0 rfl rfl) rfl el77 rfl rfl hc rfl fun v19 => ?_
  refine pk [1,1,1,1,1,1] rfl <| za <| uab [126,133] rfl <| a_one (i := 8) (by kernel_rfl) rfl ?_
  refine p 1 [133,134] rfl <| za <| uab [133,134] rfl <| uah (i := 9) (t := ptr b2 3) (uaa uac) rfl (by kernel_rfl) (by kernel_rfl) (by kernel_rfl) (uaf tabOk rfl) rfl ?_
  refine a_one (i := 10) (by kernel_rfl) rfl ?_
  refine st 0 ((.snd (.snd (.snd (.fst .here))))) tx2 rfl rfl rfl rfl trivial <| za <| uab [] rfl <| a_end (by kernel_rfl) ?_
  refine zt <| uaK (x := ((), o13.2.1.2.1, o13.2.1.2.2.1, (o13.2.1.2.2.2.1 ++ [o13.2.2]), o13.2.1.2.2.2.2.1, o13.2.1.2.2.2.2.2.1, o13.2.1.2.2.2.2.2.2)) (q := p100) ?_
  exact uab [] rfl <| by exact uai ((), o13.2.1.2.1, o13.2.1.2.2.1, (o13.2.1.2.2.2.1 ++ [o13.2.2]), o13.2.1.2.2.2.2.1, o13.2.1.2.2.2.2.2.1, o13.2.1.2.2.2.2.2.2) () h rfl rfl
 refine zu <| p 1 [6] rfl <| zf <| pk [1,1,0,0,0] rfl <| udh (x := (o13.1.1, o13.1.2.1, o13.1.2.2.1, (decide (o13.2.2.2.1 < (List.length o8.2 : Int))), o13.1.2.2.2.2)) ?_
 cases h
 exact pk [0,0,1] rfl <| pk [1,0,0] rfl <| uav rfl (.tmp rfl) (fun _ _ g => g) (fun _ _ _ => (.cons_cons _ (.cons_cons _ (.cons_cons _ .slnil))))

theorem ubT (a0 : List (Int)) (r : List (Int)) (h : uaH a0 = some r) : Fn Tryz.prog 27 [.one (.sl 5 (.int .u8)) a0] [] (fun v => .one (.raw (.slice none 0 0)) v) (fun v => [Res.own v 5 (.int .u8) r]) := by
 unfold uaH at h
 refine enter Tryz.func27 rfl 8 rfl rfl fun F => ?_
 refine zu <| p 1 [0] rfl <| za <| zs <| zu <| p 1 [0,3] rfl <| ulG rfl Tryz.underlying57 rfl fun g1 hg1 => ?_
 refine za ?_
 refine r_if (b := g1) rfl (fun hc => ?_) (fun hc => ?_)
 ·have hx := hg1 hc
  subst hx
  have h : (some [] : Option (List (Int))) = some r := by simpa using h
  refine zu <| p 1 [2] rfl <| zf <| zT <| ua1 (.slice none 0 0) rfl 5 (.int .u8) ?_
  cases h
  exact uav rfl (.tmp rfl) (fun _ _ g => holds_raw.2 ⟨rfl, by rw [(holds_raw.1 g).1]; exact (holds_raw.1 g).2⟩) (fun _ _ g => by obtain ⟨rfl, _⟩ := holds_raw.1 g; exact (.cons_cons _ .slnil))
 refine zy <| ub7 (B := 1) tabOk rfl el5 rfl rfl rfl .nil rfl fun v2 => ?_
 refine p 1 [5,6] rfl <| iE h fun hc h => ubd (B := 1) tabOk 0 rfl rfl (uf9 rfl) rfl el5 rfl rfl hc rfl fun v3 => ?_
 refine p 1 [2] rfl <| zf ?_
 cases h
 exact uav rfl (.tmp rfl) (fun _ _ g => holds_raw.2 ⟨rfl, by rw [(holds_raw.1 g).1]; exact (holds_raw.1 g).2⟩) (fun _ _ g => by obtain ⟨rfl, _⟩ := holds_raw.1 g; exact (.cons_cons _ .slnil))

theorem cutOk : CutOk Tryz.prog dI 51 := upo Tryz.func51 rfl 10 rfl (by decide) fun F s size => by
  refine r_seq ?_
  refine ubB ?_
  refine ucm tabOk 1 [0, 2] (E' := [(0, .one (.int .i64) s), (2, .ref (.int .i64) size)]) rfl ?_
  refine r_nil ?_
  refine ub2 ?_
  refine r_seq ?_
  refine ubB ?_
  refine ucm tabOk 2 [2, 7] (E' := [(2, .ref (.int .i64) size), (7, .one (.int .i64) (IntKind.wrap .i64 (s * 64)))]) rfl ?_
  refine y (y_ref rfl ty3) rfl ?_
  refine ucm tabOk 2 [5] (E' := [(5, .one .bool (decide (size ≤ IntKind.wrap .i64 (s * 64))))]) rfl ?_
  refine r_nil ?_
  refine ub2 ?_
  refine r_ret ?_
  exact uav rfl (.tmp rfl) (fun _ _ g => g) (fun _ _ _ => .slnil)

theorem delOk : DelOk Tryz.prog dI 50 51 := upp Tryz.laysDel rfl Tryz.underlying3 (fun _ _ => ucw (by kernel_rfl)) cutOk

theorem uex (p0 : Value) (a0 : DiskS) (a1 : List Int) (a2 : Int) (r : Int × DiskS) (h : ub8 a0 a1 a2 = some r) : Fn Tryz.prog 31 [tp p0, ts a1, ti a2] [Res.disk Tryz.prog dI p0 a0] (fun _ => ti r.1) (fun _ => [Res.disk Tryz.prog dI p0 r.2]) := by
 unfold ub8 at h
 refine enter Tryz.func31 rfl 60 rfl rfl fun F => ?_
 refine ucK fun b2 mv1 hp => ?_
 subst hp
 refine zu <| r_box rfl rfl fun b3 => p 1 [0,1,5] rfl <| zz <| p 2 [5,10,11] rfl <| pk [1,1,0] rfl <| cB h fun r4 hr4 h => ucI (Lo := [Res.var b3 3 (.int .i64) a2]) (ucQ b2 mv1 a0 a1 _ hr4) (by kernel_rfl) (List.Perm.refl _) rfl rfl fun v5 => ?_
 refine p 5 [5,7,8] rfl <| za <| zs <| zu <| p 2 [5,7,8,16] rfl <| za <| rI h rfl (fun hc h => zu <| p 2 [6] rfl <| zf <| zT <| uay (R' := Res.dfiles Tryz.prog dI mv1 a0.2.1) 1 rfl ucF <| ua3 (P := Tryz.prog) (I := dI) (D := a0) <| by cases h; exact uav rfl (.tmp rfl) (fun _ _ g => g) (fun _ _ _ => (.cons_cons _ (.cons _ .slnil)))) fun hc h => zk <| zt <| zs <| zs <| iE h fun hc h => uay (R' := Res.dat Tryz.prog dI mv1 a0.2.1 a1 (tupv v5 0)) 1 rfl (ufm hc) <| cB h fun f6 hf6 h => ?_
 refine pk [1,0,0] rfl <| udd kstr hf6 fun fb7 sv8 tv9 dv10 hq => ?_
 rw [hq]
 clear hq
 refine uft (by kernel_rfl) (by kernel_rfl) ?_
 refine q_y (ubx 6 .here rfl rfl (by first | rfl | (simp only [Pth.off, T.size]; omega)) uam ty3) rfl ?_
 refine uaD tabOk 2 [5, 7, 20] (E' := [(5, ptr b3 0), (7, ptr fb7 0), (20, tb (decide (a2 < 0)))]) rfl ?_
 obtain ⟨b11, e, h⟩ := uao h; rw [e]
 refine uhL 8 [(5, ptr b3 0), (7, ptr fb7 0), (28, tb (b11 || (decide (a2 > (List.length f6.1 : Int)))))] ?_ ?_
 ·clear h
  cases b11
  ·refine ubV (by rfl) rfl ?_
   refine q_y (ubx 6 .here rfl rfl (by first | rfl | (simp only [Pth.off, T.size]; omega)) uam ty3) rfl ?_
   refine uaD tabOk 3 [5, 7, 20, 21, 24] (E' := [(5, ptr b3 0), (7, ptr fb7 0), (20, tb false), (21, ti a2), (24, ptr fb7 0)]) rfl ?_
   refine ubV (by rfl) rfl ?_
   refine q_y (ubx 0 ((.fst .here)) rfl rfl (by first | rfl | (simp only [Pth.off, T.size]; omega)) (uaC uam) tx1) rfl ?_
   refine ubV (by rfl) rfl ?_
   refine q_y (uaZ tabOk 1 rfl rfl rfl) rfl ?_
   refine uaD tabOk 2 [5, 7, 28] (E' := [(5, ptr b3 0), (7, ptr fb7 0), (28, tb (decide (a2 > (List.length f6.1 : Int))))]) rfl ?_
   refine ucn ?_
   exact uf8 rfl
  refine uaD tabOk 8 [5, 7, 28] (E' := [(5, ptr b3 0), (7, ptr fb7 0), (28, tb true)]) rfl ?_
  refine ucn ?_
  exact uf8 rfl
 refine q_nil ?_
 refine zt <| rI h rfl (fun hc h => ?_) fun hc h => ?_
 ·refine zu <| p 1 [6] rfl <| zf <| zT <| udm (P := Tryz.prog) (I := dI) kstr hf6 ?_
  refine uay (R' := Res.dfiles Tryz.prog dI mv1 a0.2.1) 0 rfl uaY <| pk [1,0,0] rfl <| ua3 (P := Tryz.prog) (I := dI) (D := a0) ?_
  cases h
  exact uav rfl (.tmp rfl) (fun _ _ g => g) (fun _ _ _ => (.cons_cons _ (.cons _ .slnil)))
 refine zk <| zt <| zs <| r_any (by kernel_rfl) ?_
 refine uah (i := 0) (t := ptr fb7 0) (uaa uac) rfl (by kernel_rfl) (by kernel_rfl) (by kernel_rfl) (uaf tabOk rfl) rfl ?_
 refine uah (i := 1) (t := ptr fb7 0) (uaa uac) rfl (by kernel_rfl) (by kernel_rfl) (by kernel_rfl) (uaf tabOk rfl) rfl ?_
 refine a_two (i := 2) (j := 5) (by kernel_rfl) rfl rfl ?_ ?_
 ·refine p 1 [5,7,29,31] rfl <| za <| uab [5,7,29,31] rfl <| uah (i := 3) (t := ptr fb7 0) (uaa uac) rfl (by kernel_rfl) (by kernel_rfl) (by kernel_rfl) (uaf tabOk rfl) rfl ?_
  refine uik (fuel := 5) [4, 5] #[true, true, true, true, true, true, false, false, false, false, false] (by kernel_rfl) ?_
  refine q_y (ubx 0 ((.fst .here)) rfl rfl (by first | rfl | (simp only [Pth.off, T.size]; omega)) (uaC uam) tx1) rfl ?_
  refine q_y (ubx 6 .here rfl rfl (by first | rfl | (simp only [Pth.off, T.size]; omega)) uam ty3) rfl ?_
  refine q_nil ?_
  refine uab [5,7,29,33,34] rfl <| a_one (i := 6) (by kernel_rfl) rfl ?_
  obtain ⟨hs13, h⟩ := ubo h
  refine y (udv tabOk (i := (0 : Int)) (j := a2) rfl (ubX 1 rfl) rfl rfl hs13.1 hs13.2.1 hs13.2.2 rfl ty5) rfl ?_
  refine za <| uab [5,7,29,35] rfl <| a_one (i := 7) (by kernel_rfl) rfl ?_
  refine cB h fun r14 hr14 h => ufz (ubT (List.take (Int.toNat a2) f6.1) _ hr14) (by kernel_rfl) (fun _ => rfl) (fun _ r hr => by rcases List.mem_singleton.1 hr with rfl; exact Res.free_own rfl) (.sub rfl (ues (ubX 1 rfl) hs13.1 hs13.2.1 hs13.2.2) .nil) rfl fun v15 => ?_
  refine za <| uab [5,7,29,36] rfl <| a_one (i := 8) (by kernel_rfl) rfl ?_
  refine p 1 [5,7,36,37] rfl <| za <| uab [5,7,36,37] rfl <| uah (i := 9) (t := ptr fb7 0) (uaa uac) rfl (by kernel_rfl) (by kernel_rfl) (by kernel_rfl) (uaf tabOk rfl) rfl ?_
  refine a_one (i := 10) (by kernel_rfl) rfl ?_
  refine st 1 ((.fst .here)) tx1 rfl rfl rfl rfl trivial <| pk [0,0,1,1,1,1,1] rfl <| za <| uab [5,7] rfl <| a_end (by kernel_rfl) ?_
  refine zt <| zs <| r_any (by kernel_rfl) ?_
  refine uah (i := 0) (t := ptr fb7 0) (uaa uac) rfl (by kernel_rfl) (by kernel_rfl) (by kernel_rfl) (uaf tabOk rfl) rfl ?_
  refine uah (i := 1) (t := ptr fb7 0) (uaa uac) rfl (by kernel_rfl) (by kernel_rfl) (by kernel_rfl) (uaf tabOk rfl) rfl ?_
  refine uah (i := 6) (t := ptr fb7 0) (uaa uac) rfl (by kernel_rfl) (by kernel_rfl) (by kernel_rfl) (uaf tabOk rfl) rfl ?_
  refine uik (fuel := 2) [2, 3, 4, 5, 7, 8, 9, 10, 11, 12, 13] #[true, true, true, true, true, true, true, true, true, true, true, true, true, true, false, false] (by kernel_rfl) ?_
  refine uaD tabOk 2 [5, 7, 39, 42, 45] (E' := [(5, ptr b3 0), (7, ptr fb7 0), (39, ptr fb7 0), (42, ptr fb7 1), (45, ptr fb7 0)]) rfl ?_
  refine q_y (ubx 1 ((.snd (.fst .here))) rfl rfl (by first | rfl | (simp only [Pth.off, T.size]; omega)) (uaw (uaC uam)) tx1) rfl ?_
  refine q_y (ubx 6 .here rfl rfl (by first | rfl | (simp only [Pth.off, T.size]; omega)) uam ty3) rfl ?_
  refine uaD tabOk 2 [5, 7, 39, 43, 44, 47] (E' := [(5, ptr b3 0), (7, ptr fb7 0), (39, ptr fb7 0), (43, .one (.raw (.slice none 0 0)) tv9), (44, ti a2), (47, ptr fb7 1)]) rfl ?_
  refine q_y (ubx 1 ((.snd (.fst .here))) rfl rfl (by first | rfl | (simp only [Pth.off, T.size]; omega)) (uaw (uaC uam)) tx1) rfl ?_
  refine q_y (uaZ tabOk 2 rfl rfl rfl) rfl ?_
  refine q_y (y_min rfl rfl) rfl ?_
  obtain ⟨hs16, h⟩ := ubo h
  refine q_y (udv tabOk (i := (0 : Int)) (j := (min a2 (List.length f6.2.1 : Int))) rfl (ubX 2 rfl) rfl rfl hs16.1 hs16.2.1 hs16.2.2 rfl ty5) rfl ?_
  refine uaD tabOk 1 [5, 7, 51, 52] (E' := [(5, ptr b3 0), (7, ptr fb7 0), (51, .one (.raw (.slice none 0 0)) (subv (T.size (.int .u8)) tv9 (Int.toNat (0 : Int)) (Int.toNat (min a2 (List.length f6.2.1 : Int))))), (52, ptr fb7 0)]) rfl ?_
  refine q_nil ?_
  refine uab [5,7,51,52] rfl <| uah (i := 14) (t := ptr fb7 1) (uaa uac) rfl (by kernel_rfl) (by kernel_rfl) (by kernel_rfl) (uaf tabOk rfl) rfl ?_
  refine a_one (i := 15) (by kernel_rfl) rfl ?_
  refine uhS (j := (Int.toNat (min a2 (List.length f6.2.1 : Int)))) 2 rfl (by have := hs16.2.2; omega) ?_
  refine st 1 ((.snd (.fst .here))) tx1 rfl rfl rfl rfl trivial <| za <| uab [5,7] rfl <| a_end (by kernel_rfl) ?_
  refine zt <| zu <| p 3 [5,56] rfl <| yl 1 ((.snd (.snd (.fst .here)))) ty58 rfl rfl rfl trivial rfl <| uhu delOk (by kernel_rfl) 3 6 rfl rfl rfl rfl (by decide) (by simp) rfl rfl rfl ?_
  refine zz <| p 1 [6] rfl <| zf <| pk [1,0,0,0,0,0,0] rfl <| ucO (P := Tryz.prog) (I := dI) kstr ?_
  refine uay (R' := Res.dfiles Tryz.prog dI mv1 (pset .str a1 (r14, (List.take (Int.toNat (min a2 (List.length f6.2.1 : Int))) f6.2.1), (udi f6.2.2 a2)) a0.2.1)) 0 rfl uaY <| pk [1,0,0] rfl <| ua3 (P := Tryz.prog) (I := dI) (D := (a0.1, (pset .str a1 (r14, (List.take (Int.toNat (min a2 (List.length f6.2.1 : Int))) f6.2.1), (udi f6.2.2 a2)) a0.2.1), a0.2.2.1, a0.2.2.2.1, a0.2.2.2.2.1, a0.2.2.2.2.2.1, a0.2.2.2.2.2.2)) ?_
  cases h
  exact uav rfl (.tmp rfl) (fun _ _ g => g) (fun _ _ _ => (.cons_cons _ (.cons _ .slnil)))
 refine yl 6 .here ty3 rfl rfl rfl trivial rfl <| za <| uab [5,7,29,30,34] rfl <| a_one (i := 2) (by kernel_rfl) rfl ?_
 refine p 1 [5,7,29,31,34] rfl <| za <| uab [5,7,29,31,34] rfl <| uah (i := 3) (t := ptr fb7 0) (uaa uac) rfl (by kernel_rfl) (by kernel_rfl) (by kernel_rfl) (uaf tabOk rfl) rfl ?_
 refine a_one (i := 4) (by kernel_rfl) rfl ?_
 refine yl 0 ((.fst .here)) tx1 rfl rfl rfl trivial rfl <| za <| uab [5,7,29,33,34] rfl <| a_one (i := 6) (by kernel_rfl) rfl ?_
 obtain ⟨hs13, h⟩ := ubo h
 refine y (udv tabOk (i := (0 : Int)) (j := a2) rfl (ubX 1 rfl) rfl rfl hs13.1 hs13.2.1 hs13.2.2 rfl ty5) rfl ?_
 refine za <| uab [5,7,29,35] rfl <| a_one (i := 7) (by kernel_rfl) rfl ?_
 refine cB h fun r14 hr14 h => ufz (ubT (List.take (Int.toNat a2) f6.1) _ hr14) (by kernel_rfl) (fun _ => rfl) (fun _ r hr => by rcases List.mem_singleton.1 hr with rfl; exact Res.free_own rfl) (.sub rfl (ues (ubX 1 rfl) hs13.1 hs13.2.1 hs13.2.2) .nil) rfl fun v15 => ?_
 refine za <| uab [5,7,29,36] rfl <| a_one (i := 8) (by kernel_rfl) rfl ?_
 refine p 1 [5,7,36,37] rfl <| za <| uab [5,7,36,37] rfl <| uah (i := 9) (t := ptr fb7 0) (uaa uac) rfl (by kernel_rfl) (by kernel_rfl) (by kernel_rfl) (uaf tabOk rfl) rfl ?_
 refine a_one (i := 10) (by kernel_rfl) rfl ?_
 refine st 1 ((.fst .here)) tx1 rfl rfl rfl rfl trivial <| pk [0,0,1,1,1,1,1] rfl <| za <| uab [5,7] rfl <| a_end (by kernel_rfl) ?_
 refine zt <| zs <| r_any (by kernel_rfl) ?_
 refine uah (i := 0) (t := ptr fb7 0) (uaa uac) rfl (by kernel_rfl) (by kernel_rfl) (by kernel_rfl) (uaf tabOk rfl) rfl ?_
 refine uah (i := 1) (t := ptr fb7 0) (uaa uac) rfl (by kernel_rfl) (by kernel_rfl) (by kernel_rfl) (uaf tabOk rfl) rfl ?_
 refine uah (i := 6) (t := ptr fb7 0) (uaa uac) rfl (by kernel_rfl) (by kernel_rfl) (by kernel_rfl) (uaf tabOk rfl) rfl ?_
 refine uik (fuel := 2) [2, 3, 4, 5, 7, 8, 9, 10, 11, 12, 13] #[true, true, true, true, true, true, true, true, true, true, true, true, true, true, false, false] (by kernel_rfl) ?_
 refine uaD tabOk 2 [5, 7, 39, 42, 45] (E' := [(5, ptr b3 0), (7, ptr fb7 0), (39, ptr fb7 0), (42, ptr fb7 1), (45, ptr fb7 0)]) rfl ?_
 refine q_y (ubx 1 ((.snd (.fst .here))) rfl rfl (by first | rfl | (simp only [Pth.off, T.size]; omega)) (uaw (uaC uam)) tx1) rfl ?_
 refine q_y (ubx 6 .here rfl rfl (by first | rfl | (simp only [Pth.off, T.size]; omega)) uam ty3) rfl ?_
 refine uaD tabOk 2 [5, 7, 39, 43, 44, 47] (E' := [(5, ptr b3 0), (7, ptr fb7 0), (39, ptr fb7 0), (43, .one (.raw (.slice none 0 0)) tv9), (44, ti a2), (47, ptr fb7 1)]) rfl ?_
 refine q_y (ubx 1 ((.snd (.fst .here))) rfl rfl (by first | rfl | (simp only [Pth.off, T.size]; omega)) (uaw (uaC uam)) tx1) rfl ?_
 refine q_y (uaZ tabOk 2 rfl rfl rfl) rfl ?_
 refine q_y (y_min rfl rfl) rfl ?_
 obtain ⟨hs16, h⟩ := ubo h
 refine q_y (udv tabOk (i := (0 : Int)) (j := (min a2 (List.length f6.2.1 : Int))) rfl (ubX 2 rfl) rfl rfl hs16.1 hs16.2.1 hs16.2.2 rfl ty5) rfl ?_
 refine uaD tabOk 1 [5, 7, 51, 52] (E' := [(5, ptr b3 0), (7, ptr fb7 0), (51, .one (.raw (.slice none 0 0)) (subv (T.size (.int .u8)) tv9 (Int.toNat (0 : Int)) (Int.toNat (min a2 (List.length f6.2.1 : Int))))), (52, ptr fb7 0)]) rfl ?_
 refine q_nil ?_
 refine uab [5,7,51,52] rfl <| uah (i := 14) (t := ptr fb7 1) (uaa uac) rfl (by kernel_rfl) (by kernel_rfl) (by kernel_rfl) (uaf tabOk rfl) rfl ?_
 refine a_one (i := 15) (by kernel_rfl) rfl ?_
 refine uhS (j := (Int.toNat (min a2 (List.length f6.2.1 : Int)))) 2 rfl (by have := hs16.2.2; omega) ?_
 refine st 1 ((.snd (.fst .here))) tx1 rfl rfl rfl rfl trivial <| za <| uab [5,7] rfl <| a_end (by kernel_rfl) ?_
 refine zt <| zu <| p 3 [5,56] rfl <| yl 1 ((.snd (.snd (.fst .here)))) ty58 rfl rfl rfl trivial rfl <| uhu delOk (by kernel_rfl) 3 6 rfl rfl rfl rfl (by decide) (by simp) rfl rfl rfl ?_
 refine zz <| p 1 [6] rfl <| zf <| pk [1,0,0,0,0,0,0] rfl <| ucO (P := Tryz.prog) (I := dI) kstr ?_
 refine uay (R' := Res.dfiles Tryz.prog dI mv1 (pset .str a1 (r14, (List.take (Int.toNat (min a2 (List.length f6.2.1 : Int))) f6.2.1), (udi f6.2.2 a2)) a0.2.1)) 0 rfl uaY <| pk [1,0,0] rfl <| ua3 (P := Tryz.prog) (I := dI) (D := (a0.1, (pset .str a1 (r14, (List.take (Int.toNat (min a2 (List.length f6.2.1 : Int))) f6.2.1), (udi f6.2.2 a2)) a0.2.1), a0.2.2.1, a0.2.2.2.1, a0.2.2.2.2.1, a0.2.2.2.2.2.1, a0.2.2.2.2.2.2)) ?_
 cases h
 exact uav rfl (.tmp rfl) (fun _ _ g => g) (fun _ _ _ => (.cons_cons _ (.cons _ .slnil)))

theorem uc1 (b0 : Nat) (mv0 : Value) (a0 : DiskS) (a1 : Int) (r : Int × DiskS) (h : ubc a0 a1 = some r) : Fn Tryz.prog 25 [ptr b0 0, ti a1] [Res.var b0 54 DT (a0.1, mv0, a0.2.2.1, a0.2.2.2.1, a0.2.2.2.2.1, a0.2.2.2.2.2.1, a0.2.2.2.2.2.2, ())] (fun _ => ti r.1) (fun _ => [Res.var b0 54 DT (r.2.1, mv0, r.2.2.2.1, r.2.2.2.2.1, r.2.2.2.2.2.1, r.2.2.2.2.2.2.1, r.2.2.2.2.2.2.2, ())]) := by
 unfold ubc at h
 refine enter Tryz.func25 rfl 60 rfl rfl fun F => ?_
 refine zu <| p 1 [0,1] rfl <| za <| jK h (γ := Unit) (fun (o2 : DiskS) _ => [(0, ptr b0 0), (1, ti a1)]) (fun (o2 : DiskS) _ => [Res.var b0 54 DT (o2.1, mv0, o2.2.2.1, o2.2.2.2.1, o2.2.2.2.2.1, o2.2.2.2.2.2.1, o2.2.2.2.2.2.2, ())]) (fun k1 h => ?_) fun o2 gg h => ?_
 ·refine zu <| p 3 [0,1,7] rfl <| yl 0 ((.snd (.snd (.snd (.snd (.fst .here)))))) ty3 rfl rfl rfl trivial rfl <| q 1 [(9, tb (decide (a0.2.2.2.2.1 > 0)))] [0,1] rfl <| za <| rI h rfl (fun hc h => ?_) fun hc h => ?_
  ·refine zu <| p 3 [0,1,10,12] rfl <| yl 0 ((.snd (.snd (.snd (.snd (.fst .here)))))) ty3 rfl rfl rfl trivial rfl <| q 3 [(14, ti (IntKind.wrap .i64 (a0.2.2.2.2.1 - 1))), (16, ptr b0 4)] [0,1] rfl <| st 0 ((.snd (.snd (.snd (.snd (.fst .here)))))) ty3 rfl rfl rfl rfl trivial <| zz <| p 3 [0,1,19] rfl <| yl 0 ((.snd (.snd (.snd (.snd (.fst .here)))))) ty3 rfl rfl rfl trivial rfl <| q 1 [(21, tb ((IntKind.wrap .i64 (a0.2.2.2.2.1 - 1)) == 0))] [0,1] rfl <| za <| rI h rfl (fun hc h => zu <| p 4 [23,25] rfl <| st 0 ((.snd (.snd (.snd (.snd (.snd (.fst .here))))))) ty4 rfl rfl rfl rfl trivial <| p 2 [27] rfl <| st 0 ((.snd (.snd (.snd (.snd (.snd (.snd (.fst .here)))))))) ty4 rfl rfl rfl rfl trivial <| zz <| p 1 [4] rfl <| zf <| zT <| by cases h; exact uav rfl (.tmp rfl) (fun _ _ g => g) (fun _ _ _ => (.cons_cons _ .slnil))) fun hc h => ?_
   exact zk <| zt <| uab [0,1] rfl <| by exact uai (a0.1, a0.2.1, a0.2.2.1, a0.2.2.2.1, (IntKind.wrap .i64 (a0.2.2.2.2.1 - 1)), a0.2.2.2.2.2.1, a0.2.2.2.2.2.2) () h rfl rfl
  exact zk <| zt <| uab [0,1] rfl <| by exact uai (a0.1, a0.2.1, a0.2.2.1, a0.2.2.2.1, a0.2.2.2.2.1, a0.2.2.2.2.2.1, a0.2.2.2.2.2.2) () h rfl rfl
 refine jK h (γ := Unit) (fun (o4 : DiskS) _ => []) (fun (o4 : DiskS) _ => [Res.var b0 54 DT (o4.1, mv0, o4.2.2.1, o4.2.2.2.1, o4.2.2.2.2.1, o4.2.2.2.2.2.1, o4.2.2.2.2.2.2, ())]) (fun k3 h => ?_) fun o4 gg h => ?_
 ·refine zu <| p 3 [0,1,30] rfl <| yl 0 ((.snd (.snd (.fst .here)))) ty3 rfl rfl rfl trivial rfl <| q 2 [(33, tb (decide (o2.2.2.1 > 0)))] [0,1] rfl ?_
  obtain ⟨b5, e, h⟩ := uao h; rw [e]
  refine bX h fun k6 hk6 h => ?_
  refine ubh (γ := Unit) 14 (fun (o7 : Bool) _ => [(0, ptr b0 0), (47, tb o7)]) (fun _ _ => [Res.var b0 54 DT (o2.1, mv0, o2.2.2.1, o2.2.2.2.1, o2.2.2.2.2.1, o2.2.2.2.2.2.1, o2.2.2.2.2.2.2, ())]) k6 r ?_ ?_
  ·rcases Bool.eq_false_or_eq_true b5 with hh | hh
   ·rw [hh] at h ⊢
    rw [if_pos rfl] at h
    refine p 3 [0,1,33,36] rfl <| uaI (by rfl) rfl ?_
    refine yl 0 ((.snd (.snd (.snd (.fst .here))))) ty3 rfl rfl rfl trivial rfl <| q 2 [(39, tb (o2.2.2.2.1 == 0))] [0,1,33] rfl ?_
    obtain ⟨b8, e, h⟩ := uao h; rw [e]
    refine uaG (γ := Unit) 7 (fun _ => [(0, ptr b0 0), (33, tb true), (46, tb (b8 || (o2.2.2.2.1 == a1)))]) (fun _ => [Res.var b0 54 DT (o2.1, mv0, o2.2.2.1, o2.2.2.2.1, o2.2.2.2.2.1, o2.2.2.2.2.2.1, o2.2.2.2.2.2.2, ())]) ?_ (fun _ => ?_)
    ·clear h
     cases b8
     ·refine p 3 [0,1,33,39,42] rfl <| uaI (by rfl) rfl ?_
      exact yl 0 ((.snd (.snd (.snd (.fst .here))))) ty3 rfl rfl rfl trivial rfl <| q 3 [(46, tb (o2.2.2.2.1 == a1))] [0,33] rfl <| uab [0,33,46] rfl <| za <| by exact uau () rfl rfl
     exact p 7 [0,33,46] rfl <| za <| by exact uau () rfl rfl
    exact q 1 [(47, tb (b8 || (o2.2.2.2.1 == a1)))] [0] rfl <| zn <| uab [0,47] rfl <| zt <| by exact uai (b8 || (o2.2.2.2.1 == a1)) () h rfl rfl
   rw [hh] at h ⊢
   rw [if_neg (by decide)] at h
   exact p 14 [0,47] rfl <| zn <| uab [0,47] rfl <| zt <| by exact uai false () h rfl rfl
  intro o7 _ h
  rw [← hk6] at h
  try dsimp only at h
  refine za <| rI h rfl (fun hc h => ?_) fun hc h => ?_
  ·refine zu <| p 3 [0,48,50] rfl <| yl 0 ((.snd (.snd (.fst .here)))) ty3 rfl rfl rfl trivial rfl <| q 3 [(52, ti (IntKind.wrap .i64 (o2.2.2.1 - 1))), (54, ptr b0 2)] [0] rfl <| st 0 ((.snd (.snd (.fst .here)))) ty3 rfl rfl rfl rfl trivial <| zz <| p 3 [57] rfl <| yl 0 ((.snd (.snd (.fst .here)))) ty3 rfl rfl rfl trivial rfl <| q 1 [(59, tb ((IntKind.wrap .i64 (o2.2.2.1 - 1)) == 0))] [] rfl <| za <| rI h rfl (fun hc h => zu <| p 1 [4] rfl <| zf <| zT <| by cases h; exact uav rfl (.tmp rfl) (fun _ _ g => g) (fun _ _ _ => (.cons_cons _ .slnil))) fun hc h => ?_
   exact zk <| zt <| uab [] rfl <| by exact uai (o2.1, a0.2.1, (IntKind.wrap .i64 (o2.2.2.1 - 1)), o2.2.2.2.1, o2.2.2.2.2.1, o2.2.2.2.2.2.1, o2.2.2.2.2.2.2) () h rfl rfl
  exact zk <| zt <| uab [] rfl <| by exact uai (o2.1, a0.2.1, o2.2.2.1, o2.2.2.2.1, o2.2.2.2.2.1, o2.2.2.2.2.2.1, o2.2.2.2.2.2.2) () h rfl rfl
 refine zu <| p 1 [4] rfl <| zf ?_
 cases h
 exact uav rfl (.tmp rfl) (fun _ _ g => g) (fun _ _ _ => (.cons_cons _ .slnil))

theorem uce (p0 : Value) (a0 : DiskS) (a1 : List Int) (r : Int × DiskS) (h : udb a0 a1 = some r) : Fn Tryz.prog 8 [tp p0, ts a1] [Res.disk Tryz.prog dI p0 a0] (fun _ => ti r.1) (fun _ => [Res.disk Tryz.prog dI p0 r.2]) := by
 unfold udb at h
 refine enter Tryz.func8 rfl 34 rfl rfl fun F => ?_
 refine ucK fun b2 mv1 hp => ?_
 subst hp
 refine zu <| p 1 [0,1] rfl <| zz <| p 2 [0,9,10] rfl <| cB h fun r3 hr3 h => ucI (Lo := []) (ucQ b2 mv1 a0 a1 _ hr3) (by kernel_rfl) (List.Perm.refl _) rfl rfl fun v4 => ?_
 refine p 5 [0,5,6] rfl <| za <| zs <| zu <| p 2 [0,5,6,15] rfl <| za <| rI h rfl (fun hc h => zu <| p 2 [4] rfl <| zf <| zT <| uay (R' := Res.dfiles Tryz.prog dI mv1 a0.2.1) 1 rfl ucF <| ua3 (P := Tryz.prog) (I := dI) (D := a0) <| by cases h; exact uav rfl (.tmp rfl) (fun _ _ g => g) (fun _ _ _ => (.cons_cons _ .slnil))) fun hc h => zk <| zt <| zs <| zu <| p 1 [5,17] rfl <| cB h fun r5 hr5 h => ucI (Lo := [Res.dfound Tryz.prog dI mv1 a0.2.1 a1 (tupv v4 0) r3]) (uc1 b2 mv1 a0 2 _ hr5) (by kernel_rfl) (List.Perm.refl _) rfl rfl fun _ => ?_
 refine q 1 [(7, ti r5.1)] [5] rfl <| zz <| q 2 [(20, tb (r5.1 != 0))] [5,7] rfl <| za <| rI h rfl (fun hc h => zu <| q 2 [(4, ti r5.1)] [] rfl <| zf <| zT <| uay (R' := Res.dfiles Tryz.prog dI mv1 a0.2.1) 1 rfl ucF <| ua3 (P := Tryz.prog) (I := dI) (D := (r5.2.1, a0.2.1, r5.2.2.2.1, r5.2.2.2.2.1, r5.2.2.2.2.2.1, r5.2.2.2.2.2.2.1, r5.2.2.2.2.2.2.2)) <| by cases h; exact uav rfl (.tmp rfl) (fun _ _ g => g) (fun _ _ _ => (.cons_cons _ .slnil))) fun hc h => zk <| zt <| zs <| iE h fun hc h => uay (R' := Res.dat Tryz.prog dI mv1 a0.2.1 a1 (tupv v4 0)) 1 rfl (ufm hc) <| cB h fun f6 hf6 h => pk [1,0] rfl <| udd kstr hf6 fun fb7 sv8 tv9 dv10 hq => ?_
 rw [hq]
 clear hq
 refine zr <| p 4 [5,22,25] rfl <| yl 0 ((.fst .here)) tx1 rfl rfl rfl trivial rfl <| cB h fun r11 hr11 h => ufz (ubT f6.1 _ hr11) (by kernel_rfl) (fun _ => rfl) (fun _ r hr => by rcases List.mem_singleton.1 hr with rfl; exact Res.free_own rfl) (.sub rfl (ubX 1 rfl) .nil) rfl fun v12 => ?_
 refine p 2 [5,27,29] rfl <| st 1 ((.snd (.fst .here))) tx1 rfl rfl rfl rfl trivial <| pk [0,0,0,1,1,1] rfl <| zz <| p 3 [32] rfl <| yl 1 ((.snd (.snd (.fst .here)))) ty58 rfl rfl rfl trivial rfl <| uet 3 rfl fun l13 hl13 => ?_
 refine ulA 3 rfl rfl Tryz.underlying58 ?_
 refine uc3 (P := Tryz.prog) (I := dI) (keys := []) 3 rfl rfl ?_
 refine zz <| p 1 [4] rfl <| zf <| pk [1,1,0,0,0,0] rfl <| ucO (P := Tryz.prog) (I := dI) kstr ?_
 refine uay (R' := Res.dfiles Tryz.prog dI mv1 (pset .str a1 (f6.1, r11, []) a0.2.1)) 0 rfl uaY <| pk [1,0] rfl <| ua3 (P := Tryz.prog) (I := dI) (D := (r5.2.1, (pset .str a1 (f6.1, r11, []) a0.2.1), r5.2.2.2.1, r5.2.2.2.2.1, r5.2.2.2.2.2.1, r5.2.2.2.2.2.2.1, r5.2.2.2.2.2.2.2)) ?_
 cases h
 exact uav rfl (.tmp rfl) (fun _ _ g => g) (fun _ _ _ => (.cons_cons _ .slnil))

theorem ucD (a0 : List (List Int)) (r : List (List Int)) (h : ubf a0 = some r) : Fn Tryz.prog 33 [.one (.sl 9 .str) a0] [] (fun v => .one (.raw (.slice none 0 0)) v) (fun v => [Res.own v 9 .str r]) := by
 unfold ubf at h
 refine enter Tryz.func33 rfl 8 rfl rfl fun F => ?_
 refine zu <| p 1 [0] rfl <| za <| zs <| zu <| p 1 [0,3] rfl <| ulG rfl Tryz.underlying34 rfl fun g1 hg1 => ?_
 refine za ?_
 refine r_if (b := g1) rfl (fun hc => ?_) (fun hc => ?_)
 ·have hx := hg1 hc
  subst hx
  have h : (some [] : Option (List (List Int))) = some r := by simpa using h
  refine zu <| p 1 [2] rfl <| zf <| zT <| ua1 (.slice none 0 0) rfl 9 .str ?_
  cases h
  exact uav rfl (.tmp rfl) (fun _ _ g => holds_raw.2 ⟨rfl, by rw [(holds_raw.1 g).1]; exact (holds_raw.1 g).2⟩) (fun _ _ g => by obtain ⟨rfl, _⟩ := holds_raw.1 g; exact (.cons_cons _ .slnil))
 refine zy <| ub7 (B := 16) tabOk rfl el9 rfl rfl rfl .nil rfl fun v2 => ?_
 refine p 1 [5,6] rfl <| iE h fun hc h => ubd (B := 16) tabOk 0 rfl rfl (uf9 rfl) rfl el9 rfl rfl hc rfl fun v3 => ?_
 refine p 1 [2] rfl <| zf ?_
 cases h
 exact uav rfl (.tmp rfl) (fun _ _ g => holds_raw.2 ⟨rfl, by rw [(holds_raw.1 g).1]; exact (holds_raw.1 g).2⟩) (fun _ _ g => by obtain ⟨rfl, _⟩ := holds_raw.1 g; exact (.cons_cons _ .slnil))

theorem udS (p0 : Value) (a0 : DiskS) (a1 : List Int) (a2 : Int) (a3 : Int) (r : (Int × Unit × List Int × Int × (List (Int × Int × Int × Unit)) × Int × Bool × Unit) × List (List Int) × Int × DiskS) (h : ubF a0 a1 a2 a3 = some r) : FnT Tryz.prog tabs 9 [tp p0, ts a1, ti a2, ti a3] [Res.disk Tryz.prog dI p0 a0] (fun v => .tup [⟨.raw (.pointer none), tupv v 0⟩, ⟨.raw (.slice none 0 0), tupv v 1⟩, ⟨(.int .i64), r.2.2.1⟩]) (fun v => [Res.disk Tryz.prog dI p0 r.2.2.2, Res.clsif (CLog p0) (tupv v 0) r.1.2 r.1.1, Res.own (tupv v 1) 9 .str r.2.1]) := by
 unfold ubF at h
 refine uoS Tryz.func9 rfl 153 rfl rfl fun F hT => ?_
 refine zu <| ubK (t := (.raw (.pointer none))) rfl zf33 rfl fun b1 => ubK (t := (.raw (.slice none 0 0))) rfl zf34 rfl fun b2 => ua1 (.slice none 0 0) rfl 9 .str ?_
 refine ubK (t := (.int .i64)) rfl zf24 rfl fun b3 => za <| ulv ?_
 refine zs <| zu <| p 1 [0,1,2,3,8,9,10,23] rfl <| cB h fun r4 hr4 h => ubk (ukZ _ _ hr4) (by kernel_rfl) rfl rfl <| p 2 [0,1,2,3,8,9,10,26] rfl ?_
 obtain ⟨b5, e, h⟩ := uao h; rw [e]
 refine uaG (γ := Unit) 3 (fun _ => [(0, tp p0), (1, ts a1), (2, ti a2), (3, ti a3), (8, ptr b1 0), (9, ptr b2 0), (10, ptr b3 0), (29, tb (b5 || (decide (a2 < 64))))]) (fun _ => [Res.var b3 24 (.int .i64) 0, Res.own (.slice none 0 0) 9 .str [], Res.var b2 34 (.raw (.slice none 0 0)) (.slice none 0 0), Res.var b1 33 (.raw (.pointer none)) (.pointer none), Res.disk Tryz.prog dI p0 a0]) ?_ (fun _ => ?_)
 ·clear h
  cases b5
  ·exact p 3 [0,1,2,3,8,9,10,29] rfl <| za <| by exact uau () rfl rfl
  exact p 3 [0,1,2,3,8,9,10,29] rfl <| za <| by exact uau () rfl rfl
 refine p 1 [0,1,2,3,8,9,10,30] rfl ?_
 obtain ⟨b6, e, h⟩ := uao h; rw [e]
 refine uaG (γ := Unit) 3 (fun _ => [(0, tp p0), (1, ts a1), (2, ti a2), (3, ti a3), (8, ptr b1 0), (9, ptr b2 0), (10, ptr b3 0), (33, tb (b6 || (decide (a2 > 1048576))))]) (fun _ => [Res.var b3 24 (.int .i64) 0, Res.own (.slice none 0 0) 9 .str [], Res.var b2 34 (.raw (.slice none 0 0)) (.slice none 0 0), Res.var b1 33 (.raw (.pointer none)) (.pointer none), Res.disk Tryz.prog dI p0 a0]) ?_ (fun _ => ?_)
 ·clear h
  cases b6
  ·exact p 3 [0,1,2,3,8,9,10,33] rfl <| za <| by exact uau () rfl rfl
  exact p 3 [0,1,2,3,8,9,10,33] rfl <| za <| by exact uau () rfl rfl
 refine p 1 [0,1,2,3,8,9,10,34] rfl ?_
 obtain ⟨b7, e, h⟩ := uao h; rw [e]
 refine uaG (γ := Unit) 3 (fun _ => [(0, tp p0), (1, ts a1), (2, ti a2), (3, ti a3), (8, ptr b1 0), (9, ptr b2 0), (10, ptr b3 0), (37, tb (b7 || (decide (a3 < 0))))]) (fun _ => [Res.var b3 24 (.int .i64) 0, Res.own (.slice none 0 0) 9 .str [], Res.var b2 34 (.raw (.slice none 0 0)) (.slice none 0 0), Res.var b1 33 (.raw (.pointer none)) (.pointer none), Res.disk Tryz.prog dI p0 a0]) ?_ (fun _ => ?_)
 ·clear h
  cases b7
  ·exact p 3 [0,1,2,3,8,9,10,37] rfl <| za <| by exact uau () rfl rfl
  exact p 3 [0,1,2,3,8,9,10,37] rfl <| za <| by exact uau () rfl rfl
 refine p 1 [0,1,2,3,8,9,10,38] rfl ?_
 obtain ⟨b8, e, h⟩ := uao h; rw [e]
 refine uaG (γ := Unit) 3 (fun _ => [(0, tp p0), (1, ts a1), (2, ti a2), (3, ti a3), (8, ptr b1 0), (9, ptr b2 0), (10, ptr b3 0), (41, tb (b8 || (decide (a3 > 1152921504606846976))))]) (fun _ => [Res.var b3 24 (.int .i64) 0, Res.own (.slice none 0 0) 9 .str [], Res.var b2 34 (.raw (.slice none 0 0)) (.slice none 0 0), Res.var b1 33 (.raw (.pointer none)) (.pointer none), Res.disk Tryz.prog dI p0 a0]) ?_ (fun _ => ?_)
 ·clear h
  cases b8
  ·exact p 3 [0,1,2,3,8,9,10,41] rfl <| za <| by exact uau () rfl rfl
  exact p 3 [0,1,2,3,8,9,10,41] rfl <| za <| by exact uau () rfl rfl
 refine za <| rI h rfl (fun hc h => ?_) fun hc h => ?_
 ·refine zu <| st 3 .here ty33 rfl rfl rfl rfl trivial <| ua1 (.slice none 0 0) rfl 9 .str ?_
  refine st 3 .here tx0 rfl rfl rfl rfl trivial <| st 1 .here ty24 rfl rfl rfl rfl trivial <| zf <| zT <| udu ?_
  refine m_ret ?_
  refine ueu (K := (CLog p0)) (x := ((), [], 0, [], 0, false, ())) (e := 1) (by decide) ?_
  refine pk [6,0,0,0,0,0,0] rfl ?_
  cases h
  exact ua2 (rs := [.cell 8 33, .cell 9 34, .cell 10 24]) rfl (.cons (.cell 6 .here rfl rfl (by first | rfl | (simp only [Pth.off, T.size]; omega)) uam ty33) (.cons (.cell 5 .here rfl rfl (by first | rfl | (simp only [Pth.off, T.size]; omega)) uam tx0) (.cons (.cell 3 .here rfl rfl (by first | rfl | (simp only [Pth.off, T.size]; omega)) uam ty24) (.nil)))) rfl (fun _ vs g => by cases g with | cons h0 g => cases g with | cons h1 g => cases g with | cons h2 g => cases g; exact ⟨_, rfl, .cons (ua5 h0) (.cons (ua5 h1) (.cons h2 (.nil)))⟩) (fun _ vs g => by cases g with | cons h0 g => cases g with | cons h1 g => cases g with | cons h2 g => cases g; rw [ubI h0]; rw [ubI h1]; exact (.cons_cons _ (.cons_cons _ (.cons_cons _ (.cons _ (.cons _ (.cons _ (.cons _ .slnil))))))))
 refine zk <| zt <| zs <| zu <| p 1 [0,1,2,3,8,9,10,42] rfl <| cB h fun r9 hr9 h => rc [4] (ufH _ _ _ hr9) (by kernel_rfl) rfl rfl rfl fun _ => za <| rI h rfl (fun hc h => ?_) fun hc h => ?_
 ·refine zu <| st 4 .here ty33 rfl rfl rfl rfl trivial <| ua1 (.slice none 0 0) rfl 9 .str ?_
  refine st 4 .here tx0 rfl rfl rfl rfl trivial <| st 2 .here ty24 rfl rfl rfl rfl trivial <| zf <| zT <| udu ?_
  refine m_ret ?_
  refine ueu (K := (CLog p0)) (x := ((), [], 0, [], 0, false, ())) (e := 1) (by decide) ?_
  refine pk [2,0,0,0,0,0,0] rfl ?_
  cases h
  exact ua2 (rs := [.cell 8 33, .cell 9 34, .cell 10 24]) rfl (.cons (.cell 6 .here rfl rfl (by first | rfl | (simp only [Pth.off, T.size]; omega)) uam ty33) (.cons (.cell 5 .here rfl rfl (by first | rfl | (simp only [Pth.off, T.size]; omega)) uam tx0) (.cons (.cell 3 .here rfl rfl (by first | rfl | (simp only [Pth.off, T.size]; omega)) uam ty24) (.nil)))) rfl (fun _ vs g => by cases g with | cons h0 g => cases g with | cons h1 g => cases g with | cons h2 g => cases g; exact ⟨_, rfl, .cons (ua5 h0) (.cons (ua5 h1) (.cons h2 (.nil)))⟩) (fun _ vs g => by cases g with | cons h0 g => cases g with | cons h1 g => cases g with | cons h2 g => cases g; rw [ubI h0]; rw [ubI h1]; exact (.cons_cons _ (.cons_cons _ (.cons_cons _ (.cons _ (.cons _ (.cons _ (.cons _ .slnil))))))))
 refine zy <| p 4 [0,3,8,9,10,44,45,46,47] rfl <| y (udN rfl zf68 rfl rfl (.cons ((.fst .here)) rfl rfl (uaC uam) (.cons ((.snd (.fst .here))) rfl rfl (uaw (uaC uam)) (.cons ((.snd (.snd (.fst .here)))) rfl rfl (uaw (uaw (uaC uam))) (.cons ((.snd (.snd (.snd (.snd (.fst .here)))))) rfl rfl (uaw (uaw (uaw (uaw (uaC uam))))) .nil))))) rfl ?_
 refine r_box rfl rfl fun b10 => ua1 (.slice none 0 0) rfl 77 Y77 ?_
 refine ubK (t := (.raw (.pointer none))) rfl zf33 rfl fun b11 => st 0 .here ty33 rfl rfl rfl rfl trivial <| zz <| ubK (t := (.int .i64)) rfl zf3 rfl fun b12 => st 0 .here ty3 rfl rfl rfl rfl trivial <| za <| bX h fun k13 hk13 h => ?_
 refine ukv (γ := Unit) (fun (o14 : (Unit × List Int × Int × (List (Int × Int × Int × Unit)) × Int × Bool × Unit) × Int) _ => [(0, tp p0), (3, ti a3), (8, ptr b1 0), (9, ptr b2 0), (10, ptr b3 0), (11, ptr b11 0), (12, ptr b12 0)]) (fun D0 (o14 : (Unit × List Int × Int × (List (Int × Int × Int × Unit)) × Int × Bool × Unit) × Int) _ => [Res.cls (CLog p0) (.pointer (some ⟨b10, 0, none⟩)) o14.1, Res.var b12 3 (.int .i64) o14.2, Res.var b11 33 (.raw (.pointer none)) (.pointer (some ⟨b10, 0, none⟩)), Res.disk Tryz.prog dI p0 a0, Res.var b3 24 (.int .i64) 0, Res.own (.slice none 0 0) 9 .str [], Res.var b2 34 (.raw (.slice none 0 0)) (.slice none 0 0), Res.var b1 33 (.raw (.pointer none)) (.pointer none), Res.dfr D0]) k13 r ?_ ?_
 ·refine zu <| yl 1 .here ty33 rfl rfl rfl trivial rfl <| ujl (ufc _) (by kernel_rfl) rfl rfl fun b66 => ?_
  refine za <| zb <| pk [4,3,0,0,0,0,0,0,0,0] rfl <| uaK (x := ((), a1, a2, [], a3, false, ())) (q := p0) ?_
  refine cB h fun xs73 hxs73 h => uab [0,3,8,9,10,11,12,51] rfl ?_
  refine ukt (γ := Unit) (fun (s69 : Int) _ => [Res.cls (CLog p0) (.pointer (some ⟨b10, 0, none⟩)) ((), a1, a2, [], a3, false, ()), Res.var b66 33 (.raw (.pointer none)) (.pointer (some ⟨b10, 0, none⟩)), Res.var b12 3 (.int .i64) s69, Res.var b11 33 (.raw (.pointer none)) (.pointer (some ⟨b10, 0, none⟩)), Res.disk Tryz.prog dI p0 a0, Res.var b3 24 (.int .i64) 0, Res.own (.slice none 0 0) 9 .str [], Res.var b2 34 (.raw (.slice none 0 0)) (.slice none 0 0), Res.var b1 33 (.raw (.pointer none)) (.pointer none)]) (ucv a0 a1 a2 a3 k13) (-1) () [1,0,2] hT (by rfl) (fun _ _ a b => TabM.mono a b) (ueM _ _ _ _ _ _ hxs73) (by kernel_rfl) h rfl rfl rfl rfl rfl (fun l F1 D0 x71 m70 s69 gg hT h => ?_) (fun D0 s69 gg h => ?_)
  ·simp only [ucv] at h
   refine ukr ?_
   refine ueG ?_
   refine ueG ?_
   refine udz rfl ?_
   refine yl 2 .here ty3 rfl rfl rfl trivial rfl <| p 2 [8,9,10,12,13,55] rfl ?_
   obtain ⟨b72, e, h⟩ := uao h; rw [e]
   refine uaG (γ := Unit) 5 (fun _ => [(8, ptr b1 0), (9, ptr b2 0), (10, ptr b3 0), (12, ptr b12 0), (13, ti x71), (60, tb (b72 && (x71 != (IntKind.wrap .i64 (s69 + 1)))))]) (fun _ => [Res.cls (CLog p0) (.pointer (some ⟨b10, 0, none⟩)) ((), a1, a2, [], a3, false, ()), Res.var b66 33 (.raw (.pointer none)) (.pointer (some ⟨b10, 0, none⟩)), Res.var b12 3 (.int .i64) s69, Res.var b11 33 (.raw (.pointer none)) (.pointer (some ⟨b10, 0, none⟩)), Res.disk Tryz.prog dI p0 a0, Res.var b3 24 (.int .i64) 0, Res.own (.slice none 0 0) 9 .str [], Res.var b2 34 (.raw (.slice none 0 0)) (.slice none 0 0), Res.var b1 33 (.raw (.pointer none)) (.pointer none)]) ?_ (fun _ => ?_)
   ·clear h
    cases b72
    ·exact p 5 [8,9,10,12,13,60] rfl <| za <| by exact uau () rfl rfl
    refine p 1 [8,9,10,12,13,55,56] rfl <| uaI (by rfl) rfl ?_
    exact yl 2 .here ty3 rfl rfl rfl trivial rfl <| p 3 [8,9,10,12,13,60] rfl <| za <| by exact uau () rfl rfl
   refine za ?_
   refine ri_if (b := (b72 && (x71 != (IntKind.wrap .i64 (s69 + 1))))) rfl (fun hc => ?_) (fun hc => ?_)
   ·rw [if_pos hc] at h
    refine ueG ?_
    refine udz rfl ?_
    refine st 8 .here ty33 rfl rfl rfl rfl trivial <| ua1 (.slice none 0 0) rfl 9 .str ?_
    refine st 8 .here tx0 rfl rfl rfl rfl trivial <| st 6 .here ty24 rfl rfl rfl rfl trivial <| za <| ung ?_
    refine zT <| zB <| unh (L2 := [Res.own (.slice none 0 0) 9 .str [], Res.cls (CLog p0) (.pointer (some ⟨b10, 0, none⟩)) ((), a1, a2, [], a3, false, ()), Res.var b66 33 (.raw (.pointer none)) (.pointer (some ⟨b10, 0, none⟩)), Res.var b12 3 (.int .i64) s69, Res.var b11 33 (.raw (.pointer none)) (.pointer (some ⟨b10, 0, none⟩)), Res.disk Tryz.prog dI p0 a0, Res.var b3 24 (.int .i64) 60, Res.own (.slice none 0 0) 9 .str [], Res.var b2 34 (.raw (.slice none 0 0)) (.slice none 0 0), Res.var b1 33 (.raw (.pointer none)) (.pointer none), Res.dfr D0]) rfl ?_
    refine zB <| zT <| udu ?_
    refine m_pop [10] rfl ?_
    refine m_ret ?_
    refine ueu (K := (CLog p0)) (x := ((), [], 0, [], 0, false, ())) (e := 1) (by decide) ?_
    refine pk [6,0,0,0,0,0,0,0,0,0,0] rfl ?_
    cases h
    exact ua2 (rs := [.cell 8 33, .cell 9 34, .cell 10 24]) rfl (.cons (.cell 10 .here rfl rfl (by first | rfl | (simp only [Pth.off, T.size]; omega)) uam ty33) (.cons (.cell 9 .here rfl rfl (by first | rfl | (simp only [Pth.off, T.size]; omega)) uam tx0) (.cons (.cell 7 .here rfl rfl (by first | rfl | (simp only [Pth.off, T.size]; omega)) uam ty24) (.nil)))) rfl (fun _ vs g => by cases g with | cons h0 g => cases g with | cons h1 g => cases g with | cons h2 g => cases g; exact ⟨_, rfl, .cons (ua5 h0) (.cons (ua5 h1) (.cons h2 (.nil)))⟩) (fun _ vs g => by cases g with | cons h0 g => cases g with | cons h1 g => cases g with | cons h2 g => cases g; rw [ubI h0]; rw [ubI h1]; exact (.cons_cons _ (.cons_cons _ (.cons_cons _ (.cons _ (.cons _ (.cons _ (.cons _ (.cons _ (.cons _ (.cons _ (.cons _ .slnil))))))))))))
   rw [if_neg (ne_true_of_eq_false hc)] at h
   refine uiX ?_
   refine zt <| udz rfl ?_
   exact p 1 [12,61] rfl <| st 2 .here ty3 rfl rfl rfl rfl trivial <| zn <| zi <| ulP x71 () h rfl
  simp only [ucv] at h
  refine r_asL (L2 := [Res.cls (CLog p0) (.pointer (some ⟨b10, 0, none⟩)) ((), a1, a2, [], a3, false, ()), Res.var b66 33 (.raw (.pointer none)) (.pointer (some ⟨b10, 0, none⟩)), Res.var b12 3 (.int .i64) s69, Res.var b11 33 (.raw (.pointer none)) (.pointer (some ⟨b10, 0, none⟩)), Res.disk Tryz.prog dI p0 a0, Res.var b3 24 (.int .i64) 0, Res.own (.slice none 0 0) 9 .str [], Res.var b2 34 (.raw (.slice none 0 0)) (.slice none 0 0), Res.var b1 33 (.raw (.pointer none)) (.pointer none), Res.dfr D0]) rfl ?_
  exact zi <| zt <| pk [0,1,1,1,1,1,1,1,1] rfl <| uab [0,3,8,9,10,11,12] rfl <| uhW (((), a1, a2, [], a3, false, ()), s69) () h rfl rfl
 intro D0 o14 gg h
 rw [← hk13] at h
 try dsimp only at h
 refine zu <| ubK (t := (.pair (.raw (.slice none 0 0)) (.pair (.int .i64) (.pair .bool (.pair .bool .unit))))) rfl zf73 rfl fun b15 => ua1 (.slice none 0 0) rfl 9 .str ?_
 refine zz <| ubK (t := .bool) rfl zf4 rfl fun b16 => st 0 .here ty4 rfl rfl rfl rfl trivial <| za <| zs <| ulw ?_
 refine zt <| bX h fun k17 hk17 h => ?_
 refine ukv (γ := Unit) (fun (o18 : (List (List Int) × Int × Bool × Bool × Unit) × (Unit × List Int × Int × (List (Int × Int × Int × Unit)) × Int × Bool × Unit) × Bool) _ => [(0, tp p0), (3, ti a3), (8, ptr b1 0), (9, ptr b2 0), (10, ptr b3 0), (11, ptr b11 0), (14, ptr b15 0), (15, ptr b16 0)]) (fun D1 (o18 : (List (List Int) × Int × Bool × Bool × Unit) × (Unit × List Int × Int × (List (Int × Int × Int × Unit)) × Int × Bool × Unit) × Bool) _ => [Res.cls ucY (.pointer (some ⟨b15, 0, none⟩)) o18.1, Res.cls (CLog p0) (.pointer (some ⟨b10, 0, none⟩)) o18.2.1, Res.disk Tryz.prog dI p0 a0, Res.var b16 4 .bool o18.2.2, Res.var b12 3 (.int .i64) o14.2, Res.var b11 33 (.raw (.pointer none)) (.pointer (some ⟨b10, 0, none⟩)), Res.var b3 24 (.int .i64) 0, Res.own (.slice none 0 0) 9 .str [], Res.var b2 34 (.raw (.slice none 0 0)) (.slice none 0 0), Res.var b1 33 (.raw (.pointer none)) (.pointer none), Res.dfr D0, Res.dfr D1]) k17 r ?_ ?_
 ·refine zu <| yl 5 .here ty33 rfl rfl rfl trivial rfl <| ujl (ufc _) (by kernel_rfl) rfl rfl fun b57 => ?_
  refine za <| zb <| pk [3,2,0,0,0,0,0,0,0,0,0,0,0] rfl <| udh (x := ([], 0, false, false, ())) ?_
  refine cB h fun xs65 hxs65 h => uab [0,3,8,9,10,11,12,14,15,63] rfl ?_
  refine ukt (γ := Unit) (fun (s60 : (List (List Int) × Int × Bool × Bool × Unit) × (Unit × List Int × Int × (List (Int × Int × Int × Unit)) × Int × Bool × Unit)) _ => [Res.cls ucY (.pointer (some ⟨b15, 0, none⟩)) s60.1, Res.var b57 33 (.raw (.pointer none)) (.pointer (some ⟨b10, 0, none⟩)), Res.var b16 4 .bool false, Res.cls (CLog p0) (.pointer (some ⟨b10, 0, none⟩)) s60.2, Res.var b12 3 (.int .i64) o14.2, Res.var b11 33 (.raw (.pointer none)) (.pointer (some ⟨b10, 0, none⟩)), Res.disk Tryz.prog dI p0 a0, Res.var b3 24 (.int .i64) 0, Res.own (.slice none 0 0) 9 .str [], Res.var b2 34 (.raw (.slice none 0 0)) (.slice none 0 0), Res.var b1 33 (.raw (.pointer none)) (.pointer none), Res.dfr D0]) (uc6 a0 o14 k17) (([], 0, false, false, ()), o14.1) () [1,2,4] hT (by rfl) (fun _ _ a b => TabM.mono a b) (ueM _ _ _ _ _ _ hxs65) (by kernel_rfl) h rfl rfl rfl rfl rfl (fun l F1 D1 x62 m61 s60 gg hT h => ?_) (fun D1 s60 gg h => ?_)
  ·simp only [uc6] at h
   refine ukr ?_
   refine ueG ?_
   refine ueG ?_
   refine udz rfl ?_
   refine yl 5 .here ty33 rfl rfl rfl trivial rfl <| p 1 [0,3,8,9,10,11,12,14,15,16,65,66] rfl <| cB h fun r63 hr63 h => rcTM hT (by rfl) [3,0,4] (uiJ (.pointer (some ⟨b10, 0, none⟩)) (.pointer (some ⟨b15, 0, none⟩)) p0 s60.2 x62 s60.1 a0 _ hr63) (by kernel_rfl) rfl rfl rfl fun _ => ?_
   refine q 1 [(17, ti r63.1)] [0,3,8,9,10,11,12,14,15,16] rfl <| za <| ueG ?_
   refine udz rfl ?_
   refine q 2 [(69, tb (r63.1 != 0))] [0,3,8,9,10,11,12,14,15,16,17] rfl <| za ?_
   refine ri_if (b := (r63.1 != 0)) rfl (fun hc => ?_) (fun hc => ?_)
   ·rw [if_pos hc] at h
    refine ueG ?_
    refine udz rfl ?_
    refine q 1 [(70, ti r63.1)] [8,9,10] rfl <| st 10 .here ty33 rfl rfl rfl rfl trivial <| ua1 (.slice none 0 0) rfl 9 .str ?_
    refine st 10 .here tx0 rfl rfl rfl rfl trivial <| st 8 .here ty24 rfl rfl rfl rfl trivial <| za <| ung ?_
    refine zT <| zB <| unh (L2 := [Res.own (.slice none 0 0) 9 .str [], Res.cls (CLog p0) (.pointer (some ⟨b10, 0, none⟩)) r63.2.1, Res.cls ucY (.pointer (some ⟨b15, 0, none⟩)) r63.2.2, Res.disk Tryz.prog dI p0 a0, Res.var b57 33 (.raw (.pointer none)) (.pointer (some ⟨b10, 0, none⟩)), Res.var b16 4 .bool false, Res.var b12 3 (.int .i64) o14.2, Res.var b11 33 (.raw (.pointer none)) (.pointer (some ⟨b10, 0, none⟩)), Res.var b3 24 (.int .i64) r63.1, Res.own (.slice none 0 0) 9 .str [], Res.var b2 34 (.raw (.slice none 0 0)) (.slice none 0 0), Res.var b1 33 (.raw (.pointer none)) (.pointer none), Res.dfr D0, Res.dfr D1]) rfl ?_
    refine zB <| zT <| udu ?_
    refine m_pop [13] rfl ?_
    refine m_pop [12] rfl ?_
    refine m_ret ?_
    refine ueu (K := (CLog p0)) (x := ((), [], 0, [], 0, false, ())) (e := 1) (by decide) ?_
    refine pk [4,0,0,0,0,0,0,0,0,0,0,0,0] rfl ?_
    cases h
    exact ua2 (rs := [.cell 8 33, .cell 9 34, .cell 10 24]) rfl (.cons (.cell 12 .here rfl rfl (by first | rfl | (simp only [Pth.off, T.size]; omega)) uam ty33) (.cons (.cell 11 .here rfl rfl (by first | rfl | (simp only [Pth.off, T.size]; omega)) uam tx0) (.cons (.cell 9 .here rfl rfl (by first | rfl | (simp only [Pth.off, T.size]; omega)) uam ty24) (.nil)))) rfl (fun _ vs g => by cases g with | cons h0 g => cases g with | cons h1 g => cases g with | cons h2 g => cases g; exact ⟨_, rfl, .cons (ua5 h0) (.cons (ua5 h1) (.cons h2 (.nil)))⟩) (fun _ vs g => by cases g with | cons h0 g => cases g with | cons h1 g => cases g with | cons h2 g => cases g; rw [ubI h0]; rw [ubI h1]; exact (.cons_cons _ (.cons_cons _ (.cons_cons _ (.cons _ (.cons _ (.cons _ (.cons _ (.cons _ (.cons _ (.cons _ (.cons _ (.cons _ (.cons _ .slnil))))))))))))))
   rw [if_neg (ne_true_of_eq_false hc)] at h
   refine uiX ?_
   refine zt <| ueG ?_
   refine pk [1,0,0,0,0,0,0,0,0,0,0,0] rfl <| uee fun sv64 => ?_
   refine udz rfl ?_
   refine p 1 [0,3,8,9,10,11,12,14,15,16,71] rfl <| yl 0 ((.snd (.snd (.snd (.fst .here))))) ty4 rfl rfl rfl trivial rfl <| za ?_
   refine ri_if (b := r63.2.2.2.2.2.1) rfl (fun hc => ?_) (fun hc => ?_)
   ·rw [if_pos hc] at h
    refine ueG ?_
    refine udz rfl ?_
    refine p 1 [0,3,8,9,10,11,12,14,15,73] rfl <| yl 6 .here ty3 rfl rfl rfl trivial rfl <| q 1 [(75, tb (x62 != o14.2))] [0,3,8,9,10,11,14,15] rfl <| st 5 .here ty4 rfl rfl rfl rfl trivial <| za <| uoP ?_
    refine e_ne rfl ?_
    refine uoQ (L2 := [Res.var b15 73 (.pair (.raw (.slice none 0 0)) (.pair (.int .i64) (.pair .bool (.pair .bool .unit)))) (sv64, r63.2.2.2.1, r63.2.2.2.2.1, r63.2.2.2.2.2.1, r63.2.2.2.2.2.2), Res.own sv64 9 .str r63.2.2.1, Res.cls (CLog p0) (.pointer (some ⟨b10, 0, none⟩)) r63.2.1, Res.disk Tryz.prog dI p0 a0, Res.var b57 33 (.raw (.pointer none)) (.pointer (some ⟨b10, 0, none⟩)), Res.var b16 4 .bool (x62 != o14.2), Res.var b12 3 (.int .i64) o14.2, Res.var b11 33 (.raw (.pointer none)) (.pointer (some ⟨b10, 0, none⟩)), Res.var b3 24 (.int .i64) 0, Res.own (.slice none 0 0) 9 .str [], Res.var b2 34 (.raw (.slice none 0 0)) (.slice none 0 0), Res.var b1 33 (.raw (.pointer none)) (.pointer none), Res.dfr D0, Res.dfr D1]) rfl ?_
    refine zq <| zt <| udh (x := r63.2.2) ?_
    exact pk [0,0,0,1,1,1,1,1,1,1,1,1] rfl <| uab [0,3,8,9,10,11,14,15] rfl <| uhW (r63.2.2, r63.2.1, (x62 != o14.2)) () h rfl rfl
   rw [if_neg (ne_true_of_eq_false hc)] at h
   refine uiX ?_
   refine zi <| udh (x := r63.2.2) ?_
   exact pk [0,2,2,0,1,1,0,0,0,0,0,0] rfl <| ulP (r63.2.2, r63.2.1) () h rfl
  simp only [uc6] at h
  refine r_asL (L2 := [Res.cls ucY (.pointer (some ⟨b15, 0, none⟩)) s60.1, Res.var b57 33 (.raw (.pointer none)) (.pointer (some ⟨b10, 0, none⟩)), Res.var b16 4 .bool false, Res.cls (CLog p0) (.pointer (some ⟨b10, 0, none⟩)) s60.2, Res.var b12 3 (.int .i64) o14.2, Res.var b11 33 (.raw (.pointer none)) (.pointer (some ⟨b10, 0, none⟩)), Res.disk Tryz.prog dI p0 a0, Res.var b3 24 (.int .i64) 0, Res.own (.slice none 0 0) 9 .str [], Res.var b2 34 (.raw (.slice none 0 0)) (.slice none 0 0), Res.var b1 33 (.raw (.pointer none)) (.pointer none), Res.dfr D0, Res.dfr D1]) rfl ?_
  exact zi <| zt <| pk [0,1,1,1,1,1,1,1,1,1,1,1] rfl <| uab [0,3,8,9,10,11,14,15] rfl <| pk [0,1,3,0,0,0,0,0,0,0,0,0] rfl <| uhW (s60.1, s60.2, false) () h rfl rfl
 intro D1 o18 gg h
 rw [← hk17] at h
 try dsimp only at h
 refine zs <| zs <| uee fun sv19 => ?_
 refine pk [2,0,0,0,0,0,0,0,0,0,0,0,0] rfl <| ubZ fun sv20 => ?_
 refine zr <| yl 5 .here ty4 rfl rfl rfl trivial rfl <| q 1 [(11, ptr b11 0), (14, ptr b15 0), (77, tb o18.2.2)] [0,3,8,9,10] rfl <| bX h fun k22 hk22 h => ?_
 refine ubh (γ := Unit) 17 (fun (o23 : Bool) _ => [(0, tp p0), (3, ti a3), (8, ptr b1 0), (9, ptr b2 0), (10, ptr b3 0), (11, ptr b11 0), (14, ptr b15 0), (94, tb o23)]) (fun _ _ => [Res.var b10 68 (.pair (.raw (.pointer none)) (.pair .str (.pair (.int .i64) (.pair (.raw (.slice none 0 0)) (.pair (.int .i64) (.pair .bool .unit)))))) (p0, o18.2.1.2.1, o18.2.1.2.2.1, sv20, o18.2.1.2.2.2.2.1, o18.2.1.2.2.2.2.2.1, o18.2.1.2.2.2.2.2.2), Res.own sv20 77 Y77 o18.2.1.2.2.2.1, Res.var b15 73 (.pair (.raw (.slice none 0 0)) (.pair (.int .i64) (.pair .bool (.pair .bool .unit)))) (sv19, o18.1.2.1, o18.1.2.2.1, o18.1.2.2.2.1, o18.1.2.2.2.2), Res.own sv19 9 .str o18.1.1, Res.disk Tryz.prog dI p0 a0, Res.var b16 4 .bool o18.2.2, Res.var b12 3 (.int .i64) o14.2, Res.var b11 33 (.raw (.pointer none)) (.pointer (some ⟨b10, 0, none⟩)), Res.var b3 24 (.int .i64) 0, Res.own (.slice none 0 0) 9 .str [], Res.var b2 34 (.raw (.slice none 0 0)) (.slice none 0 0), Res.var b1 33 (.raw (.pointer none)) (.pointer none), Res.dfr D0, Res.dfr D1]) k22 r ?_ ?_
 ·rcases Bool.eq_false_or_eq_true o18.2.2 with hh | hh
  ·rw [if_pos hh] at h
   refine uga 77 hh rfl ?_
   exact p 17 [0,3,8,9,10,11,14,94] rfl <| zn <| uab [0,3,8,9,10,11,14,94] rfl <| zt <| by exact uai true () h rfl rfl
  rw [if_neg (ne_true_of_eq_false hh)] at h
  refine uga 77 hh rfl ?_
  refine p 1 [0,3,8,9,10,11,14,77,78] rfl <| uaI (by rfl) rfl ?_
  refine yl 2 ((.snd (.snd (.fst .here)))) ty4 rfl rfl rfl trivial rfl <| q 1 [(80, tb o18.1.2.2.1)] [0,3,8,9,10,11,14,77] rfl <| bX h fun k25 hk25 h => ?_
  refine ubh (γ := Unit) 13 (fun (o26 : Bool) _ => [(0, tp p0), (3, ti a3), (8, ptr b1 0), (9, ptr b2 0), (10, ptr b3 0), (11, ptr b11 0), (14, ptr b15 0), (77, tb false), (93, tb o26)]) (fun _ _ => [Res.var b10 68 (.pair (.raw (.pointer none)) (.pair .str (.pair (.int .i64) (.pair (.raw (.slice none 0 0)) (.pair (.int .i64) (.pair .bool .unit)))))) (p0, o18.2.1.2.1, o18.2.1.2.2.1, sv20, o18.2.1.2.2.2.2.1, o18.2.1.2.2.2.2.2.1, o18.2.1.2.2.2.2.2.2), Res.own sv20 77 Y77 o18.2.1.2.2.2.1, Res.var b15 73 (.pair (.raw (.slice none 0 0)) (.pair (.int .i64) (.pair .bool (.pair .bool .unit)))) (sv19, o18.1.2.1, o18.1.2.2.1, o18.1.2.2.2.1, o18.1.2.2.2.2), Res.own sv19 9 .str o18.1.1, Res.disk Tryz.prog dI p0 a0, Res.var b16 4 .bool o18.2.2, Res.var b12 3 (.int .i64) o14.2, Res.var b11 33 (.raw (.pointer none)) (.pointer (some ⟨b10, 0, none⟩)), Res.var b3 24 (.int .i64) 0, Res.own (.slice none 0 0) 9 .str [], Res.var b2 34 (.raw (.slice none 0 0)) (.slice none 0 0), Res.var b1 33 (.raw (.pointer none)) (.pointer none), Res.dfr D0, Res.dfr D1]) k25 r ?_ ?_
  ·rcases Bool.eq_false_or_eq_true o18.1.2.2.1 with hh | hh
   ·rw [if_pos hh] at h
    refine uga 80 hh rfl ?_
    refine p 1 [0,3,8,9,10,11,14,77,80,81] rfl <| uaI (by rfl) rfl ?_
    refine yl 2 ((.snd (.fst .here))) ty2 rfl rfl rfl trivial rfl <| q 3 [(85, tb (decide (o18.1.2.1 > a3)))] [0,3,8,9,10,11,14,77,80] rfl ?_
    obtain ⟨b27, e, h⟩ := uao h; rw [e]
    refine uaG (γ := Unit) 7 (fun _ => [(0, tp p0), (3, ti a3), (8, ptr b1 0), (9, ptr b2 0), (10, ptr b3 0), (11, ptr b11 0), (14, ptr b15 0), (77, tb false), (80, tb true), (92, tb (b27 || (decide (o18.2.1.2.2.2.2.1 < a3))))]) (fun _ => [Res.var b10 68 (.pair (.raw (.pointer none)) (.pair .str (.pair (.int .i64) (.pair (.raw (.slice none 0 0)) (.pair (.int .i64) (.pair .bool .unit)))))) (p0, o18.2.1.2.1, o18.2.1.2.2.1, sv20, o18.2.1.2.2.2.2.1, o18.2.1.2.2.2.2.2.1, o18.2.1.2.2.2.2.2.2), Res.own sv20 77 Y77 o18.2.1.2.2.2.1, Res.var b15 73 (.pair (.raw (.slice none 0 0)) (.pair (.int .i64) (.pair .bool (.pair .bool .unit)))) (sv19, o18.1.2.1, o18.1.2.2.1, o18.1.2.2.2.1, o18.1.2.2.2.2), Res.own sv19 9 .str o18.1.1, Res.disk Tryz.prog dI p0 a0, Res.var b16 4 .bool o18.2.2, Res.var b12 3 (.int .i64) o14.2, Res.var b11 33 (.raw (.pointer none)) (.pointer (some ⟨b10, 0, none⟩)), Res.var b3 24 (.int .i64) 0, Res.own (.slice none 0 0) 9 .str [], Res.var b2 34 (.raw (.slice none 0 0)) (.slice none 0 0), Res.var b1 33 (.raw (.pointer none)) (.pointer none), Res.dfr D0, Res.dfr D1]) ?_ (fun _ => ?_)
    ·clear h
     cases b27
     ·refine uaI (by rfl) rfl ?_
      refine yl 7 .here ty33 rfl rfl rfl trivial rfl <| p 2 [0,3,8,9,10,11,14,77,80,85,88] rfl <| uaI (by rfl) rfl ?_
      exact yl 0 ((.snd (.snd (.snd (.snd (.fst .here)))))) ty2 rfl rfl rfl trivial rfl <| q 3 [(92, tb (decide (o18.2.1.2.2.2.2.1 < a3)))] [0,3,8,9,10,11,14,77,80] rfl <| uab [0,3,8,9,10,11,14,77,80,92] rfl <| za <| by exact uau () rfl rfl
     exact p 7 [0,3,8,9,10,11,14,77,80,92] rfl <| za <| by exact uau () rfl rfl
    exact q 1 [(93, tb (b27 || (decide (o18.2.1.2.2.2.2.1 < a3))))] [0,3,8,9,10,11,14,77] rfl <| zn <| uab [0,3,8,9,10,11,14,77,93] rfl <| zt <| by exact uai (b27 || (decide (o18.2.1.2.2.2.2.1 < a3))) () h rfl rfl
   rw [if_neg (ne_true_of_eq_false hh)] at h
   refine uga 80 hh rfl ?_
   exact p 13 [0,3,8,9,10,11,14,77,93] rfl <| zn <| uab [0,3,8,9,10,11,14,77,93] rfl <| zt <| by exact uai false () h rfl rfl
  intro o26 _ h
  rw [← hk25] at h
  try dsimp only at h
  exact p 1 [0,3,8,9,10,11,14,94] rfl <| zn <| uab [0,3,8,9,10,11,14,94] rfl <| zt <| by exact uai o26 () h rfl rfl
 intro o23 _ h
 rw [← hk22] at h
 try dsimp only at h
 refine za <| rI h rfl (fun hc h => ?_) fun hc h => ?_
 ·refine zu <| st 11 .here ty33 rfl rfl rfl rfl trivial <| ua1 (.slice none 0 0) rfl 9 .str ?_
  refine st 11 .here tx0 rfl rfl rfl rfl trivial <| st 9 .here ty24 rfl rfl rfl rfl trivial <| zf <| zT <| udu ?_
  refine m_pop [14] rfl ?_
  refine m_pop [13] rfl ?_
  refine m_ret ?_
  refine ueu (K := (CLog p0)) (x := ((), [], 0, [], 0, false, ())) (e := 1) (by decide) ?_
  refine pk [6,0,0,0,0,0,0,0,0,0,0,0,0,0] rfl ?_
  cases h
  exact ua2 (rs := [.cell 8 33, .cell 9 34, .cell 10 24]) rfl (.cons (.cell 13 .here rfl rfl (by first | rfl | (simp only [Pth.off, T.size]; omega)) uam ty33) (.cons (.cell 12 .here rfl rfl (by first | rfl | (simp only [Pth.off, T.size]; omega)) uam tx0) (.cons (.cell 10 .here rfl rfl (by first | rfl | (simp only [Pth.off, T.size]; omega)) uam ty24) (.nil)))) rfl (fun _ vs g => by cases g with | cons h0 g => cases g with | cons h1 g => cases g with | cons h2 g => cases g; exact ⟨_, rfl, .cons (ua5 h0) (.cons (ua5 h1) (.cons h2 (.nil)))⟩) (fun _ vs g => by cases g with | cons h0 g => cases g with | cons h1 g => cases g with | cons h2 g => cases g; rw [ubI h0]; rw [ubI h1]; exact (.cons_cons _ (.cons_cons _ (.cons_cons _ (.cons _ (.cons _ (.cons _ (.cons _ (.cons _ (.cons _ (.cons _ (.cons _ (.cons _ (.cons _ (.cons _ .slnil)))))))))))))))
 refine zk <| zt <| jK h (γ := Value) (fun (o29 : DiskS) g30 => [(0, tp p0), (3, ti a3), (8, ptr b1 0), (9, ptr b2 0), (10, ptr b3 0), (11, ptr b11 0), (14, ptr b15 0)]) (fun (o29 : DiskS) g30 => [Res.disk Tryz.prog dI p0 o29, Res.var b10 68 (.pair (.raw (.pointer none)) (.pair .str (.pair (.int .i64) (.pair (.raw (.slice none 0 0)) (.pair (.int .i64) (.pair .bool .unit)))))) (p0, o18.2.1.2.1, o18.2.1.2.2.1, g30, o18.2.1.2.2.2.2.1, o18.2.1.2.2.2.2.2.1, o18.2.1.2.2.2.2.2.2), Res.own g30 77 Y77 o18.2.1.2.2.2.1, Res.var b15 73 (.pair (.raw (.slice none 0 0)) (.pair (.int .i64) (.pair .bool (.pair .bool .unit)))) (sv19, o18.1.2.1, o18.1.2.2.1, o18.1.2.2.2.1, o18.1.2.2.2.2), Res.own sv19 9 .str o18.1.1, Res.var b16 4 .bool o18.2.2, Res.var b12 3 (.int .i64) o14.2, Res.var b11 33 (.raw (.pointer none)) (.pointer (some ⟨b10, 0, none⟩)), Res.var b3 24 (.int .i64) 0, Res.own (.slice none 0 0) 9 .str [], Res.var b2 34 (.raw (.slice none 0 0)) (.slice none 0 0), Res.var b1 33 (.raw (.pointer none)) (.pointer none), Res.dfr D0, Res.dfr D1]) (fun k28 h => ?_) fun o29 g30 h => ?_
 ·refine zu <| p 1 [0,3,8,9,10,11,14,95] rfl <| yl 2 ((.snd (.snd (.snd (.fst .here))))) ty4 rfl rfl rfl trivial rfl <| za <| rI h rfl (fun hc h => ?_) fun hc h => ?_
  ·refine zs ?_
   obtain ⟨hi50, h⟩ := ubo h
   refine ubD 1 rfl (by omega) fun b51 o52 c53 hv => ?_
   rw [hv]
   try clear hv
   refine ud3 (S := AllIs [OwnIs b51 o52 77 Y77 o18.2.1.2.2.2.1, VarIs b11 33 (.raw (.pointer none)) (.pointer (some ⟨b10, 0, none⟩)), VarIs b10 68 (.pair (.raw (.pointer none)) (.pair .str (.pair (.int .i64) (.pair (.raw (.slice none 0 0)) (.pair (.int .i64) (.pair .bool .unit)))))) (p0, o18.2.1.2.1, o18.2.1.2.2.1, (.slice (some ⟨b51, o52, none⟩) (List.length o18.2.1.2.2.2.1) c53), o18.2.1.2.2.2.2.1, o18.2.1.2.2.2.2.2.1, o18.2.1.2.2.2.2.2.2)]) (by kernel_rfl) ?_
   refine uap (i := 0) (t := ptr b10 0) (uaa (uaa (ua7 ua6))) rfl (by kernel_rfl) (by kernel_rfl) (by kernel_rfl) (uae (ubs 1 rfl (by omega)) (uae (uaj 7 rfl) (uae (uaj 0 rfl) uag))) (ubQ (S := fun w => AllIs [OwnIs b51 o52 77 Y77 o18.2.1.2.2.2.1, VarIs b11 33 (.raw (.pointer none)) (.pointer (some ⟨b10, 0, none⟩)), VarIs b10 68 (.pair (.raw (.pointer none)) (.pair .str (.pair (.int .i64) (.pair (.raw (.slice none 0 0)) (.pair (.int .i64) (.pair .bool .unit)))))) (p0, o18.2.1.2.1, o18.2.1.2.2.1, (.slice (some ⟨b51, o52, none⟩) (List.length o18.2.1.2.2.2.1) c53), o18.2.1.2.2.2.2.1, o18.2.1.2.2.2.2.2.1, o18.2.1.2.2.2.2.2.2)] w) (uba 1 rfl) 7 .here rfl rfl rfl (by first | rfl | (simp only [Pth.off, T.size]; omega)) uam ty33) rfl ?_
   refine uap (i := 1) (t := ptr b10 0) (uaa (uaa (ua7 ua6))) rfl (by kernel_rfl) (by kernel_rfl) (by kernel_rfl) (uae (ubs 1 rfl (by omega)) (uae (uaj 7 rfl) (uae (uaj 0 rfl) uag))) (uaf tabOk rfl) rfl ?_
   refine uap (i := 2) (t := ptr b10 3) (uaa (uaa (ua7 ua6))) rfl (by kernel_rfl) (by kernel_rfl) (by kernel_rfl) (uae (ubs 1 rfl (by omega)) (uae (uaj 7 rfl) (uae (uaj 0 rfl) uag))) (uaf tabOk rfl) rfl ?_
   refine uap (i := 3) (t := .one (.raw (.slice none 0 0)) (.slice (some ⟨b51, o52, none⟩) (List.length o18.2.1.2.2.2.1) c53)) (uaa (uaa (ua7 ua6))) rfl (by kernel_rfl) (by kernel_rfl) (by kernel_rfl) (uae (ubs 1 rfl (by omega)) (uae (uaj 7 rfl) (uae (uaj 0 rfl) uag))) (ubQ (S := fun w => AllIs [OwnIs b51 o52 77 Y77 o18.2.1.2.2.2.1, VarIs b11 33 (.raw (.pointer none)) (.pointer (some ⟨b10, 0, none⟩)), VarIs b10 68 (.pair (.raw (.pointer none)) (.pair .str (.pair (.int .i64) (.pair (.raw (.slice none 0 0)) (.pair (.int .i64) (.pair .bool .unit)))))) (p0, o18.2.1.2.1, o18.2.1.2.2.1, (.slice (some ⟨b51, o52, none⟩) (List.length o18.2.1.2.2.2.1) c53), o18.2.1.2.2.2.2.1, o18.2.1.2.2.2.2.2.1, o18.2.1.2.2.2.2.2.2)] w) (uba 2 rfl) 0 ((.snd (.snd (.snd (.fst .here))))) rfl rfl rfl (by first | rfl | (simp only [Pth.off, T.size]; omega)) (uaw (uaw (uaw (uaC uam)))) tx2) rfl ?_
   refine uap (i := 4) (t := ptr b10 0) (uaa (uaa (ua7 ua6))) rfl (by kernel_rfl) (by kernel_rfl) (by kernel_rfl) (uae (ubs 1 rfl (by omega)) (uae (uaj 7 rfl) (uae (uaj 0 rfl) uag))) (ubQ (S := fun w => AllIs [OwnIs b51 o52 77 Y77 o18.2.1.2.2.2.1, VarIs b11 33 (.raw (.pointer none)) (.pointer (some ⟨b10, 0, none⟩)), VarIs b10 68 (.pair (.raw (.pointer none)) (.pair .str (.pair (.int .i64) (.pair (.raw (.slice none 0 0)) (.pair (.int .i64) (.pair .bool .unit)))))) (p0, o18.2.1.2.1, o18.2.1.2.2.1, (.slice (some ⟨b51, o52, none⟩) (List.length o18.2.1.2.2.2.1) c53), o18.2.1.2.2.2.2.1, o18.2.1.2.2.2.2.2.1, o18.2.1.2.2.2.2.2.2)] w) (uba 1 rfl) 7 .here rfl rfl rfl (by first | rfl | (simp only [Pth.off, T.size]; omega)) uam ty33) rfl ?_
   refine uap (i := 5) (t := ptr b10 0) (uaa (uaa (ua7 ua6))) rfl (by kernel_rfl) (by kernel_rfl) (by kernel_rfl) (uae (ubs 1 rfl (by omega)) (uae (uaj 7 rfl) (uae (uaj 0 rfl) uag))) (uaf tabOk rfl) rfl ?_
   refine uap (i := 6) (t := ptr b10 3) (uaa (uaa (ua7 ua6))) rfl (by kernel_rfl) (by kernel_rfl) (by kernel_rfl) (uae (ubs 1 rfl (by omega)) (uae (uaj 7 rfl) (uae (uaj 0 rfl) uag))) (uaf tabOk rfl) rfl ?_
   refine uap (i := 7) (t := .one (.raw (.slice none 0 0)) (.slice (some ⟨b51, o52, none⟩) (List.length o18.2.1.2.2.2.1) c53)) (uaa (uaa (ua7 ua6))) rfl (by kernel_rfl) (by kernel_rfl) (by kernel_rfl) (uae (ubs 1 rfl (by omega)) (uae (uaj 7 rfl) (uae (uaj 0 rfl) uag))) (ubQ (S := fun w => AllIs [OwnIs b51 o52 77 Y77 o18.2.1.2.2.2.1, VarIs b11 33 (.raw (.pointer none)) (.pointer (some ⟨b10, 0, none⟩)), VarIs b10 68 (.pair (.raw (.pointer none)) (.pair .str (.pair (.int .i64) (.pair (.raw (.slice none 0 0)) (.pair (.int .i64) (.pair .bool .unit)))))) (p0, o18.2.1.2.1, o18.2.1.2.2.1, (.slice (some ⟨b51, o52, none⟩) (List.length o18.2.1.2.2.2.1) c53), o18.2.1.2.2.2.2.1, o18.2.1.2.2.2.2.2.1, o18.2.1.2.2.2.2.2.2)] w) (uba 2 rfl) 0 ((.snd (.snd (.snd (.fst .here))))) rfl rfl rfl (by first | rfl | (simp only [Pth.off, T.size]; omega)) (uaw (uaw (uaw (uaC uam)))) tx2) rfl ?_
   refine uap (i := 8) (t := ti (List.length o18.2.1.2.2.2.1 : Int)) (uaa (uaa (ua7 ua6))) rfl (by kernel_rfl) (by kernel_rfl) (by kernel_rfl) (uae (ubs 1 rfl (by omega)) (uae (uaj 7 rfl) (uae (uaj 0 rfl) uag))) (uaZ (t := Y77) tabOk 1 rfl rfl rfl) rfl ?_
   refine uap (i := 9) (t := ti (IntKind.wrap .i64 ((List.length o18.2.1.2.2.2.1 : Int) - 1))) (uaa (uaa (ua7 ua6))) rfl (by kernel_rfl) (by kernel_rfl) (by kernel_rfl) (uae (ubs 1 rfl (by omega)) (uae (uaj 7 rfl) (uae (uaj 0 rfl) uag))) (uaf tabOk rfl) rfl ?_
   refine uap (i := 10) (t := ptr b51 (o52 + (Int.toNat (IntKind.wrap .i64 ((List.length o18.2.1.2.2.2.1 : Int) - 1))) * 3)) (uaa (uaa (ua7 ua6))) rfl (by kernel_rfl) (by kernel_rfl) (by kernel_rfl) (uae (ubs 1 rfl (by omega)) (uae (uaj 7 rfl) (uae (uaj 0 rfl) uag))) (ucb tabOk rfl rfl hi50.1 hi50.2 rfl ty77) rfl ?_
   refine uap (i := 11) (t := .one Y77 (List.getD o18.2.1.2.2.2.1 (Int.toNat (IntKind.wrap .i64 ((List.length o18.2.1.2.2.2.1 : Int) - 1))) (0, 0, 0, ()))) (uaa (uaa (ua7 ua6))) rfl (by kernel_rfl) (by kernel_rfl) (by kernel_rfl) (uae (ubs 1 rfl (by omega)) (uae (uaj 7 rfl) (uae (uaj 0 rfl) uag))) (ujk (S := fun w => AllIs [OwnIs b51 o52 77 Y77 o18.2.1.2.2.2.1, VarIs b11 33 (.raw (.pointer none)) (.pointer (some ⟨b10, 0, none⟩)), VarIs b10 68 (.pair (.raw (.pointer none)) (.pair .str (.pair (.int .i64) (.pair (.raw (.slice none 0 0)) (.pair (.int .i64) (.pair .bool .unit)))))) (p0, o18.2.1.2.1, o18.2.1.2.2.1, (.slice (some ⟨b51, o52, none⟩) (List.length o18.2.1.2.2.2.1) c53), o18.2.1.2.2.2.2.1, o18.2.1.2.2.2.2.2.1, o18.2.1.2.2.2.2.2.2)] w) (uba 0 rfl) 1 (Int.toNat (IntKind.wrap .i64 ((List.length o18.2.1.2.2.2.1 : Int) - 1))) .here rfl rfl rfl (by omega) (by first | rfl | (simp only [Pth.off, T.size]; omega)) uam ty77) rfl ?_
   refine h_one (i := 12) (by kernel_rfl) rfl ?_
   refine ubK (t := Y77) rfl zf77 rfl fun b54 => za <| h_in (uae (ubs 2 rfl (by omega)) (uae (uaj 8 rfl) (uae (uaj 1 rfl) uag))) ?_
   refine uab [0,3,8,9,10,11,14,18,108] rfl <| h_one (i := 13) (by kernel_rfl) rfl ?_
   refine st 0 .here ty77 rfl rfl rfl rfl trivial <| za <| h_in (uae (ubs 2 rfl (by omega)) (uae (uaj 8 rfl) (uae (uaj 1 rfl) uag))) ?_
   refine uab [0,3,8,9,10,11,14,18] rfl <| h_end (by kernel_rfl) ?_
   refine zt <| zs <| ud3 (S := AllIs [VarIs b11 33 (.raw (.pointer none)) (.pointer (some ⟨b10, 0, none⟩)), VarIs b54 77 Y77 (List.getD o18.2.1.2.2.2.1 (Int.toNat (IntKind.wrap .i64 ((List.length o18.2.1.2.2.2.1 : Int) - 1))) (0, 0, 0, ()))]) (by kernel_rfl) ?_
   refine uap (i := 0) (t := tp p0) (uaa (uaa (ua7 ua6))) rfl (by kernel_rfl) (by kernel_rfl) (by kernel_rfl) (uae (uaj 8 rfl) (uae (uaj 0 rfl) uag)) (uaf tabOk rfl) rfl ?_
   refine uap (i := 1) (t := ptr b10 0) (uaa (uaa (ua7 ua6))) rfl (by kernel_rfl) (by kernel_rfl) (by kernel_rfl) (uae (uaj 8 rfl) (uae (uaj 0 rfl) uag)) (ubQ (S := fun w => AllIs [VarIs b11 33 (.raw (.pointer none)) (.pointer (some ⟨b10, 0, none⟩)), VarIs b54 77 Y77 (List.getD o18.2.1.2.2.2.1 (Int.toNat (IntKind.wrap .i64 ((List.length o18.2.1.2.2.2.1 : Int) - 1))) (0, 0, 0, ()))] w) (uba 0 rfl) 8 .here rfl rfl rfl (by first | rfl | (simp only [Pth.off, T.size]; omega)) uam ty33) rfl ?_
   refine uap (i := 2) (t := ptr b54 0) (uaa (uaa (ua7 ua6))) rfl (by kernel_rfl) (by kernel_rfl) (by kernel_rfl) (uae (uaj 8 rfl) (uae (uaj 0 rfl) uag)) (uaf tabOk rfl) rfl ?_
   refine uap (i := 3) (t := ti ((List.getD o18.2.1.2.2.2.1 (Int.toNat (IntKind.wrap .i64 ((List.length o18.2.1.2.2.2.1 : Int) - 1))) (0, 0, 0, ())).1)) (uaa (uaa (ua7 ua6))) rfl (by kernel_rfl) (by kernel_rfl) (by kernel_rfl) (uae (uaj 8 rfl) (uae (uaj 0 rfl) uag)) (ubQ (S := fun w => AllIs [VarIs b11 33 (.raw (.pointer none)) (.pointer (some ⟨b10, 0, none⟩)), VarIs b54 77 Y77 (List.getD o18.2.1.2.2.2.1 (Int.toNat (IntKind.wrap .i64 ((List.length o18.2.1.2.2.2.1 : Int) - 1))) (0, 0, 0, ()))] w) (uba 1 rfl) 0 ((.fst .here)) rfl rfl rfl (by first | rfl | (simp only [Pth.off, T.size]; omega)) (uaC uam) ty3) rfl ?_
   refine uap (i := 5) (t := ptr b54 1) (uaa (uaa (ua7 ua6))) rfl (by kernel_rfl) (by kernel_rfl) (by kernel_rfl) (uae (uaj 8 rfl) (uae (uaj 0 rfl) uag)) (uaf tabOk rfl) rfl ?_
   refine uap (i := 6) (t := ti ((List.getD o18.2.1.2.2.2.1 (Int.toNat (IntKind.wrap .i64 ((List.length o18.2.1.2.2.2.1 : Int) - 1))) (0, 0, 0, ())).2.1)) (uaa (uaa (ua7 ua6))) rfl (by kernel_rfl) (by kernel_rfl) (by kernel_rfl) (uae (uaj 8 rfl) (uae (uaj 0 rfl) uag)) (ubQ (S := fun w => AllIs [VarIs b11 33 (.raw (.pointer none)) (.pointer (some ⟨b10, 0, none⟩)), VarIs b54 77 Y77 (List.getD o18.2.1.2.2.2.1 (Int.toNat (IntKind.wrap .i64 ((List.length o18.2.1.2.2.2.1 : Int) - 1))) (0, 0, 0, ()))] w) (uba 1 rfl) 0 ((.snd (.fst .here))) rfl rfl rfl (by first | rfl | (simp only [Pth.off, T.size]; omega)) (uaw (uaC uam)) ty3) rfl ?_
   refine h_one (i := 4) (by kernel_rfl) rfl ?_
   refine cB h fun r55 hr55 h => rcTM hT (by rfl) [1] (uar _ _ _ o18.2.1 ((List.getD o18.2.1.2.2.2.1 (Int.toNat (IntKind.wrap .i64 ((List.length o18.2.1.2.2.2.1 : Int) - 1))) (0, 0, 0, ())).1) _ hr55) (by kernel_rfl) rfl rfl rfl fun _ => ?_
   refine za <| h_in (uae (uaj 8 rfl) (uae (uaj 1 rfl) uag)) ?_
   refine uab [0,3,8,9,10,11,14,109,113,115] rfl <| h_one (i := 7) (by kernel_rfl) rfl ?_
   refine cB h fun r56 hr56 h => rc [5] (uex _ _ _ _ _ hr56) (by kernel_rfl) rfl rfl rfl fun _ => za <| h_in (uae (uaj 8 rfl) (uae (uaj 2 rfl) uag)) ?_
   refine uab [0,3,8,9,10,11,14,116] rfl <| uap (i := 8) (t := ti r56.1) (uaa (uaa (ua7 ua6))) rfl (by kernel_rfl) (by kernel_rfl) (by kernel_rfl) (uae (uaj 8 rfl) (uae (uaj 2 rfl) uag)) (uaf tabOk rfl) rfl ?_
   refine h_end (by kernel_rfl) ?_
   refine zt <| zu <| q 2 [(19, ti r56.1), (118, tb (r56.1 != 0))] [0,3,8,9,10,11,14] rfl <| za <| rI h rfl (fun hc h => ?_) fun hc h => ?_
   ·refine zu <| q 1 [(119, ti r56.1)] [8,9,10] rfl <| st 12 .here ty33 rfl rfl rfl rfl trivial <| ua1 (.slice none 0 0) rfl 9 .str ?_
    refine st 12 .here tx0 rfl rfl rfl rfl trivial <| st 10 .here ty24 rfl rfl rfl rfl trivial <| zf <| zT <| udu ?_
    refine m_pop [15] rfl ?_
    refine m_pop [14] rfl ?_
    refine m_ret ?_
    refine ueu (K := (CLog p0)) (x := ((), [], 0, [], 0, false, ())) (e := 1) (by decide) ?_
    refine pk [2,0,0,0,0,0,0,0,0,0,0,0,0,0,0] rfl ?_
    cases h
    exact ua2 (rs := [.cell 8 33, .cell 9 34, .cell 10 24]) rfl (.cons (.cell 14 .here rfl rfl (by first | rfl | (simp only [Pth.off, T.size]; omega)) uam ty33) (.cons (.cell 13 .here rfl rfl (by first | rfl | (simp only [Pth.off, T.size]; omega)) uam tx0) (.cons (.cell 11 .here rfl rfl (by first | rfl | (simp only [Pth.off, T.size]; omega)) uam ty24) (.nil)))) rfl (fun _ vs g => by cases g with | cons h0 g => cases g with | cons h1 g => cases g with | cons h2 g => cases g; exact ⟨_, rfl, .cons (ua5 h0) (.cons (ua5 h1) (.cons h2 (.nil)))⟩) (fun _ vs g => by cases g with | cons h0 g => cases g with | cons h1 g => cases g with | cons h2 g => cases g; rw [ubI h0]; rw [ubI h1]; exact (.cons_cons _ (.cons_cons _ (.cons_cons _ (.cons _ (.cons _ (.cons _ (.cons _ (.cons _ (.cons _ (.cons _ (.cons _ (.cons _ (.cons _ (.cons _ (.cons _ .slnil))))))))))))))))
   exact zk <| zt <| pk [0,0,1,1,1,1,1,1,1,1,1,1,1,1] rfl <| uab [0,3,8,9,10,11,14] rfl <| by exact uai r56.2 (.slice (some ⟨b51, o52, none⟩) (List.length o18.2.1.2.2.2.1) c53) h rfl rfl
  exact zk <| zt <| uab [0,3,8,9,10,11,14] rfl <| pk [4,0,0,0,0,0,0,0,0,0,0,0,0,0] rfl <| by exact uai a0 sv20 h rfl rfl
 refine jK h (γ := Value) (fun (o32 : DiskS) g33 => [(3, ti a3), (8, ptr b1 0), (9, ptr b2 0), (10, ptr b3 0), (11, ptr b11 0), (14, ptr b15 0)]) (fun (o32 : DiskS) g33 => [Res.disk Tryz.prog dI p0 o32, Res.var b10 68 (.pair (.raw (.pointer none)) (.pair .str (.pair (.int .i64) (.pair (.raw (.slice none 0 0)) (.pair (.int .i64) (.pair .bool .unit)))))) (p0, o18.2.1.2.1, o18.2.1.2.2.1, g33, o18.2.1.2.2.2.2.1, o18.2.1.2.2.2.2.2.1, o18.2.1.2.2.2.2.2.2), Res.own g33 77 Y77 o18.2.1.2.2.2.1, Res.var b15 73 (.pair (.raw (.slice none 0 0)) (.pair (.int .i64) (.pair .bool (.pair .bool .unit)))) (sv19, o18.1.2.1, o18.1.2.2.1, o18.1.2.2.2.1, o18.1.2.2.2.2), Res.own sv19 9 .str o18.1.1, Res.var b16 4 .bool o18.2.2, Res.var b12 3 (.int .i64) o14.2, Res.var b11 33 (.raw (.pointer none)) (.pointer (some ⟨b10, 0, none⟩)), Res.var b3 24 (.int .i64) 0, Res.own (.slice none 0 0) 9 .str [], Res.var b2 34 (.raw (.slice none 0 0)) (.slice none 0 0), Res.var b1 33 (.raw (.pointer none)) (.pointer none), Res.dfr D0, Res.dfr D1]) (fun k31 h => ?_) fun o32 g33 h => ?_
 ·refine zu <| yl 7 .here ty33 rfl rfl rfl trivial rfl <| p 2 [0,3,8,9,10,11,14,122] rfl <| yl 1 ((.snd (.snd (.snd (.fst .here))))) tx2 rfl rfl rfl trivial rfl <| y (uaZ tabOk 2 rfl rfl rfl) rfl ?_
  refine q 1 [(123, .one (.raw (.slice none 0 0)) g30), (124, ti (List.length o18.2.1.2.2.2.1 : Int)), (125, ti 0)] [0,3,8,9,10,11,14] rfl <| za <| zb <| uab [0,3,8,9,10,11,14,123,124,125] rfl <| ubv (γ := Value) (fun (s41 : Int × DiskS) g42 => [(0, tp p0), (3, ti a3), (8, ptr b1 0), (9, ptr b2 0), (10, ptr b3 0), (11, ptr b11 0), (14, ptr b15 0), (123, .one (.raw (.slice none 0 0)) g42), (124, ti (List.length o18.2.1.2.2.2.1 : Int)), (125, ti s41.1)]) (fun (s41 : Int × DiskS) g42 => [Res.disk Tryz.prog dI p0 s41.2, Res.var b10 68 (.pair (.raw (.pointer none)) (.pair .str (.pair (.int .i64) (.pair (.raw (.slice none 0 0)) (.pair (.int .i64) (.pair .bool .unit)))))) (p0, o18.2.1.2.1, o18.2.1.2.2.1, g42, o18.2.1.2.2.2.2.1, o18.2.1.2.2.2.2.2.1, o18.2.1.2.2.2.2.2.2), Res.own g42 77 Y77 o18.2.1.2.2.2.1, Res.var b15 73 (.pair (.raw (.slice none 0 0)) (.pair (.int .i64) (.pair .bool (.pair .bool .unit)))) (sv19, o18.1.2.1, o18.1.2.2.1, o18.1.2.2.2.1, o18.1.2.2.2.2), Res.own sv19 9 .str o18.1.1, Res.var b16 4 .bool o18.2.2, Res.var b12 3 (.int .i64) o14.2, Res.var b11 33 (.raw (.pointer none)) (.pointer (some ⟨b10, 0, none⟩)), Res.var b3 24 (.int .i64) 0, Res.own (.slice none 0 0) 9 .str [], Res.var b2 34 (.raw (.slice none 0 0)) (.slice none 0 0), Res.var b1 33 (.raw (.pointer none)) (.pointer none), Res.dfr D0, Res.dfr D1]) (uc5 o18 k31) (0, o29) g30 h rfl rfl ?_
  clear h
  intro m43 s41 g42 h
  cases m43 with
  | zero => cases h
  | succ m43 =>
  simp only [uc5] at h
  refine zu <| q 1 [(123, .one (.raw (.slice none 0 0)) g42), (125, ti s41.1), (126, tb (decide (s41.1 < (List.length o18.2.1.2.2.2.1 : Int))))] [0,3,8,9,10,11,14,124] rfl <| za <| zs <| rI h rfl (fun hc h => ?_) fun hc h => ?_
  ·refine zk <| zt <| zs <| zb <| zu <| iE h fun hc h => ubD 2 rfl (by first | omega | (simp only [List.length_set] at hc ⊢; omega)) fun b44 o46 c45 hv => ?_
   rw [hv]
   try clear hv
   refine y (ucb tabOk rfl rfl hc.1 (by first | exact hc.2 | simpa using hc.2) rfl ty77) rfl ?_
   refine y (uco 2 (Int.toNat s41.1) .here rfl rfl (by first | omega | (simp only [List.length_set] at hc ⊢; omega)) (by first | rfl | (simp only [Pth.off, T.size]; omega)) uam ty77) rfl ?_
   refine ubK (t := Y77) rfl zf77 rfl fun b47 => st 0 .here ty77 rfl rfl rfl rfl trivial <| zz <| q 1 [(21, ptr b47 0), (123, .one (.raw (.slice none 0 0)) (.slice (some ⟨b44, o46, none⟩) (List.length o18.2.1.2.2.2.1) c45)), (129, tp p0)] [0,3,8,9,10,11,14,124,125] rfl <| yl 8 .here ty33 rfl rfl rfl trivial rfl <| p 1 [0,3,8,9,10,11,14,123,124,125,129,130,131] rfl <| yl 0 ((.fst .here)) ty3 rfl rfl rfl trivial rfl <| cB h fun r48 hr48 h => rcTM hT (by rfl) [2] (uar _ _ _ o18.2.1 ((List.getD o18.2.1.2.2.2.1 (Int.toNat s41.1) (0, 0, 0, ())).1) _ hr48) (by kernel_rfl) rfl rfl rfl fun _ => ?_
   refine cB h fun r49 hr49 h => rc [2] (uce _ _ _ _ hr49) (by kernel_rfl) rfl rfl rfl fun _ => q 1 [(22, ti r49.1)] [0,3,8,9,10,11,14,123,124,125] rfl <| zz <| q 2 [(136, tb (r49.1 != 0))] [0,3,8,9,10,11,14,22,123,124,125] rfl <| za <| rI h rfl (fun hc h => ?_) fun hc h => ?_
   ·refine zu <| q 1 [(137, ti r49.1)] [8,9,10] rfl <| st 12 .here ty33 rfl rfl rfl rfl trivial <| ua1 (.slice none 0 0) rfl 9 .str ?_
    refine st 12 .here tx0 rfl rfl rfl rfl trivial <| st 10 .here ty24 rfl rfl rfl rfl trivial <| zf <| zB <| zT <| zT <| zB <| zT <| udu ?_
    refine m_pop [15] rfl ?_
    refine m_pop [14] rfl ?_
    refine m_ret ?_
    refine ueu (K := (CLog p0)) (x := ((), [], 0, [], 0, false, ())) (e := 1) (by decide) ?_
    refine pk [2,0,0,0,0,0,0,0,0,0,0,0,0,0,0] rfl ?_
    cases h
    exact ua2 (rs := [.cell 8 33, .cell 9 34, .cell 10 24]) rfl (.cons (.cell 14 .here rfl rfl (by first | rfl | (simp only [Pth.off, T.size]; omega)) uam ty33) (.cons (.cell 13 .here rfl rfl (by first | rfl | (simp only [Pth.off, T.size]; omega)) uam tx0) (.cons (.cell 11 .here rfl rfl (by first | rfl | (simp only [Pth.off, T.size]; omega)) uam ty24) (.nil)))) rfl (fun _ vs g => by cases g with | cons h0 g => cases g with | cons h1 g => cases g with | cons h2 g => cases g; exact ⟨_, rfl, .cons (ua5 h0) (.cons (ua5 h1) (.cons h2 (.nil)))⟩) (fun _ vs g => by cases g with | cons h0 g => cases g with | cons h1 g => cases g with | cons h2 g => cases g; rw [ubI h0]; rw [ubI h1]; exact (.cons_cons _ (.cons_cons _ (.cons_cons _ (.cons _ (.cons _ (.cons _ (.cons _ (.cons _ (.cons _ (.cons _ (.cons _ (.cons _ (.cons _ (.cons _ (.cons _ .slnil))))))))))))))))
   exact zk <| zi <| zt <| zr <| q 2 [(125, ti (IntKind.wrap .i64 (s41.1 + 1)))] [0,3,8,9,10,11,14,123,124] rfl <| za <| pk [0,0,1,1,1,1,1,1,1,1,1,1,1,1] rfl <| uab [0,3,8,9,10,11,14,123,124,125] rfl <| by exact ubp ((IntKind.wrap .i64 (s41.1 + 1)), r49.2) (.slice (some ⟨b44, o46, none⟩) (List.length o18.2.1.2.2.2.1) c45) (Nat.lt_succ_self _) h rfl rfl
  exact zx <| ze <| ze <| zq <| zt <| uab [3,8,9,10,11,14] rfl <| by exact uai s41.2 g42 h rfl rfl
 refine jK h (γ := Unit) (fun (o35 : (List (List Int) × Int × Bool × Bool × Unit)) _ => [(8, ptr b1 0), (9, ptr b2 0), (10, ptr b3 0), (11, ptr b11 0), (14, ptr b15 0)]) (fun (o35 : (List (List Int) × Int × Bool × Bool × Unit)) _ => [Res.var b15 73 (.pair (.sl 9 .str) (.pair (.int .i64) (.pair .bool (.pair .bool .unit)))) o35, Res.disk Tryz.prog dI p0 o32, Res.var b10 68 (.pair (.raw (.pointer none)) (.pair .str (.pair (.int .i64) (.pair (.raw (.slice none 0 0)) (.pair (.int .i64) (.pair .bool .unit)))))) (p0, o18.2.1.2.1, o18.2.1.2.2.1, g33, o18.2.1.2.2.2.2.1, o18.2.1.2.2.2.2.2.1, o18.2.1.2.2.2.2.2.2), Res.own g33 77 Y77 o18.2.1.2.2.2.1, Res.var b16 4 .bool o18.2.2, Res.var b12 3 (.int .i64) o14.2, Res.var b11 33 (.raw (.pointer none)) (.pointer (some ⟨b10, 0, none⟩)), Res.var b3 24 (.int .i64) 0, Res.own (.slice none 0 0) 9 .str [], Res.var b2 34 (.raw (.slice none 0 0)) (.slice none 0 0), Res.var b1 33 (.raw (.pointer none)) (.pointer none), Res.dfr D0, Res.dfr D1]) (fun k34 h => ?_) fun o35 gg h => ?_
 ·refine zu <| p 1 [3,8,9,10,11,14,139] rfl <| yl 3 ((.snd (.snd (.fst .here)))) ty4 rfl rfl rfl trivial rfl <| za <| pk [4,3,0,0,0,0,0,0,0,0,0,0,0,0] rfl <| uld (t := .str) ((.fst .here)) rfl rfl ?_
  refine rI h rfl (fun hc h => ?_) fun hc h => ?_
  ·refine zr <| p 1 [3,8,9,10,11,14,141] rfl <| yl 0 ((.fst .here)) ty34 rfl rfl rfl trivial rfl <| q 2 [(142, .one (.sl 9 .str) o18.1.1), (143, ti a3), (144, ptr b15 1)] [8,9,10,11,14] rfl <| yl 0 ((.snd (.fst .here))) ty2 rfl rfl rfl trivial rfl <| q 1 [(146, ti (IntKind.wrap .i64 (a3 - o18.1.2.1)))] [8,9,10,11,14,142] rfl <| iE h fun hc h => y (uiP (i := (IntKind.wrap .i64 (a3 - o18.1.2.1))) (j := (List.length o18.1.1 : Int)) tabOk rfl rfl rfl hc.1 hc.2.1 hc.2.2 rfl ty9) rfl ?_
   exact q 1 [(147, .one (.sl 9 .str) (List.drop (Int.toNat (IntKind.wrap .i64 (a3 - o18.1.2.1))) (List.take (Int.toNat (List.length o18.1.1 : Int)) o18.1.1))), (148, ptr b15 0)] [8,9,10,11,14] rfl <| st 0 ((.fst .here)) ty34 rfl rfl rfl rfl trivial <| za <| uab [8,9,10,11,14] rfl <| by exact uai ((List.drop (Int.toNat (IntKind.wrap .i64 (a3 - o18.1.2.1))) (List.take (Int.toNat (List.length o18.1.1 : Int)) o18.1.1)), o18.1.2.1, o18.1.2.2.1, o18.1.2.2.2.1, o18.1.2.2.2.2) () h rfl rfl
  exact zk <| zt <| uab [8,9,10,11,14] rfl <| by exact uai (o18.1.1, o18.1.2.1, o18.1.2.2.1, o18.1.2.2.2.1, o18.1.2.2.2.2) () h rfl rfl
 refine zs <| r_any (by kernel_rfl) ?_
 refine uah (i := 1) (t := ptr b15 0) (uaa (ua7 ua6)) rfl (by kernel_rfl) (by kernel_rfl) (by kernel_rfl) (uaf tabOk rfl) rfl ?_
 refine a_two (i := 0) (j := 2) (by kernel_rfl) rfl rfl ?_ ?_
 ·refine yl 6 .here ty33 rfl rfl rfl trivial rfl <| za <| uab [8,9,10,149,150] rfl <| a_one (i := 2) (by kernel_rfl) rfl ?_
  refine yl 0 ((.fst .here)) ty34 rfl rfl rfl trivial rfl <| za <| uab [8,9,10,149,151] rfl <| a_one (i := 3) (by kernel_rfl) rfl ?_
  refine cB h fun r36 hr36 h => rc [] (ucD _ _ hr36) (by kernel_rfl) rfl rfl rfl fun v37 => za <| uab [8,9,10,149,152] rfl <| a_one (i := 4) (by kernel_rfl) rfl ?_
  refine st 11 .here ty33 rfl rfl rfl rfl trivial <| za <| uab [8,9,10,152] rfl <| a_one (i := 5) (by kernel_rfl) rfl ?_
  refine st 10 .here tx0 rfl rfl rfl rfl trivial <| za <| uab [8,9,10] rfl <| a_one (i := 6) (by kernel_rfl) rfl ?_
  refine st 8 .here ty24 rfl rfl rfl rfl trivial <| za <| uab [8,9,10] rfl <| a_end (by kernel_rfl) ?_
  refine zt <| zR <| udu ?_
  refine m_pop [13] rfl ?_
  refine m_pop [12] rfl ?_
  refine m_ret ?_
  refine pk [3,3,0,0,0,0,0,0,0,0,0,0] rfl <| uaK (x := o18.2.1) (q := p0) ?_
  refine uay (R' := Res.clsif (CLog p0) (.pointer (some ⟨b10, 0, none⟩)) o18.2.1 0) 0 rfl (ucB rfl) <| pk [3,0,0,0,0,0,0,0,0,0,0] rfl ?_
  cases h
  exact ua2 (rs := [.cell 8 33, .cell 9 34, .cell 10 24]) rfl (.cons (.cell 10 .here rfl rfl (by first | rfl | (simp only [Pth.off, T.size]; omega)) uam ty33) (.cons (.cell 9 .here rfl rfl (by first | rfl | (simp only [Pth.off, T.size]; omega)) uam tx0) (.cons (.cell 7 .here rfl rfl (by first | rfl | (simp only [Pth.off, T.size]; omega)) uam ty24) (.nil)))) rfl (fun _ vs g => by cases g with | cons h0 g => cases g with | cons h1 g => cases g with | cons h2 g => cases g; exact ⟨_, rfl, .cons (ua5 h0) (.cons (ua5 h1) (.cons h2 (.nil)))⟩) (fun _ vs g => by cases g with | cons h0 g => cases g with | cons h1 g => cases g with | cons h2 g => cases g; rw [ubI h0]; rw [ubI h1]; exact (.cons_cons _ (.cons_cons _ (.cons_cons _ (.cons _ (.cons _ (.cons _ (.cons _ (.cons _ (.cons _ (.cons _ (.cons _ .slnil))))))))))))
 refine yl 0 ((.fst .here)) ty34 rfl rfl rfl trivial rfl <| za <| uab [8,9,10,11,151] rfl ?_
 refine a_two (i := 0) (j := 3) (by kernel_rfl) rfl rfl ?_ ?_
 ·refine yl 6 .here ty33 rfl rfl rfl trivial rfl <| za <| uab [8,9,10,149,151] rfl <| a_one (i := 3) (by kernel_rfl) rfl ?_
  refine cB h fun r36 hr36 h => rc [] (ucD _ _ hr36) (by kernel_rfl) rfl rfl rfl fun v37 => za <| uab [8,9,10,149,152] rfl <| a_one (i := 4) (by kernel_rfl) rfl ?_
  refine st 11 .here ty33 rfl rfl rfl rfl trivial <| za <| uab [8,9,10,152] rfl <| a_one (i := 5) (by kernel_rfl) rfl ?_
  refine st 10 .here tx0 rfl rfl rfl rfl trivial <| za <| uab [8,9,10] rfl <| a_one (i := 6) (by kernel_rfl) rfl ?_
  refine st 8 .here ty24 rfl rfl rfl rfl trivial <| za <| uab [8,9,10] rfl <| a_end (by kernel_rfl) ?_
  refine zt <| zR <| udu ?_
  refine m_pop [13] rfl ?_
  refine m_pop [12] rfl ?_
  refine m_ret ?_
  refine pk [3,3,0,0,0,0,0,0,0,0,0,0] rfl <| uaK (x := o18.2.1) (q := p0) ?_
  refine uay (R' := Res.clsif (CLog p0) (.pointer (some ⟨b10, 0, none⟩)) o18.2.1 0) 0 rfl (ucB rfl) <| pk [3,0,0,0,0,0,0,0,0,0,0] rfl ?_
  cases h
  exact ua2 (rs := [.cell 8 33, .cell 9 34, .cell 10 24]) rfl (.cons (.cell 10 .here rfl rfl (by first | rfl | (simp only [Pth.off, T.size]; omega)) uam ty33) (.cons (.cell 9 .here rfl rfl (by first | rfl | (simp only [Pth.off, T.size]; omega)) uam tx0) (.cons (.cell 7 .here rfl rfl (by first | rfl | (simp only [Pth.off, T.size]; omega)) uam ty24) (.nil)))) rfl (fun _ vs g => by cases g with | cons h0 g => cases g with | cons h1 g => cases g with | cons h2 g => cases g; exact ⟨_, rfl, .cons (ua5 h0) (.cons (ua5 h1) (.cons h2 (.nil)))⟩) (fun _ vs g => by cases g with | cons h0 g => cases g with | cons h1 g => cases g with | cons h2 g => cases g; rw [ubI h0]; rw [ubI h1]; exact (.cons_cons _ (.cons_cons _ (.cons_cons _ (.cons _ (.cons _ (.cons _ (.cons _ (.cons _ (.cons _ (.cons _ (.cons _ .slnil))))))))))))
 refine cB h fun r36 hr36 h => rc [] (ucD _ _ hr36) (by kernel_rfl) rfl rfl rfl fun v37 => za <| uab [8,9,10,11,152] rfl <| a_one (i := 0) (by kernel_rfl) rfl ?_
 refine yl 7 .here ty33 rfl rfl rfl trivial rfl <| za <| uab [8,9,10,149,152] rfl <| a_one (i := 4) (by kernel_rfl) rfl ?_
 refine st 11 .here ty33 rfl rfl rfl rfl trivial <| za <| uab [8,9,10,152] rfl <| a_one (i := 5) (by kernel_rfl) rfl ?_
 refine st 10 .here tx0 rfl rfl rfl rfl trivial <| za <| uab [8,9,10] rfl <| a_one (i := 6) (by kernel_rfl) rfl ?_
 refine st 8 .here ty24 rfl rfl rfl rfl trivial <| za <| uab [8,9,10] rfl <| a_end (by kernel_rfl) ?_
 refine zt <| zR <| udu ?_
 refine m_pop [13] rfl ?_
 refine m_pop [12] rfl ?_
 refine m_ret ?_
 refine pk [3,3,0,0,0,0,0,0,0,0,0,0] rfl <| uaK (x := o18.2.1) (q := p0) ?_
 refine uay (R' := Res.clsif (CLog p0) (.pointer (some ⟨b10, 0, none⟩)) o18.2.1 0) 0 rfl (ucB rfl) <| pk [3,0,0,0,0,0,0,0,0,0,0] rfl ?_
 cases h
 exact ua2 (rs := [.cell 8 33, .cell 9 34, .cell 10 24]) rfl (.cons (.cell 10 .here rfl rfl (by first | rfl | (simp only [Pth.off, T.size]; omega)) uam ty33) (.cons (.cell 9 .here rfl rfl (by first | rfl | (simp only [Pth.off, T.size]; omega)) uam tx0) (.cons (.cell 7 .here rfl rfl (by first | rfl | (simp only [Pth.off, T.size]; omega)) uam ty24) (.nil)))) rfl (fun _ vs g => by cases g with | cons h0 g => cases g with | cons h1 g => cases g with | cons h2 g => cases g; exact ⟨_, rfl, .cons (ua5 h0) (.cons (ua5 h1) (.cons h2 (.nil)))⟩) (fun _ vs g => by cases g with | cons h0 g => cases g with | cons h1 g => cases g with | cons h2 g => cases g; rw [ubI h0]; rw [ubI h1]; exact (.cons_cons _ (.cons_cons _ (.cons_cons _ (.cons _ (.cons _ (.cons _ (.cons _ (.cons _ (.cons _ (.cons _ (.cons _ .slnil))))))))))))

end Sx
