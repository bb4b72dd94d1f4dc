/-
  Own work, printed by a program of the same hand. Each function of the code answers what its plain twin reckons.
-/
import Derived.Test.YtammhjkpdepohaaProg
import Derived.Test.YtammhjkpdepohaaDefs
import Derived.Test.YtammhjkpdepohaaComm
import Derived.Test.YtammhjkpdepohaaLib2
import Derived.Test.YtammhjkpdepohaaShelfD
import Derived.Test.YtammhjkpdepohaaShelfP
import Derived.Test.YtammhjkpdepohaaLib3
import Derived.KernelRfl
namespace Sx
open Go Go.Proofs
set_option maxRecDepth 10000
set_option maxHeartbeats 1000000
attribute [local irreducible] wpList

abbrev Y67 : T := (.arr 2 (.pair (.int .i64) (.pair .bool .unit)))
abbrev Y110 : T := (.pair .str (.pair (.int .i64) (.pair (.int .i64) (.pair .str .unit))))
abbrev Y49 : T := (.pair (.int .i64) (.pair .bool (.pair (.int .i64) (.pair .str (.pair (.sl 110 Y110) .unit)))))
theorem ty2 : tyChk Try.prog (.int .i64) 2 = true := by kernel_rfl
theorem ty3 : tyChk Try.prog (.int .i64) 3 = true := by kernel_rfl
theorem ty4 : tyChk Try.prog .bool 4 = true := by kernel_rfl
theorem ty5 : tyChk Try.prog (.int .u8) 5 = true := by kernel_rfl
theorem ty9 : tyChk Try.prog .str 9 = true := by kernel_rfl
theorem ty24 : tyChk Try.prog (.raw (.pointer none)) 24 = true := by kernel_rfl
theorem ty25 : tyChk Try.prog (.int .i64) 25 = true := by kernel_rfl
theorem ty28 : tyChk Try.prog (.raw (.pointer none)) 28 = true := by kernel_rfl
theorem ty42 : tyChk Try.prog (.raw (.pointer none)) 42 = true := by kernel_rfl
theorem ty47 : tyChk Try.prog (.sl 110 Y110) 47 = true := by kernel_rfl
theorem ty49 : tyChk Try.prog Y49 49 = true := by kernel_rfl
theorem ty62 : tyChk Try.prog (.raw (.map none)) 62 = true := by kernel_rfl
theorem ty66 : tyChk Try.prog (.pair (.int .i64) (.pair .bool .unit)) 66 = true := by kernel_rfl
theorem ty74 : tyChk Try.prog (.int .u32) 74 = true := by kernel_rfl
theorem ty80 : tyChk Try.prog (.raw (.map none)) 80 = true := by kernel_rfl
theorem ty110 : tyChk Try.prog Y110 110 = true := by kernel_rfl
theorem ty131 : tyChk Try.prog (.arr 16 (.int .u32)) 131 = true := by kernel_rfl
theorem tx0 : tyChk Try.prog (.raw (.slice none 0 0)) 72 = true := by kernel_rfl
theorem tx1 : tyChk Try.prog (.raw (.slice none 0 0)) 43 = true := by kernel_rfl
theorem tx2 : tyChk Try.prog (.arr 2 (.raw (.pointer none))) 46 = true := by kernel_rfl
theorem zf3 : (Try.prog.info? 3).bind (·.zero) = some (mk (.int .i64) (zc (.int .i64))) := by kernel_rfl
theorem zf5 : (Try.prog.info? 5).bind (·.zero) = some (mk (.int .u8) (zc (.int .u8))) := by kernel_rfl
theorem zf45 : (Try.prog.info? 45).bind (·.zero) = some (mk (.pair (.raw (.pointer none)) (.pair (.int .i64) (.pair (.raw (.slice none 0 0)) .unit))) (zc (.pair (.raw (.pointer none)) (.pair (.int .i64) (.pair (.raw (.slice none 0 0)) .unit))))) := by kernel_rfl
theorem zf46 : (Try.prog.info? 46).bind (·.zero) = some (mk (.arr 2 (.raw (.pointer none))) (zc (.arr 2 (.raw (.pointer none))))) := by kernel_rfl
theorem zf49 : (Try.prog.info? 49).bind (·.zero) = some (mk Y49 (zc Y49)) := by kernel_rfl
theorem zf64 : (Try.prog.info? 64).bind (·.zero) = some (mk DT (zc DT)) := by kernel_rfl
theorem zf66 : (Try.prog.info? 66).bind (·.zero) = some (mk (.pair (.int .i64) (.pair .bool .unit)) (zc (.pair (.int .i64) (.pair .bool .unit)))) := by kernel_rfl
theorem zf67 : (Try.prog.info? 67).bind (·.zero) = some (mk Y67 (zc Y67)) := by kernel_rfl
theorem zf70 : (Try.prog.info? 70).bind (·.zero) = some (mk (.pair (.raw (.pointer none)) (.pair .str (.pair (.int .i64) (.pair (.int .i64) .unit)))) (zc (.pair (.raw (.pointer none)) (.pair .str (.pair (.int .i64) (.pair (.int .i64) .unit)))))) := by kernel_rfl
theorem zf82 : (Try.prog.info? 82).bind (·.zero) = some (mk FT (zc FT)) := by kernel_rfl
theorem zf110 : (Try.prog.info? 110).bind (·.zero) = some (mk Y110 (zc Y110)) := by kernel_rfl
theorem zf127 : (Try.prog.info? 127).bind (·.zero) = some (mk (.pair .str (.pair (.int .i64) .unit)) (zc (.pair .str (.pair (.int .i64) .unit)))) := by kernel_rfl
theorem zf131 : (Try.prog.info? 131).bind (·.zero) = some (mk (.arr 16 (.int .u32)) (zc (.arr 16 (.int .u32)))) := by kernel_rfl
theorem zf134 : (Try.prog.info? 134).bind (·.zero) = some (mk (.pair (.raw (.slice none 0 0)) (.pair (.int .i64) .unit)) (zc (.pair (.raw (.slice none 0 0)) (.pair (.int .i64) .unit)))) := by kernel_rfl
theorem el2 : elemChk Try.prog (.int .i64) 2 8 = true := by kernel_rfl
theorem el5 : elemChk Try.prog (.int .u8) 5 1 = true := by kernel_rfl
theorem el9 : elemChk Try.prog .str 9 16 = true := by kernel_rfl
theorem un46 : Try.prog.underlying 46 = some (.array 2 42) := Try.underlying46
theorem un67 : Try.prog.underlying 67 = some (.array 2 66) := Try.underlying67
theorem un131 : Try.prog.underlying 131 = some (.array 16 74) := Try.underlying131
def CMark (q : Value) : Kind := ⟨Unit × List Int × Int × Int × Unit, Unit, fun b _ x => [Res.var b 70 (.pair (.raw (.pointer none)) (.pair .str (.pair (.int .i64) (.pair (.int .i64) .unit)))) (q, x.2.1, x.2.2.1, x.2.2.2.1, x.2.2.2.2)]⟩
theorem r_unCMark {F : Fr} {n : Nat} {E : Env} {L : List Res} {X : Act → World → Prop} {q : Value} {p : Value} {x : Unit × List Int × Int × Int × Unit} (g : ∀ b, p = .pointer (some ⟨b, 0, none⟩) → Go F n E (Res.var b 70 (.pair (.raw (.pointer none)) (.pair .str (.pair (.int .i64) (.pair (.int .i64) .unit)))) (q, x.2.1, x.2.2.1, x.2.2.2.1, x.2.2.2.2) :: L) X) : Go F n E (Res.cls (CMark q) p x :: L) X := r_uncls (K := (CMark q)) fun b _ h => g b h
theorem r_unCMarkb {F : Fr} {n : Nat} {E : Env} {L : List Res} {X : Act → World → Prop} {q : Value} {b : Nat} {x : Unit × List Int × Int × Int × Unit} (g : Go F n E (Res.var b 70 (.pair (.raw (.pointer none)) (.pair .str (.pair (.int .i64) (.pair (.int .i64) .unit)))) (q, x.2.1, x.2.2.1, x.2.2.2.1, x.2.2.2.2) :: L) X) : Go F n E (Res.cls (CMark q) (.pointer (some ⟨b, 0, none⟩)) x :: L) X := r_unclsb (K := (CMark q)) fun _ => g
theorem r_CMark {F : Fr} {n : Nat} {E : Env} {L : List Res} {X : Act → World → Prop} {q : Value} {b : Nat} {x : Unit × List Int × Int × Int × Unit} (g : Go F n E (Res.cls (CMark q) (.pointer (some ⟨b, 0, none⟩)) x :: L) X) : Go F n E (Res.var b 70 (.pair (.raw (.pointer none)) (.pair .str (.pair (.int .i64) (.pair (.int .i64) .unit)))) (q, x.2.1, x.2.2.1, x.2.2.2.1, x.2.2.2.2) :: L) X := r_cls (K := (CMark q)) (s := ()) g
def CWriter : Kind := ⟨List (Int) × Int × Unit, Value, fun b s x => [Res.var b 134 (.pair (.raw (.slice none 0 0)) (.pair (.int .i64) .unit)) (s, x.2.1, x.2.2), Res.own s 5 (.int .u8) x.1]⟩
theorem r_unCWriter {F : Fr} {n : Nat} {E : Env} {L : List Res} {X : Act → World → Prop} {p : Value} {x : List (Int) × Int × Unit} (g : ∀ b v0, p = .pointer (some ⟨b, 0, none⟩) → Go F n E (Res.var b 134 (.pair (.raw (.slice none 0 0)) (.pair (.int .i64) .unit)) (v0, x.2.1, x.2.2) :: Res.own v0 5 (.int .u8) x.1 :: L) X) : Go F n E (Res.cls CWriter p x :: L) X := r_uncls (K := CWriter) fun b v0 h => g b v0 h
theorem r_unCWriterb {F : Fr} {n : Nat} {E : Env} {L : List Res} {X : Act → World → Prop} {b : Nat} {x : List (Int) × Int × Unit} (g : ∀ v0, Go F n E (Res.var b 134 (.pair (.raw (.slice none 0 0)) (.pair (.int .i64) .unit)) (v0, x.2.1, x.2.2) :: Res.own v0 5 (.int .u8) x.1 :: L) X) : Go F n E (Res.cls CWriter (.pointer (some ⟨b, 0, none⟩)) x :: L) X := r_unclsb (K := CWriter) fun v0 => g v0
theorem r_CWriter {F : Fr} {n : Nat} {E : Env} {L : List Res} {X : Act → World → Prop} {b : Nat} {v0 : Value} {x : List (Int) × Int × Unit} (g : Go F n E (Res.cls CWriter (.pointer (some ⟨b, 0, none⟩)) x :: L) X) : Go F n E (Res.var b 134 (.pair (.raw (.slice none 0 0)) (.pair (.int .i64) .unit)) (v0, x.2.1, x.2.2) :: Res.own v0 5 (.int .u8) x.1 :: L) X := r_cls (K := CWriter) (s := v0) g
def CReader : Kind := ⟨List Int × Int × Unit, Unit, fun b _ x => [Res.var b 127 (.pair .str (.pair (.int .i64) .unit)) (x.1, x.2.1, x.2.2)]⟩
theorem r_unCReader {F : Fr} {n : Nat} {E : Env} {L : List Res} {X : Act → World → Prop} {p : Value} {x : List Int × Int × Unit} (g : ∀ b, p = .pointer (some ⟨b, 0, none⟩) → Go F n E (Res.var b 127 (.pair .str (.pair (.int .i64) .unit)) (x.1, x.2.1, x.2.2) :: L) X) : Go F n E (Res.cls CReader p x :: L) X := r_uncls (K := CReader) fun b _ h => g b h
theorem r_CReader {F : Fr} {n : Nat} {E : Env} {L : List Res} {X : Act → World → Prop} {b : Nat} {x : List Int × Int × Unit} (g : Go F n E (Res.cls CReader (.pointer (some ⟨b, 0, none⟩)) x :: L) X) : Go F n E (Res.var b 127 (.pair .str (.pair (.int .i64) .unit)) (x.1, x.2.1, x.2.2) :: L) X := r_cls (K := CReader) (s := ()) g
def CTale (q : Value) : Kind := ⟨(Int × Unit × List Int × Int × Int × Unit) × Int × List (Int) × Unit, Value × Value, fun b s x => [Res.var b 45 (.pair (.raw (.pointer none)) (.pair (.int .i64) (.pair (.raw (.slice none 0 0)) .unit))) (s.1, x.2.1, s.2, x.2.2.2), Res.clsif (CMark q) s.1 x.1.2 x.1.1, Res.own s.2 2 (.int .i64) x.2.2.1]⟩
theorem r_unCTale {F : Fr} {n : Nat} {E : Env} {L : List Res} {X : Act → World → Prop} {q : Value} {p : Value} {x : (Int × Unit × List Int × Int × Int × Unit) × Int × List (Int) × Unit} (g : ∀ b v0 v1, p = .pointer (some ⟨b, 0, none⟩) → Go F n E (Res.var b 45 (.pair (.raw (.pointer none)) (.pair (.int .i64) (.pair (.raw (.slice none 0 0)) .unit))) (v0, x.2.1, v1, x.2.2.2) :: Res.clsif (CMark q) v0 x.1.2 x.1.1 :: Res.own v1 2 (.int .i64) x.2.2.1 :: L) X) : Go F n E (Res.cls (CTale q) p x :: L) X := r_uncls (K := (CTale q)) fun b ⟨v0, v1⟩ h => g b v0 v1 h
theorem r_unCTaleb {F : Fr} {n : Nat} {E : Env} {L : List Res} {X : Act → World → Prop} {q : Value} {b : Nat} {x : (Int × Unit × List Int × Int × Int × Unit) × Int × List (Int) × Unit} (g : ∀ v0 v1, Go F n E (Res.var b 45 (.pair (.raw (.pointer none)) (.pair (.int .i64) (.pair (.raw (.slice none 0 0)) .unit))) (v0, x.2.1, v1, x.2.2.2) :: Res.clsif (CMark q) v0 x.1.2 x.1.1 :: Res.own v1 2 (.int .i64) x.2.2.1 :: L) X) : Go F n E (Res.cls (CTale q) (.pointer (some ⟨b, 0, none⟩)) x :: L) X := r_unclsb (K := (CTale q)) fun ⟨v0, v1⟩ => g v0 v1
theorem r_CTale {F : Fr} {n : Nat} {E : Env} {L : List Res} {X : Act → World → Prop} {q : Value} {b : Nat} {v0 v1 : Value} {x : (Int × Unit × List Int × Int × Int × Unit) × Int × List (Int) × Unit} (g : Go F n E (Res.cls (CTale q) (.pointer (some ⟨b, 0, none⟩)) x :: L) X) : Go F n E (Res.var b 45 (.pair (.raw (.pointer none)) (.pair (.int .i64) (.pair (.raw (.slice none 0 0)) .unit))) (v0, x.2.1, v1, x.2.2.2) :: Res.clsif (CMark q) v0 x.1.2 x.1.1 :: Res.own v1 2 (.int .i64) x.2.2.1 :: L) X := r_cls (K := (CTale q)) (s := (v0, v1)) g
@[reducible] def dI : DI := ⟨64, 82, 9, 3, 5⟩
theorem kstr : ktChk Try.prog .str dI.str = true := by kernel_rfl
theorem kint : ktChk Try.prog (.int .i64) dI.int = true := by kernel_rfl
theorem zNV : (Try.prog.info? 77).bind (·.zero) = some NV := by kernel_rfl
theorem ktc3 : ktChk Try.prog (.int .i64) 3 = true := by kernel_rfl
def tab : Tab := { ints := [(2, .i64), (3, .i64), (5, .u8), (33, .u16), (73, .u64), (74, .u32), (128, .u64)], strs := [(9, ())], slices := [(22, 33), (38, 3), (41, 49), (43, 2), (47, 110), (60, 9), (72, 5)], arrs := [], offs := [(45, [0, 1, 2]), (49, [0, 1, 2, 3, 4]), (64, [0, 1, 2, 3, 4, 5, 6]), (66, [0, 1]), (70, [0, 1, 2, 3]), (82, [0, 1, 2]), (110, [0, 1, 2, 3]), (127, [0, 1]), (134, [0, 1])] }
theorem tabOk : tab.chk Try.prog = true := by kernel_rfl
theorem p {F : Fr} {n : Nat} {E E0 : Env} {L : List Res} {ops : Array Oper} {Q : Exit → Act → World → Prop} {l : List Oper} (k : Nat) (keys : List Nat) (h : seg tab n ops (l.take k) E keys = some E0) (g : Go F n E0 L (wpList Try.prog ops Q (l.drop k))) : Go F n E L (wpList Try.prog ops Q l) := r_pure tabOk k keys h g
theorem q {F : Fr} {n : Nat} {E E0 : Env} {L : List Res} {ops : Array Oper} {Q : Exit → Act → World → Prop} {l : List Oper} (k : Nat) (new : Env) (keys : List Nat) (h : seg2 tab n ops (l.take k) E (new.map (·.1)) keys = some (new, E0)) (g : Go F n (new ++ E0) L (wpList Try.prog ops Q (l.drop k))) : Go F n E L (wpList Try.prog ops Q l) := r_pure2 tabOk k h g
theorem disk_New_ok (a0 : Int) (r : Int × DiskS) (h : disk_New a0 = some r) : Fn Try.prog 6 [ti a0] [] (fun v => .tup [⟨.raw NV, tupv v 0⟩, ⟨(.int .i64), r.1⟩]) (fun v => [Res.diskif Try.prog dI (tupv v 0) r.2 r.1]) := by
 unfold disk_New at h
 refine enter Try.func6 rfl 14 rfl rfl fun F => ?_
 refine zu <| p 2 [0] rfl <| za <| zs <| zu <| p 3 [0,6] rfl ?_
 obtain ⟨b1, e, h⟩ := bnd_ex h; rw [e]
 refine r_lsplit (γ := Unit) 3 (fun _ => [(0, ti a0), (9, tb (b1 || (decide (a0 > 16777216))))]) (fun _ => []) ?_ (fun _ => ?_)
 ·clear h
  cases b1
  ·exact p 3 [0,9] rfl <| za <| r_meetg () rfl rfl
  exact p 3 [0,9] rfl <| za <| r_meetg () rfl rfl
 refine za <| rI h rfl (fun hc h => zu <| p 2 [2,3] rfl <| zf <| zT <| r_nodisk (P := Try.prog) (I := dI) (D := (0, [], 0, 0, 0, false, false)) (e := 1) (by decide) <| by cases h; exact r_rets (rs := [.tmp 2, .tmp 3]) rfl (.cons (.tmp rfl) (.cons (.tmp rfl) .nil)) rfl (fun _ vs g => by cases g with | cons h0 g => cases g with | cons h1 g => cases g; exact ⟨_, rfl, .cons (raw_self h0) (.cons h1 .nil)⟩) (fun _ vs g => by cases g with | cons h0 g => cases g with | cons h1 g => cases g; rw [raw_eq h0]; exact (.cons_cons _ .slnil))) fun hc h => zy <| p 1 [10] rfl <| r_makeMap 9 .str (.raw NV) rfl fun v2 => ?_
 refine r_nofiles (P := Try.prog) (I := dI) ?_
 refine y (y_build rfl zf64 rfl rfl (.cons ((.fst .here)) rfl rfl (ok_fst ok_here) (.cons ((.snd (.fst .here))) rfl rfl (ok_snd (ok_fst ok_here)) .nil))) rfl ?_
 refine r_box rfl rfl fun b3 => p 2 [2,3] rfl <| zf <| r_disk (P := Try.prog) (I := dI) (D := (a0, [], 0, 0, 0, false, false)) <| r_isdisk ?_
 cases h
 exact r_rets (rs := [.tmp 2, .tmp 3]) rfl (.cons (.tmp rfl) (.cons (.tmp rfl) .nil)) rfl (fun _ vs g => by cases g with | cons h0 g => cases g with | cons h1 g => cases g; exact ⟨_, rfl, .cons (raw_self h0) (.cons h1 .nil)⟩) (fun _ vs g => by cases g with | cons h0 g => cases g with | cons h1 g => cases g; rw [raw_eq h0]; exact (.cons_cons _ .slnil))

theorem disk_Disk_found_ok (b0 : Nat) (mv0 : Value) (a0 : DiskS) (a1 : List Int) (r : Int) (h : disk_Disk_found a0 a1 = some r) : Fn Try.prog 32 [ptr b0 0, ts a1] [Res.var b0 64 DT (a0.1, mv0, a0.2.2.1, a0.2.2.2.1, a0.2.2.2.2.1, a0.2.2.2.2.2.1, a0.2.2.2.2.2.2, ()), Res.dfiles Try.prog dI mv0 a0.2.1] (fun v => .tup [⟨.raw NV, tupv v 0⟩, ⟨(.int .i64), r⟩]) (fun v => [Res.var b0 64 DT (a0.1, mv0, a0.2.2.1, a0.2.2.2.1, a0.2.2.2.2.1, a0.2.2.2.2.2.1, a0.2.2.2.2.2.2, ()), Res.dfound Try.prog dI mv0 a0.2.1 a1 (tupv v 0) r]) := by
 unfold disk_Disk_found at h
 refine enter Try.func32 rfl 24 rfl rfl fun F => ?_
 refine zu <| p 2 [0,1] rfl <| za <| zs <| zu <| p 3 [0,1,10] rfl <| yl 0 ((.snd (.snd (.snd (.snd (.snd (.fst .here))))))) ty4 rfl rfl rfl trivial rfl <| za <| rI h rfl (fun hc h => zu <| p 2 [4,5] rfl <| zf <| zT <| pk [1,0] rfl <| r_notfound (name := a1) (q := NV) (e := 9) (by decide) <| pk [1,0] rfl <| by cases h; exact r_rets (rs := [.tmp 4, .tmp 5]) rfl (.cons (.tmp rfl) (.cons (.tmp rfl) .nil)) rfl (fun _ vs g => by cases g with | cons h0 g => cases g with | cons h1 g => cases g; exact ⟨_, rfl, .cons (raw_self h0) (.cons h1 .nil)⟩) (fun _ vs g => by cases g with | cons h0 g => cases g with | cons h1 g => cases g; rw [raw_eq h0]; exact (.cons_cons _ (.cons_cons _ .slnil)))) fun hc h => zy <| p 3 [1,15] rfl <| yl 0 ((.snd (.fst .here))) ty62 rfl rfl rfl trivial rfl <| p 1 [16,17] rfl <| pk [1,0] rfl ?_
 refine r_dlook kstr rfl rfl Try.underlying62 zNV rfl fun q1 => ?_
 refine q 5 [(6, tp q1), (7, tb (Option.isSome (pget .str a1 a0.2.1)))] [] rfl ?_
 obtain ⟨there2, e, h⟩ := bnd_ex h; rw [e]
 refine za <| zs <| zu <| p 2 [6,22] rfl <| za <| rI h rfl (fun hc h => zu <| p 2 [4,5] rfl <| zf <| zT <| r_imp_at (R' := Res.dfiles Try.prog dI mv0 a0.2.1) 0 rfl dat_dfiles <| r_notfound (name := a1) (q := NV) (e := 5) (by decide) <| pk [1,0] rfl <| by cases h; exact r_rets (rs := [.tmp 4, .tmp 5]) rfl (.cons (.tmp rfl) (.cons (.tmp rfl) .nil)) rfl (fun _ vs g => by cases g with | cons h0 g => cases g with | cons h1 g => cases g; exact ⟨_, rfl, .cons (raw_self h0) (.cons h1 .nil)⟩) (fun _ vs g => by cases g with | cons h0 g => cases g with | cons h1 g => cases g; rw [raw_eq h0]; exact (.cons_cons _ (.cons_cons _ .slnil)))) fun hc h => zy <| p 3 [4,5] rfl <| zf <| r_isfound <| pk [1,0] rfl ?_
 cases h
 exact r_rets (rs := [.tmp 4, .tmp 5]) rfl (.cons (.tmp rfl) (.cons (.tmp rfl) .nil)) rfl (fun _ vs g => by cases g with | cons h0 g => cases g with | cons h1 g => cases g; exact ⟨_, rfl, .cons (raw_self h0) (.cons h1 .nil)⟩) (fun _ vs g => by cases g with | cons h0 g => cases g with | cons h1 g => cases g; rw [raw_eq h0]; exact (.cons_cons _ (.cons_cons _ .slnil)))

theorem disk_Disk_Size_ok (p0 : Value) (a0 : DiskS) (a1 : List Int) (r : Int × Int) (h : disk_Disk_Size a0 a1 = some r) : Fn Try.prog 23 [tp p0, ts a1] [Res.disk Try.prog dI p0 a0] (fun _ => .tup [⟨(.int .i64), r.1⟩, ⟨(.int .i64), r.2⟩]) (fun _ => [Res.disk Try.prog dI p0 a0]) := by
 unfold disk_Disk_Size at h
 refine enter Try.func23 rfl 22 rfl rfl fun F => ?_
 refine r_undisk fun b2 mv1 hp => ?_
 subst hp
 refine zu <| p 2 [0,1] rfl <| zz <| p 2 [9,10] rfl <| cB h fun r3 hr3 h => r_call (Lo := []) (disk_Disk_found_ok b2 mv1 a0 a1 _ hr3) (by kernel_rfl) (List.Perm.refl _) rfl rfl fun v4 => ?_
 refine p 5 [6,7] rfl <| za <| zs <| zu <| p 2 [6,7,15] rfl <| za <| rI h rfl (fun hc h => zu <| p 3 [4,5] rfl <| zf <| zT <| r_imp_at (R' := Res.dfiles Try.prog dI mv1 a0.2.1) 1 rfl dfound_dfiles <| r_disk (P := Try.prog) (I := dI) (D := a0) <| by cases h; exact r_rets (rs := [.tmp 4, .tmp 5]) rfl (.cons (.tmp rfl) (.cons (.tmp rfl) (.nil))) rfl (fun _ vs g => tup_ok vs g) (fun _ _ _ => (.cons_cons _ .slnil))) fun hc h => zk <| zt <| zs <| iE h fun hc h => r_imp_at (R' := Res.dat Try.prog dI mv1 a0.2.1 a1 (tupv v4 0)) 1 rfl (dfound_dat hc) <| cB h fun f5 hf5 h => pk [1,0] rfl ?_
 refine r_dfocus kstr hf5 fun fb6 sv7 tv8 dv9 hq => ?_
 rw [hq]
 clear hq
 refine zr <| p 3 [19] rfl <| yl 0 ((.fst .here)) tx0 rfl rfl rfl trivial rfl <| y (y_lenown tabOk 1 rfl rfl rfl) rfl ?_
 refine q 2 [(4, ti (List.length f5.1 : Int)), (5, ti 0)] [] rfl <| zf <| r_dunfocus_same (P := Try.prog) (I := dI) kstr hf5 ?_
 refine r_imp_at (R' := Res.dfiles Try.prog dI mv1 a0.2.1) 0 rfl dat_dfiles <| pk [1,0] rfl <| r_disk (P := Try.prog) (I := dI) (D := a0) ?_
 cases h
 exact r_rets (rs := [.tmp 4, .tmp 5]) rfl (.cons (.tmp rfl) (.cons (.tmp rfl) (.nil))) rfl (fun _ vs g => tup_ok vs g) (fun _ _ _ => (.cons_cons _ .slnil))

theorem disk_Disk_Remove_ok (p0 : Value) (a0 : DiskS) (a1 : List Int) (r : Int × DiskS) (h : disk_Disk_Remove a0 a1 = some r) : Fn Try.prog 40 [tp p0, ts a1] [Res.disk Try.prog dI p0 a0] (fun _ => ti r.1) (fun _ => [Res.disk Try.prog dI p0 r.2]) := by
 unfold disk_Disk_Remove at h
 refine enter Try.func40 rfl 21 rfl rfl fun F => ?_
 refine r_undisk fun b2 mv1 hp => ?_
 subst hp
 refine zu <| p 1 [0,1] rfl <| za <| zs <| zu <| p 2 [0,1,8,9] rfl <| cB h fun r3 hr3 h => r_call (Lo := []) (disk_Disk_found_ok b2 mv1 a0 a1 _ hr3) (by kernel_rfl) (List.Perm.refl _) rfl rfl fun v4 => ?_
 refine p 5 [0,1,6] rfl <| zz <| p 2 [0,1,6,14] rfl <| za <| rI h rfl (fun hc h => zu <| p 2 [4] rfl <| zf <| zT <| r_imp_at (R' := Res.dfiles Try.prog dI mv1 a0.2.1) 1 rfl dfound_dfiles <| r_disk (P := Try.prog) (I := dI) (D := a0) <| by cases h; exact r_ret1 rfl (.tmp rfl) (fun _ _ g => g) (fun _ _ _ => (.cons_cons _ .slnil))) fun hc h => zy <| p 3 [1,18] rfl <| yl 0 ((.snd (.fst .here))) ty62 rfl rfl rfl trivial rfl <| p 1 [19,20] rfl <| r_imp_at (R' := Res.dfiles Try.prog dI mv1 a0.2.1) 1 rfl dfound_dfiles <| pk [1,0] rfl <| r_ddelete kstr rfl rfl Try.underlying62 rfl ?_
 refine zz <| p 1 [4] rfl <| zf <| pk [1,0] rfl <| r_disk (P := Try.prog) (I := dI) (D := (a0.1, (pdel .str a1 a0.2.1), a0.2.2.1, a0.2.2.2.1, a0.2.2.2.2.1, a0.2.2.2.2.2.1, a0.2.2.2.2.2.2)) ?_
 cases h
 exact r_ret1 rfl (.tmp rfl) (fun _ _ g => g) (fun _ _ _ => (.cons_cons _ .slnil))

theorem cursor_New_ok  (r : (List (Int) × Int × Unit)) (h : cursor_New  = some r) : Fn Try.prog 50 [] [] (fun v => tp v) (fun v => [Res.cls CWriter v r]) := by
 unfold cursor_New at h
 refine enter Try.func50 rfl 3 rfl rfl fun F => ?_
 refine zu <| p 1 [] rfl <| zz <| y (y_build rfl zf134 rfl rfl .nil) rfl ?_
 refine r_box rfl rfl fun b1 => r_nilown (.slice none 0 0) rfl 5 (.int .u8) ?_
 refine p 1 [0] rfl <| zf <| pk [1,0] rfl <| r_CWriter (x := ([], 0, ())) ?_
 cases h
 exact r_ret1 rfl (.tmp rfl) (fun _ _ g => holds_raw.2 ⟨rfl, by rw [(holds_raw.1 g).1]; exact (holds_raw.1 g).2⟩) (fun _ _ g => by obtain ⟨rfl, _⟩ := holds_raw.1 g; exact (.cons_cons _ .slnil))

theorem cursor_lay_uint64_ok (p0 : Value) (a0 : List (Int) × Int × Unit) (a1 : Int) (a2 : Int) (r : (List (Int) × Int × Unit)) (h : cursor_lay_uint64 a0 a1 a2 = some r) : Fn Try.prog 69 [tp p0, .one (.int .u64) a1, ti a2] [Res.cls CWriter p0 a0] (fun _ => .tup []) (fun _ => [Res.cls CWriter p0 r]) := by
 unfold cursor_lay_uint64 at h
 refine enter Try.func69 rfl 32 rfl rfl fun F => ?_
 refine r_unCWriter fun b2 sv1 hp => ?_
 subst hp
 refine r_CWriter (x := a0) ?_
 refine zs <| zs <| r_unCWriterb fun sv3 => ?_
 refine zr <| p 3 [0,1,2,9] rfl <| yl 0 ((.snd (.fst .here))) ty25 rfl rfl rfl trivial rfl <| q 1 [(11, tb (a0.2.1 != 0))] [0,1,2] rfl <| za <| rI h rfl (fun hc h => ?_) fun hc h => ?_
 ·refine zR <| zT <| r_CWriter (x := a0) ?_
  cases h
  exact r_ret0 rfl (fun _ => tup_ok [] .nil) ((.cons_cons _ .slnil))
 refine zy <| p 3 [0,1,6] rfl ?_
 obtain ⟨i4, e, h⟩ := bnd_ex h; rw [e]
 refine za <| bX h fun k5 hk5 h => ?_
 refine r_cutk (γ := Value) (fun (o6 : List (Int)) g7 => []) (fun (o6 : List (Int)) g7 => [Res.var b2 134 (.pair (.raw (.slice none 0 0)) (.pair (.int .i64) .unit)) (g7, a0.2.1, a0.2.2), Res.own g7 5 (.int .u8) o6]) k5 r ?_ ?_
 ·refine zb <| r_less [0,1,6] rfl <| r_loopg (γ := Value) (fun (s11 : Int × List (Int)) g12 => [(0, ptr b2 0), (1, .one (.int .u64) a1), (6, ti s11.1)]) (fun (s11 : Int × List (Int)) g12 => [Res.var b2 134 (.pair (.raw (.slice none 0 0)) (.pair (.int .i64) .unit)) (g12, a0.2.1, a0.2.2), Res.own g12 5 (.int .u8) s11.2]) (cursor_lay_uint64_l0 a1 k5) (i4, a0.1) sv3 h rfl rfl ?_
  clear h
  intro m13 s11 g12 h
  cases m13 with
  | zero => cases h
  | succ m13 =>
  simp only [cursor_lay_uint64_l0] at h
  refine zs <| zu <| q 2 [(6, ti s11.1), (15, tb (decide (s11.1 ≥ 0)))] [0,1] rfl <| za <| rI h rfl (fun hc h => ?_) fun hc h => ?_
  ·refine zk <| zt <| zs <| zb <| r_any (by kernel_rfl) ?_
   refine a_float (i := 0) (t := ptr b2 0) (blind_block (blind_then (blind_then (blind_block (blind_then blind_body))))) rfl (by kernel_rfl) (by kernel_rfl) (by kernel_rfl) (y_pure tabOk rfl) rfl ?_
   refine a_float (i := 1) (t := ptr b2 0) (blind_block (blind_then (blind_then (blind_block (blind_then blind_body))))) rfl (by kernel_rfl) (by kernel_rfl) (by kernel_rfl) (y_pure tabOk rfl) rfl ?_
   refine a_float (i := 5) (t := .one (.int .u64) a1) (blind_block (blind_then (blind_then (blind_block (blind_then blind_body))))) rfl (by kernel_rfl) (by kernel_rfl) (by kernel_rfl) (y_pure tabOk rfl) rfl ?_
   refine a_float (i := 6) (t := ti s11.1) (blind_block (blind_then (blind_then (blind_block (blind_then blind_body))))) rfl (by kernel_rfl) (by kernel_rfl) (by kernel_rfl) (y_pure tabOk rfl) rfl ?_
   refine a_float (i := 7) (t := ti (IntKind.wrap .i64 (8 * s11.1))) (blind_block (blind_then (blind_then (blind_block (blind_then blind_body))))) rfl (by kernel_rfl) (by kernel_rfl) (by kernel_rfl) (y_pure tabOk rfl) rfl ?_
   refine iE h fun hc h => a_float (i := 8) (t := .one (.int .u64) (ishr .u64 a1 (IntKind.wrap .i64 (8 * s11.1)))) (blind_block (blind_then (blind_then (blind_block (blind_then blind_body))))) rfl (by kernel_rfl) (by kernel_rfl) (by kernel_rfl) (y_shr rfl rfl hc) rfl ?_
   refine a_float (i := 9) (t := .one (.int .u8) (IntKind.wrap .u8 (ishr .u64 a1 (IntKind.wrap .i64 (8 * s11.1))))) (blind_block (blind_then (blind_then (blind_block (blind_then blind_body))))) rfl (by kernel_rfl) (by kernel_rfl) (by kernel_rfl) (y_pure tabOk rfl) rfl ?_
   refine a_two (i := 2) (j := 10) (by kernel_rfl) rfl rfl ?_ ?_
   ·refine q 1 [(18, ptr b2 0), (20, ptr b2 0), (27, .one (.int .u8) (IntKind.wrap .u8 (ishr .u64 a1 (IntKind.wrap .i64 (8 * s11.1)))))] [0,1,6] rfl <| za <| r_less [0,1,6,18,20,27] rfl <| a_float (i := 3) (t := ptr b2 0) (blind_block (blind_then (blind_then (blind_block (blind_then blind_body))))) rfl (by kernel_rfl) (by kernel_rfl) (by kernel_rfl) (y_pure tabOk rfl) rfl ?_
    refine a_two (i := 4) (j := 10) (by kernel_rfl) rfl rfl ?_ ?_
    ·refine yl 0 ((.fst .here)) tx0 rfl rfl rfl trivial rfl <| za <| r_less [0,1,6,18,22,27] rfl <| a_one (i := 10) (by kernel_rfl) rfl ?_
     refine r_lits (B := 1) tabOk rfl el5 rfl rfl rfl (.cons rfl .nil) rfl fun v14 => ?_
     refine za <| r_less [0,1,6,18,22,28] rfl <| a_one (i := 11) (by kernel_rfl) rfl ?_
     refine iE h fun hc h => r_append (B := 1) tabOk 2 rfl rfl (src_own 0 rfl rfl) rfl el5 rfl rfl hc rfl fun v15 => ?_
     refine pk [1,1] rfl <| za <| r_less [0,1,6,18,29] rfl <| a_one (i := 12) (by kernel_rfl) rfl ?_
     refine p 1 [0,1,6,29,30] rfl <| za <| r_less [0,1,6,29,30] rfl <| a_float (i := 13) (t := ptr b2 0) (blind_block (blind_then (blind_then (blind_block (blind_then blind_body))))) rfl (by kernel_rfl) (by kernel_rfl) (by kernel_rfl) (y_pure tabOk rfl) rfl ?_
     refine a_one (i := 14) (by kernel_rfl) rfl ?_
     refine st 0 ((.fst .here)) tx0 rfl rfl rfl rfl trivial <| za <| r_less [0,1,6] rfl <| a_end (by kernel_rfl) ?_
     refine zi <| zt <| zr <| q 3 [(6, ti (IntKind.wrap .i64 (s11.1 - 1)))] [0,1] rfl ?_
     obtain ⟨i16, e, h⟩ := bnd_ex h; rw [e]
     exact za <| r_less [0,1,6] rfl <| r_backg (i16, (s11.2 ++ [(IntKind.wrap .u8 (ishr .u64 a1 (IntKind.wrap .i64 (8 * s11.1))))])) v15 (Nat.lt_succ_self _) h rfl rfl
    refine r_lits (B := 1) tabOk rfl el5 rfl rfl rfl (.cons rfl .nil) rfl fun v14 => ?_
    refine za <| r_less [0,1,6,18,21,28] rfl <| a_one (i := 4) (by kernel_rfl) rfl ?_
    refine yl 1 ((.fst .here)) tx0 rfl rfl rfl trivial rfl <| za <| r_less [0,1,6,18,22,28] rfl <| a_one (i := 11) (by kernel_rfl) rfl ?_
    refine iE h fun hc h => r_append (B := 1) tabOk 2 rfl rfl (src_own 0 rfl rfl) rfl el5 rfl rfl hc rfl fun v15 => ?_
    refine pk [1,1] rfl <| za <| r_less [0,1,6,18,29] rfl <| a_one (i := 12) (by kernel_rfl) rfl ?_
    refine p 1 [0,1,6,29,30] rfl <| za <| r_less [0,1,6,29,30] rfl <| a_float (i := 13) (t := ptr b2 0) (blind_block (blind_then (blind_then (blind_block (blind_then blind_body))))) rfl (by kernel_rfl) (by kernel_rfl) (by kernel_rfl) (y_pure tabOk rfl) rfl ?_
    refine a_one (i := 14) (by kernel_rfl) rfl ?_
    refine st 0 ((.fst .here)) tx0 rfl rfl rfl rfl trivial <| za <| r_less [0,1,6] rfl <| a_end (by kernel_rfl) ?_
    refine zi <| zt <| zr <| q 3 [(6, ti (IntKind.wrap .i64 (s11.1 - 1)))] [0,1] rfl ?_
    obtain ⟨i16, e, h⟩ := bnd_ex h; rw [e]
    exact za <| r_less [0,1,6] rfl <| r_backg (i16, (s11.2 ++ [(IntKind.wrap .u8 (ishr .u64 a1 (IntKind.wrap .i64 (8 * s11.1))))])) v15 (Nat.lt_succ_self _) h rfl rfl
   refine r_lits (B := 1) tabOk rfl el5 rfl rfl rfl (.cons rfl .nil) rfl fun v14 => ?_
   refine za <| r_less [0,1,6,18,19,28] rfl <| a_one (i := 2) (by kernel_rfl) rfl ?_
   refine p 1 [0,1,6,18,20,28] rfl <| za <| r_less [0,1,6,18,20,28] rfl <| a_float (i := 3) (t := ptr b2 0) (blind_block (blind_then (blind_then (blind_block (blind_then blind_body))))) rfl (by kernel_rfl) (by kernel_rfl) (by kernel_rfl) (y_pure tabOk rfl) rfl ?_
   refine a_one (i := 4) (by kernel_rfl) rfl ?_
   refine yl 1 ((.fst .here)) tx0 rfl rfl rfl trivial rfl <| za <| r_less [0,1,6,18,22,28] rfl <| a_one (i := 11) (by kernel_rfl) rfl ?_
   refine iE h fun hc h => r_append (B := 1) tabOk 2 rfl rfl (src_own 0 rfl rfl) rfl el5 rfl rfl hc rfl fun v15 => ?_
   refine pk [1,1] rfl <| za <| r_less [0,1,6,18,29] rfl <| a_one (i := 12) (by kernel_rfl) rfl ?_
   refine p 1 [0,1,6,29,30] rfl <| za <| r_less [0,1,6,29,30] rfl <| a_float (i := 13) (t := ptr b2 0) (blind_block (blind_then (blind_then (blind_block (blind_then blind_body))))) rfl (by kernel_rfl) (by kernel_rfl) (by kernel_rfl) (y_pure tabOk rfl) rfl ?_
   refine a_one (i := 14) (by kernel_rfl) rfl ?_
   refine st 0 ((.fst .here)) tx0 rfl rfl rfl rfl trivial <| za <| r_less [0,1,6] rfl <| a_end (by kernel_rfl) ?_
   refine zi <| zt <| zr <| q 3 [(6, ti (IntKind.wrap .i64 (s11.1 - 1)))] [0,1] rfl ?_
   obtain ⟨i16, e, h⟩ := bnd_ex h; rw [e]
   exact za <| r_less [0,1,6] rfl <| r_backg (i16, (s11.2 ++ [(IntKind.wrap .u8 (ishr .u64 a1 (IntKind.wrap .i64 (8 * s11.1))))])) v15 (Nat.lt_succ_self _) h rfl rfl
  exact zx <| ze <| ze <| zq <| zt <| r_less [] rfl <| r_meetk s11.2 g12 h rfl rfl
 intro o6 g7 h
 rw [← hk5] at h
 try dsimp only at h
 refine r_CWriter (x := (o6, a0.2.1, a0.2.2)) ?_
 cases h
 exact r_end0 rfl (fun _ => tup_ok [] .nil) ((.cons_cons _ .slnil))

theorem cursor_Writer_I64_ok (p0 : Value) (a0 : List (Int) × Int × Unit) (a1 : Int) (r : (List (Int) × Int × Unit)) (h : cursor_Writer_I64 a0 a1 = some r) : Fn Try.prog 51 [tp p0, ti a1] [Res.cls CWriter p0 a0] (fun _ => .tup []) (fun _ => [Res.cls CWriter p0 r]) := by
 unfold cursor_Writer_I64 at h
 refine enter Try.func51 rfl 8 rfl rfl fun F => ?_
 refine r_unCWriter fun b2 sv1 hp => ?_
 subst hp
 refine r_CWriter (x := a0) ?_
 refine zr <| p 3 [4,6] rfl <| cB h fun r3 hr3 h => rc [0] (cursor_lay_uint64_ok _ _ _ _ _ hr3) (by kernel_rfl) rfl rfl rfl fun _ => zn ?_
 cases h
 exact r_end0 rfl (fun _ => tup_ok [] .nil) ((.cons_cons _ .slnil))

theorem cursor_Writer_Out_ok (p0 : Value) (a0 : List (Int) × Int × Unit) (r : List Int × Int) (h : cursor_Writer_Out a0 = some r) : Fn Try.prog 52 [tp p0] [Res.cls CWriter p0 a0] (fun _ => .tup [⟨.str, r.1⟩, ⟨(.int .i64), r.2⟩]) (fun _ => [Res.cls CWriter p0 a0]) := by
 unfold cursor_Writer_Out at h
 refine enter Try.func52 rfl 18 rfl rfl fun F => ?_
 refine r_unCWriter fun b2 sv1 hp => ?_
 subst hp
 refine r_CWriter (x := a0) ?_
 refine zu <| p 2 [0] rfl <| za <| zs <| zs <| r_unCWriterb fun sv3 => ?_
 refine zr <| p 3 [0,6] rfl <| yl 0 ((.snd (.fst .here))) ty25 rfl rfl rfl trivial rfl <| q 1 [(8, tb (a0.2.1 != 0))] [0] rfl <| za <| rI h rfl (fun hc h => ?_) fun hc h => ?_
 ·refine zs <| r_drawn (by kernel_rfl) (by kernel_rfl) ?_
  refine q_pure tabOk 3 [11] (E' := [(11, ptr b2 1)]) rfl ?_
  refine q_y (y_load 0 ((.snd (.fst .here))) rfl rfl (by first | rfl | (simp only [Pth.off, T.size]; omega)) (ok_snd (ok_fst ok_here)) ty25) rfl ?_
  refine q_pure tabOk 2 [2, 3] (E' := [(2, ts []), (3, ti a0.2.1)]) rfl ?_
  refine q_nil ?_
  refine zt <| zR <| zT <| r_CWriter (x := a0) ?_
  cases h
  exact r_rets (rs := [.tmp 2, .tmp 3]) rfl (.cons (.tmp rfl) (.cons (.tmp rfl) (.nil))) rfl (fun _ vs g => tup_ok vs g) (fun _ _ _ => (.cons_cons _ .slnil))
 refine zy <| p 3 [15] rfl <| yl 0 ((.fst .here)) tx0 rfl rfl rfl trivial rfl <| y (y_text tabOk 1 rfl rfl rfl rfl rfl) rfl ?_
 refine q 2 [(2, ts a0.1), (3, ti 0)] [] rfl <| zf <| r_CWriter (x := a0) ?_
 cases h
 exact r_rets (rs := [.tmp 2, .tmp 3]) rfl (.cons (.tmp rfl) (.cons (.tmp rfl) (.nil))) rfl (fun _ vs g => tup_ok vs g) (fun _ _ _ => (.cons_cons _ .slnil))

theorem crc_steps_ok (a0 : Int) (a1 : Int) (r : Int) (h : crc_steps a0 a1 = some r) : Pure Try.prog 90 [.one (.int .u32) a0, ti a1] (.one (.int .u32) r) := by
 unfold crc_steps at h
 refine enter Try.func90 rfl 19 rfl rfl fun F => ?_
 refine zu <| p 1 [0,1] rfl <| za <| jK h (γ := Unit) (fun (o2 : Int) _ => [(0, .one (.int .u32) o2)]) (fun (o2 : Int) _ => []) (fun k1 h => ?_) fun o2 gg h => ?_
 ·refine zu <| p 2 [0,6,7] rfl <| za <| zb <| r_less [0,6,7] rfl <| r_loopg (γ := Unit) (fun (s4 : Int × Int) _ => [(0, .one (.int .u32) s4.1), (6, ti a1), (7, ti s4.2)]) (fun (s4 : Int × Int) _ => []) (crc_steps_l0 a1 k1) (a0, 0) () h rfl rfl ?_
  clear h
  intro m5 s4 gg h
  cases m5 with
  | zero => cases h
  | succ m5 =>
  simp only [crc_steps_l0] at h
  refine zu <| q 1 [(0, .one (.int .u32) s4.1), (7, ti s4.2), (8, tb (decide (s4.2 < a1)))] [6] rfl <| za <| zs <| rI h rfl (fun hc h => ?_) fun hc h => ?_
  ·refine zk <| zt <| jK h (γ := Unit) (fun (o7 : Int) _ => [(0, .one (.int .u32) o7), (6, ti a1), (7, ti s4.2)]) (fun (o7 : Int) _ => []) (fun k6 h => ?_) fun o7 gg h => ?_
   ·refine zb <| zu <| q 3 [(5, .one (.int .u32) (iand .u32 s4.1 1))] [0,6,7] rfl ?_
    obtain ⟨low8, e, h⟩ := bnd_ex h; rw [e]
    refine zz <| q 3 [(0, .one (.int .u32) (ishr .u32 s4.1 1)), (5, .one (.int .u32) low8)] [6,7] rfl ?_
    obtain ⟨x9, e, h⟩ := bnd_ex h; rw [e]
    refine zz <| p 2 [0,6,7,14] rfl <| za <| rI h rfl (fun hc h => ?_) fun hc h => ?_
    ·refine zr <| p 3 [0,6,7] rfl ?_
     obtain ⟨x10, e, h⟩ := bnd_ex h; rw [e]
     exact zn <| zi <| zt <| r_less [0,6,7] rfl <| r_meetk x10 () h rfl rfl
    exact zk <| zi <| zt <| r_less [0,6,7] rfl <| r_meetk x9 () h rfl rfl
   exact zr <| q 2 [(0, .one (.int .u32) o7), (6, ti a1), (7, ti (IntKind.wrap .i64 (s4.2 + 1)))] [] rfl <| za <| r_less [0,6,7] rfl <| r_backg (o7, (IntKind.wrap .i64 (s4.2 + 1))) () (Nat.lt_succ_self _) h rfl rfl
  exact zx <| ze <| ze <| zq <| zt <| r_less [0] rfl <| r_meetk s4.1 () h rfl rfl
 refine zu <| p 2 [4] rfl <| zf ?_
 cases h
 exact r_ret1 rfl (.tmp rfl) (fun _ _ g => g) (fun _ _ _ => List.nil_sublist _)

theorem crc_halves_ok  (r : List (Int)) (h : crc_halves  = some r) : Pure Try.prog 68 [] (.one (.arr 16 (.int .u32)) r) := by
 unfold crc_halves at h
 refine enter Try.func68 rfl 13 rfl rfl fun F => ?_
 refine zu <| r_alloc (t := (.arr 16 (.int .u32))) rfl zf131 rfl fun b1 => zz <| r_alloc (t := (.arr 16 (.int .u32))) rfl zf131 rfl fun b2 => za <| jK h (γ := Unit) (fun (o4 : List (Int)) _ => [(0, ptr b1 0), (1, ptr b2 0)]) (fun (o4 : List (Int)) _ => [Res.var b2 131 (.arr 16 (.int .u32)) o4, Res.var b1 131 (.arr 16 (.int .u32)) (List.replicate 16 (0 : Int))]) (fun k3 h => ?_) fun o4 gg h => ?_
 ·refine zu <| p 1 [0,1,3] rfl <| za <| zb <| r_less [0,1,3] rfl <| r_loopg (γ := Unit) (fun (s7 : Int × List (Int)) _ => [(0, ptr b1 0), (1, ptr b2 0), (3, ti s7.1)]) (fun (s7 : Int × List (Int)) _ => [Res.var b2 131 (.arr 16 (.int .u32)) s7.2, Res.var b1 131 (.arr 16 (.int .u32)) (List.replicate 16 (0 : Int))]) (crc_halves_l0 k3) (0, (List.replicate 16 (0 : Int))) () h rfl rfl ?_
  clear h
  intro m8 s7 gg h
  cases m8 with
  | zero => cases h
  | succ m8 =>
  simp only [crc_halves_l0] at h
  refine zu <| q 1 [(3, ti s7.1), (4, tb (decide (s7.1 < 16)))] [0,1] rfl <| za <| zs <| rI h rfl (fun hc h => ?_) fun hc h => ?_
  ·refine zk <| zt <| zs <| zb <| zu <| q 2 [(2, ti s7.1)] [0,1,3] rfl <| za <| zr <| q 3 [(6, ti s7.1), (8, .one (.int .u32) (IntKind.wrap .u32 s7.1))] [0,1,3] rfl <| cB h fun r9 hr9 h => r_calls (crc_steps_ok _ _ _ hr9) (by kernel_rfl) rfl rfl <| iE h fun hc h => y (y_ivar rfl rfl hc.1 hc.2 un131 ty74) rfl ?_
   exact r_store 0 (.elem (Int.toNat s7.1) .here) rfl rfl rfl (by first | rfl | (simp only [Pth.off, T.size]; omega)) (ok_elem (by first | omega | (simp only [List.length_set] at hc ⊢; omega)) ok_here) ty74 <| zn <| zi <| zt <| zr <| q 2 [(3, ti (IntKind.wrap .i64 (s7.1 + 1)))] [0,1] rfl <| za <| r_less [0,1,3] rfl <| r_backg ((IntKind.wrap .i64 (s7.1 + 1)), (List.set s7.2 (Int.toNat s7.1) r9)) () (Nat.lt_succ_self _) h rfl rfl
  exact zx <| ze <| ze <| zq <| zt <| r_less [0,1] rfl <| r_meetk s7.2 () h rfl rfl
 refine zu <| yl 0 .here ty131 rfl rfl rfl trivial rfl <| st 1 .here ty131 rfl rfl rfl rfl trivial <| zf ?_
 cases h
 exact r_ret1 rfl (.cell 1 .here rfl rfl (by first | rfl | (simp only [Pth.off, T.size]; omega)) ok_here ty131) (fun _ _ g => g) (fun _ _ _ => List.nil_sublist _)

theorem crc_On_ok (a0 : Int) (a1 : List Int) (r : Int) (h : crc_On a0 a1 = some r) : Pure Try.prog 47 [.one (.int .u32) a0, ts a1] (.one (.int .u32) r) := by
 unfold crc_On at h
 refine enter Try.func47 rfl 39 rfl rfl fun F => ?_
 refine zu <| p 1 [0,1] rfl <| zz <| cB h fun r1 hr1 h => r_calls (crc_halves_ok _ hr1) (by kernel_rfl) rfl rfl <| r_alloc (t := (.arr 16 (.int .u32))) rfl zf131 rfl fun b2 => st 0 .here ty131 rfl rfl rfl rfl trivial <| zz <| p 3 [1,5,6] rfl ?_
 obtain ⟨x3, e, h⟩ := bnd_ex h; rw [e]
 refine za <| jK h (γ := Unit) (fun (o5 : Int) _ => [(6, .one (.int .u32) o5)]) (fun (o5 : Int) _ => [Res.var b2 131 (.arr 16 (.int .u32)) r1]) (fun k4 h => ?_) fun o5 gg h => ?_
 ·refine zu <| q 3 [(6, .one (.int .u32) x3), (12, ti (List.length a1 : Int)), (13, ti 0)] [1,5] rfl <| za <| zb <| r_less [1,5,6,12,13] rfl <| r_loopg (γ := Unit) (fun (s7 : Int × Int) _ => [(1, ts a1), (5, ptr b2 0), (6, .one (.int .u32) s7.1), (12, ti (List.length a1 : Int)), (13, ti s7.2)]) (fun (s7 : Int × Int) _ => [Res.var b2 131 (.arr 16 (.int .u32)) r1]) (crc_On_l0 a1 r1 k4) (x3, 0) () h rfl rfl ?_
  clear h
  intro m8 s7 gg h
  cases m8 with
  | zero => cases h
  | succ m8 =>
  simp only [crc_On_l0] at h
  refine zu <| q 1 [(6, .one (.int .u32) s7.1), (13, ti s7.2), (14, tb (decide (s7.2 < (List.length a1 : Int))))] [1,5,12] rfl <| za <| zs <| rI h rfl (fun hc h => ?_) fun hc h => ?_
  ·refine zk <| zt <| zs <| zb <| zu <| q 2 [(7, ti s7.2)] [1,5,6,12,13] rfl <| zz <| q 3 [(16, .one (.int .u32) s7.1), (17, ts a1), (18, ti s7.2)] [1,5,12,13] rfl <| iE h fun hc h => y (y_byte tabOk rfl rfl hc.1 hc.2 rfl) rfl ?_
   refine q 3 [(6, .one (.int .u32) (ixor .u32 s7.1 (IntKind.wrap .u32 (List.getD a1 (Int.toNat s7.2) 0))))] [1,5,12,13] rfl ?_
   obtain ⟨x9, e, h⟩ := bnd_ex h; rw [e]
   refine zz <| p 4 [1,5,12,13,23,25] rfl <| iE h fun hc h => y (y_ivar rfl rfl hc.1 hc.2 un131 ty74) rfl ?_
   refine y (y_load 0 (.elem (Int.toNat (iand .u32 x9 15)) .here) rfl rfl (by first | rfl | (simp only [Pth.off, T.size]; omega)) (ok_elem (by first | omega | (simp only [List.length_set] at hc ⊢; omega)) ok_here) ty74) rfl ?_
   refine q 2 [(6, .one (.int .u32) (ixor .u32 (ishr .u32 x9 4) (List.getD r1 (Int.toNat (iand .u32 x9 15)) 0)))] [1,5,12,13] rfl ?_
   obtain ⟨x10, e, h⟩ := bnd_ex h; rw [e]
   refine za <| zr <| p 4 [1,5,12,13,30,32] rfl <| iE h fun hc h => y (y_ivar rfl rfl hc.1 hc.2 un131 ty74) rfl ?_
   refine y (y_load 0 (.elem (Int.toNat (iand .u32 x10 15)) .here) rfl rfl (by first | rfl | (simp only [Pth.off, T.size]; omega)) (ok_elem (by first | omega | (simp only [List.length_set] at hc ⊢; omega)) ok_here) ty74) rfl ?_
   refine q 2 [(6, .one (.int .u32) (ixor .u32 (ishr .u32 x10 4) (List.getD r1 (Int.toNat (iand .u32 x10 15)) 0)))] [1,5,12,13] rfl ?_
   obtain ⟨x11, e, h⟩ := bnd_ex h; rw [e]
   exact zn <| zi <| zt <| zr <| q 2 [(6, .one (.int .u32) x11), (13, ti (IntKind.wrap .i64 (s7.2 + 1)))] [1,5,12] rfl <| za <| r_less [1,5,6,12,13] rfl <| r_backg (x11, (IntKind.wrap .i64 (s7.2 + 1))) () (Nat.lt_succ_self _) h rfl rfl
  exact zx <| ze <| ze <| zq <| zt <| r_less [6] rfl <| r_meetk s7.1 () h rfl rfl
 refine zu <| p 3 [4] rfl <| zf ?_
 cases h
 exact r_ret1 rfl (.tmp rfl) (fun _ _ g => g) (fun _ _ _ => List.nil_sublist _)

theorem crc_Sum_ok (a0 : List Int) (r : Int) (h : crc_Sum a0 = some r) : Pure Try.prog 28 [ts a0] (.one (.int .u32) r) := by
 unfold crc_Sum at h
 refine enter Try.func28 rfl 5 rfl rfl fun F => ?_
 refine zu <| p 1 [0] rfl <| zz <| p 1 [3] rfl <| cB h fun r1 hr1 h => r_calls (crc_On_ok _ _ _ hr1) (by kernel_rfl) rfl rfl <| p 1 [2] rfl <| zf ?_
 cases h
 exact r_ret1 rfl (.tmp rfl) (fun _ _ g => g) (fun _ _ _ => List.nil_sublist _)

theorem cursor_lay_uint32_ok (p0 : Value) (a0 : List (Int) × Int × Unit) (a1 : Int) (a2 : Int) (r : (List (Int) × Int × Unit)) (h : cursor_lay_uint32 a0 a1 a2 = some r) : Fn Try.prog 70 [tp p0, .one (.int .u32) a1, ti a2] [Res.cls CWriter p0 a0] (fun _ => .tup []) (fun _ => [Res.cls CWriter p0 r]) := by
 unfold cursor_lay_uint32 at h
 refine enter Try.func70 rfl 33 rfl rfl fun F => ?_
 refine r_unCWriter fun b2 sv1 hp => ?_
 subst hp
 refine r_CWriter (x := a0) ?_
 refine zs <| zs <| r_unCWriterb fun sv3 => ?_
 refine zr <| p 3 [0,1,2,9] rfl <| yl 0 ((.snd (.fst .here))) ty25 rfl rfl rfl trivial rfl <| q 1 [(11, tb (a0.2.1 != 0))] [0,1,2] rfl <| za <| rI h rfl (fun hc h => ?_) fun hc h => ?_
 ·refine zR <| zT <| r_CWriter (x := a0) ?_
  cases h
  exact r_ret0 rfl (fun _ => tup_ok [] .nil) ((.cons_cons _ .slnil))
 refine zy <| p 3 [0,1,6] rfl ?_
 obtain ⟨i4, e, h⟩ := bnd_ex h; rw [e]
 refine za <| bX h fun k5 hk5 h => ?_
 refine r_cutk (γ := Value) (fun (o6 : List (Int)) g7 => []) (fun (o6 : List (Int)) g7 => [Res.var b2 134 (.pair (.raw (.slice none 0 0)) (.pair (.int .i64) .unit)) (g7, a0.2.1, a0.2.2), Res.own g7 5 (.int .u8) o6]) k5 r ?_ ?_
 ·refine zb <| r_less [0,1,6] rfl <| r_loopg (γ := Value) (fun (s11 : Int × List (Int)) g12 => [(0, ptr b2 0), (1, .one (.int .u32) a1), (6, ti s11.1)]) (fun (s11 : Int × List (Int)) g12 => [Res.var b2 134 (.pair (.raw (.slice none 0 0)) (.pair (.int .i64) .unit)) (g12, a0.2.1, a0.2.2), Res.own g12 5 (.int .u8) s11.2]) (cursor_lay_uint32_l0 a1 k5) (i4, a0.1) sv3 h rfl rfl ?_
  clear h
  intro m13 s11 g12 h
  cases m13 with
  | zero => cases h
  | succ m13 =>
  simp only [cursor_lay_uint32_l0] at h
  refine zs <| zu <| q 2 [(6, ti s11.1), (15, tb (decide (s11.1 ≥ 0)))] [0,1] rfl <| za <| rI h rfl (fun hc h => ?_) fun hc h => ?_
  ·refine zk <| zt <| zs <| zb <| r_any (by kernel_rfl) ?_
   refine a_float (i := 0) (t := ptr b2 0) (blind_block (blind_then (blind_then (blind_block (blind_then blind_body))))) rfl (by kernel_rfl) (by kernel_rfl) (by kernel_rfl) (y_pure tabOk rfl) rfl ?_
   refine a_float (i := 1) (t := ptr b2 0) (blind_block (blind_then (blind_then (blind_block (blind_then blind_body))))) rfl (by kernel_rfl) (by kernel_rfl) (by kernel_rfl) (y_pure tabOk rfl) rfl ?_
   refine a_float (i := 5) (t := .one (.int .u32) a1) (blind_block (blind_then (blind_then (blind_block (blind_then blind_body))))) rfl (by kernel_rfl) (by kernel_rfl) (by kernel_rfl) (y_pure tabOk rfl) rfl ?_
   refine a_float (i := 6) (t := .one (.int .u64) (IntKind.wrap .u64 a1)) (blind_block (blind_then (blind_then (blind_block (blind_then blind_body))))) rfl (by kernel_rfl) (by kernel_rfl) (by kernel_rfl) (y_pure tabOk rfl) rfl ?_
   refine a_float (i := 7) (t := ti s11.1) (blind_block (blind_then (blind_then (blind_block (blind_then blind_body))))) rfl (by kernel_rfl) (by kernel_rfl) (by kernel_rfl) (y_pure tabOk rfl) rfl ?_
   refine a_float (i := 8) (t := ti (IntKind.wrap .i64 (8 * s11.1))) (blind_block (blind_then (blind_then (blind_block (blind_then blind_body))))) rfl (by kernel_rfl) (by kernel_rfl) (by kernel_rfl) (y_pure tabOk rfl) rfl ?_
   refine iE h fun hc h => a_float (i := 9) (t := .one (.int .u64) (ishr .u64 (IntKind.wrap .u64 a1) (IntKind.wrap .i64 (8 * s11.1)))) (blind_block (blind_then (blind_then (blind_block (blind_then blind_body))))) rfl (by kernel_rfl) (by kernel_rfl) (by kernel_rfl) (y_shr rfl rfl hc) rfl ?_
   refine a_float (i := 10) (t := .one (.int .u8) (IntKind.wrap .u8 (ishr .u64 (IntKind.wrap .u64 a1) (IntKind.wrap .i64 (8 * s11.1))))) (blind_block (blind_then (blind_then (blind_block (blind_then blind_body))))) rfl (by kernel_rfl) (by kernel_rfl) (by kernel_rfl) (y_pure tabOk rfl) rfl ?_
   refine a_two (i := 2) (j := 11) (by kernel_rfl) rfl rfl ?_ ?_
   ·refine q 1 [(18, ptr b2 0), (20, ptr b2 0), (28, .one (.int .u8) (IntKind.wrap .u8 (ishr .u64 (IntKind.wrap .u64 a1) (IntKind.wrap .i64 (8 * s11.1)))))] [0,1,6] rfl <| za <| r_less [0,1,6,18,20,28] rfl <| a_float (i := 3) (t := ptr b2 0) (blind_block (blind_then (blind_then (blind_block (blind_then blind_body))))) rfl (by kernel_rfl) (by kernel_rfl) (by kernel_rfl) (y_pure tabOk rfl) rfl ?_
    refine a_two (i := 4) (j := 11) (by kernel_rfl) rfl rfl ?_ ?_
    ·refine yl 0 ((.fst .here)) tx0 rfl rfl rfl trivial rfl <| za <| r_less [0,1,6,18,22,28] rfl <| a_one (i := 11) (by kernel_rfl) rfl ?_
     refine r_lits (B := 1) tabOk rfl el5 rfl rfl rfl (.cons rfl .nil) rfl fun v14 => ?_
     refine za <| r_less [0,1,6,18,22,29] rfl <| a_one (i := 12) (by kernel_rfl) rfl ?_
     refine iE h fun hc h => r_append (B := 1) tabOk 2 rfl rfl (src_own 0 rfl rfl) rfl el5 rfl rfl hc rfl fun v15 => ?_
     refine pk [1,1] rfl <| za <| r_less [0,1,6,18,30] rfl <| a_one (i := 13) (by kernel_rfl) rfl ?_
     refine p 1 [0,1,6,30,31] rfl <| za <| r_less [0,1,6,30,31] rfl <| a_float (i := 14) (t := ptr b2 0) (blind_block (blind_then (blind_then (blind_block (blind_then blind_body))))) rfl (by kernel_rfl) (by kernel_rfl) (by kernel_rfl) (y_pure tabOk rfl) rfl ?_
     refine a_one (i := 15) (by kernel_rfl) rfl ?_
     refine st 0 ((.fst .here)) tx0 rfl rfl rfl rfl trivial <| za <| r_less [0,1,6] rfl <| a_end (by kernel_rfl) ?_
     refine zi <| zt <| zr <| q 3 [(6, ti (IntKind.wrap .i64 (s11.1 - 1)))] [0,1] rfl ?_
     obtain ⟨i16, e, h⟩ := bnd_ex h; rw [e]
     exact za <| r_less [0,1,6] rfl <| r_backg (i16, (s11.2 ++ [(IntKind.wrap .u8 (ishr .u64 (IntKind.wrap .u64 a1) (IntKind.wrap .i64 (8 * s11.1))))])) v15 (Nat.lt_succ_self _) h rfl rfl
    refine r_lits (B := 1) tabOk rfl el5 rfl rfl rfl (.cons rfl .nil) rfl fun v14 => ?_
    refine za <| r_less [0,1,6,18,21,29] rfl <| a_one (i := 4) (by kernel_rfl) rfl ?_
    refine yl 1 ((.fst .here)) tx0 rfl rfl rfl trivial rfl <| za <| r_less [0,1,6,18,22,29] rfl <| a_one (i := 12) (by kernel_rfl) rfl ?_
    refine iE h fun hc h => r_append (B := 1) tabOk 2 rfl rfl (src_own 0 rfl rfl) rfl el5 rfl rfl hc rfl fun v15 => ?_
    refine pk [1,1] rfl <| za <| r_less [0,1,6,18,30] rfl <| a_one (i := 13) (by kernel_rfl) rfl ?_
    refine p 1 [0,1,6,30,31] rfl <| za <| r_less [0,1,6,30,31] rfl <| a_float (i := 14) (t := ptr b2 0) (blind_block (blind_then (blind_then (blind_block (blind_then blind_body))))) rfl (by kernel_rfl) (by kernel_rfl) (by kernel_rfl) (y_pure tabOk rfl) rfl ?_
    refine a_one (i := 15) (by kernel_rfl) rfl ?_
    refine st 0 ((.fst .here)) tx0 rfl rfl rfl rfl trivial <| za <| r_less [0,1,6] rfl <| a_end (by kernel_rfl) ?_
    refine zi <| zt <| zr <| q 3 [(6, ti (IntKind.wrap .i64 (s11.1 - 1)))] [0,1] rfl ?_
    obtain ⟨i16, e, h⟩ := bnd_ex h; rw [e]
    exact za <| r_less [0,1,6] rfl <| r_backg (i16, (s11.2 ++ [(IntKind.wrap .u8 (ishr .u64 (IntKind.wrap .u64 a1) (IntKind.wrap .i64 (8 * s11.1))))])) v15 (Nat.lt_succ_self _) h rfl rfl
   refine r_lits (B := 1) tabOk rfl el5 rfl rfl rfl (.cons rfl .nil) rfl fun v14 => ?_
   refine za <| r_less [0,1,6,18,19,29] rfl <| a_one (i := 2) (by kernel_rfl) rfl ?_
   refine p 1 [0,1,6,18,20,29] rfl <| za <| r_less [0,1,6,18,20,29] rfl <| a_float (i := 3) (t := ptr b2 0) (blind_block (blind_then (blind_then (blind_block (blind_then blind_body))))) rfl (by kernel_rfl) (by kernel_rfl) (by kernel_rfl) (y_pure tabOk rfl) rfl ?_
   refine a_one (i := 4) (by kernel_rfl) rfl ?_
   refine yl 1 ((.fst .here)) tx0 rfl rfl rfl trivial rfl <| za <| r_less [0,1,6,18,22,29] rfl <| a_one (i := 12) (by kernel_rfl) rfl ?_
   refine iE h fun hc h => r_append (B := 1) tabOk 2 rfl rfl (src_own 0 rfl rfl) rfl el5 rfl rfl hc rfl fun v15 => ?_
   refine pk [1,1] rfl <| za <| r_less [0,1,6,18,30] rfl <| a_one (i := 13) (by kernel_rfl) rfl ?_
   refine p 1 [0,1,6,30,31] rfl <| za <| r_less [0,1,6,30,31] rfl <| a_float (i := 14) (t := ptr b2 0) (blind_block (blind_then (blind_then (blind_block (blind_then blind_body))))) rfl (by kernel_rfl) (by kernel_rfl) (by kernel_rfl) (y_pure tabOk rfl) rfl ?_
   refine a_one (i := 15) (by kernel_rfl) rfl ?_
   refine st 0 ((.fst .here)) tx0 rfl rfl rfl rfl trivial <| za <| r_less [0,1,6] rfl <| a_end (by kernel_rfl) ?_
   refine zi <| zt <| zr <| q 3 [(6, ti (IntKind.wrap .i64 (s11.1 - 1)))] [0,1] rfl ?_
   obtain ⟨i16, e, h⟩ := bnd_ex h; rw [e]
   exact za <| r_less [0,1,6] rfl <| r_backg (i16, (s11.2 ++ [(IntKind.wrap .u8 (ishr .u64 (IntKind.wrap .u64 a1) (IntKind.wrap .i64 (8 * s11.1))))])) v15 (Nat.lt_succ_self _) h rfl rfl
  exact zx <| ze <| ze <| zq <| zt <| r_less [] rfl <| r_meetk s11.2 g12 h rfl rfl
 intro o6 g7 h
 rw [← hk5] at h
 try dsimp only at h
 refine r_CWriter (x := (o6, a0.2.1, a0.2.2)) ?_
 cases h
 exact r_end0 rfl (fun _ => tup_ok [] .nil) ((.cons_cons _ .slnil))

theorem cursor_Writer_U32_ok (p0 : Value) (a0 : List (Int) × Int × Unit) (a1 : Int) (r : (List (Int) × Int × Unit)) (h : cursor_Writer_U32 a0 a1 = some r) : Fn Try.prog 53 [tp p0, .one (.int .u32) a1] [Res.cls CWriter p0 a0] (fun _ => .tup []) (fun _ => [Res.cls CWriter p0 r]) := by
 unfold cursor_Writer_U32 at h
 refine enter Try.func53 rfl 7 rfl rfl fun F => ?_
 refine r_unCWriter fun b2 sv1 hp => ?_
 subst hp
 refine r_CWriter (x := a0) ?_
 refine zr <| p 2 [4,5] rfl <| cB h fun r3 hr3 h => rc [0] (cursor_lay_uint32_ok _ _ _ _ _ hr3) (by kernel_rfl) rfl rfl rfl fun _ => zn ?_
 cases h
 exact r_end0 rfl (fun _ => tup_ok [] .nil) ((.cons_cons _ .slnil))

theorem strings_Repeat_ok (a0 : List Int) (a1 : Int) (r : List Int) (h : strings_Repeat a0 a1 = some r) : Pure Try.prog 41 [.one .str a0, .one (.int .i64) a1] (.one .str r) := repeat_pure Go.Proofs.Try.strings_Repeat a0 a1 r h

theorem mark_slot_ok (a0 : Int) (r : List Int) (h : mark_slot a0 = some r) : Pure Try.prog 31 [ti a0] (ts r) := by
 unfold mark_slot at h
 refine enter Try.func31 rfl 27 rfl rfl fun F => ?_
 refine zu <| p 1 [0] rfl <| zz <| cB h fun r1 hr1 h => rc [] (cursor_New_ok _ hr1) (by kernel_rfl) rfl rfl rfl fun v2 => p 1 [0,3] rfl <| zz <| p 2 [3,7,8] rfl <| cB h fun r3 hr3 h => rc [0] (cursor_Writer_I64_ok _ _ _ _ hr3) (by kernel_rfl) rfl rfl rfl fun _ => zz <| p 1 [3,11] rfl <| cB h fun r4 hr4 h => rc [0] (cursor_Writer_Out_ok _ _ _ hr4) (by kernel_rfl) rfl rfl rfl fun _ => ?_
 refine q 5 [(4, ts r4.1)] [3] rfl <| zz <| q 2 [(15, tp v2), (16, ts r4.1)] [3] rfl <| cB h fun r5 hr5 h => r_calls (crc_Sum_ok _ _ hr5) (by kernel_rfl) rfl rfl <| cB h fun r6 hr6 h => rc [0] (cursor_Writer_U32_ok _ _ _ _ hr6) (by kernel_rfl) rfl rfl rfl fun _ => zz <| p 1 [20] rfl <| cB h fun r7 hr7 h => rc [0] (cursor_Writer_Out_ok _ _ _ hr7) (by kernel_rfl) rfl rfl rfl fun _ => q 4 [(4, ts r7.1)] [] rfl <| zz <| q 1 [(24, ts r7.1)] [] rfl ?_
 refine cB h fun r8 hr8 h => r_calls (strings_Repeat_ok _ _ _ hr8) (by kernel_rfl) rfl rfl <| iE h fun hc h => y (y_cat rfl rfl hc) rfl ?_
 refine q 1 [(2, ts (r7.1 ++ r8))] [] rfl <| zf ?_
 cases h
 exact r_ret1 rfl (.tmp rfl) (fun _ _ g => g) (fun _ _ _ => List.nil_sublist _)

theorem disk_isName_ok (a0 : List Int) (r : Bool) (h : disk_isName a0 = some r) : Pure Try.prog 48 [ts a0] (tb r) := by
 unfold disk_isName at h
 refine enter Try.func48 rfl 27 rfl rfl fun F => ?_
 refine zu <| p 1 [0] rfl <| za <| jK h (γ := Unit) (fun (o2 : Unit) _ => [(0, ts a0)]) (fun (o2 : Unit) _ => []) (fun k1 h => ?_) fun o2 gg h => ?_
 ·refine zu <| q 3 [(5, ti (List.length a0 : Int)), (6, ti 0)] [0] rfl <| za <| zb <| r_less [0,5,6] rfl <| r_loopg (γ := Unit) (fun (s5 : Int) _ => [(0, ts a0), (5, ti (List.length a0 : Int)), (6, ti s5)]) (fun (s5 : Int) _ => []) (disk_isName_l0 a0 k1) 0 () h rfl rfl ?_
  clear h
  intro m6 s5 gg h
  cases m6 with
  | zero => cases h
  | succ m6 =>
  simp only [disk_isName_l0] at h
  refine zu <| q 1 [(6, ti s5), (7, tb (decide (s5 < (List.length a0 : Int))))] [0,5] rfl <| za <| zs <| rI h rfl (fun hc h => ?_) fun hc h => ?_
  ·refine zk <| zt <| zs <| zb <| zu <| p 2 [0,3,5,6] rfl <| zz <| p 2 [0,3,5,6,9,10] rfl <| iE h fun hc h => y (y_byte tabOk rfl rfl hc.1 hc.2 rfl) rfl ?_
   refine q 2 [(13, tb (decide ((List.getD a0 (Int.toNat s5) 0) < 33)))] [0,3,5,6] rfl ?_
   obtain ⟨b7, e, h⟩ := bnd_ex h; rw [e]
   refine bX h fun k8 hk8 h => ?_
   refine r_lsplitk (γ := Unit) 5 (fun (o9 : Bool) _ => [(0, ts a0), (5, ti (List.length a0 : Int)), (6, ti s5), (18, tb o9)]) (fun _ _ => []) k8 r ?_ ?_
   ·rcases Bool.eq_false_or_eq_true b7 with hh | hh
    ·rw [hh] at h ⊢
     rw [if_pos rfl] at h
     exact p 5 [0,5,6,18] rfl <| zn <| r_less [0,5,6,18] rfl <| zt <| r_meetk true () h rfl rfl
    rw [hh] at h ⊢
    rw [if_neg (by decide)] at h
    refine p 2 [0,5,6,13,14,15] rfl <| r_guard (by rfl) rfl ?_
    refine iE h fun hc h => y (y_byte tabOk rfl rfl hc.1 hc.2 rfl) rfl ?_
    exact q 2 [(18, tb (decide ((List.getD a0 (Int.toNat s5) 0) > 126)))] [0,5,6] rfl <| zn <| r_less [0,5,6,18] rfl <| zt <| r_meetk (decide ((List.getD a0 (Int.toNat s5) 0) > 126)) () h rfl rfl
   intro o9 _ h
   rw [← hk8] at h
   try dsimp only at h
   exact za <| rI h rfl (fun hc h => zu <| p 1 [2] rfl <| zf <| zB <| zT <| zT <| zB <| zT <| by cases h; exact r_ret1 rfl (.tmp rfl) (fun _ _ g => g) (fun _ _ _ => List.nil_sublist _)) fun hc h => zk <| zi <| zt <| zr <| p 2 [0,5,6] rfl <| za <| r_less [0,5,6] rfl <| r_backg (IntKind.wrap .i64 (s5 + 1)) () (Nat.lt_succ_self _) h rfl rfl
  exact zx <| ze <| ze <| zq <| zt <| r_less [0] rfl <| r_meetk () () h rfl rfl
 refine zu <| q 3 [(0, ts a0), (22, tb (a0 != []))] [] rfl ?_
 obtain ⟨b3, e, h⟩ := bnd_ex h; rw [e]
 refine r_lsplit (γ := Unit) 4 (fun _ => [(26, tb (b3 && (decide ((List.length a0 : Int) ≤ 32))))]) (fun _ => []) ?_ (fun _ => ?_)
 ·clear h
  cases b3
  ·exact p 4 [26] rfl <| za <| r_meetg () rfl rfl
  exact q 4 [(26, tb (decide ((List.length a0 : Int) ≤ 32)))] [] rfl <| r_less [26] rfl <| za <| r_meetg () rfl rfl
 refine q 1 [(2, tb (b3 && (decide ((List.length a0 : Int) ≤ 32))))] [] rfl <| zf ?_
 cases h
 exact r_ret1 rfl (.tmp rfl) (fun _ _ g => g) (fun _ _ _ => List.nil_sublist _)

theorem disk_Disk_Used_ok (b0 : Nat) (mv0 : Value) (nm0 : List Int) (q0 : Value) (a0 : DiskS) (r : Int) (h : disk_Disk_Used a0 = some r) : Fn Try.prog 49 [ptr b0 0] [Res.var b0 64 DT (a0.1, mv0, a0.2.2.1, a0.2.2.2.1, a0.2.2.2.2.1, a0.2.2.2.2.2.1, a0.2.2.2.2.2.2, ()), Res.dat Try.prog dI mv0 a0.2.1 nm0 q0] (fun _ => ti r) (fun _ => [Res.var b0 64 DT (a0.1, mv0, a0.2.2.1, a0.2.2.2.1, a0.2.2.2.2.1, a0.2.2.2.2.2.1, a0.2.2.2.2.2.2, ()), Res.dat Try.prog dI mv0 a0.2.1 nm0 q0]) := by
 unfold disk_Disk_Used at h
 refine enter Try.func49 rfl 23 rfl rfl fun F => ?_
 refine zu <| p 1 [0] rfl <| zz <| p 1 [0,3] rfl <| za <| jK h (γ := Unit) (fun (o2 : Int) _ => [(3, ti o2)]) (fun (o2 : Int) _ => [Res.dat Try.prog dI mv0 a0.2.1 nm0 q0, Res.var b0 64 DT (a0.1, mv0, a0.2.2.1, a0.2.2.2.1, a0.2.2.2.2.1, a0.2.2.2.2.2.1, a0.2.2.2.2.2.2, ())]) (fun k1 h => ?_) fun o2 gg h => ?_
 ·refine zu <| p 3 [3,8] rfl <| yl 0 ((.snd (.fst .here))) ty62 rfl rfl rfl trivial rfl <| pk [1,0] rfl <| r_drangeq kstr rfl Try.underlying62 rfl fun it3 hn4 => ?_
  refine za <| zb <| cB h fun rr hall h => r_less [3,10] rfl <| r_rangeloop (step := disk_Disk_Used_l0 a0) (fun _ _ => True) (comm_disk_Disk_Used_l0 a0) hn4 trivial hall (γ := Unit) (fun (s6 : Int) _ => [(3, ti s6), (10, tp it3)]) (fun todo8 (s6 : Int) _ => [Res.diter Try.prog dI mv0 it3 a0.2.1 todo8 none (some (nm0, q0)), Res.var b0 64 DT (a0.1, mv0, a0.2.2.1, a0.2.2.2.1, a0.2.2.2.2.1, a0.2.2.2.2.2.1, a0.2.2.2.2.2.2, ())]) () rfl rfl fun todo8 s6 gg hend hone => ?_
  refine zu ?_
  refine r_dnext kstr rfl rfl (fun ht => ?_) (fun A9 k10 B11 q12 htk10 hk => ?_)
  ·obtain rfl := hend ht
   refine r_dunrangeq ?_
   refine p 1 [3,12] rfl <| za <| zs ?_
   refine r_if (b := false) rfl (fun hc => ?_) (fun hc => ?_)
   ·cases hc
   exact zx <| ze <| ze <| zq <| zt <| r_less [3] rfl <| r_meetk s6 () h rfl rfl
  obtain ⟨sk10, hsk10⟩ := hone A9 k10 B11 htk10
  clear h
  have h := hsk10
  unfold disk_Disk_Used_l0 at h
  refine p 1 [3,10,12] rfl <| za <| zs ?_
  refine r_if (b := true) rfl (fun hc => ?_) (fun hc => ?_)
  ·refine zk <| zt <| zb <| zu <| y (y_dentry rfl 0 rfl) rfl ?_
   refine p 2 [3,5,10] rfl <| za <| cB h fun f14 hf14 h => r_difocus hf14 fun fb15 sv16 tv17 dv18 hq => ?_
   rw [hq]
   clear hq
   refine zr <| p 4 [10,15,18] rfl <| yl 0 ((.fst .here)) tx0 rfl rfl rfl trivial rfl <| y (y_lenown tabOk 1 rfl rfl rfl) rfl ?_
   refine q 2 [(3, ti (IntKind.wrap .i64 (s6 + (List.length f14.1 : Int))))] [10] rfl ?_
   obtain ⟨n19, e, h⟩ := bnd_ex h; rw [e]
   refine zn <| zi <| zt <| r_diunfocus_same (P := Try.prog) (I := dI) hf14 ?_
   refine r_imp_at (R' := Res.diter Try.prog dI mv0 it3 a0.2.1 (A9 ++ B11) none (some (nm0, q0))) 0 rfl diter_none <| r_less [3,10] rfl ?_
   obtain rfl := Option.some.inj h
   exact r_backR () htk10 hsk10 rfl rfl
  cases hc
 refine zu <| p 2 [2] rfl <| zf ?_
 cases h
 exact pk [1,0] rfl <| r_ret1 rfl (.tmp rfl) (fun _ _ g => g) (fun _ _ _ => (.cons_cons _ (.cons_cons _ .slnil)))

theorem disk_Disk_counted_ok (b0 : Nat) (mv0 : Value) (a0 : DiskS) (a1 : Int) (r : Int × DiskS) (h : disk_Disk_counted a0 a1 = some r) : Fn Try.prog 45 [ptr b0 0, ti a1] [Res.var b0 64 DT (a0.1, mv0, a0.2.2.1, a0.2.2.2.1, a0.2.2.2.2.1, a0.2.2.2.2.2.1, a0.2.2.2.2.2.2, ())] (fun _ => ti r.1) (fun _ => [Res.var b0 64 DT (r.2.1, mv0, r.2.2.2.1, r.2.2.2.2.1, r.2.2.2.2.2.1, r.2.2.2.2.2.2.1, r.2.2.2.2.2.2.2, ())]) := by
 unfold disk_Disk_counted at h
 refine enter Try.func45 rfl 60 rfl rfl fun F => ?_
 refine zu <| p 1 [0,1] rfl <| za <| jK h (γ := Unit) (fun (o2 : DiskS) _ => [(0, ptr b0 0), (1, ti a1)]) (fun (o2 : DiskS) _ => [Res.var b0 64 DT (o2.1, mv0, o2.2.2.1, o2.2.2.2.1, o2.2.2.2.2.1, o2.2.2.2.2.2.1, o2.2.2.2.2.2.2, ())]) (fun k1 h => ?_) fun o2 gg h => ?_
 ·refine zu <| p 3 [0,1,7] rfl <| yl 0 ((.snd (.snd (.snd (.snd (.fst .here)))))) ty3 rfl rfl rfl trivial rfl <| q 1 [(9, tb (decide (a0.2.2.2.2.1 > 0)))] [0,1] rfl <| za <| rI h rfl (fun hc h => ?_) fun hc h => ?_
  ·refine zu <| p 3 [0,1,10,12] rfl <| yl 0 ((.snd (.snd (.snd (.snd (.fst .here)))))) ty3 rfl rfl rfl trivial rfl <| q 3 [(14, ti (IntKind.wrap .i64 (a0.2.2.2.2.1 - 1))), (16, ptr b0 4)] [0,1] rfl <| st 0 ((.snd (.snd (.snd (.snd (.fst .here)))))) ty3 rfl rfl rfl rfl trivial <| zz <| p 3 [0,1,19] rfl <| yl 0 ((.snd (.snd (.snd (.snd (.fst .here)))))) ty3 rfl rfl rfl trivial rfl <| q 1 [(21, tb ((IntKind.wrap .i64 (a0.2.2.2.2.1 - 1)) == 0))] [0,1] rfl <| za <| rI h rfl (fun hc h => zu <| p 4 [23,25] rfl <| st 0 ((.snd (.snd (.snd (.snd (.snd (.fst .here))))))) ty4 rfl rfl rfl rfl trivial <| p 2 [27] rfl <| st 0 ((.snd (.snd (.snd (.snd (.snd (.snd (.fst .here)))))))) ty4 rfl rfl rfl rfl trivial <| zz <| p 1 [4] rfl <| zf <| zT <| by cases h; exact r_ret1 rfl (.tmp rfl) (fun _ _ g => g) (fun _ _ _ => (.cons_cons _ .slnil))) fun hc h => ?_
   exact zk <| zt <| r_less [0,1] rfl <| r_meetk (a0.1, a0.2.1, a0.2.2.1, a0.2.2.2.1, (IntKind.wrap .i64 (a0.2.2.2.2.1 - 1)), a0.2.2.2.2.2.1, a0.2.2.2.2.2.2) () h rfl rfl
  exact zk <| zt <| r_less [0,1] rfl <| r_meetk (a0.1, a0.2.1, a0.2.2.1, a0.2.2.2.1, a0.2.2.2.2.1, a0.2.2.2.2.2.1, a0.2.2.2.2.2.2) () h rfl rfl
 refine jK h (γ := Unit) (fun (o4 : DiskS) _ => []) (fun (o4 : DiskS) _ => [Res.var b0 64 DT (o4.1, mv0, o4.2.2.1, o4.2.2.2.1, o4.2.2.2.2.1, o4.2.2.2.2.2.1, o4.2.2.2.2.2.2, ())]) (fun k3 h => ?_) fun o4 gg h => ?_
 ·refine zu <| p 3 [0,1,30] rfl <| yl 0 ((.snd (.snd (.fst .here)))) ty3 rfl rfl rfl trivial rfl <| q 2 [(33, tb (decide (o2.2.2.1 > 0)))] [0,1] rfl ?_
  obtain ⟨b5, e, h⟩ := bnd_ex h; rw [e]
  refine bX h fun k6 hk6 h => ?_
  refine r_lsplitk (γ := Unit) 14 (fun (o7 : Bool) _ => [(0, ptr b0 0), (47, tb o7)]) (fun _ _ => [Res.var b0 64 DT (o2.1, mv0, o2.2.2.1, o2.2.2.2.1, o2.2.2.2.2.1, o2.2.2.2.2.2.1, o2.2.2.2.2.2.2, ())]) k6 r ?_ ?_
  ·rcases Bool.eq_false_or_eq_true b5 with hh | hh
   ·rw [hh] at h ⊢
    rw [if_pos rfl] at h
    refine p 3 [0,1,33,36] rfl <| r_guard (by rfl) rfl ?_
    refine yl 0 ((.snd (.snd (.snd (.fst .here))))) ty3 rfl rfl rfl trivial rfl <| q 2 [(39, tb (o2.2.2.2.1 == 0))] [0,1,33] rfl ?_
    obtain ⟨b8, e, h⟩ := bnd_ex h; rw [e]
    refine r_lsplit (γ := Unit) 7 (fun _ => [(0, ptr b0 0), (33, tb true), (46, tb (b8 || (o2.2.2.2.1 == a1)))]) (fun _ => [Res.var b0 64 DT (o2.1, mv0, o2.2.2.1, o2.2.2.2.1, o2.2.2.2.2.1, o2.2.2.2.2.2.1, o2.2.2.2.2.2.2, ())]) ?_ (fun _ => ?_)
    ·clear h
     cases b8
     ·refine p 3 [0,1,33,39,42] rfl <| r_guard (by rfl) rfl ?_
      exact yl 0 ((.snd (.snd (.snd (.fst .here))))) ty3 rfl rfl rfl trivial rfl <| q 3 [(46, tb (o2.2.2.2.1 == a1))] [0,33] rfl <| r_less [0,33,46] rfl <| za <| r_meetg () rfl rfl
     exact p 7 [0,33,46] rfl <| za <| r_meetg () rfl rfl
    exact q 1 [(47, tb (b8 || (o2.2.2.2.1 == a1)))] [0] rfl <| zn <| r_less [0,47] rfl <| zt <| r_meetk (b8 || (o2.2.2.2.1 == a1)) () h rfl rfl
   rw [hh] at h ⊢
   rw [if_neg (by decide)] at h
   exact p 14 [0,47] rfl <| zn <| r_less [0,47] rfl <| zt <| r_meetk false () h rfl rfl
  intro o7 _ h
  rw [← hk6] at h
  try dsimp only at h
  refine za <| rI h rfl (fun hc h => ?_) fun hc h => ?_
  ·refine zu <| p 3 [0,48,50] rfl <| yl 0 ((.snd (.snd (.fst .here)))) ty3 rfl rfl rfl trivial rfl <| q 3 [(52, ti (IntKind.wrap .i64 (o2.2.2.1 - 1))), (54, ptr b0 2)] [0] rfl <| st 0 ((.snd (.snd (.fst .here)))) ty3 rfl rfl rfl rfl trivial <| zz <| p 3 [57] rfl <| yl 0 ((.snd (.snd (.fst .here)))) ty3 rfl rfl rfl trivial rfl <| q 1 [(59, tb ((IntKind.wrap .i64 (o2.2.2.1 - 1)) == 0))] [] rfl <| za <| rI h rfl (fun hc h => zu <| p 1 [4] rfl <| zf <| zT <| by cases h; exact r_ret1 rfl (.tmp rfl) (fun _ _ g => g) (fun _ _ _ => (.cons_cons _ .slnil))) fun hc h => ?_
   exact zk <| zt <| r_less [] rfl <| r_meetk (o2.1, a0.2.1, (IntKind.wrap .i64 (o2.2.2.1 - 1)), o2.2.2.2.1, o2.2.2.2.2.1, o2.2.2.2.2.2.1, o2.2.2.2.2.2.2) () h rfl rfl
  exact zk <| zt <| r_less [] rfl <| r_meetk (o2.1, a0.2.1, o2.2.2.1, o2.2.2.2.1, o2.2.2.2.2.1, o2.2.2.2.2.2.1, o2.2.2.2.2.2.2) () h rfl rfl
 refine zu <| p 1 [4] rfl <| zf ?_
 cases h
 exact r_ret1 rfl (.tmp rfl) (fun _ _ g => g) (fun _ _ _ => (.cons_cons _ .slnil))

theorem disk_Disk_Write_ok (p0 : Value) (a0 : DiskS) (a1 : List Int) (a2 : Int) (a3 : List Int) (r : Int × DiskS) (h : disk_Disk_Write a0 a1 a2 a3 = some r) : Fn Try.prog 30 [tp p0, ts a1, ti a2, ts a3] [Res.disk Try.prog dI p0 a0] (fun _ => ti r.1) (fun _ => [Res.disk Try.prog dI p0 r.2]) := by
 unfold disk_Disk_Write at h
 refine enter Try.func30 rfl 144 rfl rfl fun F => ?_
 refine r_undisk fun b2 mv1 hp => ?_
 subst hp
 refine zu <| p 1 [0,1,2,3] rfl <| za <| zs <| zu <| p 3 [0,1,2,3,17] rfl <| yl 0 ((.snd (.snd (.snd (.snd (.snd (.fst .here))))))) ty4 rfl rfl rfl trivial rfl <| za <| rI h rfl (fun hc h => zu <| p 1 [8] rfl <| zf <| zT <| r_disk (P := Try.prog) (I := dI) (D := a0) <| by cases h; exact r_ret1 rfl (.tmp rfl) (fun _ _ g => g) (fun _ _ _ => (.cons_cons _ .slnil))) fun hc h => zy <| p 3 [0,1,2,3,22] rfl <| yl 0 ((.snd (.fst .here))) ty62 rfl rfl rfl trivial rfl <| p 1 [0,1,2,3,23,24] rfl <| pk [1,0] rfl ?_
 refine r_dlook kstr rfl rfl Try.underlying62 zNV rfl fun q3 => ?_
 refine q 5 [(9, tp q3), (10, tb (Option.isSome (pget .str a1 a0.2.1)))] [0,1,2,3] rfl ?_
 obtain ⟨there4, e, h⟩ := bnd_ex h; rw [e]
 refine zz <| p 1 [0,1,2,3,9,10,11] rfl <| za <| jK h (γ := Value) (fun (o6 : Int) g7 => [(0, ptr b2 0), (1, ts a1), (2, ti a2), (3, ts a3), (9, tp g7), (10, tb there4), (11, ti o6)]) (fun (o6 : Int) g7 => [Res.dat Try.prog dI mv1 a0.2.1 a1 g7, Res.var b2 64 DT (a0.1, mv1, a0.2.2.1, a0.2.2.2.1, a0.2.2.2.2.1, a0.2.2.2.2.2.1, a0.2.2.2.2.2.2, ())]) (fun k5 h => ?_) fun o6 g7 h => ?_
 ·refine zu <| p 1 [0,1,2,3,9,10,11,28] rfl <| za <| rI h rfl (fun hc h => ?_) fun hc h => ?_
  ·refine cB h fun f49 hf49 h => r_dfocus kstr hf49 fun fb50 sv51 tv52 dv53 hq => ?_
   rw [hq]
   clear hq
   refine zr <| p 3 [0,1,2,3,9,10,31] rfl <| yl 0 ((.fst .here)) tx0 rfl rfl rfl trivial rfl <| y (y_lenown tabOk 1 rfl rfl rfl) rfl ?_
   refine q 1 [(11, ti (List.length f49.1 : Int))] [0,1,2,3,9,10] rfl ?_
   obtain ⟨size54, e, h⟩ := bnd_ex h; rw [e]
   refine za <| r_dunfocus_same (P := Try.prog) (I := dI) kstr hf49 ?_
   exact r_less [0,1,2,3,9,10,11] rfl <| r_meetk size54 (.pointer (some ⟨fb50, 0, none⟩)) h rfl rfl
  exact zk <| zt <| r_less [0,1,2,3,9,10,11] rfl <| r_meetk 0 q3 h rfl rfl
 refine zs <| zb <| zu <| p 1 [0,1,2,3,9,10,11,35] rfl <| cB h fun r8 hr8 h => r_calls (disk_isName_ok _ _ hr8) (by kernel_rfl) rfl rfl <| p 2 [0,1,2,3,9,10,11,38] rfl ?_
 obtain ⟨b9, e, h⟩ := bnd_ex h; rw [e]
 refine r_lsplit (γ := Unit) 3 (fun _ => [(0, ptr b2 0), (1, ts a1), (2, ti a2), (3, ts a3), (9, tp g7), (10, tb there4), (11, ti o6), (41, tb (b9 || (decide (a2 < 0))))]) (fun _ => [Res.dat Try.prog dI mv1 a0.2.1 a1 g7, Res.var b2 64 DT (a0.1, mv1, a0.2.2.1, a0.2.2.2.1, a0.2.2.2.2.1, a0.2.2.2.2.2.1, a0.2.2.2.2.2.2, ())]) ?_ (fun _ => ?_)
 ·clear h
  cases b9
  ·exact p 3 [0,1,2,3,9,10,11,41] rfl <| za <| r_meetg () rfl rfl
  exact p 3 [0,1,2,3,9,10,11,41] rfl <| za <| r_meetg () rfl rfl
 refine p 1 [0,1,2,3,9,10,11,42] rfl ?_
 obtain ⟨b10, e, h⟩ := bnd_ex h; rw [e]
 refine r_lsplit (γ := Unit) 4 (fun _ => [(0, ptr b2 0), (1, ts a1), (2, ti a2), (3, ts a3), (9, tp g7), (10, tb there4), (11, ti o6), (46, tb (b10 || (decide (a2 > o6))))]) (fun _ => [Res.dat Try.prog dI mv1 a0.2.1 a1 g7, Res.var b2 64 DT (a0.1, mv1, a0.2.2.1, a0.2.2.2.1, a0.2.2.2.2.1, a0.2.2.2.2.2.1, a0.2.2.2.2.2.2, ())]) ?_ (fun _ => ?_)
 ·clear h
  cases b10
  ·exact p 4 [0,1,2,3,9,10,11,46] rfl <| za <| r_meetg () rfl rfl
  exact p 4 [0,1,2,3,9,10,11,46] rfl <| za <| r_meetg () rfl rfl
 refine p 1 [0,1,2,3,9,10,11,34] rfl <| za <| rI h rfl (fun hc h => zu <| p 1 [8] rfl <| zf <| zB <| zT <| r_imp_at (R' := Res.dfiles Try.prog dI mv1 a0.2.1) 0 rfl dat_dfiles <| pk [1,0] rfl <| r_disk (P := Try.prog) (I := dI) (D := a0) <| by cases h; exact r_ret1 rfl (.tmp rfl) (fun _ _ g => g) (fun _ _ _ => (.cons_cons _ .slnil))) fun hc h => zu <| q 6 [(47, tb (decide ((IntKind.wrap .i64 (a2 + (List.length a3 : Int))) > 1048576)))] [0,1,2,3,9,10,11] rfl <| za <| rI h rfl (fun hc h => zu <| p 1 [8] rfl <| zf <| zB <| zT <| r_imp_at (R' := Res.dfiles Try.prog dI mv1 a0.2.1) 0 rfl dat_dfiles <| pk [1,0] rfl <| r_disk (P := Try.prog) (I := dI) (D := a0) <| by cases h; exact r_ret1 rfl (.tmp rfl) (fun _ _ g => g) (fun _ _ _ => (.cons_cons _ .slnil))) fun hc h => zu <| p 3 [0,1,2,3,9,10,11,56] rfl ?_
 obtain ⟨b11, e, h⟩ := bnd_ex h; rw [e]
 refine bX h fun k12 hk12 h => ?_
 refine r_lsplitk (γ := Unit) 7 (fun (o13 : Bool) _ => [(0, ptr b2 0), (1, ts a1), (2, ti a2), (3, ts a3), (9, tp g7), (10, tb there4), (11, ti o6), (63, tb o13)]) (fun _ _ => [Res.dat Try.prog dI mv1 a0.2.1 a1 g7, Res.var b2 64 DT (a0.1, mv1, a0.2.2.1, a0.2.2.2.1, a0.2.2.2.2.1, a0.2.2.2.2.2.1, a0.2.2.2.2.2.2, ())]) k12 r ?_ ?_
 ·rcases Bool.eq_false_or_eq_true b11 with hh | hh
  ·rw [hh] at h ⊢
   rw [if_pos rfl] at h
   refine p 3 [0,1,2,3,9,10,11,56,59] rfl <| r_guard (by rfl) rfl ?_
   refine yl 1 ((.snd (.fst .here))) ty62 rfl rfl rfl trivial rfl <| r_guard (by rfl) rfl ?_
   refine iE h fun hc h => y (y_dlen kstr 0 rfl rfl Try.underlying62 hc) rfl ?_
   exact q 2 [(63, tb (decide ((List.length a0.2.1 : Int) ≥ 16)))] [0,1,2,3,9,10,11] rfl <| zn <| r_less [0,1,2,3,9,10,11,63] rfl <| zt <| r_meetk (decide ((List.length a0.2.1 : Int) ≥ 16)) () h rfl rfl
  rw [hh] at h ⊢
  rw [if_neg (by decide)] at h
  exact p 7 [0,1,2,3,9,10,11,63] rfl <| zn <| r_less [0,1,2,3,9,10,11,63] rfl <| zt <| r_meetk false () h rfl rfl
 intro o13 _ h
 rw [← hk12] at h
 try dsimp only at h
 refine p 1 [0,1,2,3,9,10,11,53] rfl <| za <| rI h rfl (fun hc h => zu <| p 1 [8] rfl <| zf <| zB <| zT <| r_imp_at (R' := Res.dfiles Try.prog dI mv1 a0.2.1) 0 rfl dat_dfiles <| pk [1,0] rfl <| r_disk (P := Try.prog) (I := dI) (D := a0) <| by cases h; exact r_ret1 rfl (.tmp rfl) (fun _ _ g => g) (fun _ _ _ => (.cons_cons _ .slnil))) fun hc h => zs <| r_any (by kernel_rfl) ?_
 refine a_float (i := 0) (t := ptr b2 0) (blind_then (blind_block (blind_then blind_body))) rfl (by kernel_rfl) (by kernel_rfl) (by kernel_rfl) (y_pure tabOk rfl) rfl ?_
 refine a_float (i := 2) (t := ti a2) (blind_then (blind_block (blind_then blind_body))) rfl (by kernel_rfl) (by kernel_rfl) (by kernel_rfl) (y_pure tabOk rfl) rfl ?_
 refine a_float (i := 3) (t := ts a3) (blind_then (blind_block (blind_then blind_body))) rfl (by kernel_rfl) (by kernel_rfl) (by kernel_rfl) (y_pure tabOk rfl) rfl ?_
 refine a_float (i := 4) (t := ti (List.length a3 : Int)) (blind_then (blind_block (blind_then blind_body))) rfl (by kernel_rfl) (by kernel_rfl) (by kernel_rfl) (y_pure tabOk rfl) rfl ?_
 refine a_float (i := 5) (t := ti (IntKind.wrap .i64 (a2 + (List.length a3 : Int)))) (blind_then (blind_block (blind_then blind_body))) rfl (by kernel_rfl) (by kernel_rfl) (by kernel_rfl) (y_pure tabOk rfl) rfl ?_
 refine a_float (i := 6) (t := ti o6) (blind_then (blind_block (blind_then blind_body))) rfl (by kernel_rfl) (by kernel_rfl) (by kernel_rfl) (y_pure tabOk rfl) rfl ?_
 refine a_float (i := 7) (t := ti (IntKind.wrap .i64 ((IntKind.wrap .i64 (a2 + (List.length a3 : Int))) - o6))) (blind_then (blind_block (blind_then blind_body))) rfl (by kernel_rfl) (by kernel_rfl) (by kernel_rfl) (y_pure tabOk rfl) rfl ?_
 refine a_float (i := 8) (t := ti (max 0 (IntKind.wrap .i64 ((IntKind.wrap .i64 (a2 + (List.length a3 : Int))) - o6)))) (blind_then (blind_block (blind_then blind_body))) rfl (by kernel_rfl) (by kernel_rfl) (by kernel_rfl) (y_max rfl rfl) rfl ?_
 refine a_float (i := 10) (t := ptr b2 0) (blind_then (blind_block (blind_then blind_body))) rfl (by kernel_rfl) (by kernel_rfl) (by kernel_rfl) (y_pure tabOk rfl) rfl ?_
 refine a_two (i := 1) (j := 11) (by kernel_rfl) rfl rfl ?_ ?_
 ·refine pk [1,0] rfl <| cB h fun r14 hr14 h => r_call (Lo := []) (disk_Disk_Used_ok b2 mv1 a1 g7 a0 _ hr14) (by kernel_rfl) (List.Perm.refl _) rfl rfl fun _ => ?_
  refine za <| r_less [0,1,2,3,9,10,11,66,73,75] rfl <| a_float (i := 9) (t := ti (IntKind.wrap .i64 (r14 + (max 0 (IntKind.wrap .i64 ((IntKind.wrap .i64 (a2 + (List.length a3 : Int))) - o6)))))) (blind_then (blind_block (blind_then blind_body))) rfl (by kernel_rfl) (by kernel_rfl) (by kernel_rfl) (y_pure tabOk rfl) rfl ?_
  refine a_one (i := 11) (by kernel_rfl) rfl ?_
  refine q 1 [(74, ti (IntKind.wrap .i64 (r14 + (max 0 (IntKind.wrap .i64 ((IntKind.wrap .i64 (a2 + (List.length a3 : Int))) - o6)))))), (76, ptr b2 0)] [0,1,2,3,9,10,11] rfl <| za <| r_less [0,1,2,3,9,10,11,74,76] rfl <| a_float (i := 12) (t := ptr b2 0) (blind_then (blind_block (blind_then blind_body))) rfl (by kernel_rfl) (by kernel_rfl) (by kernel_rfl) (y_pure tabOk rfl) rfl ?_
  refine a_one (i := 13) (by kernel_rfl) rfl ?_
  refine yl 0 ((.fst .here)) ty3 rfl rfl rfl trivial rfl <| za <| r_less [0,1,2,3,9,10,11,74,78] rfl <| a_float (i := 14) (t := tb (decide ((IntKind.wrap .i64 (r14 + (max 0 (IntKind.wrap .i64 ((IntKind.wrap .i64 (a2 + (List.length a3 : Int))) - o6))))) > a0.1))) (blind_then (blind_block (blind_then blind_body))) rfl (by kernel_rfl) (by kernel_rfl) (by kernel_rfl) (y_pure tabOk rfl) rfl ?_
  refine a_float (i := 15) (t := tb (decide ((IntKind.wrap .i64 (r14 + (max 0 (IntKind.wrap .i64 ((IntKind.wrap .i64 (a2 + (List.length a3 : Int))) - o6))))) > a0.1))) (blind_then (blind_block (blind_then blind_body))) rfl (by kernel_rfl) (by kernel_rfl) (by kernel_rfl) (y_pure tabOk rfl) rfl ?_
  refine a_end (by kernel_rfl) ?_
  refine zt <| rI h rfl (fun hc h => zu <| p 1 [8] rfl <| zf <| zB <| zT <| r_imp_at (R' := Res.dfiles Try.prog dI mv1 a0.2.1) 1 rfl dat_dfiles <| r_disk (P := Try.prog) (I := dI) (D := a0) <| by cases h; exact r_ret1 rfl (.tmp rfl) (fun _ _ g => g) (fun _ _ _ => (.cons_cons _ .slnil))) fun hc h => zk <| zi <| zt <| zs <| zu <| p 1 [0,1,2,3,9,10,11,80] rfl <| cB h fun r15 hr15 h => r_call (Lo := [Res.dat Try.prog dI mv1 a0.2.1 a1 g7]) (disk_Disk_counted_ok b2 mv1 a0 1 _ hr15) (by kernel_rfl) (List.Perm.refl _) rfl rfl fun _ => ?_
  refine q 1 [(12, ti r15.1)] [0,1,2,3,9,10,11] rfl <| zz <| q 2 [(83, tb (r15.1 != 0))] [0,1,2,3,9,10,11,12] rfl <| za <| rI h rfl (fun hc h => zu <| q 2 [(8, ti r15.1)] [] rfl <| zf <| zT <| r_imp_at (R' := Res.dfiles Try.prog dI mv1 a0.2.1) 1 rfl dat_dfiles <| r_disk (P := Try.prog) (I := dI) (D := (r15.2.1, a0.2.1, r15.2.2.2.1, r15.2.2.2.2.1, r15.2.2.2.2.2.1, r15.2.2.2.2.2.2.1, r15.2.2.2.2.2.2.2)) <| by cases h; exact r_ret1 rfl (.tmp rfl) (fun _ _ g => g) (fun _ _ _ => (.cons_cons _ .slnil))) fun hc h => zk <| zt <| jK h (γ := Value) (fun (o17 : (List (List Int × FileS))) g18 => [(2, ti a2), (3, ts a3), (9, tp g18), (11, ti o6)]) (fun (o17 : (List (List Int × FileS))) g18 => [Res.dat Try.prog dI mv1 o17 a1 g18, Res.var b2 64 DT (r15.2.1, mv1, r15.2.2.2.1, r15.2.2.2.2.1, r15.2.2.2.2.2.1, r15.2.2.2.2.2.2.1, r15.2.2.2.2.2.2.2, ())]) (fun k16 h => ?_) fun o17 g18 h => ?_
  ·refine zu <| p 2 [0,1,2,3,9,11,86] rfl <| za <| rI h rfl (fun hc h => ?_) fun hc h => ?_
   ·refine zu <| r_makeMap 3 (.int .i64) (.int .i64) rfl fun v47 => ?_
    refine r_redirty (P := Try.prog) (I := dI) (keys := []) 0 rfl rfl ?_
    refine y (y_build rfl zf82 rfl rfl (.cons ((.snd (.snd (.fst .here)))) rfl rfl (ok_snd (ok_snd (ok_fst ok_here))) .nil)) rfl ?_
    refine r_box rfl rfl fun b48 => r_nilown (.slice none 0 0) rfl 5 (.int .u8) ?_
    refine r_nilown (.slice none 0 0) rfl 5 (.int .u8) ?_
    refine p 1 [0,1,2,3,9,11] rfl <| za <| zr <| p 3 [1,2,3,9,11,92] rfl <| yl 4 ((.snd (.fst .here))) ty62 rfl rfl rfl trivial rfl <| p 2 [2,3,9,11,93,94,95] rfl <| r_imp_at (R' := Res.dfiles Try.prog dI mv1 a0.2.1) 5 rfl dat_dfiles <| iE h fun hc h => pk [2,0,0,0,1,0] rfl <| r_dinsert (P := Try.prog) (I := dI) kstr rfl rfl rfl Try.underlying62 hc ?_
    exact za <| r_less [2,3,9,11] rfl <| r_meetk (pput .str a1 ([], [], []) a0.2.1) (.pointer (some ⟨b48, 0, none⟩)) h rfl rfl
   exact zk <| zt <| r_less [2,3,9,11] rfl <| pk [1,0] rfl <| r_meetk a0.2.1 g7 h rfl rfl
  refine jK h (γ := Value) (fun (o20 : (List (List Int × FileS))) g21 => [(2, ti a2), (3, ts a3), (9, tp g21)]) (fun (o20 : (List (List Int × FileS))) g21 => [Res.dat Try.prog dI mv1 o20 a1 g21, Res.var b2 64 DT (r15.2.1, mv1, r15.2.2.2.1, r15.2.2.2.2.1, r15.2.2.2.2.2.1, r15.2.2.2.2.2.2.1, r15.2.2.2.2.2.2.2, ())]) (fun k19 h => ?_) fun o20 g21 h => ?_
  ·refine zu <| q 5 [(2, ti a2), (3, ts a3), (9, tp g18), (11, ti o6), (13, ti (IntKind.wrap .i64 (a2 + (List.length a3 : Int))))] [] rfl ?_
   obtain ⟨end40, e, h⟩ := bnd_ex h; rw [e]
   refine zz <| p 3 [2,3,9,11,13,102] rfl <| za <| rI h rfl (fun hc h => ?_) fun hc h => ?_
   ·refine cB h fun f41 hf41 h => r_dfocus kstr hf41 fun fb42 sv43 tv44 dv45 hq => ?_
    rw [hq]
    clear hq
    refine zr <| p 4 [2,3,9,11,13,103,106] rfl <| yl 0 ((.fst .here)) tx0 rfl rfl rfl trivial rfl <| p 3 [2,3,9,103,107,110] rfl <| iE h fun hc h => r_appendn tabOk zf5 1 rfl rfl rfl hc.1 rfl el5 Try.underlying3 hc.2 rfl fun v46 => ?_
    refine p 2 [2,3,9,111,113] rfl <| st 0 ((.fst .here)) tx0 rfl rfl rfl rfl trivial <| za <| r_dunfocus (P := Try.prog) (I := dI) kstr ?_
    exact r_less [2,3,9] rfl <| r_meetk (pset .str a1 ((f41.1 ++ List.replicate (Int.toNat (IntKind.wrap .i64 (end40 - o6))) 0), f41.2.1, f41.2.2) o17) (.pointer (some ⟨fb42, 0, none⟩)) h rfl rfl
   exact zk <| zt <| r_less [2,3,9] rfl <| r_meetk o17 g18 h rfl rfl
  refine zs <| cB h fun f22 hf22 h => r_dfocus kstr hf22 fun fb23 sv24 tv25 dv26 hq => ?_
  rw [hq]
  clear hq
  refine zr <| p 3 [2,3,9,116] rfl <| yl 0 ((.fst .here)) tx0 rfl rfl rfl trivial rfl <| p 1 [2,3,9,117,118] rfl ?_
  obtain ⟨hs27, h⟩ := ite_ex h
  refine y (y_osub tabOk (i := a2) (j := (List.length f22.1 : Int)) rfl (sub_own 1 rfl) rfl rfl hs27.1 hs27.2.1 hs27.2.2 rfl ty5) rfl ?_
  refine q 1 [(119, .one (.raw (.slice none 0 0)) (subv (T.size (.int .u8)) sv24 (Int.toNat a2) (Int.toNat (List.length f22.1 : Int)))), (120, ts a3)] [2,3,9] rfl <| r_copyo tabOk 1 (i := (Int.toNat a2)) rfl rfl rfl (by have := hs27.2.1; omega) rfl ty5 rfl fun m28 => ?_
  refine za <| jK h (γ := Unit) (fun (o30 : List Int) _ => []) (fun (o30 : List Int) _ => [Res.var fb23 82 FT (sv24, tv25, dv26, ()), Res.own sv24 5 (.int .u8) (laidOver f22.1 (Int.toNat a2) a3), Res.own tv25 5 (.int .u8) f22.2.1, Res.dirty Try.prog dI dv26 o30, Res.dhole Try.prog dI mv1 o20 a1 (.pointer (some ⟨fb23, 0, none⟩)), Res.var b2 64 DT (r15.2.1, mv1, r15.2.2.2.1, r15.2.2.2.2.1, r15.2.2.2.2.2.1, r15.2.2.2.2.2.2.1, r15.2.2.2.2.2.2.2, ())]) (fun k29 h => ?_) fun o30 gg h => ?_
  ·refine zu <| p 3 [2,3,9,14] rfl ?_
   obtain ⟨s31, e, h⟩ := bnd_ex h; rw [e]
   refine za <| zb <| r_less [2,3,9,14] rfl <| r_loopg (γ := Unit) (fun (s34 : Int × List Int) _ => [(2, ti a2), (3, ts a3), (9, ptr fb23 0), (14, ti s34.1)]) (fun (s34 : Int × List Int) _ => [Res.var fb23 82 FT (sv24, tv25, dv26, ()), Res.own sv24 5 (.int .u8) (laidOver f22.1 (Int.toNat a2) a3), Res.own tv25 5 (.int .u8) f22.2.1, Res.dirty Try.prog dI dv26 s34.2, Res.dhole Try.prog dI mv1 o20 a1 (.pointer (some ⟨fb23, 0, none⟩)), Res.var b2 64 DT (r15.2.1, mv1, r15.2.2.2.1, r15.2.2.2.2.1, r15.2.2.2.2.2.1, r15.2.2.2.2.2.2.1, r15.2.2.2.2.2.2.2, ())]) (disk_Disk_Write_l0 a2 a3 k29) (s31, f22.2.2) () h rfl rfl ?_
   clear h
   intro m35 s34 gg h
   cases m35 with
   | zero => cases h
   | succ m35 =>
   simp only [disk_Disk_Write_l0] at h
   refine zs <| zu <| q 7 [(14, ti s34.1), (130, tb (decide ((IntKind.wrap .i64 (s34.1 * 64)) < (IntKind.wrap .i64 (a2 + (List.length a3 : Int))))))] [2,3,9] rfl ?_
   obtain ⟨t36, e, h⟩ := bnd_ex h; rw [e]
   refine p 1 [2,3,9,14,131] rfl ?_
   refine r_lsplit (γ := Unit) 3 (fun _ => [(2, ti a2), (3, ts a3), (9, ptr fb23 0), (14, ti s34.1), (134, tb (t36 && (a3 != [])))]) (fun _ => [Res.var fb23 82 FT (sv24, tv25, dv26, ()), Res.own sv24 5 (.int .u8) (laidOver f22.1 (Int.toNat a2) a3), Res.own tv25 5 (.int .u8) f22.2.1, Res.dirty Try.prog dI dv26 s34.2, Res.dhole Try.prog dI mv1 o20 a1 (.pointer (some ⟨fb23, 0, none⟩)), Res.var b2 64 DT (r15.2.1, mv1, r15.2.2.2.1, r15.2.2.2.2.1, r15.2.2.2.2.2.1, r15.2.2.2.2.2.2.1, r15.2.2.2.2.2.2.2, ())]) ?_ (fun _ => ?_)
   ·clear h
    rcases Bool.eq_false_or_eq_true t36 with hh | hh
    ·rw [hh]
     exact q 3 [(134, tb (a3 != []))] [2,3,9,14] rfl <| r_less [2,3,9,14,134] rfl <| za <| r_meetg () rfl rfl
    rw [hh]
    exact p 3 [2,3,9,14,134] rfl <| za <| r_meetg () rfl rfl
   refine za <| rI h rfl (fun hc h => ?_) fun hc h => ?_
   ·refine zk <| zt <| zs <| zb <| zr <| p 3 [2,3,9,14,139] rfl <| yl 0 ((.snd (.snd (.fst .here)))) ty80 rfl rfl rfl trivial rfl <| q 1 [(140, .one (.raw (.map none)) dv26), (141, ti s34.1)] [2,3,9,14] rfl <| r_undirty 3 rfl fun l38 hl38 => ?_
    refine y (y_look 3 rfl rfl rfl kint Try.underlying80 zf3 rfl) rfl ?_
    refine q 1 [(143, ti (IntKind.wrap .i64 (((pget (.int .i64) s34.1 l38).getD 0) + 1)))] [2,3,9,14,140,141] rfl <| iE h fun hc h => r_mapUpdate 3 rfl rfl rfl rfl kint Try.underlying80 (by rw [← hl38, List.length_map] at hc; exact hc) ?_
    refine r_redirty (P := Try.prog) (I := dI) (keys := kput s34.1 s34.2) 3 rfl (by rw [kput_keys, hl38]) ?_
    refine zn <| zi <| zt <| zr <| q 3 [(14, ti (IntKind.wrap .i64 (s34.1 + 1)))] [2,3,9] rfl ?_
    obtain ⟨s39, e, h⟩ := bnd_ex h; rw [e]
    exact za <| r_less [2,3,9,14] rfl <| r_backg (s39, (kput s34.1 s34.2)) () (Nat.lt_succ_self _) h rfl rfl
   exact zx <| ze <| ze <| zq <| zt <| r_less [] rfl <| r_meetk s34.2 () h rfl rfl
  refine zu <| p 1 [8] rfl <| zf <| r_dunfocus (P := Try.prog) (I := dI) kstr ?_
  refine r_imp_at (R' := Res.dfiles Try.prog dI mv1 (pset .str a1 ((laidOver f22.1 (Int.toNat a2) a3), f22.2.1, o30) o20)) 0 rfl dat_dfiles <| pk [1,0] rfl <| r_disk (P := Try.prog) (I := dI) (D := (r15.2.1, (pset .str a1 ((laidOver f22.1 (Int.toNat a2) a3), f22.2.1, o30) o20), r15.2.2.2.1, r15.2.2.2.2.1, r15.2.2.2.2.2.1, r15.2.2.2.2.2.2.1, r15.2.2.2.2.2.2.2)) ?_
  cases h
  exact r_ret1 rfl (.tmp rfl) (fun _ _ g => g) (fun _ _ _ => (.cons_cons _ .slnil))
 refine q 1 [(65, ptr b2 0), (73, ti (max 0 (IntKind.wrap .i64 ((IntKind.wrap .i64 (a2 + (List.length a3 : Int))) - o6)))), (76, ptr b2 0)] [0,1,2,3,9,10,11] rfl <| za <| r_less [0,1,2,3,9,10,11,65,73,76] rfl <| a_float (i := 12) (t := ptr b2 0) (blind_then (blind_block (blind_then blind_body))) rfl (by kernel_rfl) (by kernel_rfl) (by kernel_rfl) (y_pure tabOk rfl) rfl ?_
 refine a_two (i := 1) (j := 13) (by kernel_rfl) rfl rfl ?_ ?_
 ·refine pk [1,0] rfl <| cB h fun r14 hr14 h => r_call (Lo := []) (disk_Disk_Used_ok b2 mv1 a1 g7 a0 _ hr14) (by kernel_rfl) (List.Perm.refl _) rfl rfl fun _ => ?_
  refine za <| r_less [0,1,2,3,9,10,11,66,73,77] rfl <| a_float (i := 9) (t := ti (IntKind.wrap .i64 (r14 + (max 0 (IntKind.wrap .i64 ((IntKind.wrap .i64 (a2 + (List.length a3 : Int))) - o6)))))) (blind_then (blind_block (blind_then blind_body))) rfl (by kernel_rfl) (by kernel_rfl) (by kernel_rfl) (y_pure tabOk rfl) rfl ?_
  refine a_one (i := 13) (by kernel_rfl) rfl ?_
  refine yl 0 ((.fst .here)) ty3 rfl rfl rfl trivial rfl <| za <| r_less [0,1,2,3,9,10,11,74,78] rfl <| a_float (i := 14) (t := tb (decide ((IntKind.wrap .i64 (r14 + (max 0 (IntKind.wrap .i64 ((IntKind.wrap .i64 (a2 + (List.length a3 : Int))) - o6))))) > a0.1))) (blind_then (blind_block (blind_then blind_body))) rfl (by kernel_rfl) (by kernel_rfl) (by kernel_rfl) (y_pure tabOk rfl) rfl ?_
  refine a_float (i := 15) (t := tb (decide ((IntKind.wrap .i64 (r14 + (max 0 (IntKind.wrap .i64 ((IntKind.wrap .i64 (a2 + (List.length a3 : Int))) - o6))))) > a0.1))) (blind_then (blind_block (blind_then blind_body))) rfl (by kernel_rfl) (by kernel_rfl) (by kernel_rfl) (y_pure tabOk rfl) rfl ?_
  refine a_end (by kernel_rfl) ?_
  refine zt <| rI h rfl (fun hc h => zu <| p 1 [8] rfl <| zf <| zB <| zT <| r_imp_at (R' := Res.dfiles Try.prog dI mv1 a0.2.1) 1 rfl dat_dfiles <| r_disk (P := Try.prog) (I := dI) (D := a0) <| by cases h; exact r_ret1 rfl (.tmp rfl) (fun _ _ g => g) (fun _ _ _ => (.cons_cons _ .slnil))) fun hc h => zk <| zi <| zt <| zs <| zu <| p 1 [0,1,2,3,9,10,11,80] rfl <| cB h fun r15 hr15 h => r_call (Lo := [Res.dat Try.prog dI mv1 a0.2.1 a1 g7]) (disk_Disk_counted_ok b2 mv1 a0 1 _ hr15) (by kernel_rfl) (List.Perm.refl _) rfl rfl fun _ => ?_
  refine q 1 [(12, ti r15.1)] [0,1,2,3,9,10,11] rfl <| zz <| q 2 [(83, tb (r15.1 != 0))] [0,1,2,3,9,10,11,12] rfl <| za <| rI h rfl (fun hc h => zu <| q 2 [(8, ti r15.1)] [] rfl <| zf <| zT <| r_imp_at (R' := Res.dfiles Try.prog dI mv1 a0.2.1) 1 rfl dat_dfiles <| r_disk (P := Try.prog) (I := dI) (D := (r15.2.1, a0.2.1, r15.2.2.2.1, r15.2.2.2.2.1, r15.2.2.2.2.2.1, r15.2.2.2.2.2.2.1, r15.2.2.2.2.2.2.2)) <| by cases h; exact r_ret1 rfl (.tmp rfl) (fun _ _ g => g) (fun _ _ _ => (.cons_cons _ .slnil))) fun hc h => zk <| zt <| jK h (γ := Value) (fun (o17 : (List (List Int × FileS))) g18 => [(2, ti a2), (3, ts a3), (9, tp g18), (11, ti o6)]) (fun (o17 : (List (List Int × FileS))) g18 => [Res.dat Try.prog dI mv1 o17 a1 g18, Res.var b2 64 DT (r15.2.1, mv1, r15.2.2.2.1, r15.2.2.2.2.1, r15.2.2.2.2.2.1, r15.2.2.2.2.2.2.1, r15.2.2.2.2.2.2.2, ())]) (fun k16 h => ?_) fun o17 g18 h => ?_
  ·refine zu <| p 2 [0,1,2,3,9,11,86] rfl <| za <| rI h rfl (fun hc h => ?_) fun hc h => ?_
   ·refine zu <| r_makeMap 3 (.int .i64) (.int .i64) rfl fun v47 => ?_
    refine r_redirty (P := Try.prog) (I := dI) (keys := []) 0 rfl rfl ?_
    refine y (y_build rfl zf82 rfl rfl (.cons ((.snd (.snd (.fst .here)))) rfl rfl (ok_snd (ok_snd (ok_fst ok_here))) .nil)) rfl ?_
    refine r_box rfl rfl fun b48 => r_nilown (.slice none 0 0) rfl 5 (.int .u8) ?_
    refine r_nilown (.slice none 0 0) rfl 5 (.int .u8) ?_
    refine p 1 [0,1,2,3,9,11] rfl <| za <| zr <| p 3 [1,2,3,9,11,92] rfl <| yl 4 ((.snd (.fst .here))) ty62 rfl rfl rfl trivial rfl <| p 2 [2,3,9,11,93,94,95] rfl <| r_imp_at (R' := Res.dfiles Try.prog dI mv1 a0.2.1) 5 rfl dat_dfiles <| iE h fun hc h => pk [2,0,0,0,1,0] rfl <| r_dinsert (P := Try.prog) (I := dI) kstr rfl rfl rfl Try.underlying62 hc ?_
    exact za <| r_less [2,3,9,11] rfl <| r_meetk (pput .str a1 ([], [], []) a0.2.1) (.pointer (some ⟨b48, 0, none⟩)) h rfl rfl
   exact zk <| zt <| r_less [2,3,9,11] rfl <| pk [1,0] rfl <| r_meetk a0.2.1 g7 h rfl rfl
  refine jK h (γ := Value) (fun (o20 : (List (List Int × FileS))) g21 => [(2, ti a2), (3, ts a3), (9, tp g21)]) (fun (o20 : (List (List Int × FileS))) g21 => [Res.dat Try.prog dI mv1 o20 a1 g21, Res.var b2 64 DT (r15.2.1, mv1, r15.2.2.2.1, r15.2.2.2.2.1, r15.2.2.2.2.2.1, r15.2.2.2.2.2.2.1, r15.2.2.2.2.2.2.2, ())]) (fun k19 h => ?_) fun o20 g21 h => ?_
  ·refine zu <| q 5 [(2, ti a2), (3, ts a3), (9, tp g18), (11, ti o6), (13, ti (IntKind.wrap .i64 (a2 + (List.length a3 : Int))))] [] rfl ?_
   obtain ⟨end40, e, h⟩ := bnd_ex h; rw [e]
   refine zz <| p 3 [2,3,9,11,13,102] rfl <| za <| rI h rfl (fun hc h => ?_) fun hc h => ?_
   ·refine cB h fun f41 hf41 h => r_dfocus kstr hf41 fun fb42 sv43 tv44 dv45 hq => ?_
    rw [hq]
    clear hq
    refine zr <| p 4 [2,3,9,11,13,103,106] rfl <| yl 0 ((.fst .here)) tx0 rfl rfl rfl trivial rfl <| p 3 [2,3,9,103,107,110] rfl <| iE h fun hc h => r_appendn tabOk zf5 1 rfl rfl rfl hc.1 rfl el5 Try.underlying3 hc.2 rfl fun v46 => ?_
    refine p 2 [2,3,9,111,113] rfl <| st 0 ((.fst .here)) tx0 rfl rfl rfl rfl trivial <| za <| r_dunfocus (P := Try.prog) (I := dI) kstr ?_
    exact r_less [2,3,9] rfl <| r_meetk (pset .str a1 ((f41.1 ++ List.replicate (Int.toNat (IntKind.wrap .i64 (end40 - o6))) 0), f41.2.1, f41.2.2) o17) (.pointer (some ⟨fb42, 0, none⟩)) h rfl rfl
   exact zk <| zt <| r_less [2,3,9] rfl <| r_meetk o17 g18 h rfl rfl
  refine zs <| cB h fun f22 hf22 h => r_dfocus kstr hf22 fun fb23 sv24 tv25 dv26 hq => ?_
  rw [hq]
  clear hq
  refine zr <| p 3 [2,3,9,116] rfl <| yl 0 ((.fst .here)) tx0 rfl rfl rfl trivial rfl <| p 1 [2,3,9,117,118] rfl ?_
  obtain ⟨hs27, h⟩ := ite_ex h
  refine y (y_osub tabOk (i := a2) (j := (List.length f22.1 : Int)) rfl (sub_own 1 rfl) rfl rfl hs27.1 hs27.2.1 hs27.2.2 rfl ty5) rfl ?_
  refine q 1 [(119, .one (.raw (.slice none 0 0)) (subv (T.size (.int .u8)) sv24 (Int.toNat a2) (Int.toNat (List.length f22.1 : Int)))), (120, ts a3)] [2,3,9] rfl <| r_copyo tabOk 1 (i := (Int.toNat a2)) rfl rfl rfl (by have := hs27.2.1; omega) rfl ty5 rfl fun m28 => ?_
  refine za <| jK h (γ := Unit) (fun (o30 : List Int) _ => []) (fun (o30 : List Int) _ => [Res.var fb23 82 FT (sv24, tv25, dv26, ()), Res.own sv24 5 (.int .u8) (laidOver f22.1 (Int.toNat a2) a3), Res.own tv25 5 (.int .u8) f22.2.1, Res.dirty Try.prog dI dv26 o30, Res.dhole Try.prog dI mv1 o20 a1 (.pointer (some ⟨fb23, 0, none⟩)), Res.var b2 64 DT (r15.2.1, mv1, r15.2.2.2.1, r15.2.2.2.2.1, r15.2.2.2.2.2.1, r15.2.2.2.2.2.2.1, r15.2.2.2.2.2.2.2, ())]) (fun k29 h => ?_) fun o30 gg h => ?_
  ·refine zu <| p 3 [2,3,9,14] rfl ?_
   obtain ⟨s31, e, h⟩ := bnd_ex h; rw [e]
   refine za <| zb <| r_less [2,3,9,14] rfl <| r_loopg (γ := Unit) (fun (s34 : Int × List Int) _ => [(2, ti a2), (3, ts a3), (9, ptr fb23 0), (14, ti s34.1)]) (fun (s34 : Int × List Int) _ => [Res.var fb23 82 FT (sv24, tv25, dv26, ()), Res.own sv24 5 (.int .u8) (laidOver f22.1 (Int.toNat a2) a3), Res.own tv25 5 (.int .u8) f22.2.1, Res.dirty Try.prog dI dv26 s34.2, Res.dhole Try.prog dI mv1 o20 a1 (.pointer (some ⟨fb23, 0, none⟩)), Res.var b2 64 DT (r15.2.1, mv1, r15.2.2.2.1, r15.2.2.2.2.1, r15.2.2.2.2.2.1, r15.2.2.2.2.2.2.1, r15.2.2.2.2.2.2.2, ())]) (disk_Disk_Write_l0 a2 a3 k29) (s31, f22.2.2) () h rfl rfl ?_
   clear h
   intro m35 s34 gg h
   cases m35 with
   | zero => cases h
   | succ m35 =>
   simp only [disk_Disk_Write_l0] at h
   refine zs <| zu <| q 7 [(14, ti s34.1), (130, tb (decide ((IntKind.wrap .i64 (s34.1 * 64)) < (IntKind.wrap .i64 (a2 + (List.length a3 : Int))))))] [2,3,9] rfl ?_
   obtain ⟨t36, e, h⟩ := bnd_ex h; rw [e]
   refine p 1 [2,3,9,14,131] rfl ?_
   refine r_lsplit (γ := Unit) 3 (fun _ => [(2, ti a2), (3, ts a3), (9, ptr fb23 0), (14, ti s34.1), (134, tb (t36 && (a3 != [])))]) (fun _ => [Res.var fb23 82 FT (sv24, tv25, dv26, ()), Res.own sv24 5 (.int .u8) (laidOver f22.1 (Int.toNat a2) a3), Res.own tv25 5 (.int .u8) f22.2.1, Res.dirty Try.prog dI dv26 s34.2, Res.dhole Try.prog dI mv1 o20 a1 (.pointer (some ⟨fb23, 0, none⟩)), Res.var b2 64 DT (r15.2.1, mv1, r15.2.2.2.1, r15.2.2.2.2.1, r15.2.2.2.2.2.1, r15.2.2.2.2.2.2.1, r15.2.2.2.2.2.2.2, ())]) ?_ (fun _ => ?_)
   ·clear h
    rcases Bool.eq_false_or_eq_true t36 with hh | hh
    ·rw [hh]
     exact q 3 [(134, tb (a3 != []))] [2,3,9,14] rfl <| r_less [2,3,9,14,134] rfl <| za <| r_meetg () rfl rfl
    rw [hh]
    exact p 3 [2,3,9,14,134] rfl <| za <| r_meetg () rfl rfl
   refine za <| rI h rfl (fun hc h => ?_) fun hc h => ?_
   ·refine zk <| zt <| zs <| zb <| zr <| p 3 [2,3,9,14,139] rfl <| yl 0 ((.snd (.snd (.fst .here)))) ty80 rfl rfl rfl trivial rfl <| q 1 [(140, .one (.raw (.map none)) dv26), (141, ti s34.1)] [2,3,9,14] rfl <| r_undirty 3 rfl fun l38 hl38 => ?_
    refine y (y_look 3 rfl rfl rfl kint Try.underlying80 zf3 rfl) rfl ?_
    refine q 1 [(143, ti (IntKind.wrap .i64 (((pget (.int .i64) s34.1 l38).getD 0) + 1)))] [2,3,9,14,140,141] rfl <| iE h fun hc h => r_mapUpdate 3 rfl rfl rfl rfl kint Try.underlying80 (by rw [← hl38, List.length_map] at hc; exact hc) ?_
    refine r_redirty (P := Try.prog) (I := dI) (keys := kput s34.1 s34.2) 3 rfl (by rw [kput_keys, hl38]) ?_
    refine zn <| zi <| zt <| zr <| q 3 [(14, ti (IntKind.wrap .i64 (s34.1 + 1)))] [2,3,9] rfl ?_
    obtain ⟨s39, e, h⟩ := bnd_ex h; rw [e]
    exact za <| r_less [2,3,9,14] rfl <| r_backg (s39, (kput s34.1 s34.2)) () (Nat.lt_succ_self _) h rfl rfl
   exact zx <| ze <| ze <| zq <| zt <| r_less [] rfl <| r_meetk s34.2 () h rfl rfl
  refine zu <| p 1 [8] rfl <| zf <| r_dunfocus (P := Try.prog) (I := dI) kstr ?_
  refine r_imp_at (R' := Res.dfiles Try.prog dI mv1 (pset .str a1 ((laidOver f22.1 (Int.toNat a2) a3), f22.2.1, o30) o20)) 0 rfl dat_dfiles <| pk [1,0] rfl <| r_disk (P := Try.prog) (I := dI) (D := (r15.2.1, (pset .str a1 ((laidOver f22.1 (Int.toNat a2) a3), f22.2.1, o30) o20), r15.2.2.2.1, r15.2.2.2.2.1, r15.2.2.2.2.2.1, r15.2.2.2.2.2.2.1, r15.2.2.2.2.2.2.2)) ?_
  cases h
  exact r_ret1 rfl (.tmp rfl) (fun _ _ g => g) (fun _ _ _ => (.cons_cons _ .slnil))
 refine yl 1 ((.fst .here)) ty3 rfl rfl rfl trivial rfl <| za <| r_less [0,1,2,3,9,10,11,65,73,78] rfl <| a_one (i := 1) (by kernel_rfl) rfl ?_
 refine pk [1,0] rfl <| cB h fun r14 hr14 h => r_call (Lo := []) (disk_Disk_Used_ok b2 mv1 a1 g7 a0 _ hr14) (by kernel_rfl) (List.Perm.refl _) rfl rfl fun _ => ?_
 refine za <| r_less [0,1,2,3,9,10,11,66,73,78] rfl <| a_float (i := 9) (t := ti (IntKind.wrap .i64 (r14 + (max 0 (IntKind.wrap .i64 ((IntKind.wrap .i64 (a2 + (List.length a3 : Int))) - o6)))))) (blind_then (blind_block (blind_then blind_body))) rfl (by kernel_rfl) (by kernel_rfl) (by kernel_rfl) (y_pure tabOk rfl) rfl ?_
 refine a_float (i := 14) (t := tb (decide ((IntKind.wrap .i64 (r14 + (max 0 (IntKind.wrap .i64 ((IntKind.wrap .i64 (a2 + (List.length a3 : Int))) - o6))))) > a0.1))) (blind_then (blind_block (blind_then blind_body))) rfl (by kernel_rfl) (by kernel_rfl) (by kernel_rfl) (y_pure tabOk rfl) rfl ?_
 refine a_float (i := 15) (t := tb (decide ((IntKind.wrap .i64 (r14 + (max 0 (IntKind.wrap .i64 ((IntKind.wrap .i64 (a2 + (List.length a3 : Int))) - o6))))) > a0.1))) (blind_then (blind_block (blind_then blind_body))) rfl (by kernel_rfl) (by kernel_rfl) (by kernel_rfl) (y_pure tabOk rfl) rfl ?_
 refine a_end (by kernel_rfl) ?_
 refine zt <| rI h rfl (fun hc h => zu <| p 1 [8] rfl <| zf <| zB <| zT <| r_imp_at (R' := Res.dfiles Try.prog dI mv1 a0.2.1) 1 rfl dat_dfiles <| r_disk (P := Try.prog) (I := dI) (D := a0) <| by cases h; exact r_ret1 rfl (.tmp rfl) (fun _ _ g => g) (fun _ _ _ => (.cons_cons _ .slnil))) fun hc h => zk <| zi <| zt <| zs <| zu <| p 1 [0,1,2,3,9,10,11,80] rfl <| cB h fun r15 hr15 h => r_call (Lo := [Res.dat Try.prog dI mv1 a0.2.1 a1 g7]) (disk_Disk_counted_ok b2 mv1 a0 1 _ hr15) (by kernel_rfl) (List.Perm.refl _) rfl rfl fun _ => ?_
 refine q 1 [(12, ti r15.1)] [0,1,2,3,9,10,11] rfl <| zz <| q 2 [(83, tb (r15.1 != 0))] [0,1,2,3,9,10,11,12] rfl <| za <| rI h rfl (fun hc h => zu <| q 2 [(8, ti r15.1)] [] rfl <| zf <| zT <| r_imp_at (R' := Res.dfiles Try.prog dI mv1 a0.2.1) 1 rfl dat_dfiles <| r_disk (P := Try.prog) (I := dI) (D := (r15.2.1, a0.2.1, r15.2.2.2.1, r15.2.2.2.2.1, r15.2.2.2.2.2.1, r15.2.2.2.2.2.2.1, r15.2.2.2.2.2.2.2)) <| by cases h; exact r_ret1 rfl (.tmp rfl) (fun _ _ g => g) (fun _ _ _ => (.cons_cons _ .slnil))) fun hc h => zk <| zt <| jK h (γ := Value) (fun (o17 : (List (List Int × FileS))) g18 => [(2, ti a2), (3, ts a3), (9, tp g18), (11, ti o6)]) (fun (o17 : (List (List Int × FileS))) g18 => [Res.dat Try.prog dI mv1 o17 a1 g18, Res.var b2 64 DT (r15.2.1, mv1, r15.2.2.2.1, r15.2.2.2.2.1, r15.2.2.2.2.2.1, r15.2.2.2.2.2.2.1, r15.2.2.2.2.2.2.2, ())]) (fun k16 h => ?_) fun o17 g18 h => ?_
 ·refine zu <| p 2 [0,1,2,3,9,11,86] rfl <| za <| rI h rfl (fun hc h => ?_) fun hc h => ?_
  ·refine zu <| r_makeMap 3 (.int .i64) (.int .i64) rfl fun v47 => ?_
   refine r_redirty (P := Try.prog) (I := dI) (keys := []) 0 rfl rfl ?_
   refine y (y_build rfl zf82 rfl rfl (.cons ((.snd (.snd (.fst .here)))) rfl rfl (ok_snd (ok_snd (ok_fst ok_here))) .nil)) rfl ?_
   refine r_box rfl rfl fun b48 => r_nilown (.slice none 0 0) rfl 5 (.int .u8) ?_
   refine r_nilown (.slice none 0 0) rfl 5 (.int .u8) ?_
   refine p 1 [0,1,2,3,9,11] rfl <| za <| zr <| p 3 [1,2,3,9,11,92] rfl <| yl 4 ((.snd (.fst .here))) ty62 rfl rfl rfl trivial rfl <| p 2 [2,3,9,11,93,94,95] rfl <| r_imp_at (R' := Res.dfiles Try.prog dI mv1 a0.2.1) 5 rfl dat_dfiles <| iE h fun hc h => pk [2,0,0,0,1,0] rfl <| r_dinsert (P := Try.prog) (I := dI) kstr rfl rfl rfl Try.underlying62 hc ?_
   exact za <| r_less [2,3,9,11] rfl <| r_meetk (pput .str a1 ([], [], []) a0.2.1) (.pointer (some ⟨b48, 0, none⟩)) h rfl rfl
  exact zk <| zt <| r_less [2,3,9,11] rfl <| pk [1,0] rfl <| r_meetk a0.2.1 g7 h rfl rfl
 refine jK h (γ := Value) (fun (o20 : (List (List Int × FileS))) g21 => [(2, ti a2), (3, ts a3), (9, tp g21)]) (fun (o20 : (List (List Int × FileS))) g21 => [Res.dat Try.prog dI mv1 o20 a1 g21, Res.var b2 64 DT (r15.2.1, mv1, r15.2.2.2.1, r15.2.2.2.2.1, r15.2.2.2.2.2.1, r15.2.2.2.2.2.2.1, r15.2.2.2.2.2.2.2, ())]) (fun k19 h => ?_) fun o20 g21 h => ?_
 ·refine zu <| q 5 [(2, ti a2), (3, ts a3), (9, tp g18), (11, ti o6), (13, ti (IntKind.wrap .i64 (a2 + (List.length a3 : Int))))] [] rfl ?_
  obtain ⟨end40, e, h⟩ := bnd_ex h; rw [e]
  refine zz <| p 3 [2,3,9,11,13,102] rfl <| za <| rI h rfl (fun hc h => ?_) fun hc h => ?_
  ·refine cB h fun f41 hf41 h => r_dfocus kstr hf41 fun fb42 sv43 tv44 dv45 hq => ?_
   rw [hq]
   clear hq
   refine zr <| p 4 [2,3,9,11,13,103,106] rfl <| yl 0 ((.fst .here)) tx0 rfl rfl rfl trivial rfl <| p 3 [2,3,9,103,107,110] rfl <| iE h fun hc h => r_appendn tabOk zf5 1 rfl rfl rfl hc.1 rfl el5 Try.underlying3 hc.2 rfl fun v46 => ?_
   refine p 2 [2,3,9,111,113] rfl <| st 0 ((.fst .here)) tx0 rfl rfl rfl rfl trivial <| za <| r_dunfocus (P := Try.prog) (I := dI) kstr ?_
   exact r_less [2,3,9] rfl <| r_meetk (pset .str a1 ((f41.1 ++ List.replicate (Int.toNat (IntKind.wrap .i64 (end40 - o6))) 0), f41.2.1, f41.2.2) o17) (.pointer (some ⟨fb42, 0, none⟩)) h rfl rfl
  exact zk <| zt <| r_less [2,3,9] rfl <| r_meetk o17 g18 h rfl rfl
 refine zs <| cB h fun f22 hf22 h => r_dfocus kstr hf22 fun fb23 sv24 tv25 dv26 hq => ?_
 rw [hq]
 clear hq
 refine zr <| p 3 [2,3,9,116] rfl <| yl 0 ((.fst .here)) tx0 rfl rfl rfl trivial rfl <| p 1 [2,3,9,117,118] rfl ?_
 obtain ⟨hs27, h⟩ := ite_ex h
 refine y (y_osub tabOk (i := a2) (j := (List.length f22.1 : Int)) rfl (sub_own 1 rfl) rfl rfl hs27.1 hs27.2.1 hs27.2.2 rfl ty5) rfl ?_
 refine q 1 [(119, .one (.raw (.slice none 0 0)) (subv (T.size (.int .u8)) sv24 (Int.toNat a2) (Int.toNat (List.length f22.1 : Int)))), (120, ts a3)] [2,3,9] rfl <| r_copyo tabOk 1 (i := (Int.toNat a2)) rfl rfl rfl (by have := hs27.2.1; omega) rfl ty5 rfl fun m28 => ?_
 refine za <| jK h (γ := Unit) (fun (o30 : List Int) _ => []) (fun (o30 : List Int) _ => [Res.var fb23 82 FT (sv24, tv25, dv26, ()), Res.own sv24 5 (.int .u8) (laidOver f22.1 (Int.toNat a2) a3), Res.own tv25 5 (.int .u8) f22.2.1, Res.dirty Try.prog dI dv26 o30, Res.dhole Try.prog dI mv1 o20 a1 (.pointer (some ⟨fb23, 0, none⟩)), Res.var b2 64 DT (r15.2.1, mv1, r15.2.2.2.1, r15.2.2.2.2.1, r15.2.2.2.2.2.1, r15.2.2.2.2.2.2.1, r15.2.2.2.2.2.2.2, ())]) (fun k29 h => ?_) fun o30 gg h => ?_
 ·refine zu <| p 3 [2,3,9,14] rfl ?_
  obtain ⟨s31, e, h⟩ := bnd_ex h; rw [e]
  refine za <| zb <| r_less [2,3,9,14] rfl <| r_loopg (γ := Unit) (fun (s34 : Int × List Int) _ => [(2, ti a2), (3, ts a3), (9, ptr fb23 0), (14, ti s34.1)]) (fun (s34 : Int × List Int) _ => [Res.var fb23 82 FT (sv24, tv25, dv26, ()), Res.own sv24 5 (.int .u8) (laidOver f22.1 (Int.toNat a2) a3), Res.own tv25 5 (.int .u8) f22.2.1, Res.dirty Try.prog dI dv26 s34.2, Res.dhole Try.prog dI mv1 o20 a1 (.pointer (some ⟨fb23, 0, none⟩)), Res.var b2 64 DT (r15.2.1, mv1, r15.2.2.2.1, r15.2.2.2.2.1, r15.2.2.2.2.2.1, r15.2.2.2.2.2.2.1, r15.2.2.2.2.2.2.2, ())]) (disk_Disk_Write_l0 a2 a3 k29) (s31, f22.2.2) () h rfl rfl ?_
  clear h
  intro m35 s34 gg h
  cases m35 with
  | zero => cases h
  | succ m35 =>
  simp only [disk_Disk_Write_l0] at h
  refine zs <| zu <| q 7 [(14, ti s34.1), (130, tb (decide ((IntKind.wrap .i64 (s34.1 * 64)) < (IntKind.wrap .i64 (a2 + (List.length a3 : Int))))))] [2,3,9] rfl ?_
  obtain ⟨t36, e, h⟩ := bnd_ex h; rw [e]
  refine p 1 [2,3,9,14,131] rfl ?_
  refine r_lsplit (γ := Unit) 3 (fun _ => [(2, ti a2), (3, ts a3), (9, ptr fb23 0), (14, ti s34.1), (134, tb (t36 && (a3 != [])))]) (fun _ => [Res.var fb23 82 FT (sv24, tv25, dv26, ()), Res.own sv24 5 (.int .u8) (laidOver f22.1 (Int.toNat a2) a3), Res.own tv25 5 (.int .u8) f22.2.1, Res.dirty Try.prog dI dv26 s34.2, Res.dhole Try.prog dI mv1 o20 a1 (.pointer (some ⟨fb23, 0, none⟩)), Res.var b2 64 DT (r15.2.1, mv1, r15.2.2.2.1, r15.2.2.2.2.1, r15.2.2.2.2.2.1, r15.2.2.2.2.2.2.1, r15.2.2.2.2.2.2.2, ())]) ?_ (fun _ => ?_)
  ·clear h
   rcases Bool.eq_false_or_eq_true t36 with hh | hh
   ·rw [hh]
    exact q 3 [(134, tb (a3 != []))] [2,3,9,14] rfl <| r_less [2,3,9,14,134] rfl <| za <| r_meetg () rfl rfl
   rw [hh]
   exact p 3 [2,3,9,14,134] rfl <| za <| r_meetg () rfl rfl
  refine za <| rI h rfl (fun hc h => ?_) fun hc h => ?_
  ·refine zk <| zt <| zs <| zb <| zr <| p 3 [2,3,9,14,139] rfl <| yl 0 ((.snd (.snd (.fst .here)))) ty80 rfl rfl rfl trivial rfl <| q 1 [(140, .one (.raw (.map none)) dv26), (141, ti s34.1)] [2,3,9,14] rfl <| r_undirty 3 rfl fun l38 hl38 => ?_
   refine y (y_look 3 rfl rfl rfl kint Try.underlying80 zf3 rfl) rfl ?_
   refine q 1 [(143, ti (IntKind.wrap .i64 (((pget (.int .i64) s34.1 l38).getD 0) + 1)))] [2,3,9,14,140,141] rfl <| iE h fun hc h => r_mapUpdate 3 rfl rfl rfl rfl kint Try.underlying80 (by rw [← hl38, List.length_map] at hc; exact hc) ?_
   refine r_redirty (P := Try.prog) (I := dI) (keys := kput s34.1 s34.2) 3 rfl (by rw [kput_keys, hl38]) ?_
   refine zn <| zi <| zt <| zr <| q 3 [(14, ti (IntKind.wrap .i64 (s34.1 + 1)))] [2,3,9] rfl ?_
   obtain ⟨s39, e, h⟩ := bnd_ex h; rw [e]
   exact za <| r_less [2,3,9,14] rfl <| r_backg (s39, (kput s34.1 s34.2)) () (Nat.lt_succ_self _) h rfl rfl
  exact zx <| ze <| ze <| zq <| zt <| r_less [] rfl <| r_meetk s34.2 () h rfl rfl
 refine zu <| p 1 [8] rfl <| zf <| r_dunfocus (P := Try.prog) (I := dI) kstr ?_
 refine r_imp_at (R' := Res.dfiles Try.prog dI mv1 (pset .str a1 ((laidOver f22.1 (Int.toNat a2) a3), f22.2.1, o30) o20)) 0 rfl dat_dfiles <| pk [1,0] rfl <| r_disk (P := Try.prog) (I := dI) (D := (r15.2.1, (pset .str a1 ((laidOver f22.1 (Int.toNat a2) a3), f22.2.1, o30) o20), r15.2.2.2.1, r15.2.2.2.2.1, r15.2.2.2.2.2.1, r15.2.2.2.2.2.2.1, r15.2.2.2.2.2.2.2)) ?_
 cases h
 exact r_ret1 rfl (.tmp rfl) (fun _ _ g => g) (fun _ _ _ => (.cons_cons _ .slnil))

theorem slices_Clone__byte_byte_ok (a0 : List (Int)) (r : List (Int)) (h : slices_Clone__byte_byte a0 = some r) : Fn Try.prog 46 [.one (.sl 5 (.int .u8)) a0] [] (fun v => .one (.raw (.slice none 0 0)) v) (fun v => [Res.own v 5 (.int .u8) r]) := by
 unfold slices_Clone__byte_byte at h
 refine enter Try.func46 rfl 8 rfl rfl fun F => ?_
 refine zu <| p 1 [0] rfl <| za <| zs <| zu <| p 1 [0,3] rfl <| r_slnil rfl Try.underlying72 rfl fun g1 hg1 => ?_
 refine za ?_
 refine r_if (b := g1) rfl (fun hc => ?_) (fun hc => ?_)
 ·have hx := hg1 hc
  subst hx
  have h : (some [] : Option (List Int)) = some r := by simpa using h
  refine zu <| p 1 [2] rfl <| zf <| zT <| r_nilown (.slice none 0 0) rfl 5 (.int .u8) ?_
  cases h
  exact r_ret1 rfl (.tmp rfl) (fun _ _ g => holds_raw.2 ⟨rfl, by rw [(holds_raw.1 g).1]; exact (holds_raw.1 g).2⟩) (fun _ _ g => by obtain ⟨rfl, _⟩ := holds_raw.1 g; exact (.cons_cons _ .slnil))
 refine zy <| r_lits (B := 1) tabOk rfl el5 rfl rfl rfl .nil rfl fun v2 => ?_
 refine p 1 [5,6] rfl <| iE h fun hc h => r_append (B := 1) tabOk 0 rfl rfl (src_sl rfl) rfl el5 rfl rfl hc rfl fun v3 => ?_
 refine p 1 [2] rfl <| zf ?_
 cases h
 exact r_ret1 rfl (.tmp rfl) (fun _ _ g => holds_raw.2 ⟨rfl, by rw [(holds_raw.1 g).1]; exact (holds_raw.1 g).2⟩) (fun _ _ g => by obtain ⟨rfl, _⟩ := holds_raw.1 g; exact (.cons_cons _ .slnil))

theorem disk_Disk_Sync_ok (p0 : Value) (a0 : DiskS) (a1 : List Int) (r : Int × DiskS) (h : disk_Disk_Sync a0 a1 = some r) : Fn Try.prog 27 [tp p0, ts a1] [Res.disk Try.prog dI p0 a0] (fun _ => ti r.1) (fun _ => [Res.disk Try.prog dI p0 r.2]) := by
 unfold disk_Disk_Sync at h
 refine enter Try.func27 rfl 34 rfl rfl fun F => ?_
 refine r_undisk fun b2 mv1 hp => ?_
 subst hp
 refine zu <| p 1 [0,1] rfl <| zz <| p 2 [0,9,10] rfl <| cB h fun r3 hr3 h => r_call (Lo := []) (disk_Disk_found_ok b2 mv1 a0 a1 _ hr3) (by kernel_rfl) (List.Perm.refl _) rfl rfl fun v4 => ?_
 refine p 5 [0,5,6] rfl <| za <| zs <| zu <| p 2 [0,5,6,15] rfl <| za <| rI h rfl (fun hc h => zu <| p 2 [4] rfl <| zf <| zT <| r_imp_at (R' := Res.dfiles Try.prog dI mv1 a0.2.1) 1 rfl dfound_dfiles <| r_disk (P := Try.prog) (I := dI) (D := a0) <| by cases h; exact r_ret1 rfl (.tmp rfl) (fun _ _ g => g) (fun _ _ _ => (.cons_cons _ .slnil))) fun hc h => zk <| zt <| zs <| zu <| p 1 [5,17] rfl <| cB h fun r5 hr5 h => r_call (Lo := [Res.dfound Try.prog dI mv1 a0.2.1 a1 (tupv v4 0) r3]) (disk_Disk_counted_ok b2 mv1 a0 2 _ hr5) (by kernel_rfl) (List.Perm.refl _) rfl rfl fun _ => ?_
 refine q 1 [(7, ti r5.1)] [5] rfl <| zz <| q 2 [(20, tb (r5.1 != 0))] [5,7] rfl <| za <| rI h rfl (fun hc h => zu <| q 2 [(4, ti r5.1)] [] rfl <| zf <| zT <| r_imp_at (R' := Res.dfiles Try.prog dI mv1 a0.2.1) 1 rfl dfound_dfiles <| r_disk (P := Try.prog) (I := dI) (D := (r5.2.1, a0.2.1, r5.2.2.2.1, r5.2.2.2.2.1, r5.2.2.2.2.2.1, r5.2.2.2.2.2.2.1, r5.2.2.2.2.2.2.2)) <| by cases h; exact r_ret1 rfl (.tmp rfl) (fun _ _ g => g) (fun _ _ _ => (.cons_cons _ .slnil))) fun hc h => zk <| zt <| zs <| iE h fun hc h => r_imp_at (R' := Res.dat Try.prog dI mv1 a0.2.1 a1 (tupv v4 0)) 1 rfl (dfound_dat hc) <| cB h fun f6 hf6 h => pk [1,0] rfl <| r_dfocus kstr hf6 fun fb7 sv8 tv9 dv10 hq => ?_
 rw [hq]
 clear hq
 refine zr <| p 4 [5,22,25] rfl <| yl 0 ((.fst .here)) tx0 rfl rfl rfl trivial rfl <| cB h fun r11 hr11 h => r_callwo (slices_Clone__byte_byte_ok f6.1 _ hr11) (by kernel_rfl) (fun _ => rfl) (fun _ r hr => by rcases List.mem_singleton.1 hr with rfl; exact Res.free_own rfl) (.sub rfl (sub_own 1 rfl) .nil) rfl fun v12 => ?_
 refine p 2 [5,27,29] rfl <| st 1 ((.snd (.fst .here))) tx0 rfl rfl rfl rfl trivial <| pk [0,0,0,1,1,1] rfl <| zz <| p 3 [32] rfl <| yl 1 ((.snd (.snd (.fst .here)))) ty80 rfl rfl rfl trivial rfl <| r_undirty 3 rfl fun l13 hl13 => ?_
 refine r_clear 3 rfl rfl Try.underlying80 ?_
 refine r_redirty (P := Try.prog) (I := dI) (keys := []) 3 rfl rfl ?_
 refine zz <| p 1 [4] rfl <| zf <| pk [1,1,0,0,0,0] rfl <| r_dunfocus (P := Try.prog) (I := dI) kstr ?_
 refine r_imp_at (R' := Res.dfiles Try.prog dI mv1 (pset .str a1 (f6.1, r11, []) a0.2.1)) 0 rfl dat_dfiles <| pk [1,0] rfl <| r_disk (P := Try.prog) (I := dI) (D := (r5.2.1, (pset .str a1 (f6.1, r11, []) a0.2.1), r5.2.2.2.1, r5.2.2.2.2.1, r5.2.2.2.2.2.1, r5.2.2.2.2.2.2.1, r5.2.2.2.2.2.2.2)) ?_
 cases h
 exact r_ret1 rfl (.tmp rfl) (fun _ _ g => g) (fun _ _ _ => (.cons_cons _ .slnil))

theorem disk_Disk_Rename_ok (p0 : Value) (a0 : DiskS) (a1 : List Int) (a2 : List Int) (r : Int × DiskS) (h : disk_Disk_Rename a0 a1 a2 = some r) : Fn Try.prog 42 [tp p0, ts a1, ts a2] [Res.disk Try.prog dI p0 a0] (fun _ => ti r.1) (fun _ => [Res.disk Try.prog dI p0 r.2]) := by
 unfold disk_Disk_Rename at h
 refine enter Try.func42 rfl 32 rfl rfl fun F => ?_
 refine r_undisk fun b2 mv1 hp => ?_
 subst hp
 refine zu <| p 1 [0,1,2] rfl <| zz <| p 2 [0,1,2,10,11] rfl <| cB h fun r3 hr3 h => r_call (Lo := []) (disk_Disk_found_ok b2 mv1 a0 a1 _ hr3) (by kernel_rfl) (List.Perm.refl _) rfl rfl fun v4 => ?_
 refine p 5 [0,1,2,7,8] rfl <| za <| zs <| zu <| p 2 [0,1,2,7,8,16] rfl <| za <| rI h rfl (fun hc h => zu <| p 2 [6] rfl <| zf <| zT <| r_imp_at (R' := Res.dfiles Try.prog dI mv1 a0.2.1) 1 rfl dfound_dfiles <| r_disk (P := Try.prog) (I := dI) (D := a0) <| by cases h; exact r_ret1 rfl (.tmp rfl) (fun _ _ g => g) (fun _ _ _ => (.cons_cons _ .slnil))) fun hc h => zk <| zt <| zs <| zu <| p 1 [0,1,2,7,18] rfl <| cB h fun r5 hr5 h => r_calls (disk_isName_ok _ _ hr5) (by kernel_rfl) rfl rfl ?_
 refine p 1 [0,1,2,7,20] rfl <| za <| rI h rfl (fun hc h => zu <| p 1 [6] rfl <| zf <| zT <| r_imp_at (R' := Res.dfiles Try.prog dI mv1 a0.2.1) 1 rfl dfound_dfiles <| r_disk (P := Try.prog) (I := dI) (D := a0) <| by cases h; exact r_ret1 rfl (.tmp rfl) (fun _ _ g => g) (fun _ _ _ => (.cons_cons _ .slnil))) fun hc h => zy <| p 3 [0,1,2,7,23] rfl <| yl 0 ((.snd (.fst .here))) ty62 rfl rfl rfl trivial rfl <| p 1 [0,2,7,24,25] rfl <| iE h fun hc h => r_imp_at (R' := Res.dat Try.prog dI mv1 a0.2.1 a1 (tupv v4 0)) 1 rfl (dfound_dat hc) <| cB h fun f6 hf6 h => pk [1,0] rfl <| r_dfocus kstr hf6 fun fb7 sv8 tv9 dv10 hq => ?_
 rw [hq]
 clear hq
 refine pk [4,0,0,0,0,0] rfl <| r_ddelete_hole kstr rfl rfl Try.underlying62 rfl ?_
 refine zz <| p 3 [2,7,28] rfl <| yl 5 ((.snd (.fst .here))) ty62 rfl rfl rfl trivial rfl <| p 2 [29,30,31] rfl <| iE h fun hc h => pk [1,1,1,1,0,0] rfl <| r_dinsert (P := Try.prog) (I := dI) kstr rfl rfl rfl Try.underlying62 hc ?_
 refine zz <| p 1 [6] rfl <| zf <| r_imp_at (R' := Res.dfiles Try.prog dI mv1 (pput .str a2 (f6.1, f6.2.1, f6.2.2) (pdel .str a1 a0.2.1))) 0 rfl dat_dfiles <| pk [1,0] rfl <| r_disk (P := Try.prog) (I := dI) (D := (a0.1, (pput .str a2 (f6.1, f6.2.1, f6.2.2) (pdel .str a1 a0.2.1)), a0.2.2.1, a0.2.2.2.1, a0.2.2.2.2.1, a0.2.2.2.2.2.1, a0.2.2.2.2.2.2)) ?_
 cases h
 exact r_ret1 rfl (.tmp rfl) (fun _ _ g => g) (fun _ _ _ => (.cons_cons _ .slnil))

theorem mark_laid_ok (p0 : Value) (a0 : DiskS) (a1 : List Int) (r : (Int × Unit × List Int × Int × Int × Unit) × Int × DiskS) (h : mark_laid a0 a1 = some r) : Fn Try.prog 25 [tp p0, ts a1] [Res.disk Try.prog dI p0 a0] (fun v => .tup [⟨.raw (.pointer none), tupv v 0⟩, ⟨(.int .i64), r.2.1⟩]) (fun v => [Res.disk Try.prog dI p0 r.2.2, Res.clsif (CMark p0) (tupv v 0) r.1.2 r.1.1]) := by
 unfold mark_laid at h
 refine enter Try.func25 rfl 49 rfl rfl fun F => ?_
 refine zu <| p 2 [0,1] rfl <| za <| zs <| zu <| p 2 [0,1,10,11] rfl <| iE h fun hc h => y (y_cat rfl rfl hc) rfl ?_
 refine cB h fun r1 hr1 h => rc [0] (disk_Disk_Remove_ok _ _ _ _ hr1) (by kernel_rfl) rfl rfl rfl fun _ => q 1 [(6, ti r1.1)] [0,1] rfl <| zz <| q 3 [(16, tb (r1.1 != 0))] [0,1,6] rfl ?_
 obtain ⟨b2, e, h⟩ := bnd_ex h; rw [e]
 refine r_lsplit (γ := Unit) 3 (fun _ => [(0, tp p0), (1, ts a1), (6, ti r1.1), (19, tb (b2 && (r1.1 != 5)))]) (fun _ => [Res.disk Try.prog dI p0 r1.2]) ?_ (fun _ => ?_)
 ·clear h
  cases b2
  ·exact p 3 [0,1,6,19] rfl <| za <| r_meetg () rfl rfl
  exact q 3 [(19, tb (r1.1 != 5))] [0,1,6] rfl <| r_less [0,1,6,19] rfl <| za <| r_meetg () rfl rfl
 refine za <| rI h rfl (fun hc h => ?_) fun hc h => ?_
 ·refine zu <| q 3 [(4, tp (.pointer none)), (5, ti r1.1)] [] rfl <| zf <| zT <| r_nocls (K := (CMark p0)) (x := ((), [], 0, 0, ())) (e := 1) (by decide) ?_
  cases h
  exact pk [1,0] rfl <| r_rets (rs := [.tmp 4, .tmp 5]) rfl (.cons (.tmp rfl) (.cons (.tmp rfl) (.nil))) rfl (fun _ vs g => by cases g with | cons h0 g => cases g with | cons h1 g => cases g; exact ⟨_, rfl, .cons (raw_self h0) (.cons h1 (.nil))⟩) (fun _ vs g => by cases g with | cons h0 g => cases g with | cons h1 g => cases g; rw [raw_eq h0]; exact List.Sublist.refl _)
 refine zk <| zt <| zs <| zu <| p 2 [0,1,21,22] rfl <| iE h fun hc h => y (y_cat rfl rfl hc) rfl ?_
 refine cB h fun r3 hr3 h => r_calls (mark_slot_ok _ _ hr3) (by kernel_rfl) rfl rfl <| cB h fun r4 hr4 h => r_calls (strings_Repeat_ok _ _ _ hr4) (by kernel_rfl) rfl rfl <| cB h fun r5 hr5 h => rc [0] (disk_Disk_Write_ok _ _ _ _ _ _ hr5) (by kernel_rfl) rfl rfl rfl fun _ => q 1 [(7, ti r5.1)] [0,1] rfl <| zz <| q 2 [(28, tb (r5.1 != 0))] [0,1,7] rfl <| za <| rI h rfl (fun hc h => ?_) fun hc h => ?_
 ·refine zu <| q 3 [(4, tp (.pointer none)), (5, ti r5.1)] [] rfl <| zf <| zT <| r_nocls (K := (CMark p0)) (x := ((), [], 0, 0, ())) (e := 1) (by decide) ?_
  cases h
  exact pk [1,0] rfl <| r_rets (rs := [.tmp 4, .tmp 5]) rfl (.cons (.tmp rfl) (.cons (.tmp rfl) (.nil))) rfl (fun _ vs g => by cases g with | cons h0 g => cases g with | cons h1 g => cases g; exact ⟨_, rfl, .cons (raw_self h0) (.cons h1 (.nil))⟩) (fun _ vs g => by cases g with | cons h0 g => cases g with | cons h1 g => cases g; rw [raw_eq h0]; exact List.Sublist.refl _)
 refine zk <| zt <| zs <| zu <| p 2 [0,1,30,31] rfl <| iE h fun hc h => y (y_cat rfl rfl hc) rfl ?_
 refine cB h fun r6 hr6 h => rc [0] (disk_Disk_Sync_ok _ _ _ _ hr6) (by kernel_rfl) rfl rfl rfl fun _ => q 1 [(8, ti r6.1)] [0,1] rfl <| zz <| q 2 [(35, tb (r6.1 != 0))] [0,1,8] rfl <| za <| rI h rfl (fun hc h => ?_) fun hc h => ?_
 ·refine zu <| q 3 [(4, tp (.pointer none)), (5, ti r6.1)] [] rfl <| zf <| zT <| r_nocls (K := (CMark p0)) (x := ((), [], 0, 0, ())) (e := 1) (by decide) ?_
  cases h
  exact pk [1,0] rfl <| r_rets (rs := [.tmp 4, .tmp 5]) rfl (.cons (.tmp rfl) (.cons (.tmp rfl) (.nil))) rfl (fun _ vs g => by cases g with | cons h0 g => cases g with | cons h1 g => cases g; exact ⟨_, rfl, .cons (raw_self h0) (.cons h1 (.nil))⟩) (fun _ vs g => by cases g with | cons h0 g => cases g with | cons h1 g => cases g; rw [raw_eq h0]; exact List.Sublist.refl _)
 refine zk <| zt <| zs <| zu <| p 2 [0,1,37,38] rfl <| iE h fun hc h => y (y_cat rfl rfl hc) rfl ?_
 refine q 1 [(39, ts (a1 ++ [46, 116, 109, 112])), (40, ts a1)] [0,1,37] rfl <| cB h fun r7 hr7 h => rc [0] (disk_Disk_Rename_ok _ _ _ _ _ hr7) (by kernel_rfl) rfl rfl rfl fun _ => q 1 [(9, ti r7.1)] [0,1] rfl <| zz <| q 2 [(43, tb (r7.1 != 0))] [0,1,9] rfl <| za <| rI h rfl (fun hc h => ?_) fun hc h => ?_
 ·refine zu <| q 3 [(4, tp (.pointer none)), (5, ti r7.1)] [] rfl <| zf <| zT <| r_nocls (K := (CMark p0)) (x := ((), [], 0, 0, ())) (e := 1) (by decide) ?_
  cases h
  exact pk [1,0] rfl <| r_rets (rs := [.tmp 4, .tmp 5]) rfl (.cons (.tmp rfl) (.cons (.tmp rfl) (.nil))) rfl (fun _ vs g => by cases g with | cons h0 g => cases g with | cons h1 g => cases g; exact ⟨_, rfl, .cons (raw_self h0) (.cons h1 (.nil))⟩) (fun _ vs g => by cases g with | cons h0 g => cases g with | cons h1 g => cases g; rw [raw_eq h0]; exact List.Sublist.refl _)
 refine zy <| p 2 [45,46] rfl <| y (y_build rfl zf70 rfl rfl (.cons ((.fst .here)) rfl rfl (ok_fst ok_here) (.cons ((.snd (.fst .here))) rfl rfl (ok_snd (ok_fst ok_here)) (.cons ((.snd (.snd (.fst .here)))) rfl rfl (ok_snd (ok_snd (ok_fst ok_here))) (.cons ((.snd (.snd (.snd (.fst .here))))) rfl rfl (ok_snd (ok_snd (ok_snd (ok_fst ok_here)))) .nil))))) rfl ?_
 refine r_box rfl rfl fun b8 => p 2 [4,5] rfl <| zf <| r_CMark (x := ((), a1, (-1), 1, ())) (q := p0) ?_
 refine r_imp_at (R' := Res.clsif (CMark p0) (.pointer (some ⟨b8, 0, none⟩)) ((), a1, (-1), 1, ()) 0) 0 rfl (clsif_of rfl) ?_
 cases h
 exact pk [1,0] rfl <| r_rets (rs := [.tmp 4, .tmp 5]) rfl (.cons (.tmp rfl) (.cons (.tmp rfl) (.nil))) rfl (fun _ vs g => by cases g with | cons h0 g => cases g with | cons h1 g => cases g; exact ⟨_, rfl, .cons (raw_self h0) (.cons h1 (.nil))⟩) (fun _ vs g => by cases g with | cons h0 g => cases g with | cons h1 g => cases g; rw [raw_eq h0]; exact List.Sublist.refl _)

theorem disk_Disk_Read_ok (p0 : Value) (a0 : DiskS) (a1 : List Int) (a2 : Int) (a3 : Int) (r : List Int × Int) (h : disk_Disk_Read a0 a1 a2 a3 = some r) : Fn Try.prog 10 [tp p0, ts a1, ti a2, ti a3] [Res.disk Try.prog dI p0 a0] (fun _ => .tup [⟨.str, r.1⟩, ⟨(.int .i64), r.2⟩]) (fun _ => [Res.disk Try.prog dI p0 a0]) := by
 unfold disk_Disk_Read at h
 refine enter Try.func10 rfl 48 rfl rfl fun F => ?_
 refine r_undisk fun b2 mv1 hp => ?_
 subst hp
 refine zu <| p 2 [0,1,2,3] rfl <| zz <| p 2 [2,3,14,15] rfl <| cB h fun r3 hr3 h => r_call (Lo := []) (disk_Disk_found_ok b2 mv1 a0 a1 _ hr3) (by kernel_rfl) (List.Perm.refl _) rfl rfl fun v4 => ?_
 refine p 5 [2,3,10,11] rfl <| za <| zs <| zu <| p 2 [2,3,10,11,20] rfl <| za <| rI h rfl (fun hc h => zu <| q 3 [(8, ts []), (9, ti r3)] [] rfl <| zf <| zT <| r_imp_at (R' := Res.dfiles Try.prog dI mv1 a0.2.1) 1 rfl dfound_dfiles <| r_disk (P := Try.prog) (I := dI) (D := a0) <| by cases h; exact r_rets (rs := [.tmp 8, .tmp 9]) rfl (.cons (.tmp rfl) (.cons (.tmp rfl) (.nil))) rfl (fun _ vs g => tup_ok vs g) (fun _ _ _ => (.cons_cons _ .slnil))) fun hc h => zk <| zt <| zs <| zu <| p 3 [2,3,10,24] rfl ?_
 obtain ⟨b5, e, h⟩ := bnd_ex h; rw [e]
 refine r_lsplit (γ := Unit) 3 (fun _ => [(2, ti a2), (3, ti a3), (10, tp (tupv v4 0)), (27, tb (b5 || (decide (a3 < 0))))]) (fun _ => [Res.var b2 64 DT (a0.1, mv1, a0.2.2.1, a0.2.2.2.1, a0.2.2.2.2.1, a0.2.2.2.2.2.1, a0.2.2.2.2.2.2, ()), Res.dfound Try.prog dI mv1 a0.2.1 a1 (tupv v4 0) r3]) ?_ (fun _ => ?_)
 ·clear h
  cases b5
  ·exact p 3 [2,3,10,27] rfl <| za <| r_meetg () rfl rfl
  exact p 3 [2,3,10,27] rfl <| za <| r_meetg () rfl rfl
 refine za <| rI h rfl (fun hc h => zu <| q 2 [(8, ts []), (9, ti 1)] [] rfl <| zf <| zT <| r_imp_at (R' := Res.dfiles Try.prog dI mv1 a0.2.1) 1 rfl dfound_dfiles <| r_disk (P := Try.prog) (I := dI) (D := a0) <| by cases h; exact r_rets (rs := [.tmp 8, .tmp 9]) rfl (.cons (.tmp rfl) (.cons (.tmp rfl) (.nil))) rfl (fun _ vs g => tup_ok vs g) (fun _ _ _ => (.cons_cons _ .slnil))) fun hc h => zk <| zt <| zs <| zs <| iE h fun hc h => r_imp_at (R' := Res.dat Try.prog dI mv1 a0.2.1 a1 (tupv v4 0)) 1 rfl (dfound_dat hc) <| cB h fun f6 hf6 h => pk [1,0] rfl <| r_dfocus kstr hf6 fun fb7 sv8 tv9 dv10 hq => ?_
 rw [hq]
 clear hq
 refine zr <| p 4 [2,3,10,28,31] rfl <| yl 0 ((.fst .here)) tx0 rfl rfl rfl trivial rfl <| y (y_lenown tabOk 1 rfl rfl rfl) rfl ?_
 refine q 1 [(34, tb (decide (a2 ≥ (List.length f6.1 : Int))))] [2,3,10] rfl <| za <| rI h rfl (fun hc h => ?_) fun hc h => ?_
 ·refine zu <| q 2 [(8, ts []), (9, ti 0)] [] rfl <| zf <| zT <| r_dunfocus_same (P := Try.prog) (I := dI) kstr hf6 ?_
  refine r_imp_at (R' := Res.dfiles Try.prog dI mv1 a0.2.1) 0 rfl dat_dfiles <| pk [1,0] rfl <| r_disk (P := Try.prog) (I := dI) (D := a0) ?_
  cases h
  exact r_rets (rs := [.tmp 8, .tmp 9]) rfl (.cons (.tmp rfl) (.cons (.tmp rfl) (.nil))) rfl (fun _ vs g => tup_ok vs g) (fun _ _ _ => (.cons_cons _ .slnil))
 refine zy <| p 3 [2,3,37] rfl <| yl 0 ((.fst .here)) tx0 rfl rfl rfl trivial rfl <| p 1 [3,38,39] rfl ?_
 obtain ⟨hs11, h⟩ := ite_ex h
 refine y (y_osub tabOk (i := a2) (j := (List.length f6.1 : Int)) rfl (sub_own 1 rfl) rfl rfl hs11.1 hs11.2.1 hs11.2.2 rfl ty5) rfl ?_
 refine q 1 [(12, .one (.raw (.slice none 0 0)) (subv (T.size (.int .u8)) sv8 (Int.toNat a2) (Int.toNat (List.length f6.1 : Int))))] [3] rfl <| zz <| q 3 [(41, .one (.raw (.slice none 0 0)) (subv (T.size (.int .u8)) sv8 (Int.toNat a2) (Int.toNat (List.length f6.1 : Int)))), (42, ti a3), (43, .one (.raw (.slice none 0 0)) (subv (T.size (.int .u8)) sv8 (Int.toNat a2) (Int.toNat (List.length f6.1 : Int))))] [] rfl <| y (y_lensub tabOk rfl (sub_sub (sub_own 1 rfl) hs11.1 hs11.2.1 hs11.2.2) rfl) rfl ?_
 refine y (y_min rfl rfl) rfl ?_
 obtain ⟨hs12, h⟩ := ite_ex h
 refine y (y_osub tabOk (i := (0 : Int)) (j := (min a3 (List.length (List.drop (Int.toNat a2) (List.take (Int.toNat (List.length f6.1 : Int)) f6.1)) : Int))) rfl (sub_sub (sub_own 1 rfl) hs11.1 hs11.2.1 hs11.2.2) rfl rfl hs12.1 hs12.2.1 hs12.2.2 rfl ty5) rfl ?_
 refine y (y_textsub tabOk rfl (sub_sub (sub_sub (sub_own 1 rfl) hs11.1 hs11.2.1 hs11.2.2) hs12.1 hs12.2.1 hs12.2.2) rfl rfl rfl) rfl ?_
 refine q 1 [(8, ts (List.take (Int.toNat (min a3 (List.length (List.drop (Int.toNat a2) (List.take (Int.toNat (List.length f6.1 : Int)) f6.1)) : Int))) (List.drop (Int.toNat a2) (List.take (Int.toNat (List.length f6.1 : Int)) f6.1))))] [] rfl ?_
 obtain ⟨t13, e, h⟩ := bnd_ex h; rw [e]
 refine p 1 [8,9] rfl <| zf <| r_dunfocus_same (P := Try.prog) (I := dI) kstr hf6 ?_
 refine r_imp_at (R' := Res.dfiles Try.prog dI mv1 a0.2.1) 0 rfl dat_dfiles <| pk [1,0] rfl <| r_disk (P := Try.prog) (I := dI) (D := a0) ?_
 cases h
 exact r_rets (rs := [.tmp 8, .tmp 9]) rfl (.cons (.tmp rfl) (.cons (.tmp rfl) (.nil))) rfl (fun _ vs g => tup_ok vs g) (fun _ _ _ => (.cons_cons _ .slnil))

theorem cursor_Open_ok (a0 : List Int) (r : (List Int × Int × Unit)) (h : cursor_Open a0 = some r) : Fn Try.prog 43 [ts a0] [] (fun v => tp v) (fun v => [Res.cls CReader v r]) := by
 unfold cursor_Open at h
 refine enter Try.func43 rfl 6 rfl rfl fun F => ?_
 refine zu <| p 1 [0] rfl <| zz <| p 1 [3] rfl <| y (y_build rfl zf127 rfl rfl (.cons ((.fst .here)) rfl rfl ok_here .nil)) rfl ?_
 refine r_box rfl rfl fun b1 => p 1 [2] rfl <| zf <| r_CReader (x := (a0, 0, ())) ?_
 cases h
 exact r_ret1 rfl (.tmp rfl) (fun _ _ g => holds_raw.2 ⟨rfl, by rw [(holds_raw.1 g).1]; exact (holds_raw.1 g).2⟩) (fun _ _ g => by obtain ⟨rfl, _⟩ := holds_raw.1 g; exact (.cons_cons _ .slnil))

theorem cursor_Reader_breaks_ok (b0 : Nat) (a0 : List Int × Int × Unit) (a1 : Int) (r : ((List Int × Int × Unit))) (h : cursor_Reader_breaks a0 a1 = some r) : Fn Try.prog 89 [ptr b0 0, ti a1] [Res.var b0 127 (.pair .str (.pair (.int .i64) .unit)) a0] (fun _ => .tup []) (fun _ => [Res.var b0 127 (.pair .str (.pair (.int .i64) .unit)) r]) := by
 unfold cursor_Reader_breaks at h
 refine enter Try.func89 rfl 11 rfl rfl fun F => ?_
 refine zr <| p 5 [5,6,8] rfl <| st 0 ((.fst .here)) ty9 rfl rfl rfl rfl trivial <| p 2 [6,10] rfl <| st 0 ((.snd (.fst .here))) ty25 rfl rfl rfl rfl trivial <| zn ?_
 cases h
 exact r_end0 rfl (fun _ => tup_ok [] .nil) ((.cons_cons _ .slnil))

theorem cursor_Reader_take_ok (b0 : Nat) (a0 : List Int × Int × Unit) (a1 : Int) (r : List Int × ((List Int × Int × Unit))) (h : cursor_Reader_take a0 a1 = some r) : Fn Try.prog 67 [ptr b0 0, ti a1] [Res.var b0 127 (.pair .str (.pair (.int .i64) .unit)) a0] (fun _ => ts r.1) (fun _ => [Res.var b0 127 (.pair .str (.pair (.int .i64) .unit)) r.2]) := by
 unfold cursor_Reader_take at h
 refine enter Try.func67 rfl 36 rfl rfl fun F => ?_
 refine zu <| p 1 [0,1] rfl <| za <| zs <| zu <| p 3 [0,1,8] rfl <| yl 0 ((.snd (.fst .here))) ty25 rfl rfl rfl trivial rfl <| q 1 [(10, tb (a0.2.1 != 0))] [0,1] rfl <| za <| rI h rfl (fun hc h => zu <| q 1 [(4, ts [])] [] rfl <| zf <| zT <| by cases h; exact r_ret1 rfl (.tmp rfl) (fun _ _ g => g) (fun _ _ _ => (.cons_cons _ .slnil))) fun hc h => ?_
 refine zk <| zt <| zs <| zu <| p 3 [0,1,13] rfl <| yl 0 ((.fst .here)) ty9 rfl rfl rfl trivial rfl <| q 3 [(17, tb (decide ((List.length a0.1 : Int) < a1)))] [0,1] rfl <| za <| rI h rfl (fun hc h => zu <| p 1 [18] rfl <| cB h fun r1 hr1 h => rc [0] (cursor_Reader_breaks_ok _ _ _ _ hr1) (by kernel_rfl) rfl rfl rfl fun _ => zz <| q 1 [(4, ts [])] [] rfl <| zf <| zT <| by cases h; exact r_ret1 rfl (.tmp rfl) (fun _ _ g => g) (fun _ _ _ => (.cons_cons _ .slnil))) fun hc h => zy <| p 3 [0,1,22] rfl <| yl 0 ((.fst .here)) ty9 rfl rfl rfl trivial rfl <| q 1 [(23, ts a0.1), (24, ti a1)] [0,1] rfl <| iE h fun hc h => ?_
 refine y (y_sub (i := (0 : Int)) (j := a1) tabOk rfl rfl rfl hc.1 hc.2.1 hc.2.2 rfl) rfl ?_
 refine q 1 [(5, ts (List.drop 0 (List.take (Int.toNat a1) a0.1)))] [0,1] rfl ?_
 obtain ⟨s2, e, h⟩ := bnd_ex h; rw [e]
 refine zz <| p 4 [1,5,26,29] rfl <| yl 0 ((.fst .here)) ty9 rfl rfl rfl trivial rfl <| q 1 [(30, ts a0.1), (31, ti a1)] [5,26] rfl <| iE h fun hc h => y (y_sub (i := a1) (j := (List.length a0.1 : Int)) tabOk rfl rfl rfl hc.1 hc.2.1 hc.2.2 rfl) rfl ?_
 refine q 2 [(32, ts (List.drop (Int.toNat a1) (List.take (Int.toNat (List.length a0.1 : Int)) a0.1))), (34, ptr b0 0)] [5] rfl <| st 0 ((.fst .here)) ty9 rfl rfl rfl rfl trivial <| zz <| p 2 [4] rfl <| zf ?_
 cases h
 exact r_ret1 rfl (.tmp rfl) (fun _ _ g => g) (fun _ _ _ => (.cons_cons _ .slnil))

theorem cursor_value_uint64_ok (a0 : List Int) (r : Int) (h : cursor_value_uint64 a0 = some r) : Pure Try.prog 66 [ts a0] (.one (.int .u64) r) := by
 unfold cursor_value_uint64 at h
 refine enter Try.func66 rfl 19 rfl rfl fun F => ?_
 refine zu <| p 1 [0] rfl <| zz <| p 1 [0,3] rfl <| za <| jK h (γ := Unit) (fun (o2 : Int) _ => [(3, .one (.int .u64) o2)]) (fun (o2 : Int) _ => []) (fun k1 h => ?_) fun o2 gg h => ?_
 ·refine zu <| q 3 [(6, ti (List.length a0 : Int)), (7, ti 0)] [0,3] rfl <| za <| zb <| r_less [0,3,6,7] rfl <| r_loopg (γ := Unit) (fun (s4 : Int × Int) _ => [(0, ts a0), (3, .one (.int .u64) s4.1), (6, ti (List.length a0 : Int)), (7, ti s4.2)]) (fun (s4 : Int × Int) _ => []) (cursor_value_uint64_l0 a0 k1) (0, 0) () h rfl rfl ?_
  clear h
  intro m5 s4 gg h
  cases m5 with
  | zero => cases h
  | succ m5 =>
  simp only [cursor_value_uint64_l0] at h
  refine zu <| q 1 [(3, .one (.int .u64) s4.1), (7, ti s4.2), (8, tb (decide (s4.2 < (List.length a0 : Int))))] [0,6] rfl <| za <| zs <| rI h rfl (fun hc h => ?_) fun hc h => ?_
  ·refine zk <| zt <| zs <| zb <| zu <| q 2 [(4, ti s4.2)] [0,3,6,7] rfl <| za <| zr <| q 4 [(11, .one (.int .u64) (ishl .u64 s4.1 8)), (12, ts a0), (13, ti s4.2)] [0,6,7] rfl <| iE h fun hc h => y (y_byte tabOk rfl rfl hc.1 hc.2 rfl) rfl ?_
   refine q 3 [(3, .one (.int .u64) (ior .u64 (ishl .u64 s4.1 8) (IntKind.wrap .u64 (List.getD a0 (Int.toNat s4.2) 0))))] [0,6,7] rfl ?_
   obtain ⟨v6, e, h⟩ := bnd_ex h; rw [e]
   exact zn <| zi <| zt <| zr <| q 2 [(3, .one (.int .u64) v6), (7, ti (IntKind.wrap .i64 (s4.2 + 1)))] [0,6] rfl <| za <| r_less [0,3,6,7] rfl <| r_backg (v6, (IntKind.wrap .i64 (s4.2 + 1))) () (Nat.lt_succ_self _) h rfl rfl
  exact zx <| ze <| ze <| zq <| zt <| r_less [3] rfl <| r_meetk s4.1 () h rfl rfl
 refine zu <| p 2 [2] rfl <| zf ?_
 cases h
 exact r_ret1 rfl (.tmp rfl) (fun _ _ g => g) (fun _ _ _ => List.nil_sublist _)

theorem cursor_Reader_I64_ok (b0 : Nat) (a0 : List Int × Int × Unit) (r : Int × ((List Int × Int × Unit))) (h : cursor_Reader_I64 a0 = some r) : Fn Try.prog 44 [ptr b0 0] [Res.var b0 127 (.pair .str (.pair (.int .i64) .unit)) a0] (fun _ => ti r.1) (fun _ => [Res.var b0 127 (.pair .str (.pair (.int .i64) .unit)) r.2]) := by
 unfold cursor_Reader_I64 at h
 refine enter Try.func44 rfl 7 rfl rfl fun F => ?_
 refine zu <| p 1 [0] rfl <| zz <| p 1 [3] rfl <| cB h fun r1 hr1 h => rc [0] (cursor_Reader_take_ok _ _ _ _ hr1) (by kernel_rfl) rfl rfl rfl fun _ => cB h fun r2 hr2 h => r_calls (cursor_value_uint64_ok _ _ hr2) (by kernel_rfl) rfl rfl <| p 2 [2] rfl <| zf ?_
 cases h
 exact r_ret1 rfl (.tmp rfl) (fun _ _ g => g) (fun _ _ _ => (.cons_cons _ .slnil))

theorem mark_right_ok (a0 : Int) (r : Bool) (h : mark_right a0 = some r) : Pure Try.prog 29 [ti a0] (tb r) := by
 unfold mark_right at h
 refine enter Try.func29 rfl 9 rfl rfl fun F => ?_
 refine zu <| p 1 [0] rfl <| zz <| p 3 [0,5] rfl ?_
 obtain ⟨b1, e, h⟩ := bnd_ex h; rw [e]
 refine r_lsplit (γ := Unit) 3 (fun _ => [(8, tb (b1 && (decide (a0 ≤ 281474976710655))))]) (fun _ => []) ?_ (fun _ => ?_)
 ·clear h
  cases b1
  ·exact p 3 [8] rfl <| za <| r_meetg () rfl rfl
  exact p 3 [8] rfl <| za <| r_meetg () rfl rfl
 refine p 1 [2] rfl <| zf ?_
 cases h
 exact r_ret1 rfl (.tmp rfl) (fun _ _ g => g) (fun _ _ _ => List.nil_sublist _)

theorem mark_read_ok (a0 : List Int) (a1 : Int) (r : (Int × Bool × Unit)) (h : mark_read a0 a1 = some r) : Pure Try.prog 26 [ts a0, ti a1] (.one (.pair (.int .i64) (.pair .bool .unit)) r) := by
 unfold mark_read at h
 refine enter Try.func26 rfl 25 rfl rfl fun F => ?_
 refine zu <| r_alloc (t := (.pair (.int .i64) (.pair .bool .unit))) rfl zf66 rfl fun b1 => zz <| p 3 [4,6,8] rfl <| iE h fun hc h => y (y_sub (i := (IntKind.wrap .i64 (64 * a1))) (j := (List.length a0 : Int)) tabOk rfl rfl rfl hc.1 hc.2.1 hc.2.2 rfl) rfl ?_
 refine iE h fun hc h => y (y_sub (i := (0 : Int)) (j := 12) tabOk rfl rfl rfl hc.1 hc.2.1 hc.2.2 rfl) rfl ?_
 refine q 1 [(0, ts (List.drop 0 (List.take 12 (List.drop (Int.toNat (IntKind.wrap .i64 (64 * a1))) (List.take (Int.toNat (List.length a0 : Int)) a0)))))] [4] rfl ?_
 obtain ⟨bx2, e, h⟩ := bnd_ex h; rw [e]
 refine zz <| p 1 [0,4,11] rfl <| cB h fun r3 hr3 h => rc [] (cursor_Open_ok _ _ hr3) (by kernel_rfl) rfl rfl rfl fun v4 => r_unCReader fun b5 hp => ?_
 subst hp
 refine cB h fun r6 hr6 h => rc [0] (cursor_Reader_I64_ok _ _ _ hr6) (by kernel_rfl) rfl rfl rfl fun _ => q 1 [(5, ti r6.1)] [0,4] rfl <| zz <| q 2 [(14, ti r6.1), (15, ti r6.1)] [0,4,5] rfl <| cB h fun r7 hr7 h => r_calls (mark_right_ok _ _ hr7) (by kernel_rfl) rfl rfl <| p 1 [0,4,5,14,17] rfl <| bX h fun k9 hk9 h => ?_
 refine r_lsplitk (γ := Unit) 6 (fun (o10 : Bool) _ => [(4, ptr b1 0), (14, ti r6.1), (23, tb o10)]) (fun _ _ => [Res.var b5 127 (.pair .str (.pair (.int .i64) .unit)) r6.2, Res.var b1 66 (.pair (.int .i64) (.pair .bool .unit)) (0, false, ())]) k9 r ?_ ?_
 ·rcases Bool.eq_false_or_eq_true r7 with hh | hh
  ·rw [hh] at h ⊢
   rw [if_pos rfl] at h
   refine q 1 [(17, tb true), (18, ti r6.1)] [0,4,14] rfl <| r_guard (by rfl) rfl ?_
   refine cB h fun r11 hr11 h => r_calls (mark_slot_ok _ _ hr11) (by kernel_rfl) rfl rfl <| r_guard (by rfl) rfl ?_
   refine iE h fun hc h => y (y_sub (i := (0 : Int)) (j := 12) tabOk rfl rfl rfl hc.1 hc.2.1 hc.2.2 rfl) rfl ?_
   exact q 3 [(23, tb ((List.drop 0 (List.take 12 r11)) == bx2))] [4,14] rfl <| zn <| r_less [4,14,23] rfl <| zt <| r_meetk ((List.drop 0 (List.take 12 r11)) == bx2) () h rfl rfl
  rw [hh] at h ⊢
  rw [if_neg (by decide)] at h
  exact p 6 [4,14,23] rfl <| zn <| r_less [4,14,23] rfl <| zt <| r_meetk false () h rfl rfl
 intro o10 _ h
 rw [← hk9] at h
 try dsimp only at h
 refine y (y_build rfl zf66 rfl rfl (.cons ((.fst .here)) rfl rfl ok_here (.cons ((.snd (.fst .here))) rfl rfl ok_here .nil))) rfl ?_
 refine st 1 .here ty66 rfl rfl rfl rfl trivial <| zf ?_
 cases h
 exact r_ret1 rfl (.cell 1 .here rfl rfl (by first | rfl | (simp only [Pth.off, T.size]; omega)) ok_here ty66) (fun _ _ g => g) (fun _ _ _ => List.nil_sublist _)

theorem mark_Open_ok (p0 : Value) (a0 : DiskS) (a1 : List Int) (r : (Int × Unit × List Int × Int × Int × Unit) × Int × DiskS) (h : mark_Open a0 a1 = some r) : Fn Try.prog 7 [tp p0, ts a1] [Res.disk Try.prog dI p0 a0] (fun v => .tup [⟨.raw (.pointer none), tupv v 0⟩, ⟨(.int .i64), r.2.1⟩]) (fun v => [Res.disk Try.prog dI p0 r.2.2, Res.clsif (CMark p0) (tupv v 0) r.1.2 r.1.1]) := by
 unfold mark_Open at h
 refine enter Try.func7 rfl 108 rfl rfl fun F => ?_
 refine zu <| p 2 [0,1] rfl <| zz <| p 2 [0,1,14,15] rfl <| cB h fun r1 hr1 h => rc [0] (disk_Disk_Size_ok _ _ _ _ hr1) (by kernel_rfl) rfl rfl rfl fun _ => q 5 [(6, ti r1.1), (7, ti r1.2)] [0,1] rfl <| za <| zs <| zb <| zu <| q 3 [(19, tb (r1.2 == 5))] [0,1,6,7] rfl <| za <| rI h rfl (fun hc h => zu <| p 2 [22,23] rfl <| cB h fun r2 hr2 h => rc [0] (mark_laid_ok _ _ _ _ hr2) (by kernel_rfl) rfl rfl rfl fun v3 => q 4 [(4, tp (tupv v3 0)), (5, ti r2.2.1)] [] rfl <| zf <| zB <| zT <| by cases h; exact pk [0,0] rfl <| r_rets (rs := [.tmp 4, .tmp 5]) rfl (.cons (.tmp rfl) (.cons (.tmp rfl) (.nil))) rfl (fun _ vs g => by cases g with | cons h0 g => cases g with | cons h1 g => cases g; exact ⟨_, rfl, .cons (raw_self h0) (.cons h1 (.nil))⟩) (fun _ vs g => by cases g with | cons h0 g => cases g with | cons h1 g => cases g; rw [raw_eq h0]; exact List.Sublist.refl _)) fun hc h => ?_
 refine zu <| q 3 [(27, tb (r1.2 != 0))] [0,1,6,7] rfl <| za <| rI h rfl (fun hc h => ?_) fun hc h => ?_
 ·refine zu <| q 3 [(4, tp (.pointer none)), (5, ti r1.2)] [] rfl <| zf <| zB <| zT <| r_nocls (K := (CMark p0)) (x := ((), [], 0, 0, ())) (e := 1) (by decide) ?_
  cases h
  exact pk [1,0] rfl <| r_rets (rs := [.tmp 4, .tmp 5]) rfl (.cons (.tmp rfl) (.cons (.tmp rfl) (.nil))) rfl (fun _ vs g => by cases g with | cons h0 g => cases g with | cons h1 g => cases g; exact ⟨_, rfl, .cons (raw_self h0) (.cons h1 (.nil))⟩) (fun _ vs g => by cases g with | cons h0 g => cases g with | cons h1 g => cases g; rw [raw_eq h0]; exact List.Sublist.refl _)
 refine zu <| q 3 [(31, tb (r1.1 != 128))] [0,1] rfl <| za <| rI h rfl (fun hc h => ?_) fun hc h => ?_
 ·refine zu <| p 2 [4,5] rfl <| zf <| zB <| zT <| r_nocls (K := (CMark p0)) (x := ((), [], 0, 0, ())) (e := 1) (by decide) ?_
  cases h
  exact pk [1,0] rfl <| r_rets (rs := [.tmp 4, .tmp 5]) rfl (.cons (.tmp rfl) (.cons (.tmp rfl) (.nil))) rfl (fun _ vs g => by cases g with | cons h0 g => cases g with | cons h1 g => cases g; exact ⟨_, rfl, .cons (raw_self h0) (.cons h1 (.nil))⟩) (fun _ vs g => by cases g with | cons h0 g => cases g with | cons h1 g => cases g; rw [raw_eq h0]; exact List.Sublist.refl _)
 refine zk <| zi <| zt <| zu <| p 2 [0,1,35,36] rfl <| cB h fun r4 hr4 h => rc [0] (disk_Disk_Read_ok _ _ _ _ _ _ hr4) (by kernel_rfl) rfl rfl rfl fun _ => q 5 [(7, ti r4.2), (8, ts r4.1)] [0,1] rfl <| za <| zs <| zu <| q 2 [(41, tb (r4.2 != 0))] [0,1,7,8] rfl <| za <| rI h rfl (fun hc h => ?_) fun hc h => ?_
 ·refine zu <| q 3 [(4, tp (.pointer none)), (5, ti r4.2)] [] rfl <| zf <| zT <| r_nocls (K := (CMark p0)) (x := ((), [], 0, 0, ())) (e := 1) (by decide) ?_
  cases h
  exact pk [1,0] rfl <| r_rets (rs := [.tmp 4, .tmp 5]) rfl (.cons (.tmp rfl) (.cons (.tmp rfl) (.nil))) rfl (fun _ vs g => by cases g with | cons h0 g => cases g with | cons h1 g => cases g; exact ⟨_, rfl, .cons (raw_self h0) (.cons h1 (.nil))⟩) (fun _ vs g => by cases g with | cons h0 g => cases g with | cons h1 g => cases g; rw [raw_eq h0]; exact List.Sublist.refl _)
 refine zy <| r_alloc (t := Y67) rfl zf67 rfl fun b5 => za <| jK h (γ := Unit) (fun (o7 : (List (Int × Bool × Unit))) _ => [(0, tp p0), (1, ts a1), (9, ptr b5 0)]) (fun (o7 : (List (Int × Bool × Unit))) _ => [Res.var b5 67 Y67 o7, Res.disk Try.prog dI p0 a0]) (fun k6 h => ?_) fun o7 gg h => ?_
 ·refine zu <| p 1 [0,1,8,9,43] rfl <| za <| zb <| r_less [0,1,8,9,43] rfl <| r_loopg (γ := Unit) (fun (s23 : Int × (List (Int × Bool × Unit))) _ => [(0, tp p0), (1, ts a1), (8, ts r4.1), (9, ptr b5 0), (43, ti s23.1)]) (fun (s23 : Int × (List (Int × Bool × Unit))) _ => [Res.var b5 67 Y67 s23.2, Res.disk Try.prog dI p0 a0]) (mark_Open_l0 r4 k6) (0, (List.replicate 2 ((0, false, ()) : Int × Bool × Unit))) () h rfl rfl ?_
  clear h
  intro m24 s23 gg h
  cases m24 with
  | zero => cases h
  | succ m24 =>
  simp only [mark_Open_l0] at h
  refine zu <| q 1 [(43, ti s23.1), (44, tb (decide (s23.1 < 2)))] [0,1,8,9] rfl <| za <| zs <| rI h rfl (fun hc h => ?_) fun hc h => ?_
  ·refine zk <| zt <| zs <| zb <| zu <| q 2 [(10, ti s23.1)] [0,1,8,9,43] rfl <| za <| zr <| q 3 [(46, ti s23.1), (47, ts r4.1), (48, ti s23.1)] [0,1,8,9,43] rfl <| cB h fun r25 hr25 h => r_calls (mark_read_ok _ _ _ hr25) (by kernel_rfl) rfl rfl <| iE h fun hc h => y (y_ivar rfl rfl hc.1 hc.2 un67 ty66) rfl ?_
   exact r_store 0 (.elem (Int.toNat s23.1) .here) rfl rfl rfl (by first | rfl | (simp only [Pth.off, T.size]; omega)) (ok_elem (by first | omega | (simp only [List.length_set] at hc ⊢; omega)) ok_here) ty66 <| zn <| zi <| zt <| zr <| q 2 [(43, ti (IntKind.wrap .i64 (s23.1 + 1)))] [0,1,8,9] rfl <| za <| r_less [0,1,8,9,43] rfl <| r_backg ((IntKind.wrap .i64 (s23.1 + 1)), (List.set s23.2 (Int.toNat s23.1) r25)) () (Nat.lt_succ_self _) h rfl rfl
  exact zx <| ze <| ze <| zq <| zt <| r_less [0,1,9] rfl <| r_meetk s23.2 () h rfl rfl
 refine zu <| p 2 [0,1,9,52,53] rfl <| y (y_build rfl zf70 rfl rfl (.cons ((.fst .here)) rfl rfl (ok_fst ok_here) (.cons ((.snd (.fst .here))) rfl rfl (ok_snd (ok_fst ok_here)) (.cons ((.snd (.snd (.snd (.fst .here))))) rfl rfl (ok_snd (ok_snd (ok_snd (ok_fst ok_here)))) .nil)))) rfl ?_
 refine r_box rfl rfl fun b8 => p 1 [0,1,9,11] rfl <| za <| jK h (γ := Unit) (fun (o10 : (Unit × List Int × Int × Int × Unit)) _ => [(0, tp p0), (1, ts a1), (11, ptr b8 0)]) (fun (o10 : (Unit × List Int × Int × Int × Unit)) _ => [Res.var b8 70 (.pair (.raw (.pointer none)) (.pair .str (.pair (.int .i64) (.pair (.int .i64) .unit)))) (p0, o10.2.1, o10.2.2.1, o10.2.2.2.1, o10.2.2.2.2), Res.var b5 67 Y67 o7, Res.disk Try.prog dI p0 a0]) (fun k9 h => ?_) fun o10 gg h => ?_
 ·refine zb <| zu <| iE h fun hc h => y (y_ivar rfl rfl hc.1 hc.2 un67 ty66) rfl ?_
  refine p 1 [0,1,9,11,64] rfl <| y (y_load 1 (.elem 0 ((.snd (.fst .here)))) rfl rfl (by first | rfl | (simp only [Pth.off, T.size]; omega)) (ok_elem (by first | omega | (simp only [List.length_set] at hc ⊢; omega)) (ok_snd (ok_fst ok_here))) ty4) rfl ?_
  refine q 2 [(67, tb (!((List.getD o7 0 (0, false, ())).2.1)))] [0,1,9,11] rfl ?_
  obtain ⟨b12, e, h⟩ := bnd_ex h; rw [e]
  refine bX h fun k13 hk13 h => ?_
  refine r_lsplitk (γ := Unit) 5 (fun (o14 : Bool) _ => [(0, tp p0), (1, ts a1), (9, ptr b5 0), (11, ptr b8 0), (72, tb o14)]) (fun _ _ => [Res.var b8 70 (.pair (.raw (.pointer none)) (.pair .str (.pair (.int .i64) (.pair (.int .i64) .unit)))) (p0, a1, 0, 1, ()), Res.var b5 67 Y67 o7, Res.disk Try.prog dI p0 a0]) k13 r ?_ ?_
  ·rcases Bool.eq_false_or_eq_true b12 with hh | hh
   ·rw [hh] at h ⊢
    rw [if_pos rfl] at h
    refine r_guard (by rfl) rfl ?_
    refine iE h fun hc h => y (y_ivar rfl rfl hc.1 hc.2 un67 ty66) rfl ?_
    refine p 1 [0,1,9,11,67,69] rfl <| r_guard (by rfl) rfl ?_
    refine y (y_load 1 (.elem 1 ((.snd (.fst .here)))) rfl rfl (by first | rfl | (simp only [Pth.off, T.size]; omega)) (ok_elem (by first | omega | (simp only [List.length_set] at hc ⊢; omega)) (ok_snd (ok_fst ok_here))) ty4) rfl ?_
    exact q 2 [(72, tb (!((List.getD o7 1 (0, false, ())).2.1)))] [0,1,9,11] rfl <| zn <| r_less [0,1,9,11,72] rfl <| zt <| r_meetk (!((List.getD o7 1 (0, false, ())).2.1)) () h rfl rfl
   rw [hh] at h ⊢
   rw [if_neg (by decide)] at h
   exact p 5 [0,1,9,11,72] rfl <| zn <| r_less [0,1,9,11,72] rfl <| zt <| r_meetk false () h rfl rfl
  intro o14 _ h
  rw [← hk13] at h
  try dsimp only at h
  refine p 1 [0,1,9,11,62] rfl <| za <| rI h rfl (fun hc h => ?_) fun hc h => ?_
  ·refine zu <| p 2 [4,5] rfl <| zf <| zB <| zT <| r_nocls (K := (CMark p0)) (x := ((), [], 0, 0, ())) (e := 1) (by decide) ?_
   cases h
   exact pk [0,2] rfl <| pk [1,0] rfl <| r_rets (rs := [.tmp 4, .tmp 5]) rfl (.cons (.tmp rfl) (.cons (.tmp rfl) (.nil))) rfl (fun _ vs g => by cases g with | cons h0 g => cases g with | cons h1 g => cases g; exact ⟨_, rfl, .cons (raw_self h0) (.cons h1 (.nil))⟩) (fun _ vs g => by cases g with | cons h0 g => cases g with | cons h1 g => cases g; rw [raw_eq h0]; exact List.Sublist.refl _)
  refine zu <| iE h fun hc h => y (y_ivar rfl rfl hc.1 hc.2 un67 ty66) rfl ?_
  refine p 1 [0,1,9,11,75] rfl <| y (y_load 1 (.elem 1 ((.snd (.fst .here)))) rfl rfl (by first | rfl | (simp only [Pth.off, T.size]; omega)) (ok_elem (by first | omega | (simp only [List.length_set] at hc ⊢; omega)) (ok_snd (ok_fst ok_here))) ty4) rfl ?_
  refine q 1 [(77, tb ((List.getD o7 1 (0, false, ())).2.1))] [0,1,9,11] rfl ?_
  obtain ⟨b15, e, h⟩ := bnd_ex h; rw [e]
  refine bX h fun k16 hk16 h => ?_
  refine r_lsplitk (γ := Unit) 14 (fun (o17 : Bool) _ => [(0, tp p0), (1, ts a1), (9, ptr b5 0), (11, ptr b8 0), (91, tb o17)]) (fun _ _ => [Res.var b8 70 (.pair (.raw (.pointer none)) (.pair .str (.pair (.int .i64) (.pair (.int .i64) .unit)))) (p0, a1, 0, 1, ()), Res.var b5 67 Y67 o7, Res.disk Try.prog dI p0 a0]) k16 r ?_ ?_
  ·rcases Bool.eq_false_or_eq_true b15 with hh | hh
   ·rw [hh] at h ⊢
    rw [if_pos rfl] at h
    refine r_guard (by rfl) rfl ?_
    refine iE h fun hc h => y (y_ivar rfl rfl hc.1 hc.2 un67 ty66) rfl ?_
    refine p 1 [0,1,9,11,77,79] rfl <| r_guard (by rfl) rfl ?_
    refine y (y_load 1 (.elem 0 ((.snd (.fst .here)))) rfl rfl (by first | rfl | (simp only [Pth.off, T.size]; omega)) (ok_elem (by first | omega | (simp only [List.length_set] at hc ⊢; omega)) (ok_snd (ok_fst ok_here))) ty4) rfl ?_
    refine q 2 [(82, tb (!((List.getD o7 0 (0, false, ())).2.1)))] [0,1,9,11,77] rfl ?_
    obtain ⟨b18, e, h⟩ := bnd_ex h; rw [e]
    refine bX h fun k19 hk19 h => ?_
    refine r_lsplitk (γ := Unit) 8 (fun (o20 : Bool) _ => [(0, tp p0), (1, ts a1), (9, ptr b5 0), (11, ptr b8 0), (77, tb true), (90, tb o20)]) (fun _ _ => [Res.var b8 70 (.pair (.raw (.pointer none)) (.pair .str (.pair (.int .i64) (.pair (.int .i64) .unit)))) (p0, a1, 0, 1, ()), Res.var b5 67 Y67 o7, Res.disk Try.prog dI p0 a0]) k19 r ?_ ?_
    ·rcases Bool.eq_false_or_eq_true b18 with hh | hh
     ·rw [hh] at h ⊢
      rw [if_pos rfl] at h
      exact p 8 [0,1,9,11,77,90] rfl <| zn <| r_less [0,1,9,11,77,90] rfl <| zt <| r_meetk true () h rfl rfl
     rw [hh] at h ⊢
     rw [if_neg (by decide)] at h
     refine r_guard (by rfl) rfl ?_
     refine iE h fun hc h => y (y_ivar rfl rfl hc.1 hc.2 un67 ty66) rfl ?_
     refine p 1 [0,1,9,11,77,82,84] rfl <| r_guard (by rfl) rfl ?_
     refine y (y_load 1 (.elem 0 ((.fst .here))) rfl rfl (by first | rfl | (simp only [Pth.off, T.size]; omega)) (ok_elem (by first | omega | (simp only [List.length_set] at hc ⊢; omega)) (ok_fst ok_here)) ty2) rfl ?_
     refine r_guard (by rfl) rfl ?_
     refine iE h fun hc h => y (y_ivar rfl rfl hc.1 hc.2 un67 ty66) rfl ?_
     refine q 1 [(85, ti ((List.getD o7 0 (0, false, ())).1)), (87, ptr b5 ((0 + 1 * 2) + 0))] [0,1,9,11,77,82] rfl <| r_guard (by rfl) rfl ?_
     refine y (y_load 1 (.elem 1 ((.fst .here))) rfl rfl (by first | rfl | (simp only [Pth.off, T.size]; omega)) (ok_elem (by first | omega | (simp only [List.length_set] at hc ⊢; omega)) (ok_fst ok_here)) ty2) rfl ?_
     exact q 2 [(90, tb (decide (((List.getD o7 0 (0, false, ())).1) < ((List.getD o7 1 (0, false, ())).1))))] [0,1,9,11,77] rfl <| zn <| r_less [0,1,9,11,77,90] rfl <| zt <| r_meetk (decide (((List.getD o7 0 (0, false, ())).1) < ((List.getD o7 1 (0, false, ())).1))) () h rfl rfl
    intro o20 _ h
    rw [← hk19] at h
    try dsimp only at h
    exact p 1 [0,1,9,11,91] rfl <| zn <| r_less [0,1,9,11,91] rfl <| zt <| r_meetk o20 () h rfl rfl
   rw [hh] at h ⊢
   rw [if_neg (by decide)] at h
   exact p 14 [0,1,9,11,91] rfl <| zn <| r_less [0,1,9,11,91] rfl <| zt <| r_meetk false () h rfl rfl
  intro o17 _ h
  rw [← hk16] at h
  try dsimp only at h
  refine p 1 [0,1,9,11,73] rfl <| za <| rI h rfl (fun hc h => ?_) fun hc h => ?_
  ·refine zr <| p 2 [0,1,9,11,92,93] rfl <| iE h fun hc h => y (y_ivar rfl rfl hc.1 hc.2 un67 ty66) rfl ?_
   refine p 1 [0,1,11,92,93,95] rfl <| y (y_load 1 (.elem 1 ((.fst .here))) rfl rfl (by first | rfl | (simp only [Pth.off, T.size]; omega)) (ok_elem (by first | omega | (simp only [List.length_set] at hc ⊢; omega)) (ok_fst ok_here)) ty2) rfl ?_
   exact q 2 [(96, ti ((List.getD o7 1 (0, false, ())).1)), (98, ptr b8 2)] [0,1,11,93] rfl <| st 0 ((.snd (.snd (.fst .here)))) ty2 rfl rfl rfl rfl trivial <| p 2 [0,1,11,100] rfl <| st 0 ((.snd (.snd (.snd (.fst .here))))) ty3 rfl rfl rfl rfl trivial <| zn <| zi <| zt <| r_less [0,1,11] rfl <| r_meetk ((), a1, (List.getD o7 1 (0, false, ())).1, 0, ()) () h rfl rfl
  refine zr <| p 1 [0,1,9,11,56] rfl <| iE h fun hc h => y (y_ivar rfl rfl hc.1 hc.2 un67 ty66) rfl ?_
  refine p 1 [0,1,11,56,58] rfl <| y (y_load 1 (.elem 0 ((.fst .here))) rfl rfl (by first | rfl | (simp only [Pth.off, T.size]; omega)) (ok_elem (by first | omega | (simp only [List.length_set] at hc ⊢; omega)) (ok_fst ok_here)) ty2) rfl ?_
  exact q 2 [(59, ti ((List.getD o7 0 (0, false, ())).1)), (61, ptr b8 2)] [0,1,11] rfl <| st 0 ((.snd (.snd (.fst .here)))) ty2 rfl rfl rfl rfl trivial <| zn <| zi <| zt <| r_less [0,1,11] rfl <| r_meetk ((), a1, (List.getD o7 0 (0, false, ())).1, 1, ()) () h rfl rfl
 refine zs <| zu <| p 2 [11,101,102] rfl <| cB h fun r11 hr11 h => rc [2] (disk_Disk_Sync_ok _ _ _ _ hr11) (by kernel_rfl) rfl rfl rfl fun _ => q 1 [(12, ti r11.1)] [11] rfl <| zz <| q 2 [(105, tb (r11.1 != 0))] [11,12] rfl <| za <| rI h rfl (fun hc h => ?_) fun hc h => ?_
 ·refine zu <| q 3 [(4, tp (.pointer none)), (5, ti r11.1)] [] rfl <| zf <| zT <| r_nocls (K := (CMark p0)) (x := ((), [], 0, 0, ())) (e := 1) (by decide) ?_
  cases h
  exact pk [0,0] rfl <| pk [1,0] rfl <| r_rets (rs := [.tmp 4, .tmp 5]) rfl (.cons (.tmp rfl) (.cons (.tmp rfl) (.nil))) rfl (fun _ vs g => by cases g with | cons h0 g => cases g with | cons h1 g => cases g; exact ⟨_, rfl, .cons (raw_self h0) (.cons h1 (.nil))⟩) (fun _ vs g => by cases g with | cons h0 g => cases g with | cons h1 g => cases g; rw [raw_eq h0]; exact List.Sublist.refl _)
 refine zy <| p 3 [4,5] rfl <| zf <| pk [1,0,0] rfl <| r_CMark (x := o10) (q := p0) ?_
 refine r_imp_at (R' := Res.clsif (CMark p0) (.pointer (some ⟨b8, 0, none⟩)) o10 0) 0 rfl (clsif_of rfl) ?_
 cases h
 exact pk [0,0] rfl <| pk [1,0] rfl <| r_rets (rs := [.tmp 4, .tmp 5]) rfl (.cons (.tmp rfl) (.cons (.tmp rfl) (.nil))) rfl (fun _ vs g => by cases g with | cons h0 g => cases g with | cons h1 g => cases g; exact ⟨_, rfl, .cons (raw_self h0) (.cons h1 (.nil))⟩) (fun _ vs g => by cases g with | cons h0 g => cases g with | cons h1 g => cases g; rw [raw_eq h0]; exact List.Sublist.refl _)

theorem mark_Mark_Value_ok (p0 : Value) (p100 : Value) (a0 : Unit × List Int × Int × Int × Unit) (a100 : DiskS) (r : Int) (h : mark_Mark_Value a0 a100 = some r) : Fn Try.prog 11 [tp p0] [Res.cls (CMark p100) p0 a0, Res.disk Try.prog dI p100 a100] (fun _ => ti r) (fun _ => [Res.cls (CMark p100) p0 a0, Res.disk Try.prog dI p100 a100]) := by
 unfold mark_Mark_Value at h
 refine enter Try.func11 rfl 7 rfl rfl fun F => ?_
 refine r_unCMark fun b1 hp => ?_
 subst hp
 refine r_CMark (x := a0) (q := p100) ?_
 refine zu <| p 1 [0] rfl <| za <| zs <| r_unCMarkb ?_
 refine zr <| p 3 [5] rfl <| yl 0 ((.snd (.snd (.fst .here)))) ty2 rfl rfl rfl trivial rfl <| q 1 [(2, ti a0.2.2.1)] [] rfl <| zf <| r_CMark (x := a0) (q := p100) ?_
 cases h
 exact r_ret1 rfl (.tmp rfl) (fun _ _ g => g) (fun _ _ _ => (.cons_cons _ (.cons_cons _ .slnil)))

theorem mark_Mark_Raise_ok (p0 : Value) (p100 : Value) (a0 : Unit × List Int × Int × Int × Unit) (a1 : Int) (a100 : DiskS) (r : Int × (Unit × List Int × Int × Int × Unit) × DiskS) (h : mark_Mark_Raise a0 a1 a100 = some r) : Fn Try.prog 9 [tp p0, ti a1] [Res.cls (CMark p100) p0 a0, Res.disk Try.prog dI p100 a100] (fun _ => ti r.1) (fun _ => [Res.cls (CMark p100) p0 r.2.1, Res.disk Try.prog dI p100 r.2.2]) := by
 unfold mark_Mark_Raise at h
 refine enter Try.func9 rfl 61 rfl rfl fun F => ?_
 refine r_unCMark fun b1 hp => ?_
 subst hp
 refine r_CMark (x := a0) (q := p100) ?_
 refine zu <| p 1 [0,1] rfl <| za <| zs <| zb <| zu <| p 1 [0,1,8] rfl <| cB h fun r2 hr2 h => r_calls (mark_right_ok _ _ hr2) (by kernel_rfl) rfl rfl <| p 2 [0,1,7] rfl <| za <| rI h rfl (fun hc h => zu <| p 1 [4] rfl <| zf <| zB <| zT <| by cases h; exact r_ret1 rfl (.tmp rfl) (fun _ _ g => g) (fun _ _ _ => (.cons_cons _ (.cons_cons _ .slnil)))) fun hc h => ?_
 refine zs <| r_unCMarkb ?_
 refine zr <| p 4 [0,1,12,15] rfl <| yl 0 ((.snd (.snd (.fst .here)))) ty2 rfl rfl rfl trivial rfl <| q 2 [(11, tb (decide (a1 ≤ a0.2.2.1)))] [0,1] rfl <| za <| rI h rfl (fun hc h => ?_) fun hc h => ?_
 ·refine zu <| p 1 [4] rfl <| zf <| zB <| zT <| r_CMark (x := a0) (q := p100) ?_
  cases h
  exact r_ret1 rfl (.tmp rfl) (fun _ _ g => g) (fun _ _ _ => (.cons_cons _ (.cons_cons _ .slnil)))
 refine zk <| zi <| zt <| zs <| zs <| h_start (S := AllIs [VarIs b1 70 (.pair (.raw (.pointer none)) (.pair .str (.pair (.int .i64) (.pair (.int .i64) .unit)))) (p100, a0.2.1, a0.2.2.1, a0.2.2.2.1, a0.2.2.2.2)]) (by kernel_rfl) ?_
 refine h_take (i := 0) (t := ptr b1 0) (blind_then (blind_then blind_body)) rfl (by kernel_rfl) (by kernel_rfl) (by kernel_rfl) (allis_cons (var_is 0 rfl) allis_nil) (y_pure tabOk rfl) rfl ?_
 refine h_take (i := 1) (t := ptr b1 0) (blind_then (blind_then blind_body)) rfl (by kernel_rfl) (by kernel_rfl) (by kernel_rfl) (allis_cons (var_is 0 rfl) allis_nil) (y_pure tabOk rfl) rfl ?_
 refine h_take (i := 2) (t := ptr b1 0) (blind_then (blind_then blind_body)) rfl (by kernel_rfl) (by kernel_rfl) (by kernel_rfl) (allis_cons (var_is 0 rfl) allis_nil) (y_pure tabOk rfl) rfl ?_
 refine h_take (i := 3) (t := tp p100) (blind_then (blind_then blind_body)) rfl (by kernel_rfl) (by kernel_rfl) (by kernel_rfl) (allis_cons (var_is 0 rfl) allis_nil) (y_held (S := fun w => AllIs [VarIs b1 70 (.pair (.raw (.pointer none)) (.pair .str (.pair (.int .i64) (.pair (.int .i64) .unit)))) (p100, a0.2.1, a0.2.2.1, a0.2.2.2.1, a0.2.2.2.2)] w) (allis_at 0 rfl) 0 ((.fst .here)) rfl rfl rfl (by first | rfl | (simp only [Pth.off, T.size]; omega)) (ok_fst ok_here) ty24) rfl ?_
 refine h_take (i := 4) (t := ptr b1 0) (blind_then (blind_then blind_body)) rfl (by kernel_rfl) (by kernel_rfl) (by kernel_rfl) (allis_cons (var_is 0 rfl) allis_nil) (y_pure tabOk rfl) rfl ?_
 refine h_take (i := 5) (t := ptr b1 0) (blind_then (blind_then blind_body)) rfl (by kernel_rfl) (by kernel_rfl) (by kernel_rfl) (allis_cons (var_is 0 rfl) allis_nil) (y_pure tabOk rfl) rfl ?_
 refine h_take (i := 6) (t := ptr b1 1) (blind_then (blind_then blind_body)) rfl (by kernel_rfl) (by kernel_rfl) (by kernel_rfl) (allis_cons (var_is 0 rfl) allis_nil) (y_pure tabOk rfl) rfl ?_
 refine h_take (i := 7) (t := ts a0.2.1) (blind_then (blind_then blind_body)) rfl (by kernel_rfl) (by kernel_rfl) (by kernel_rfl) (allis_cons (var_is 0 rfl) allis_nil) (y_held (S := fun w => AllIs [VarIs b1 70 (.pair (.raw (.pointer none)) (.pair .str (.pair (.int .i64) (.pair (.int .i64) .unit)))) (p100, a0.2.1, a0.2.2.1, a0.2.2.2.1, a0.2.2.2.2)] w) (allis_at 0 rfl) 0 ((.snd (.fst .here))) rfl rfl rfl (by first | rfl | (simp only [Pth.off, T.size]; omega)) (ok_snd (ok_fst ok_here)) ty9) rfl ?_
 refine h_take (i := 8) (t := ptr b1 0) (blind_then (blind_then blind_body)) rfl (by kernel_rfl) (by kernel_rfl) (by kernel_rfl) (allis_cons (var_is 0 rfl) allis_nil) (y_pure tabOk rfl) rfl ?_
 refine h_take (i := 9) (t := ptr b1 0) (blind_then (blind_then blind_body)) rfl (by kernel_rfl) (by kernel_rfl) (by kernel_rfl) (allis_cons (var_is 0 rfl) allis_nil) (y_pure tabOk rfl) rfl ?_
 refine h_take (i := 10) (t := ptr b1 3) (blind_then (blind_then blind_body)) rfl (by kernel_rfl) (by kernel_rfl) (by kernel_rfl) (allis_cons (var_is 0 rfl) allis_nil) (y_pure tabOk rfl) rfl ?_
 refine h_take (i := 11) (t := ti a0.2.2.2.1) (blind_then (blind_then blind_body)) rfl (by kernel_rfl) (by kernel_rfl) (by kernel_rfl) (allis_cons (var_is 0 rfl) allis_nil) (y_held (S := fun w => AllIs [VarIs b1 70 (.pair (.raw (.pointer none)) (.pair .str (.pair (.int .i64) (.pair (.int .i64) .unit)))) (p100, a0.2.1, a0.2.2.1, a0.2.2.2.1, a0.2.2.2.2)] w) (allis_at 0 rfl) 0 ((.snd (.snd (.snd (.fst .here))))) rfl rfl rfl (by first | rfl | (simp only [Pth.off, T.size]; omega)) (ok_snd (ok_snd (ok_snd (ok_fst ok_here)))) ty3) rfl ?_
 refine h_take (i := 12) (t := ti (IntKind.wrap .i64 (64 * a0.2.2.2.1))) (blind_then (blind_then blind_body)) rfl (by kernel_rfl) (by kernel_rfl) (by kernel_rfl) (allis_cons (var_is 0 rfl) allis_nil) (y_pure tabOk rfl) rfl ?_
 refine h_take (i := 13) (t := ti a1) (blind_then (blind_then blind_body)) rfl (by kernel_rfl) (by kernel_rfl) (by kernel_rfl) (allis_cons (var_is 0 rfl) allis_nil) (y_pure tabOk rfl) rfl ?_
 refine h_one (i := 14) (by kernel_rfl) rfl ?_
 refine cB h fun r3 hr3 h => r_calls (mark_slot_ok _ _ hr3) (by kernel_rfl) rfl rfl <| za <| h_in (allis_cons (var_is 0 rfl) allis_nil) ?_
 refine r_less [0,1,21,25,30,32] rfl <| h_one (i := 15) (by kernel_rfl) rfl ?_
 refine cB h fun r4 hr4 h => rc [1] (disk_Disk_Write_ok _ _ _ _ _ _ hr4) (by kernel_rfl) rfl rfl rfl fun _ => za <| h_in (allis_cons (var_is 1 rfl) allis_nil) ?_
 refine r_less [0,1,33] rfl <| h_take (i := 16) (t := ti r4.1) (blind_then (blind_then blind_body)) rfl (by kernel_rfl) (by kernel_rfl) (by kernel_rfl) (allis_cons (var_is 1 rfl) allis_nil) (y_pure tabOk rfl) rfl ?_
 refine h_end (by kernel_rfl) ?_
 refine zt <| zu <| q 2 [(5, ti r4.1), (35, tb (r4.1 != 0))] [0,1] rfl <| za <| rI h rfl (fun hc h => ?_) fun hc h => ?_
 ·refine zu <| q 2 [(4, ti r4.1)] [] rfl <| zf <| zT <| pk [1,0] rfl <| r_CMark (x := a0) (q := p100) ?_
  cases h
  exact r_ret1 rfl (.tmp rfl) (fun _ _ g => g) (fun _ _ _ => (.cons_cons _ (.cons_cons _ .slnil)))
 refine zk <| zt <| zs <| zs <| r_any (by kernel_rfl) ?_
 refine a_float (i := 0) (t := ptr b1 0) (blind_then (blind_then blind_body)) rfl (by kernel_rfl) (by kernel_rfl) (by kernel_rfl) (y_pure tabOk rfl) rfl ?_
 refine a_float (i := 4) (t := ptr b1 0) (blind_then (blind_then blind_body)) rfl (by kernel_rfl) (by kernel_rfl) (by kernel_rfl) (y_pure tabOk rfl) rfl ?_
 refine a_two (i := 1) (j := 5) (by kernel_rfl) rfl rfl ?_ ?_
 ·refine p 1 [0,1,38,41] rfl <| za <| r_less [0,1,38,41] rfl <| a_float (i := 2) (t := ptr b1 0) (blind_then (blind_then blind_body)) rfl (by kernel_rfl) (by kernel_rfl) (by kernel_rfl) (y_pure tabOk rfl) rfl ?_
  refine a_two (i := 3) (j := 5) (by kernel_rfl) rfl rfl ?_ ?_
  ·refine yl 1 ((.fst .here)) ty24 rfl rfl rfl trivial rfl <| za <| r_less [0,1,40,41] rfl <| a_one (i := 5) (by kernel_rfl) rfl ?_
   refine p 1 [0,1,40,42] rfl <| za <| r_less [0,1,40,42] rfl <| a_float (i := 6) (t := ptr b1 1) (blind_then (blind_then blind_body)) rfl (by kernel_rfl) (by kernel_rfl) (by kernel_rfl) (y_pure tabOk rfl) rfl ?_
   refine a_one (i := 7) (by kernel_rfl) rfl ?_
   refine yl 1 ((.snd (.fst .here))) ty9 rfl rfl rfl trivial rfl <| za <| r_less [0,1,40,44] rfl <| a_one (i := 8) (by kernel_rfl) rfl ?_
   refine cB h fun r5 hr5 h => rc [0] (disk_Disk_Sync_ok _ _ _ _ hr5) (by kernel_rfl) rfl rfl rfl fun _ => za <| r_less [0,1,45] rfl <| a_float (i := 9) (t := ti r5.1) (blind_then (blind_then blind_body)) rfl (by kernel_rfl) (by kernel_rfl) (by kernel_rfl) (y_pure tabOk rfl) rfl ?_
   refine a_end (by kernel_rfl) ?_
   refine zt <| zu <| q 2 [(6, ti r5.1), (47, tb (r5.1 != 0))] [0,1] rfl <| za <| rI h rfl (fun hc h => ?_) fun hc h => ?_
   ·refine zu <| q 2 [(4, ti r5.1)] [] rfl <| zf <| zT <| pk [1,0] rfl <| r_CMark (x := a0) (q := p100) ?_
    cases h
    exact r_ret1 rfl (.tmp rfl) (fun _ _ g => g) (fun _ _ _ => (.cons_cons _ (.cons_cons _ .slnil)))
   refine zy <| p 6 [49,50,51,54] rfl <| yl 1 ((.snd (.snd (.snd (.fst .here))))) ty3 rfl rfl rfl trivial rfl <| q 3 [(56, ti (IntKind.wrap .i64 (1 - a0.2.2.2.1))), (58, ptr b1 2)] [50,51] rfl <| st 1 ((.snd (.snd (.fst .here)))) ty2 rfl rfl rfl rfl trivial <| p 2 [56,60] rfl <| st 1 ((.snd (.snd (.snd (.fst .here))))) ty3 rfl rfl rfl rfl trivial <| zz <| p 1 [4] rfl <| zf <| pk [1,0] rfl <| r_CMark (x := ((), a0.2.1, a1, (IntKind.wrap .i64 (1 - a0.2.2.2.1)), a0.2.2.2.2)) (q := p100) ?_
   cases h
   exact r_ret1 rfl (.tmp rfl) (fun _ _ g => g) (fun _ _ _ => (.cons_cons _ (.cons_cons _ .slnil)))
  refine p 1 [0,1,39,42] rfl <| za <| r_less [0,1,39,42] rfl <| a_float (i := 6) (t := ptr b1 1) (blind_then (blind_then blind_body)) rfl (by kernel_rfl) (by kernel_rfl) (by kernel_rfl) (y_pure tabOk rfl) rfl ?_
  refine a_pref (fuel := 2) [3, 7] #[true, true, true, true, true, true, true, true, false, false] (by kernel_rfl) ?_
  refine q_y (y_load 1 ((.fst .here)) rfl rfl (by first | rfl | (simp only [Pth.off, T.size]; omega)) (ok_fst ok_here) ty24) rfl ?_
  refine q_y (y_load 1 ((.snd (.fst .here))) rfl rfl (by first | rfl | (simp only [Pth.off, T.size]; omega)) (ok_snd (ok_fst ok_here)) ty9) rfl ?_
  refine q_nil ?_
  refine r_less [0,1,40,44] rfl <| a_one (i := 8) (by kernel_rfl) rfl ?_
  refine cB h fun r5 hr5 h => rc [0] (disk_Disk_Sync_ok _ _ _ _ hr5) (by kernel_rfl) rfl rfl rfl fun _ => za <| r_less [0,1,45] rfl <| a_float (i := 9) (t := ti r5.1) (blind_then (blind_then blind_body)) rfl (by kernel_rfl) (by kernel_rfl) (by kernel_rfl) (y_pure tabOk rfl) rfl ?_
  refine a_end (by kernel_rfl) ?_
  refine zt <| zu <| q 2 [(6, ti r5.1), (47, tb (r5.1 != 0))] [0,1] rfl <| za <| rI h rfl (fun hc h => ?_) fun hc h => ?_
  ·refine zu <| q 2 [(4, ti r5.1)] [] rfl <| zf <| zT <| pk [1,0] rfl <| r_CMark (x := a0) (q := p100) ?_
   cases h
   exact r_ret1 rfl (.tmp rfl) (fun _ _ g => g) (fun _ _ _ => (.cons_cons _ (.cons_cons _ .slnil)))
  refine zy <| p 6 [49,50,51,54] rfl <| yl 1 ((.snd (.snd (.snd (.fst .here))))) ty3 rfl rfl rfl trivial rfl <| q 3 [(56, ti (IntKind.wrap .i64 (1 - a0.2.2.2.1))), (58, ptr b1 2)] [50,51] rfl <| st 1 ((.snd (.snd (.fst .here)))) ty2 rfl rfl rfl rfl trivial <| p 2 [56,60] rfl <| st 1 ((.snd (.snd (.snd (.fst .here))))) ty3 rfl rfl rfl rfl trivial <| zz <| p 1 [4] rfl <| zf <| pk [1,0] rfl <| r_CMark (x := ((), a0.2.1, a1, (IntKind.wrap .i64 (1 - a0.2.2.2.1)), a0.2.2.2.2)) (q := p100) ?_
  cases h
  exact r_ret1 rfl (.tmp rfl) (fun _ _ g => g) (fun _ _ _ => (.cons_cons _ (.cons_cons _ .slnil)))
 refine p 1 [0,1,37,42] rfl <| za <| r_less [0,1,37,42] rfl <| a_float (i := 6) (t := ptr b1 1) (blind_then (blind_then blind_body)) rfl (by kernel_rfl) (by kernel_rfl) (by kernel_rfl) (y_pure tabOk rfl) rfl ?_
 refine a_two (i := 1) (j := 7) (by kernel_rfl) rfl rfl ?_ ?_
 ·refine p 1 [0,1,38,43] rfl <| za <| r_less [0,1,38,43] rfl <| a_float (i := 2) (t := ptr b1 0) (blind_then (blind_then blind_body)) rfl (by kernel_rfl) (by kernel_rfl) (by kernel_rfl) (y_pure tabOk rfl) rfl ?_
  refine a_pref (fuel := 2) [3, 7] #[true, true, true, true, true, true, true, true, false, false] (by kernel_rfl) ?_
  refine q_y (y_load 1 ((.fst .here)) rfl rfl (by first | rfl | (simp only [Pth.off, T.size]; omega)) (ok_fst ok_here) ty24) rfl ?_
  refine q_y (y_load 1 ((.snd (.fst .here))) rfl rfl (by first | rfl | (simp only [Pth.off, T.size]; omega)) (ok_snd (ok_fst ok_here)) ty9) rfl ?_
  refine q_nil ?_
  refine r_less [0,1,40,44] rfl <| a_one (i := 8) (by kernel_rfl) rfl ?_
  refine cB h fun r5 hr5 h => rc [0] (disk_Disk_Sync_ok _ _ _ _ hr5) (by kernel_rfl) rfl rfl rfl fun _ => za <| r_less [0,1,45] rfl <| a_float (i := 9) (t := ti r5.1) (blind_then (blind_then blind_body)) rfl (by kernel_rfl) (by kernel_rfl) (by kernel_rfl) (y_pure tabOk rfl) rfl ?_
  refine a_end (by kernel_rfl) ?_
  refine zt <| zu <| q 2 [(6, ti r5.1), (47, tb (r5.1 != 0))] [0,1] rfl <| za <| rI h rfl (fun hc h => ?_) fun hc h => ?_
  ·refine zu <| q 2 [(4, ti r5.1)] [] rfl <| zf <| zT <| pk [1,0] rfl <| r_CMark (x := a0) (q := p100) ?_
   cases h
   exact r_ret1 rfl (.tmp rfl) (fun _ _ g => g) (fun _ _ _ => (.cons_cons _ (.cons_cons _ .slnil)))
  refine zy <| p 6 [49,50,51,54] rfl <| yl 1 ((.snd (.snd (.snd (.fst .here))))) ty3 rfl rfl rfl trivial rfl <| q 3 [(56, ti (IntKind.wrap .i64 (1 - a0.2.2.2.1))), (58, ptr b1 2)] [50,51] rfl <| st 1 ((.snd (.snd (.fst .here)))) ty2 rfl rfl rfl rfl trivial <| p 2 [56,60] rfl <| st 1 ((.snd (.snd (.snd (.fst .here))))) ty3 rfl rfl rfl rfl trivial <| zz <| p 1 [4] rfl <| zf <| pk [1,0] rfl <| r_CMark (x := ((), a0.2.1, a1, (IntKind.wrap .i64 (1 - a0.2.2.2.1)), a0.2.2.2.2)) (q := p100) ?_
  cases h
  exact r_ret1 rfl (.tmp rfl) (fun _ _ g => g) (fun _ _ _ => (.cons_cons _ (.cons_cons _ .slnil)))
 refine yl 1 ((.snd (.fst .here))) ty9 rfl rfl rfl trivial rfl <| za <| r_less [0,1,37,44] rfl <| a_one (i := 1) (by kernel_rfl) rfl ?_
 refine q 1 [(38, ptr b1 0), (44, ts a0.2.1)] [0,1] rfl <| za <| r_less [0,1,38,44] rfl <| a_float (i := 2) (t := ptr b1 0) (blind_then (blind_then blind_body)) rfl (by kernel_rfl) (by kernel_rfl) (by kernel_rfl) (y_pure tabOk rfl) rfl ?_
 refine a_one (i := 3) (by kernel_rfl) rfl ?_
 refine yl 1 ((.fst .here)) ty24 rfl rfl rfl trivial rfl <| za <| r_less [0,1,40,44] rfl <| a_one (i := 8) (by kernel_rfl) rfl ?_
 refine cB h fun r5 hr5 h => rc [0] (disk_Disk_Sync_ok _ _ _ _ hr5) (by kernel_rfl) rfl rfl rfl fun _ => za <| r_less [0,1,45] rfl <| a_float (i := 9) (t := ti r5.1) (blind_then (blind_then blind_body)) rfl (by kernel_rfl) (by kernel_rfl) (by kernel_rfl) (y_pure tabOk rfl) rfl ?_
 refine a_end (by kernel_rfl) ?_
 refine zt <| zu <| q 2 [(6, ti r5.1), (47, tb (r5.1 != 0))] [0,1] rfl <| za <| rI h rfl (fun hc h => ?_) fun hc h => ?_
 ·refine zu <| q 2 [(4, ti r5.1)] [] rfl <| zf <| zT <| pk [1,0] rfl <| r_CMark (x := a0) (q := p100) ?_
  cases h
  exact r_ret1 rfl (.tmp rfl) (fun _ _ g => g) (fun _ _ _ => (.cons_cons _ (.cons_cons _ .slnil)))
 refine zy <| p 6 [49,50,51,54] rfl <| yl 1 ((.snd (.snd (.snd (.fst .here))))) ty3 rfl rfl rfl trivial rfl <| q 3 [(56, ti (IntKind.wrap .i64 (1 - a0.2.2.2.1))), (58, ptr b1 2)] [50,51] rfl <| st 1 ((.snd (.snd (.fst .here)))) ty2 rfl rfl rfl rfl trivial <| p 2 [56,60] rfl <| st 1 ((.snd (.snd (.snd (.fst .here))))) ty3 rfl rfl rfl rfl trivial <| zz <| p 1 [4] rfl <| zf <| pk [1,0] rfl <| r_CMark (x := ((), a0.2.1, a1, (IntKind.wrap .i64 (1 - a0.2.2.2.1)), a0.2.2.2.2)) (q := p100) ?_
 cases h
 exact r_ret1 rfl (.tmp rfl) (fun _ _ g => g) (fun _ _ _ => (.cons_cons _ (.cons_cons _ .slnil)))

theorem sortS : SortOk Try.prog 39 Go.Proofs.encStr (fun x y => decide (x ≤ y)) := sortS_of Try.laysSortS

theorem disk_Disk_List_ok (p0 : Value) (a0 : DiskS) (r : List (List Int)) (h : disk_Disk_List a0 = some r) : Fn Try.prog 24 [.one (.raw NV) p0] [Res.disk Try.prog dI p0 a0] (fun v => .one (.raw (.slice none 0 0)) v) (fun v => [Res.disk Try.prog dI p0 a0, Res.own v 9 .str r]) := by
  unfold disk_Disk_List at h
  refine enter Try.func24 rfl 25 rfl rfl fun F => ?_
  refine r_undisk fun b2 mv1 hp => ?_
  subst hp
  refine r_seq ?_
  refine r_region ?_
  refine r_pure tabOk 1 [0] (E' := [(0, ptr b2 0)]) rfl ?_
  refine r_nil ?_
  refine r_then ?_
  refine r_seq ?_
  refine r_seq ?_
  refine r_region ?_
  refine r_pure tabOk 3 [0, 7] (E' := [(0, ptr b2 0), (7, ptr b2 5)]) rfl ?_
  refine y (y_load 0 (.snd (.snd (.snd (.snd (.snd (.fst .here)))))) rfl rfl (by first | rfl | (simp only [Pth.off, T.size]; omega)) (ok_snd (ok_snd (ok_snd (ok_snd (ok_snd (ok_fst ok_here)))))) ty4) rfl ?_
  refine r_nil ?_
  refine r_then ?_
  refine r_if (b := a0.2.2.2.2.2.1) rfl (fun hc => ?_) (fun hc => ?_)
  · rw [if_pos hc] at h
    refine r_seq ?_
    refine r_region ?_
    refine r_pure tabOk 1 [2] (E' := [(2, .one (.raw (.slice none 0 0)) (.slice none 0 0))]) rfl ?_
    refine r_nil ?_
    refine r_then ?_
    refine r_ret ?_
    refine t_then ?_
    refine r_disk (P := Try.prog) (I := dI) (D := a0) ?_
    refine r_nilown (.slice none 0 0) rfl 9 .str ?_
    refine r_swap ?_
    obtain rfl := Option.some.inj h
    exact r_ret1 rfl (.tmp rfl) (fun _ _ g => raw_self g) (fun _ _ g => by obtain ⟨rfl, _⟩ := holds_raw.1 g; exact List.Sublist.refl _)
  · rw [if_neg (ne_true_of_eq_false hc)] at h
    obtain ⟨hlen, h⟩ := ite_ex h
    obtain rfl := Option.some.inj h
    refine r_skip ?_
    refine r_then ?_
    refine r_seq ?_
    refine r_region ?_
    refine r_pure tabOk 1 [0, 3] (E' := [(0, ptr b2 0), (3, .one (.raw (.slice none 0 0)) (.slice none 0 0))]) rfl ?_
    refine r_nil ?_
    refine r_then ?_
    repeat refine r_seq ?_
    refine r_region ?_
    refine r_pure tabOk 3 [0, 3, 11] (E' := [(0, ptr b2 0), (3, .one (.raw (.slice none 0 0)) (.slice none 0 0)), (11, ptr b2 1)]) rfl ?_
    refine y (y_load 0 (.snd (.fst .here)) rfl rfl (by first | rfl | (simp only [Pth.off, T.size]; omega)) (ok_snd (ok_fst ok_here)) ty62) rfl ?_
    refine r_swap ?_
    refine r_drange kstr rfl Try.underlying62 rfl fun it6 hn7 => ?_
    refine r_nil ?_
    refine r_then ?_
    refine r_block ?_
    refine r_nilown (.slice none 0 0) rfl 9 .str ?_
    refine r_less [0, 3, 13] rfl ?_
    refine r_fact (p := (([] : List (List Int)) ++ a0.2.1.map (·.1)).Perm (a0.2.1.map (·.1))) (List.Perm.refl _) ?_
    refine r_loopI (σ := List (List Int) × Value × List (List Int)) (fun s => [(0, ptr b2 0), (3, .one (.raw (.slice none 0 0)) s.2.1), (13, .one (.raw (.pointer none)) it6)]) (fun s => [Res.fact ((s.2.2 ++ s.1).Perm (a0.2.1.map (·.1))), Res.own s.2.1 9 .str s.2.2, Res.diter Try.prog dI mv1 it6 a0.2.1 s.1 none none, Res.var b2 64 DT (a0.1, mv1, a0.2.2.1, a0.2.2.2.1, a0.2.2.2.2.1, a0.2.2.2.2.2.1, a0.2.2.2.2.2.2, ())]) (fun s => s.1.length) (a0.2.1.map (·.1), .slice none 0 0, []) rfl rfl ?_
    rintro ⟨todo, v8, xs⟩
    refine r_unfact fun hperm => ?_
    refine r_swap ?_
    refine r_seq ?_
    refine r_region ?_
    refine r_dnext kstr rfl rfl (fun ht => ?_) (fun A k B q htk hk => ?_)
    · have hperm2 : xs.Perm (a0.2.1.map (·.1)) := by have hp := hperm; simp only at ht hp; rw [ht, List.append_nil] at hp; exact hp
      refine r_dunrange ?_
      refine r_pure tabOk 1 [0, 3, 15] (E' := [(0, ptr b2 0), (3, .one (.raw (.slice none 0 0)) v8), (15, .one .bool false)]) rfl ?_
      refine r_nil ?_
      refine r_then ?_
      refine r_seq ?_
      refine r_if (b := false) rfl (fun hc => ?_) (fun hc => ?_)
      · cases hc
      · refine r_exit ?_
        refine e_then ?_
        refine e_then ?_
        refine e_eq ?_
        refine r_then ?_
        refine r_dsorted kstr fun hko hso => ?_
        refine r_swap ?_
        refine r_seq ?_
        refine r_region ?_
        refine r_pure tabOk 1 [3, 22] (E' := [(3, .one (.raw (.slice none 0 0)) v8), (22, .one (.raw (.slice none 0 0)) v8)]) rfl ?_
        refine r_call (Lo := [Res.dfiles Try.prog dI mv1 a0.2.1, Res.var b2 64 DT (a0.1, mv1, a0.2.2.1, a0.2.2.2.1, a0.2.2.2.2.1, a0.2.2.2.2.2.1, a0.2.2.2.2.2.2, ())]) (sortS_fn sortS hperm2 hso (fun x hx => by obtain ⟨p, hp, rfl⟩ := List.mem_map.1 (hperm2.mem_iff.1 hx); exact (hko p hp).1) (by rw [hperm2.length_eq, List.length_map]; omega) v8) (by kernel_rfl) (List.Perm.refl _) rfl rfl fun _ => ?_
        refine r_nil ?_
        refine r_then ?_
        refine r_seq ?_
        refine r_region ?_
        refine r_pure tabOk 2 [2] (E' := [(2, .one (.raw (.slice none 0 0)) v8)]) rfl ?_
        refine r_nil ?_
        refine r_then ?_
        refine r_ret ?_
        refine r_perm (L' := [Res.var b2 64 DT (a0.1, mv1, a0.2.2.1, a0.2.2.2.1, a0.2.2.2.2.1, a0.2.2.2.2.2.1, a0.2.2.2.2.2.2, ()), Res.dfiles Try.prog dI mv1 a0.2.1, Res.own v8 9 .str (a0.2.1.map (·.1))]) ((List.Perm.swap _ _ _).trans ((List.Perm.cons _ (List.Perm.swap _ _ _)).trans (List.Perm.swap _ _ _))) ?_
        refine r_disk (P := Try.prog) (I := dI) (D := a0) ?_
        exact r_ret1 rfl (.tmp rfl) (fun _ _ g => raw_self g) (fun _ _ g => by obtain ⟨rfl, _⟩ := holds_raw.1 g; exact List.Sublist.refl _)
    · refine r_pure tabOk 1 [0, 3, 13, 15] (E' := [(0, ptr b2 0), (3, .one (.raw (.slice none 0 0)) v8), (13, .one (.raw (.pointer none)) it6), (15, .one .bool true)]) rfl ?_
      refine r_nil ?_
      refine r_then ?_
      refine r_seq ?_
      refine r_if (b := true) rfl (fun hc => ?_) (fun hc => ?_)
      · refine r_skip ?_
        refine r_then ?_
        refine r_block ?_
        refine r_seq ?_
        refine r_region ?_
        refine y (y_dentry rfl 0 rfl) rfl ?_
        refine r_pure tabOk 2 [0, 3, 4, 13] (E' := [(0, ptr b2 0), (3, .one (.raw (.slice none 0 0)) v8), (4, .one .str k), (13, .one (.raw (.pointer none)) it6)]) rfl ?_
        refine r_nil ?_
        refine r_then ?_
        refine r_region ?_
        refine r_pure tabOk 2 [0, 13, 18, 19] (E' := [(0, ptr b2 0), (13, .one (.raw (.pointer none)) it6), (18, .one (.raw (.slice none 0 0)) v8), (19, .one .str k)]) rfl ?_
        refine r_lits (B := 16) tabOk rfl el9 rfl rfl rfl (.cons rfl .nil) rfl fun v9 => ?_
        have hroom : (List.length xs + List.length [k]) * 16 ≤ 140737488355328 := by
          have e1 := hperm.length_eq
          simp only at htk e1
          rw [htk] at e1
          simp only [List.length_append, List.length_cons, List.length_nil, List.length_map] at e1 ⊢
          omega
        refine r_append (B := 16) tabOk 2 rfl rfl (src_own 0 rfl rfl) rfl el9 rfl rfl hroom rfl fun v10 => ?_
        refine r_pure tabOk 1 [0, 3, 13] (E' := [(0, ptr b2 0), (3, .one (.raw (.slice none 0 0)) v10), (13, .one (.raw (.pointer none)) it6)]) rfl ?_
        refine r_nil ?_
        refine r_inblock ?_
        refine r_then ?_
        refine r_lose (L' := [Res.diter Try.prog dI mv1 it6 a0.2.1 (A ++ B) (some (k, q)) none, Res.own v10 9 .str (xs ++ [k]), Res.var b2 64 DT (a0.1, mv1, a0.2.2.1, a0.2.2.2.1, a0.2.2.2.2.1, a0.2.2.2.2.2.1, a0.2.2.2.2.2.2, ())]) (.cons _ (List.Sublist.refl _)) ?_
        refine r_imp_at (R' := Res.diter Try.prog dI mv1 it6 a0.2.1 (A ++ B) none none) 0 rfl diter_none ?_
        refine r_swap ?_
        refine r_fact (p := ((xs ++ [k]) ++ (A ++ B)).Perm (a0.2.1.map (·.1))) (by
          have hp := hperm
          simp only at htk hp
          rw [htk] at hp
          refine List.Perm.trans ?_ hp
          rw [List.append_assoc]
          exact List.Perm.append_left _ (List.perm_middle (a := k) (l₁ := A) (l₂ := B)).symm) ?_
        exact r_backI (A ++ B, v10, xs ++ [k]) (by simp only at htk ⊢; rw [htk]; simp) rfl rfl
      · cases hc

theorem escrowlaw19_head_ok  (r : Bool) (h : escrowlaw19_head  = some r) : Pure Try.prog 5 [] (tb r) := by
 unfold escrowlaw19_head at h
 refine enter Try.func5 rfl 86 rfl rfl fun F => ?_
 refine zu <| p 1 [] rfl <| zz <| cB h fun r1 hr1 h => r_call (Lo := []) (disk_New_ok 1000 _ hr1) (by kernel_rfl) (List.Perm.refl _) rfl rfl fun v2 => ?_
 refine q 5 [(1, tp (tupv v2 0)), (2, ti r1.1)] [] rfl <| za <| zs <| zu <| p 1 [1,2,11] rfl <| y (y_dnil 0 rfl rfl Try.underlying24) rfl ?_
 refine q 1 [(13, tb (r1.1 != 0))] [1,2] rfl ?_
 obtain ⟨b3, e, h⟩ := bnd_ex h; rw [e]
 refine r_lsplit (γ := Unit) 3 (fun _ => [(1, tp (tupv v2 0)), (16, tb (b3 || (r1.1 != 0)))]) (fun _ => [Res.diskif Try.prog dI (tupv v2 0) r1.2 r1.1]) ?_ (fun _ => ?_)
 ·clear h
  cases b3
  ·exact q 3 [(16, tb (r1.1 != 0))] [1] rfl <| r_less [1,16] rfl <| za <| r_meetg () rfl rfl
  exact p 3 [1,16] rfl <| za <| r_meetg () rfl rfl
 refine za <| rI h rfl (fun hc h => zu <| p 1 [0] rfl <| zf <| zT <| by cases h; exact r_ret1 rfl (.tmp rfl) (fun _ _ g => g) (fun _ _ _ => List.nil_sublist _)) fun hc h => zy <| p 1 [1,18] rfl ?_
 obtain ⟨he4, h⟩ := ite_ex h
 refine r_imp_at (R' := Res.disk Try.prog dI (tupv v2 0) r1.2) 0 rfl (diskif_disk he4) <| cB h fun r5 hr5 h => rc [0] (mark_Open_ok _ _ _ _ hr5) (by kernel_rfl) rfl rfl rfl fun v6 => q 5 [(2, ti r5.2.1), (3, tp (tupv v6 0))] [1] rfl <| za <| zs <| zu <| p 1 [1,2,3,22] rfl <| y (y_cnil 1 rfl rfl Try.underlying28) rfl ?_
 refine q 1 [(24, tb (r5.1.1 != 0))] [1,2,3] rfl ?_
 obtain ⟨b7, e, h⟩ := bnd_ex h; rw [e]
 refine r_lsplit (γ := Unit) 3 (fun _ => [(1, tp (tupv v2 0)), (3, tp (tupv v6 0)), (27, tb (b7 || (r5.2.1 != 0)))]) (fun _ => [Res.disk Try.prog dI (tupv v2 0) r5.2.2, Res.clsif (CMark (tupv v2 0)) (tupv v6 0) r5.1.2 r5.1.1]) ?_ (fun _ => ?_)
 ·clear h
  cases b7
  ·exact q 3 [(27, tb (r5.2.1 != 0))] [1,3] rfl <| r_less [1,3,27] rfl <| za <| r_meetg () rfl rfl
  exact p 3 [1,3,27] rfl <| za <| r_meetg () rfl rfl
 refine q 1 [(28, tb (b7 || (r5.2.1 != 0)))] [1,3] rfl ?_
 obtain ⟨b8, e, h⟩ := bnd_ex h; rw [e]
 refine bX h fun k9 hk9 h => ?_
 refine r_lsplitk (γ := Unit) 4 (fun (o10 : Bool) _ => [(1, tp (tupv v2 0)), (3, tp (tupv v6 0)), (32, tb o10)]) (fun _ _ => [Res.disk Try.prog dI (tupv v2 0) r5.2.2, Res.clsif (CMark (tupv v2 0)) (tupv v6 0) r5.1.2 r5.1.1]) k9 r ?_ ?_
 ·rcases Bool.eq_false_or_eq_true b8 with hh | hh
  ·rw [hh] at h ⊢
   rw [if_pos rfl] at h
   exact p 4 [1,3,32] rfl <| zn <| r_less [1,3,32] rfl <| zt <| r_meetk true () h rfl rfl
  rw [hh] at h ⊢
  rw [if_neg (by decide)] at h
  refine p 1 [1,3,28,29] rfl <| r_guard (by rfl) rfl ?_
  obtain ⟨he11, h⟩ := ite_ex h
  exact r_imp_at (R' := Res.cls (CMark (tupv v2 0)) (tupv v6 0) r5.1.2) 1 rfl (clsif_cls he11) <| cB h fun r12 hr12 h => rc [1,0] (mark_Mark_Value_ok _ _ _ _ _ hr12) (by kernel_rfl) rfl rfl rfl fun _ => p 2 [1,3,32] rfl <| zn <| r_less [1,3,32] rfl <| r_imp_at (R' := Res.clsif (CMark (tupv v2 0)) (tupv v6 0) r5.1.2 r5.1.1) 0 rfl (clsif_of he11) <| pk [1,0] rfl <| zt <| r_meetk (r12 != (-1)) () h rfl rfl
 intro o10 _ h
 rw [← hk9] at h
 try dsimp only at h
 refine za <| rI h rfl (fun hc h => zu <| p 1 [0] rfl <| zf <| zT <| by cases h; exact r_ret1 rfl (.tmp rfl) (fun _ _ g => g) (fun _ _ _ => List.nil_sublist _)) fun hc h => zk <| zt <| zs <| zu <| p 1 [1,3,33] rfl ?_
 obtain ⟨he13, h⟩ := ite_ex h
 refine r_imp_at (R' := Res.cls (CMark (tupv v2 0)) (tupv v6 0) r5.1.2) 1 rfl (clsif_cls he13) <| cB h fun r14 hr14 h => rc [1,0] (mark_Mark_Raise_ok _ _ _ _ _ _ hr14) (by kernel_rfl) rfl rfl rfl fun _ => q 2 [(36, tb (r14.1 != 0))] [1,3] rfl ?_
 obtain ⟨b15, e, h⟩ := bnd_ex h; rw [e]
 refine bX h fun k16 hk16 h => ?_
 refine r_lsplitk (γ := Unit) 4 (fun (o17 : Bool) _ => [(1, tp (tupv v2 0)), (3, tp (tupv v6 0)), (40, tb o17)]) (fun _ _ => [Res.cls (CMark (tupv v2 0)) (tupv v6 0) r14.2.1, Res.disk Try.prog dI (tupv v2 0) r14.2.2]) k16 r ?_ ?_
 ·rcases Bool.eq_false_or_eq_true b15 with hh | hh
  ·rw [hh] at h ⊢
   rw [if_pos rfl] at h
   exact p 4 [1,3,40] rfl <| zn <| r_less [1,3,40] rfl <| zt <| r_meetk true () h rfl rfl
  rw [hh] at h ⊢
  rw [if_neg (by decide)] at h
  refine p 1 [1,3,36,37] rfl <| r_guard (by rfl) rfl ?_
  exact cB h fun r18 hr18 h => rc [0,0] (mark_Mark_Value_ok _ _ _ _ _ hr18) (by kernel_rfl) rfl rfl rfl fun _ => p 2 [1,3,40] rfl <| zn <| r_less [1,3,40] rfl <| zt <| r_meetk (r18 != 5) () h rfl rfl
 intro o17 _ h
 rw [← hk16] at h
 try dsimp only at h
 refine p 1 [1,3,41] rfl <| bX h fun k20 hk20 h => ?_
 refine r_lsplitk (γ := Unit) 4 (fun (o21 : Bool × (Unit × List Int × Int × Int × Unit) × DiskS) _ => [(1, tp (tupv v2 0)), (3, tp (tupv v6 0)), (45, tb o21.1)]) (fun (o21 : Bool × (Unit × List Int × Int × Int × Unit) × DiskS) _ => [Res.cls (CMark (tupv v2 0)) (tupv v6 0) o21.2.1, Res.disk Try.prog dI (tupv v2 0) o21.2.2]) k20 r ?_ ?_
 ·rcases Bool.eq_false_or_eq_true o17 with hh | hh
  ·rw [hh] at h ⊢
   rw [if_pos rfl] at h
   exact p 4 [1,3,45] rfl <| zn <| r_less [1,3,45] rfl <| zt <| r_meetk (true, r14.2.1, r14.2.2) () h rfl rfl
  rw [hh] at h ⊢
  rw [if_neg (by decide)] at h
  refine p 1 [1,3,41,42] rfl <| r_guard (by rfl) rfl ?_
  exact cB h fun r22 hr22 h => rc [0,0] (mark_Mark_Raise_ok _ _ _ _ _ _ hr22) (by kernel_rfl) rfl rfl rfl fun _ => q 2 [(45, tb (r22.1 != 0))] [1,3] rfl <| zn <| r_less [1,3,45] rfl <| zt <| r_meetk ((r22.1 != 0), r22.2.1, r22.2.2) () h rfl rfl
 intro o21 _ h
 rw [← hk20] at h
 try dsimp only at h
 refine q 1 [(46, tb o21.1)] [1,3] rfl <| bX h fun k24 hk24 h => ?_
 refine r_lsplitk (γ := Unit) 4 (fun (o25 : Bool) _ => [(1, tp (tupv v2 0)), (3, tp (tupv v6 0)), (50, tb o25)]) (fun _ _ => [Res.cls (CMark (tupv v2 0)) (tupv v6 0) o21.2.1, Res.disk Try.prog dI (tupv v2 0) o21.2.2]) k24 r ?_ ?_
 ·rcases Bool.eq_false_or_eq_true o21.1 with hh | hh
  ·rw [hh] at h ⊢
   rw [if_pos rfl] at h
   exact p 4 [1,3,50] rfl <| zn <| r_less [1,3,50] rfl <| zt <| r_meetk true () h rfl rfl
  rw [hh] at h ⊢
  rw [if_neg (by decide)] at h
  refine p 1 [1,3,46,47] rfl <| r_guard (by rfl) rfl ?_
  exact cB h fun r26 hr26 h => rc [0,0] (mark_Mark_Value_ok _ _ _ _ _ hr26) (by kernel_rfl) rfl rfl rfl fun _ => p 2 [1,3,50] rfl <| zn <| r_less [1,3,50] rfl <| zt <| r_meetk (r26 != 5) () h rfl rfl
 intro o25 _ h
 rw [← hk24] at h
 try dsimp only at h
 refine p 1 [1,3,51] rfl <| bX h fun k28 hk28 h => ?_
 refine r_lsplitk (γ := Unit) 4 (fun (o29 : Bool × (Unit × List Int × Int × Int × Unit) × DiskS) _ => [(1, tp (tupv v2 0)), (55, tb o29.1)]) (fun (o29 : Bool × (Unit × List Int × Int × Int × Unit) × DiskS) _ => [Res.cls (CMark (tupv v2 0)) (tupv v6 0) o29.2.1, Res.disk Try.prog dI (tupv v2 0) o29.2.2]) k28 r ?_ ?_
 ·rcases Bool.eq_false_or_eq_true o25 with hh | hh
  ·rw [hh] at h ⊢
   rw [if_pos rfl] at h
   exact p 4 [1,55] rfl <| zn <| r_less [1,55] rfl <| zt <| r_meetk (true, o21.2.1, o21.2.2) () h rfl rfl
  rw [hh] at h ⊢
  rw [if_neg (by decide)] at h
  refine p 1 [1,51,52] rfl <| r_guard (by rfl) rfl ?_
  exact cB h fun r30 hr30 h => rc [0,0] (mark_Mark_Raise_ok _ _ _ _ _ _ hr30) (by kernel_rfl) rfl rfl rfl fun _ => q 2 [(55, tb (r30.1 != 1))] [1] rfl <| zn <| r_less [1,55] rfl <| zt <| r_meetk ((r30.1 != 1), r30.2.1, r30.2.2) () h rfl rfl
 intro o29 _ h
 rw [← hk28] at h
 try dsimp only at h
 refine za <| rI h rfl (fun hc h => zu <| p 1 [0] rfl <| zf <| zT <| by cases h; exact r_ret1 rfl (.tmp rfl) (fun _ _ g => g) (fun _ _ _ => List.nil_sublist _)) fun hc h => zy <| p 1 [1,57] rfl <| cB h fun r31 hr31 h => rc [1] (disk_Disk_Read_ok _ _ _ _ _ _ hr31) (by kernel_rfl) rfl rfl rfl fun _ => q 5 [(2, ti r31.2), (4, ts r31.1)] [1] rfl <| zz <| p 1 [1,2,4,62] rfl <| cB h fun r32 hr32 h => rc [0] (disk_Disk_Size_ok _ _ _ _ hr32) (by kernel_rfl) rfl rfl rfl fun _ => q 5 [(5, ti r32.1), (6, ti r32.2)] [1,2,4] rfl <| zz <| q 3 [(68, tb (r31.2 == 0))] [1,4,5,6] rfl ?_
 obtain ⟨b33, e, h⟩ := bnd_ex h; rw [e]
 refine r_lsplit (γ := Unit) 3 (fun _ => [(1, tp (tupv v2 0)), (5, ti r32.1), (6, ti r32.2), (71, tb (b33 && (r31.1 == [0, 0, 0, 0, 0, 0, 0, 5])))]) (fun _ => [Res.disk Try.prog dI (tupv v2 0) o29.2.2, Res.cls (CMark (tupv v2 0)) (tupv v6 0) o29.2.1]) ?_ (fun _ => ?_)
 ·clear h
  cases b33
  ·exact p 3 [1,5,6,71] rfl <| za <| r_meetg () rfl rfl
  exact q 3 [(71, tb (r31.1 == [0, 0, 0, 0, 0, 0, 0, 5]))] [1,5,6] rfl <| r_less [1,5,6,71] rfl <| za <| r_meetg () rfl rfl
 refine q 1 [(72, tb (b33 && (r31.1 == [0, 0, 0, 0, 0, 0, 0, 5])))] [1,5,6] rfl ?_
 obtain ⟨b34, e, h⟩ := bnd_ex h; rw [e]
 refine r_lsplit (γ := Unit) 3 (fun _ => [(1, tp (tupv v2 0)), (5, ti r32.1), (75, tb (b34 && (r32.2 == 0)))]) (fun _ => [Res.disk Try.prog dI (tupv v2 0) o29.2.2, Res.cls (CMark (tupv v2 0)) (tupv v6 0) o29.2.1]) ?_ (fun _ => ?_)
 ·clear h
  cases b34
  ·exact p 3 [1,5,75] rfl <| za <| r_meetg () rfl rfl
  exact q 3 [(75, tb (r32.2 == 0))] [1,5] rfl <| r_less [1,5,75] rfl <| za <| r_meetg () rfl rfl
 refine q 1 [(76, tb (b34 && (r32.2 == 0)))] [1,5] rfl ?_
 obtain ⟨b35, e, h⟩ := bnd_ex h; rw [e]
 refine r_lsplit (γ := Unit) 3 (fun _ => [(1, tp (tupv v2 0)), (79, tb (b35 && (r32.1 == 128)))]) (fun _ => [Res.disk Try.prog dI (tupv v2 0) o29.2.2, Res.cls (CMark (tupv v2 0)) (tupv v6 0) o29.2.1]) ?_ (fun _ => ?_)
 ·clear h
  cases b35
  ·exact p 3 [1,79] rfl <| za <| r_meetg () rfl rfl
  exact q 3 [(79, tb (r32.1 == 128))] [1] rfl <| r_less [1,79] rfl <| za <| r_meetg () rfl rfl
 refine q 1 [(80, tb (b35 && (r32.1 == 128)))] [1] rfl ?_
 obtain ⟨b36, e, h⟩ := bnd_ex h; rw [e]
 refine bX h fun k37 hk37 h => ?_
 refine r_lsplitk (γ := Unit) 5 (fun (o38 : Bool) _ => [(85, tb o38)]) (fun _ _ => [Res.disk Try.prog dI (tupv v2 0) o29.2.2, Res.cls (CMark (tupv v2 0)) (tupv v6 0) o29.2.1]) k37 r ?_ ?_
 ·rcases Bool.eq_false_or_eq_true b36 with hh | hh
  ·rw [hh] at h ⊢
   rw [if_pos rfl] at h
   refine p 1 [80,81] rfl <| r_guard (by rfl) rfl ?_
   refine cB h fun r39 hr39 h => rc [0] (disk_Disk_List_ok _ _ _ hr39) (by kernel_rfl) rfl rfl rfl fun v40 => r_guard (by rfl) rfl ?_
   refine y (y_lenown tabOk 1 rfl rfl rfl) rfl ?_
   exact q 2 [(85, tb ((List.length r39 : Int) == 1))] [] rfl <| zn <| r_less [85] rfl <| pk [0,1] rfl <| zt <| r_meetk ((List.length r39 : Int) == 1) () h rfl rfl
  rw [hh] at h ⊢
  rw [if_neg (by decide)] at h
  exact p 5 [85] rfl <| zn <| r_less [85] rfl <| zt <| r_meetk false () h rfl rfl
 intro o38 _ h
 rw [← hk37] at h
 try dsimp only at h
 refine p 1 [0] rfl <| zf ?_
 cases h
 exact r_ret1 rfl (.tmp rfl) (fun _ _ g => g) (fun _ _ _ => List.nil_sublist _)

theorem escrowlaw19_slot_ok (a0 : Int) (r : List Int) (h : escrowlaw19_slot a0 = some r) : Pure Try.prog 8 [ti a0] (ts r) := by
 unfold escrowlaw19_slot at h
 refine enter Try.func8 rfl 44 rfl rfl fun F => ?_
 refine zu <| p 1 [0] rfl <| zz <| p 1 [0,3] rfl <| r_nilown (.slice none 0 0) rfl 5 (.int .u8) ?_
 refine za <| jK h (γ := Value) (fun (o2 : List (Int)) g3 => [(3, .one (.raw (.slice none 0 0)) g3)]) (fun (o2 : List (Int)) g3 => [Res.own g3 5 (.int .u8) o2]) (fun k1 h => ?_) fun o2 g3 h => ?_
 ·refine zu <| p 1 [0,3,4] rfl <| za <| zb <| r_less [0,3,4] rfl <| r_loopg (γ := Value) (fun (s21 : Int × List (Int)) g22 => [(0, ti a0), (3, .one (.raw (.slice none 0 0)) g22), (4, ti s21.1)]) (fun (s21 : Int × List (Int)) g22 => [Res.own g22 5 (.int .u8) s21.2]) (escrowlaw19_slot_l1 a0 k1) (7, []) (.slice none 0 0) h rfl rfl ?_
  clear h
  intro m23 s21 g22 h
  cases m23 with
  | zero => cases h
  | succ m23 =>
  simp only [escrowlaw19_slot_l1] at h
  refine zs <| zu <| q 2 [(3, .one (.raw (.slice none 0 0)) g22), (4, ti s21.1), (7, tb (decide (s21.1 ≥ 0)))] [0] rfl <| za <| rI h rfl (fun hc h => ?_) fun hc h => ?_
  ·refine zk <| zt <| zs <| zb <| zr <| q 7 [(10, .one (.raw (.slice none 0 0)) g22), (16, .one (.int .u8) (IntKind.wrap .u8 (ishr .i64 a0 (IntKind.wrap .u64 (8 * (IntKind.wrap .u64 s21.1))))))] [0,4] rfl <| r_lits (B := 1) tabOk rfl el5 rfl rfl rfl (.cons rfl .nil) rfl fun v24 => ?_
   refine iE h fun hc h => r_append (B := 1) tabOk 1 rfl rfl (src_own 0 rfl rfl) rfl el5 rfl rfl hc rfl fun v25 => ?_
   refine pk [1] rfl <| p 1 [0,3,4] rfl <| zn <| zi <| zt <| zr <| q 3 [(4, ti (IntKind.wrap .i64 (s21.1 - 1)))] [0,3] rfl ?_
   obtain ⟨i26, e, h⟩ := bnd_ex h; rw [e]
   exact za <| r_less [0,3,4] rfl <| r_backg (i26, (s21.2 ++ [(IntKind.wrap .u8 (ishr .i64 a0 (IntKind.wrap .u64 (8 * (IntKind.wrap .u64 s21.1)))))])) v25 (Nat.lt_succ_self _) h rfl rfl
  exact zx <| ze <| ze <| zq <| zt <| r_less [3] rfl <| r_meetk s21.2 g22 h rfl rfl
 refine zu <| p 1 [3,19] rfl <| y (y_text tabOk 0 rfl rfl rfl rfl rfl) rfl ?_
 refine cB h fun r4 hr4 h => r_calls (crc_Sum_ok _ _ hr4) (by kernel_rfl) rfl rfl <| p 1 [3,5] rfl <| zz <| p 12 [22,25,28,31,33] rfl <| r_lits (B := 1) tabOk rfl el5 rfl rfl rfl (.cons rfl (.cons rfl (.cons rfl (.cons rfl .nil)))) rfl fun v5 => ?_
 refine iE h fun hc h => r_append (B := 1) tabOk 1 rfl rfl (src_own 0 rfl rfl) rfl el5 rfl rfl hc rfl fun v6 => ?_
 refine pk [1] rfl <| p 1 [3] rfl <| za <| jK h (γ := Value) (fun (o8 : List (Int)) g9 => [(3, .one (.raw (.slice none 0 0)) g9)]) (fun (o8 : List (Int)) g9 => [Res.own g9 5 (.int .u8) o8]) (fun k7 h => ?_) fun o8 g9 h => ?_
 ·refine zb <| r_less [3] rfl <| r_loopg (γ := Value) (fun (s13 : List (Int)) g14 => [(3, .one (.raw (.slice none 0 0)) g14)]) (fun (s13 : List (Int)) g14 => [Res.own g14 5 (.int .u8) s13]) (escrowlaw19_slot_l0 k7) (o2 ++ [(IntKind.wrap .u8 (ishr .u32 r4 24)), (IntKind.wrap .u8 (ishr .u32 r4 16)), (IntKind.wrap .u8 (ishr .u32 r4 8)), (IntKind.wrap .u8 r4)]) v6 h rfl rfl ?_
  clear h
  intro m15 s13 g14 h
  cases m15 with
  | zero => cases h
  | succ m15 =>
  simp only [escrowlaw19_slot_l0] at h
  refine zs <| zu <| p 1 [3,36] rfl <| y (y_lenown tabOk 0 rfl rfl rfl) rfl ?_
  refine q 1 [(38, tb (decide ((List.length s13 : Int) < 64)))] [3] rfl <| za <| rI h rfl (fun hc h => ?_) fun hc h => ?_
  ·refine zk <| zt <| zb <| zr <| p 1 [39] rfl <| r_lits (B := 1) tabOk rfl el5 rfl rfl rfl (.cons rfl .nil) rfl fun v16 => ?_
   refine iE h fun hc h => r_append (B := 1) tabOk 1 rfl rfl (src_own 0 rfl rfl) rfl el5 rfl rfl hc rfl fun v17 => ?_
   exact pk [1] rfl <| p 1 [3] rfl <| zn <| zi <| zt <| r_less [3] rfl <| r_backg (s13 ++ [0]) v17 (Nat.lt_succ_self _) h rfl rfl
  exact zx <| ze <| ze <| zq <| zt <| r_less [3] rfl <| r_meetk s13 g14 h rfl rfl
 refine zu <| p 1 [42] rfl <| y (y_text tabOk 0 rfl rfl rfl rfl rfl) rfl ?_
 refine p 1 [2] rfl <| zf ?_
 cases h
 exact r_ret1 rfl (.tmp rfl) (fun _ _ g => g) (fun _ _ _ => List.nil_sublist _)

theorem escrowlaw19_name_ok (a0 : Bool) (r : List Int) (h : escrowlaw19_name a0 = some r) : Pure Try.prog 14 [tb a0] (ts r) := by
 unfold escrowlaw19_name at h
 refine enter Try.func14 rfl 4 rfl rfl fun F => ?_
 refine zu <| p 1 [0] rfl <| za <| zs <| zu <| p 1 [3] rfl <| za <| rI h rfl (fun hc h => zu <| q 1 [(2, ts [116, 119, 111])] [] rfl <| zf <| zT <| by cases h; exact r_ret1 rfl (.tmp rfl) (fun _ _ g => g) (fun _ _ _ => List.nil_sublist _)) fun hc h => zy <| q 1 [(2, ts [111, 110, 101])] [] rfl <| zf ?_
 cases h
 exact r_ret1 rfl (.tmp rfl) (fun _ _ g => g) (fun _ _ _ => List.nil_sublist _)

theorem escrowlaw19_Tale_most_ok (p0 : Value) (p100 : Value) (a0 : (Int × Unit × List Int × Int × Int × Unit) × Int × List (Int) × Unit) (a100 : DiskS) (r : Int) (h : escrowlaw19_Tale_most a0 a100 = some r) : Fn Try.prog 35 [tp p0] [Res.cls (CTale p100) p0 a0, Res.disk Try.prog dI p100 a100] (fun _ => ti r) (fun _ => [Res.cls (CTale p100) p0 a0, Res.disk Try.prog dI p100 a100]) := by
 unfold escrowlaw19_Tale_most at h
 refine enter Try.func35 rfl 31 rfl rfl fun F => ?_
 refine r_unCTale fun b3 sv1 sv2 hp => ?_
 subst hp
 refine r_CTale (x := a0) (q := p100) ?_
 refine zu <| p 1 [0] rfl <| zz <| p 1 [0,3] rfl <| za <| jK h (γ := Unit) (fun (o5 : Int) _ => [(3, ti o5)]) (fun (o5 : Int) _ => [Res.cls (CTale p100) (.pointer (some ⟨b3, 0, none⟩)) a0, Res.disk Try.prog dI p100 a100]) (fun k4 h => ?_) fun o5 gg h => ?_
 ·refine zu <| p 1 [0,3,4] rfl <| za <| zb <| r_less [0,3,4] rfl <| r_loopg (γ := Unit) (fun (s7 : Int × Int) _ => [(0, ptr b3 0), (3, ti s7.1), (4, ti s7.2)]) (fun (s7 : Int × Int) _ => [Res.cls (CTale p100) (.pointer (some ⟨b3, 0, none⟩)) a0, Res.disk Try.prog dI p100 a100]) (escrowlaw19_Tale_most_l0 a0 k4) ((-1), 0) () h rfl rfl ?_
  clear h
  intro m8 s7 gg h
  cases m8 with
  | zero => cases h
  | succ m8 =>
  simp only [escrowlaw19_Tale_most_l0] at h
  refine zs <| zs <| r_unCTaleb fun sv9 sv10 => ?_
  refine zr <| q 4 [(3, ti s7.1), (4, ti s7.2), (5, ti s7.2), (8, ptr b3 2)] [0] rfl <| yl 0 ((.snd (.snd (.fst .here)))) tx1 rfl rfl rfl trivial rfl <| y (y_lenown tabOk 2 rfl rfl rfl) rfl ?_
  refine q 1 [(11, tb (decide (s7.2 < (List.length a0.2.2.1 : Int))))] [0,3,4] rfl <| za <| rI h rfl (fun hc h => ?_) fun hc h => ?_
  ·refine zk <| zt <| jK h (γ := Value) (fun (o12 : Int) g13 => [(0, ptr b3 0), (3, ti o12), (4, ti s7.2)]) (fun (o12 : Int) g13 => [Res.var b3 45 (.pair (.raw (.pointer none)) (.pair (.int .i64) (.pair (.raw (.slice none 0 0)) .unit))) (sv9, a0.2.1, g13, a0.2.2.2), Res.clsif (CMark p100) sv9 a0.1.2 a0.1.1, Res.own g13 2 (.int .i64) a0.2.2.1, Res.disk Try.prog dI p100 a100]) (fun k11 h => ?_) fun o12 g13 h => ?_
   ·refine zb <| zu <| p 3 [0,3,4,16] rfl <| yl 0 ((.snd (.snd (.fst .here)))) tx1 rfl rfl rfl trivial rfl <| q 1 [(17, .one (.raw (.slice none 0 0)) sv10), (18, ti s7.2)] [0,3,4] rfl <| iE h fun hc h => r_expose 2 rfl (by first | omega | (simp only [List.length_set] at hc ⊢; omega)) fun b15 c16 hv => ?_
    rw [hv]
    try clear hv
    refine y (y_iraw tabOk rfl rfl hc.1 (by first | exact hc.2 | simpa using hc.2) rfl ty2) rfl ?_
    refine y (y_lown 2 (Int.toNat s7.2) .here rfl rfl (by first | omega | (simp only [List.length_set] at hc ⊢; omega)) (by first | rfl | (simp only [Pth.off, T.size]; omega)) ok_here ty2) rfl ?_
    refine q 2 [(22, tb (decide ((List.getD a0.2.2.1 (Int.toNat s7.2) 0) > s7.1)))] [0,3,4] rfl <| za <| rI h rfl (fun hc h => ?_) fun hc h => ?_
    ·refine zr <| p 3 [0,4,25] rfl <| yl 0 ((.snd (.snd (.fst .here)))) tx1 rfl rfl rfl trivial rfl <| q 1 [(26, .one (.raw (.slice none 0 0)) (.slice (some ⟨b15, 0, none⟩) (List.length a0.2.2.1) c16)), (27, ti s7.2)] [0,4] rfl <| iE h fun hc h => y (y_iraw tabOk rfl rfl hc.1 (by first | exact hc.2 | simpa using hc.2) rfl ty2) rfl ?_
     refine y (y_lown 2 (Int.toNat s7.2) .here rfl rfl (by first | omega | (simp only [List.length_set] at hc ⊢; omega)) (by first | rfl | (simp only [Pth.off, T.size]; omega)) ok_here ty2) rfl ?_
     refine q 1 [(3, ti (List.getD a0.2.2.1 (Int.toNat s7.2) 0))] [0,4] rfl ?_
     obtain ⟨n19, e, h⟩ := bnd_ex h; rw [e]
     exact zn <| zi <| zt <| r_less [0,3,4] rfl <| r_meetk n19 (.slice (some ⟨b15, 0, none⟩) (List.length a0.2.2.1) c16) h rfl rfl
    exact zk <| zi <| zt <| r_less [0,3,4] rfl <| r_meetk s7.1 (.slice (some ⟨b15, 0, none⟩) (List.length a0.2.2.1) c16) h rfl rfl
   refine zr <| q 3 [(0, ptr b3 0), (3, ti o12), (4, ti (IntKind.wrap .i64 (s7.2 + 1)))] [] rfl ?_
   obtain ⟨i14, e, h⟩ := bnd_ex h; rw [e]
   refine za <| r_CTale (x := a0) (q := p100) ?_
   exact r_less [0,3,4] rfl <| r_backg (o12, i14) () (Nat.lt_succ_self _) h rfl rfl
  refine zx <| ze <| ze <| zq <| zt <| r_CTale (x := a0) (q := p100) ?_
  exact r_less [3] rfl <| r_meetk s7.1 () h rfl rfl
 refine zu <| p 2 [2] rfl <| zf ?_
 cases h
 exact r_ret1 rfl (.tmp rfl) (fun _ _ g => g) (fun _ _ _ => (.cons_cons _ (.cons_cons _ .slnil)))

theorem escrowlaw19_Tale_opens_ok (p0 : Value) (p1 : Value) (a0 : (Int × Unit × List Int × Int × Int × Unit) × Int × List (Int) × Unit) (a1 : DiskS) (a2 : List Int) (r : Bool × ((Int × Unit × List Int × Int × Int × Unit) × Int × List (Int) × Unit) × DiskS) (h : escrowlaw19_Tale_opens a0 a1 a2 = some r) : Fn Try.prog 13 [tp p0, tp p1, ts a2] [Res.cls (CTale p1) p0 a0, Res.disk Try.prog dI p1 a1] (fun _ => tb r.1) (fun _ => [Res.cls (CTale p1) p0 r.2.1, Res.disk Try.prog dI p1 r.2.2]) := by
 unfold escrowlaw19_Tale_opens at h
 refine enter Try.func13 rfl 53 rfl rfl fun F => ?_
 refine r_unCTale fun b3 sv1 sv2 hp => ?_
 subst hp
 refine r_CTale (x := a0) (q := p1) ?_
 refine zu <| p 1 [0,1,2] rfl <| zz <| p 2 [0,11,12] rfl <| cB h fun r4 hr4 h => rc [1] (mark_Open_ok _ _ _ _ hr4) (by kernel_rfl) rfl rfl rfl fun v5 => q 5 [(7, tp (tupv v5 0)), (8, ti r4.2.1)] [0] rfl <| za <| zs <| zu <| p 1 [0,7,8,16] rfl <| y (y_cnil 1 rfl rfl Try.underlying28) rfl ?_
 refine q 2 [(17, tb (r4.1.1 != 0)), (19, tb (r4.2.1 != 0))] [0,7,8] rfl <| y (y_bne rfl rfl Try.underlying4) rfl ?_
 refine q 1 [(21, tb ((r4.1.1 != 0) != (r4.2.1 != 0)))] [0,7,8] rfl ?_
 obtain ⟨b6, e, h⟩ := bnd_ex h; rw [e]
 refine r_lsplit (γ := Unit) 3 (fun _ => [(0, ptr b3 0), (7, tp (tupv v5 0)), (8, ti r4.2.1), (24, tb (b6 || (r4.2.1 == 190)))]) (fun _ => [Res.disk Try.prog dI p1 r4.2.2, Res.clsif (CMark p1) (tupv v5 0) r4.1.2 r4.1.1, Res.cls (CTale p1) (.pointer (some ⟨b3, 0, none⟩)) a0]) ?_ (fun _ => ?_)
 ·clear h
  cases b6
  ·exact q 3 [(24, tb (r4.2.1 == 190))] [0,7,8] rfl <| r_less [0,7,8,24] rfl <| za <| r_meetg () rfl rfl
  exact p 3 [0,7,8,24] rfl <| za <| r_meetg () rfl rfl
 refine q 1 [(25, tb (b6 || (r4.2.1 == 190)))] [0,7,8] rfl ?_
 obtain ⟨b7, e, h⟩ := bnd_ex h; rw [e]
 refine r_lsplit (γ := Unit) 3 (fun _ => [(0, ptr b3 0), (7, tp (tupv v5 0)), (28, tb (b7 || (r4.2.1 == 1)))]) (fun _ => [Res.disk Try.prog dI p1 r4.2.2, Res.clsif (CMark p1) (tupv v5 0) r4.1.2 r4.1.1, Res.cls (CTale p1) (.pointer (some ⟨b3, 0, none⟩)) a0]) ?_ (fun _ => ?_)
 ·clear h
  cases b7
  ·exact q 3 [(28, tb (r4.2.1 == 1))] [0,7] rfl <| r_less [0,7,28] rfl <| za <| r_meetg () rfl rfl
  exact p 3 [0,7,28] rfl <| za <| r_meetg () rfl rfl
 refine za <| rI h rfl (fun hc h => zu <| p 1 [6] rfl <| zf <| zT <| by cases h; exact pk [0,1] rfl <| pk [1,0] rfl <| r_ret1 rfl (.tmp rfl) (fun _ _ g => g) (fun _ _ _ => (.cons_cons _ (.cons_cons _ .slnil)))) fun hc h => zk <| zt <| zs <| pk [2,0,0] rfl <| r_unCTaleb fun sv8 sv9 => ?_
 refine zr <| p 4 [0,7,30,32] rfl <| st 0 ((.fst .here)) ty28 rfl rfl rfl rfl trivial <| pk [0,1,1,1] rfl <| za <| zs <| zu <| p 1 [0,7,33] rfl <| y (y_cnil 3 rfl rfl Try.underlying28) rfl ?_
 refine za <| rI h rfl (fun hc h => ?_) fun hc h => ?_
 ·refine zu <| p 1 [6] rfl <| zf <| zT <| pk [0,2,0,0] rfl <| r_CTale (x := (r4.1, a0.2.1, a0.2.2.1, a0.2.2.2)) (q := p1) ?_
  cases h
  exact r_ret1 rfl (.tmp rfl) (fun _ _ g => g) (fun _ _ _ => (.cons_cons _ (.cons_cons _ .slnil)))
 refine zy <| p 1 [0,35] rfl ?_
 obtain ⟨he10, h⟩ := ite_ex h
 refine r_imp_at (R' := Res.cls (CMark p1) (tupv v5 0) r4.1.2) 3 rfl (clsif_cls he10) <| cB h fun r11 hr11 h => rc [3,2] (mark_Mark_Value_ok _ _ _ _ _ hr11) (by kernel_rfl) rfl rfl rfl fun _ => p 1 [0,9] rfl <| za <| zs <| zu <| p 4 [0,9,37,40] rfl <| yl 2 ((.snd (.fst .here))) ty2 rfl rfl rfl trivial rfl <| q 2 [(43, tb (decide (r11 < a0.2.1)))] [0,9] rfl <| r_imp_at (R' := Res.clsif (CMark p1) (tupv v5 0) r4.1.2 r4.1.1) 0 rfl (clsif_of he10) <| pk [2,0,1,0] rfl <| r_CTale (x := (r4.1, a0.2.1, a0.2.2.1, a0.2.2.2)) (q := p1) ?_
 obtain ⟨b13, e, h⟩ := bnd_ex h; rw [e]
 refine bX h fun k14 hk14 h => ?_
 refine r_lsplitk (γ := Unit) 5 (fun (o15 : Bool) _ => [(0, ptr b3 0), (9, ti r11), (48, tb o15)]) (fun _ _ => [Res.cls (CTale p1) (.pointer (some ⟨b3, 0, none⟩)) (r4.1, a0.2.1, a0.2.2.1, a0.2.2.2), Res.disk Try.prog dI p1 r4.2.2]) k14 r ?_ ?_
 ·rcases Bool.eq_false_or_eq_true b13 with hh | hh
  ·rw [hh] at h ⊢
   rw [if_pos rfl] at h
   exact p 5 [0,9,48] rfl <| zn <| r_less [0,9,48] rfl <| zt <| r_meetk true () h rfl rfl
  rw [hh] at h ⊢
  rw [if_neg (by decide)] at h
  refine p 2 [0,9,43,44,45] rfl <| r_guard (by rfl) rfl ?_
  exact cB h fun r16 hr16 h => rc [0,0] (escrowlaw19_Tale_most_ok _ _ _ _ _ hr16) (by kernel_rfl) rfl rfl rfl fun _ => p 2 [0,9,48] rfl <| zn <| r_less [0,9,48] rfl <| zt <| r_meetk (decide (r11 > r16)) () h rfl rfl
 intro o15 _ h
 rw [← hk14] at h
 try dsimp only at h
 refine za <| rI h rfl (fun hc h => zu <| p 1 [6] rfl <| zf <| zT <| by cases h; exact r_ret1 rfl (.tmp rfl) (fun _ _ g => g) (fun _ _ _ => (.cons_cons _ (.cons_cons _ .slnil)))) fun hc h => zk <| zt <| zs <| r_unCTaleb fun sv17 sv18 => ?_
 refine zr <| p 4 [50,52] rfl <| st 0 ((.snd (.fst .here))) ty2 rfl rfl rfl rfl trivial <| zz <| p 1 [6] rfl <| zf <| r_CTale (x := (r4.1, r11, a0.2.2.1, a0.2.2.2)) (q := p1) ?_
 cases h
 exact r_ret1 rfl (.tmp rfl) (fun _ _ g => g) (fun _ _ _ => (.cons_cons _ (.cons_cons _ .slnil)))

theorem escrowlaw19_Tale_raises_ok (p0 : Value) (p100 : Value) (a0 : (Int × Unit × List Int × Int × Int × Unit) × Int × List (Int) × Unit) (a1 : Int) (a100 : DiskS) (r : Bool × ((Int × Unit × List Int × Int × Int × Unit) × Int × List (Int) × Unit) × DiskS) (h : escrowlaw19_Tale_raises a0 a1 a100 = some r) : Fn Try.prog 15 [tp p0, ti a1] [Res.cls (CTale p100) p0 a0, Res.disk Try.prog dI p100 a100] (fun _ => tb r.1) (fun _ => [Res.cls (CTale p100) p0 r.2.1, Res.disk Try.prog dI p100 r.2.2]) := by
 unfold escrowlaw19_Tale_raises at h
 refine enter Try.func15 rfl 86 rfl rfl fun F => ?_
 refine r_unCTale fun b3 sv1 sv2 hp => ?_
 subst hp
 refine r_CTale (x := a0) (q := p100) ?_
 refine zu <| p 1 [0,1] rfl <| za <| zs <| zs <| r_unCTaleb fun sv4 sv5 => ?_
 refine zr <| p 3 [0,1,11] rfl <| yl 0 ((.fst .here)) ty28 rfl rfl rfl trivial rfl <| y (y_cnil 1 rfl rfl Try.underlying28) rfl ?_
 refine za <| rI h rfl (fun hc h => ?_) fun hc h => ?_
 ·refine zu <| p 1 [4] rfl <| zf <| zT <| r_CTale (x := a0) (q := p100) ?_
  cases h
  exact r_ret1 rfl (.tmp rfl) (fun _ _ g => g) (fun _ _ _ => (.cons_cons _ (.cons_cons _ .slnil)))
 refine zy <| p 3 [0,1,16] rfl <| yl 0 ((.fst .here)) ty28 rfl rfl rfl trivial rfl ?_
 obtain ⟨he6, h⟩ := ite_ex h
 refine r_imp_at (R' := Res.cls (CMark p100) sv4 a0.1.2) 1 rfl (clsif_cls he6) <| cB h fun r7 hr7 h => rc [1,2] (mark_Mark_Value_ok _ _ _ _ _ hr7) (by kernel_rfl) rfl rfl rfl fun _ => p 1 [0,1,5] rfl <| zz <| p 3 [0,1,5,21] rfl ?_
 obtain ⟨b8, e, h⟩ := bnd_ex h; rw [e]
 refine r_lsplit (γ := Unit) 3 (fun _ => [(0, ptr b3 0), (1, ti a1), (5, ti r7), (24, tb (b8 && (decide (a1 < 281474976710656))))]) (fun _ => [Res.cls (CMark p100) sv4 a0.1.2, Res.disk Try.prog dI p100 a100, Res.var b3 45 (.pair (.raw (.pointer none)) (.pair (.int .i64) (.pair (.raw (.slice none 0 0)) .unit))) (sv4, a0.2.1, sv5, a0.2.2.2), Res.own sv5 2 (.int .i64) a0.2.2.1]) ?_ (fun _ => ?_)
 ·clear h
  cases b8
  ·exact p 3 [0,1,5,24] rfl <| za <| r_meetg () rfl rfl
  exact p 3 [0,1,5,24] rfl <| za <| r_meetg () rfl rfl
 refine p 1 [0,1,5,6] rfl ?_
 obtain ⟨good9, e, h⟩ := bnd_ex h; rw [e]
 refine za <| jK h (γ := Value) (fun (o11 : List (Int)) g12 => [(0, ptr b3 0), (1, ti a1), (5, ti r7), (6, tb good9)]) (fun (o11 : List (Int)) g12 => [Res.cls (CMark p100) sv4 a0.1.2, Res.disk Try.prog dI p100 a100, Res.var b3 45 (.pair (.raw (.pointer none)) (.pair (.int .i64) (.pair (.raw (.slice none 0 0)) .unit))) (sv4, a0.2.1, g12, a0.2.2.2), Res.own g12 2 (.int .i64) o11]) (fun k10 h => ?_) fun o11 g12 h => ?_
 ·refine zu <| p 1 [0,1,5,6,25] rfl <| za <| rI h rfl (fun hc h => ?_) fun hc h => ?_
  ·refine zr <| p 4 [0,1,5,6,26,29] rfl <| yl 2 ((.snd (.snd (.fst .here)))) tx1 rfl rfl rfl trivial rfl <| p 1 [0,1,5,6,26,30,31] rfl <| r_lits (B := 8) tabOk rfl el2 rfl rfl rfl (.cons rfl .nil) rfl fun v19 => ?_
   refine iE h fun hc h => r_append (B := 8) tabOk 4 rfl rfl (src_own 0 rfl rfl) rfl el2 rfl rfl hc rfl fun v20 => ?_
   exact pk [1,1,1,1] rfl <| p 2 [0,1,5,6,33,35] rfl <| st 2 ((.snd (.snd (.fst .here)))) tx1 rfl rfl rfl rfl trivial <| za <| r_less [0,1,5,6] rfl <| r_meetk (a0.2.2.1 ++ [a1]) v20 h rfl rfl
  exact zk <| zt <| r_less [0,1,5,6] rfl <| r_meetk a0.2.2.1 sv5 h rfl rfl
 refine zu <| p 3 [0,1,5,6,38] rfl <| yl 2 ((.fst .here)) ty28 rfl rfl rfl trivial rfl <| p 1 [0,1,5,6,39,40] rfl <| cB h fun r13 hr13 h => rc [0,0] (mark_Mark_Raise_ok _ _ _ _ _ _ hr13) (by kernel_rfl) rfl rfl rfl fun _ => q 1 [(7, ti r13.1)] [0,1,5,6] rfl <| zz <| p 3 [0,1,5,6,7,44] rfl <| yl 2 ((.fst .here)) ty28 rfl rfl rfl trivial rfl <| cB h fun r14 hr14 h => rc [0,0] (mark_Mark_Value_ok _ _ _ _ _ hr14) (by kernel_rfl) rfl rfl rfl fun _ => p 1 [0,1,5,6,7,8] rfl <| za ?_
 refine zs <| zu <| p 2 [0,1,5,7,8,48] rfl <| za <| rI h rfl (fun hc h => ?_) fun hc h => ?_
 ·refine zu <| q 3 [(51, tb (r13.1 == 1))] [5,8] rfl ?_
  obtain ⟨b15, e, h⟩ := bnd_ex h; rw [e]
  refine r_lsplit (γ := Unit) 4 (fun _ => [(55, tb (b15 && (r14 == r7)))]) (fun _ => [Res.cls (CMark p100) sv4 r13.2.1, Res.disk Try.prog dI p100 r13.2.2, Res.var b3 45 (.pair (.raw (.pointer none)) (.pair (.int .i64) (.pair (.raw (.slice none 0 0)) .unit))) (sv4, a0.2.1, g12, a0.2.2.2), Res.own g12 2 (.int .i64) o11]) ?_ (fun _ => ?_)
  ·clear h
   cases b15
   ·exact p 4 [55] rfl <| za <| r_meetg () rfl rfl
   exact p 4 [55] rfl <| za <| r_meetg () rfl rfl
  refine p 1 [4] rfl <| zf <| zT <| r_imp_at (R' := Res.clsif (CMark p100) sv4 r13.2.1 a0.1.1) 0 rfl (clsif_of he6) <| pk [2,0,1,0] rfl <| r_CTale (x := ((a0.1.1, r13.2.1), a0.2.1, o11, a0.2.2.2)) (q := p100) ?_
  cases h
  exact r_ret1 rfl (.tmp rfl) (fun _ _ g => g) (fun _ _ _ => (.cons_cons _ (.cons_cons _ .slnil)))
 refine zk <| zt <| zs <| zu <| p 3 [0,1,5,7,8,58] rfl <| za <| rI h rfl (fun hc h => ?_) fun hc h => ?_
 ·refine zu <| q 3 [(61, tb (r13.1 == 0))] [5,8] rfl ?_
  obtain ⟨b16, e, h⟩ := bnd_ex h; rw [e]
  refine r_lsplit (γ := Unit) 4 (fun _ => [(65, tb (b16 && (r14 == r7)))]) (fun _ => [Res.cls (CMark p100) sv4 r13.2.1, Res.disk Try.prog dI p100 r13.2.2, Res.var b3 45 (.pair (.raw (.pointer none)) (.pair (.int .i64) (.pair (.raw (.slice none 0 0)) .unit))) (sv4, a0.2.1, g12, a0.2.2.2), Res.own g12 2 (.int .i64) o11]) ?_ (fun _ => ?_)
  ·clear h
   cases b16
   ·exact p 4 [65] rfl <| za <| r_meetg () rfl rfl
   exact p 4 [65] rfl <| za <| r_meetg () rfl rfl
  refine p 1 [4] rfl <| zf <| zT <| r_imp_at (R' := Res.clsif (CMark p100) sv4 r13.2.1 a0.1.1) 0 rfl (clsif_of he6) <| pk [2,0,1,0] rfl <| r_CTale (x := ((a0.1.1, r13.2.1), a0.2.1, o11, a0.2.2.2)) (q := p100) ?_
  cases h
  exact r_ret1 rfl (.tmp rfl) (fun _ _ g => g) (fun _ _ _ => (.cons_cons _ (.cons_cons _ .slnil)))
 refine zk <| zt <| zs <| zu <| q 2 [(67, tb (r13.1 != 0))] [0,1,5,7,8] rfl <| za <| rI h rfl (fun hc h => ?_) fun hc h => ?_
 ·refine zu <| p 4 [7,71] rfl ?_
  obtain ⟨b17, e, h⟩ := bnd_ex h; rw [e]
  refine r_lsplit (γ := Unit) 3 (fun _ => [(7, ti r13.1), (74, tb (b17 && (r13.1 != 1)))]) (fun _ => [Res.cls (CMark p100) sv4 r13.2.1, Res.disk Try.prog dI p100 r13.2.2, Res.var b3 45 (.pair (.raw (.pointer none)) (.pair (.int .i64) (.pair (.raw (.slice none 0 0)) .unit))) (sv4, a0.2.1, g12, a0.2.2.2), Res.own g12 2 (.int .i64) o11]) ?_ (fun _ => ?_)
  ·clear h
   cases b17
   ·exact p 3 [7,74] rfl <| za <| r_meetg () rfl rfl
   exact q 3 [(74, tb (r13.1 != 1))] [7] rfl <| r_less [7,74] rfl <| za <| r_meetg () rfl rfl
  refine q 1 [(75, tb (b17 && (r13.1 != 1)))] [7] rfl ?_
  obtain ⟨b18, e, h⟩ := bnd_ex h; rw [e]
  refine r_lsplit (γ := Unit) 3 (fun _ => [(78, tb (b18 && (r13.1 != 190)))]) (fun _ => [Res.cls (CMark p100) sv4 r13.2.1, Res.disk Try.prog dI p100 r13.2.2, Res.var b3 45 (.pair (.raw (.pointer none)) (.pair (.int .i64) (.pair (.raw (.slice none 0 0)) .unit))) (sv4, a0.2.1, g12, a0.2.2.2), Res.own g12 2 (.int .i64) o11]) ?_ (fun _ => ?_)
  ·clear h
   cases b18
   ·exact p 3 [78] rfl <| za <| r_meetg () rfl rfl
   exact q 3 [(78, tb (r13.1 != 190))] [] rfl <| r_less [78] rfl <| za <| r_meetg () rfl rfl
  refine q 1 [(4, tb (b18 && (r13.1 != 190)))] [] rfl <| zf <| zT <| r_imp_at (R' := Res.clsif (CMark p100) sv4 r13.2.1 a0.1.1) 0 rfl (clsif_of he6) <| pk [2,0,1,0] rfl <| r_CTale (x := ((a0.1.1, r13.2.1), a0.2.1, o11, a0.2.2.2)) (q := p100) ?_
  cases h
  exact r_ret1 rfl (.tmp rfl) (fun _ _ g => g) (fun _ _ _ => (.cons_cons _ (.cons_cons _ .slnil)))
 refine zy <| p 4 [1,8,80,82] rfl <| st 2 ((.snd (.fst .here))) ty2 rfl rfl rfl rfl trivial <| zz <| p 4 [4] rfl <| zf <| r_imp_at (R' := Res.clsif (CMark p100) sv4 r13.2.1 a0.1.1) 0 rfl (clsif_of he6) <| pk [2,0,1,0] rfl <| r_CTale (x := ((a0.1.1, r13.2.1), a1, o11, a0.2.2.2)) (q := p100) ?_
 cases h
 exact r_ret1 rfl (.tmp rfl) (fun _ _ g => g) (fun _ _ _ => (.cons_cons _ (.cons_cons _ .slnil)))

theorem escrowlaw19_least_ok (a0 : Int) (a1 : Int) (r : Int) (h : escrowlaw19_least a0 a1 = some r) : Pure Try.prog 17 [ti a0, ti a1] (ti r) := by
 unfold escrowlaw19_least at h
 refine enter Try.func17 rfl 15 rfl rfl fun F => ?_
 refine zu <| p 1 [0,1] rfl <| zz <| p 2 [1,6,7] rfl <| iE h fun hc h => y (y_rem rfl rfl hc) rfl ?_
 refine p 1 [1,5] rfl ?_
 obtain ⟨k1, e, h⟩ := bnd_ex h; rw [e]
 refine za <| jK h (γ := Unit) (fun (o3 : Int) _ => [(5, ti o3)]) (fun (o3 : Int) _ => []) (fun k2 h => ?_) fun o3 gg h => ?_
 ·refine zu <| p 2 [1,5,10] rfl <| za <| rI h rfl (fun hc h => ?_) fun hc h => ?_
  ·refine zr <| p 4 [5] rfl ?_
   obtain ⟨k4, e, h⟩ := bnd_ex h; rw [e]
   exact za <| r_less [5] rfl <| r_meetk k4 () h rfl rfl
  exact zk <| zt <| r_less [5] rfl <| r_meetk k1 () h rfl rfl
 refine zu <| p 2 [4] rfl <| zf ?_
 cases h
 exact r_ret1 rfl (.tmp rfl) (fun _ _ g => g) (fun _ _ _ => List.nil_sublist _)

end Sx
