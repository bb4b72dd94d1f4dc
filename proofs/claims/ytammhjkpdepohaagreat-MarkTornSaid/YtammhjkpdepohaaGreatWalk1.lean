/-
  Own work, printed by a program of the same hand. Each function of the code answers what its plain twin reckons.
-/
import Derived.Test.YtammhjkpdepohaaGreatProg
import Derived.Test.YtammhjkpdepohaaGreatDefs
import Derived.Test.YtammhjkpdepohaaGreatComm
import Derived.Test.YtammhjkpdepohaaGreatShelfD
import Derived.Test.YtammhjkpdepohaaGreatShelfP
import Derived.Test.YtammhjkpdepohaaGreatLib3
import Derived.KernelRfl
namespace Sx
open Go Go.Proofs
set_option maxRecDepth 10000

abbrev Y66 : T := (.arr 2 (.pair (.int .i64) (.pair .bool .unit)))
theorem ty2 : tyChk Tryz.prog (.int .i64) 2 = true := by kernel_rfl
theorem ty3 : tyChk Tryz.prog (.int .i64) 3 = true := by kernel_rfl
theorem ty4 : tyChk Tryz.prog .bool 4 = true := by kernel_rfl
theorem ty5 : tyChk Tryz.prog (.int .u8) 5 = true := by kernel_rfl
theorem ty9 : tyChk Tryz.prog .str 9 = true := by kernel_rfl
theorem ty26 : tyChk Tryz.prog (.arr 3 .str) 26 = true := by kernel_rfl
theorem ty30 : tyChk Tryz.prog (.raw (.pointer none)) 30 = true := by kernel_rfl
theorem ty31 : tyChk Tryz.prog (.int .i64) 31 = true := by kernel_rfl
theorem ty52 : tyChk Tryz.prog (.int .u32) 52 = true := by kernel_rfl
theorem ty54 : tyChk Tryz.prog (.raw (.map none)) 54 = true := by kernel_rfl
theorem ty59 : tyChk Tryz.prog (.raw (.map none)) 59 = true := by kernel_rfl
theorem ty65 : tyChk Tryz.prog (.pair (.int .i64) (.pair .bool .unit)) 65 = true := by kernel_rfl
theorem ty94 : tyChk Tryz.prog (.arr 16 (.int .u32)) 94 = true := by kernel_rfl
theorem tx0 : tyChk Tryz.prog (.raw (.slice none 0 0)) 24 = true := by kernel_rfl
theorem zf3 : (Tryz.prog.info? 3).bind (·.zero) = some (mk (.int .i64) (zc (.int .i64))) := by kernel_rfl
theorem zf5 : (Tryz.prog.info? 5).bind (·.zero) = some (mk (.int .u8) (zc (.int .u8))) := by kernel_rfl
theorem zf26 : (Tryz.prog.info? 26).bind (·.zero) = some (mk (.arr 3 .str) (zc (.arr 3 .str))) := by kernel_rfl
theorem zf41 : (Tryz.prog.info? 41).bind (·.zero) = some (mk (.arr 2 (.int .i64)) (zc (.arr 2 (.int .i64)))) := by kernel_rfl
theorem zf56 : (Tryz.prog.info? 56).bind (·.zero) = some (mk DT (zc DT)) := by kernel_rfl
theorem zf61 : (Tryz.prog.info? 61).bind (·.zero) = some (mk FT (zc FT)) := by kernel_rfl
theorem zf65 : (Tryz.prog.info? 65).bind (·.zero) = some (mk (.pair (.int .i64) (.pair .bool .unit)) (zc (.pair (.int .i64) (.pair .bool .unit)))) := by kernel_rfl
theorem zf66 : (Tryz.prog.info? 66).bind (·.zero) = some (mk Y66 (zc Y66)) := by kernel_rfl
theorem zf69 : (Tryz.prog.info? 69).bind (·.zero) = some (mk (.pair (.raw (.pointer none)) (.pair .str (.pair (.int .i64) (.pair (.int .i64) .unit)))) (zc (.pair (.raw (.pointer none)) (.pair .str (.pair (.int .i64) (.pair (.int .i64) .unit)))))) := by kernel_rfl
theorem zf94 : (Tryz.prog.info? 94).bind (·.zero) = some (mk (.arr 16 (.int .u32)) (zc (.arr 16 (.int .u32)))) := by kernel_rfl
theorem zf109 : (Tryz.prog.info? 109).bind (·.zero) = some (mk (.pair .str (.pair (.int .i64) .unit)) (zc (.pair .str (.pair (.int .i64) .unit)))) := by kernel_rfl
theorem zf116 : (Tryz.prog.info? 116).bind (·.zero) = some (mk (.pair (.raw (.slice none 0 0)) (.pair (.int .i64) .unit)) (zc (.pair (.raw (.slice none 0 0)) (.pair (.int .i64) .unit)))) := by kernel_rfl
theorem el5 : elemChk Tryz.prog (.int .u8) 5 1 = true := by kernel_rfl
theorem el9 : elemChk Tryz.prog .str 9 16 = true := by kernel_rfl
theorem un26 : Tryz.prog.underlying 26 = some (.array 3 9) := Tryz.underlying26
theorem un41 : Tryz.prog.underlying 41 = some (.array 2 2) := Tryz.underlying41
theorem un66 : Tryz.prog.underlying 66 = some (.array 2 65) := Tryz.underlying66
theorem un94 : Tryz.prog.underlying 94 = some (.array 16 52) := Tryz.underlying94
def CMark (q : Value) : Kind := ⟨Unit × List Int × Int × Int × Unit, Unit, fun b _ x => [Res.var b 69 (.pair (.raw (.pointer none)) (.pair .str (.pair (.int .i64) (.pair (.int .i64) .unit)))) (q, x.2.1, x.2.2.1, x.2.2.2.1, x.2.2.2.2)]⟩
theorem r_unCMark {F : Fr} {n : Nat} {E : Env} {L : List Res} {X : Act → World → Prop} {q : Value} {p : Value} {x : Unit × List Int × Int × Int × Unit} (g : ∀ b, p = .pointer (some ⟨b, 0, none⟩) → Go F n E (Res.var b 69 (.pair (.raw (.pointer none)) (.pair .str (.pair (.int .i64) (.pair (.int .i64) .unit)))) (q, x.2.1, x.2.2.1, x.2.2.2.1, x.2.2.2.2) :: L) X) : Go F n E (Res.cls (CMark q) p x :: L) X := r_uncls (K := (CMark q)) fun b _ h => g b h
theorem r_unCMarkb {F : Fr} {n : Nat} {E : Env} {L : List Res} {X : Act → World → Prop} {q : Value} {b : Nat} {x : Unit × List Int × Int × Int × Unit} (g : Go F n E (Res.var b 69 (.pair (.raw (.pointer none)) (.pair .str (.pair (.int .i64) (.pair (.int .i64) .unit)))) (q, x.2.1, x.2.2.1, x.2.2.2.1, x.2.2.2.2) :: L) X) : Go F n E (Res.cls (CMark q) (.pointer (some ⟨b, 0, none⟩)) x :: L) X := r_unclsb (K := (CMark q)) fun _ => g
theorem r_CMark {F : Fr} {n : Nat} {E : Env} {L : List Res} {X : Act → World → Prop} {q : Value} {b : Nat} {x : Unit × List Int × Int × Int × Unit} (g : Go F n E (Res.cls (CMark q) (.pointer (some ⟨b, 0, none⟩)) x :: L) X) : Go F n E (Res.var b 69 (.pair (.raw (.pointer none)) (.pair .str (.pair (.int .i64) (.pair (.int .i64) .unit)))) (q, x.2.1, x.2.2.1, x.2.2.2.1, x.2.2.2.2) :: L) X := r_cls (K := (CMark q)) (s := ()) g
def CWriter : Kind := ⟨List (Int) × Int × Unit, Value, fun b s x => [Res.var b 116 (.pair (.raw (.slice none 0 0)) (.pair (.int .i64) .unit)) (s, x.2.1, x.2.2), Res.own s 5 (.int .u8) x.1]⟩
theorem r_unCWriter {F : Fr} {n : Nat} {E : Env} {L : List Res} {X : Act → World → Prop} {p : Value} {x : List (Int) × Int × Unit} (g : ∀ b v0, p = .pointer (some ⟨b, 0, none⟩) → Go F n E (Res.var b 116 (.pair (.raw (.slice none 0 0)) (.pair (.int .i64) .unit)) (v0, x.2.1, x.2.2) :: Res.own v0 5 (.int .u8) x.1 :: L) X) : Go F n E (Res.cls CWriter p x :: L) X := r_uncls (K := CWriter) fun b v0 h => g b v0 h
theorem r_unCWriterb {F : Fr} {n : Nat} {E : Env} {L : List Res} {X : Act → World → Prop} {b : Nat} {x : List (Int) × Int × Unit} (g : ∀ v0, Go F n E (Res.var b 116 (.pair (.raw (.slice none 0 0)) (.pair (.int .i64) .unit)) (v0, x.2.1, x.2.2) :: Res.own v0 5 (.int .u8) x.1 :: L) X) : Go F n E (Res.cls CWriter (.pointer (some ⟨b, 0, none⟩)) x :: L) X := r_unclsb (K := CWriter) fun v0 => g v0
theorem r_CWriter {F : Fr} {n : Nat} {E : Env} {L : List Res} {X : Act → World → Prop} {b : Nat} {v0 : Value} {x : List (Int) × Int × Unit} (g : Go F n E (Res.cls CWriter (.pointer (some ⟨b, 0, none⟩)) x :: L) X) : Go F n E (Res.var b 116 (.pair (.raw (.slice none 0 0)) (.pair (.int .i64) .unit)) (v0, x.2.1, x.2.2) :: Res.own v0 5 (.int .u8) x.1 :: L) X := r_cls (K := CWriter) (s := v0) g
def CReader : Kind := ⟨List Int × Int × Unit, Unit, fun b _ x => [Res.var b 109 (.pair .str (.pair (.int .i64) .unit)) (x.1, x.2.1, x.2.2)]⟩
theorem r_unCReader {F : Fr} {n : Nat} {E : Env} {L : List Res} {X : Act → World → Prop} {p : Value} {x : List Int × Int × Unit} (g : ∀ b, p = .pointer (some ⟨b, 0, none⟩) → Go F n E (Res.var b 109 (.pair .str (.pair (.int .i64) .unit)) (x.1, x.2.1, x.2.2) :: L) X) : Go F n E (Res.cls CReader p x :: L) X := r_uncls (K := CReader) fun b _ h => g b h
theorem r_unCReaderb {F : Fr} {n : Nat} {E : Env} {L : List Res} {X : Act → World → Prop} {b : Nat} {x : List Int × Int × Unit} (g : Go F n E (Res.var b 109 (.pair .str (.pair (.int .i64) .unit)) (x.1, x.2.1, x.2.2) :: L) X) : Go F n E (Res.cls CReader (.pointer (some ⟨b, 0, none⟩)) x :: L) X := r_unclsb (K := CReader) fun _ => g
theorem r_CReader {F : Fr} {n : Nat} {E : Env} {L : List Res} {X : Act → World → Prop} {b : Nat} {x : List Int × Int × Unit} (g : Go F n E (Res.cls CReader (.pointer (some ⟨b, 0, none⟩)) x :: L) X) : Go F n E (Res.var b 109 (.pair .str (.pair (.int .i64) .unit)) (x.1, x.2.1, x.2.2) :: L) X := r_cls (K := CReader) (s := ()) g
@[reducible] def dI : DI := ⟨56, 61, 9, 3, 5⟩
theorem kstr : ktChk Tryz.prog .str dI.str = true := by kernel_rfl
theorem kint : ktChk Tryz.prog (.int .i64) dI.int = true := by kernel_rfl
theorem zNV : (Tryz.prog.info? 57).bind (·.zero) = some NV := by kernel_rfl
def tab : Tab := { ints := [(2, .i64), (3, .i64), (5, .u8), (51, .u64), (52, .u32), (110, .u64)], strs := [(9, ())], slices := [(24, 5), (43, 3), (49, 9)], arrs := [], offs := [(56, [0, 1, 2, 3, 4, 5, 6]), (61, [0, 1, 2]), (65, [0, 1]), (69, [0, 1, 2, 3]), (109, [0, 1]), (116, [0, 1])] }
theorem tabOk : tab.chk Tryz.prog = true := by kernel_rfl

theorem disk_New_ok (a0 : Int) (r : Int × DiskS) (h : disk_New a0 = some r) : Fn Tryz.prog 9 [.one (.int .i64) a0] [] (fun v => .tup [⟨.raw NV, tupv v 0⟩, ⟨(.int .i64), r.1⟩]) (fun v => [Res.diskif Tryz.prog dI (tupv v 0) r.2 r.1]) := by
  unfold disk_New at h
  refine enter Tryz.func9 rfl 14 rfl rfl fun F => ?_
  refine r_seq ?_
  refine r_region ?_
  refine r_pure tabOk 2 [0] (E' := [(0, .one (.int .i64) a0)]) rfl ?_
  refine r_nil ?_
  refine r_then ?_
  refine r_seq ?_
  refine r_seq ?_
  refine r_region ?_
  refine r_pure tabOk 3 [0, 6] (E' := [(0, .one (.int .i64) a0), (6, .one .bool (decide (a0 < 0)))]) rfl ?_
  obtain ⟨b1, hbb1, h⟩ := bnd_ex h
  rw [hbb1]
  refine r_lsplit (γ := Unit) 3 (fun _ => [(0, .one (.int .i64) a0), (9, .one .bool (b1 || (decide (a0 > 16777216))))]) (fun _ => []) ?_ (fun _ => ?_)
  · clear h
    cases b1 with
    | true =>
    refine r_pure tabOk 3 [0, 9] (E' := [(0, .one (.int .i64) a0), (9, .one .bool true)]) rfl ?_
    refine r_nil ?_
    refine r_then ?_
    exact r_meetg () rfl rfl
    | false =>
    refine r_pure tabOk 3 [0, 9] (E' := [(0, .one (.int .i64) a0), (9, .one .bool (decide (a0 > 16777216)))]) rfl ?_
    refine r_nil ?_
    refine r_then ?_
    exact r_meetg () rfl rfl
  refine r_nil ?_
  refine r_then ?_
  refine r_if (b := (b1 || (decide (a0 > 16777216)))) rfl (fun hc => ?_) (fun hc => ?_)
  · rw [if_pos hc] at h
    refine r_seq ?_
    refine r_region ?_
    refine r_pure tabOk 2 [2, 3] (E' := [(2, .one (.raw (.pointer none)) (.pointer none)), (3, .one (.int .i64) 1)]) rfl ?_
    refine r_nil ?_
    refine r_then ?_
    refine r_ret ?_
    refine t_then ?_
    refine r_nodisk (P := Tryz.prog) (I := dI) (D := (0, [], 0, 0, 0, false, false)) (e := 1) (by decide) ?_
    obtain rfl := Option.some.inj h
    exact r_rets (rs := [.tmp 2, .tmp 3]) rfl (.cons (.tmp rfl) (.cons (.tmp rfl) .nil)) rfl (fun _ vs g => by cases g with | cons h0 g => cases g with | cons h1 g => cases g; exact ⟨_, rfl, .cons (raw_self h0) (.cons h1 .nil)⟩) (fun _ vs g => by cases g with | cons h0 g => cases g with | cons h1 g => cases g; rw [raw_eq h0]; exact (.cons_cons _ .slnil))
  · rw [if_neg (ne_true_of_eq_false hc)] at h
    refine r_skip ?_
    refine r_then ?_
    refine r_seq ?_
    refine r_region ?_
    refine r_pure tabOk 1 [10] (E' := [(10, .one (.int .i64) a0)]) rfl ?_
    refine r_makeMap 9 .str (.raw NV) rfl fun v2 => ?_
    refine r_nofiles (P := Tryz.prog) (I := dI) ?_
    refine y (y_build rfl zf56 rfl rfl (.cons ((.fst .here)) rfl rfl (ok_fst ok_here) (.cons ((.snd (.fst .here))) rfl rfl (ok_snd (ok_fst ok_here)) .nil))) rfl ?_
    refine r_box rfl rfl fun b3 => ?_
    refine r_pure tabOk 2 [2, 3] (E' := [(2, ptr b3 0), (3, .one (.int .i64) 0)]) rfl ?_
    refine r_nil ?_
    refine r_then ?_
    refine r_ret ?_
    refine r_disk (P := Tryz.prog) (I := dI) (D := (a0, [], 0, 0, 0, false, false)) ?_
    refine r_isdisk ?_
    obtain rfl := Option.some.inj h
    exact r_rets (rs := [.tmp 2, .tmp 3]) rfl (.cons (.tmp rfl) (.cons (.tmp rfl) .nil)) rfl (fun _ vs g => by cases g with | cons h0 g => cases g with | cons h1 g => cases g; exact ⟨_, rfl, .cons (raw_self h0) (.cons h1 .nil)⟩) (fun _ vs g => by cases g with | cons h0 g => cases g with | cons h1 g => cases g; rw [raw_eq h0]; exact (.cons_cons _ .slnil))

theorem disk_Disk_found_ok (b0 : Nat) (mv0 : Value) (a0 : DiskS) (a1 : List Int) (r : Int) (h : disk_Disk_found a0 a1 = some r) : Fn Tryz.prog 26 [ptr b0 0, .one .str a1] [Res.var b0 56 DT (a0.1, mv0, a0.2.2.1, a0.2.2.2.1, a0.2.2.2.2.1, a0.2.2.2.2.2.1, a0.2.2.2.2.2.2, ()), Res.dfiles Tryz.prog dI mv0 a0.2.1] (fun v => .tup [⟨.raw NV, tupv v 0⟩, ⟨(.int .i64), r⟩]) (fun v => [Res.var b0 56 DT (a0.1, mv0, a0.2.2.1, a0.2.2.2.1, a0.2.2.2.2.1, a0.2.2.2.2.2.1, a0.2.2.2.2.2.2, ()), Res.dfound Tryz.prog dI mv0 a0.2.1 a1 (tupv v 0) r]) := by
  unfold disk_Disk_found at h
  refine enter Tryz.func26 rfl 24 rfl rfl fun F => ?_
  refine r_seq ?_
  refine r_region ?_
  refine r_pure tabOk 2 [0, 1] (E' := [(0, ptr b0 0), (1, .one .str a1)]) rfl ?_
  refine r_nil ?_
  refine r_then ?_
  refine r_seq ?_
  refine r_seq ?_
  refine r_region ?_
  refine r_pure tabOk 3 [0, 1, 10] (E' := [(0, ptr b0 0), (1, .one .str a1), (10, ptr b0 5)]) rfl ?_
  refine y (y_load 0 ((.snd (.snd (.snd (.snd (.snd (.fst .here))))))) rfl rfl (by first | rfl | (simp only [Pth.off, T.size]; omega)) (ok_snd (ok_snd (ok_snd (ok_snd (ok_snd (ok_fst ok_here)))))) ty4) rfl ?_
  refine r_nil ?_
  refine r_then ?_
  refine r_if (b := a0.2.2.2.2.2.1) rfl (fun hc => ?_) (fun hc => ?_)
  · rw [if_pos hc] at h
    refine r_seq ?_
    refine r_region ?_
    refine r_pure tabOk 2 [4, 5] (E' := [(4, .one (.raw (.pointer none)) (.pointer none)), (5, .one (.int .i64) 9)]) rfl ?_
    refine r_nil ?_
    refine r_then ?_
    refine r_ret ?_
    refine t_then ?_
    refine r_perm (L' := [Res.dfiles Tryz.prog dI mv0 a0.2.1, Res.var b0 56 DT (a0.1, mv0, a0.2.2.1, a0.2.2.2.1, a0.2.2.2.2.1, a0.2.2.2.2.2.1, a0.2.2.2.2.2.2, ())]) ((List.perm_middle (a := Res.dfiles Tryz.prog dI mv0 a0.2.1) (l₁ := [Res.var b0 56 DT (a0.1, mv0, a0.2.2.1, a0.2.2.2.1, a0.2.2.2.2.1, a0.2.2.2.2.2.1, a0.2.2.2.2.2.2, ())]) (l₂ := [])).trans (.cons _ (List.Perm.refl _))) ?_
    refine r_notfound (name := a1) (q := NV) (e := 9) (by decide) ?_
    refine r_perm (L' := [Res.var b0 56 DT (a0.1, mv0, a0.2.2.1, a0.2.2.2.1, a0.2.2.2.2.1, a0.2.2.2.2.2.1, a0.2.2.2.2.2.2, ()), Res.dfound Tryz.prog dI mv0 a0.2.1 a1 NV 9]) ((List.perm_middle (a := Res.var b0 56 DT (a0.1, mv0, a0.2.2.1, a0.2.2.2.1, a0.2.2.2.2.1, a0.2.2.2.2.2.1, a0.2.2.2.2.2.2, ())) (l₁ := [Res.dfound Tryz.prog dI mv0 a0.2.1 a1 NV 9]) (l₂ := [])).trans (.cons _ (List.Perm.refl _))) ?_
    obtain rfl := Option.some.inj h
    exact r_rets (rs := [.tmp 4, .tmp 5]) rfl (.cons (.tmp rfl) (.cons (.tmp rfl) .nil)) rfl (fun _ vs g => by cases g with | cons h0 g => cases g with | cons h1 g => cases g; exact ⟨_, rfl, .cons (raw_self h0) (.cons h1 .nil)⟩) (fun _ vs g => by cases g with | cons h0 g => cases g with | cons h1 g => cases g; rw [raw_eq h0]; exact (.cons_cons _ (.cons_cons _ .slnil)))
  · rw [if_neg (ne_true_of_eq_false hc)] at h
    refine r_skip ?_
    refine r_then ?_
    refine r_seq ?_
    refine r_region ?_
    refine r_pure tabOk 3 [1, 15] (E' := [(1, .one .str a1), (15, ptr b0 1)]) rfl ?_
    refine y (y_load 0 ((.snd (.fst .here))) rfl rfl (by first | rfl | (simp only [Pth.off, T.size]; omega)) (ok_snd (ok_fst ok_here)) ty54) rfl ?_
    refine r_pure tabOk 1 [16, 17] (E' := [(16, .one (.raw (.map none)) mv0), (17, .one .str a1)]) rfl ?_
    refine r_perm (L' := [Res.dfiles Tryz.prog dI mv0 a0.2.1, Res.var b0 56 DT (a0.1, mv0, a0.2.2.1, a0.2.2.2.1, a0.2.2.2.2.1, a0.2.2.2.2.2.1, a0.2.2.2.2.2.2, ())]) ((List.perm_middle (a := Res.dfiles Tryz.prog dI mv0 a0.2.1) (l₁ := [Res.var b0 56 DT (a0.1, mv0, a0.2.2.1, a0.2.2.2.1, a0.2.2.2.2.1, a0.2.2.2.2.2.1, a0.2.2.2.2.2.2, ())]) (l₂ := [])).trans (.cons _ (List.Perm.refl _))) ?_
    refine r_dlook kstr rfl rfl Tryz.underlying54 zNV rfl fun q1 => ?_
    refine r_pure tabOk 5 [6, 7] (E' := [(6, .one (.raw (.pointer none)) q1), (7, .one .bool (Option.isSome (pget .str a1 a0.2.1)))]) rfl ?_
    obtain ⟨there2, hthere2, h⟩ := bnd_ex h
    rw [hthere2]
    refine r_nil ?_
    refine r_then ?_
    refine r_seq ?_
    refine r_seq ?_
    refine r_region ?_
    refine r_pure tabOk 2 [6, 22] (E' := [(6, .one (.raw (.pointer none)) q1), (22, .one .bool (!there2))]) rfl ?_
    refine r_nil ?_
    refine r_then ?_
    refine r_if (b := (!there2)) rfl (fun hc => ?_) (fun hc => ?_)
    · rw [if_pos hc] at h
      refine r_seq ?_
      refine r_region ?_
      refine r_pure tabOk 2 [4, 5] (E' := [(4, .one (.raw (.pointer none)) (.pointer none)), (5, .one (.int .i64) 5)]) rfl ?_
      refine r_nil ?_
      refine r_then ?_
      refine r_ret ?_
      refine t_then ?_
      refine r_imp_at (R' := Res.dfiles Tryz.prog dI mv0 a0.2.1) 0 rfl dat_dfiles ?_
      refine r_notfound (name := a1) (q := NV) (e := 5) (by decide) ?_
      refine r_perm (L' := [Res.var b0 56 DT (a0.1, mv0, a0.2.2.1, a0.2.2.2.1, a0.2.2.2.2.1, a0.2.2.2.2.2.1, a0.2.2.2.2.2.2, ()), Res.dfound Tryz.prog dI mv0 a0.2.1 a1 NV 5]) ((List.perm_middle (a := Res.var b0 56 DT (a0.1, mv0, a0.2.2.1, a0.2.2.2.1, a0.2.2.2.2.1, a0.2.2.2.2.2.1, a0.2.2.2.2.2.2, ())) (l₁ := [Res.dfound Tryz.prog dI mv0 a0.2.1 a1 NV 5]) (l₂ := [])).trans (.cons _ (List.Perm.refl _))) ?_
      obtain rfl := Option.some.inj h
      exact r_rets (rs := [.tmp 4, .tmp 5]) rfl (.cons (.tmp rfl) (.cons (.tmp rfl) .nil)) rfl (fun _ vs g => by cases g with | cons h0 g => cases g with | cons h1 g => cases g; exact ⟨_, rfl, .cons (raw_self h0) (.cons h1 .nil)⟩) (fun _ vs g => by cases g with | cons h0 g => cases g with | cons h1 g => cases g; rw [raw_eq h0]; exact (.cons_cons _ (.cons_cons _ .slnil)))
    · rw [if_neg (ne_true_of_eq_false hc)] at h
      refine r_skip ?_
      refine r_then ?_
      refine r_seq ?_
      refine r_region ?_
      refine r_pure tabOk 3 [4, 5] (E' := [(4, .one (.raw (.pointer none)) q1), (5, .one (.int .i64) 0)]) rfl ?_
      refine r_nil ?_
      refine r_then ?_
      refine r_ret ?_
      refine r_isfound ?_
      refine r_perm (L' := [Res.var b0 56 DT (a0.1, mv0, a0.2.2.1, a0.2.2.2.1, a0.2.2.2.2.1, a0.2.2.2.2.2.1, a0.2.2.2.2.2.2, ()), Res.dfound Tryz.prog dI mv0 a0.2.1 a1 q1 0]) ((List.perm_middle (a := Res.var b0 56 DT (a0.1, mv0, a0.2.2.1, a0.2.2.2.1, a0.2.2.2.2.1, a0.2.2.2.2.2.1, a0.2.2.2.2.2.2, ())) (l₁ := [Res.dfound Tryz.prog dI mv0 a0.2.1 a1 q1 0]) (l₂ := [])).trans (.cons _ (List.Perm.refl _))) ?_
      obtain rfl := Option.some.inj h
      exact r_rets (rs := [.tmp 4, .tmp 5]) rfl (.cons (.tmp rfl) (.cons (.tmp rfl) .nil)) rfl (fun _ vs g => by cases g with | cons h0 g => cases g with | cons h1 g => cases g; exact ⟨_, rfl, .cons (raw_self h0) (.cons h1 .nil)⟩) (fun _ vs g => by cases g with | cons h0 g => cases g with | cons h1 g => cases g; rw [raw_eq h0]; exact (.cons_cons _ (.cons_cons _ .slnil)))

theorem disk_Disk_Size_ok (p0 : Value) (a0 : DiskS) (a1 : List Int) (r : Int × Int) (h : disk_Disk_Size a0 a1 = some r) : Fn Tryz.prog 17 [.one (.raw (.pointer none)) p0, .one .str a1] [Res.disk Tryz.prog dI p0 a0] (fun _ => .tup [⟨(.int .i64), r.1⟩, ⟨(.int .i64), r.2⟩]) (fun _ => [Res.disk Tryz.prog dI p0 a0]) := by
  unfold disk_Disk_Size at h
  refine enter Tryz.func17 rfl 22 rfl rfl fun F => ?_
  refine r_undisk fun b2 mv1 hp => ?_
  subst hp
  refine r_seq ?_
  refine r_region ?_
  refine r_pure tabOk 2 [0, 1] (E' := [(0, ptr b2 0), (1, .one .str a1)]) rfl ?_
  refine r_nil ?_
  refine r_then ?_
  refine r_seq ?_
  refine r_region ?_
  refine r_pure tabOk 2 [9, 10] (E' := [(9, ptr b2 0), (10, .one .str a1)]) rfl ?_
  obtain ⟨r3, hr3, h⟩ := bind_ex h
  refine r_call (Lo := []) (disk_Disk_found_ok b2 mv1 a0 a1 _ hr3) (by kernel_rfl) (List.Perm.refl _) rfl rfl fun v4 => ?_
  refine r_pure tabOk 5 [6, 7] (E' := [(6, .one (.raw (.pointer none)) (tupv v4 0)), (7, .one (.int .i64) r3)]) rfl ?_
  refine r_nil ?_
  refine r_then ?_
  refine r_seq ?_
  refine r_seq ?_
  refine r_region ?_
  refine r_pure tabOk 2 [6, 7, 15] (E' := [(6, .one (.raw (.pointer none)) (tupv v4 0)), (7, .one (.int .i64) r3), (15, .one .bool (r3 != 0))]) rfl ?_
  refine r_nil ?_
  refine r_then ?_
  refine r_if (b := (r3 != 0)) rfl (fun hc => ?_) (fun hc => ?_)
  · rw [if_pos hc] at h
    refine r_seq ?_
    refine r_region ?_
    refine r_pure tabOk 3 [4, 5] (E' := [(4, .one (.int .i64) 0), (5, .one (.int .i64) r3)]) rfl ?_
    refine r_nil ?_
    refine r_then ?_
    refine r_ret ?_
    refine t_then ?_
    refine r_imp_at (R' := Res.dfiles Tryz.prog dI mv1 a0.2.1) 1 rfl dfound_dfiles ?_
    refine r_disk (P := Tryz.prog) (I := dI) (D := a0) ?_
    obtain rfl := Option.some.inj h
    exact r_rets (rs := [.tmp 4, .tmp 5]) rfl (.cons (.tmp rfl) (.cons (.tmp rfl) (.nil))) rfl (fun _ vs g => tup_ok vs g) (fun _ _ _ => (.cons_cons _ .slnil))
  · rw [if_neg (ne_true_of_eq_false hc)] at h
    refine r_skip ?_
    refine r_then ?_
    refine r_seq ?_
    obtain ⟨hc, h⟩ := ite_ex h
    refine r_imp_at (R' := Res.dat Tryz.prog dI mv1 a0.2.1 a1 (tupv v4 0)) 1 rfl (dfound_dat hc) ?_
    obtain ⟨f5, hf5, h⟩ := bind_ex h
    refine r_perm (L' := [Res.dat Tryz.prog dI mv1 a0.2.1 a1 (tupv v4 0), Res.var b2 56 DT (a0.1, mv1, a0.2.2.1, a0.2.2.2.1, a0.2.2.2.2.1, a0.2.2.2.2.2.1, a0.2.2.2.2.2.2, ())]) ((List.perm_middle (a := Res.dat Tryz.prog dI mv1 a0.2.1 a1 (tupv v4 0)) (l₁ := [Res.var b2 56 DT (a0.1, mv1, a0.2.2.1, a0.2.2.2.1, a0.2.2.2.2.1, a0.2.2.2.2.2.1, a0.2.2.2.2.2.2, ())]) (l₂ := [])).trans (.cons _ (List.Perm.refl _))) ?_
    refine r_dfocus kstr hf5 fun fb6 sv7 tv8 dv9 hq => ?_
    rw [hq]
    clear hq
    refine r_region ?_
    refine r_pure tabOk 3 [19] (E' := [(19, ptr fb6 0)]) rfl ?_
    refine y (y_load 0 ((.fst .here)) rfl rfl (by first | rfl | (simp only [Pth.off, T.size]; omega)) (ok_fst ok_here) tx0) rfl ?_
    refine y (y_lenown tabOk 1 rfl rfl rfl) rfl ?_
    refine r_pure tabOk 2 [4, 5] (E' := [(4, .one (.int .i64) (List.length f5.1 : Int)), (5, .one (.int .i64) 0)]) rfl ?_
    refine r_nil ?_
    refine r_then ?_
    refine r_ret ?_
    refine r_dunfocus_same (P := Tryz.prog) (I := dI) kstr hf5 ?_
    refine r_imp_at (R' := Res.dfiles Tryz.prog dI mv1 a0.2.1) 0 rfl dat_dfiles ?_
    refine r_perm (L' := [Res.var b2 56 DT (a0.1, mv1, a0.2.2.1, a0.2.2.2.1, a0.2.2.2.2.1, a0.2.2.2.2.2.1, a0.2.2.2.2.2.2, ()), Res.dfiles Tryz.prog dI mv1 a0.2.1]) ((List.perm_middle (a := Res.var b2 56 DT (a0.1, mv1, a0.2.2.1, a0.2.2.2.1, a0.2.2.2.2.1, a0.2.2.2.2.2.1, a0.2.2.2.2.2.2, ())) (l₁ := [Res.dfiles Tryz.prog dI mv1 a0.2.1]) (l₂ := [])).trans (.cons _ (List.Perm.refl _))) ?_
    refine r_disk (P := Tryz.prog) (I := dI) (D := a0) ?_
    obtain rfl := Option.some.inj h
    exact r_rets (rs := [.tmp 4, .tmp 5]) rfl (.cons (.tmp rfl) (.cons (.tmp rfl) (.nil))) rfl (fun _ vs g => tup_ok vs g) (fun _ _ _ => (.cons_cons _ .slnil))

theorem disk_Disk_Remove_ok (p0 : Value) (a0 : DiskS) (a1 : List Int) (r : Int × DiskS) (h : disk_Disk_Remove a0 a1 = some r) : Fn Tryz.prog 33 [.one (.raw (.pointer none)) p0, .one .str a1] [Res.disk Tryz.prog dI p0 a0] (fun _ => .one (.int .i64) r.1) (fun _ => [Res.disk Tryz.prog dI p0 r.2]) := by
  unfold disk_Disk_Remove at h
  refine enter Tryz.func33 rfl 21 rfl rfl fun F => ?_
  refine r_undisk fun b2 mv1 hp => ?_
  subst hp
  refine r_seq ?_
  refine r_region ?_
  refine r_pure tabOk 1 [0, 1] (E' := [(0, ptr b2 0), (1, .one .str a1)]) rfl ?_
  refine r_nil ?_
  refine r_then ?_
  refine r_seq ?_
  refine r_seq ?_
  refine r_region ?_
  refine r_pure tabOk 2 [0, 1, 8, 9] (E' := [(0, ptr b2 0), (1, .one .str a1), (8, ptr b2 0), (9, .one .str a1)]) rfl ?_
  obtain ⟨r3, hr3, h⟩ := bind_ex h
  refine r_call (Lo := []) (disk_Disk_found_ok b2 mv1 a0 a1 _ hr3) (by kernel_rfl) (List.Perm.refl _) rfl rfl fun v4 => ?_
  refine r_pure tabOk 5 [0, 1, 6] (E' := [(0, ptr b2 0), (1, .one .str a1), (6, .one (.int .i64) r3)]) rfl ?_
  refine r_nil ?_
  refine r_then ?_
  refine r_seq ?_
  refine r_region ?_
  refine r_pure tabOk 2 [0, 1, 6, 14] (E' := [(0, ptr b2 0), (1, .one .str a1), (6, .one (.int .i64) r3), (14, .one .bool (r3 != 0))]) rfl ?_
  refine r_nil ?_
  refine r_then ?_
  refine r_if (b := (r3 != 0)) rfl (fun hc => ?_) (fun hc => ?_)
  · rw [if_pos hc] at h
    refine r_seq ?_
    refine r_region ?_
    refine r_pure tabOk 2 [4] (E' := [(4, .one (.int .i64) r3)]) rfl ?_
    refine r_nil ?_
    refine r_then ?_
    refine r_ret ?_
    refine t_then ?_
    refine r_imp_at (R' := Res.dfiles Tryz.prog dI mv1 a0.2.1) 1 rfl dfound_dfiles ?_
    refine r_disk (P := Tryz.prog) (I := dI) (D := a0) ?_
    obtain rfl := Option.some.inj h
    exact r_ret1 rfl (.tmp rfl) (fun _ _ g => g) (fun _ _ _ => (.cons_cons _ .slnil))
  · rw [if_neg (ne_true_of_eq_false hc)] at h
    refine r_skip ?_
    refine r_then ?_
    refine r_seq ?_
    refine r_region ?_
    refine r_pure tabOk 3 [1, 18] (E' := [(1, .one .str a1), (18, ptr b2 1)]) rfl ?_
    refine y (y_load 0 ((.snd (.fst .here))) rfl rfl (by first | rfl | (simp only [Pth.off, T.size]; omega)) (ok_snd (ok_fst ok_here)) ty54) rfl ?_
    refine r_pure tabOk 1 [19, 20] (E' := [(19, .one (.raw (.map none)) mv1), (20, .one .str a1)]) rfl ?_
    refine r_imp_at (R' := Res.dfiles Tryz.prog dI mv1 a0.2.1) 1 rfl dfound_dfiles ?_
    refine r_perm (L' := [Res.dfiles Tryz.prog dI mv1 a0.2.1, Res.var b2 56 DT (a0.1, mv1, a0.2.2.1, a0.2.2.2.1, a0.2.2.2.2.1, a0.2.2.2.2.2.1, a0.2.2.2.2.2.2, ())]) ((List.perm_middle (a := Res.dfiles Tryz.prog dI mv1 a0.2.1) (l₁ := [Res.var b2 56 DT (a0.1, mv1, a0.2.2.1, a0.2.2.2.1, a0.2.2.2.2.1, a0.2.2.2.2.2.1, a0.2.2.2.2.2.2, ())]) (l₂ := [])).trans (.cons _ (List.Perm.refl _))) ?_
    refine r_ddelete kstr rfl rfl Tryz.underlying54 rfl ?_
    refine r_nil ?_
    refine r_then ?_
    refine r_seq ?_
    refine r_region ?_
    refine r_pure tabOk 1 [4] (E' := [(4, .one (.int .i64) 0)]) rfl ?_
    refine r_nil ?_
    refine r_then ?_
    refine r_ret ?_
    refine r_perm (L' := [Res.var b2 56 DT (a0.1, mv1, a0.2.2.1, a0.2.2.2.1, a0.2.2.2.2.1, a0.2.2.2.2.2.1, a0.2.2.2.2.2.2, ()), Res.dfiles Tryz.prog dI mv1 (pdel .str a1 a0.2.1)]) ((List.perm_middle (a := Res.var b2 56 DT (a0.1, mv1, a0.2.2.1, a0.2.2.2.1, a0.2.2.2.2.1, a0.2.2.2.2.2.1, a0.2.2.2.2.2.2, ())) (l₁ := [Res.dfiles Tryz.prog dI mv1 (pdel .str a1 a0.2.1)]) (l₂ := [])).trans (.cons _ (List.Perm.refl _))) ?_
    refine r_disk (P := Tryz.prog) (I := dI) (D := (a0.1, (pdel .str a1 a0.2.1), a0.2.2.1, a0.2.2.2.1, a0.2.2.2.2.1, a0.2.2.2.2.2.1, a0.2.2.2.2.2.2)) ?_
    obtain rfl := Option.some.inj h
    exact r_ret1 rfl (.tmp rfl) (fun _ _ g => g) (fun _ _ _ => (.cons_cons _ .slnil))

theorem cursor_New_ok  (r : (List (Int) × Int × Unit)) (h : cursor_New  = some r) : Fn Tryz.prog 42 [] [] (fun v => .one (.raw (.pointer none)) v) (fun v => [Res.cls CWriter v r]) := by
  unfold cursor_New at h
  refine enter Tryz.func42 rfl 3 rfl rfl fun F => ?_
  refine r_seq ?_
  refine r_region ?_
  refine r_pure tabOk 1 [] (E' := []) rfl ?_
  refine r_nil ?_
  refine r_then ?_
  refine r_seq ?_
  refine r_region ?_
  refine y (y_build rfl zf116 rfl rfl .nil) rfl ?_
  refine r_box rfl rfl fun b1 => ?_
  refine r_nilown (.slice none 0 0) rfl 5 (.int .u8) ?_
  refine r_pure tabOk 1 [0] (E' := [(0, ptr b1 0)]) rfl ?_
  refine r_nil ?_
  refine r_then ?_
  refine r_ret ?_
  refine r_perm (L' := [Res.var b1 116 (.pair (.raw (.slice none 0 0)) (.pair (.int .i64) .unit)) ((.slice none 0 0), 0, ()), Res.own (.slice none 0 0) 5 (.int .u8) []]) ((List.perm_middle (a := Res.var b1 116 (.pair (.raw (.slice none 0 0)) (.pair (.int .i64) .unit)) ((.slice none 0 0), 0, ())) (l₁ := [Res.own (.slice none 0 0) 5 (.int .u8) []]) (l₂ := [])).trans (.cons _ (List.Perm.refl _))) ?_
  refine r_CWriter (x := ([], 0, ())) ?_
  obtain rfl := Option.some.inj h
  exact r_ret1 rfl (.tmp rfl) (fun _ _ g => holds_raw.2 ⟨rfl, by rw [(holds_raw.1 g).1]; exact (holds_raw.1 g).2⟩) (fun _ _ g => by obtain ⟨rfl, _⟩ := holds_raw.1 g; exact (.cons_cons _ .slnil))

theorem cursor_lay_uint64_ok (p0 : Value) (a0 : List (Int) × Int × Unit) (a1 : Int) (a2 : Int) (r : (List (Int) × Int × Unit)) (h : cursor_lay_uint64 a0 a1 a2 = some r) : Fn Tryz.prog 59 [.one (.raw (.pointer none)) p0, .one (.int .u64) a1, .one (.int .i64) a2] [Res.cls CWriter p0 a0] (fun _ => .tup []) (fun _ => [Res.cls CWriter p0 r]) := by
  unfold cursor_lay_uint64 at h
  refine enter Tryz.func59 rfl 32 rfl rfl fun F => ?_
  refine r_seq ?_
  refine r_seq ?_
  refine r_unCWriter fun b2 sv1 hp => ?_
  subst hp
  refine r_region ?_
  refine r_pure tabOk 3 [0, 1, 2, 9] (E' := [(0, ptr b2 0), (1, .one (.int .u64) a1), (2, .one (.int .i64) a2), (9, ptr b2 1)]) rfl ?_
  refine y (y_load 0 ((.snd (.fst .here))) rfl rfl (by first | rfl | (simp only [Pth.off, T.size]; omega)) (ok_snd (ok_fst ok_here)) ty31) rfl ?_
  refine r_pure tabOk 1 [0, 1, 2, 11] (E' := [(0, ptr b2 0), (1, .one (.int .u64) a1), (2, .one (.int .i64) a2), (11, .one .bool (a0.2.1 != 0))]) rfl ?_
  refine r_nil ?_
  refine r_then ?_
  refine r_if (b := (a0.2.1 != 0)) rfl (fun hc => ?_) (fun hc => ?_)
  · rw [if_pos hc] at h
    refine r_ret ?_
    refine t_then ?_
    refine r_CWriter (x := a0) ?_
    obtain rfl := Option.some.inj h
    exact r_ret0 rfl (fun _ => tup_ok [] .nil) ((.cons_cons _ .slnil))
  · rw [if_neg (ne_true_of_eq_false hc)] at h
    refine r_skip ?_
    refine r_then ?_
    refine r_seq ?_
    refine r_region ?_
    refine r_pure tabOk 3 [0, 1, 6] (E' := [(0, ptr b2 0), (1, .one (.int .u64) a1), (6, .one (.int .i64) (IntKind.wrap .i64 (a2 - 1)))]) rfl ?_
    obtain ⟨i3, hi3, h⟩ := bnd_ex h
    rw [hi3]
    refine r_nil ?_
    refine r_then ?_
    obtain ⟨k4, hk4, h⟩ := bnd_ex h
    refine r_cutk (γ := Value) (fun (o5 : List (Int)) g6 => []) (fun (o5 : List (Int)) g6 => [Res.var b2 116 (.pair (.raw (.slice none 0 0)) (.pair (.int .i64) .unit)) (g6, a0.2.1, a0.2.2), Res.own g6 5 (.int .u8) o5]) k4 r ?_ ?_
    · refine r_block ?_
      refine r_less [0, 1, 6] rfl ?_
      refine r_loopg (γ := Value) (fun (s10 : Int × List (Int)) g11 => [(0, ptr b2 0), (1, .one (.int .u64) a1), (6, .one (.int .i64) s10.1)]) (fun (s10 : Int × List (Int)) g11 => [Res.var b2 116 (.pair (.raw (.slice none 0 0)) (.pair (.int .i64) .unit)) (g11, a0.2.1, a0.2.2), Res.own g11 5 (.int .u8) s10.2]) (cursor_lay_uint64_l0 a1 k4) (i3, a0.1) sv1 h rfl rfl ?_
      clear h
      intro m12 s10 g11 h
      cases m12 with
      | zero => cases h
      | succ m12 =>
      simp only [cursor_lay_uint64_l0] at h
      refine r_seq ?_
      refine r_seq ?_
      refine r_region ?_
      refine r_pure tabOk 2 [0, 1, 6, 15] (E' := [(0, ptr b2 0), (1, .one (.int .u64) a1), (6, .one (.int .i64) s10.1), (15, .one .bool (decide (s10.1 ≥ 0)))]) rfl ?_
      refine r_nil ?_
      refine r_then ?_
      refine r_if (b := (decide (s10.1 ≥ 0))) rfl (fun hc => ?_) (fun hc => ?_)
      · rw [if_pos hc] at h
        refine r_skip ?_
        refine r_then ?_
        refine r_seq ?_
        refine r_block ?_
        refine r_any (by kernel_rfl) ?_
        refine a_float (i := 0) (t := ptr b2 0) (blind_block (blind_then (blind_then (blind_block (blind_then blind_body))))) rfl (by kernel_rfl) (by kernel_rfl) (by kernel_rfl) (y_pure tabOk rfl) rfl ?_
        refine a_float (i := 1) (t := ptr b2 0) (blind_block (blind_then (blind_then (blind_block (blind_then blind_body))))) rfl (by kernel_rfl) (by kernel_rfl) (by kernel_rfl) (y_pure tabOk rfl) rfl ?_
        refine a_float (i := 5) (t := .one (.int .u64) a1) (blind_block (blind_then (blind_then (blind_block (blind_then blind_body))))) rfl (by kernel_rfl) (by kernel_rfl) (by kernel_rfl) (y_pure tabOk rfl) rfl ?_
        refine a_float (i := 6) (t := .one (.int .i64) s10.1) (blind_block (blind_then (blind_then (blind_block (blind_then blind_body))))) rfl (by kernel_rfl) (by kernel_rfl) (by kernel_rfl) (y_pure tabOk rfl) rfl ?_
        refine a_float (i := 7) (t := .one (.int .i64) (IntKind.wrap .i64 (8 * s10.1))) (blind_block (blind_then (blind_then (blind_block (blind_then blind_body))))) rfl (by kernel_rfl) (by kernel_rfl) (by kernel_rfl) (y_pure tabOk rfl) rfl ?_
        obtain ⟨hc, h⟩ := ite_ex h
        refine a_float (i := 8) (t := .one (.int .u64) (ishr .u64 a1 (IntKind.wrap .i64 (8 * s10.1)))) (blind_block (blind_then (blind_then (blind_block (blind_then blind_body))))) rfl (by kernel_rfl) (by kernel_rfl) (by kernel_rfl) (y_shr rfl rfl hc) rfl ?_
        refine a_float (i := 9) (t := .one (.int .u8) (IntKind.wrap .u8 (ishr .u64 a1 (IntKind.wrap .i64 (8 * s10.1))))) (blind_block (blind_then (blind_then (blind_block (blind_then blind_body))))) rfl (by kernel_rfl) (by kernel_rfl) (by kernel_rfl) (y_pure tabOk rfl) rfl ?_
        refine a_two (i := 2) (j := 10) (by kernel_rfl) rfl rfl ?_ ?_
        · refine r_pure tabOk 1 [0, 1, 6, 18, 20, 27] (E' := [(0, ptr b2 0), (1, .one (.int .u64) a1), (6, .one (.int .i64) s10.1), (18, ptr b2 0), (20, ptr b2 0), (27, .one (.int .u8) (IntKind.wrap .u8 (ishr .u64 a1 (IntKind.wrap .i64 (8 * s10.1)))))]) rfl ?_
          refine r_nil ?_
          refine r_then ?_
          refine r_less [0, 1, 6, 18, 20, 27] rfl ?_
          refine a_float (i := 3) (t := ptr b2 0) (blind_block (blind_then (blind_then (blind_block (blind_then blind_body))))) rfl (by kernel_rfl) (by kernel_rfl) (by kernel_rfl) (y_pure tabOk rfl) rfl ?_
          refine a_two (i := 4) (j := 10) (by kernel_rfl) rfl rfl ?_ ?_
          · refine y (y_load 0 ((.fst .here)) rfl rfl (by first | rfl | (simp only [Pth.off, T.size]; omega)) (ok_fst ok_here) tx0) rfl ?_
            refine r_nil ?_
            refine r_then ?_
            refine r_less [0, 1, 6, 18, 22, 27] rfl ?_
            refine a_one (i := 10) (by kernel_rfl) rfl ?_
            refine r_lits (B := 1) tabOk rfl el5 rfl rfl rfl (.cons rfl .nil) rfl fun v13 => ?_
            refine r_nil ?_
            refine r_then ?_
            refine r_less [0, 1, 6, 18, 22, 28] rfl ?_
            refine a_one (i := 11) (by kernel_rfl) rfl ?_
            obtain ⟨hc, h⟩ := ite_ex h
            refine r_append (B := 1) tabOk 2 rfl rfl (src_own 0 rfl rfl) rfl el5 rfl rfl hc rfl fun v14 => ?_
            refine r_lose (L' := [Res.var b2 116 (.pair (.raw (.slice none 0 0)) (.pair (.int .i64) .unit)) (g11, a0.2.1, a0.2.2), Res.own v14 5 (.int .u8) (s10.2 ++ [(IntKind.wrap .u8 (ishr .u64 a1 (IntKind.wrap .i64 (8 * s10.1))))])]) (.cons _ (.cons_cons _ (.cons_cons _ .slnil))) ?_
            refine r_nil ?_
            refine r_then ?_
            refine r_less [0, 1, 6, 18, 29] rfl ?_
            refine a_one (i := 12) (by kernel_rfl) rfl ?_
            refine r_pure tabOk 1 [0, 1, 6, 29, 30] (E' := [(0, ptr b2 0), (1, .one (.int .u64) a1), (6, .one (.int .i64) s10.1), (29, .one (.raw (.slice none 0 0)) v14), (30, ptr b2 0)]) rfl ?_
            refine r_nil ?_
            refine r_then ?_
            refine r_less [0, 1, 6, 29, 30] rfl ?_
            refine a_float (i := 13) (t := ptr b2 0) (blind_block (blind_then (blind_then (blind_block (blind_then blind_body))))) rfl (by kernel_rfl) (by kernel_rfl) (by kernel_rfl) (y_pure tabOk rfl) rfl ?_
            refine a_one (i := 14) (by kernel_rfl) rfl ?_
            refine r_store 0 ((.fst .here)) rfl rfl rfl (by first | rfl | (simp only [Pth.off, T.size]; omega)) (ok_fst ok_here) tx0 ?_
            refine r_nil ?_
            refine r_then ?_
            refine r_less [0, 1, 6] rfl ?_
            refine a_end (by kernel_rfl) ?_
            refine r_inblock ?_
            refine r_then ?_
            refine r_region ?_
            refine r_pure tabOk 3 [0, 1, 6] (E' := [(0, ptr b2 0), (1, .one (.int .u64) a1), (6, .one (.int .i64) (IntKind.wrap .i64 (s10.1 - 1)))]) rfl ?_
            obtain ⟨i15, hi15, h⟩ := bnd_ex h
            rw [hi15]
            refine r_nil ?_
            refine r_then ?_
            refine r_less [0, 1, 6] rfl ?_
            exact r_backg (i15, (s10.2 ++ [(IntKind.wrap .u8 (ishr .u64 a1 (IntKind.wrap .i64 (8 * s10.1))))])) v14 (Nat.lt_succ_self _) h rfl rfl
          · refine r_lits (B := 1) tabOk rfl el5 rfl rfl rfl (.cons rfl .nil) rfl fun v13 => ?_
            refine r_nil ?_
            refine r_then ?_
            refine r_less [0, 1, 6, 18, 21, 28] rfl ?_
            refine a_one (i := 4) (by kernel_rfl) rfl ?_
            refine y (y_load 1 ((.fst .here)) rfl rfl (by first | rfl | (simp only [Pth.off, T.size]; omega)) (ok_fst ok_here) tx0) rfl ?_
            refine r_nil ?_
            refine r_then ?_
            refine r_less [0, 1, 6, 18, 22, 28] rfl ?_
            refine a_one (i := 11) (by kernel_rfl) rfl ?_
            obtain ⟨hc, h⟩ := ite_ex h
            refine r_append (B := 1) tabOk 2 rfl rfl (src_own 0 rfl rfl) rfl el5 rfl rfl hc rfl fun v14 => ?_
            refine r_lose (L' := [Res.var b2 116 (.pair (.raw (.slice none 0 0)) (.pair (.int .i64) .unit)) (g11, a0.2.1, a0.2.2), Res.own v14 5 (.int .u8) (s10.2 ++ [(IntKind.wrap .u8 (ishr .u64 a1 (IntKind.wrap .i64 (8 * s10.1))))])]) (.cons _ (.cons_cons _ (.cons_cons _ .slnil))) ?_
            refine r_nil ?_
            refine r_then ?_
            refine r_less [0, 1, 6, 18, 29] rfl ?_
            refine a_one (i := 12) (by kernel_rfl) rfl ?_
            refine r_pure tabOk 1 [0, 1, 6, 29, 30] (E' := [(0, ptr b2 0), (1, .one (.int .u64) a1), (6, .one (.int .i64) s10.1), (29, .one (.raw (.slice none 0 0)) v14), (30, ptr b2 0)]) rfl ?_
            refine r_nil ?_
            refine r_then ?_
            refine r_less [0, 1, 6, 29, 30] rfl ?_
            refine a_float (i := 13) (t := ptr b2 0) (blind_block (blind_then (blind_then (blind_block (blind_then blind_body))))) rfl (by kernel_rfl) (by kernel_rfl) (by kernel_rfl) (y_pure tabOk rfl) rfl ?_
            refine a_one (i := 14) (by kernel_rfl) rfl ?_
            refine r_store 0 ((.fst .here)) rfl rfl rfl (by first | rfl | (simp only [Pth.off, T.size]; omega)) (ok_fst ok_here) tx0 ?_
            refine r_nil ?_
            refine r_then ?_
            refine r_less [0, 1, 6] rfl ?_
            refine a_end (by kernel_rfl) ?_
            refine r_inblock ?_
            refine r_then ?_
            refine r_region ?_
            refine r_pure tabOk 3 [0, 1, 6] (E' := [(0, ptr b2 0), (1, .one (.int .u64) a1), (6, .one (.int .i64) (IntKind.wrap .i64 (s10.1 - 1)))]) rfl ?_
            obtain ⟨i15, hi15, h⟩ := bnd_ex h
            rw [hi15]
            refine r_nil ?_
            refine r_then ?_
            refine r_less [0, 1, 6] rfl ?_
            exact r_backg (i15, (s10.2 ++ [(IntKind.wrap .u8 (ishr .u64 a1 (IntKind.wrap .i64 (8 * s10.1))))])) v14 (Nat.lt_succ_self _) h rfl rfl
        · refine r_lits (B := 1) tabOk rfl el5 rfl rfl rfl (.cons rfl .nil) rfl fun v13 => ?_
          refine r_nil ?_
          refine r_then ?_
          refine r_less [0, 1, 6, 18, 19, 28] rfl ?_
          refine a_one (i := 2) (by kernel_rfl) rfl ?_
          refine r_pure tabOk 1 [0, 1, 6, 18, 20, 28] (E' := [(0, ptr b2 0), (1, .one (.int .u64) a1), (6, .one (.int .i64) s10.1), (18, ptr b2 0), (20, ptr b2 0), (28, .one (.raw (.slice none 0 0)) v13)]) rfl ?_
          refine r_nil ?_
          refine r_then ?_
          refine r_less [0, 1, 6, 18, 20, 28] rfl ?_
          refine a_float (i := 3) (t := ptr b2 0) (blind_block (blind_then (blind_then (blind_block (blind_then blind_body))))) rfl (by kernel_rfl) (by kernel_rfl) (by kernel_rfl) (y_pure tabOk rfl) rfl ?_
          refine a_one (i := 4) (by kernel_rfl) rfl ?_
          refine y (y_load 1 ((.fst .here)) rfl rfl (by first | rfl | (simp only [Pth.off, T.size]; omega)) (ok_fst ok_here) tx0) rfl ?_
          refine r_nil ?_
          refine r_then ?_
          refine r_less [0, 1, 6, 18, 22, 28] rfl ?_
          refine a_one (i := 11) (by kernel_rfl) rfl ?_
          obtain ⟨hc, h⟩ := ite_ex h
          refine r_append (B := 1) tabOk 2 rfl rfl (src_own 0 rfl rfl) rfl el5 rfl rfl hc rfl fun v14 => ?_
          refine r_lose (L' := [Res.var b2 116 (.pair (.raw (.slice none 0 0)) (.pair (.int .i64) .unit)) (g11, a0.2.1, a0.2.2), Res.own v14 5 (.int .u8) (s10.2 ++ [(IntKind.wrap .u8 (ishr .u64 a1 (IntKind.wrap .i64 (8 * s10.1))))])]) (.cons _ (.cons_cons _ (.cons_cons _ .slnil))) ?_
          refine r_nil ?_
          refine r_then ?_
          refine r_less [0, 1, 6, 18, 29] rfl ?_
          refine a_one (i := 12) (by kernel_rfl) rfl ?_
          refine r_pure tabOk 1 [0, 1, 6, 29, 30] (E' := [(0, ptr b2 0), (1, .one (.int .u64) a1), (6, .one (.int .i64) s10.1), (29, .one (.raw (.slice none 0 0)) v14), (30, ptr b2 0)]) rfl ?_
          refine r_nil ?_
          refine r_then ?_
          refine r_less [0, 1, 6, 29, 30] rfl ?_
          refine a_float (i := 13) (t := ptr b2 0) (blind_block (blind_then (blind_then (blind_block (blind_then blind_body))))) rfl (by kernel_rfl) (by kernel_rfl) (by kernel_rfl) (y_pure tabOk rfl) rfl ?_
          refine a_one (i := 14) (by kernel_rfl) rfl ?_
          refine r_store 0 ((.fst .here)) rfl rfl rfl (by first | rfl | (simp only [Pth.off, T.size]; omega)) (ok_fst ok_here) tx0 ?_
          refine r_nil ?_
          refine r_then ?_
          refine r_less [0, 1, 6] rfl ?_
          refine a_end (by kernel_rfl) ?_
          refine r_inblock ?_
          refine r_then ?_
          refine r_region ?_
          refine r_pure tabOk 3 [0, 1, 6] (E' := [(0, ptr b2 0), (1, .one (.int .u64) a1), (6, .one (.int .i64) (IntKind.wrap .i64 (s10.1 - 1)))]) rfl ?_
          obtain ⟨i15, hi15, h⟩ := bnd_ex h
          rw [hi15]
          refine r_nil ?_
          refine r_then ?_
          refine r_less [0, 1, 6] rfl ?_
          exact r_backg (i15, (s10.2 ++ [(IntKind.wrap .u8 (ishr .u64 a1 (IntKind.wrap .i64 (8 * s10.1))))])) v14 (Nat.lt_succ_self _) h rfl rfl
      · rw [if_neg (ne_true_of_eq_false hc)] at h
        refine r_exit ?_
        refine e_then ?_
        refine e_then ?_
        refine e_eq ?_
        refine r_then ?_
        refine r_less [] rfl ?_
        exact r_meetk s10.2 g11 h rfl rfl
    · intro o5 g6 h
      rw [← hk4] at h
      try dsimp only at h
      refine r_CWriter (x := (o5, a0.2.1, a0.2.2)) ?_
      obtain rfl := Option.some.inj h
      exact r_end0 rfl (fun _ => tup_ok [] .nil) ((.cons_cons _ .slnil))

theorem cursor_Writer_I64_ok (p0 : Value) (a0 : List (Int) × Int × Unit) (a1 : Int) (r : (List (Int) × Int × Unit)) (h : cursor_Writer_I64 a0 a1 = some r) : Fn Tryz.prog 43 [.one (.raw (.pointer none)) p0, .one (.int .i64) a1] [Res.cls CWriter p0 a0] (fun _ => .tup []) (fun _ => [Res.cls CWriter p0 r]) := by
  unfold cursor_Writer_I64 at h
  refine enter Tryz.func43 rfl 8 rfl rfl fun F => ?_
  refine r_region ?_
  refine r_pure tabOk 3 [4, 6] (E' := [(4, .one (.raw (.pointer none)) p0), (6, .one (.int .u64) (IntKind.wrap .u64 a1))]) rfl ?_
  obtain ⟨r1, hr1, h⟩ := bind_ex h
  refine r_call (Lo := []) (cursor_lay_uint64_ok p0 a0 (IntKind.wrap .u64 a1) 8 _ hr1) (by kernel_rfl) (List.Perm.refl _) rfl rfl fun _ => ?_
  refine r_nil ?_
  obtain rfl := Option.some.inj h
  exact r_end0 rfl (fun _ => tup_ok [] .nil) ((.cons_cons _ .slnil))

theorem cursor_Writer_Out_ok (p0 : Value) (a0 : List (Int) × Int × Unit) (r : List Int × Int) (h : cursor_Writer_Out a0 = some r) : Fn Tryz.prog 44 [.one (.raw (.pointer none)) p0] [Res.cls CWriter p0 a0] (fun _ => .tup [⟨.str, r.1⟩, ⟨(.int .i64), r.2⟩]) (fun _ => [Res.cls CWriter p0 a0]) := by
  unfold cursor_Writer_Out at h
  refine enter Tryz.func44 rfl 18 rfl rfl fun F => ?_
  refine r_seq ?_
  refine r_region ?_
  refine r_pure tabOk 2 [0] (E' := [(0, .one (.raw (.pointer none)) p0)]) rfl ?_
  refine r_nil ?_
  refine r_then ?_
  refine r_seq ?_
  refine r_seq ?_
  refine r_unCWriter fun b2 sv1 hp => ?_
  subst hp
  refine r_region ?_
  refine r_pure tabOk 3 [0, 6] (E' := [(0, ptr b2 0), (6, ptr b2 1)]) rfl ?_
  refine y (y_load 0 ((.snd (.fst .here))) rfl rfl (by first | rfl | (simp only [Pth.off, T.size]; omega)) (ok_snd (ok_fst ok_here)) ty31) rfl ?_
  refine r_pure tabOk 1 [0, 8] (E' := [(0, ptr b2 0), (8, .one .bool (a0.2.1 != 0))]) rfl ?_
  refine r_nil ?_
  refine r_then ?_
  refine r_if (b := (a0.2.1 != 0)) rfl (fun hc => ?_) (fun hc => ?_)
  · rw [if_pos hc] at h
    refine r_seq ?_
    refine r_drawn (by kernel_rfl) (by kernel_rfl) ?_
    refine q_pure tabOk 3 [11] (E' := [(11, ptr b2 1)]) rfl ?_
    refine q_y (y_load 0 ((.snd (.fst .here))) rfl rfl (by first | rfl | (simp only [Pth.off, T.size]; omega)) (ok_snd (ok_fst ok_here)) ty31) rfl ?_
    refine q_pure tabOk 2 [2, 3] (E' := [(2, .one .str []), (3, .one (.int .i64) a0.2.1)]) rfl ?_
    refine q_nil ?_
    refine r_then ?_
    refine r_ret ?_
    refine t_then ?_
    refine r_CWriter (x := a0) ?_
    obtain rfl := Option.some.inj h
    exact r_rets (rs := [.tmp 2, .tmp 3]) rfl (.cons (.tmp rfl) (.cons (.tmp rfl) (.nil))) rfl (fun _ vs g => tup_ok vs g) (fun _ _ _ => (.cons_cons _ .slnil))
  · rw [if_neg (ne_true_of_eq_false hc)] at h
    refine r_skip ?_
    refine r_then ?_
    refine r_seq ?_
    refine r_region ?_
    refine r_pure tabOk 3 [15] (E' := [(15, ptr b2 0)]) rfl ?_
    refine y (y_load 0 ((.fst .here)) rfl rfl (by first | rfl | (simp only [Pth.off, T.size]; omega)) (ok_fst ok_here) tx0) rfl ?_
    refine y (y_text tabOk 1 rfl rfl rfl rfl rfl) rfl ?_
    refine r_pure tabOk 2 [2, 3] (E' := [(2, .one .str a0.1), (3, .one (.int .i64) 0)]) rfl ?_
    refine r_nil ?_
    refine r_then ?_
    refine r_ret ?_
    refine r_CWriter (x := a0) ?_
    obtain rfl := Option.some.inj h
    exact r_rets (rs := [.tmp 2, .tmp 3]) rfl (.cons (.tmp rfl) (.cons (.tmp rfl) (.nil))) rfl (fun _ vs g => tup_ok vs g) (fun _ _ _ => (.cons_cons _ .slnil))

theorem crc_steps_ok (a0 : Int) (a1 : Int) (r : Int) (h : crc_steps a0 a1 = some r) : Pure Tryz.prog 72 [.one (.int .u32) a0, .one (.int .i64) a1] (.one (.int .u32) r) := by
  unfold crc_steps at h
  refine enter Tryz.func72 rfl 19 rfl rfl fun F => ?_
  refine r_seq ?_
  refine r_region ?_
  refine r_pure tabOk 1 [0, 1] (E' := [(0, .one (.int .u32) a0), (1, .one (.int .i64) a1)]) rfl ?_
  refine r_nil ?_
  refine r_then ?_
  obtain ⟨k1, hk1, h⟩ := bnd_ex h
  refine r_joink (γ := Unit) (fun (o2 : Int) _ => [(0, .one (.int .u32) o2)]) (fun (o2 : Int) _ => []) k1 r ?_ ?_
  · refine r_seq ?_
    refine r_region ?_
    refine r_pure tabOk 2 [0, 6, 7] (E' := [(0, .one (.int .u32) a0), (6, .one (.int .i64) a1), (7, .one (.int .i64) 0)]) rfl ?_
    refine r_nil ?_
    refine r_then ?_
    refine r_block ?_
    refine r_less [0, 6, 7] rfl ?_
    refine r_loopg (γ := Unit) (fun (s4 : Int × Int) _ => [(0, .one (.int .u32) s4.1), (6, .one (.int .i64) a1), (7, .one (.int .i64) s4.2)]) (fun (s4 : Int × Int) _ => []) (crc_steps_l0 a1 k1) (a0, 0) () h rfl rfl ?_
    clear h
    intro m5 s4 gg h
    cases m5 with
    | zero => cases h
    | succ m5 =>
    simp only [crc_steps_l0] at h
    refine r_seq ?_
    refine r_region ?_
    refine r_pure tabOk 1 [0, 6, 7, 8] (E' := [(0, .one (.int .u32) s4.1), (6, .one (.int .i64) a1), (7, .one (.int .i64) s4.2), (8, .one .bool (decide (s4.2 < a1)))]) rfl ?_
    refine r_nil ?_
    refine r_then ?_
    refine r_seq ?_
    refine r_if (b := (decide (s4.2 < a1))) rfl (fun hc => ?_) (fun hc => ?_)
    · rw [if_pos hc] at h
      refine r_skip ?_
      refine r_then ?_
      obtain ⟨k6, hk6, h⟩ := bnd_ex h
      refine r_joink (γ := Unit) (fun (o7 : Int) _ => [(0, .one (.int .u32) o7), (6, .one (.int .i64) a1), (7, .one (.int .i64) s4.2)]) (fun (o7 : Int) _ => []) k6 r ?_ ?_
      · refine r_block ?_
        refine r_seq ?_
        refine r_region ?_
        refine r_pure tabOk 3 [0, 5, 6, 7] (E' := [(0, .one (.int .u32) s4.1), (5, .one (.int .u32) (iand .u32 s4.1 1)), (6, .one (.int .i64) a1), (7, .one (.int .i64) s4.2)]) rfl ?_
        obtain ⟨low8, hlow8, h⟩ := bnd_ex h
        rw [hlow8]
        refine r_nil ?_
        refine r_then ?_
        refine r_seq ?_
        refine r_region ?_
        refine r_pure tabOk 3 [0, 5, 6, 7] (E' := [(0, .one (.int .u32) (ishr .u32 s4.1 1)), (5, .one (.int .u32) low8), (6, .one (.int .i64) a1), (7, .one (.int .i64) s4.2)]) rfl ?_
        obtain ⟨x9, hx9, h⟩ := bnd_ex h
        rw [hx9]
        refine r_nil ?_
        refine r_then ?_
        refine r_seq ?_
        refine r_region ?_
        refine r_pure tabOk 2 [0, 6, 7, 14] (E' := [(0, .one (.int .u32) x9), (6, .one (.int .i64) a1), (7, .one (.int .i64) s4.2), (14, .one .bool (low8 == 1))]) rfl ?_
        refine r_nil ?_
        refine r_then ?_
        refine r_if (b := (low8 == 1)) rfl (fun hc => ?_) (fun hc => ?_)
        · rw [if_pos hc] at h
          refine r_region ?_
          refine r_pure tabOk 3 [0, 6, 7] (E' := [(0, .one (.int .u32) (ixor .u32 x9 2197175160)), (6, .one (.int .i64) a1), (7, .one (.int .i64) s4.2)]) rfl ?_
          obtain ⟨x10, hx10, h⟩ := bnd_ex h
          rw [hx10]
          refine r_nil ?_
          refine r_inblock ?_
          refine r_then ?_
          refine r_less [0, 6, 7] rfl ?_
          exact r_meetk x10 () h rfl rfl
        · rw [if_neg (ne_true_of_eq_false hc)] at h
          refine r_skip ?_
          refine r_inblock ?_
          refine r_then ?_
          refine r_less [0, 6, 7] rfl ?_
          exact r_meetk x9 () h rfl rfl
      · intro o7 gg h
        rw [← hk6] at h
        try dsimp only at h
        refine r_region ?_
        refine r_pure tabOk 2 [0, 6, 7] (E' := [(0, .one (.int .u32) o7), (6, .one (.int .i64) a1), (7, .one (.int .i64) (IntKind.wrap .i64 (s4.2 + 1)))]) rfl ?_
        refine r_nil ?_
        refine r_then ?_
        refine r_less [0, 6, 7] rfl ?_
        exact r_backg (o7, (IntKind.wrap .i64 (s4.2 + 1))) () (Nat.lt_succ_self _) h rfl rfl
    · rw [if_neg (ne_true_of_eq_false hc)] at h
      refine r_exit ?_
      refine e_then ?_
      refine e_then ?_
      refine e_eq ?_
      refine r_then ?_
      refine r_less [0] rfl ?_
      exact r_meetk s4.1 () h rfl rfl
  · intro o2 gg h
    rw [← hk1] at h
    try dsimp only at h
    refine r_seq ?_
    refine r_region ?_
    refine r_pure tabOk 2 [4] (E' := [(4, .one (.int .u32) o2)]) rfl ?_
    refine r_nil ?_
    refine r_then ?_
    refine r_ret ?_
    obtain rfl := Option.some.inj h
    exact r_ret1 rfl (.tmp rfl) (fun _ _ g => g) (fun _ _ _ => List.nil_sublist _)

theorem crc_halves_ok  (r : List (Int)) (h : crc_halves  = some r) : Pure Tryz.prog 48 [] (.one (.arr 16 (.int .u32)) r) := by
  unfold crc_halves at h
  refine enter Tryz.func48 rfl 13 rfl rfl fun F => ?_
  refine r_seq ?_
  refine r_region ?_
  refine r_alloc (t := (.arr 16 (.int .u32))) rfl zf94 rfl fun b1 => ?_
  refine r_nil ?_
  refine r_then ?_
  refine r_seq ?_
  refine r_region ?_
  refine r_alloc (t := (.arr 16 (.int .u32))) rfl zf94 rfl fun b2 => ?_
  refine r_nil ?_
  refine r_then ?_
  obtain ⟨k3, hk3, h⟩ := bnd_ex h
  refine r_joink (γ := Unit) (fun (o4 : List (Int)) _ => [(0, ptr b1 0), (1, ptr b2 0)]) (fun (o4 : List (Int)) _ => [Res.var b2 94 (.arr 16 (.int .u32)) o4, Res.var b1 94 (.arr 16 (.int .u32)) (List.replicate 16 (0 : Int))]) k3 r ?_ ?_
  · refine r_seq ?_
    refine r_region ?_
    refine r_pure tabOk 1 [0, 1, 3] (E' := [(0, ptr b1 0), (1, ptr b2 0), (3, .one (.int .i64) 0)]) rfl ?_
    refine r_nil ?_
    refine r_then ?_
    refine r_block ?_
    refine r_less [0, 1, 3] rfl ?_
    refine r_loopg (γ := Unit) (fun (s7 : Int × List (Int)) _ => [(0, ptr b1 0), (1, ptr b2 0), (3, .one (.int .i64) s7.1)]) (fun (s7 : Int × List (Int)) _ => [Res.var b2 94 (.arr 16 (.int .u32)) s7.2, Res.var b1 94 (.arr 16 (.int .u32)) (List.replicate 16 (0 : Int))]) (crc_halves_l0 k3) (0, (List.replicate 16 (0 : Int))) () h rfl rfl ?_
    clear h
    intro m8 s7 gg h
    cases m8 with
    | zero => cases h
    | succ m8 =>
    simp only [crc_halves_l0] at h
    refine r_seq ?_
    refine r_region ?_
    refine r_pure tabOk 1 [0, 1, 3, 4] (E' := [(0, ptr b1 0), (1, ptr b2 0), (3, .one (.int .i64) s7.1), (4, .one .bool (decide (s7.1 < 16)))]) rfl ?_
    refine r_nil ?_
    refine r_then ?_
    refine r_seq ?_
    refine r_if (b := (decide (s7.1 < 16))) rfl (fun hc => ?_) (fun hc => ?_)
    · rw [if_pos hc] at h
      refine r_skip ?_
      refine r_then ?_
      refine r_seq ?_
      refine r_block ?_
      refine r_seq ?_
      refine r_region ?_
      refine r_pure tabOk 2 [0, 1, 2, 3] (E' := [(0, ptr b1 0), (1, ptr b2 0), (2, .one (.int .i64) s7.1), (3, .one (.int .i64) s7.1)]) rfl ?_
      refine r_nil ?_
      refine r_then ?_
      refine r_region ?_
      refine r_pure tabOk 3 [0, 1, 3, 6, 8] (E' := [(0, ptr b1 0), (1, ptr b2 0), (3, .one (.int .i64) s7.1), (6, .one (.int .i64) s7.1), (8, .one (.int .u32) (IntKind.wrap .u32 s7.1))]) rfl ?_
      obtain ⟨r9, hr9, h⟩ := bind_ex h
      refine r_calls (crc_steps_ok (IntKind.wrap .u32 s7.1) 4 _ hr9) (by kernel_rfl) rfl rfl ?_
      obtain ⟨hc, h⟩ := ite_ex h
      refine y (y_ivar rfl rfl hc.1 hc.2 un94 ty52) rfl ?_
      refine r_store 0 (.elem (Int.toNat s7.1) .here) rfl rfl rfl (by first | rfl | (simp only [Pth.off, T.size]; omega)) (ok_elem (by first | omega | (simp only [List.length_set] at hc ⊢; omega)) ok_here) ty52 ?_
      refine r_nil ?_
      refine r_inblock ?_
      refine r_then ?_
      refine r_region ?_
      refine r_pure tabOk 2 [0, 1, 3] (E' := [(0, ptr b1 0), (1, ptr b2 0), (3, .one (.int .i64) (IntKind.wrap .i64 (s7.1 + 1)))]) rfl ?_
      refine r_nil ?_
      refine r_then ?_
      refine r_less [0, 1, 3] rfl ?_
      exact r_backg ((IntKind.wrap .i64 (s7.1 + 1)), (List.set s7.2 (Int.toNat s7.1) r9)) () (Nat.lt_succ_self _) h rfl rfl
    · rw [if_neg (ne_true_of_eq_false hc)] at h
      refine r_exit ?_
      refine e_then ?_
      refine e_then ?_
      refine e_eq ?_
      refine r_then ?_
      refine r_less [0, 1] rfl ?_
      exact r_meetk s7.2 () h rfl rfl
  · intro o4 gg h
    rw [← hk3] at h
    try dsimp only at h
    refine r_seq ?_
    refine r_region ?_
    refine y (y_load 0 .here rfl rfl (by first | rfl | (simp only [Pth.off, T.size]; omega)) ok_here ty94) rfl ?_
    refine r_store 1 .here rfl rfl rfl (by first | rfl | (simp only [Pth.off, T.size]; omega)) ok_here ty94 ?_
    refine r_nil ?_
    refine r_then ?_
    refine r_ret ?_
    obtain rfl := Option.some.inj h
    exact r_ret1 rfl (.cell 1 .here rfl rfl (by first | rfl | (simp only [Pth.off, T.size]; omega)) ok_here ty94) (fun _ _ g => g) (fun _ _ _ => List.nil_sublist _)

theorem crc_On_ok (a0 : Int) (a1 : List Int) (r : Int) (h : crc_On a0 a1 = some r) : Pure Tryz.prog 32 [.one (.int .u32) a0, .one .str a1] (.one (.int .u32) r) := by
  unfold crc_On at h
  refine enter Tryz.func32 rfl 39 rfl rfl fun F => ?_
  refine r_seq ?_
  refine r_region ?_
  refine r_pure tabOk 1 [0, 1] (E' := [(0, .one (.int .u32) a0), (1, .one .str a1)]) rfl ?_
  refine r_nil ?_
  refine r_then ?_
  refine r_seq ?_
  refine r_region ?_
  obtain ⟨r1, hr1, h⟩ := bind_ex h
  refine r_calls (crc_halves_ok  _ hr1) (by kernel_rfl) rfl rfl ?_
  refine r_alloc (t := (.arr 16 (.int .u32))) rfl zf94 rfl fun b2 => ?_
  refine r_store 0 .here rfl rfl rfl (by first | rfl | (simp only [Pth.off, T.size]; omega)) ok_here ty94 ?_
  refine r_nil ?_
  refine r_then ?_
  refine r_seq ?_
  refine r_region ?_
  refine r_pure tabOk 3 [1, 5, 6] (E' := [(1, .one .str a1), (5, ptr b2 0), (6, .one (.int .u32) (inot .u32 a0))]) rfl ?_
  obtain ⟨x3, hx3, h⟩ := bnd_ex h
  rw [hx3]
  refine r_nil ?_
  refine r_then ?_
  obtain ⟨k4, hk4, h⟩ := bnd_ex h
  refine r_joink (γ := Unit) (fun (o5 : Int) _ => [(6, .one (.int .u32) o5)]) (fun (o5 : Int) _ => [Res.var b2 94 (.arr 16 (.int .u32)) r1]) k4 r ?_ ?_
  · refine r_seq ?_
    refine r_region ?_
    refine r_pure tabOk 3 [1, 5, 6, 12, 13] (E' := [(1, .one .str a1), (5, ptr b2 0), (6, .one (.int .u32) x3), (12, .one (.int .i64) (List.length a1 : Int)), (13, .one (.int .i64) 0)]) rfl ?_
    refine r_nil ?_
    refine r_then ?_
    refine r_block ?_
    refine r_less [1, 5, 6, 12, 13] rfl ?_
    refine r_loopg (γ := Unit) (fun (s7 : Int × Int) _ => [(1, .one .str a1), (5, ptr b2 0), (6, .one (.int .u32) s7.1), (12, .one (.int .i64) (List.length a1 : Int)), (13, .one (.int .i64) s7.2)]) (fun (s7 : Int × Int) _ => [Res.var b2 94 (.arr 16 (.int .u32)) r1]) (crc_On_l0 a1 r1 k4) (x3, 0) () h rfl rfl ?_
    clear h
    intro m8 s7 gg h
    cases m8 with
    | zero => cases h
    | succ m8 =>
    simp only [crc_On_l0] at h
    refine r_seq ?_
    refine r_region ?_
    refine r_pure tabOk 1 [1, 5, 6, 12, 13, 14] (E' := [(1, .one .str a1), (5, ptr b2 0), (6, .one (.int .u32) s7.1), (12, .one (.int .i64) (List.length a1 : Int)), (13, .one (.int .i64) s7.2), (14, .one .bool (decide (s7.2 < (List.length a1 : Int))))]) rfl ?_
    refine r_nil ?_
    refine r_then ?_
    refine r_seq ?_
    refine r_if (b := (decide (s7.2 < (List.length a1 : Int)))) rfl (fun hc => ?_) (fun hc => ?_)
    · rw [if_pos hc] at h
      refine r_skip ?_
      refine r_then ?_
      refine r_seq ?_
      refine r_block ?_
      refine r_seq ?_
      refine r_region ?_
      refine r_pure tabOk 2 [1, 5, 6, 7, 12, 13] (E' := [(1, .one .str a1), (5, ptr b2 0), (6, .one (.int .u32) s7.1), (7, .one (.int .i64) s7.2), (12, .one (.int .i64) (List.length a1 : Int)), (13, .one (.int .i64) s7.2)]) rfl ?_
      refine r_nil ?_
      refine r_then ?_
      refine r_seq ?_
      refine r_region ?_
      refine r_pure tabOk 3 [1, 5, 12, 13, 16, 17, 18] (E' := [(1, .one .str a1), (5, ptr b2 0), (12, .one (.int .i64) (List.length a1 : Int)), (13, .one (.int .i64) s7.2), (16, .one (.int .u32) s7.1), (17, .one .str a1), (18, .one (.int .i64) s7.2)]) rfl ?_
      obtain ⟨hc, h⟩ := ite_ex h
      refine y (y_byte tabOk rfl rfl hc.1 hc.2 rfl) rfl ?_
      refine r_pure tabOk 3 [1, 5, 6, 12, 13] (E' := [(1, .one .str a1), (5, ptr b2 0), (6, .one (.int .u32) (ixor .u32 s7.1 (IntKind.wrap .u32 (List.getD a1 (Int.toNat s7.2) 0)))), (12, .one (.int .i64) (List.length a1 : Int)), (13, .one (.int .i64) s7.2)]) rfl ?_
      obtain ⟨x9, hx9, h⟩ := bnd_ex h
      rw [hx9]
      refine r_nil ?_
      refine r_then ?_
      refine r_seq ?_
      refine r_region ?_
      refine r_pure tabOk 4 [1, 5, 12, 13, 23, 25] (E' := [(1, .one .str a1), (5, ptr b2 0), (12, .one (.int .i64) (List.length a1 : Int)), (13, .one (.int .i64) s7.2), (23, .one (.int .u32) (ishr .u32 x9 4)), (25, .one (.int .u32) (iand .u32 x9 15))]) rfl ?_
      obtain ⟨hc, h⟩ := ite_ex h
      refine y (y_ivar rfl rfl hc.1 hc.2 un94 ty52) rfl ?_
      refine y (y_load 0 (.elem (Int.toNat (iand .u32 x9 15)) .here) rfl rfl (by first | rfl | (simp only [Pth.off, T.size]; omega)) (ok_elem (by first | omega | (simp only [List.length_set] at hc ⊢; omega)) ok_here) ty52) rfl ?_
      refine r_pure tabOk 2 [1, 5, 6, 12, 13] (E' := [(1, .one .str a1), (5, ptr b2 0), (6, .one (.int .u32) (ixor .u32 (ishr .u32 x9 4) (List.getD r1 (Int.toNat (iand .u32 x9 15)) 0))), (12, .one (.int .i64) (List.length a1 : Int)), (13, .one (.int .i64) s7.2)]) rfl ?_
      obtain ⟨x10, hx10, h⟩ := bnd_ex h
      rw [hx10]
      refine r_nil ?_
      refine r_then ?_
      refine r_region ?_
      refine r_pure tabOk 4 [1, 5, 12, 13, 30, 32] (E' := [(1, .one .str a1), (5, ptr b2 0), (12, .one (.int .i64) (List.length a1 : Int)), (13, .one (.int .i64) s7.2), (30, .one (.int .u32) (ishr .u32 x10 4)), (32, .one (.int .u32) (iand .u32 x10 15))]) rfl ?_
      obtain ⟨hc, h⟩ := ite_ex h
      refine y (y_ivar rfl rfl hc.1 hc.2 un94 ty52) rfl ?_
      refine y (y_load 0 (.elem (Int.toNat (iand .u32 x10 15)) .here) rfl rfl (by first | rfl | (simp only [Pth.off, T.size]; omega)) (ok_elem (by first | omega | (simp only [List.length_set] at hc ⊢; omega)) ok_here) ty52) rfl ?_
      refine r_pure tabOk 2 [1, 5, 6, 12, 13] (E' := [(1, .one .str a1), (5, ptr b2 0), (6, .one (.int .u32) (ixor .u32 (ishr .u32 x10 4) (List.getD r1 (Int.toNat (iand .u32 x10 15)) 0))), (12, .one (.int .i64) (List.length a1 : Int)), (13, .one (.int .i64) s7.2)]) rfl ?_
      obtain ⟨x11, hx11, h⟩ := bnd_ex h
      rw [hx11]
      refine r_nil ?_
      refine r_inblock ?_
      refine r_then ?_
      refine r_region ?_
      refine r_pure tabOk 2 [1, 5, 6, 12, 13] (E' := [(1, .one .str a1), (5, ptr b2 0), (6, .one (.int .u32) x11), (12, .one (.int .i64) (List.length a1 : Int)), (13, .one (.int .i64) (IntKind.wrap .i64 (s7.2 + 1)))]) rfl ?_
      refine r_nil ?_
      refine r_then ?_
      refine r_less [1, 5, 6, 12, 13] rfl ?_
      exact r_backg (x11, (IntKind.wrap .i64 (s7.2 + 1))) () (Nat.lt_succ_self _) h rfl rfl
    · rw [if_neg (ne_true_of_eq_false hc)] at h
      refine r_exit ?_
      refine e_then ?_
      refine e_then ?_
      refine e_eq ?_
      refine r_then ?_
      refine r_less [6] rfl ?_
      exact r_meetk s7.1 () h rfl rfl
  · intro o5 gg h
    rw [← hk4] at h
    try dsimp only at h
    refine r_seq ?_
    refine r_region ?_
    refine r_pure tabOk 3 [4] (E' := [(4, .one (.int .u32) (inot .u32 o5))]) rfl ?_
    refine r_nil ?_
    refine r_then ?_
    refine r_ret ?_
    obtain rfl := Option.some.inj h
    exact r_ret1 rfl (.tmp rfl) (fun _ _ g => g) (fun _ _ _ => List.nil_sublist _)

theorem crc_Sum_ok (a0 : List Int) (r : Int) (h : crc_Sum a0 = some r) : Pure Tryz.prog 19 [.one .str a0] (.one (.int .u32) r) := by
  unfold crc_Sum at h
  refine enter Tryz.func19 rfl 5 rfl rfl fun F => ?_
  refine r_seq ?_
  refine r_region ?_
  refine r_pure tabOk 1 [0] (E' := [(0, .one .str a0)]) rfl ?_
  refine r_nil ?_
  refine r_then ?_
  refine r_seq ?_
  refine r_region ?_
  refine r_pure tabOk 1 [3] (E' := [(3, .one .str a0)]) rfl ?_
  obtain ⟨r1, hr1, h⟩ := bind_ex h
  refine r_calls (crc_On_ok 0 a0 _ hr1) (by kernel_rfl) rfl rfl ?_
  refine r_pure tabOk 1 [2] (E' := [(2, .one (.int .u32) r1)]) rfl ?_
  refine r_nil ?_
  refine r_then ?_
  refine r_ret ?_
  obtain rfl := Option.some.inj h
  exact r_ret1 rfl (.tmp rfl) (fun _ _ g => g) (fun _ _ _ => List.nil_sublist _)

theorem cursor_lay_uint32_ok (p0 : Value) (a0 : List (Int) × Int × Unit) (a1 : Int) (a2 : Int) (r : (List (Int) × Int × Unit)) (h : cursor_lay_uint32 a0 a1 a2 = some r) : Fn Tryz.prog 60 [.one (.raw (.pointer none)) p0, .one (.int .u32) a1, .one (.int .i64) a2] [Res.cls CWriter p0 a0] (fun _ => .tup []) (fun _ => [Res.cls CWriter p0 r]) := by
  unfold cursor_lay_uint32 at h
  refine enter Tryz.func60 rfl 33 rfl rfl fun F => ?_
  refine r_seq ?_
  refine r_seq ?_
  refine r_unCWriter fun b2 sv1 hp => ?_
  subst hp
  refine r_region ?_
  refine r_pure tabOk 3 [0, 1, 2, 9] (E' := [(0, ptr b2 0), (1, .one (.int .u32) a1), (2, .one (.int .i64) a2), (9, ptr b2 1)]) rfl ?_
  refine y (y_load 0 ((.snd (.fst .here))) rfl rfl (by first | rfl | (simp only [Pth.off, T.size]; omega)) (ok_snd (ok_fst ok_here)) ty31) rfl ?_
  refine r_pure tabOk 1 [0, 1, 2, 11] (E' := [(0, ptr b2 0), (1, .one (.int .u32) a1), (2, .one (.int .i64) a2), (11, .one .bool (a0.2.1 != 0))]) rfl ?_
  refine r_nil ?_
  refine r_then ?_
  refine r_if (b := (a0.2.1 != 0)) rfl (fun hc => ?_) (fun hc => ?_)
  · rw [if_pos hc] at h
    refine r_ret ?_
    refine t_then ?_
    refine r_CWriter (x := a0) ?_
    obtain rfl := Option.some.inj h
    exact r_ret0 rfl (fun _ => tup_ok [] .nil) ((.cons_cons _ .slnil))
  · rw [if_neg (ne_true_of_eq_false hc)] at h
    refine r_skip ?_
    refine r_then ?_
    refine r_seq ?_
    refine r_region ?_
    refine r_pure tabOk 3 [0, 1, 6] (E' := [(0, ptr b2 0), (1, .one (.int .u32) a1), (6, .one (.int .i64) (IntKind.wrap .i64 (a2 - 1)))]) rfl ?_
    obtain ⟨i3, hi3, h⟩ := bnd_ex h
    rw [hi3]
    refine r_nil ?_
    refine r_then ?_
    obtain ⟨k4, hk4, h⟩ := bnd_ex h
    refine r_cutk (γ := Value) (fun (o5 : List (Int)) g6 => []) (fun (o5 : List (Int)) g6 => [Res.var b2 116 (.pair (.raw (.slice none 0 0)) (.pair (.int .i64) .unit)) (g6, a0.2.1, a0.2.2), Res.own g6 5 (.int .u8) o5]) k4 r ?_ ?_
    · refine r_block ?_
      refine r_less [0, 1, 6] rfl ?_
      refine r_loopg (γ := Value) (fun (s10 : Int × List (Int)) g11 => [(0, ptr b2 0), (1, .one (.int .u32) a1), (6, .one (.int .i64) s10.1)]) (fun (s10 : Int × List (Int)) g11 => [Res.var b2 116 (.pair (.raw (.slice none 0 0)) (.pair (.int .i64) .unit)) (g11, a0.2.1, a0.2.2), Res.own g11 5 (.int .u8) s10.2]) (cursor_lay_uint32_l0 a1 k4) (i3, a0.1) sv1 h rfl rfl ?_
      clear h
      intro m12 s10 g11 h
      cases m12 with
      | zero => cases h
      | succ m12 =>
      simp only [cursor_lay_uint32_l0] at h
      refine r_seq ?_
      refine r_seq ?_
      refine r_region ?_
      refine r_pure tabOk 2 [0, 1, 6, 15] (E' := [(0, ptr b2 0), (1, .one (.int .u32) a1), (6, .one (.int .i64) s10.1), (15, .one .bool (decide (s10.1 ≥ 0)))]) rfl ?_
      refine r_nil ?_
      refine r_then ?_
      refine r_if (b := (decide (s10.1 ≥ 0))) rfl (fun hc => ?_) (fun hc => ?_)
      · rw [if_pos hc] at h
        refine r_skip ?_
        refine r_then ?_
        refine r_seq ?_
        refine r_block ?_
        refine r_any (by kernel_rfl) ?_
        refine a_float (i := 0) (t := ptr b2 0) (blind_block (blind_then (blind_then (blind_block (blind_then blind_body))))) rfl (by kernel_rfl) (by kernel_rfl) (by kernel_rfl) (y_pure tabOk rfl) rfl ?_
        refine a_float (i := 1) (t := ptr b2 0) (blind_block (blind_then (blind_then (blind_block (blind_then blind_body))))) rfl (by kernel_rfl) (by kernel_rfl) (by kernel_rfl) (y_pure tabOk rfl) rfl ?_
        refine a_float (i := 5) (t := .one (.int .u32) a1) (blind_block (blind_then (blind_then (blind_block (blind_then blind_body))))) rfl (by kernel_rfl) (by kernel_rfl) (by kernel_rfl) (y_pure tabOk rfl) rfl ?_
        refine a_float (i := 6) (t := .one (.int .u64) (IntKind.wrap .u64 a1)) (blind_block (blind_then (blind_then (blind_block (blind_then blind_body))))) rfl (by kernel_rfl) (by kernel_rfl) (by kernel_rfl) (y_pure tabOk rfl) rfl ?_
        refine a_float (i := 7) (t := .one (.int .i64) s10.1) (blind_block (blind_then (blind_then (blind_block (blind_then blind_body))))) rfl (by kernel_rfl) (by kernel_rfl) (by kernel_rfl) (y_pure tabOk rfl) rfl ?_
        refine a_float (i := 8) (t := .one (.int .i64) (IntKind.wrap .i64 (8 * s10.1))) (blind_block (blind_then (blind_then (blind_block (blind_then blind_body))))) rfl (by kernel_rfl) (by kernel_rfl) (by kernel_rfl) (y_pure tabOk rfl) rfl ?_
        obtain ⟨hc, h⟩ := ite_ex h
        refine a_float (i := 9) (t := .one (.int .u64) (ishr .u64 (IntKind.wrap .u64 a1) (IntKind.wrap .i64 (8 * s10.1)))) (blind_block (blind_then (blind_then (blind_block (blind_then blind_body))))) rfl (by kernel_rfl) (by kernel_rfl) (by kernel_rfl) (y_shr rfl rfl hc) rfl ?_
        refine a_float (i := 10) (t := .one (.int .u8) (IntKind.wrap .u8 (ishr .u64 (IntKind.wrap .u64 a1) (IntKind.wrap .i64 (8 * s10.1))))) (blind_block (blind_then (blind_then (blind_block (blind_then blind_body))))) rfl (by kernel_rfl) (by kernel_rfl) (by kernel_rfl) (y_pure tabOk rfl) rfl ?_
        refine a_two (i := 2) (j := 11) (by kernel_rfl) rfl rfl ?_ ?_
        · refine r_pure tabOk 1 [0, 1, 6, 18, 20, 28] (E' := [(0, ptr b2 0), (1, .one (.int .u32) a1), (6, .one (.int .i64) s10.1), (18, ptr b2 0), (20, ptr b2 0), (28, .one (.int .u8) (IntKind.wrap .u8 (ishr .u64 (IntKind.wrap .u64 a1) (IntKind.wrap .i64 (8 * s10.1)))))]) rfl ?_
          refine r_nil ?_
          refine r_then ?_
          refine r_less [0, 1, 6, 18, 20, 28] rfl ?_
          refine a_float (i := 3) (t := ptr b2 0) (blind_block (blind_then (blind_then (blind_block (blind_then blind_body))))) rfl (by kernel_rfl) (by kernel_rfl) (by kernel_rfl) (y_pure tabOk rfl) rfl ?_
          refine a_two (i := 4) (j := 11) (by kernel_rfl) rfl rfl ?_ ?_
          · refine y (y_load 0 ((.fst .here)) rfl rfl (by first | rfl | (simp only [Pth.off, T.size]; omega)) (ok_fst ok_here) tx0) rfl ?_
            refine r_nil ?_
            refine r_then ?_
            refine r_less [0, 1, 6, 18, 22, 28] rfl ?_
            refine a_one (i := 11) (by kernel_rfl) rfl ?_
            refine r_lits (B := 1) tabOk rfl el5 rfl rfl rfl (.cons rfl .nil) rfl fun v13 => ?_
            refine r_nil ?_
            refine r_then ?_
            refine r_less [0, 1, 6, 18, 22, 29] rfl ?_
            refine a_one (i := 12) (by kernel_rfl) rfl ?_
            obtain ⟨hc, h⟩ := ite_ex h
            refine r_append (B := 1) tabOk 2 rfl rfl (src_own 0 rfl rfl) rfl el5 rfl rfl hc rfl fun v14 => ?_
            refine r_lose (L' := [Res.var b2 116 (.pair (.raw (.slice none 0 0)) (.pair (.int .i64) .unit)) (g11, a0.2.1, a0.2.2), Res.own v14 5 (.int .u8) (s10.2 ++ [(IntKind.wrap .u8 (ishr .u64 (IntKind.wrap .u64 a1) (IntKind.wrap .i64 (8 * s10.1))))])]) (.cons _ (.cons_cons _ (.cons_cons _ .slnil))) ?_
            refine r_nil ?_
            refine r_then ?_
            refine r_less [0, 1, 6, 18, 30] rfl ?_
            refine a_one (i := 13) (by kernel_rfl) rfl ?_
            refine r_pure tabOk 1 [0, 1, 6, 30, 31] (E' := [(0, ptr b2 0), (1, .one (.int .u32) a1), (6, .one (.int .i64) s10.1), (30, .one (.raw (.slice none 0 0)) v14), (31, ptr b2 0)]) rfl ?_
            refine r_nil ?_
            refine r_then ?_
            refine r_less [0, 1, 6, 30, 31] rfl ?_
            refine a_float (i := 14) (t := ptr b2 0) (blind_block (blind_then (blind_then (blind_block (blind_then blind_body))))) rfl (by kernel_rfl) (by kernel_rfl) (by kernel_rfl) (y_pure tabOk rfl) rfl ?_
            refine a_one (i := 15) (by kernel_rfl) rfl ?_
            refine r_store 0 ((.fst .here)) rfl rfl rfl (by first | rfl | (simp only [Pth.off, T.size]; omega)) (ok_fst ok_here) tx0 ?_
            refine r_nil ?_
            refine r_then ?_
            refine r_less [0, 1, 6] rfl ?_
            refine a_end (by kernel_rfl) ?_
            refine r_inblock ?_
            refine r_then ?_
            refine r_region ?_
            refine r_pure tabOk 3 [0, 1, 6] (E' := [(0, ptr b2 0), (1, .one (.int .u32) a1), (6, .one (.int .i64) (IntKind.wrap .i64 (s10.1 - 1)))]) rfl ?_
            obtain ⟨i15, hi15, h⟩ := bnd_ex h
            rw [hi15]
            refine r_nil ?_
            refine r_then ?_
            refine r_less [0, 1, 6] rfl ?_
            exact r_backg (i15, (s10.2 ++ [(IntKind.wrap .u8 (ishr .u64 (IntKind.wrap .u64 a1) (IntKind.wrap .i64 (8 * s10.1))))])) v14 (Nat.lt_succ_self _) h rfl rfl
          · refine r_lits (B := 1) tabOk rfl el5 rfl rfl rfl (.cons rfl .nil) rfl fun v13 => ?_
            refine r_nil ?_
            refine r_then ?_
            refine r_less [0, 1, 6, 18, 21, 29] rfl ?_
            refine a_one (i := 4) (by kernel_rfl) rfl ?_
            refine y (y_load 1 ((.fst .here)) rfl rfl (by first | rfl | (simp only [Pth.off, T.size]; omega)) (ok_fst ok_here) tx0) rfl ?_
            refine r_nil ?_
            refine r_then ?_
            refine r_less [0, 1, 6, 18, 22, 29] rfl ?_
            refine a_one (i := 12) (by kernel_rfl) rfl ?_
            obtain ⟨hc, h⟩ := ite_ex h
            refine r_append (B := 1) tabOk 2 rfl rfl (src_own 0 rfl rfl) rfl el5 rfl rfl hc rfl fun v14 => ?_
            refine r_lose (L' := [Res.var b2 116 (.pair (.raw (.slice none 0 0)) (.pair (.int .i64) .unit)) (g11, a0.2.1, a0.2.2), Res.own v14 5 (.int .u8) (s10.2 ++ [(IntKind.wrap .u8 (ishr .u64 (IntKind.wrap .u64 a1) (IntKind.wrap .i64 (8 * s10.1))))])]) (.cons _ (.cons_cons _ (.cons_cons _ .slnil))) ?_
            refine r_nil ?_
            refine r_then ?_
            refine r_less [0, 1, 6, 18, 30] rfl ?_
            refine a_one (i := 13) (by kernel_rfl) rfl ?_
            refine r_pure tabOk 1 [0, 1, 6, 30, 31] (E' := [(0, ptr b2 0), (1, .one (.int .u32) a1), (6, .one (.int .i64) s10.1), (30, .one (.raw (.slice none 0 0)) v14), (31, ptr b2 0)]) rfl ?_
            refine r_nil ?_
            refine r_then ?_
            refine r_less [0, 1, 6, 30, 31] rfl ?_
            refine a_float (i := 14) (t := ptr b2 0) (blind_block (blind_then (blind_then (blind_block (blind_then blind_body))))) rfl (by kernel_rfl) (by kernel_rfl) (by kernel_rfl) (y_pure tabOk rfl) rfl ?_
            refine a_one (i := 15) (by kernel_rfl) rfl ?_
            refine r_store 0 ((.fst .here)) rfl rfl rfl (by first | rfl | (simp only [Pth.off, T.size]; omega)) (ok_fst ok_here) tx0 ?_
            refine r_nil ?_
            refine r_then ?_
            refine r_less [0, 1, 6] rfl ?_
            refine a_end (by kernel_rfl) ?_
            refine r_inblock ?_
            refine r_then ?_
            refine r_region ?_
            refine r_pure tabOk 3 [0, 1, 6] (E' := [(0, ptr b2 0), (1, .one (.int .u32) a1), (6, .one (.int .i64) (IntKind.wrap .i64 (s10.1 - 1)))]) rfl ?_
            obtain ⟨i15, hi15, h⟩ := bnd_ex h
            rw [hi15]
            refine r_nil ?_
            refine r_then ?_
            refine r_less [0, 1, 6] rfl ?_
            exact r_backg (i15, (s10.2 ++ [(IntKind.wrap .u8 (ishr .u64 (IntKind.wrap .u64 a1) (IntKind.wrap .i64 (8 * s10.1))))])) v14 (Nat.lt_succ_self _) h rfl rfl
        · refine r_lits (B := 1) tabOk rfl el5 rfl rfl rfl (.cons rfl .nil) rfl fun v13 => ?_
          refine r_nil ?_
          refine r_then ?_
          refine r_less [0, 1, 6, 18, 19, 29] rfl ?_
          refine a_one (i := 2) (by kernel_rfl) rfl ?_
          refine r_pure tabOk 1 [0, 1, 6, 18, 20, 29] (E' := [(0, ptr b2 0), (1, .one (.int .u32) a1), (6, .one (.int .i64) s10.1), (18, ptr b2 0), (20, ptr b2 0), (29, .one (.raw (.slice none 0 0)) v13)]) rfl ?_
          refine r_nil ?_
          refine r_then ?_
          refine r_less [0, 1, 6, 18, 20, 29] rfl ?_
          refine a_float (i := 3) (t := ptr b2 0) (blind_block (blind_then (blind_then (blind_block (blind_then blind_body))))) rfl (by kernel_rfl) (by kernel_rfl) (by kernel_rfl) (y_pure tabOk rfl) rfl ?_
          refine a_one (i := 4) (by kernel_rfl) rfl ?_
          refine y (y_load 1 ((.fst .here)) rfl rfl (by first | rfl | (simp only [Pth.off, T.size]; omega)) (ok_fst ok_here) tx0) rfl ?_
          refine r_nil ?_
          refine r_then ?_
          refine r_less [0, 1, 6, 18, 22, 29] rfl ?_
          refine a_one (i := 12) (by kernel_rfl) rfl ?_
          obtain ⟨hc, h⟩ := ite_ex h
          refine r_append (B := 1) tabOk 2 rfl rfl (src_own 0 rfl rfl) rfl el5 rfl rfl hc rfl fun v14 => ?_
          refine r_lose (L' := [Res.var b2 116 (.pair (.raw (.slice none 0 0)) (.pair (.int .i64) .unit)) (g11, a0.2.1, a0.2.2), Res.own v14 5 (.int .u8) (s10.2 ++ [(IntKind.wrap .u8 (ishr .u64 (IntKind.wrap .u64 a1) (IntKind.wrap .i64 (8 * s10.1))))])]) (.cons _ (.cons_cons _ (.cons_cons _ .slnil))) ?_
          refine r_nil ?_
          refine r_then ?_
          refine r_less [0, 1, 6, 18, 30] rfl ?_
          refine a_one (i := 13) (by kernel_rfl) rfl ?_
          refine r_pure tabOk 1 [0, 1, 6, 30, 31] (E' := [(0, ptr b2 0), (1, .one (.int .u32) a1), (6, .one (.int .i64) s10.1), (30, .one (.raw (.slice none 0 0)) v14), (31, ptr b2 0)]) rfl ?_
          refine r_nil ?_
          refine r_then ?_
          refine r_less [0, 1, 6, 30, 31] rfl ?_
          refine a_float (i := 14) (t := ptr b2 0) (blind_block (blind_then (blind_then (blind_block (blind_then blind_body))))) rfl (by kernel_rfl) (by kernel_rfl) (by kernel_rfl) (y_pure tabOk rfl) rfl ?_
          refine a_one (i := 15) (by kernel_rfl) rfl ?_
          refine r_store 0 ((.fst .here)) rfl rfl rfl (by first | rfl | (simp only [Pth.off, T.size]; omega)) (ok_fst ok_here) tx0 ?_
          refine r_nil ?_
          refine r_then ?_
          refine r_less [0, 1, 6] rfl ?_
          refine a_end (by kernel_rfl) ?_
          refine r_inblock ?_
          refine r_then ?_
          refine r_region ?_
          refine r_pure tabOk 3 [0, 1, 6] (E' := [(0, ptr b2 0), (1, .one (.int .u32) a1), (6, .one (.int .i64) (IntKind.wrap .i64 (s10.1 - 1)))]) rfl ?_
          obtain ⟨i15, hi15, h⟩ := bnd_ex h
          rw [hi15]
          refine r_nil ?_
          refine r_then ?_
          refine r_less [0, 1, 6] rfl ?_
          exact r_backg (i15, (s10.2 ++ [(IntKind.wrap .u8 (ishr .u64 (IntKind.wrap .u64 a1) (IntKind.wrap .i64 (8 * s10.1))))])) v14 (Nat.lt_succ_self _) h rfl rfl
      · rw [if_neg (ne_true_of_eq_false hc)] at h
        refine r_exit ?_
        refine e_then ?_
        refine e_then ?_
        refine e_eq ?_
        refine r_then ?_
        refine r_less [] rfl ?_
        exact r_meetk s10.2 g11 h rfl rfl
    · intro o5 g6 h
      rw [← hk4] at h
      try dsimp only at h
      refine r_CWriter (x := (o5, a0.2.1, a0.2.2)) ?_
      obtain rfl := Option.some.inj h
      exact r_end0 rfl (fun _ => tup_ok [] .nil) ((.cons_cons _ .slnil))

theorem cursor_Writer_U32_ok (p0 : Value) (a0 : List (Int) × Int × Unit) (a1 : Int) (r : (List (Int) × Int × Unit)) (h : cursor_Writer_U32 a0 a1 = some r) : Fn Tryz.prog 45 [.one (.raw (.pointer none)) p0, .one (.int .u32) a1] [Res.cls CWriter p0 a0] (fun _ => .tup []) (fun _ => [Res.cls CWriter p0 r]) := by
  unfold cursor_Writer_U32 at h
  refine enter Tryz.func45 rfl 7 rfl rfl fun F => ?_
  refine r_region ?_
  refine r_pure tabOk 2 [4, 5] (E' := [(4, .one (.raw (.pointer none)) p0), (5, .one (.int .u32) a1)]) rfl ?_
  obtain ⟨r1, hr1, h⟩ := bind_ex h
  refine r_call (Lo := []) (cursor_lay_uint32_ok p0 a0 a1 4 _ hr1) (by kernel_rfl) (List.Perm.refl _) rfl rfl fun _ => ?_
  refine r_nil ?_
  obtain rfl := Option.some.inj h
  exact r_end0 rfl (fun _ => tup_ok [] .nil) ((.cons_cons _ .slnil))

theorem strings_Repeat_ok (a0 : List Int) (a1 : Int) (r : List Int) (h : strings_Repeat a0 a1 = some r) : Pure Tryz.prog 34 [.one .str a0, .one (.int .i64) a1] (.one .str r) := repeat_pure Go.Proofs.Tryz.strings_Repeat a0 a1 r h

theorem mark_slot_ok (a0 : Int) (r : List Int) (h : mark_slot a0 = some r) : Pure Tryz.prog 30 [.one (.int .i64) a0] (.one .str r) := by
  unfold mark_slot at h
  refine enter Tryz.func30 rfl 27 rfl rfl fun F => ?_
  refine r_seq ?_
  refine r_region ?_
  refine r_pure tabOk 1 [0] (E' := [(0, .one (.int .i64) a0)]) rfl ?_
  refine r_nil ?_
  refine r_then ?_
  refine r_seq ?_
  refine r_region ?_
  obtain ⟨r1, hr1, h⟩ := bind_ex h
  refine r_call (Lo := []) (cursor_New_ok  _ hr1) (by kernel_rfl) (List.Perm.refl _) rfl rfl fun v2 => ?_
  refine r_pure tabOk 1 [0, 3] (E' := [(0, .one (.int .i64) a0), (3, .one (.raw (.pointer none)) v2)]) rfl ?_
  refine r_nil ?_
  refine r_then ?_
  refine r_seq ?_
  refine r_region ?_
  refine r_pure tabOk 2 [3, 7, 8] (E' := [(3, .one (.raw (.pointer none)) v2), (7, .one (.raw (.pointer none)) v2), (8, .one (.int .i64) a0)]) rfl ?_
  obtain ⟨r3, hr3, h⟩ := bind_ex h
  refine r_call (Lo := []) (cursor_Writer_I64_ok v2 r1 a0 _ hr3) (by kernel_rfl) (List.Perm.refl _) rfl rfl fun _ => ?_
  refine r_nil ?_
  refine r_then ?_
  refine r_seq ?_
  refine r_region ?_
  refine r_pure tabOk 1 [3, 11] (E' := [(3, .one (.raw (.pointer none)) v2), (11, .one (.raw (.pointer none)) v2)]) rfl ?_
  obtain ⟨r4, hr4, h⟩ := bind_ex h
  refine r_call (Lo := []) (cursor_Writer_Out_ok v2 r3 _ hr4) (by kernel_rfl) (List.Perm.refl _) rfl rfl fun _ => ?_
  refine r_pure tabOk 5 [3, 4] (E' := [(3, .one (.raw (.pointer none)) v2), (4, .one .str r4.1)]) rfl ?_
  refine r_nil ?_
  refine r_then ?_
  refine r_seq ?_
  refine r_region ?_
  refine r_pure tabOk 2 [3, 15, 16] (E' := [(3, .one (.raw (.pointer none)) v2), (15, .one (.raw (.pointer none)) v2), (16, .one .str r4.1)]) rfl ?_
  obtain ⟨r5, hr5, h⟩ := bind_ex h
  refine r_calls (crc_Sum_ok r4.1 _ hr5) (by kernel_rfl) rfl rfl ?_
  obtain ⟨r6, hr6, h⟩ := bind_ex h
  refine r_call (Lo := []) (cursor_Writer_U32_ok v2 r3 r5 _ hr6) (by kernel_rfl) (List.Perm.refl _) rfl rfl fun _ => ?_
  refine r_nil ?_
  refine r_then ?_
  refine r_seq ?_
  refine r_region ?_
  refine r_pure tabOk 1 [20] (E' := [(20, .one (.raw (.pointer none)) v2)]) rfl ?_
  obtain ⟨r7, hr7, h⟩ := bind_ex h
  refine r_call (Lo := []) (cursor_Writer_Out_ok v2 r6 _ hr7) (by kernel_rfl) (List.Perm.refl _) rfl rfl fun _ => ?_
  refine r_pure tabOk 4 [4] (E' := [(4, .one .str r7.1)]) rfl ?_
  refine r_nil ?_
  refine r_then ?_
  refine r_seq ?_
  refine r_region ?_
  refine r_pure tabOk 1 [24] (E' := [(24, .one .str r7.1)]) rfl ?_
  obtain ⟨r8, hr8, h⟩ := bind_ex h
  refine r_calls (strings_Repeat_ok [0] 52 _ hr8) (by kernel_rfl) rfl rfl ?_
  obtain ⟨hc, h⟩ := ite_ex h
  refine y (y_cat rfl rfl hc) rfl ?_
  refine r_pure tabOk 1 [2] (E' := [(2, .one .str (r7.1 ++ r8))]) rfl ?_
  refine r_nil ?_
  refine r_then ?_
  refine r_ret ?_
  obtain rfl := Option.some.inj h
  exact r_ret1 rfl (.tmp rfl) (fun _ _ g => g) (fun _ _ _ => List.nil_sublist _)

theorem disk_isName_ok (a0 : List Int) (r : Bool) (h : disk_isName a0 = some r) : Pure Tryz.prog 20 [.one .str a0] (.one .bool r) := by
  unfold disk_isName at h
  refine enter Tryz.func20 rfl 27 rfl rfl fun F => ?_
  refine r_seq ?_
  refine r_region ?_
  refine r_pure tabOk 1 [0] (E' := [(0, .one .str a0)]) rfl ?_
  refine r_nil ?_
  refine r_then ?_
  obtain ⟨k1, hk1, h⟩ := bnd_ex h
  refine r_joink (γ := Unit) (fun (o2 : Unit) _ => [(0, .one .str a0)]) (fun (o2 : Unit) _ => []) k1 r ?_ ?_
  · refine r_seq ?_
    refine r_region ?_
    refine r_pure tabOk 3 [0, 5, 6] (E' := [(0, .one .str a0), (5, .one (.int .i64) (List.length a0 : Int)), (6, .one (.int .i64) 0)]) rfl ?_
    refine r_nil ?_
    refine r_then ?_
    refine r_block ?_
    refine r_less [0, 5, 6] rfl ?_
    refine r_loopg (γ := Unit) (fun (s5 : Int) _ => [(0, .one .str a0), (5, .one (.int .i64) (List.length a0 : Int)), (6, .one (.int .i64) s5)]) (fun (s5 : Int) _ => []) (disk_isName_l0 a0 k1) 0 () h rfl rfl ?_
    clear h
    intro m6 s5 gg h
    cases m6 with
    | zero => cases h
    | succ m6 =>
    simp only [disk_isName_l0] at h
    refine r_seq ?_
    refine r_region ?_
    refine r_pure tabOk 1 [0, 5, 6, 7] (E' := [(0, .one .str a0), (5, .one (.int .i64) (List.length a0 : Int)), (6, .one (.int .i64) s5), (7, .one .bool (decide (s5 < (List.length a0 : Int))))]) rfl ?_
    refine r_nil ?_
    refine r_then ?_
    refine r_seq ?_
    refine r_if (b := (decide (s5 < (List.length a0 : Int)))) rfl (fun hc => ?_) (fun hc => ?_)
    · rw [if_pos hc] at h
      refine r_skip ?_
      refine r_then ?_
      refine r_seq ?_
      refine r_block ?_
      refine r_seq ?_
      refine r_region ?_
      refine r_pure tabOk 2 [0, 3, 5, 6] (E' := [(0, .one .str a0), (3, .one (.int .i64) s5), (5, .one (.int .i64) (List.length a0 : Int)), (6, .one (.int .i64) s5)]) rfl ?_
      refine r_nil ?_
      refine r_then ?_
      refine r_seq ?_
      refine r_region ?_
      refine r_pure tabOk 2 [0, 3, 5, 6, 9, 10] (E' := [(0, .one .str a0), (3, .one (.int .i64) s5), (5, .one (.int .i64) (List.length a0 : Int)), (6, .one (.int .i64) s5), (9, .one .str a0), (10, .one (.int .i64) s5)]) rfl ?_
      obtain ⟨hc, h⟩ := ite_ex h
      refine y (y_byte tabOk rfl rfl hc.1 hc.2 rfl) rfl ?_
      refine r_pure tabOk 2 [0, 3, 5, 6, 13] (E' := [(0, .one .str a0), (3, .one (.int .i64) s5), (5, .one (.int .i64) (List.length a0 : Int)), (6, .one (.int .i64) s5), (13, .one .bool (decide ((List.getD a0 (Int.toNat s5) 0) < 33)))]) rfl ?_
      obtain ⟨b7, hbb7, h⟩ := bnd_ex h
      rw [hbb7]
      obtain ⟨k8, hk8, h⟩ := bnd_ex h
      refine r_lsplitk (γ := Unit) 5 (fun (o9 : Bool) _ => [(0, .one .str a0), (5, .one (.int .i64) (List.length a0 : Int)), (6, .one (.int .i64) s5), (18, .one .bool o9)]) (fun _ _ => []) k8 r ?_ ?_
      · rcases Bool.eq_false_or_eq_true b7 with hh | hh
        · rw [hh] at h ⊢
          rw [if_pos rfl] at h
          refine r_pure tabOk 5 [0, 5, 6, 18] (E' := [(0, .one .str a0), (5, .one (.int .i64) (List.length a0 : Int)), (6, .one (.int .i64) s5), (18, .one .bool true)]) rfl ?_
          refine r_nil ?_
          refine r_less [0, 5, 6, 18] rfl ?_
          refine r_then ?_
          exact r_meetk true () h rfl rfl
        · rw [hh] at h ⊢
          rw [if_neg (by decide)] at h
          refine r_pure tabOk 2 [0, 5, 6, 13, 14, 15] (E' := [(0, .one .str a0), (5, .one (.int .i64) (List.length a0 : Int)), (6, .one (.int .i64) s5), (13, .one .bool false), (14, .one .str a0), (15, .one (.int .i64) s5)]) rfl ?_
          refine r_guard (by rfl) rfl ?_
          obtain ⟨hc, h⟩ := ite_ex h
          refine y (y_byte tabOk rfl rfl hc.1 hc.2 rfl) rfl ?_
          refine r_pure tabOk 2 [0, 5, 6, 18] (E' := [(0, .one .str a0), (5, .one (.int .i64) (List.length a0 : Int)), (6, .one (.int .i64) s5), (18, .one .bool (decide ((List.getD a0 (Int.toNat s5) 0) > 126)))]) rfl ?_
          refine r_nil ?_
          refine r_less [0, 5, 6, 18] rfl ?_
          refine r_then ?_
          exact r_meetk (decide ((List.getD a0 (Int.toNat s5) 0) > 126)) () h rfl rfl
      · intro o9 _ h
        rw [← hk8] at h
        try dsimp only at h
        refine r_nil ?_
        refine r_then ?_
        refine r_if (b := o9) rfl (fun hc => ?_) (fun hc => ?_)
        · rw [if_pos hc] at h
          refine r_seq ?_
          refine r_region ?_
          refine r_pure tabOk 1 [2] (E' := [(2, .one .bool false)]) rfl ?_
          refine r_nil ?_
          refine r_then ?_
          refine r_ret ?_
          refine t_block ?_
          refine t_then ?_
          refine t_then ?_
          refine t_block ?_
          refine t_then ?_
          obtain rfl := Option.some.inj h
          exact r_ret1 rfl (.tmp rfl) (fun _ _ g => g) (fun _ _ _ => List.nil_sublist _)
        · rw [if_neg (ne_true_of_eq_false hc)] at h
          refine r_skip ?_
          refine r_inblock ?_
          refine r_then ?_
          refine r_region ?_
          refine r_pure tabOk 2 [0, 5, 6] (E' := [(0, .one .str a0), (5, .one (.int .i64) (List.length a0 : Int)), (6, .one (.int .i64) (IntKind.wrap .i64 (s5 + 1)))]) rfl ?_
          refine r_nil ?_
          refine r_then ?_
          refine r_less [0, 5, 6] rfl ?_
          exact r_backg (IntKind.wrap .i64 (s5 + 1)) () (Nat.lt_succ_self _) h rfl rfl
    · rw [if_neg (ne_true_of_eq_false hc)] at h
      refine r_exit ?_
      refine e_then ?_
      refine e_then ?_
      refine e_eq ?_
      refine r_then ?_
      refine r_less [0] rfl ?_
      exact r_meetk () () h rfl rfl
  · intro o2 gg h
    rw [← hk1] at h
    try dsimp only at h
    refine r_seq ?_
    refine r_region ?_
    refine r_pure tabOk 3 [0, 22] (E' := [(0, .one .str a0), (22, .one .bool (a0 != []))]) rfl ?_
    obtain ⟨b3, hbb3, h⟩ := bnd_ex h
    rw [hbb3]
    refine r_lsplit (γ := Unit) 4 (fun _ => [(26, .one .bool (b3 && (decide ((List.length a0 : Int) ≤ 32))))]) (fun _ => []) ?_ (fun _ => ?_)
    · clear h
      cases b3 with
      | true =>
      refine r_pure tabOk 4 [26] (E' := [(26, .one .bool (decide ((List.length a0 : Int) ≤ 32)))]) rfl ?_
      refine r_nil ?_
      refine r_then ?_
      exact r_meetg () rfl rfl
      | false =>
      refine r_pure tabOk 4 [26] (E' := [(26, .one .bool false)]) rfl ?_
      refine r_nil ?_
      refine r_then ?_
      exact r_meetg () rfl rfl
    refine r_pure tabOk 1 [2] (E' := [(2, .one .bool (b3 && (decide ((List.length a0 : Int) ≤ 32))))]) rfl ?_
    refine r_nil ?_
    refine r_then ?_
    refine r_ret ?_
    obtain rfl := Option.some.inj h
    exact r_ret1 rfl (.tmp rfl) (fun _ _ g => g) (fun _ _ _ => List.nil_sublist _)

theorem disk_Disk_Used_ok (b0 : Nat) (mv0 : Value) (nm0 : List Int) (q0 : Value) (a0 : DiskS) (r : Int) (h : disk_Disk_Used a0 = some r) : Fn Tryz.prog 21 [ptr b0 0] [Res.var b0 56 DT (a0.1, mv0, a0.2.2.1, a0.2.2.2.1, a0.2.2.2.2.1, a0.2.2.2.2.2.1, a0.2.2.2.2.2.2, ()), Res.dat Tryz.prog dI mv0 a0.2.1 nm0 q0] (fun _ => .one (.int .i64) r) (fun _ => [Res.var b0 56 DT (a0.1, mv0, a0.2.2.1, a0.2.2.2.1, a0.2.2.2.2.1, a0.2.2.2.2.2.1, a0.2.2.2.2.2.2, ()), Res.dat Tryz.prog dI mv0 a0.2.1 nm0 q0]) := by
  unfold disk_Disk_Used at h
  refine enter Tryz.func21 rfl 23 rfl rfl fun F => ?_
  refine r_seq ?_
  refine r_region ?_
  refine r_pure tabOk 1 [0] (E' := [(0, ptr b0 0)]) rfl ?_
  refine r_nil ?_
  refine r_then ?_
  refine r_seq ?_
  refine r_region ?_
  refine r_pure tabOk 1 [0, 3] (E' := [(0, ptr b0 0), (3, .one (.int .i64) 0)]) rfl ?_
  refine r_nil ?_
  refine r_then ?_
  obtain ⟨k1, hk1, h⟩ := bnd_ex h
  refine r_joink (γ := Unit) (fun (o2 : Int) _ => [(3, .one (.int .i64) o2)]) (fun (o2 : Int) _ => [Res.dat Tryz.prog dI mv0 a0.2.1 nm0 q0, Res.var b0 56 DT (a0.1, mv0, a0.2.2.1, a0.2.2.2.1, a0.2.2.2.2.1, a0.2.2.2.2.2.1, a0.2.2.2.2.2.2, ())]) k1 r ?_ ?_
  · refine r_seq ?_
    refine r_region ?_
    refine r_pure tabOk 3 [3, 8] (E' := [(3, .one (.int .i64) 0), (8, ptr b0 1)]) rfl ?_
    refine y (y_load 0 ((.snd (.fst .here))) rfl rfl (by first | rfl | (simp only [Pth.off, T.size]; omega)) (ok_snd (ok_fst ok_here)) ty54) rfl ?_
    refine r_perm (L' := [Res.dat Tryz.prog dI mv0 a0.2.1 nm0 q0, Res.var b0 56 DT (a0.1, mv0, a0.2.2.1, a0.2.2.2.1, a0.2.2.2.2.1, a0.2.2.2.2.2.1, a0.2.2.2.2.2.2, ())]) ((List.perm_middle (a := Res.dat Tryz.prog dI mv0 a0.2.1 nm0 q0) (l₁ := [Res.var b0 56 DT (a0.1, mv0, a0.2.2.1, a0.2.2.2.1, a0.2.2.2.2.1, a0.2.2.2.2.2.1, a0.2.2.2.2.2.2, ())]) (l₂ := [])).trans (.cons _ (List.Perm.refl _))) ?_
    refine r_drangeq kstr rfl Tryz.underlying54 rfl fun it3 hn4 => ?_
    refine r_nil ?_
    refine r_then ?_
    refine r_block ?_
    obtain ⟨rr, hall, h⟩ := bind_ex h
    refine r_less [3, 10] rfl ?_
    refine r_rangeloop (step := disk_Disk_Used_l0 a0) (fun _ _ => True) (comm_disk_Disk_Used_l0 a0) hn4 trivial hall (γ := Unit) (fun (s6 : Int) _ => [(3, .one (.int .i64) s6), (10, .one (.raw (.pointer none)) it3)]) (fun todo8 (s6 : Int) _ => [Res.diter Tryz.prog dI mv0 it3 a0.2.1 todo8 none (some (nm0, q0)), Res.var b0 56 DT (a0.1, mv0, a0.2.2.1, a0.2.2.2.1, a0.2.2.2.2.1, a0.2.2.2.2.2.1, a0.2.2.2.2.2.2, ())]) () rfl rfl fun todo8 s6 gg hend hone => ?_
    refine r_seq ?_
    refine r_region ?_
    refine r_dnext kstr rfl rfl (fun ht => ?_) (fun A9 k10 B11 q12 htk10 hk => ?_)
    · obtain rfl := hend ht
      refine r_dunrangeq ?_
      refine r_pure tabOk 1 [3, 12] (E' := [(3, .one (.int .i64) s6), (12, .one .bool false)]) rfl ?_
      refine r_nil ?_
      refine r_then ?_
      refine r_seq ?_
      refine r_if (b := false) rfl (fun hc => ?_) (fun hc => ?_)
      · cases hc
      · refine r_exit ?_
        refine e_then ?_
        refine e_then ?_
        refine e_eq ?_
        refine r_then ?_
        refine r_less [3] rfl ?_
        exact r_meetk s6 () h rfl rfl
    · obtain ⟨sk10, hsk10⟩ := hone A9 k10 B11 htk10
      clear h
      have h := hsk10
      unfold disk_Disk_Used_l0 at h
      refine r_pure tabOk 1 [3, 10, 12] (E' := [(3, .one (.int .i64) s6), (10, .one (.raw (.pointer none)) it3), (12, .one .bool true)]) rfl ?_
      refine r_nil ?_
      refine r_then ?_
      refine r_seq ?_
      refine r_if (b := true) rfl (fun hc => ?_) (fun hc => ?_)
      · refine r_skip ?_
        refine r_then ?_
        refine r_block ?_
        refine r_seq ?_
        refine r_region ?_
        refine y (y_dentry rfl 0 rfl) rfl ?_
        refine r_pure tabOk 2 [3, 5, 10] (E' := [(3, .one (.int .i64) s6), (5, .one (.raw (.pointer none)) q12), (10, .one (.raw (.pointer none)) it3)]) rfl ?_
        refine r_nil ?_
        refine r_then ?_
        obtain ⟨f14, hf14, h⟩ := bind_ex h
        refine r_difocus hf14 fun fb15 sv16 tv17 dv18 hq => ?_
        rw [hq]
        clear hq
        refine r_region ?_
        refine r_pure tabOk 4 [10, 15, 18] (E' := [(10, .one (.raw (.pointer none)) it3), (15, .one (.int .i64) s6), (18, ptr fb15 0)]) rfl ?_
        refine y (y_load 0 ((.fst .here)) rfl rfl (by first | rfl | (simp only [Pth.off, T.size]; omega)) (ok_fst ok_here) tx0) rfl ?_
        refine y (y_lenown tabOk 1 rfl rfl rfl) rfl ?_
        refine r_pure tabOk 2 [3, 10] (E' := [(3, .one (.int .i64) (IntKind.wrap .i64 (s6 + (List.length f14.1 : Int)))), (10, .one (.raw (.pointer none)) it3)]) rfl ?_
        obtain ⟨n19, hn19, h⟩ := bnd_ex h
        rw [hn19]
        refine r_nil ?_
        refine r_inblock ?_
        refine r_then ?_
        refine r_diunfocus_same (P := Tryz.prog) (I := dI) hf14 ?_
        refine r_imp_at (R' := Res.diter Tryz.prog dI mv0 it3 a0.2.1 (A9 ++ B11) none (some (nm0, q0))) 0 rfl diter_none ?_
        refine r_less [3, 10] rfl ?_
        obtain rfl := Option.some.inj h
        exact r_backR () htk10 hsk10 rfl rfl
      · cases hc
  · intro o2 gg h
    rw [← hk1] at h
    try dsimp only at h
    refine r_seq ?_
    refine r_region ?_
    refine r_pure tabOk 2 [2] (E' := [(2, .one (.int .i64) o2)]) rfl ?_
    refine r_nil ?_
    refine r_then ?_
    refine r_ret ?_
    obtain rfl := Option.some.inj h
    refine r_perm (L' := [Res.var b0 56 DT (a0.1, mv0, a0.2.2.1, a0.2.2.2.1, a0.2.2.2.2.1, a0.2.2.2.2.2.1, a0.2.2.2.2.2.2, ()), Res.dat Tryz.prog dI mv0 a0.2.1 nm0 q0]) ((List.perm_middle (a := Res.var b0 56 DT (a0.1, mv0, a0.2.2.1, a0.2.2.2.1, a0.2.2.2.2.1, a0.2.2.2.2.2.1, a0.2.2.2.2.2.2, ())) (l₁ := [Res.dat Tryz.prog dI mv0 a0.2.1 nm0 q0]) (l₂ := [])).trans (.cons _ (List.Perm.refl _))) ?_
    exact r_ret1 rfl (.tmp rfl) (fun _ _ g => g) (fun _ _ _ => (.cons_cons _ (.cons_cons _ .slnil)))

theorem disk_Disk_counted_ok (b0 : Nat) (mv0 : Value) (a0 : DiskS) (a1 : Int) (r : Int × DiskS) (h : disk_Disk_counted a0 a1 = some r) : Fn Tryz.prog 22 [ptr b0 0, .one (.int .i64) a1] [Res.var b0 56 DT (a0.1, mv0, a0.2.2.1, a0.2.2.2.1, a0.2.2.2.2.1, a0.2.2.2.2.2.1, a0.2.2.2.2.2.2, ())] (fun _ => .one (.int .i64) r.1) (fun _ => [Res.var b0 56 DT (r.2.1, mv0, r.2.2.2.1, r.2.2.2.2.1, r.2.2.2.2.2.1, r.2.2.2.2.2.2.1, r.2.2.2.2.2.2.2, ())]) := by
  unfold disk_Disk_counted at h
  refine enter Tryz.func22 rfl 60 rfl rfl fun F => ?_
  refine r_seq ?_
  refine r_region ?_
  refine r_pure tabOk 1 [0, 1] (E' := [(0, ptr b0 0), (1, .one (.int .i64) a1)]) rfl ?_
  refine r_nil ?_
  refine r_then ?_
  obtain ⟨k1, hk1, h⟩ := bnd_ex h
  refine r_joink (γ := Unit) (fun (o2 : DiskS) _ => [(0, ptr b0 0), (1, .one (.int .i64) a1)]) (fun (o2 : DiskS) _ => [Res.var b0 56 DT (o2.1, mv0, o2.2.2.1, o2.2.2.2.1, o2.2.2.2.2.1, o2.2.2.2.2.2.1, o2.2.2.2.2.2.2, ())]) k1 r ?_ ?_
  · refine r_seq ?_
    refine r_region ?_
    refine r_pure tabOk 3 [0, 1, 7] (E' := [(0, ptr b0 0), (1, .one (.int .i64) a1), (7, ptr b0 4)]) rfl ?_
    refine y (y_load 0 ((.snd (.snd (.snd (.snd (.fst .here)))))) rfl rfl (by first | rfl | (simp only [Pth.off, T.size]; omega)) (ok_snd (ok_snd (ok_snd (ok_snd (ok_fst ok_here))))) ty3) rfl ?_
    refine r_pure tabOk 1 [0, 1, 9] (E' := [(0, ptr b0 0), (1, .one (.int .i64) a1), (9, .one .bool (decide (a0.2.2.2.2.1 > 0)))]) rfl ?_
    refine r_nil ?_
    refine r_then ?_
    refine r_if (b := (decide (a0.2.2.2.2.1 > 0))) rfl (fun hc => ?_) (fun hc => ?_)
    · rw [if_pos hc] at h
      refine r_seq ?_
      refine r_region ?_
      refine r_pure tabOk 3 [0, 1, 10, 12] (E' := [(0, ptr b0 0), (1, .one (.int .i64) a1), (10, ptr b0 0), (12, ptr b0 4)]) rfl ?_
      refine y (y_load 0 ((.snd (.snd (.snd (.snd (.fst .here)))))) rfl rfl (by first | rfl | (simp only [Pth.off, T.size]; omega)) (ok_snd (ok_snd (ok_snd (ok_snd (ok_fst ok_here))))) ty3) rfl ?_
      refine r_pure tabOk 3 [0, 1, 14, 16] (E' := [(0, ptr b0 0), (1, .one (.int .i64) a1), (14, .one (.int .i64) (IntKind.wrap .i64 (a0.2.2.2.2.1 - 1))), (16, ptr b0 4)]) rfl ?_
      refine r_store 0 ((.snd (.snd (.snd (.snd (.fst .here)))))) rfl rfl rfl (by first | rfl | (simp only [Pth.off, T.size]; omega)) (ok_snd (ok_snd (ok_snd (ok_snd (ok_fst ok_here))))) ty3 ?_
      refine r_nil ?_
      refine r_then ?_
      refine r_seq ?_
      refine r_region ?_
      refine r_pure tabOk 3 [0, 1, 19] (E' := [(0, ptr b0 0), (1, .one (.int .i64) a1), (19, ptr b0 4)]) rfl ?_
      refine y (y_load 0 ((.snd (.snd (.snd (.snd (.fst .here)))))) rfl rfl (by first | rfl | (simp only [Pth.off, T.size]; omega)) (ok_snd (ok_snd (ok_snd (ok_snd (ok_fst ok_here))))) ty3) rfl ?_
      refine r_pure tabOk 1 [0, 1, 21] (E' := [(0, ptr b0 0), (1, .one (.int .i64) a1), (21, .one .bool ((IntKind.wrap .i64 (a0.2.2.2.2.1 - 1)) == 0))]) rfl ?_
      refine r_nil ?_
      refine r_then ?_
      refine r_if (b := ((IntKind.wrap .i64 (a0.2.2.2.2.1 - 1)) == 0)) rfl (fun hc => ?_) (fun hc => ?_)
      · rw [if_pos hc] at h
        refine r_seq ?_
        refine r_region ?_
        refine r_pure tabOk 4 [23, 25] (E' := [(23, ptr b0 0), (25, ptr b0 5)]) rfl ?_
        refine r_store 0 ((.snd (.snd (.snd (.snd (.snd (.fst .here))))))) rfl rfl rfl (by first | rfl | (simp only [Pth.off, T.size]; omega)) (ok_snd (ok_snd (ok_snd (ok_snd (ok_snd (ok_fst ok_here)))))) ty4 ?_
        refine r_pure tabOk 2 [27] (E' := [(27, ptr b0 6)]) rfl ?_
        refine r_store 0 ((.snd (.snd (.snd (.snd (.snd (.snd (.fst .here)))))))) rfl rfl rfl (by first | rfl | (simp only [Pth.off, T.size]; omega)) (ok_snd (ok_snd (ok_snd (ok_snd (ok_snd (ok_snd (ok_fst ok_here))))))) ty4 ?_
        refine r_nil ?_
        refine r_then ?_
        refine r_seq ?_
        refine r_region ?_
        refine r_pure tabOk 1 [4] (E' := [(4, .one (.int .i64) 9)]) rfl ?_
        refine r_nil ?_
        refine r_then ?_
        refine r_ret ?_
        refine t_then ?_
        obtain rfl := Option.some.inj h
        exact r_ret1 rfl (.tmp rfl) (fun _ _ g => g) (fun _ _ _ => (.cons_cons _ .slnil))
      · rw [if_neg (ne_true_of_eq_false hc)] at h
        refine r_skip ?_
        refine r_then ?_
        refine r_less [0, 1] rfl ?_
        exact r_meetk (a0.1, a0.2.1, a0.2.2.1, a0.2.2.2.1, (IntKind.wrap .i64 (a0.2.2.2.2.1 - 1)), a0.2.2.2.2.2.1, a0.2.2.2.2.2.2) () h rfl rfl
    · rw [if_neg (ne_true_of_eq_false hc)] at h
      refine r_skip ?_
      refine r_then ?_
      refine r_less [0, 1] rfl ?_
      exact r_meetk (a0.1, a0.2.1, a0.2.2.1, a0.2.2.2.1, a0.2.2.2.2.1, a0.2.2.2.2.2.1, a0.2.2.2.2.2.2) () h rfl rfl
  · intro o2 gg h
    rw [← hk1] at h
    try dsimp only at h
    obtain ⟨k3, hk3, h⟩ := bnd_ex h
    refine r_joink (γ := Unit) (fun (o4 : DiskS) _ => []) (fun (o4 : DiskS) _ => [Res.var b0 56 DT (o4.1, mv0, o4.2.2.1, o4.2.2.2.1, o4.2.2.2.2.1, o4.2.2.2.2.2.1, o4.2.2.2.2.2.2, ())]) k3 r ?_ ?_
    · refine r_seq ?_
      refine r_region ?_
      refine r_pure tabOk 3 [0, 1, 30] (E' := [(0, ptr b0 0), (1, .one (.int .i64) a1), (30, ptr b0 2)]) rfl ?_
      refine y (y_load 0 ((.snd (.snd (.fst .here)))) rfl rfl (by first | rfl | (simp only [Pth.off, T.size]; omega)) (ok_snd (ok_snd (ok_fst ok_here))) ty3) rfl ?_
      refine r_pure tabOk 2 [0, 1, 33] (E' := [(0, ptr b0 0), (1, .one (.int .i64) a1), (33, .one .bool (decide (o2.2.2.1 > 0)))]) rfl ?_
      obtain ⟨b5, hbb5, h⟩ := bnd_ex h
      rw [hbb5]
      obtain ⟨k6, hk6, h⟩ := bnd_ex h
      refine r_lsplitk (γ := Unit) 14 (fun (o7 : Bool) _ => [(0, ptr b0 0), (47, .one .bool o7)]) (fun _ _ => [Res.var b0 56 DT (o2.1, mv0, o2.2.2.1, o2.2.2.2.1, o2.2.2.2.2.1, o2.2.2.2.2.2.1, o2.2.2.2.2.2.2, ())]) k6 r ?_ ?_
      · rcases Bool.eq_false_or_eq_true b5 with hh | hh
        · rw [hh] at h ⊢
          rw [if_pos rfl] at h
          refine r_pure tabOk 3 [0, 1, 33, 36] (E' := [(0, ptr b0 0), (1, .one (.int .i64) a1), (33, .one .bool true), (36, ptr b0 3)]) rfl ?_
          refine r_guard (by rfl) rfl ?_
          refine y (y_load 0 ((.snd (.snd (.snd (.fst .here))))) rfl rfl (by first | rfl | (simp only [Pth.off, T.size]; omega)) (ok_snd (ok_snd (ok_snd (ok_fst ok_here)))) ty3) rfl ?_
          refine r_pure tabOk 2 [0, 1, 33, 39] (E' := [(0, ptr b0 0), (1, .one (.int .i64) a1), (33, .one .bool true), (39, .one .bool (o2.2.2.2.1 == 0))]) rfl ?_
          obtain ⟨b8, hbb8, h⟩ := bnd_ex h
          rw [hbb8]
          refine r_lsplit (γ := Unit) 7 (fun _ => [(0, ptr b0 0), (33, .one .bool true), (46, .one .bool (b8 || (o2.2.2.2.1 == a1)))]) (fun _ => [Res.var b0 56 DT (o2.1, mv0, o2.2.2.1, o2.2.2.2.1, o2.2.2.2.2.1, o2.2.2.2.2.2.1, o2.2.2.2.2.2.2, ())]) ?_ (fun _ => ?_)
          · clear h
            cases b8 with
            | true =>
            refine r_pure tabOk 7 [0, 33, 46] (E' := [(0, ptr b0 0), (33, .one .bool true), (46, .one .bool true)]) rfl ?_
            refine r_nil ?_
            refine r_then ?_
            exact r_meetg () rfl rfl
            | false =>
            refine r_pure tabOk 3 [0, 1, 33, 39, 42] (E' := [(0, ptr b0 0), (1, .one (.int .i64) a1), (33, .one .bool true), (39, .one .bool false), (42, ptr b0 3)]) rfl ?_
            refine r_guard (by rfl) rfl ?_
            refine y (y_load 0 ((.snd (.snd (.snd (.fst .here))))) rfl rfl (by first | rfl | (simp only [Pth.off, T.size]; omega)) (ok_snd (ok_snd (ok_snd (ok_fst ok_here)))) ty3) rfl ?_
            refine r_pure tabOk 3 [0, 33, 46] (E' := [(0, ptr b0 0), (33, .one .bool true), (46, .one .bool (o2.2.2.2.1 == a1))]) rfl ?_
            refine r_nil ?_
            refine r_then ?_
            exact r_meetg () rfl rfl
          refine r_pure tabOk 1 [0, 47] (E' := [(0, ptr b0 0), (47, .one .bool (b8 || (o2.2.2.2.1 == a1)))]) rfl ?_
          refine r_nil ?_
          refine r_less [0, 47] rfl ?_
          refine r_then ?_
          exact r_meetk (b8 || (o2.2.2.2.1 == a1)) () h rfl rfl
        · rw [hh] at h ⊢
          rw [if_neg (by decide)] at h
          refine r_pure tabOk 14 [0, 47] (E' := [(0, ptr b0 0), (47, .one .bool false)]) rfl ?_
          refine r_nil ?_
          refine r_less [0, 47] rfl ?_
          refine r_then ?_
          exact r_meetk false () h rfl rfl
      · intro o7 _ h
        rw [← hk6] at h
        try dsimp only at h
        refine r_nil ?_
        refine r_then ?_
        refine r_if (b := o7) rfl (fun hc => ?_) (fun hc => ?_)
        · rw [if_pos hc] at h
          refine r_seq ?_
          refine r_region ?_
          refine r_pure tabOk 3 [0, 48, 50] (E' := [(0, ptr b0 0), (48, ptr b0 0), (50, ptr b0 2)]) rfl ?_
          refine y (y_load 0 ((.snd (.snd (.fst .here)))) rfl rfl (by first | rfl | (simp only [Pth.off, T.size]; omega)) (ok_snd (ok_snd (ok_fst ok_here))) ty3) rfl ?_
          refine r_pure tabOk 3 [0, 52, 54] (E' := [(0, ptr b0 0), (52, .one (.int .i64) (IntKind.wrap .i64 (o2.2.2.1 - 1))), (54, ptr b0 2)]) rfl ?_
          refine r_store 0 ((.snd (.snd (.fst .here)))) rfl rfl rfl (by first | rfl | (simp only [Pth.off, T.size]; omega)) (ok_snd (ok_snd (ok_fst ok_here))) ty3 ?_
          refine r_nil ?_
          refine r_then ?_
          refine r_seq ?_
          refine r_region ?_
          refine r_pure tabOk 3 [57] (E' := [(57, ptr b0 2)]) rfl ?_
          refine y (y_load 0 ((.snd (.snd (.fst .here)))) rfl rfl (by first | rfl | (simp only [Pth.off, T.size]; omega)) (ok_snd (ok_snd (ok_fst ok_here))) ty3) rfl ?_
          refine r_pure tabOk 1 [59] (E' := [(59, .one .bool ((IntKind.wrap .i64 (o2.2.2.1 - 1)) == 0))]) rfl ?_
          refine r_nil ?_
          refine r_then ?_
          refine r_if (b := ((IntKind.wrap .i64 (o2.2.2.1 - 1)) == 0)) rfl (fun hc => ?_) (fun hc => ?_)
          · rw [if_pos hc] at h
            refine r_seq ?_
            refine r_region ?_
            refine r_pure tabOk 1 [4] (E' := [(4, .one (.int .i64) 40)]) rfl ?_
            refine r_nil ?_
            refine r_then ?_
            refine r_ret ?_
            refine t_then ?_
            obtain rfl := Option.some.inj h
            exact r_ret1 rfl (.tmp rfl) (fun _ _ g => g) (fun _ _ _ => (.cons_cons _ .slnil))
          · rw [if_neg (ne_true_of_eq_false hc)] at h
            refine r_skip ?_
            refine r_then ?_
            refine r_less [] rfl ?_
            exact r_meetk (o2.1, a0.2.1, (IntKind.wrap .i64 (o2.2.2.1 - 1)), o2.2.2.2.1, o2.2.2.2.2.1, o2.2.2.2.2.2.1, o2.2.2.2.2.2.2) () h rfl rfl
        · rw [if_neg (ne_true_of_eq_false hc)] at h
          refine r_skip ?_
          refine r_then ?_
          refine r_less [] rfl ?_
          exact r_meetk (o2.1, a0.2.1, o2.2.2.1, o2.2.2.2.1, o2.2.2.2.2.1, o2.2.2.2.2.2.1, o2.2.2.2.2.2.2) () h rfl rfl
    · intro o4 gg h
      rw [← hk3] at h
      try dsimp only at h
      refine r_seq ?_
      refine r_region ?_
      refine r_pure tabOk 1 [4] (E' := [(4, .one (.int .i64) 0)]) rfl ?_
      refine r_nil ?_
      refine r_then ?_
      refine r_ret ?_
      obtain rfl := Option.some.inj h
      exact r_ret1 rfl (.tmp rfl) (fun _ _ g => g) (fun _ _ _ => (.cons_cons _ .slnil))
end Sx
