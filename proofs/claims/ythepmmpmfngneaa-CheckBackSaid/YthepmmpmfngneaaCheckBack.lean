/-
  Own work. Chapter 07: what was saved is loaded; what is spoilt is not whole.
-/
import Derived.Test.YthepmmpmfngneaaCheckPure
import Derived.Test.YthepmmpmfngneaaDiskPure6
namespace Sx
open Go

def fourL (x : B32) : List Int := [((x.toNat / 16777216 % 256 : Nat) : Int), ((x.toNat / 65536 % 256 : Nat) : Int), ((x.toNat / 256 % 256 : Nat) : Int), ((x.toNat % 256 : Nat) : Int)]
theorem wrap_u8 (n : Nat) : IntKind.wrap .u8 (n : Int) = ((n % 256 : Nat) : Int) := by
  have e : IntKind.wrap .u8 (n : Int) = (n : Int) % 256 := by simp [IntKind.wrap, IntKind.bits, IntKind.signed]
  rw [e]; omega
theorem fourL_eq (x : B32) : check_four (u x) = some (fourL x) := by
  unfold check_four
  simp only [bnd_eq]
  have h := x.isLt
  rw [show ishr .u32 (u x) 24 = u (x >>> 24) from ishr_u x (n := 24) (by omega), show ishr .u32 (u x) 16 = u (x >>> 16) from ishr_u x (n := 16) (by omega), show ishr .u32 (u x) 8 = u (x >>> 8) from ishr_u x (n := 8) (by omega)]
  unfold u
  simp only [wrap_u8, BitVec.toNat_ushiftRight, Nat.shiftRight_eq_div_pow]
  rfl
theorem fourL_inj {x y : B32} (h : fourL x = fourL y) : x = y := by
  unfold fourL at h
  simp only [List.cons.injEq, and_true] at h
  have hx := x.isLt
  have hy := y.isLt
  apply BitVec.eq_of_toNat_eq
  omega
theorem fourL_len (x : B32) : (fourL x).length = 4 := rfl
theorem fourL_byte (x : B32) : byteOk (fourL x) := fun c hc => by
  simp only [fourL, List.mem_cons, List.not_mem_nil, or_false] at hc
  rcases hc with rfl | rfl | rfl | rfl <;> omega

def lenW (n : Nat) : B32 := BitVec.ofNat 32 n
theorem cb_form {p : List Int} (hb : byteOk p) (hl : p.length ≤ 1048568) : cb p = fourL (lenW p.length) ++ fourL (on (on 0#32 (fourL (lenW p.length))) p) ++ p := by
  have ew : IntKind.wrap .u32 (p.length : Int) = u (lenW p.length) := by
    rw [wrap_u32 (by omega) (by omega)]
    unfold u lenW
    rw [BitVec.toNat_ofNat, Nat.mod_eq_of_lt (by omega)]
  unfold cb check_bytes
  simp only [ew, fourL_eq, Option.bind_some, Sum_eq _ (fourL_byte _) (by simp [fourL_len]), On_eq _ p hb (by omega)]
  rw [if_pos (by simp [fourL_len, most]), if_pos (by simp only [List.length_append, fourL_len, most]; omega)]
  rfl
theorem lenW_inj {a b : Nat} (ha : a ≤ 1048576) (hb : b ≤ 1048576) (h : lenW a = lenW b) : a = b := by
  have := congrArg BitVec.toNat h
  unfold lenW at this
  rw [BitVec.toNat_ofNat, BitVec.toNat_ofNat, Nat.mod_eq_of_lt (by omega), Nat.mod_eq_of_lt (by omega)] at this
  exact this

/-! ### run -/
theorem run_app' : ∀ (a b : List Int) (x : B32), run x (a ++ b) = run (run x a) b
  | [], _, _ => rfl
  | c :: a, b, x => run_app' a b _
theorem run_inj : ∀ (b : List Int) {x y : B32}, run x b = run y b → x = y
  | [], _, _, h => h
  | c :: b, x, y, h => by
    have h1 := it_inj 8 (run_inj b h)
    have h2 := congrArg (fun z => z ^^^ BitVec.ofInt 32 c) h1
    simp only [BitVec.xor_assoc, BitVec.xor_self, BitVec.xor_zero] at h2
    exact h2
theorem byte_inj32 {c d : Int} (hc : 0 ≤ c ∧ c < 256) (hd : 0 ≤ d ∧ d < 256) (h : BitVec.ofInt 32 c = BitVec.ofInt 32 d) : c = d := by
  have h1 := congrArg u h
  rw [← byte_u hc, ← byte_u hd, wrap_u32 (by omega) (by omega), wrap_u32 (by omega) (by omega)] at h1
  exact h1
theorem on_one {s : B32} {a b : List Int} {c d : Int} (hc : 0 ≤ c ∧ c < 256) (hd : 0 ≤ d ∧ d < 256) (h : on s (a ++ c :: b) = on s (a ++ d :: b)) : c = d := by
  unfold on at h
  have h1 : run (~~~s) (a ++ c :: b) = run (~~~s) (a ++ d :: b) := by
    have := congrArg (fun z => ~~~z) h
    simpa using this
  rw [run_app', run_app'] at h1
  have h2 := run_inj b (x := it 8 (run (~~~s) a ^^^ BitVec.ofInt 32 c)) (y := it 8 (run (~~~s) a ^^^ BitVec.ofInt 32 d)) h1
  have h3 := it_inj 8 h2
  have h4 : BitVec.ofInt 32 c = BitVec.ofInt 32 d := by
    have := congrArg (fun z => run (~~~s) a ^^^ z) h3
    simp only [← BitVec.xor_assoc, BitVec.xor_self, BitVec.zero_xor] at this
    exact this
  exact byte_inj32 hc hd h4

/-! ### what is not whole -/
theorem Load_bad {D : DiskS} {a : List Int} {f : FileS} (hok : FsOk D.2.1) (ho : D.2.2.2.2.2.1 = false) (hn : check_isName a = some true) (h : pget .str a D.2.1 = some f)
    (hbad : f.1.length < 8 ∨ cb (f.1.drop 8) ≠ f.1) : check_Load D a = some ([], 70) := by
  have hf := hok.get h
  have hl := hf.2.2.1
  unfold check_Load
  simp only [hn, Option.bind_some, Read_all hok ho, h, bnd_eq]
  rw [if_neg (by decide), if_neg (by decide)]
  by_cases h8 : f.1.length < 8
  · rw [if_pos (by simp only [Bool.or_eq_true, decide_eq_true_eq]; omega), if_pos trivial]
  · have hbad := hbad.resolve_left h8
    have hw : IntKind.wrap .i64 ((f.1.length : Int) - 8) = (f.1.length : Int) - 8 := wrap_i64 (by omega) (by omega)
    rw [hw]
    by_cases hlong : (f.1.length : Int) - 8 > 1048448
    · rw [if_pos (by simp only [Bool.or_eq_true, decide_eq_true_eq]; omega), if_pos trivial]
    · have hd : byteOk (f.1.drop 8) := fun x hx => hf.1 x (List.mem_of_mem_drop hx)
      obtain ⟨e, _⟩ := cb_eq hd (by simp only [List.length_drop]; omega)
      have ht : List.drop 8 (List.take (Int.toNat (f.1.length : Int)) f.1) = f.1.drop 8 := by rw [Int.toNat_natCast, List.take_length]
      rw [if_neg (by simp only [Bool.or_eq_true, decide_eq_true_eq]; omega), if_pos (by omega), ht, e]
      simp only [Option.bind_some]
      rw [if_pos (by simpa using hbad)]

theorem bad_len {p q b : List Int} (hb : byteOk p) (hl : p.length ≤ 1048448) (hq : byteOk q) (hlq : q.length ≤ 1048568) (hne : q.length ≠ p.length) (h4 : b.take 4 = (cb p).take 4) : cb q ≠ b := fun e => by
  rw [← e, cb_form hq hlq, cb_form hb (by omega), List.append_assoc, List.append_assoc, ← fourL_len (lenW q.length), List.take_left] at h4
  rw [fourL_len, ← fourL_len (lenW p.length), List.take_left] at h4
  exact hne (lenW_inj (by omega) (by omega) (fourL_inj h4))

theorem flip_ne : ∀ c : Int, 0 ≤ c ∧ c < 256 → ixor .u8 c 1 ≠ c ∧ 0 ≤ ixor .u8 c 1 ∧ ixor .u8 c 1 < 256 := fun c h => by
  have key : ∀ x : Fin 256, ixor .u8 (x.val : Int) 1 ≠ (x.val : Int) ∧ 0 ≤ ixor .u8 (x.val : Int) 1 ∧ ixor .u8 (x.val : Int) 1 < 256 := by decide +kernel
  have := key ⟨c.toNat, by omega⟩
  have e : ((c.toNat : Nat) : Int) = c := by omega
  simp only [e] at this
  exact this

theorem bad_flip {p : List Int} {i : Nat} {d : Int} (hb : byteOk p) (hl : p.length ≤ 1048448) (hi : i < (cb p).length) (hd : 0 ≤ d ∧ d < 256) (hne : d ≠ (cb p).getD i 0) : cb ((over (cb p) i [d]).drop 8) ≠ over (cb p) i [d] := by
  obtain ⟨_, hn, hcb, hdrop⟩ := cb_eq hb (by omega : p.length ≤ 1048568)
  have hov : over (cb p) i [d] = (cb p).take i ++ d :: (cb p).drop (i + 1) := by simp [over]
  have hsplit : cb p = (cb p).take i ++ (cb p).getD i 0 :: (cb p).drop (i + 1) := by
    rw [List.getD_eq_getElem?_getD, List.getElem?_eq_getElem hi, Option.getD_some, List.getElem_cons_drop, List.take_append_drop]
  intro e
  by_cases h8 : i < 8
  · have e2 : (over (cb p) i [d]).drop 8 = p := by
      rw [hov, List.drop_append, List.length_take, Nat.min_eq_left (by omega)]
      have h1 : ((cb p).take i).drop 8 = [] := List.drop_eq_nil_of_le (by simp only [List.length_take]; omega)
      have h2 : 8 - i = (8 - (i + 1)) + 1 := by omega
      rw [h1, List.nil_append, h2, List.drop_succ_cons, List.drop_drop]
      have h3 : i + 1 + (8 - (i + 1)) = 8 := by omega
      rw [h3, hdrop]
    rw [e2] at e
    have h1 := congrArg (fun l => List.getD l i 0) e
    simp only [hov] at h1
    rw [List.getD_eq_getElem?_getD (l := _ ++ _), List.getElem?_append_right (by simp only [List.length_take]; omega)] at h1
    simp only [List.length_take, Nat.min_eq_left (Nat.le_of_lt hi), Nat.sub_self, List.getElem?_cons_zero, Option.getD_some] at h1
    exact hne h1.symm
  · -- in the payload
    have hdd : (cb p).drop (i + 1) = p.drop (i - 8 + 1) := by
      have : List.drop (i - 8 + 1) (List.drop 8 (cb p)) = p.drop (i - 8 + 1) := by rw [hdrop]
      rw [List.drop_drop] at this
      have e9 : 8 + (i - 8 + 1) = i + 1 := by omega
      rw [e9] at this; exact this
    have hdt : ((cb p).take i).drop 8 = p.take (i - 8) := by rw [List.drop_take, hdrop]
    have hl8 : 8 ≤ ((cb p).take i).length := by simp only [List.length_take]; omega
    have ep : p.take (i - 8) ++ (cb p).getD i 0 :: p.drop (i - 8 + 1) = p := by
      have h1 := congrArg (List.drop 8) hsplit
      rw [hdrop, List.drop_append_of_le_length hl8, hdt, hdd] at h1
      exact h1.symm
    have eq : (over (cb p) i [d]).drop 8 = p.take (i - 8) ++ d :: p.drop (i - 8 + 1) := by
      rw [hov, List.drop_append_of_le_length hl8, hdt, hdd]
    have hq : byteOk (p.take (i - 8) ++ d :: p.drop (i - 8 + 1)) := by
      refine byteOk_app2 (fun x hx => hb x (List.mem_of_mem_take hx)) fun x hx => ?_
      rcases List.mem_cons.1 hx with rfl | hx
      · exact hd
      · exact hb x (List.mem_of_mem_drop hx)
    have hlq : (p.take (i - 8) ++ d :: p.drop (i - 8 + 1)).length = p.length := by
      simp only [List.length_append, List.length_take, List.length_cons, List.length_drop]; omega
    rw [eq, cb_form hq (by omega), hlq] at e
    have e8 := congrArg (List.take 8) e
    have hov8 : (over (cb p) i [d]).take 8 = (cb p).take 8 := by
      rw [hov, List.take_append_of_le_length (by simp only [List.length_take]; omega), List.take_take, Nat.min_eq_left (by omega)]
    rw [hov8, cb_form hb (by omega)] at e8
    have t8 : ∀ (x y : B32) (z : List Int), List.take 8 (fourL x ++ fourL y ++ z) = fourL x ++ fourL y := fun x y z => by
      have : 8 = (fourL x ++ fourL y).length := by simp [fourL_len]
      rw [this, List.take_left]
    rw [t8, t8] at e8
    have e4 := List.append_cancel_left e8
    have e5 := fourL_inj e4
    have e6 : on (on 0#32 (fourL (lenW p.length))) p = on (on 0#32 (fourL (lenW p.length))) (p.take (i - 8) ++ (cb p).getD i 0 :: p.drop (i - 8 + 1)) := congrArg _ ep.symm
    rw [e6] at e5
    have hg : 0 ≤ (cb p).getD i 0 ∧ (cb p).getD i 0 < 256 := by
      rw [List.getD_eq_getElem?_getD, List.getElem?_eq_getElem hi, Option.getD_some]
      exact hcb _ (List.getElem_mem hi)
    exact hne (on_one hd hg e5)

/-! ### The disk of the statement -/
def cN : List Int := [99]
def tN : List Int := [99, 46, 116, 109, 112]
structure S (D : DiskS) (x : List Int) : Prop where
  ok : FsOk D.2.1
  off : D.2.2.2.2.2.1 = false
  armed : D.2.2.1 = 0
  falls : D.2.2.2.2.1 = 0
  cap : D.1 = 16777216
  keys : ∀ k, k ≠ cN → k ≠ tN → pget .str k D.2.1 = none
  file : ∃ sf ds, pget .str cN D.2.1 = some (x, sf, ds)
theorem S.len {D : DiskS} {x : List Int} (c : S D x) : D.2.1.length ≤ 2 := by
  have h : (D.2.1.map (·.1)).length ≤ [cN, tN].length := List.Nodup.length_le_of_subset c.ok.2.1 (fun k hk => Classical.byContradiction fun hc => by
    simp only [List.mem_cons, List.not_mem_nil, or_false, not_or] at hc
    exact get_none.1 (c.keys k hc.1 hc.2) hk)
  simpa using h
theorem S.wr {D : DiskS} {x text : List Int} {i : Int} (c : S D x) (ht : byteOk text) (h0 : 0 ≤ i) (h1 : i ≤ x.length) (h2 : i + text.length ≤ 1048576) : ∃ D', disk_Disk_Write D cN i text = some (0, D') ∧ S D' (over x i.toNat text) := by
  obtain ⟨sf, ds, hf⟩ := c.file
  have hl := c.len
  have hs : seenOf D.2.1 cN = x := by simp [seenOf, hf]
  obtain ⟨e, a, fl, o, p, fs', hc, hw, hok, ⟨ds', hg⟩, hne, hk⟩ := Write_eq (D := D) (name := cN) (text := text) (at0 := i) c.ok c.off (by decide +kernel) ht h0 (by rw [hs]; exact h1) h2 (fun _ => by omega) (by rw [c.cap]; omega)
  rw [counted_calm 1 c.armed c.falls] at hc
  have hc' := Option.some.inj hc
  have e0 : e = 0 := (congrArg (·.1) hc').symm
  have ea : a = 0 := by have := congrArg (fun z : Int × DiskS => z.2.2.2.1) hc'; simp only [c.armed] at this; exact this.symm
  have ef : fl = 0 := by have := congrArg (fun z : Int × DiskS => z.2.2.2.2.2.1) hc'; simp only [c.falls] at this; exact this.symm
  have eo : o = false := by have := congrArg (fun z : Int × DiskS => z.2.2.2.2.2.2.1) hc'; simp only [c.off] at this; exact this.symm
  subst e0 ea ef eo
  rw [if_pos rfl] at hw
  rw [hs] at hg
  refine ⟨_, hw, ⟨hok, rfl, rfl, rfl, c.cap, fun k h1 h2 => ?_, _, _, hg⟩⟩
  show pget .str k fs' = none
  rw [hne k (fun e => h1 e.symm), c.keys k h1 h2]
theorem S.other {D : DiskS} {x text : List Int} (c : S D x) (ht : byteOk text) (htl : text.length ≤ 140737488355328) : ∃ e D', disk_Disk_Write D tN 0 text = some (e, D') ∧ S D' x := by
  rcases Write_any (D := D) (name := tN) (text := text) (at0 := 0) c.ok (by simp [rng, lo, Sx.hi]) ht htl (by decide) with ⟨e, _, h⟩ | ⟨_, _, _, _, _, e, a, fl, o, p, fs', hc, hw, hok, ⟨ds', hg⟩, hne, hk⟩
  · exact ⟨e, D, h, c⟩
  · rw [counted_calm 1 c.armed c.falls] at hc
    have hc' := Option.some.inj hc
    have e0 : e = 0 := (congrArg (·.1) hc').symm
    have ea : a = 0 := by have := congrArg (fun z : Int × DiskS => z.2.2.2.1) hc'; simp only [c.armed] at this; exact this.symm
    have ef : fl = 0 := by have := congrArg (fun z : Int × DiskS => z.2.2.2.2.2.1) hc'; simp only [c.falls] at this; exact this.symm
    have eo : o = false := by have := congrArg (fun z : Int × DiskS => z.2.2.2.2.2.2.1) hc'; simp only [c.off] at this; exact this.symm
    subst e0 ea ef eo
    rw [if_pos rfl] at hw
    obtain ⟨sf, ds, hf⟩ := c.file
    refine ⟨0, _, hw, ⟨hok, rfl, rfl, rfl, c.cap, fun k h1 h2 => ?_, sf, ds, ?_⟩⟩
    · show pget .str k fs' = none
      rw [hne k (fun e => h2 e.symm), c.keys k h1 h2]
    · show pget .str cN fs' = _
      rw [hne cN (by decide), hf]
theorem S.tr {D : DiskS} {x : List Int} {n : Int} (c : S D x) (h0 : 0 ≤ n) (h1 : n ≤ x.length) : ∃ D', disk_Disk_Truncate D cN n = some (0, D') ∧ S D' (x.take n.toNat) := by
  obtain ⟨sf, ds, hf⟩ := c.file
  rcases Truncate_any (D := D) (name := cN) (n := n) c.ok with ⟨e, he, h⟩ | ⟨_, f, hg, _, _, ht, hfo⟩
  · exfalso
    unfold disk_Disk_Truncate at h
    rw [found_eq cN c.off, hf] at h
    have hl : x.length ≤ 1048576 := (c.ok.get hf).2.2.1
    simp only [Option.isSome_some, if_true, Option.bind_some, bnd_eq] at h
    rw [if_neg (by decide), if_neg (by simp only [Bool.or_eq_true, decide_eq_true_eq]; omega), if_pos (by omega), clone_eq (by simp only [List.length_take]; omega)] at h
    simp only [Option.bind_some] at h
    rw [if_pos (by omega)] at h
    exact he (congrArg (·.1) (Option.some.inj h)).symm
  · rw [hf] at hg
    obtain rfl := Option.some.inj hg
    refine ⟨_, ht, ⟨c.ok.set hfo, c.off, c.armed, c.falls, c.cap, fun k h1 h2 => ?_, _, _, get_pset hf⟩⟩
    show pget .str k (pset .str cN _ D.2.1) = none
    rw [pget_pset_ne (fun e => h1 e.symm), c.keys k h1 h2]
theorem S.good {D : DiskS} {p : List Int} (c : S D (cb p)) (hb : byteOk p) (hl : p.length ≤ 1048448) : check_Load D cN = some (p, 0) := by
  obtain ⟨sf, ds, hf⟩ := c.file
  exact Load_some c.ok c.off (by decide +kernel) hf rfl hb hl
theorem S.bad {D : DiskS} {x : List Int} (c : S D x) (h : x.length < 8 ∨ cb (x.drop 8) ≠ x) : check_Load D cN = some ([], 70) := by
  obtain ⟨sf, ds, hf⟩ := c.file
  exact Load_bad c.ok c.off (by decide +kernel) hf h

theorem over_back {l : List Int} {i : Nat} {d : Int} (hi : i < l.length) : over (over l i [d]) i [l.getD i 0] = l := by
  have h1 : over l i [d] = l.take i ++ d :: l.drop (i + 1) := by simp [over]
  have h2 : over (over l i [d]) i [l.getD i 0] = (over l i [d]).take i ++ l.getD i 0 :: (over l i [d]).drop (i + 1) := by simp [over]
  have hlt : (l.take i).length = i := by simp only [List.length_take]; omega
  rw [h2, h1, List.take_left' hlt]
  have h3 : List.drop (i + 1) (l.take i ++ d :: l.drop (i + 1)) = l.drop (i + 1) := by
    rw [List.drop_append, hlt]
    have : i + 1 - i = 1 := by omega
    rw [this, List.drop_eq_nil_of_le (by omega)]
    rfl
  rw [h3, List.getD_eq_getElem?_getD, List.getElem?_eq_getElem hi, Option.getD_some, List.getElem_cons_drop, List.take_append_drop]

theorem byte120 : byteOk [120] := fun x hx => by rcases List.mem_singleton.1 hx with rfl; decide
theorem wrap_u64 {n : Int} (h0 : 0 ≤ n) (h : n < 18446744073709551616) : IntKind.wrap .u64 n = n := by
  simp [IntKind.wrap, IntKind.bits, IntKind.signed]; omega
theorem wrap_u64_nonneg (n : Int) : 0 ≤ IntKind.wrap .u64 n := by
  have e : IntKind.wrap .u64 n = n % 18446744073709551616 := by simp [IntKind.wrap, IntKind.bits, IntKind.signed]
  rw [e]; omega

theorem escrowlaw07_CheckBack_true (a0 : List Int) (a1 : Int) (a2 : List Int) (h0 : byteOk a0 ∧ List.length a0 ≤ 140737488351232) (_h1 : rng .i64 a1) (h2 : byteOk a2 ∧ List.length a2 ≤ 140737488351232) : escrowlaw07_CheckBack a0 a1 a2 = some true := by
  have hnew : disk_New 16777216 = some (0, (16777216, [], 0, 0, 0, false, false)) := by
    unfold disk_New
    simp only [bnd_eq]
    rw [if_neg (by decide)]
  have hok0 : FsOk ([] : List (List Int × FileS)) := ⟨(fun p hp => by cases hp), by simp, by simp⟩
  unfold escrowlaw07_CheckBack
  simp only [hnew, Option.bind_some, bnd_eq, cfirst_eq]
  rw [if_neg (by decide), if_neg (by decide), if_pos (by decide)]
  by_cases hl : a0.length ≤ 1048448
  · obtain ⟨e, D1, g1, g2, g3, g4, g5, g6, g7, g8, g9, g10⟩ := Save_eq (D := (16777216, [], 0, 0, 0, false, false)) (a := cN) (t := tN) (p := a0) hok0 rfl rfl (by decide +kernel) rfl (by decide) (by decide +kernel) (by decide +kernel) h0.1 hl (by simp) (by decide)
    obtain rfl := g8 rfl rfl
    have hof : D1.2.2.2.2.2.1 = false := by
      rcases g7 with ⟨h, _⟩ | ⟨_, h, _⟩
      · cases h
      · exact h
    obtain ⟨hb, hn, hcb, hdr⟩ := cb_eq h0.1 (by omega : a0.length ≤ 1048568)
    have c1 : S D1 (cb a0) := ⟨g3, hof, (g10 rfl rfl).1, (g10 rfl rfl).2, g2, fun k h1 h2 => by rw [g6 k (fun e => h1 e.symm) (fun e => h2 e.symm)]; rfl, _, _, g4 rfl⟩
    have hfile := g4 rfl
    unfold Stands at hfile
    have hlen1 : D1.2.1.length = 1 := by
      have h3 : (D1.2.1.map (·.1)).length ≤ [cN].length := List.Nodup.length_le_of_subset g3.2.1 (fun k hk => Classical.byContradiction fun hc => by
        simp only [List.mem_cons, List.not_mem_nil, or_false] at hc
        have : pget .str k D1.2.1 = none := by
          by_cases ht : k = tN
          · rw [ht]; exact g9 rfl
          · exact c1.keys k hc ht
        exact get_none.1 this hk)
      have h4 : D1.2.1 ≠ [] := fun e => by rw [e] at hfile; cases hfile
      have h5 : D1.2.1.length ≠ 0 := fun e => h4 (List.eq_nil_of_length_eq_zero e)
      simp only [List.length_map, List.length_cons, List.length_nil] at h3
      omega
    have hsz : disk_Disk_Size D1 [99] = some ((a0.length : Int) + 8, 0) := by
      rw [Size_eq hof]
      show some (match pget .str cN D1.2.1 with | none => ((0 : Int), (5 : Int)) | some f => ((f.1.length : Int), 0)) = _
      rw [hfile]
      simp only [hn]
      rfl
    have hdy : disk_Disk_Dirty D1 [99] = some [] := by
      rw [Dirty_eq g3 hof]
      show some (match pget .str cN D1.2.1 with | none => [] | some f => f.2.2) = _
      rw [hfile]
    have hli : disk_Disk_List D1 = some (D1.2.1.map (·.1)) := List_eq g3 hof
    -- the place
    obtain ⟨i, hi, hi1⟩ : ∃ i : Nat, IntKind.wrap .i64 (Int.tmod (IntKind.wrap .u64 a1) ((a0.length : Int) + 8)) = (i : Int) ∧ i < (cb a0).length := by
      have h5 := wrap_u64_nonneg a1
      have h6 : 0 ≤ Int.tmod (IntKind.wrap .u64 a1) ((a0.length : Int) + 8) := Int.tmod_nonneg _ h5
      have h7 : Int.tmod (IntKind.wrap .u64 a1) ((a0.length : Int) + 8) < (a0.length : Int) + 8 := Int.tmod_lt_of_pos _ (by omega)
      refine ⟨(Int.tmod (IntKind.wrap .u64 a1) ((a0.length : Int) + 8)).toNat, ?_, by omega⟩
      rw [wrap_i64 (by omega) (by omega)]; omega
    have hx : 0 ≤ (cb a0).getD i 0 ∧ (cb a0).getD i 0 < 256 := by
      rw [List.getD_eq_getElem?_getD, List.getElem?_eq_getElem hi1, Option.getD_some]
      exact hcb _ (List.getElem_mem hi1)
    obtain ⟨hf1, hf2, hf3⟩ := flip_ne _ hx
    have hrd : disk_Disk_Read D1 [99] (i : Int) 1 = some ([(cb a0).getD i 0], 0) := by
      have := Read_at (D := D1) (name := cN) (at0 := (i : Int)) (n := 1) g3 hof hfile (by omega) (by simp only; omega) (by omega)
      rw [show disk_Disk_Read D1 [99] (i : Int) 1 = disk_Disk_Read D1 cN (i : Int) 1 from rfl, this]
      simp only [Int.toNat_natCast]
      rw [List.getD_eq_getElem?_getD, List.getElem?_eq_getElem hi1, Option.getD_some, List.drop_eq_getElem_cons hi1]
      rfl
    obtain ⟨D2, w2, c2⟩ := c1.wr (text := [ixor .u8 ((cb a0).getD i 0) 1]) (i := (i : Int)) (fun x hx => by rcases List.mem_singleton.1 hx with rfl; exact ⟨hf2, hf3⟩) (by omega) (by omega) (by simp only [List.length_cons, List.length_nil]; omega)
    rw [Int.toNat_natCast] at c2
    have l2 := c2.bad (.inr (bad_flip h0.1 hl hi1 ⟨hf2, hf3⟩ hf1))
    have hov : i < (over (cb a0) i [ixor .u8 ((cb a0).getD i 0) 1]).length := by
      rw [over_length (by omega)]; simp only [List.length_cons, List.length_nil]; omega
    have hol : (over (cb a0) i [ixor .u8 ((cb a0).getD i 0) 1]).length = (cb a0).length := by
      rw [over_length (by omega)]; simp only [List.length_cons, List.length_nil]; omega
    obtain ⟨D3, w3, c3⟩ := c2.wr (text := [(cb a0).getD i 0]) (i := (i : Int)) (fun x hx' => by rcases List.mem_singleton.1 hx' with rfl; exact hx) (by omega) (by omega) (by simp only [List.length_cons, List.length_nil]; omega)
    rw [Int.toNat_natCast, over_back hi1] at c3
    obtain ⟨e4, D4, w4, c4⟩ := c3.other (text := a2) h2.1 (by omega)
    have l4 := c4.good h0.1 hl
    obtain ⟨D5, w5, c5⟩ := c4.wr (text := [120]) (i := (a0.length : Int) + 8) byte120 (by omega) (by omega) (by simp only [List.length_cons, List.length_nil]; omega)
    have hto : ((a0.length : Int) + 8).toNat = (cb a0).length := by omega
    have hov5 : over (cb a0) ((a0.length : Int) + 8).toNat [120] = cb a0 ++ [120] := by
      rw [hto]
      unfold over
      rw [List.take_length, List.drop_eq_nil_of_le (by simp), List.append_nil]
    rw [hov5] at c5
    have l5 := c5.bad (.inr (by
      rw [List.drop_append_of_le_length (by omega), hdr]
      exact bad_len h0.1 hl (byteOk_app2 h0.1 byte120) (by simp only [List.length_append, List.length_cons, List.length_nil]; omega) (by simp) (List.take_append_of_le_length (by omega))))
    obtain ⟨D6, w6, c6⟩ := c5.tr (n := (a0.length : Int) + 8 - 1) (by omega) (by simp only [List.length_append, List.length_cons, List.length_nil]; omega)
    have hto6 : ((a0.length : Int) + 8 - 1).toNat = a0.length + 7 := by omega
    rw [hto6, List.take_append_of_le_length (by omega)] at c6
    have l6 := c6.bad (by
      by_cases hz : a0.length = 0
      · left; simp only [List.length_take]; omega
      · right
        rw [List.drop_take, hdr]
        refine bad_len h0.1 hl (fun x hx => h0.1 x (List.mem_of_mem_take hx)) (by simp only [List.length_take]; omega) (by simp only [List.length_take]; omega) ?_
        rw [List.take_take, Nat.min_eq_left (by omega)])
    obtain ⟨D7, w7, c7⟩ := c6.tr (n := 0) (by omega) (by omega)
    have l7 := c7.bad (.inl (by simp))
    have l1 := c1.good h0.1 hl
    simp only [cN, tN] at g1 w2 w3 w4 w5 w6 w7 l1 l2 l4 l5 l6 l7
    have hw8 : IntKind.wrap .i64 ((a0.length : Int) + 8) = (a0.length : Int) + 8 := wrap_i64 (by omega) (by omega)
    have hw7 : IntKind.wrap .i64 ((a0.length : Int) + 8 - 1) = (a0.length : Int) + 8 - 1 := wrap_i64 (by omega) (by omega)
    have hu8 : IntKind.wrap .u64 ((a0.length : Int) + 8) = (a0.length : Int) + 8 := wrap_u64 (by omega) (by omega)
    have hgl : List.getD [(cb a0).getD i 0] 0 0 = (cb a0).getD i 0 := rfl
    have hne : (a0.length : Int) + 8 ≠ 0 := by omega
    simp only [g1, Option.bind_some]
    rw [if_neg (by simp only [decide_eq_true_eq]; omega)]
    simp only [hsz, l1, Option.bind_some, hw8, hli, List.length_map, hlen1, hdy, hu8, if_pos hne, hi, hrd, hgl, w2, l2, w3, w4, l4, w5, l5, hw7, w6, l6, w7, l7]
    simp
  · have hlong := Save_long (D := (16777216, [], 0, 0, 0, false, false)) (a := cN) (p := a0) (by decide +kernel) (by omega)
    simp only [cN] at hlong
    have hli : disk_Disk_List (16777216, [], 0, 0, 0, false, false) = some [] := List_eq hok0 rfl
    simp only [hlong, Option.bind_some, hli]
    rw [if_pos (by simp only [decide_eq_true_eq]; omega)]
    rfl
end Sx
