/-
  Own work. What is done to a file's parts: copy, a sector's count, no sector any more; the disk as one thing.
-/
import Derived.Test.YtpkjocjchkibaaaSxSub
namespace Sx
open Go

/-- a row with a text laid over it -/
def laidOver (xs : List Int) (i : Nat) (ys : List Int) : List Int := xs.take i ++ ys.take (xs.length - i) ++ xs.drop (i + ys.length)
/-- a number more in a rising row -/
def kins (s : Int) : List Int → List Int
  | [] => [s]
  | y :: r => if s < y then s :: y :: r else if s = y then y :: r else y :: kins s r

section
variable {P : Program} {I : DI} {Tb : Tab} {F : Fr} {n : Nat} {E E' : Env} {L : List Res} {ops : Array Oper} {Q : Exit → Act → World → Prop} {rest : List Oper} {X : Act → World → Prop}

theorem setBlk_same {w : World} {b : Nat} {o : Obj} (h : w.heap[b]? = some o) : setBlk w b o = w := by
  have hlt := heap_lt h
  unfold setBlk
  have : w.heap.setIfInBounds b o = w.heap := by
    apply Array.ext (by simp)
    intro j h1 h2
    by_cases hj : b = j
    · subst hj
      have : w.heap[b] = o := by simpa [hlt] using h
      simp [this]
    · rw [Array.getElem_setIfInBounds h2]; simp [hj]
  rw [this]

theorem run_copy {sT yT elem : TypeId} {dst : Value} {ys : List Int} {m : Nat} {w w' : World} {ty : TypeId} {base : Option Addr} {len cap : Nat} (hu : P.underlying sT = some (.slice elem)) (ht : tyChk P (.int .u8) elem = true) (hd : dst = .slice base len cap) (hm : m = min len ys.length) (hy : byteOk ys)
    (hst : (match base with | some a => storeCells a ((ys.take m).map fun y => Value.int .u8 y) | none => pure ()).run P w = .ok () w') : (Builtin.copy_ #[sT, yT] ty #[dst, .string (bs ys)]).run P w = .ok (.int .i64 m) w' := by
  subst hd
  have hsz : ∀ w', (Go.sizeOf elem).run P w' = .ok 1 w' := fun w' => run_sizeOf ht
  have hl : Nat.min (bs ys).size len = m := by rw [bs_size]; exact (Nat.min_comm _ _).trans hm.symm
  have hc : (((bs ys).extract 0 m).data.map fun b => Value.int .u8 b.toNat) = ((ys.take m).map fun y => Value.int .u8 y).toArray := by
    rw [bs_extract]
    simp only [List.drop_zero, bs, List.map_toArray, List.map_map]
    congr 1
    apply List.map_congr_left
    intro c hc
    have := hy c (List.mem_of_mem_take hc)
    simp only [Function.comp]
    rw [UInt8.toNat_ofNat']
    congr 1
    omega
  have key : (match base with | some a => storeCells a ((ys.take m).map fun y => Value.int .u8 y) | none => pure PUnit.unit).run P w = .ok PUnit.unit w' := hst
  simp only [Builtin.copy_, List.getElem?_toArray, List.getElem?_cons_zero, List.getElem?_cons_succ, run_bind, run_underlying hu, Builtin.lenOf, run_pure, hsz, Builtin.firstCells, hl, hc]
  cases base with
  | none => simp only at key ⊢; cases key; rfl
  | some ad => simp only at key ⊢; rw [run_bind, key]; rfl

/-- copy(s[i:], text) -/
theorem r_copyo (hT : Tb.chk P = true) {x y : Operand} {z v : Value} {elem : Nat} {xs ys : List Int} {sT yT : TypeId} {d : Nat} {ty : TypeId} {pos : String} {after : Array Edge} (k : Nat) {i : Nat}
    (hx : ev E x = some (.one (.raw z) (subv 1 v i xs.length))) (hi : L[k]? = some (Res.own v elem (.int .u8) xs)) (hy : ev E y = some (.one .str ys)) (hle : i ≤ xs.length) (hsT : lk Tb.slices sT = some elem) (he : tyChk P (.int .u8) elem = true) (hd : Nat.ble (d + 1) n = true)
    (g : ∀ m : Int, Go F n ((d, .one (.int .i64) m) :: E) (L.set k (Res.own v elem (.int .u8) (laidOver xs i ys))) (wpList P ops Q rest)) :
    Go F n E L (wpList P ops Q (⟨some d, .call ⟨.builtin .copy, #[x, y], #[sT, yT]⟩, ty, pos, after, none⟩ :: rest)) := fun M a w c => by
  have hxv := (holds_raw.1 (ev_ok c hx)).1
  obtain ⟨hyv, hyb, hym⟩ := holds_str.1 (ev_ok c hy)
  have hnd : Nat.le (d + 1) n := Nat.le_of_ble_eq_true hd
  obtain ⟨S, hsat⟩ := c.st.res hi
  have hred : ∀ {m : Nat} {w' : World}, (Builtin.copy_ #[sT, yT] ty #[subv 1 v i xs.length, .string (bs ys)]).run P w = .ok (.int .i64 m) w' →
      (execOp a.eval ⟨some d, .call ⟨.builtin .copy, #[x, y], #[sT, yT]⟩, ty, pos, after, none⟩).run P w = .ok (.value (.int .i64 m)) w' := by
    intro m w' h
    have : #[x, y].map a.eval = #[subv 1 v i xs.length, .string (bs ys)] := by simp [hxv, hyv]
    simp only [execOp, resolve, run_bind, run_pure, invoke, Go.builtin, this, h]
  have hmr : rng .i64 ((min (xs.length - i) ys.length : Nat) : Int) := by
    have := hym
    simp only [most] at this
    constructor
    · simp only [lo]; omega
    · simp only [Sx.hi]; omega
  by_cases hm : min (xs.length - i) ys.length = 0
  · -- nothing is copied
    have hsame : laidOver xs i ys = xs := by
      unfold laidOver
      have e1 : ys.take (xs.length - i) = [] := List.eq_nil_of_length_eq_zero (by rw [List.length_take]; exact hm)
      rcases Nat.eq_zero_or_pos ys.length with h0 | h0
      · rw [e1, h0]; simp
      · have : xs.length ≤ i := by omega
        rw [e1, List.drop_of_length_le (by omega), List.take_of_length_le this]; simp
    have hform : ∃ base len cap, subv 1 v i xs.length = .slice base len cap ∧ len = xs.length - i := by
      rcases hsat with ⟨⟨a0, rfl⟩, rfl, _⟩ | ⟨b, cap, rfl, _⟩ <;> exact ⟨_, _, _, rfl, rfl⟩
    obtain ⟨base, len, cap, e1, e2⟩ := hform
    have hrun := run_copy (P := P) (w := w) (w' := w) (yT := yT) (ty := ty) (m := 0) (Tab.slice hT hsT) he e1 (by rw [e2]; exact hm.symm) hyb (by cases base <;> rfl)
    have hL : L.set k (Res.own v elem (.int .u8) (laidOver xs i ys)) = L := by
      rw [hsame]
      apply List.ext_getElem?
      intro j
      by_cases hj : k = j
      · subst hj
        rw [List.getElem?_set_self (by
          rcases Nat.lt_or_ge k L.length with h | h
          · exact h
          · simp [List.getElem?_eq_none h] at hi), hi]
      · rw [List.getElem?_set_ne hj]
    have := g 0
    rw [hL] at this
    exact step_val (d := d) rfl (by simp [Region.wanted]) (hred hrun) (this M _ _ (c.put (Mem.le.refl _) c.st hnd (holds_int.2 ⟨rfl, by simp [rng, lo, Sx.hi]⟩)))
  · rcases hsat with ⟨_, rfl, _⟩ | ⟨b, cap, rfl, h2, cc, fr, h3, h4, h5, h6, h7, h8⟩
    · simp at hm
    · simp only [T.size, Nat.mul_one] at h4 h5
      obtain ⟨hcells, hxb⟩ := repL_u8 h4
      have hne : ¬ cap = i := by omega
      have hv : subv 1 (.slice (some ⟨b, 0, none⟩) xs.length cap) i xs.length = .slice (some ⟨b, i, none⟩) (xs.length - i) (cap - i) := by
        simp only [subv, if_neg hne, Option.map_some, add_add, Nat.mul_one, Nat.zero_add]
      generalize hmm : min (xs.length - i) ys.length = m at *
      have hds : ((ys.take m).map fun y => Value.int .u8 y).length = m := by simp; omega
      have hst := run_storeCells (P := P) (el := elem) (fr := fr) (off := i) ((ys.take m).map fun y => Value.int .u8 y) 0 cc w h3 (by rw [hds]; omega) (by simpa using h8) (by intro u hu; obtain ⟨q, _, rfl⟩ := List.mem_map.1 hu; rfl)
      rw [hds] at hst
      simp only [Nat.add_zero] at hst
      have hrun := run_copy (P := P) (w := w) (yT := yT) (ty := ty) (m := m) (Tab.slice hT hsT) he hv hmm.symm hyb hst
      have hlo : laidOver xs i ys = xs.take i ++ ys.take m ++ xs.drop (i + m) := by
        unfold laidOver
        rcases Nat.le_total ys.length (xs.length - i) with h | h
        · have : m = ys.length := by omega
          rw [this, List.take_of_length_le h, List.take_of_length_le (Nat.le_refl _)]
        · have : m = xs.length - i := by omega
          rw [this, List.drop_of_length_le (by omega : xs.length ≤ i + ys.length), List.drop_of_length_le (by omega)]
      have hll : (laidOver xs i ys).length = xs.length := by rw [hlo]; simp; omega
      refine step_val (d := d) rfl (by simp [Region.wanted]) (hred hrun) (g m M _ _ (c.put (Mem.le.refl _) ?_ hnd (holds_int.2 ⟨rfl, by rw [← hmm]; exact hmm ▸ hmr⟩)))
      refine c.st.turn hi (B := fun k => k = b) ?_ ?_ ?_ rfl rfl rfl (by simp [setBlk])
      · rintro S' hS'
        rcases hS' with ⟨⟨_, h⟩, _, _⟩ | ⟨b', cap', h, h2', _⟩
        · injection h with _ h _; omega
        · cases h
          refine .inr ⟨b, cap, by rw [hll], h2', (cc.toList.take i ++ (ys.take m).map (fun y => Value.int .u8 y) ++ cc.toList.drop (i + m)).toArray, fr, by rw [setBlk_get (heap_lt h3)]; simp, ?_, ?_, by rw [hll]; exact h6, by rw [hll]; exact h7, ?_⟩
          · simp only [T.size, Nat.mul_one, hll]
            have hcl : cc.toList.length = cap := by simpa using h5
            have e1 : (cc.toList.take i ++ (ys.take m).map (fun y => Value.int .u8 y) ++ cc.toList.drop (i + m)).take xs.length = (laidOver xs i ys).map (fun y => Value.int .u8 y) := by
              rw [hlo]
              have hti : cc.toList.take i = (xs.take i).map fun y => Value.int .u8 y := by
                rw [List.map_take, ← hcells, List.take_take, Nat.min_eq_left hle]
              have hdr : (cc.toList.drop (i + m)).take (xs.length - (i + m)) = (xs.drop (i + m)).map fun y => Value.int .u8 y := by
                rw [List.map_drop, ← hcells, List.drop_take]
              have hN : xs.length = (cc.toList.take i ++ (ys.take m).map (fun y => Value.int .u8 y)).length + (xs.length - (i + m)) := by
                rw [List.length_append, List.length_map, List.length_take, List.length_take, hcl]; omega
              conv => lhs; rw [hN]
              rw [List.take_length_add_append, hdr, hti, List.map_append, List.map_append]
            show RepL (Rep (.int .u8) M) ((cc.toList.take i ++ (ys.take m).map (fun y => Value.int .u8 y) ++ cc.toList.drop (i + m)).take xs.length) (laidOver xs i ys)
            rw [e1]
            refine repL_bytes ?_
            intro q hq
            rw [hlo] at hq
            rcases List.mem_append.1 hq with hq | hq
            · rcases List.mem_append.1 hq with hq | hq
              · exact hxb q (List.mem_of_mem_take hq)
              · exact hyb q (List.mem_of_mem_take hq)
            · exact hxb q (List.mem_of_mem_drop hq)
          · have hcl : cc.toList.length = cap := by simpa using h5
            simp only [T.size, Nat.mul_one, List.size_toArray, List.length_append, List.length_take, List.length_map, List.length_drop, hcl]
            omega
          · have hsz : (cc.toList.take i ++ (ys.take m).map (fun y => Value.int .u8 y) ++ cc.toList.drop (i + m)).toArray.size = cc.size := by
              have hcl : cc.toList.length = cap := by simpa using h5
              simp only [List.size_toArray, List.length_append, List.length_take, List.length_map, List.length_drop, hcl]
              omega
            rw [hsz]; exact h8
      · rintro S' hS' k rfl
        rcases hS' with ⟨⟨_, h⟩, _, _⟩ | ⟨b', cap', h, h2', _⟩
        · injection h with _ h _; omega
        · cases h; exact (h2' _).2 rfl
      · intro k hk; rw [setBlk_get (heap_lt h3), if_neg (fun h => hk h.symm)]
end
end Sx
