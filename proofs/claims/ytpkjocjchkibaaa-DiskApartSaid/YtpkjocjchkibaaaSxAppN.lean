/-
  Own work. append(s, make([]byte, n)...).
-/
import Derived.Test.YtpkjocjchkibaaaSxObj
namespace Sx
open Go

theorem zeroCells_one (v : Value) (n : Nat) : Builtin.zeroCells #[v] n = (List.replicate n v).toArray := by
  apply Array.ext
  · simp [Builtin.zeroCells]
  · intro i h1 h2
    have : i % 1 = 0 := Nat.mod_one i
    simp [Builtin.zeroCells, this]

theorem flat_zc : ∀ m : Nat, (List.replicate m (zc (.int .u8))).flatten = List.replicate m (Value.int .u8 0)
  | 0 => rfl
  | m + 1 => by rw [List.replicate_succ, List.flatten_cons, flat_zc m, List.replicate_succ]; rfl

section
variable {P : Program} {Tb : Tab} {F : Fr} {n : Nat} {E E' : Env} {L : List Res} {ops : Array Oper} {Q : Exit → Act → World → Prop} {rest : List Oper} {X : Act → World → Prop}

theorem run_appendn {tz : Nat} (htz : tz = 1) {sT xT elem : TypeId} {s : Value} {base : Option Addr} {sLen sCap m : Nat} {w : World} {olds : List Value} {ty : TypeId} {i : TypeInfo}
    (hu : P.underlying sT = some (.slice elem)) (ht : tyChk P (.int .u8) elem = true) (hx : P.underlying xT = some (.int .i64)) (hi : P.info? elem = some i) (hB : i.bytes = 1) (hz : i.zero = some (.int .u8 0))
    (hs : s = .slice base sLen sCap) (ho : ∀ w', w'.heap = w.heap → (Builtin.firstCells tz sLen s).run P w' = .ok olds.toArray w') (hlen : sLen + m ≤ 140737488355328) :
    (sLen + m ≤ sCap → ∀ w', (match base with | some a => storeCells (a.add (sLen * tz)) (List.replicate m (.int .u8 0)) | none => pure ()).run P w = .ok () w' →
      (Builtin.append_ #[sT, xT] ty #[s, .int .i64 m]).run P w = .ok (.slice base (sLen + m) sCap) w') ∧
    (sCap < sLen + m → ∃ (newCap : Nat) (zs : List Value) (d : Nat), sLen + m ≤ newCap ∧ zs.length = newCap - (sLen + m) ∧
      (Builtin.append_ #[sT, xT] ty #[s, .int .i64 m]).run P w = .ok (.slice (some ⟨w.heap.size, 0, none⟩) (sLen + m) newCap) { w with drawn := d, heap := w.heap.push (.cells (olds ++ List.replicate m (Value.int .u8 0) ++ zs).toArray elem) }) := by
  subst hs
  subst htz
  have hsz : ∀ w', (Go.sizeOf elem).run P w' = .ok 1 w' := fun w' => run_sizeOf ht
  have hw : IntKind.i64.wrap (m : Int) = (m : Int) := by simp [IntKind.wrap, IntKind.bits, IntKind.signed]; omega
  have hzv : ∀ w', (zeroValue elem).run P w' = .ok (.int .u8 0) w' := fun w' => by simp only [zeroValue, run_bind, typeInfo_run hi, hz]; rfl
  have hai : ∀ w', (asInt (.int .i64 (m : Int))).run P w' = .ok (m : Int) w' := fun w' => rfl
  have h0 : ¬ ((m : Int) < 0) := by omega
  have h1 : ¬ ((m : Int) * (i.bytes : Int) > 2 ^ 48) := by rw [hB]; omega
  have hap : ∀ w', (if m * 1 = 0 then (pure #[] : Sem (Array Value)) else do pure (Builtin.zeroCells (← zeroValue elem).cells m)).run P w' = .ok (List.replicate m (Value.int .u8 0)).toArray w' := fun w' => by
    split
    · rename_i h
      have : m = 0 := by omega
      subst this; rfl
    · rw [run_bind, hzv]
      show Result.ok (Builtin.zeroCells #[.int .u8 0] m) w' = _
      rw [zeroCells_one]
  constructor
  · intro hle w' hst
    have key : (match base with | some a => storeCells (a.add (sLen * 1)) (List.replicate m (.int .u8 0)) | none => pure PUnit.unit).run P w = .ok PUnit.unit w' := hst
    simp only [Builtin.append_, List.getElem?_toArray, List.getElem?_cons_zero, List.getElem?_cons_succ, run_bind, run_underlying hu, hsz, run_underlying hx, run_pure, if_true, hai, hw, h0, if_false, typeInfo_run hi, h1, Int.toNat_natCast, hle, Bool.not_true, Bool.false_eq_true, hap]
    cases base with
    | none => simp only at key ⊢; cases key; rfl
    | some ad => simp only at key ⊢; rw [run_bind, key]; rfl
  · intro hlt
    have hnl : ¬ (sLen + m ≤ sCap) := by omega
    have hb0 : ¬ i.bytes = 0 := by omega
    have hcap := nextcap_le hlt
    have hn2 : ¬ (Builtin.nextslicecap (sLen + m) sCap * i.bytes > 2 ^ 48) := by rw [hB]; omega
    have hn3 : ¬ (((sLen + m : Nat) : Int) > IntKind.max .i64) := by
      have : IntKind.max .i64 = 9223372036854775807 := by decide
      rw [this]; omega
    simp only [Builtin.append_, List.getElem?_toArray, List.getElem?_cons_zero, List.getElem?_cons_succ, run_bind, run_underlying hu, hsz, run_underlying hx, run_pure, if_true, hai, hw, h0, if_false, typeInfo_run hi, h1, Int.toNat_natCast, hnl, hn3, false_and, hn2, choose, Sem.run, Question.forced, Question.cut, Bool.not_true, Bool.false_eq_true]
    generalize hnc : sLen + m + w.tape w.drawn (.appendCap (sLen + m) sCap elem) % (2 ^ 63 - (sLen + m)) = newCap
    have ho' := ho { w with drawn := w.drawn + 1 } rfl
    refine ⟨newCap, List.replicate (newCap - (sLen + m)) (.int .u8 0), w.drawn + 1, by omega, by simp, ?_⟩
    have harr : olds.toArray ++ (List.replicate m (Value.int .u8 0)).toArray ++ Builtin.zeroCells (Value.int .u8 0).cells (newCap - (sLen + m)) = (olds ++ List.replicate m (Value.int .u8 0) ++ List.replicate (newCap - (sLen + m)) (Value.int .u8 0)).toArray := by
      have : (Value.int .u8 0).cells = #[.int .u8 0] := rfl
      rw [this, zeroCells_one]
      apply Array.toList_inj.1; simp
    simp only [run_bind, run_askRoom, ho', hap, hzv, newRow, newObj, run_pure, Sem.run, harr]

/-- zeros are appended -/
theorem r_appendn' (hT : Tb.chk P = true) {s x : Operand} {z v : Value} {elem : Nat} {t : T} (htt : t = .int .u8) {xs : List t.D} {k : Int} (zf : (P.info? elem).bind (·.zero) = some (.int .u8 0)) {sT xT : TypeId} {d : Nat} {ty : TypeId} {pos : String} {after : Array Edge} (i : Nat)
    (hs : ev E s = some (.one (.raw z) v)) (hi : L[i]? = some (Res.own v elem t xs)) (hxv : ev E x = some (.one (.int .i64) k)) (hk : 0 ≤ k) (hsT : lk Tb.slices sT = some elem) (he : elemChk P t elem 1 = true) (hx : P.underlying xT = some (.int .i64))
    (hlen : (xs.length + k.toNat) * 1 ≤ 140737488355328) (hd : Nat.ble (d + 1) n = true)
    (g : ∀ v', Go F n ((d, .one (.raw (.slice none 0 0)) v') :: E) (L.set i (Res.own v' elem t (xs ++ List.replicate k.toNat t.zero))) (wpList P ops Q rest)) :
    Go F n E L (wpList P ops Q (⟨some d, .call ⟨.builtin .append, #[s, x], #[sT, xT]⟩, ty, pos, after, none⟩ :: rest)) := fun M a w c => by
  obtain ⟨ht, inf, hinf, hbytes, hzero⟩ := elemChk_ok he
  obtain ⟨m, rfl⟩ := Int.eq_ofNat_of_zero_le hk
  simp only [Int.toNat_natCast] at g hlen
  have hxe : a.eval x = .int .i64 m := (holds_int.1 (ev_ok c hxv)).1
  generalize hys : List.replicate m t.zero = ys at g
  have hyl : ys.length = m := by rw [← hys]; simp
  generalize hdd : List.replicate m (Value.int .u8 0) = ds
  have hds : RepL (Rep t M) ds ys := by
    rw [← hdd, ← hys]
    clear hys g hdd
    subst htt
    have := zerosRep (t := .int .u8) (M := M) rfl m
    rw [flat_zc m] at this; exact this
  have htz : t.size = 1 := by rw [htt]
  subst hyl
  have hdl := RepL.length (s := t.size) (fun c x h => Rep.size h) hds
  have hv := (holds_raw.1 (ev_ok c hs)).1
  obtain ⟨S, hsat⟩ := c.st.res hi
  have hred : ∀ {v' : Value} {w' : World}, (Builtin.append_ #[sT, xT] ty #[v, a.eval x]).run P w = .ok v' w' →
      (execOp a.eval ⟨some d, .call ⟨.builtin .append, #[s, x], #[sT, xT]⟩, ty, pos, after, none⟩).run P w = .ok (.value v') w' := by
    intro v' w' h
    have : #[s, x].map a.eval = #[v, a.eval x] := by simp [hv]
    simp only [execOp, resolve, run_bind, run_pure, invoke, Go.builtin, this, h]
  have hmost : xs.length + ys.length ≤ most := by
    simp only [most]; omega
  have hnd : Nat.le (d + 1) n := Nat.le_of_ble_eq_true hd
  -- the slice as it stands
  have hform : ∃ base sCap olds, v = .slice base xs.length sCap ∧ RepL (Rep t M) olds xs ∧ (∀ w' : World, w'.heap = w.heap → (Builtin.firstCells t.size xs.length v).run P w' = .ok olds.toArray w') := by
    rcases hsat with ⟨⟨a0, rfl⟩, rfl, _⟩ | ⟨b, cap, rfl, h2, cc, fr, h3, h4, h5, h6, h7, h8⟩
    · exact ⟨a0, 0, [], rfl, rfl, fun w' _ => first_nil⟩
    · refine ⟨_, _, _, rfl, h4, fun w' hw => ?_⟩
      have hm := Nat.mul_le_mul_right t.size h6
      have := run_loadCells (P := P) (w := w') (b := b) (off := 0) (c := cc) (el := elem) (fr := fr) (by rw [hw]; exact h3) (xs.length * t.size) 0 #[] (by omega)
      simp only [Builtin.firstCells, loadCells, this]
      simp
  obtain ⟨base, sCap, olds, hvf, holds, hol⟩ := hform
  have hol' := RepL.length (s := t.size) (fun c x h => Rep.size h) holds
  have hz0 : inf.zero = some (.int .u8 0) := by rw [hinf] at zf; exact zf
  obtain ⟨hroom, hgrow⟩ := run_appendn (P := P) (ty := ty) (w := w) (m := ys.length) (olds := olds) htz (Tab.slice hT hsT) (by rw [← htt]; exact ht) hx hinf hbytes hz0 hvf hol (by omega)
  rw [hdd] at hroom hgrow
  rw [hxe] at hred
  by_cases hle : xs.length + ys.length ≤ sCap
  · -- there is room
    by_cases hcz : sCap = 0
    · subst hcz
      have hx0 : xs = [] := List.eq_nil_of_length_eq_zero (by omega)
      have hy : ys = [] := List.eq_nil_of_length_eq_zero (by omega)
      subst hx0
      subst hy
      subst hvf
      have hd0 : ds = [] := List.eq_nil_of_length_eq_zero (by simpa using hdl)
      have hr := hroom hle w (by subst hd0; cases base <;> rfl)
      refine step_val (d := d) rfl (by simp [Region.wanted]) (hred hr) (g _ M _ _ (c.put (Mem.le.refl _) ?_ hnd (holds_raw.2 ⟨rfl, rfl⟩)))
      have : L.set i (Res.own (.slice base 0 0) elem t ([] ++ [])) = L := by
        apply List.ext_getElem?
        intro j
        by_cases hj : i = j
        · subst hj
          rw [List.getElem?_set_self (by
            rcases Nat.lt_or_ge i L.length with h | h
            · exact h
            · simp [List.getElem?_eq_none h] at hi), hi]
          rfl
        · rw [List.getElem?_set_ne hj]
      show St F M w (L.set i (Res.own (.slice base 0 0) elem t ([] ++ [])))
      rw [this]; exact c.st
    rcases hsat with ⟨⟨a0, rfl⟩, rfl, hS⟩ | ⟨b, cap, rfl, h2, cc, fr, h3, h4, h5, h6, h7, h8⟩
    · cases hvf; exact absurd rfl hcz
    · cases hvf
      have hm := Nat.mul_le_mul_right t.size hle
      rw [Nat.add_mul] at hm
      have hst := run_storeCells (P := P) (el := elem) (fr := fr) (off := xs.length * t.size) ds 0 cc w h3 (by rw [hdl]; omega) (by simpa using h8) (repL_one hds)
      have hr := hroom hle _ (by simp only [add_add, Nat.zero_add]; exact hst)
      refine step_val (d := d) rfl (by simp [Region.wanted]) (hred hr) (g _ M _ _ (c.put (Mem.le.refl _) ?_ hnd (holds_raw.2 ⟨rfl, rfl⟩)))
      refine c.st.turn hi (B := fun k => k = b) ?_ ?_ ?_ rfl rfl rfl (by simp [setBlk])
      · rintro S' hS'
        rcases hS' with ⟨⟨_, h⟩, _, _⟩ | ⟨b', cap', h, h2', cc', fr', h3', _⟩
        · injection h with _ _ h; exact absurd h hcz
        · cases h
          refine .inr ⟨b, sCap, by simp, h2', (cc.toList.take (xs.length * t.size + 0) ++ ds ++ cc.toList.drop (xs.length * t.size + 0 + ds.length)).toArray, fr, by rw [setBlk_get (heap_lt h3)]; simp, ?_, ?_, by simpa using hle, by simpa using hmost, ?_⟩
          · have e1 : (xs ++ ys).length * t.size = xs.length * t.size + ds.length := by rw [hdl, List.length_append, Nat.add_mul]
            rw [e1]
            have hcl : xs.length * t.size ≤ cc.toList.length := by simp; omega
            have : ((cc.toList.take (xs.length * t.size + 0) ++ ds ++ cc.toList.drop (xs.length * t.size + 0 + ds.length)).toArray.toList.take (xs.length * t.size + ds.length)) = cc.toList.take (xs.length * t.size) ++ ds := by
              simp only [Nat.add_zero]
              rw [List.take_append_of_le_length (by simp; omega), List.take_of_length_le (by simp; omega)]
            rw [this]
            exact RepL.append h4 hds
          · simp; omega
          · have hsz : (cc.toList.take (xs.length * t.size + 0) ++ ds ++ cc.toList.drop (xs.length * t.size + 0 + ds.length)).toArray.size = cc.size := by simp; omega
            rw [hsz]; exact h8
      · rintro S' hS' k rfl
        rcases hS' with ⟨⟨_, h⟩, _, _⟩ | ⟨b', cap', h, h2', _⟩
        · injection h with _ _ h; exact absurd h hcz
        · cases h; exact (h2' _).2 rfl
      · intro k hk; rw [setBlk_get (heap_lt h3), if_neg (fun h => hk h.symm)]
  · obtain ⟨newCap, zs, dr, hnc, hzs, hr⟩ := hgrow (by omega)
    refine step_val (d := d) rfl (by simp [Region.wanted]) (hred hr) (g _ M _ _ (c.put (Mem.le.refl _) ?_ hnd (holds_raw.2 ⟨rfl, rfl⟩)))
    have hst := St.drewTo dr c.st
    refine hst.renew (R' := Res.own (.slice (some ⟨w.heap.size, 0, none⟩) (xs.length + ys.length) newCap) elem t (xs ++ ys)) (o := .cells (olds ++ ds ++ zs).toArray elem) hi ?_
    intro S' _
    refine .inr ⟨w.heap.size, newCap, by simp, fun k => Iff.rfl, (olds ++ ds ++ zs).toArray, (0, 0), by simp, ?_, ?_, by simpa using hnc, by simpa using hmost, unfrozen_zero _⟩
    · have e1 : (xs ++ ys).length * t.size = (olds ++ ds).length := by rw [List.length_append, Nat.add_mul, List.length_append, hol', hdl]
      rw [e1]
      have e2 : (olds ++ ds ++ zs).toArray.toList.take (olds ++ ds).length = olds ++ ds := by simp only []; exact List.take_left
      rw [e2]
      exact RepL.append holds hds
    · simp only [List.size_toArray, List.length_append, hol', hdl, hzs, htz]; omega
theorem r_appendn (hT : Tb.chk P = true) {s x : Operand} {z v : Value} {elem : Nat} {xs : List Int} {k : Int} (zf : (P.info? elem).bind (·.zero) = some (.int .u8 0)) {sT xT : TypeId} {d : Nat} {ty : TypeId} {pos : String} {after : Array Edge} (i : Nat)
    (hs : ev E s = some (.one (.raw z) v)) (hi : L[i]? = some (Res.own v elem (.int .u8) xs)) (hxv : ev E x = some (.one (.int .i64) k)) (hk : 0 ≤ k) (hsT : lk Tb.slices sT = some elem) (he : elemChk P (.int .u8) elem 1 = true) (hx : P.underlying xT = some (.int .i64))
    (hlen : (xs.length + k.toNat) * 1 ≤ 140737488355328) (hd : Nat.ble (d + 1) n = true)
    (g : ∀ v', Go F n ((d, .one (.raw (.slice none 0 0)) v') :: E) (L.set i (Res.own v' elem (.int .u8) (xs ++ List.replicate k.toNat 0))) (wpList P ops Q rest)) :
    Go F n E L (wpList P ops Q (⟨some d, .call ⟨.builtin .append, #[s, x], #[sT, xT]⟩, ty, pos, after, none⟩ :: rest)) :=
  r_appendn' hT (t := .int .u8) rfl zf i hs hi hxv hk hsT he hx hlen hd g
end
end Sx
