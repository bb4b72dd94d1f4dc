/-
  Own work. 'for k, v := range m' over a map of the call's own, in whatever order.
-/
import Derived.Test.YtpkjocjchkibaaaSxMapOps
namespace Sx
open Go Go.Maps

/-- an iterator over a map: 'todo' are the keys still to come, 'cur' the entry that came last -/
def Res.iter (P : Program) (kid : TypeId) (kt vt : T) (v it : Value) (l : List (kt.D × vt.D)) (todo : List kt.D) (cur : Option (kt.D × vt.D)) : Res where
  sat M S w := ∃ b r lv left cnt, v = .map (some b) ∧ it = .pointer (some ⟨r, 0, none⟩) ∧ (∀ k, S k ↔ (k = b ∨ k = r)) ∧ w.ranges P kid rawR b r l.length (dat kt lv) left cnt ∧ RelKV M lv l ∧ koks kt l ∧
    todo.Nodup ∧ (∀ k, kok kt k → (left (klit kt k) = true ↔ k ∈ todo)) ∧ (∀ k ∈ todo, kok kt k ∧ (pget kt k l).isSome) ∧
    ∀ p, cur = some p → ∃ kv xv, Holds kt M kv p.1 ∧ Holds vt M xv p.2 ∧ ∀ w' : World, w'.heap[b]? = w.heap[b]? → w'.heap[r]? = w.heap[r]? → (Instr.entry it).run P w' = .ok (.tuple #[kv, xv]) w'
  mono h := fun ⟨b, r, lv, left, cnt, h1, h2, h3, h4, h5, h6, h7, h8, h9, h10⟩ => ⟨b, r, lv, left, cnt, h1, h2, h3, h4, h5.mono h, h6, h7, h8, h9, fun p hp => let ⟨kv, xv, a, c, d⟩ := h10 p hp; ⟨kv, xv, a.mono h, c.mono h, d⟩⟩
  loc h := fun ⟨b, r, lv, left, cnt, h1, h2, h3, ⟨es, clock, since, seen, c0, g1, g2, g3, g4, g5, g6⟩, h5, h6, h7, h8, h9, h10⟩ => by
    have eb := h b ((h3 b).2 (.inl rfl))
    have er := h r ((h3 r).2 (.inr rfl))
    exact ⟨b, r, lv, left, cnt, h1, h2, h3, ⟨es, clock, since, seen, c0, by rw [eb]; exact g1, g2, g3, g4, by rw [er]; exact g5, g6⟩, h5, h6, h7, h8, h9, fun p hp =>
      let ⟨kv, xv, a, c, d⟩ := h10 p hp; ⟨kv, xv, a, c, fun w' e1 e2 => d w' (by rw [e1, eb]) (by rw [e2, er])⟩⟩
  has := fun ⟨b, r, lv, left, cnt, _, _, h3, h4, _⟩ k hk => by
    rcases (h3 k).1 hk with rfl | rfl
    · exact h4.owns.lt
    · exact h4.lt

theorem entry_local {P : Program} {b r : Nat} {since c0 : Nat} {seen : Array Nat} {w w' : World} {x : Value} (hr : w.heap[r]? = some (.mapIter (some b) since seen c0)) (h : (Instr.entry (.pointer (some ⟨r, 0, none⟩))).run P w = .ok x w)
    (e1 : w'.heap[b]? = w.heap[b]?) (e2 : w'.heap[r]? = w.heap[r]?) : (Instr.entry (.pointer (some ⟨r, 0, none⟩))).run P w' = .ok x w' := by
  unfold Instr.entry at h ⊢
  simp only [run_bind, getObj, Sem.run, e2, hr] at h ⊢
  cases hs : seen.back? with
  | none => rw [hs] at h; simp only [stuck, Sem.run] at h; cases h
  | some stamp =>
    rw [hs] at h
    simp only [run_bind, Sem.run, e1] at h ⊢
    cases hb : w.heap[b]? with
    | none => rw [hb] at h; simp only at h; cases h
    | some o =>
      rw [hb] at h
      cases o <;> simp only at h ⊢ <;> first | (cases h; done) | skip
      rename_i es clock
      split at h
      · simp only [unsupported, Sem.run, run_bind] at h; cases h
      · rename_i hne
        rw [if_neg hne]
        cases hf : es.find? (fun e => e.born == stamp) with
        | none => rw [hf] at h; simp only [unsupported, Sem.run, run_bind, run_pure] at h; cases h
        | some e =>
          rw [hf] at h
          simp only [run_pure, run_bind] at h ⊢
          cases h
          rfl

theorem holds_key {P : Program} {kid : TypeId} {kt : T} {M : Mem} {key : Value} {x : kt.D} (hk : ktChk P kt kid = true) (hkok : kok kt x) (hkey : keyOf P kid key = some (klit kt x)) : Holds kt M key x := by
  cases kt
  case int q =>
    have h0 : Holds (.int q) M (.int q x) x := holds_int.2 ⟨rfl, hkok⟩
    rw [(keyed_of hk).inj hkey (keyOf_of hk h0).2]; exact h0
  case str =>
    have h0 : Holds .str M (.string (bs x)) x := holds_str.2 ⟨rfl, hkok⟩
    rw [(keyed_of hk).inj hkey (keyOf_of hk h0).2]; exact h0
  all_goals cases hk

/-- two resources are one -/
theorem Sep.join2 {M : Mem} {w : World} {R1 R2 R' : Res} (h : ∀ S1 S2, R1.sat M S1 w → R2.sat M S2 w → R'.sat M (fun k => S1 k ∨ S2 k) w) : ∀ {L : List Res} {i : Nat} {V : Nat → Prop}, Sep M w (R1 :: L) V → L[i]? = some R2 → Sep M w (L.set i R') V
  | [], i, _, _, hi => by simp at hi
  | R :: L, 0, V, ⟨S1, V1, r1, ⟨S2, V2, r2, s, d2, e2⟩, d1, e1⟩, hi => by
    simp only [List.getElem?_cons_zero, Option.some.injEq] at hi; subst hi
    refine ⟨fun k => S1 k ∨ S2 k, V2, h _ _ r1 r2, s, ?_, ?_⟩
    · rintro k (hk | hk)
      · exact fun hv => d1 k hk ((e2 k).2 (.inr hv))
      · exact d2 k hk
    · intro k; rw [e1 k, e2 k]; exact or_assoc.symm
  | R :: L, i + 1, V, hs, hi => by
    have hs' : Sep M w (R :: R1 :: L) V := Sep.perm (List.Perm.swap R R1 L) hs
    obtain ⟨S, V', r, s, d, e⟩ := hs'
    exact ⟨S, V', r, Sep.join2 h s (by simpa using hi), d, e⟩
def Res.block (b : Nat) (o : Obj) : Res where
  sat _ S w := (∀ k, S k ↔ k = b) ∧ w.heap[b]? = some o
  mono _ := id
  loc h := fun ⟨h1, h2⟩ => ⟨h1, by rw [h b ((h1 b).2 rfl)]; exact h2⟩
  has := fun ⟨h1, h2⟩ k hk => by obtain rfl := (h1 k).1 hk; exact heap_lt h2

section
variable {P : Program} {F : Fr} {n : Nat} {E E' : Env} {L : List Res} {ops : Array Oper} {Q : Exit → Act → World → Prop} {rest : List Oper}

theorem pget_isSome {kt : T} {V : Type} {k : kt.D} : ∀ {l : List (kt.D × V)}, (pget kt k l).isSome = l.any fun p => keq kt p.1 k
  | [] => rfl
  | y :: r => by
    have := pget_isSome (k := k) (l := r)
    simp only [pget, List.find?_cons, List.any_cons] at this ⊢
    cases keq kt y.1 k with
    | true => rfl
    | false => simpa using this

/-- the keys of a map's list: no one twice -/
def psorted (kt : T) {V : Type} (l : List (kt.D × V)) : Prop := (l.map (·.1)).Nodup

theorem own_nodup {w : World} {kid : TypeId} {b n' : Nat} {kt vt : T} {M : Mem} {lv : List (kt.D × Value)} {l : List (kt.D × vt.D)} (hk : ktChk P kt kid = true) (h : w.ownsMap P kid rawR b n' (dat kt lv)) (hr : RelKV M lv l) (ho : koks kt l) : (l.map (·.1)).Nodup := by
  obtain ⟨es, he, hp, _⟩ := h.entries (keyed_of hk)
  simp only [DataW.map.injEq] at he
  subst he
  rw [List.pairwise_map] at hp
  have : ∀ {lv : List (kt.D × Value)} {l : List (kt.D × vt.D)}, RelKV M lv l → lv.Pairwise (fun p q => klit kt p.1 ≠ klit kt q.1) → (l.map (·.1)).Nodup := by
    intro lv
    induction lv with
    | nil => intro l hr _; cases l with
      | nil => exact List.nodup_nil
      | cons _ _ => exact hr.elim
    | cons p r ih =>
      intro l hr hp
      cases l with
      | nil => exact hr.elim
      | cons q s =>
        obtain ⟨h1, h2, h3⟩ := hr
        obtain ⟨g1, g2⟩ := List.pairwise_cons.1 hp
        rw [List.map_cons, List.nodup_cons]
        refine ⟨fun hm => ?_, ih h3 g2⟩
        obtain ⟨x, hx, e⟩ := List.mem_map.1 hm
        have : ∀ {r : List (kt.D × Value)} {s : List (kt.D × vt.D)}, RelKV M r s → ∀ x ∈ s, ∃ y ∈ r, y.1 = x.1 := by
          intro r
          induction r with
          | nil => intro s hr x hx; cases s with
            | nil => cases hx
            | cons _ _ => exact hr.elim
          | cons a r ih2 =>
            intro s hr x hx
            cases s with
            | nil => exact hr.elim
            | cons c s =>
              rcases List.mem_cons.1 hx with rfl | hx
              · exact ⟨a, by simp, hr.1⟩
              · obtain ⟨y, hy, e⟩ := ih2 hr.2.2 x hx
                exact ⟨y, by simp [hy], e⟩
        obtain ⟨y, hy, ey⟩ := this h3 x hx
        exact g1 y hy (by rw [h1, ey, e])
  exact this hr hp

/-- range m -/
theorem r_range {m : Operand} {z v : Value} {kid e mt : TypeId} {kt vt : T} {l : List (kt.D × vt.D)} {d : Nat} {ty : TypeId} {pos : String} {after : Array Edge} (i : Nat) (hm : ev E m = some (.one (.raw z) v)) (hi : L[i]? = some (Res.map P kid kt vt v l)) (hk : ktChk P kt kid = true) (ht : P.underlying mt = some (.map kid e)) (hd : Nat.ble (d + 1) n = true)
    (g : ∀ it, (l.map (·.1)).Nodup → koks kt l → Go F n ((d, .one (.raw (.pointer none)) it) :: E) (L.set i (Res.iter P kid kt vt v it l (l.map (·.1)) none)) (wpList P ops Q rest)) : Go F n E L (wpList P ops Q (⟨some d, .range mt m, ty, pos, after, none⟩ :: rest)) := fun M a w c => by
  obtain ⟨b, lv, rfl, hown, hrel, hok⟩ := map_val c.st hi
  have hmv := (holds_raw.1 (ev_ok c hm)).1
  have hnd := own_nodup hk hown hrel hok
  have hlt := hown.lt
  have hown0 := hown
  obtain ⟨es, clock, hb, hF, hsz, hD⟩ := hown
  have hrange := World.ownsMap.range (t := mt) (e := e) hown0 (keyed_of hk) ht
  have hrun0 := run_range_map (P := P) w mt kid e b es clock ht hb
  obtain ⟨w', hrun, hranges, hg, hsize⟩ := hrange
  have hww : w' = w.alloc (.mapIter (some b) clock #[] clock) := by
    rw [hrun0] at hrun; cases hrun; rfl
  subst hww
  have he : (execOp a.eval ⟨some d, .range mt m, ty, pos, after, none⟩).run P w = .ok (.value (.pointer (some ⟨w.heap.size, 0, none⟩))) (w.alloc (.mapIter (some b) clock #[] clock)) := by
    have : (Instr.range mt (a.eval m)).run P w = .ok (.pointer (some ⟨w.heap.size, 0, none⟩)) (w.alloc (.mapIter (some b) clock #[] clock)) := by rw [hmv]; exact hrun
    exact run_val this
  have hfacts : (∀ k, kok kt k → (Maps.has (dat kt lv) (klit kt k) = true ↔ k ∈ l.map (·.1))) ∧ ∀ k ∈ l.map (·.1), kok kt k ∧ (pget kt k l).isSome := by
    have hlk := hrel.koks hok
    have mem : ∀ k, kok kt k → ((pget kt k l).isSome = true ↔ k ∈ l.map (·.1)) := fun k hkk => by
      rw [pget_isSome, List.any_eq_true]
      constructor
      · rintro ⟨p, hp, he⟩; exact List.mem_map.2 ⟨p, hp, (keq_iff (hok p hp)).1 he⟩
      · intro h; obtain ⟨p, hp, e⟩ := List.mem_map.1 h; exact ⟨p, hp, (keq_iff (hok p hp)).2 e⟩
    have same : ∀ k, (pget kt k lv).isSome = (pget kt k l).isSome := fun k => by
      rcases hrel.get k with ⟨a1, a2⟩ | ⟨_, _, a1, a2, _⟩ <;> rw [a1, a2] <;> rfl
    refine ⟨fun k hkk => by rw [dat_has hkk hlk, same, mem k hkk], fun k hk' => ?_⟩
    obtain ⟨p, hp, rfl⟩ := List.mem_map.1 hk'
    exact ⟨hok p hp, (mem _ (hok p hp)).2 (List.mem_map.2 ⟨p, hp, rfl⟩)⟩
  refine step_val (d := d) rfl (by simp [Region.wanted]) he (g _ hnd hok M _ _ (c.put (Mem.le.refl _) ?_ (Nat.le_of_ble_eq_true hd) (holds_raw.2 ⟨rfl, rfl⟩)))
  have hst : St F M (w.alloc (.mapIter (some b) clock #[] clock)) (Res.block w.heap.size (.mapIter (some b) clock #[] clock) :: L) := c.st.new ⟨fun k => Iff.rfl, by simp⟩
  refine hst.sep_to fun V hs => Sep.join2 ?_ hs hi
  rintro S1 S2 ⟨hS1, _⟩ ⟨b', lv', e1, hS2, hown', hrel', hok'⟩
  cases e1
  refine ⟨b, w.heap.size, lv, _, _, rfl, rfl, fun k => by show S1 k ∨ S2 k ↔ _; rw [hS1 k, hS2 k]; exact or_comm, hranges, hrel, hok, hnd, hfacts.1, hfacts.2, fun p hp => by cases hp⟩

theorem mem_mid {α : Type} {A B : List α} {x k : α} (h : k ∈ A ++ B) : k ∈ A ++ x :: B := by
  rcases List.mem_append.1 h with h | h
  · exact List.mem_append_left _ h
  · exact List.mem_append_right _ (List.mem_cons_of_mem _ h)
theorem mem_of_mid {α : Type} {A B : List α} {x k : α} (h : k ∈ A ++ x :: B) (hne : k ≠ x) : k ∈ A ++ B := by
  rcases List.mem_append.1 h with h | h
  · exact List.mem_append_left _ h
  · rcases List.mem_cons.1 h with h | h
    · exact absurd h hne
    · exact List.mem_append_right _ h
/-- the loop is over, or one more entry comes -/
theorem r_next {x : Operand} {z v it : Value} {kid : TypeId} {kt vt : T} {l : List (kt.D × vt.D)} {todo : List kt.D} {cur : Option (kt.D × vt.D)} {d : Nat} {ty : TypeId} {pos : String} {after : Array Edge} (i : Nat) (hx : ev E x = some (.one (.raw z) it)) (hi : L[i]? = some (Res.iter P kid kt vt v it l todo cur)) (hk : ktChk P kt kid = true) (hd : Nat.ble (d + 1) n = true)
    (hend : todo = [] → Go F n ((d, .tup [⟨.bool, false⟩]) :: E) L (wpList P ops Q rest))
    (hone : ∀ k y A B, todo = A ++ k :: B → pget kt k l = some y → kok kt k → Go F n ((d, .tup [⟨.bool, true⟩, ⟨kt, k⟩, ⟨vt, y⟩]) :: E) (L.set i (Res.iter P kid kt vt v it l (A ++ B) (some (k, y)))) (wpList P ops Q rest)) :
    Go F n E L (wpList P ops Q (⟨some d, .next x false, ty, pos, after, none⟩ :: rest)) := fun M a w c => by
  obtain ⟨S, b, r, lv, left, cnt, rfl, rfl, hS, hran, hrel, hok, hnd, hleft, htodo, hcur⟩ := c.st.res hi
  have hxv := (holds_raw.1 (ev_ok c hx)).1
  have hlk := hrel.koks hok
  have hne := hran.ne
  have hrl := hran.lt
  have hbl := hran.owns.lt
  rcases hran.next (keyed_of hk) ty with ⟨_, hnone, hrun⟩ | ⟨key, val, kl, y, w', cnt', hkey, hl, hRv, hat, hrun, hran', hlt, hg, hsz, hentry⟩
  · have he : (execOp a.eval ⟨some d, .next x false, ty, pos, after, none⟩).run P w = .ok (.value (.tuple #[.bool false])) w := run_val (by rw [hxv]; exact hrun)
    have ht : todo = [] := List.eq_nil_iff_forall_not_mem.2 fun k hk' => by
      have := (hleft k (htodo k hk').1).2 hk'
      rw [hnone] at this; cases this
    exact step_val (d := d) rfl (by simp [Region.wanted]) he (hend ht M _ _ (c.put (Mem.le.refl _) c.st (Nat.le_of_ble_eq_true hd) ⟨[.bool false], rfl, .cons (holds_bool.2 rfl) .nil⟩))
  · have he : (execOp a.eval ⟨some d, .next x false, ty, pos, after, none⟩).run P w = .ok (.value (.tuple #[.bool true, key, val])) w' := run_val (by rw [hxv]; exact hrun)
    cases hRv
    -- which key it is
    have hex : ∃ p ∈ l, klit kt p.1 = kl ∧ ∃ q ∈ lv, q.1 = p.1 := by
      obtain ⟨es, clock, since, seen, c0, hb, hF, hs0, hD, hr, _, _, _, hl2, _⟩ := hran
      obtain ⟨e0, he0, ek⟩ := hl2 kl hl
      have hm : WideElems.rg P kid rawR e0 ∈ lv.map fun p => (klit kt p.1, DataW.held p.2) := by
        have : WideElems.rg P kid rawR e0 ∈ (es.toList.map (WideElems.rg P kid rawR)).foldr DataW.insert [] := mem_sorted.2 (List.mem_map.2 ⟨e0, he0, rfl⟩)
        simp only [DataW.map.injEq] at hD
        rw [← hD] at this; exact this
      obtain ⟨q, hq, eq⟩ := List.mem_map.1 hm
      have key2 : ∀ {lv : List (kt.D × Value)} {l : List (kt.D × vt.D)}, RelKV M lv l → ∀ q ∈ lv, ∃ p ∈ l, p.1 = q.1 := by
        intro lv
        induction lv with
        | nil => intro l _ q hq; cases hq
        | cons a r ih =>
          intro l hr q hq
          cases l with
          | nil => exact hr.elim
          | cons c s =>
            rcases List.mem_cons.1 hq with rfl | hq
            · exact ⟨c, by simp, hr.1.symm⟩
            · obtain ⟨p, hp, e⟩ := ih hr.2.2 q hq
              exact ⟨p, by simp [hp], e⟩
      obtain ⟨p, hp, e⟩ := key2 hrel q hq
      refine ⟨p, hp, ?_, q, hq, e.symm⟩
      rw [e, ← ek, ← eq]
    obtain ⟨p, hp, hpk, _⟩ := hex
    have hkok : kok kt p.1 := hok p hp
    subst hpk
    have hin : p.1 ∈ todo := (hleft p.1 hkok).1 hl
    obtain ⟨A, B, hAB⟩ := List.append_of_mem hin
    obtain ⟨v0, x0, hg1, hg2, hh⟩ : ∃ v x, pget kt p.1 lv = some v ∧ pget kt p.1 l = some x ∧ Holds vt M v x := by
      rcases hrel.get p.1 with ⟨_, g2⟩ | h
      · have := (htodo p.1 hin).2
        rw [g2] at this; cases this
      · exact h
    have hv0 : v0 = val := by
      have h1 := hat (.held (.bool false))
      rw [dat_at hkok hlk, hg1] at h1
      simpa using h1
    subst hv0
    have hkv : Holds kt M key p.1 := holds_key hk hkok hkey
    have hst' : St F M w' (L.set i (Res.iter P kid kt vt (.map (some b)) (.pointer (some ⟨r, 0, none⟩)) l (A ++ B) (some (p.1, x0)))) := by
      refine c.st.turn hi (B := fun k => k = r) ?_ ?_ ?_ hg.os hg.tape hg.output hg.size
      · rintro S' ⟨b', r', lv', left', cnt2, e1, e2, hS', _⟩
        cases e1; cases e2
        have hnd2 : (A ++ p.1 :: B).Nodup := hAB ▸ hnd
        have hnd3 : (p.1 :: (A ++ B)).Nodup := (List.perm_middle.nodup_iff).1 hnd2
        refine ⟨b, r, lv, _, cnt', rfl, rfl, hS', hran', hrel, hok, (List.nodup_cons.1 hnd3).2, fun k hkk => ?_, fun k hk' => htodo k (by rw [hAB]; exact mem_mid hk'), ?_⟩
        · simp only [Bool.and_eq_true, Bool.not_eq_true', hleft k hkk, klit_same hkk hkok]
          rw [hAB]
          constructor
          · rintro ⟨h1, h2⟩
            have hne2 : k ≠ p.1 := fun e => by rw [(keq_iff hkk).2 e] at h2; cases h2
            exact mem_of_mid h1 hne2
          · intro h1
            refine ⟨mem_mid h1, ?_⟩
            cases hq : keq kt k p.1 with
            | false => rfl
            | true =>
              have := (keq_iff hkk).1 hq
              subst this
              exact absurd h1 (List.nodup_cons.1 hnd3).1
        · rintro q hq
          cases hq
          obtain ⟨_, _, since, seen, c0, _, _, _, _, hr', _⟩ := hran'
          exact ⟨key, v0, hkv, hh, fun w2 f1 f2 => entry_local hr' hentry f1 f2⟩
      · rintro S' ⟨b', r', lv', left', cnt2, e1, e2, hS', _⟩ k rfl
        cases e1; cases e2; exact (hS' _).2 (.inr rfl)
      · intro k hk'
        rcases Nat.lt_or_ge k w.heap.size with h | h
        · exact hg.block k h (fun e1 => hk' (by cases e1; rfl))
        · rw [Array.getElem?_eq_none (by omega), Array.getElem?_eq_none h]
    exact step_val (d := d) rfl (by simp [Region.wanted]) he (hone p.1 x0 A B hAB hg2 hkok M _ _ (c.put (Mem.le.refl _) hst' (Nat.le_of_ble_eq_true hd) ⟨[.bool true, key, v0], rfl, .cons (holds_bool.2 rfl) (.cons hkv (.cons hh .nil))⟩))

/-- the entry that came -/
theorem y_entry {x : Operand} {z v it : Value} {kid : TypeId} {kt vt : T} {l : List (kt.D × vt.D)} {todo : List kt.D} {k : kt.D} {y : vt.D} (i : Nat) (hx : ev E x = some (.one (.raw z) it)) (hi : L[i]? = some (Res.iter P kid kt vt v it l todo (some (k, y)))) :
    Yields Same P F n E L (.entry x) (.tup [⟨kt, k⟩, ⟨vt, y⟩]) := fun o hop M a w c => by
  obtain ⟨S, b, r, lv, left, cnt, rfl, rfl, hS, hran, hrel, hok, hnd, hleft, htodo, hcur⟩ := c.st.res hi
  have hxv := (holds_raw.1 (ev_ok c hx)).1
  obtain ⟨kv, xv, h1, h2, h3⟩ := hcur _ rfl
  refine ⟨.tuple #[kv, xv], ⟨[kv, xv], rfl, .cons h1 (.cons h2 .nil)⟩, fun w' hs => ?_⟩
  obtain ⟨dst, op, ty, pos, after, guard⟩ := o
  simp only at hop; subst hop
  exact run_val (by rw [hxv]; exact h3 w' (hs b hran.owns.lt) (hs r hran.lt))

/-- the loop is behind us -/
theorem r_unrange {X : Act → World → Prop} {v it : Value} {kid : TypeId} {kt vt : T} {l : List (kt.D × vt.D)} {todo : List kt.D} {cur : Option (kt.D × vt.D)} (i : Nat) (hi : L[i]? = some (Res.iter P kid kt vt v it l todo cur)) (g : Go F n E (L.set i (Res.map P kid kt vt v l)) X) : Go F n E L X := fun M a w c => by
  have key : ∀ {L : List Res} {i : Nat} {V : Nat → Prop}, Sep M w L V → L[i]? = some (Res.iter P kid kt vt v it l todo cur) → ∃ V', Sep M w (L.set i (Res.map P kid kt vt v l)) V' ∧ ∀ k, V' k → V k := by
    intro L
    induction L with
    | nil => intro i V _ hi; simp at hi
    | cons R L ih =>
      rintro i V ⟨S, V', r0, s, d, e⟩ hi
      cases i with
      | zero =>
        simp only [List.getElem?_cons_zero, Option.some.injEq] at hi; subst hi
        obtain ⟨b, r, lv, left, cnt, rfl, rfl, hS, hran, hrel, hok, _⟩ := r0
        refine ⟨fun k => k = b ∨ V' k, ⟨fun k => k = b, V', ⟨b, lv, rfl, fun k => Iff.rfl, hran.owns, hrel, hok⟩, s, ?_, fun _ => Iff.rfl⟩, ?_⟩
        · rintro k rfl; exact d _ ((hS _).2 (.inl rfl))
        · rintro k (rfl | h)
          · exact (e _).2 (.inl ((hS _).2 (.inl rfl)))
          · exact (e k).2 (.inr h)
      | succ i =>
        obtain ⟨W, s', hW⟩ := ih s (by simpa using hi)
        exact ⟨fun k => S k ∨ W k, ⟨S, W, r0, s', fun k hk hw => d k hk (hW k hw), fun _ => Iff.rfl⟩, fun k hk => (e k).2 (hk.imp id (hW k))⟩
  obtain ⟨V, s, d⟩ := c.st.sep
  obtain ⟨W, s', hW⟩ := key s hi
  exact g M a w { c with st := { c.st with sep := ⟨W, s', fun k hk => d k (hW k hk)⟩ } }

/-- a loop whose state is anything -/
def BackI (F : Fr) (n : Nat) {σ : Type} (S : σ → Env) (R : σ → List Res) (μ : σ → Nat) (m : Nat) (a : Act) (w : World) : Prop := ∃ s' M, μ s' < m ∧ Cfg F M n (S s') (R s') a w
theorem r_loopI {σ : Type} {c1 : Code} (S : σ → Env) (R : σ → List Res) (μ : σ → Nat) (s : σ) (hE : E = S s) (hL : L = R s)
    (round : ∀ s, Go F n (S s) (R s) (c1.wp P (Exit.then (BackI F n S R μ (μ s)) Q))) : Go F n E L ((Code.loop c1).wp P Q) := by
  intro M a w c
  refine wp_loop_fuel (fun m a w => ∃ s' M, μ s' = m ∧ Cfg F M n (S s') (R s') a w) ?_ (m := μ s) ⟨s, M, rfl, by subst hE; subst hL; exact c⟩
  rintro m a w ⟨s', M', rfl, c'⟩
  refine wp_mono (round s' M' a w c') ?_
  intro e a w q
  cases e <;> first | exact q | skip
  obtain ⟨s'', M'', h1, h2⟩ := q
  exact ⟨μ s'', h1, s'', M'', rfl, h2⟩
theorem r_backI {σ : Type} {S : σ → Env} {R : σ → List Res} {μ : σ → Nat} {m : Nat} (s : σ) (hlt : μ s < m) (hE : E = S s) (hL : L = R s) : Go F n E L (BackI F n S R μ m) := fun M a w c => ⟨s, M, hlt, by subst hE; subst hL; exact c⟩
end
end Sx
