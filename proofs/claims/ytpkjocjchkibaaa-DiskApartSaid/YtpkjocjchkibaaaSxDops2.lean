/-
  Own work. The disk as one thing; the rows of dirty sectors; a shorter piece of a slice.
-/
import Derived.Test.YtpkjocjchkibaaaSxDops
namespace Sx
open Go

/-- a number more in a rising row -/
def kput (k : Int) (ks : List Int) : List Int := (pput (.int .i64) k () (ks.map fun x => (x, ()))).map (·.1)
theorem kput_keys {V : Type} (k : Int) (c : V) (l : List (Int × V)) : (pput (.int .i64) k c l).map (·.1) = kput k (l.map (·.1)) := by
  have h := pmap_put (kt := .int .i64) (fun _ : V => ()) k c l
  have e : pmap (fun _ : V => ()) l = (l.map (·.1)).map fun x => (x, ()) := by simp [pmap]
  unfold kput
  rw [← e, ← h, pmap_keys]

section
variable (P : Program) (I : DI)
def Res.disk (p : Value) (D : DiskS) : Res := Res.ex fun (g : Nat × Value) => Res.all [Res.fact (p = .pointer (some ⟨g.1, 0, none⟩)),
  Res.var g.1 I.disk DT (D.1, g.2, D.2.2.1, D.2.2.2.1, D.2.2.2.2.1, D.2.2.2.2.2.1, D.2.2.2.2.2.2, ()), Res.dfiles P I g.2 D.2.1]
end

section
variable {P : Program} {I : DI} {Tb : Tab} {F : Fr} {n : Nat} {E E' : Env} {L : List Res} {ops : Array Oper} {Q : Exit → Act → World → Prop} {rest : List Oper} {X : Act → World → Prop}

theorem r_undisk {p : Value} {D : DiskS} (g : ∀ b mv, p = .pointer (some ⟨b, 0, none⟩) → Go F n E (Res.var b I.disk DT (D.1, mv, D.2.2.1, D.2.2.2.1, D.2.2.2.2.1, D.2.2.2.2.2.1, D.2.2.2.2.2.2, ()) :: Res.dfiles P I mv D.2.1 :: L) X) : Go F n E (Res.disk P I p D :: L) X :=
  r_unex fun ⟨b, mv⟩ => r_unall (r_unfact fun h => g b mv h)
theorem r_disk {b : Nat} {mv : Value} {D : DiskS} (g : Go F n E (Res.disk P I (.pointer (some ⟨b, 0, none⟩)) D :: L) X) : Go F n E (Res.var b I.disk DT (D.1, mv, D.2.2.1, D.2.2.2.1, D.2.2.2.2.1, D.2.2.2.2.2.1, D.2.2.2.2.2.2, ()) :: Res.dfiles P I mv D.2.1 :: L) X := fun M a w c => by
  refine g M a w { c with st := c.st.sep_to fun V hs => ?_ }
  have hs' : Sep M w ([Res.var b I.disk DT (D.1, mv, D.2.2.1, D.2.2.2.1, D.2.2.2.2.1, D.2.2.2.2.2.1, D.2.2.2.2.2.2, ()), Res.dfiles P I mv D.2.1] ++ L) V := hs
  obtain ⟨A, B, sa, sb, d, e⟩ := Sep.split hs'
  exact ⟨A, B, ⟨(b, mv), sep_fact rfl sa⟩, sb, d, e⟩
theorem disk_free {p : Value} {D : DiskS} : (Res.disk P I p D).free := Res.free_ex fun g => Res.free_all fun R hR => by
  rcases List.mem_cons.1 hR with rfl | hR
  · exact Res.free_fact
  rcases List.mem_cons.1 hR with rfl | hR
  · exact Res.free_var rfl
  rcases List.mem_cons.1 hR with rfl | hR
  · refine Res.free_ex fun es => Res.free_all fun R hR => ?_
    rcases List.mem_cons.1 hR with rfl | hR
    · exact Res.free_fact
    rcases List.mem_cons.1 hR with rfl | hR
    · exact Res.free_map rfl
    rcases List.mem_cons.1 hR with rfl | hR
    · refine Res.free_all fun R hR => ?_
      obtain ⟨e, _, rfl⟩ := List.mem_map.1 hR
      refine Res.free_ex fun g => Res.free_all fun R hR => ?_
      rcases List.mem_cons.1 hR with rfl | hR
      · exact Res.free_fact
      rcases List.mem_cons.1 hR with rfl | hR
      · exact Res.free_var rfl
      rcases List.mem_cons.1 hR with rfl | hR
      · exact Res.free_own rfl
      rcases List.mem_cons.1 hR with rfl | hR
      · exact Res.free_own rfl
      rcases List.mem_cons.1 hR with rfl | hR
      · refine Res.free_ex fun l => Res.free_all fun R hR => ?_
        rcases List.mem_cons.1 hR with rfl | hR
        · exact Res.free_fact
        rcases List.mem_cons.1 hR with rfl | hR
        · exact Res.free_map rfl
        · cases hR
      · cases hR
    · cases hR
  · cases hR

theorem r_undirty {v : Value} {keys : List Int} (i : Nat) (hi : L[i]? = some (Res.dirty P I v keys)) (g : ∀ l : List (Int × Int), l.map (·.1) = keys → Go F n E (L.set i (Res.map P I.int (.int .i64) (.int .i64) v l)) X) : Go F n E L X := fun M a w c => by
  have key : ∀ {L : List Res} {i : Nat} {V : Nat → Prop}, Sep M w L V → L[i]? = some (Res.dirty P I v keys) → ∃ l : List (Int × Int), l.map (·.1) = keys ∧ Sep M w (L.set i (Res.map P I.int (.int .i64) (.int .i64) v l)) V := by
    intro L
    induction L with
    | nil => intro i V _ hi; simp at hi
    | cons R L ih =>
      rintro i V ⟨S, V', r, s, d, e⟩ hi
      cases i with
      | zero =>
        simp only [List.getElem?_cons_zero, Option.some.injEq] at hi; subst hi
        obtain ⟨l, A, B, ⟨hl, hA⟩, ⟨C, D, r2, hD, _, e2⟩, _, e3⟩ := r
        refine ⟨l, hl, S, V', ?_, s, d, e⟩
        have : S = C := by
          funext k
          apply propext
          rw [e3 k, e2 k]
          exact ⟨fun h => h.elim (fun h => absurd h (hA k)) (fun h => h.elim id (fun h => absurd h (hD k))), fun h => .inr (.inl h)⟩
        rw [this]; exact r2
      | succ i =>
        obtain ⟨l, hl, s'⟩ := ih s (by simpa using hi)
        exact ⟨l, hl, S, V', r, s', d, e⟩
  obtain ⟨V, s, d⟩ := c.st.sep
  obtain ⟨l, hl, s'⟩ := key s hi
  exact g l hl M a w { c with st := { c.st with sep := ⟨V, s', d⟩ } }
theorem r_redirty {v : Value} {l : List (Int × Int)} {keys : List Int} (i : Nat) (hi : L[i]? = some (Res.map P I.int (.int .i64) (.int .i64) v l)) (hk : l.map (·.1) = keys) (g : Go F n E (L.set i (Res.dirty P I v keys)) X) : Go F n E L X :=
  r_imp_at (R' := Res.dirty P I v keys) i hi (fun _ _ _ h => ⟨l, sep_fact hk (sep_one h)⟩) g

/-- a shorter piece in place of the slice -/
theorem r_ownsub {v : Value} {e : TypeId} {t : T} {xs : List t.D} {j : Nat} (i : Nat) (hi : L[i]? = some (Res.own v e t xs)) (hj : j ≤ xs.length) (g : Go F n E (L.set i (Res.own (subv t.size v 0 j) e t (xs.take j))) X) : Go F n E L X :=
  r_imp_at (R' := Res.own (subv t.size v 0 j) e t (xs.take j)) i hi (fun M S w h => by
    rcases h with ⟨⟨a0, rfl⟩, rfl, hS⟩ | ⟨b, cap, rfl, h2, cc, fr, h3, h4, h5, h6, h7, h8⟩
    · left
      simp only [List.length_nil] at hj
      have hj : j = 0 := by omega
      subst hj
      exact ⟨⟨_, rfl⟩, by simp, hS⟩
    · right
      have hl : (xs.take j).length = j := by simp; omega
      refine ⟨b, cap, ?_, h2, cc, fr, h3, ?_, h5, by rw [hl]; omega, by rw [hl]; simp only [most] at *; omega, h8⟩
      · rw [hl]
        simp only [subv, Nat.zero_mul, Option.map_some, Nat.sub_zero, Addr.add]
        split <;> rfl
      · rw [hl]
        have := (RepL.split (s := t.size) (fun c x h => Rep.size h) j h4).1
        rw [List.take_take, Nat.min_eq_left (Nat.mul_le_mul_right _ hj)] at this
        exact this) g

/-- a slice held against nil -/
theorem r_slnil {x : Operand} {e : TypeId} {t : T} {xs : List t.D} {tid tid' : TypeId} {d : Nat} {ty : TypeId} {pos : String} {after : Array Edge} (hx : ev E x = some (.one (.sl e t) xs)) (hu : P.underlying tid = some (.slice e)) (hd : Nat.ble (d + 1) n = true)
    (g : ∀ b, (b = true → xs = []) → Go F n ((d, .one .bool b) :: E) L (wpList P ops Q rest)) : Go F n E L (wpList P ops Q (⟨some d, .binOp .eql tid x (.const (.slice none 0 0)) tid', ty, pos, after, none⟩ :: rest)) := fun M a w c => by
  obtain ⟨cs, e1, ad, cap, e2, hm, hcap, h4⟩ := ev_ok c hx
  have hv : a.eval x = .slice ad (List.length xs) cap := by rw [e1, e2]; rfl
  have hrun : ∃ b : Bool, (b = true → xs = []) ∧ (execOp a.eval ⟨some d, .binOp .eql tid x (.const (.slice none 0 0)) tid', ty, pos, after, none⟩).run P w = .ok (.value (.bool b)) w := by
    refine ⟨ad.isNone, fun h => ?_, ?_⟩
    · cases ad with
      | none => exact List.eq_nil_of_length_eq_zero h4
      | some _ => cases h
    · refine run_val ?_
      have hg : (eqGuard .eql tid x (.const (.slice none 0 0)) (a.eval x) (.slice none 0 0)).run P w = .ok () w := by rw [hv]; unfold eqGuard; rfl
      have hq : (Op.equal tid (a.eval x) (.slice none 0 0)).run P w = .ok ad.isNone w := by
        rw [hv]
        show (Op.equalIn (9999 + 1) tid _ _).run P w = _
        rw [Op.equalIn, run_bind, run_underlying hu]
        cases ad <;> rfl
      show ((do eqGuard .eql tid x (.const (.slice none 0 0)) (a.eval x) (.slice none 0 0); binOp .eql tid (a.eval x) (.slice none 0 0)) : Sem Value).run P w = _
      rw [run_bind, hg]
      show (binOp .eql tid (a.eval x) (.slice none 0 0)).run P w = _
      rw [hv] at hq ⊢
      simp only [binOp, run_bind, hq]; rfl
  obtain ⟨b, hb, he⟩ := hrun
  exact step_val (d := d) rfl (by simp [Region.wanted]) he (g b hb M _ _ (c.put (Mem.le.refl _) c.st (Nat.le_of_ble_eq_true hd) (holds_bool.2 rfl)))
end
end Sx
