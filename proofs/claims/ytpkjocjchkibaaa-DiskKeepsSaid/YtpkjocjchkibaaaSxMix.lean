/-
  Own work. Structs that hold slices of the call's own: a part of a variable takes another shape; such a struct is lent to a call that reads.
-/
import Derived.Test.YtpkjocjchkibaaaSxShelf
namespace Sx
open Go

/-- the shape with another one at the path's end -/
@[reducible] def Pth.sub : {t u : T} → Pth t u → T → T
  | _, _, .here, v => v
  | .pair _ b, _, .fst p, v => .pair (p.sub v) b
  | .pair a _, _, .snd p, v => .pair a (p.sub v)
  | .arr n t, _, .elem _ _, _ => .arr n t
@[reducible] def Pth.put : {t u : T} → (p : Pth t u) → (v : T) → t.D → v.D → (p.sub v).D
  | _, _, .here, _, _, y => y
  | .pair _ _, _, .fst p, v, x, y => (p.put v x.1 y, x.2)
  | .pair _ _, _, .snd p, v, x, y => (x.1, p.put v x.2 y)
  | .arr _ _, _, .elem _ _, _, x, _ => x
/-- no index on the way -/
@[reducible] def Pth.fields : {t u : T} → Pth t u → Bool
  | _, _, .here => true
  | _, _, .fst p => p.fields
  | _, _, .snd p => p.fields
  | _, _, .elem _ _ => false
theorem Pth.fields_ok : ∀ {t u : T} {p : Pth t u}, p.fields = true → p.ok
  | _, _, .here, _ => trivial
  | .pair _ _, _, .fst p, h => fields_ok (p := p) h
  | .pair _ _, _, .snd p, h => fields_ok (p := p) h

theorem Rep.put : ∀ {t u : T} (p : Pth t u) {v : T} {M : Mem} {cs d : List Value} {x : t.D} {y : v.D}, p.fields = true → Rep t M cs x → Rep v M d y → 
    Rep (p.sub v) M (cs.take p.off ++ d ++ cs.drop (p.off + u.size)) (p.put v x y)
  | t, _, .here, v, M, cs, d, x, y, _, h, g => by
    have := Rep.size h
    simp only [Pth.off, List.take_zero, List.nil_append, Nat.zero_add, ← this, List.drop_length, List.append_nil]; exact g
  | .pair a b, u, .fst p, v, M, cs, d, x, y, hok, ⟨c1, c2, e, h1, h2⟩, g => by
    have hs := Rep.size h1
    have hf := p.fits (Pth.fields_ok (p := p) hok)
    refine ⟨_, c2, ?_, Rep.put p hok h1 g, h2⟩
    simp only [Pth.off]
    rw [e, List.take_append_of_le_length (by omega), List.drop_append_of_le_length (by omega)]; simp
  | .pair a b, u, .snd p, v, M, cs, d, x, y, hok, ⟨c1, c2, e, h1, h2⟩, g => by
    have hs := Rep.size h1
    refine ⟨c1, _, ?_, h1, Rep.put p hok h2 g⟩
    simp only [Pth.off]
    rw [e, ← hs, List.take_length_add_append, Nat.add_assoc, ← List.drop_drop, List.drop_left]; simp

section
variable {P : Program} {Tb : Tab} {F : Fr} {M : Mem} {n : Nat} {E E' : Env} {L : List Res} {ops : Array Oper} {Q : Exit → Act → World → Prop} {rest : List Oper}

theorem r_storeraw {x y' : Operand} {z : Value} {b off : Nat} {e : TypeId} {t u v : T} {xv : t.D} {yv : v.D} {tid : TypeId} {ty : TypeId} {pos : String} {after : Array Edge} (i : Nat) (p : Pth t u) (hx : ev E x = some (.one (.raw z) (.pointer (some ⟨b, off, none⟩)))) (hy : ev E y' = some (.one v yv)) (hi : L[i]? = some (Res.var b e t xv))
    (hp : p.off = off) (hok : p.fields = true) (hs : v.size = u.size) (ht : tyChk P v tid = true) (g : Go F n E (L.set i (Res.var b e (p.sub v) (p.put v xv yv))) (wpList P ops Q rest)) : Go F n E L (wpList P ops Q (⟨none, .store tid x y', ty, pos, after, none⟩ :: rest)) := fun M a w c => by
  obtain ⟨cs, hb, hr⟩ := c.st.var hi
  have hl := hr.size
  have hf := p.fits (Pth.fields_ok hok)
  have h1 := (holds_raw.1 (ev_ok c hx)).1
  obtain ⟨ds, hds, hrun⟩ := run_storeVar (P := P) (w := w) ht hb (off := off) (by simp [hl, hs, ← hp]; exact hf) (unfrozen_zero _) (ev_ok c hy)
  unfold wpList
  rw [if_pos (by simp [Region.wanted])]
  left
  unfold Oper.wp
  rw [hs] at hrun
  have he : (execOp a.eval ⟨none, .store tid x y', ty, pos, after, none⟩).run P w = .ok .skip (setBlk w b (.cells (cs.take off ++ ds ++ cs.drop (off + u.size)).toArray e (0, 0))) := by
    have hrun' : (storeVar tid ⟨b, off, none⟩ (a.eval y')).run P w = .ok () (setBlk w b (.cells (cs.take off ++ ds ++ cs.drop (off + u.size)).toArray e (0, 0))) := hrun
    simp only [execOp, run_bind, h1, Instr.storeAt, Instr.sureAddr, run_pure, hrun']
  rw [he, Oper.upon_skip]
  refine g M _ _ (c.same (Mem.le.refl _) (c.st.turn hi (B := fun k => k = b) ?_ ?_ ?_ rfl rfl rfl (by simp [setBlk])))
  · rintro S ⟨hS, cs', hb', hr'⟩
    refine ⟨hS, cs.take off ++ ds ++ cs.drop (off + u.size), by rw [setBlk_get (heap_lt hb)]; simp, ?_⟩
    rw [← hp]
    exact Rep.put p hok hr hds
  · rintro S ⟨hS, _⟩ k rfl; exact (hS _).2 rfl
  · intro k hk; rw [setBlk_get (heap_lt hb), if_neg (fun h => hk h.symm)]
end

def heapOf (W : World) : Mem := fun k => W.heap[k]?

/-- data whose slices of the call's own are read as what they hold -/
inductive Emb (L : List Res) : (t' : T) → t'.D → (t : T) → t.D → Prop
  | same {t : T} {x : t.D} : Emb L t x t x
  | own {z v : Value} {e : TypeId} {t : T} {xs : List t.D} (i : Nat) (hi : L[i]? = some (Res.own v e t xs)) : Emb L (.raw z) v (.sl e t) xs
  | pair {a' b' a b : T} {x : a'.D} {x2 : b'.D} {y : a.D} {y2 : b.D} (h1 : Emb L a' x a y) (h2 : Emb L b' x2 b y2) : Emb L (.pair a' b') (x, x2) (.pair a b) (y, y2)

theorem emb_agg {L : List Res} {t' t : T} {x : t'.D} {y : t.D} (h : Emb L t' x t y) : t'.isAgg = t.isAgg := by cases h <;> rfl

theorem own_rep {F : Fr} {M : Mem} {w : World} {L : List Res} (st : St F M w L) {v : Value} {e : TypeId} {t : T} {xs : List t.D} {i : Nat} (hi : L[i]? = some (Res.own v e t xs)) : Rep (.sl e t) (heapOf w) [v] xs := by
  obtain ⟨S, hs⟩ := st.res hi
  rcases hs with ⟨⟨a0, rfl⟩, rfl, _⟩ | ⟨b, cap, rfl, h2, cc, fr, h3, h4, h5, h6, h7, h8⟩
  · exact rep_slice_nil
  · refine ⟨some ⟨b, 0, none⟩, cap, rfl, h7, h6, .inr ⟨rfl, cc, _, fr, h3, ?_, ?_⟩⟩
    · have := Nat.mul_le_mul_right t.size h6
      simp only; omega
    · have hle : M.le (heapOf w) := fun k o e => st.mem k o e
      simpa using RepL.mono (fun _ _ r => Rep.mono hle r) h4

theorem emb_rep {F : Fr} {M : Mem} {w : World} {L : List Res} (st : St F M w L) : ∀ {t' t : T} {x : t'.D} {y : t.D} {cs : List Value}, Emb L t' x t y → Rep t' M cs x → Rep t (heapOf w) cs y
  | _, _, _, _, _, .same, h => Rep.mono (fun k o e => st.mem k o e) h
  | _, _, _, _, _, .own i hi, h => by
    have := h.1
    subst this
    exact own_rep st hi
  | _, _, _, _, _, .pair h1 h2, ⟨c1, c2, e, r1, r2⟩ => ⟨c1, c2, e, emb_rep st h1 r1, emb_rep st h2 r2⟩

theorem emb_holds {F : Fr} {M : Mem} {w : World} {L : List Res} (st : St F M w L) {t' t : T} {x : t'.D} {y : t.D} {v : Value} (h : Emb L t' x t y) (g : Holds t' M v x) : Holds t (heapOf w) v y := by
  obtain ⟨cs, e, r⟩ := g
  exact ⟨cs, by rw [e]; unfold mk; rw [emb_agg h], emb_rep st h r⟩
end Sx
