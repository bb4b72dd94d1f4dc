/-
  Own work. The files of the stand-in for a disk as one thing: a file is looked up, taken out, put back, laid, removed.
-/
import Derived.Test.YtpkjocjchkibaaaSxDisk
namespace Sx
open Go

/-- where the file of that name lies -/
def fptr (es : List (List Int × Value × FileS)) (name : List Int) : Value := (pget .str name (pmap (fun y => y.1) es)).getD NV

section
variable (P : Program) (I : DI)
def Res.dfiles (mv : Value) (fs : List (List Int × FileS)) : Res := Res.ex fun (es : List (List Int × Value × FileS)) => Res.all [Res.fact (fs = pmap (fun y => y.2) es), Res.dmap P I mv es, Res.files P I es]
/-- .. where that of one name is known to lie -/
def Res.dat (mv : Value) (fs : List (List Int × FileS)) (name : List Int) (q : Value) : Res := Res.ex fun (es : List (List Int × Value × FileS)) =>
  Res.all [Res.fact (fs = pmap (fun y => y.2) es ∧ fptr es name = q), Res.dmap P I mv es, Res.files P I es]
/-- .. but for one that is out -/
def Res.dhole (mv : Value) (fs : List (List Int × FileS)) (name : List Int) (q : Value) : Res := Res.ex fun (es : List (List Int × Value × FileS)) =>
  Res.all [Res.fact (fs = pmap (fun y => y.2) es ∧ fptr es name = q ∧ (pget .str name es).isSome), Res.dmap P I mv es, Res.files P I (pdel .str name es)]
/-- what 'found' leaves -/
def Res.dfound (mv : Value) (fs : List (List Int × FileS)) (name : List Int) (q : Value) (e : Int) : Res := if e = 0 then Res.dat P I mv fs name q else Res.dfiles P I mv fs
end

section
variable {P : Program} {I : DI} {Tb : Tab} {F : Fr} {n : Nat} {E E' : Env} {L : List Res} {X : Act → World → Prop} {ops : Array Oper} {Q : Exit → Act → World → Prop} {rest : List Oper}

theorem dat_dfiles {mv : Value} {fs : List (List Int × FileS)} {name : List Int} {q : Value} : ∀ M S w, (Res.dat P I mv fs name q).sat M S w → (Res.dfiles P I mv fs).sat M S w := fun M S w ⟨es, A, B, ⟨⟨h1, _⟩, h2⟩, h3⟩ => ⟨es, A, B, ⟨h1, h2⟩, h3⟩
theorem dfound_dfiles {mv : Value} {fs : List (List Int × FileS)} {name : List Int} {q : Value} {e : Int} : ∀ M S w, (Res.dfound P I mv fs name q e).sat M S w → (Res.dfiles P I mv fs).sat M S w := fun M S w h => by
  unfold Res.dfound at h
  split at h
  · exact dat_dfiles M S w h
  · exact h

/-- a resource at its place is another one -/
theorem Sep.imp_at {M : Mem} {w : World} {R R' : Res} (h : ∀ S, R.sat M S w → R'.sat M S w) : ∀ {L : List Res} {i : Nat} {V : Nat → Prop}, Sep M w L V → L[i]? = some R → Sep M w (L.set i R') V
  | [], i, _, _, hi => by simp at hi
  | R0 :: L, 0, V, ⟨S, V', r, s, d, e⟩, hi => by
    simp only [List.getElem?_cons_zero, Option.some.injEq] at hi; subst hi
    exact ⟨S, V', h S r, s, d, e⟩
  | R0 :: L, i + 1, V, ⟨S, V', r, s, d, e⟩, hi => ⟨S, V', r, Sep.imp_at h s (by simpa using hi), d, e⟩
theorem r_imp_at {R R' : Res} (i : Nat) (hi : L[i]? = some R) (h : ∀ M S w, R.sat M S w → R'.sat M S w) (g : Go F n E (L.set i R') X) : Go F n E L X := fun M a w c =>
  g M a w { c with st := c.st.sep_to fun _ hs => Sep.imp_at (fun S => h M S w) hs hi }

/-- several resources at the head are one -/
theorem r_fold {A : List Res} {R : Res} {L : List Res} (h : ∀ M S w, Sep M w A S → R.sat M S w) (g : Go F n E (R :: L) X) : Go F n E (A ++ L) X := r_all (r_imp h g)

/-- the pointers and the files -/
theorem dat_open {mv q : Value} {fs : List (List Int × FileS)} {name : List Int} {L : List Res} (hk : ktChk P .str I.str = true) (g : ∀ es, fs = pmap (fun y => y.2) es → fptr es name = q → koks .str es → (es.map (·.1)).Nodup → Go F n E (Res.dmap P I mv es :: Res.files P I es :: L) X) : Go F n E (Res.dat P I mv fs name q :: L) X :=
  r_unex fun es => r_unall (r_unfact fun h => r_dmap hk 0 rfl fun h1 h2 => g es h.1 h.2 h1 h2)
theorem dfiles_open {mv : Value} {fs : List (List Int × FileS)} {L : List Res} (hk : ktChk P .str I.str = true) (g : ∀ es, fs = pmap (fun y => y.2) es → koks .str es → (es.map (·.1)).Nodup → Go F n E (Res.dmap P I mv es :: Res.files P I es :: L) X) : Go F n E (Res.dfiles P I mv fs :: L) X :=
  r_unex fun es => r_unall (r_unfact fun h => r_dmap hk 0 rfl fun h1 h2 => g es h h1 h2)
theorem r_swap {A B : Res} (g : Go F n E (B :: A :: L) X) : Go F n E (A :: B :: L) X := r_perm (List.Perm.swap _ _ _) g

/-- v, ok := files[name] -/
theorem r_dlook {m x : Operand} {z mv : Value} {e mt : TypeId} {fs : List (List Int × FileS)} {name : List Int} {d : Nat} {ty : TypeId} {pos : String} {after : Array Edge} {L : List Res} (hk : ktChk P .str I.str = true) (hm : ev E m = some (.one (.raw z) mv)) (hx : ev E x = some (.one .str name)) (ht : P.underlying mt = some (.map I.str e))
    (hz : (P.info? e).bind (·.zero) = some NV) (hd : Nat.ble (d + 1) n = true)
    (g : ∀ q, Go F n ((d, .tup [⟨.raw NV, q⟩, ⟨.bool, (pget .str name fs).isSome⟩]) :: E) (Res.dat P I mv fs name q :: L) (wpList P ops Q rest)) : Go F n E (Res.dfiles P I mv fs :: L) (wpList P ops Q (⟨some d, .lookup mt m x true, ty, pos, after, none⟩ :: rest)) := by
  refine dfiles_open hk fun es h1 h2 h3 => ?_
  refine y (y_lookok (vt := .raw NV) 0 hm hx rfl hk ht hz rfl) hd ?_
  have hs : (pget .str name (pmap (fun y => y.1) es)).isSome = (pget .str name fs).isSome := by
    rw [h1, pmap_get, pmap_get, Option.isSome_map, Option.isSome_map]
  rw [hs]
  have := g (fptr es name)
  intro M a w c
  refine this M a w { c with st := c.st.sep_to fun V ⟨S, V', r, ⟨S2, V2, r2, s2, d2, e2⟩, d, e⟩ => ?_ }
  refine ⟨fun k => S k ∨ S2 k, V2, ⟨es, fun _ => False, fun k => S k ∨ S2 k, ⟨⟨h1, rfl⟩, fun _ h => h⟩, ⟨S, S2, r, ⟨S2, fun _ => False, r2, fun _ h => h, fun _ _ h => h, fun k => ⟨.inl, fun h => h.elim id False.elim⟩⟩, fun k hk h => d k hk ((e2 k).2 (.inl h)), fun _ => Iff.rfl⟩, fun _ h => h.elim, fun k => ⟨.inr, fun h => h.elim False.elim id⟩⟩, s2, ?_, ?_⟩
  · rintro k (h | h)
    · exact fun hv => d k h ((e2 k).2 (.inr hv))
    · exact d2 k h
  · intro k; rw [e k, e2 k]; exact or_assoc.symm

theorem sep_one {M : Mem} {w : World} {R : Res} {S : Nat → Prop} (h : R.sat M S w) : Sep M w [R] S := ⟨S, fun _ => False, h, fun _ h => h, fun _ _ h => h, fun k => ⟨.inl, fun h => h.elim id False.elim⟩⟩
theorem sep_fact {M : Mem} {w : World} {p : Prop} (hp : p) {L : List Res} {S : Nat → Prop} (h : Sep M w L S) : Sep M w (Res.fact p :: L) S :=
  ⟨fun _ => False, S, ⟨hp, fun _ h => h⟩, h, fun _ h => h.elim, fun k => ⟨.inr, fun h => h.elim False.elim id⟩⟩

/-- a file is taken out -/
theorem r_dfocus {mv q : Value} {fs : List (List Int × FileS)} {name : List Int} {f : FileS} {L : List Res} (hk : ktChk P .str I.str = true) (hf : pget .str name fs = some f)
    (g : ∀ fb sv tv dv, q = .pointer (some ⟨fb, 0, none⟩) → Go F n E (Res.var fb I.file FT (sv, tv, dv, ()) :: Res.own sv I.byte (.int .u8) f.1 :: Res.own tv I.byte (.int .u8) f.2.1 :: Res.dirty P I dv f.2.2 :: Res.dhole P I mv fs name q :: L) X) :
    Go F n E (Res.dat P I mv fs name q :: L) X := by
  refine dat_open hk fun es h1 h2 h3 h4 => ?_
  have hg : ∃ p, pget .str name es = some (p, f) := by
    rw [h1, pmap_get] at hf
    cases hp : pget .str name es with
    | none => rw [hp] at hf; cases hf
    | some y => rw [hp] at hf; simp only [Option.map_some, Option.some.injEq] at hf; exact ⟨y.1, by rw [← hf]⟩
  obtain ⟨p, hp⟩ := hg
  have hq : q = p := by rw [← h2]; unfold fptr; rw [pmap_get, hp]; rfl
  refine r_swap (r_focus h3 h4 hp ?_)
  refine r_unex fun ⟨fb, sv, tv, dv⟩ => r_unall (r_unfact fun h5 => ?_)
  have := g fb sv tv dv (hq.trans h5)
  intro M a w c
  refine this M a w { c with st := c.st.sep_to fun V hs => ?_ }
  -- what is left is the hole
  have key : ∀ {A : List Res} {V : Nat → Prop}, Sep M w (A ++ Res.files P I (pdel .str name es) :: Res.dmap P I mv es :: L) V → Sep M w (A ++ Res.dhole P I mv fs name q :: L) V := by
    intro A
    induction A with
    | nil =>
      rintro V ⟨S, V', r, ⟨S2, V2, r2, s2, d2, e2⟩, d, e⟩
      refine ⟨fun k => S2 k ∨ S k, V2, ⟨es, sep_fact ⟨h1, h2, by rw [hp]; rfl⟩ ⟨S2, S, r2, sep_one r, fun k h2 h1 => d k h1 ((e2 k).2 (.inl h2)), fun _ => Iff.rfl⟩⟩, s2, ?_, ?_⟩
      · rintro k (h | h)
        · exact d2 k h
        · exact fun hv => d k h ((e2 k).2 (.inr hv))
      · intro k; rw [e k, e2 k, or_left_comm]; exact or_assoc.symm
    | cons R A ih => rintro V ⟨S, V', r, s, d, e⟩; exact ⟨S, V', r, ih s, d, e⟩
  exact key (A := [_, _, _, _]) hs

/-- the sum of the parts is a file -/
theorem file_of {M : Mem} {w : World} {fb : Nat} {sv tv dv : Value} {f1 f2 f3 : List Int} {S : Nat → Prop} (h : Sep M w [Res.var fb I.file FT (sv, tv, dv, ()), Res.own sv I.byte (.int .u8) f1, Res.own tv I.byte (.int .u8) f2, Res.dirty P I dv f3] S) :
    (Res.file P I (.pointer (some ⟨fb, 0, none⟩)) (f1, f2, f3)).sat M S w := ⟨(fb, sv, tv, dv), sep_fact rfl h⟩

theorem files_of {M : Mem} {w : World} {es es' : List (List Int × Value × FileS)} {name : List Int} {q : Value} {f : FileS} {S : Nat → Prop} (hp : es'.Perm ((name, q, f) :: pdel .str name es)) (h : Sep M w [Res.files P I (pdel .str name es), Res.file P I q f] S) :
    (Res.files P I es').sat M S w := by
  obtain ⟨A, V, a, ⟨B, V2, b, hn, _, e2⟩, d, e⟩ := h
  have : Sep M w (Res.file P I q f :: (pdel .str name es).map fun e => Res.file P I e.2.1 e.2.2) S :=
    ⟨B, A, b, a, fun k hb ha => d k ha ((e2 k).2 (.inl hb)), fun k => by
      rw [e k, e2 k]
      constructor
      · rintro (h | h | h)
        · exact .inr h
        · exact .inl h
        · exact absurd h (hn k)
      · rintro (h | h)
        · exact .inr (.inl h)
        · exact .inl h⟩
  exact Sep.perm ((hp.map (fun e => Res.file P I e.2.1 e.2.2)).symm) this

/-- it is put back -/
theorem r_dunfocus {mv : Value} {fs : List (List Int × FileS)} {name : List Int} {f1 f2 f3 : List Int} {fb : Nat} {sv tv dv : Value} {L : List Res} (hk : ktChk P .str I.str = true)
    (g : Go F n E (Res.dat P I mv (pset .str name (f1, f2, f3) fs) name (.pointer (some ⟨fb, 0, none⟩)) :: L) X) :
    Go F n E (Res.var fb I.file FT (sv, tv, dv, ()) :: Res.own sv I.byte (.int .u8) f1 :: Res.own tv I.byte (.int .u8) f2 :: Res.dirty P I dv f3 :: Res.dhole P I mv fs name (.pointer (some ⟨fb, 0, none⟩)) :: L) X := by
  refine r_perm (L' := Res.dhole P I mv fs name (.pointer (some ⟨fb, 0, none⟩)) :: Res.var fb I.file FT (sv, tv, dv, ()) :: Res.own sv I.byte (.int .u8) f1 :: Res.own tv I.byte (.int .u8) f2 :: Res.dirty P I dv f3 :: L) (List.perm_middle (l₁ := [_, _, _, _]) (l₂ := L)) ?_
  refine r_unex fun es => r_unall (r_unfact fun ⟨h1, h2, h5⟩ => r_dmap hk 0 rfl fun h3 h4 => ?_)
  obtain ⟨⟨p, f⟩, hp⟩ := Option.isSome_iff_exists.1 h5
  obtain ⟨A, B, e1, e2⟩ := pget_split h3 h4 hp
  have hq : p = .pointer (some ⟨fb, 0, none⟩) := by rw [← h2]; unfold fptr; rw [pmap_get, hp]; rfl
  have e3 := pset_split (v := ((.pointer (some ⟨fb, 0, none⟩) : Value), ((f1, f2, f3) : FileS))) h3 h4 e1
  intro M a w c
  refine g M a w { c with st := c.st.sep_to fun V hs => ?_ }
  have hs' : Sep M w ([Res.dmap P I mv es, Res.files P I (pdel .str name es), Res.var fb I.file FT (sv, tv, dv, ()), Res.own sv I.byte (.int .u8) f1, Res.own tv I.byte (.int .u8) f2, Res.dirty P I dv f3] ++ L) V := hs
  obtain ⟨SA, SB, sa, sb, sd, se⟩ := Sep.split hs'
  refine ⟨SA, SB, ⟨pset .str name (.pointer (some ⟨fb, 0, none⟩), (f1, f2, f3)) es, sep_fact ?_ ?_⟩, sb, sd, se⟩
  · refine ⟨by rw [pmap_set, h1], ?_⟩
    unfold fptr
    rw [pmap_get, e3, pget_mid (A := A) h3 h4 e1]; rfl
  · obtain ⟨S1, V1, r1, s1, d1, e4⟩ := sa
    have s1' : Sep M w ([Res.files P I (pdel .str name es)] ++ [Res.var fb I.file FT (sv, tv, dv, ()), Res.own sv I.byte (.int .u8) f1, Res.own tv I.byte (.int .u8) f2, Res.dirty P I dv f3]) V1 := s1
    obtain ⟨SC, SD, sc, sdd, dd, ee⟩ := Sep.split s1'
    refine ⟨S1, V1, ?_, sep_one (files_of (name := name) (q := .pointer (some ⟨fb, 0, none⟩)) (f := (f1, f2, f3)) (es := es) ?_ ?_), d1, e4⟩
    · have : pmap (fun y : Value × FileS => y.1) (pset .str name (.pointer (some ⟨fb, 0, none⟩), (f1, f2, f3)) es) = pmap (fun y => y.1) es := by
        rw [e3, e1, hq]; simp [pmap]
      unfold Res.dmap
      rw [this]; exact r1
    · rw [e3, e2]; exact List.perm_middle
    · exact Sep.eqv (fun k => (ee k).symm) (Sep.append sc (sep_one (file_of sdd)) dd)

theorem dfiles_close {mv : Value} {fs : List (List Int × FileS)} {es : List (List Int × Value × FileS)} {L : List Res} (h : fs = pmap (fun y => y.2) es) (g : Go F n E (Res.dfiles P I mv fs :: L) X) : Go F n E (Res.dmap P I mv es :: Res.files P I es :: L) X := fun M a w c => by
  refine g M a w { c with st := c.st.sep_to fun V hs => ?_ }
  have hs' : Sep M w ([Res.dmap P I mv es, Res.files P I es] ++ L) V := hs
  obtain ⟨A, B, sa, sb, d, e⟩ := Sep.split hs'
  exact ⟨A, B, ⟨es, sep_fact h sa⟩, sb, d, e⟩
theorem dat_close {mv q : Value} {name : List Int} {fs : List (List Int × FileS)} {es : List (List Int × Value × FileS)} {L : List Res} (h : fs = pmap (fun y => y.2) es) (hq : fptr es name = q) (g : Go F n E (Res.dat P I mv fs name q :: L) X) : Go F n E (Res.dmap P I mv es :: Res.files P I es :: L) X := fun M a w c => by
  refine g M a w { c with st := c.st.sep_to fun V hs => ?_ }
  have hs' : Sep M w ([Res.dmap P I mv es, Res.files P I es] ++ L) V := hs
  obtain ⟨A, B, sa, sb, d, e⟩ := Sep.split hs'
  exact ⟨A, B, ⟨es, sep_fact ⟨h, hq⟩ sa⟩, sb, d, e⟩

/-- the others' files -/
theorem r_fdrop {es : List (List Int × Value × FileS)} {name : List Int} {L : List Res} (ho : koks .str es) (hn : (es.map (·.1)).Nodup) (g : Go F n E (Res.files P I (pdel .str name es) :: L) X) : Go F n E (Res.files P I es :: L) X := by
  cases hp : pget .str name es with
  | none => rw [pdel_none hp] at g; exact g
  | some y => exact r_focus (p := y.1) (f := y.2) ho hn hp (r_lose (.cons _ (List.Sublist.refl _)) g)

/-- delete(files, name) -/
theorem r_ddelete {m x : Operand} {z mv : Value} {e mt kx : TypeId} {fs : List (List Int × FileS)} {name : List Int} {ty : TypeId} {pos : String} {after : Array Edge} {L : List Res} (hk : ktChk P .str I.str = true) (hm : ev E m = some (.one (.raw z) mv)) (hx : ev E x = some (.one .str name)) (ht : P.underlying mt = some (.map I.str e))
    (hkx : kx = I.str) (g : Go F n E (Res.dfiles P I mv (pdel .str name fs) :: L) (wpList P ops Q rest)) : Go F n E (Res.dfiles P I mv fs :: L) (wpList P ops Q (⟨none, .call ⟨.builtin .delete, #[m, x], #[mt, kx]⟩, ty, pos, after, none⟩ :: rest)) := by
  refine dfiles_open hk fun es h1 h2 h3 => ?_
  refine r_delete (vt := .raw NV) 0 hm hx rfl hk ht hkx ?_
  refine r_swap (r_fdrop (name := name) h2 h3 (r_swap ?_))
  have e : pdel .str name (pmap (fun y : Value × FileS => y.1) es) = pmap (fun y => y.1) (pdel .str name es) := (pmap_del _ _ _).symm
  rw [e]
  exact dfiles_close (es := pdel .str name es) (by rw [h1, pmap_del]) g

/-- delete(files, name), its file being out -/
theorem r_ddelete_hole {m x : Operand} {z mv q : Value} {e mt kx : TypeId} {fs : List (List Int × FileS)} {name : List Int} {ty : TypeId} {pos : String} {after : Array Edge} {L : List Res} (hk : ktChk P .str I.str = true) (hm : ev E m = some (.one (.raw z) mv)) (hx : ev E x = some (.one .str name)) (ht : P.underlying mt = some (.map I.str e))
    (hkx : kx = I.str) (g : Go F n E (Res.dfiles P I mv (pdel .str name fs) :: L) (wpList P ops Q rest)) : Go F n E (Res.dhole P I mv fs name q :: L) (wpList P ops Q (⟨none, .call ⟨.builtin .delete, #[m, x], #[mt, kx]⟩, ty, pos, after, none⟩ :: rest)) := by
  refine r_unex fun es => r_unall (r_unfact fun ⟨h1, h2, h5⟩ => ?_)
  refine r_delete (vt := .raw NV) 0 hm hx rfl hk ht hkx ?_
  have e : pdel .str name (pmap (fun y : Value × FileS => y.1) es) = pmap (fun y => y.1) (pdel .str name es) := (pmap_del _ _ _).symm
  rw [e]
  exact dfiles_close (es := pdel .str name es) (by rw [h1, pmap_del]) g

theorem insert_sep {M : Mem} {w : World} {R : Res} {es es' : List (List Int × Value × FileS)} {name : List Int} {f1 f2 f3 : List Int} {fb : Nat} {sv tv dv : Value} {L : List Res} {V : Nat → Prop} (hp : es'.Perm ((name, (.pointer (some ⟨fb, 0, none⟩) : Value), ((f1, f2, f3) : FileS)) :: pdel .str name es))
    (h : Sep M w (R :: Res.files P I (pdel .str name es) :: Res.var fb I.file FT (sv, tv, dv, ()) :: Res.own sv I.byte (.int .u8) f1 :: Res.own tv I.byte (.int .u8) f2 :: Res.dirty P I dv f3 :: L) V) : Sep M w (R :: Res.files P I es' :: L) V := by
  obtain ⟨S1, V1, r1, s1, d1, e4⟩ := h
  have s1' : Sep M w (([Res.files P I (pdel .str name es)] ++ [Res.var fb I.file FT (sv, tv, dv, ()), Res.own sv I.byte (.int .u8) f1, Res.own tv I.byte (.int .u8) f2, Res.dirty P I dv f3]) ++ L) V1 := s1
  obtain ⟨SA, SB, sa, sb, sd, se⟩ := Sep.split s1'
  obtain ⟨SC, SD, sc, sdd, dd, ee⟩ := Sep.split sa
  refine ⟨S1, V1, r1, ⟨SA, SB, files_of (name := name) (q := .pointer (some ⟨fb, 0, none⟩)) (f := (f1, f2, f3)) (es := es) hp ?_, sb, sd, se⟩, d1, e4⟩
  exact Sep.eqv (fun k => (ee k).symm) (Sep.append sc (sep_one (file_of sdd)) dd)

/-- files[name] = the file that is out -/
theorem r_dinsert {m x y : Operand} {z mv : Value} {e mt : TypeId} {fs : List (List Int × FileS)} {name : List Int} {f1 f2 f3 : List Int} {fb : Nat} {sv tv dv : Value} {ty : TypeId} {pos : String} {after : Array Edge} {L : List Res} (hk : ktChk P .str I.str = true) (hm : ev E m = some (.one (.raw z) mv)) (hx : ev E x = some (.one .str name)) (hy : ev E y = some (.one (.raw NV) (.pointer (some ⟨fb, 0, none⟩)))) (ht : P.underlying mt = some (.map I.str e))
    (hroom : fs.length < 4611686018427387904) (g : Go F n E (Res.dat P I mv (pput .str name (f1, f2, f3) fs) name (.pointer (some ⟨fb, 0, none⟩)) :: L) (wpList P ops Q rest)) :
    Go F n E (Res.var fb I.file FT (sv, tv, dv, ()) :: Res.own sv I.byte (.int .u8) f1 :: Res.own tv I.byte (.int .u8) f2 :: Res.dirty P I dv f3 :: Res.dfiles P I mv fs :: L) (wpList P ops Q (⟨none, .mapUpdate mt m x y, ty, pos, after, none⟩ :: rest)) := by
  refine r_perm (L' := Res.dfiles P I mv fs :: Res.var fb I.file FT (sv, tv, dv, ()) :: Res.own sv I.byte (.int .u8) f1 :: Res.own tv I.byte (.int .u8) f2 :: Res.dirty P I dv f3 :: L) (List.perm_middle (l₁ := [_, _, _, _]) (l₂ := L)) ?_
  refine dfiles_open hk fun es h1 h2 h3 => ?_
  refine r_mapUpdate (vt := .raw NV) 0 hm hx hy rfl hk ht (by rw [h1] at hroom; simpa [pmap] using hroom) ?_
  refine r_swap (r_fdrop (name := name) h2 h3 (r_swap ?_))
  have e : pput .str name (.pointer (some ⟨fb, 0, none⟩)) (pmap (fun y : Value × FileS => y.1) es) = pmap (fun y => y.1) (pput .str name ((.pointer (some ⟨fb, 0, none⟩) : Value), ((f1, f2, f3) : FileS)) es) := (pmap_put (kt := .str) (fun y : Value × FileS => y.1) name ((.pointer (some ⟨fb, 0, none⟩) : Value), ((f1, f2, f3) : FileS)) es).symm
  rw [e]
  have hkk : ∀ M a w, Cfg F M n E (Res.dmap P I mv (pput .str name ((.pointer (some ⟨fb, 0, none⟩) : Value), ((f1, f2, f3) : FileS)) es) :: Res.files P I (pdel .str name es) :: Res.var fb I.file FT (sv, tv, dv, ()) :: Res.own sv I.byte (.int .u8) f1 :: Res.own tv I.byte (.int .u8) f2 :: Res.dirty P I dv f3 :: L) a w → Cfg F M n E (Res.dmap P I mv (pput .str name ((.pointer (some ⟨fb, 0, none⟩) : Value), ((f1, f2, f3) : FileS)) es) :: Res.files P I (pput .str name ((.pointer (some ⟨fb, 0, none⟩) : Value), ((f1, f2, f3) : FileS)) es) :: L) a w := fun M a w c =>
    { c with st := c.st.sep_to fun V hs => insert_sep (pput_perm _ _ _) hs }
  intro M a w c
  refine dat_close (name := name) (q := .pointer (some ⟨fb, 0, none⟩)) (by rw [h1, pmap_put]) ?_ g M a w (hkk M a w c)
  unfold fptr
  rw [pmap_get]
  have hok : kok .str name := by
    obtain ⟨hb, hm2⟩ := (holds_str.1 (ev_ok c hx)).2
    exact ⟨hb, hm2⟩
  rw [pget_put hok (koks_del h2)]
  rfl

/-- len(files) -/
theorem r_dlen {m : Operand} {z mv : Value} {e mt : TypeId} {fs : List (List Int × FileS)} {d : Nat} {ty : TypeId} {pos : String} {after : Array Edge} {L : List Res} (hk : ktChk P .str I.str = true) (hm : ev E m = some (.one (.raw z) mv)) (ht : P.underlying mt = some (.map I.str e)) (hl : fs.length ≤ most) (hd : Nat.ble (d + 1) n = true)
    (g : Go F n ((d, .one (.int .i64) fs.length) :: E) (Res.dfiles P I mv fs :: L) (wpList P ops Q rest)) : Go F n E (Res.dfiles P I mv fs :: L) (wpList P ops Q (⟨some d, .call ⟨.builtin .len, #[m], #[mt]⟩, ty, pos, after, none⟩ :: rest)) := by
  refine dfiles_open hk fun es h1 h2 h3 => ?_
  have hlen : (pmap (fun y : Value × FileS => y.1) es).length = fs.length := by rw [h1]; simp [pmap]
  refine y (y_maplen (vt := .raw NV) 0 hm rfl ht (by rw [hlen]; exact hl)) hd ?_
  rw [hlen]
  exact dfiles_close h1 g
end
end Sx
