/-
  Own work. A file is put back; the disk of which one name is known.
-/
import Derived.Test.YtpkjocjchkibaaaSxDops2
namespace Sx
open Go

theorem pset_same {kt : T} {V : Type} {k : kt.D} {y : V} {l : List (kt.D × V)} (ho : koks kt l) (hn : (l.map (·.1)).Nodup) (h : pget kt k l = some y) : pset kt k y l = l := by
  obtain ⟨A, B, e1, _⟩ := pget_split ho hn h
  rw [pset_split (v := y) ho hn e1, e1]

section
variable (P : Program) (I : DI)
/-- the disk behind a search -/
def Res.diskf (p : Value) (D : DiskS) (name : List Int) (q : Value) (e : Int) : Res := Res.ex fun (g : Nat × Value) => Res.all [Res.fact (p = .pointer (some ⟨g.1, 0, none⟩)),
  Res.var g.1 I.disk DT (D.1, g.2, D.2.2.1, D.2.2.2.1, D.2.2.2.2.1, D.2.2.2.2.2.1, D.2.2.2.2.2.2, ()), Res.dfound P I g.2 D.2.1 name q e]
/-- a disk, if there is one -/
def Res.diskif (p : Value) (D : DiskS) (e : Int) : Res := if e = 0 then Res.disk P I p D else Res.fact (p = NV)
end

section
variable {P : Program} {I : DI} {Tb : Tab} {F : Fr} {n : Nat} {E E' : Env} {L : List Res} {ops : Array Oper} {Q : Exit → Act → World → Prop} {rest : List Oper} {X : Act → World → Prop}

theorem dfound_dat {mv : Value} {fs : List (List Int × FileS)} {name : List Int} {q : Value} {e : Int} (h : e = 0) : ∀ M S w, (Res.dfound P I mv fs name q e).sat M S w → (Res.dat P I mv fs name q).sat M S w := fun M S w g => by
  unfold Res.dfound at g
  rwa [if_pos h] at g
theorem diskif_disk {p : Value} {D : DiskS} {e : Int} (h : e = 0) : ∀ M S w, (Res.diskif P I p D e).sat M S w → (Res.disk P I p D).sat M S w := fun M S w g => by
  unfold Res.diskif at g
  rwa [if_pos h] at g

theorem r_dunfocusG {mv : Value} {fs fs' : List (List Int × FileS)} {name : List Int} {f1 f2 f3 : List Int} {fb : Nat} {sv tv dv : Value} {L : List Res} (hk : ktChk P .str I.str = true)
    (hfs : koks .str fs → (fs.map (·.1)).Nodup → pset .str name (f1, f2, f3) fs = fs')
    (g : Go F n E (Res.dat P I mv fs' name (.pointer (some ⟨fb, 0, none⟩)) :: L) X) :
    Go F n E (Res.var fb I.file FT (sv, tv, dv, ()) :: Res.own sv I.byte (.int .u8) f1 :: Res.own tv I.byte (.int .u8) f2 :: Res.dirty P I dv f3 :: Res.dhole P I mv fs name (.pointer (some ⟨fb, 0, none⟩)) :: L) X := by
  intro M a w c
  have hkn : koks .str fs ∧ (fs.map (·.1)).Nodup := by
    have c' : Cfg F M n E (Res.dhole P I mv fs name (.pointer (some ⟨fb, 0, none⟩)) :: Res.var fb I.file FT (sv, tv, dv, ()) :: Res.own sv I.byte (.int .u8) f1 :: Res.own tv I.byte (.int .u8) f2 :: Res.dirty P I dv f3 :: L) a w :=
      { c with st := c.st.sep_to fun V hs => Sep.perm (List.perm_middle (l₁ := [_, _, _, _]) (l₂ := L)) hs }
    have : Go F n E (Res.dhole P I mv fs name (.pointer (some ⟨fb, 0, none⟩)) :: Res.var fb I.file FT (sv, tv, dv, ()) :: Res.own sv I.byte (.int .u8) f1 :: Res.own tv I.byte (.int .u8) f2 :: Res.dirty P I dv f3 :: L) (fun _ _ => koks .str fs ∧ (fs.map (·.1)).Nodup) := by
      refine r_unex fun es => r_unall (r_unfact fun ⟨h1, h2, h5⟩ => r_dmap hk 0 rfl fun h3 h4 => ?_)
      intro M a w _
      rw [h1]
      exact ⟨pmap_koks.2 h3, by rw [pmap_keys]; exact h4⟩
    exact this M a w c'
  refine r_dunfocus hk ?_ M a w c
  rw [hfs hkn.1 hkn.2]
  exact g
theorem r_dunfocus_same {mv : Value} {fs : List (List Int × FileS)} {name : List Int} {f : FileS} {fb : Nat} {sv tv dv : Value} {L : List Res} (hk : ktChk P .str I.str = true)
    (hf : pget .str name fs = some f)
    (g : Go F n E (Res.dat P I mv fs name (.pointer (some ⟨fb, 0, none⟩)) :: L) X) :
    Go F n E (Res.var fb I.file FT (sv, tv, dv, ()) :: Res.own sv I.byte (.int .u8) f.1 :: Res.own tv I.byte (.int .u8) f.2.1 :: Res.dirty P I dv f.2.2 :: Res.dhole P I mv fs name (.pointer (some ⟨fb, 0, none⟩)) :: L) X :=
  r_dunfocusG hk (fun ho hn => pset_same ho hn hf) g

theorem r_undiskb {b0 : Nat} {D : DiskS} (g : ∀ mv, Go F n E (Res.var b0 I.disk DT (D.1, mv, D.2.2.1, D.2.2.2.1, D.2.2.2.2.1, D.2.2.2.2.2.1, D.2.2.2.2.2.2, ()) :: Res.dfiles P I mv D.2.1 :: L) X) : Go F n E (Res.disk P I (.pointer (some ⟨b0, 0, none⟩)) D :: L) X :=
  r_undisk fun b mv h => by
    have : b0 = b := by simpa using h
    subst this; exact g mv
theorem r_undiskf {p : Value} {D : DiskS} {name : List Int} {q : Value} {e : Int} (g : ∀ b mv, p = .pointer (some ⟨b, 0, none⟩) → Go F n E (Res.var b I.disk DT (D.1, mv, D.2.2.1, D.2.2.2.1, D.2.2.2.2.1, D.2.2.2.2.2.1, D.2.2.2.2.2.2, ()) :: Res.dfound P I mv D.2.1 name q e :: L) X) : Go F n E (Res.diskf P I p D name q e :: L) X :=
  r_unex fun ⟨b, mv⟩ => r_unall (r_unfact fun h => g b mv h)
theorem r_undiskfb {b0 : Nat} {D : DiskS} {name : List Int} {q : Value} {e : Int} (g : ∀ mv, Go F n E (Res.var b0 I.disk DT (D.1, mv, D.2.2.1, D.2.2.2.1, D.2.2.2.2.1, D.2.2.2.2.2.1, D.2.2.2.2.2.2, ()) :: Res.dfound P I mv D.2.1 name q e :: L) X) : Go F n E (Res.diskf P I (.pointer (some ⟨b0, 0, none⟩)) D name q e :: L) X :=
  r_undiskf fun b mv h => by
    have : b0 = b := by simpa using h
    subst this; exact g mv
theorem r_diskf {b : Nat} {mv : Value} {D : DiskS} {name : List Int} {q : Value} {e : Int} (g : Go F n E (Res.diskf P I (.pointer (some ⟨b, 0, none⟩)) D name q e :: L) X) : Go F n E (Res.var b I.disk DT (D.1, mv, D.2.2.1, D.2.2.2.1, D.2.2.2.2.1, D.2.2.2.2.2.1, D.2.2.2.2.2.2, ()) :: Res.dfound P I mv D.2.1 name q e :: L) X := fun M a w c => by
  refine g M a w { c with st := c.st.sep_to fun V hs => ?_ }
  have hs' : Sep M w ([Res.var b I.disk DT (D.1, mv, D.2.2.1, D.2.2.2.1, D.2.2.2.2.1, D.2.2.2.2.2.1, D.2.2.2.2.2.2, ()), Res.dfound P I mv D.2.1 name q e] ++ L) V := hs
  obtain ⟨A, B, sa, sb, d, e⟩ := Sep.split hs'
  exact ⟨A, B, ⟨(b, mv), sep_fact rfl sa⟩, sb, d, e⟩
/-- what is found, and what is not -/
theorem r_isfound {mv : Value} {fs : List (List Int × FileS)} {name : List Int} {q : Value} (g : Go F n E (Res.dfound P I mv fs name q 0 :: L) X) : Go F n E (Res.dat P I mv fs name q :: L) X := g
theorem r_notfound {mv : Value} {fs : List (List Int × FileS)} {name : List Int} {q : Value} {e : Int} (he : e ≠ 0) (g : Go F n E (Res.dfound P I mv fs name q e :: L) X) : Go F n E (Res.dfiles P I mv fs :: L) X := by
  have : Res.dfound P I mv fs name q e = Res.dfiles P I mv fs := by unfold Res.dfound; rw [if_neg he]
  rw [this] at g
  exact g
end
end Sx
