/-
  Own work, of several texts. WalKeeps, plain: a frame is written, made safe, taken back.
  WalKeeps, plain: Append.
  WalKeeps, plain: Append and Reset of a log that lives.
  WalKeeps, plain: the keeper's Appends and Resets.
  WalKeeps, plain: what Open tells behind a loss of power.
  WalKeeps, plain: again.
  WalKeeps, plain: the law.
-/
import Derived.Test.YtfgbjaoendfhdaaGreatDoorPlain1
import Derived.Test.YtfgbjaoendfhdaaGreatDoorDefs
import Derived.KernelRfl
namespace Sx
open Go
theorem ujP {V : Type} {a q : List Int} (v : V) (l : List (List Int × V)) : q ∈ (pput .str a v l).map (·.1) ↔ q = a ∨ q ∈ l.map (·.1) := by
  have hp := ueS (a := a) v (pdel .str a l)
  have : q ∈ (pput .str a v l).map (·.1) ↔ q ∈ a :: (pdel .str a l).map (·.1) := hp.mem_iff
  rw [this, List.mem_cons]
  constructor
  · rintro (h | h)
    · exact .inl h
    · obtain ⟨x, hx, rfl⟩ := List.mem_map.1 h
      exact .inr (List.mem_map_of_mem (uhZ hx))
  · rintro (h | h)
    · exact .inl h
    · by_cases e : q = a
      · exact .inl e
      · obtain ⟨x, hx, rfl⟩ := List.mem_map.1 h
        refine .inr (List.mem_map_of_mem ?_)
        rw [uev]
        exact List.mem_filter.2 ⟨hx, by simpa using e⟩
theorem ulk (n : Nat) (p : PayS) (U : List Int) : uaq n (p ++ [U]) = uaq n p ++ uax (n + p.length) U := by
  rw [ugr]
  simp [uaq]
theorem unH {fs fs' : List (List Int × FileS)} {nm : List Int} {k : Int} {n : Nat} {init : List PayS} {p : PayS} {U : List Int} {ds : List Int} (h : InvF fs nm k n (init ++ [p])) (hok : FsOk fs')
    (hg : pget .str (fileN nm (k + init.length)) fs' = some (over (uaB fs (fileN nm (k + init.length))) (lenF p) (uax (n + cnt init + p.length) U), udJ fs (fileN nm (k + init.length)), ds))
    (hds : ∀ x, x ∈ ds ↔ x ∈ udj fs (fileN nm (k + init.length)) ∨ (uax (n + cnt init + p.length) U ≠ [] ∧ (lenF p : Int) / 64 ≤ x ∧ x * 64 < (lenF p : Int) + (uax (n + cnt init + p.length) U).length))
    (hne : ∀ b, fileN nm (k + init.length) ≠ b → pget .str b fs' = pget .str b fs) (hk : ∀ f, f ∈ fs'.map (·.1) ↔ f ∈ fs.map (·.1)) : InvW fs' nm k n init p U := by
  have hC := h.last
  have hsn : uaB fs (fileN nm (k + init.length)) = uaq (n + cnt init) p := by unfold uaB; rw [hC.last]; rfl
  have hsf : udJ fs (fileN nm (k + init.length)) = uaq (n + cnt init) p := by unfold udJ; rw [hC.last]; rfl
  have hdr : udj fs (fileN nm (k + init.length)) = [] := by unfold udj; rw [hC.last]
  have hfl := ua0 (n + cnt init + p.length) U
  have hrm := (ubw U.length).1
  rw [hsn, hsf] at hg
  have hov : over (uaq (n + cnt init) p) (lenF p) (uax (n + cnt init + p.length) U) = uaq (n + cnt init) p ++ uax (n + cnt init + p.length) U := by
    unfold over
    have hl := uaF (n + cnt init) p
    rw [List.take_of_length_le (by omega), List.drop_of_length_le (by omega), List.append_nil]
  rw [hov] at hg
  refine ⟨hok, fun f => by rw [hk]; exact hC.keys f, fun i q hq => ?_, ⟨ds, hg, fun x => ?_⟩, hC.good, h.good p (by simp), h.k0, hC.kM⟩
  · have hi : i < init.length := by
      rcases Nat.lt_or_ge i init.length with g | g
      · exact g
      · rw [List.getElem?_eq_none g] at hq; cases hq
    have := h.k0
    have := hC.kM
    rw [hne _ (fun e => by
      have := uc4 (by omega) (by omega) e
      omega)]
    exact hC.files i q hq
  · rw [hds, hdr, hfl]
    constructor
    · rintro (e | ⟨_, e⟩)
      · cases e
      · exact e
    · intro e
      refine .inr ⟨fun e0 => ?_, e⟩
      rw [e0] at hfl
      simp at hfl
      omega
theorem unI {fs fs' : List (List Int × FileS)} {nm : List Int} {k : Int} {n : Nat} {gs : List PayS} {U : List Int} {ds : List Int} (h : InvF fs nm k n gs) (hM : k + (gs.length + 1 : Nat) ≤ 10000000) (hok : FsOk fs')
    (hg : pget .str (fileN nm (k + gs.length)) fs' = some (over (uaB fs (fileN nm (k + gs.length))) 0 (uax (n + cnt gs) U), udJ fs (fileN nm (k + gs.length)), ds))
    (hds : ∀ x, x ∈ ds ↔ x ∈ udj fs (fileN nm (k + gs.length)) ∨ (uax (n + cnt gs) U ≠ [] ∧ 0 ≤ x ∧ x * 64 < (0 : Int) + (uax (n + cnt gs) U).length))
    (hne : ∀ b, fileN nm (k + gs.length) ≠ b → pget .str b fs' = pget .str b fs) (hk : ∀ f, f ∈ fs'.map (·.1) ↔ f = fileN nm (k + gs.length) ∨ f ∈ fs.map (·.1)) (hno : pget .str (fileN nm (k + gs.length)) fs = none) : InvW fs' nm k n gs [] U := by
  have hsn : uaB fs (fileN nm (k + gs.length)) = [] := by unfold uaB; rw [hno]; rfl
  have hsf : udJ fs (fileN nm (k + gs.length)) = [] := by unfold udJ; rw [hno]; rfl
  have hdr : udj fs (fileN nm (k + gs.length)) = [] := by unfold udj; rw [hno]
  have hfl := ua0 (n + cnt gs) U
  have hrm := (ubw U.length).1
  rw [hsn, hsf] at hg
  have hov : over [] 0 (uax (n + cnt gs) U) = uax (n + cnt gs) U := by unfold over; simp
  rw [hov] at hg
  refine ⟨hok, fun f => ?_, fun i q hq => ?_, ⟨ds, by simpa [uaq] using hg, fun x => ?_⟩, h.good, (fun q hq => by cases hq), h.k0, hM⟩
  · rw [hk, h.keys]
    constructor
    · rintro (rfl | ⟨x, hx, rfl⟩)
      · exact ⟨k + gs.length, by omega, rfl⟩
      · exact ⟨x, by omega, rfl⟩
    · rintro ⟨x, hx, rfl⟩
      by_cases e : x = k + gs.length
      · exact .inl (by rw [e])
      · exact .inr ⟨x, by omega, rfl⟩
  · have hi : i < gs.length := by
      rcases Nat.lt_or_ge i gs.length with g | g
      · exact g
      · rw [List.getElem?_eq_none g] at hq; cases hq
    have := h.k0
    rw [hne _ (fun e => by
      have := uc4 (by omega) (by omega) e
      omega)]
    exact h.files i q hq
  · rw [hds, hdr, hfl]
    simp only [lenF, List.map_nil, List.sum_nil]
    constructor
    · rintro (e | ⟨_, e⟩)
      · cases e
      · exact e
    · intro e
      refine .inr ⟨fun e0 => ?_, e⟩
      rw [e0] at hfl
      simp at hfl
      omega
theorem InvW.fname {fs : List (List Int × FileS)} {nm : List Int} {k : Int} {n : Nat} {init : List PayS} {p : PayS} {U : List Int} (h : InvW fs nm k n init p U) {i : Nat} (hi : i < init.length) : fileN nm (k + init.length) ≠ fileN nm (k + i) := fun e => by
  have := h.k0
  have := h.kM
  have := uc4 (by omega) (by omega) e
  omega
theorem InvW.put {fs : List (List Int × FileS)} {nm : List Int} {k : Int} {n : Nat} {init : List PayS} {p q : PayS} {U : List Int} (h : InvW fs nm k n init p U) (hq : goodL q) (hlen : (uaq (n + cnt init) q).length ≤ 1048576) : InvF (pset .str (fileN nm (k + init.length)) (uaq (n + cnt init) q, uaq (n + cnt init) q, []) fs) nm k n (init ++ [q]) := by
  obtain ⟨ds, hl, _⟩ := h.last
  refine InvC.whole ?_ hq
  refine ⟨FsOk.set h.ok ⟨ued _ hq, ued _ hq, hlen, Nat.le_refl _, List.nodup_nil, fun s hs => (by cases hs)⟩, fun f => by rw [ucq]; exact h.keys f, fun i r hr => ?_, udp hl, h.good, h.k0, h.kM⟩
  have hi : i < init.length := by
    rcases Nat.lt_or_ge i init.length with g | g
    · exact g
    · rw [List.getElem?_eq_none g] at hr; cases hr
  rw [ue3 _ (h.fname hi)]
  exact h.files i r hr
theorem InvW.gone {fs : List (List Int × FileS)} {nm : List Int} {k : Int} {n : Nat} {init : List PayS} {U : List Int} (h : InvW fs nm k n init [] U) : InvF (pdel .str (fileN nm (k + init.length)) fs) nm k n init := by
  have hM := h.kM
  have h0 := h.k0
  refine ⟨h.ok.del _, fun f => ?_, fun i q hq => ?_, h.good, h.k0, by omega⟩
  · have : f ∈ (pdel .str (fileN nm (k + init.length)) fs).map (·.1) ↔ f ∈ fs.map (·.1) ∧ f ≠ fileN nm (k + init.length) := by
      rw [uev]
      constructor
      · intro hm
        obtain ⟨x, hx, rfl⟩ := List.mem_map.1 hm
        rw [List.mem_filter] at hx
        exact ⟨List.mem_map_of_mem hx.1, by simpa using hx.2⟩
      · rintro ⟨hm, hn⟩
        obtain ⟨x, hx, rfl⟩ := List.mem_map.1 hm
        exact List.mem_map_of_mem (List.mem_filter.2 ⟨hx, by simpa using hn⟩)
    rw [this, h.keys]
    constructor
    · rintro ⟨⟨x, hx, rfl⟩, hn⟩
      refine ⟨x, ⟨hx.1, ?_⟩, rfl⟩
      have : x ≠ k + init.length := fun e => hn (by rw [e])
      omega
    · rintro ⟨x, hx, rfl⟩
      refine ⟨⟨x, by omega, rfl⟩, fun e => ?_⟩
      have := uc4 (by omega) (by omega) e
      omega
  · have hi : i < init.length := by
      rcases Nat.lt_or_ge i init.length with g | g
      · exact g
      · rw [List.getElem?_eq_none g] at hq; cases hq
    rw [uec (h.fname hi)]
    exact h.files i q hq
structure Books (n : Nat) (gs : List PayS) (first : Int) (acked : PayS) (b : Nat) : Prop where
  full : Full gs
  low : (n : Int) ≤ first
  high : first ≤ ((n + cnt gs : Nat) : Int)
  acked : acked = gs.flatten.drop (first - (n : Int)).toNat
  bound : n + cnt gs ≤ b
def Alive (nm : List Int) (mo : Int) (D : DiskS) (l : LogS) (first : Int) (acked : PayS) (b : Nat) : Prop :=
  D.2.2.2.2.2.1 = false ∧ ∃ k n gs, InvF D.2.1 nm k n gs ∧ Books n gs first acked b ∧ l = ((), nm, mo, uaE k n gs, ((n + cnt gs : Nat) : Int), false, ())
def Dead (nm : List Int) (D : DiskS) (first : Int) (acked : PayS) (U : List Int) (b : Nat) : Prop :=
  (D.2.2.2.2.2.1 = true → D.2.2.2.2.2.2 = true) ∧ ((∃ k n gs, InvF D.2.1 nm k n gs ∧ Books n gs first acked b) ∨
    (∃ k n init p, InvW D.2.1 nm k n init p U ∧ Books n (init ++ [p]) first acked b ∧ U.length ≤ 65536 ∧ uan U))
theorem uck : ∀ (gs : List PayS) (k : Int) (n : Nat), (uaE k n gs).length = gs.length
  | [], _, _ => rfl
  | p :: r, k, n => by rw [uaE, List.length_cons, uck r, List.length_cons]
end Sx
namespace Sx
open Go
theorem InvF.fresh {fs : List (List Int × FileS)} {nm : List Int} {k : Int} {n : Nat} {gs : List PayS} (h : InvF fs nm k n gs) (hM : k + (gs.length + 1 : Nat) ≤ 10000000) : pget .str (fileN nm (k + gs.length)) fs = none := by
  refine get_none.2 fun hm => ?_
  obtain ⟨x, hx, e⟩ := (h.keys _).1 hm
  have := h.k0
  have := uc4 (by omega) (by omega) e
  omega
theorem unJ (p : PayS) (U : List Int) : lenF (p ++ [U]) = lenF p + room U.length := by rw [uoq]; simp [lenF]
theorem ufX {nm : List Int} {mo : Int} {D : DiskS} {first : Int} {acked : PayS} {b : Nat} {U : List Int} {k : Int} {n : Nat} {gs init : List PayS} {p : PayS} {fresh : Bool} {en : Int} (hr : uch nm = true) (hb : b < 1152921504606846976) (hU : uan U) (hUl : U.length ≤ 65536)
    (ho : D.2.2.2.2.2.1 = false) (hI : InvF D.2.1 nm k n gs) (hB : Books n gs first acked b) (hf : fresh = true → p = [] ∧ gs = init) (hnf : fresh = false → gs = init ++ [p]) (hM : k + (init.length + 1 : Nat) ≤ 10000000) (hfull : Full (init ++ [p])) (hlast : fresh = true → Full (gs ++ [[]]))
    (hplace : ucH ((), nm, mo, uaE k n gs, ((n + cnt gs : Nat) : Int), false, ()) (room U.length : Int) D = some ((k + init.length, (lenF p : Int), en, ()), fresh)) :
    ∃ e l' D', ubb ((), nm, mo, uaE k n gs, ((n + cnt gs : Nat) : Int), false, ()) U D = some (e, l', D') ∧
      ((e = 0 ∧ Alive nm mo D' l' first (acked ++ [U]) (b + 1) ∧ l'.2.2.2.2.1 = ((n + cnt gs : Nat) : Int) + 1) ∨
      (e ≠ 0 ∧ e ≠ 9 ∧ l' = ((), nm, mo, uaE k n gs, ((n + cnt gs : Nat) : Int), false, ()) ∧ Alive nm mo D' l' first acked b) ∨
      (e = 9 ∧ l'.2.2.2.2.2.1 = true ∧ l'.2.2.2.2.1 = ((n + cnt gs : Nat) : Int) ∧ Dead nm D' first acked U b)) := by
  have hl24 : nm.length ≤ 24 := by
    unfold uch at hr
    rw [Bool.and_eq_true, decide_eq_true_eq] at hr
    exact hr.2
  have hk0 := hI.k0
  have hbd := hB.bound
  have hgl := hI.len
  have hr1 := ubw U.length
  have hcnt : n + cnt gs = n + cnt init + p.length := by
    cases hfr : fresh with
    | true => obtain ⟨rfl, rfl⟩ := hf hfr; simp
    | false => rw [hnf hfr, ude]; omega
  have hpl : p.length ≤ cnt gs := by omega
  have hfr : uek ((n + cnt gs : Nat) : Int) U = (uax (n + cnt gs) U, 0) := by
    unfold uek
    rw [if_neg (by omega), if_neg (by omega), Int.toNat_natCast]
  have hlen : (uax (n + cnt gs) U).length = room U.length := ua0 _ _
  have hname := uh5 hr (x := k + init.length) (by omega) (by omega)
  have hflat : gs.flatten = (init ++ [p]).flatten := by
    cases hfr : fresh with
    | true => obtain ⟨rfl, rfl⟩ := hf hfr; simp
    | false => rw [hnf hfr]
  have hBp : Books n (init ++ [p]) first acked b := ⟨hfull, hB.low, by rw [ude]; have := hB.high; omega, by rw [← hflat]; exact hB.acked, by rw [ude]; omega⟩
  have hBU : Books n (init ++ [p ++ [U]]) first (acked ++ [U]) (b + 1) := by
    refine ⟨fun q hq => ?_, hB.low, by rw [ude, List.length_append]; have := hB.high; simp only [List.length_cons, List.length_nil]; omega, ?_, by rw [ude, List.length_append]; simp only [List.length_cons, List.length_nil]; omega⟩
    · rw [List.dropLast_concat] at hq
      exact hfull.init q hq
    · have e : (init ++ [p ++ [U]]).flatten = gs.flatten ++ [U] := by rw [hflat, udA, udA, List.append_assoc]
      have hle : (first - (n : Int)).toNat ≤ gs.flatten.length := by
        have := hB.high
        have := hB.low
        show _ ≤ cnt gs
        omega
      rw [hB.acked, e, List.drop_append_of_le_length hle]
  unfold ubb
  rw [if_neg (show ¬ (false = true) by decide), if_neg (by rw [decide_eq_true_eq]; omega), if_neg (by rw [decide_eq_true_eq]; dsimp only; omega)]
  rw [uh1 _ U (by simp only [rng, lo, Sx.hi]; omega) hU (by omega), uat, hfr]
  dsimp only
  rw [if_neg (by decide), hlen, hplace, uat]
  dsimp only
  rw [if_neg (by rw [decide_eq_true_eq]; omega)]
  have hfile : ube ((), nm, mo, uaE k n gs, ((n + cnt gs : Nat) : Int), false, ()) (k + init.length) = some (fileN nm (k + init.length)) := ugc _ _ hl24 (by simp only [rng, lo, Sx.hi]; omega)
  rw [hfile, uat]
  have hatr : rng .i64 (lenF p : Int) := by
    have : (lenF p : Int) ≤ 1048576 := by
      cases hz : fresh with
      | true => obtain ⟨rfl, _⟩ := hf hz; simp [lenF]
      | false =>
        have hC := (by have h := hI; rw [hnf hz] at h; exact h.last : InvC D.2.1 nm k n init (uaq (n + cnt init) p))
        have := hC.bytes.2
        rw [uaF] at this
        omega
    simp only [rng, lo, Sx.hi]; omega
  have hgp : goodL p := by
    cases hz : fresh with
    | true => obtain ⟨rfl, _⟩ := hf hz; exact fun q hq => by cases hq
    | false => exact hI.good p (by rw [hnf hz]; simp)
  rcases umm (D := D) (name := fileN nm (k + init.length)) (at0 := (lenF p : Int)) (text := uax (n + cnt gs) U) hI.ok hatr (uix _ hU) (by rw [hlen]; omega) hname.2 with ⟨e, he, hw⟩ | ⟨_, _, h0, h1, h2, e, a, fl, o, q, fs', hc, hw, hok', ⟨ds, hg, hds⟩, hne, hkeys⟩
  ·
    rw [hw, uat, if_pos (by simpa using he)]
    refine ⟨_, _, _, rfl, ?_⟩
    by_cases h9 : e = 9
    · subst h9
      exact .inr (.inr ⟨rfl, rfl, rfl, fun h => (by rw [ho] at h; cases h), .inl ⟨k, n, gs, hI, hB⟩⟩)
    · refine .inr (.inl ⟨he, h9, ?_, ho, k, n, gs, hI, hB, ?_⟩)
      · have : (e == 9) = false := by simpa using h9
        dsimp only
        rw [this]
      · have : (e == 9) = false := by simpa using h9
        dsimp only
        rw [this]
  · obtain ⟨e', a', f', o', p', hc', hcase⟩ := ufo D 1
    rw [hc] at hc'
    simp only [Option.some.injEq, Prod.mk.injEq, true_and] at hc'
    obtain ⟨rfl, rfl, rfl, rfl, rfl⟩ := hc'
    rw [hw, uat]
    by_cases he0 : e = 0
    · subst he0
      rw [if_pos rfl]
      dsimp only
      rw [if_neg (show ¬ (((0 : Int) != 0) = true) by decide)]
      have ho' : o = false := by
        rcases hcase with ⟨h, _⟩ | ⟨_, h, _⟩
        · cases h
        · rw [h, ho]
      have hW : InvW fs' nm k n init p U := by
        cases hz : fresh with
        | true =>
          obtain ⟨rfl, rfl⟩ := hf hz
          have hno := hI.fresh hM
          refine unI (ds := ds) hI hM hok' ?_ ?_ hne ?_ hno
          · simpa [lenF] using hg
          · intro x
            have := hds x
            simpa [lenF] using this
          · intro f
            rw [hkeys, hno, if_neg (by simp), ujP]
        | false =>
          have hgs := hnf hz
          have hC : InvF D.2.1 nm k n (init ++ [p]) := by rw [← hgs]; exact hI
          have hsome : (pget .str (fileN nm (k + init.length)) D.2.1).isSome = true := by rw [hC.last.last]; rfl
          refine unH (ds := ds) hC hok' ?_ ?_ hne ?_
          · rw [← hcnt]
            simpa using hg
          · intro x
            rw [← hcnt]
            exact hds x
          · intro f
            rw [hkeys, if_pos hsome]
      rw [ual, uat]
      obtain ⟨ds2, hWl, hWd⟩ := hW.last
      obtain ⟨e2, a2, fl2, o2, q2, hc2, hs2⟩ := ulS (D := (D.1, fs', a, D.2.2.2.1, fl, o, q)) hok' ho' hWl
      obtain ⟨e3, a3, f3, o3, p3, hc3, hcase2⟩ := ufo (D.1, fs', a, D.2.2.2.1, fl, o, q) 2
      rw [hc2] at hc3
      simp only [Option.some.injEq, Prod.mk.injEq, true_and] at hc3
      obtain ⟨rfl, rfl, rfl, rfl, rfl⟩ := hc3
      rw [hs2, uat]
      rcases hcase2 with ⟨rfl, rfl, rfl⟩ | ⟨he, h3, h4⟩
      ·
        rw [if_neg (show ¬ ((9 : Int) = 0) by decide)]
        dsimp only
        rw [if_pos (show ((9 : Int) != 0) = true by decide), ual, ual, if_pos (show ((9 : Int) != 40) = true by decide)]
        exact ⟨_, _, _, rfl, .inr (.inr ⟨rfl, rfl, rfl, fun _ => rfl, .inr ⟨k, n, init, p, hW, hBp, hUl, hU⟩⟩)⟩
      · rcases he with rfl | rfl
        ·
          rw [if_pos rfl]
          dsimp only
          rw [if_neg (show ¬ (((0 : Int) != 0) = true) by decide), ual]
          have hw1 : IntKind.wrap .i64 ((lenF p : Int) + (room U.length : Int)) = (lenF (p ++ [U]) : Int) := by
            rw [unJ]
            simp only [rng, lo, Sx.hi] at hatr
            rw [uaN (by simp only [rng, lo, Sx.hi]; omega)]; omega
          have hw2 : IntKind.wrap .i64 (((n + cnt gs : Nat) : Int) + 1) = ((n + cnt gs + 1 : Nat) : Int) := by rw [uaN (by simp only [rng, lo, Sx.hi]; omega)]; omega
          have hgU : goodL (p ++ [U]) := fun x hx => by
            rcases List.mem_append.1 hx with hx | hx
            · exact hgp x hx
            · rw [List.mem_singleton.1 hx]; exact ⟨hU, hUl⟩
          have hfs : uaq (n + cnt init) p ++ uax (n + cnt init + p.length) U = uaq (n + cnt init) (p ++ [U]) := (ulk _ _ _).symm
          have hF' := hok'.get hWl
          rw [hfs] at hF'
          have hIU : InvF (pset .str (fileN nm (k + init.length)) (uaq (n + cnt init) p ++ uax (n + cnt init + p.length) U, uaq (n + cnt init) p ++ uax (n + cnt init + p.length) U, []) fs') nm k n (init ++ [p ++ [U]]) := by
            rw [hfs]
            exact hW.put hgU hF'.2.2.1
          have hseg : uaE k n (init ++ [p ++ [U]]) = uaE k n init ++ [(k + init.length, (lenF (p ++ [U]) : Int), ((n + cnt gs + 1 : Nat) : Int), ())] := by
            rw [udQ, if_pos (by simp), hcnt]
            simp [Nat.add_assoc]
          have hnx : n + cnt (init ++ [p ++ [U]]) = n + cnt gs + 1 := by rw [ude, List.length_append]; simp only [List.length_cons, List.length_nil]; omega
          have hdone : ∀ D' : DiskS, D'.2.1 = pset .str (fileN nm (k + init.length)) (uaq (n + cnt init) p ++ uax (n + cnt init + p.length) U, uaq (n + cnt init) p ++ uax (n + cnt init + p.length) U, []) fs' → D'.2.2.2.2.2.1 = false → Alive nm mo D' ((), nm, mo, uaE k n init ++ [(k + init.length, (lenF (p ++ [U]) : Int), ((n + cnt gs + 1 : Nat) : Int), ())], ((n + cnt gs + 1 : Nat) : Int), false, ()) first (acked ++ [U]) (b + 1) := by
            intro D' hD' hoD
            refine ⟨hoD, k, n, init ++ [p ++ [U]], by rw [hD']; exact hIU, ⟨hBU.full, hBU.low, hBU.high, hBU.acked, hBU.bound⟩, ?_⟩
            rw [hseg, hnx]
          have hilen : init.length ≤ 16 := by
            cases hz : fresh with
            | true => obtain ⟨_, rfl⟩ := hf hz; exact hgl
            | false => rw [hnf hz] at hgl; simp at hgl; omega
          cases hz : fresh with
          | true =>
            obtain ⟨rfl, rfl⟩ := hf hz
            rw [if_neg (show ¬ ((!true) = true) by decide)]
            dsimp only
            rw [ual, hw1, hw2, if_pos (by simp only [uck, List.length_cons, List.length_nil]; omega)]
            refine ⟨_, _, _, rfl, .inl ⟨rfl, hdone _ rfl (h3.trans ho'), ?_⟩⟩
            dsimp only
            omega
          | false =>
            have hgs := hnf hz
            have hsl : (uaE k n gs).length = init.length + 1 := by rw [uck, hgs]; simp
            have hwl : IntKind.wrap .i64 (((uaE k n gs).length : Int) - 1) = (init.length : Int) := by rw [hsl, uaN (by simp only [rng, lo, Sx.hi]; omega)]; omega
            have htk : List.take init.length (uaE k n gs) = uaE k n init := by
              rw [hgs, udQ, List.take_left' (uck _ _ _)]
            rw [if_pos (show (!false) = true by decide), hwl, if_pos (by rw [hsl]; omega), Int.toNat_natCast, htk]
            dsimp only
            rw [ual, hw1, hw2, if_pos (by simp only [uck, List.length_cons, List.length_nil]; omega)]
            refine ⟨_, _, _, rfl, .inl ⟨rfl, hdone _ rfl (h3.trans ho'), ?_⟩⟩
            dsimp only
            omega
        ·
          rw [if_neg (show ¬ ((40 : Int) = 0) by decide)]
          dsimp only
          rw [if_pos (show ((40 : Int) != 0) = true by decide), ual, ual, if_neg (show ¬ (((40 : Int) != 40) = true) by decide)]
          have hon : o2 = false := h3.trans ho'
          cases hz : fresh with
          | true =>
            obtain ⟨rfl, rfl⟩ := hf hz
            unfold ud0
            rw [if_pos rfl, ual]
            rw [hfile, uat, ujn (by exact hon), uat]
            dsimp only
            rw [hWl, Option.isSome_some, if_pos rfl]
            dsimp only
            rw [uat]
            exact ⟨_, _, _, rfl, .inr (.inl ⟨by decide, by decide, rfl, hon, k, n, gs, hW.gone, ⟨hB.full, hB.low, hB.high, hB.acked, hB.bound⟩, rfl⟩)⟩
          | false =>
            have hgs := hnf hz
            unfold ud0
            rw [if_neg (by decide)]
            rw [hfile, uat]
            dsimp only
            rw [ukM (D := (D.1, fs', a2, D.2.2.2.1, fl2, o2, q2)) hok' hon hWl (by omega) (by rw [List.length_append, uaF]; omega), uat]
            dsimp only
            rw [uat]
            have hcut : cutF (uaq (n + cnt init) p ++ uax (n + cnt init + p.length) U, uaq (n + cnt init) p, ds2) (lenF p : Int) = (uaq (n + cnt init) p, uaq (n + cnt init) p, []) := by
              unfold cutF
              dsimp only
              rw [Int.toNat_natCast, ← uaF (n + cnt init) p, List.take_left, List.take_length, uaF]
              have : udi ds2 (lenF p : Int) = [] := by
                unfold udi
                rw [List.filter_eq_nil_iff]
                intro x hx
                have hm := ukP p
                have hx2 := (hWd x).1 hx
                have hF := hok'.get hWl
                have hx3 := hF.2.2.2.2.2 x hx
                rw [uaN (by simp only [rng, lo, Sx.hi]; omega), decide_eq_true_eq]
                omega
              rw [this]
            rw [hcut]
            have hF := hok'.get hWl
            have hIb := hW.put hgp (by have := hF.2.2.1; dsimp only at this; rw [List.length_append] at this; omega)
            rw [← hgs] at hIb
            exact ⟨_, _, _, rfl, .inr (.inl ⟨by decide, by decide, rfl, hon, k, n, gs, hIb, ⟨hB.full, hB.low, hB.high, hB.acked, hB.bound⟩, rfl⟩)⟩
    ·
      rw [if_neg he0]
      dsimp only
      rw [if_pos (by simpa using he0)]
      refine ⟨_, _, _, rfl, ?_⟩
      rcases hcase with ⟨rfl, rfl, rfl⟩ | ⟨he, h3, h4⟩
      · exact .inr (.inr ⟨rfl, rfl, rfl, fun _ => rfl, .inl ⟨k, n, gs, hI, ⟨hB.full, hB.low, hB.high, hB.acked, hB.bound⟩⟩⟩)
      · have he40 : e = 40 := he.resolve_left he0
        subst he40
        exact .inr (.inl ⟨by decide, by decide, rfl, h3.trans ho, k, n, gs, hI, ⟨hB.full, hB.low, hB.high, hB.acked, hB.bound⟩, rfl⟩)
end Sx
namespace Sx
open Go
theorem ull {init : List PayS} {p : PayS} {k : Int} {n : Nat} : (uaE k n (init ++ [p])).getD init.length (0, 0, 0, ()) = (k + init.length, (lenF p : Int), if 0 < p.length then ((n + cnt init + p.length : Nat) : Int) else 0, ()) := by
  rw [udQ]
  have : (uaE k n init).length = init.length := uck _ _ _
  simp only [List.getD]
  rw [List.getElem?_append_right (by omega), this, Nat.sub_self]
  rfl
theorem umw {nm : List Int} {mo nx : Int} {k : Int} {n : Nat} {dead : Bool} {t : Int} {D : DiskS} : ucH ((), nm, mo, uaE k n [], nx, dead, ()) t D = some ((0, 0, 0, ()), true) := by
  unfold ucH
  rw [if_pos (by simp [uaE])]
theorem umx {nm : List Int} {mo nx : Int} {k : Int} {n : Nat} {dead : Bool} {t : Nat} {D : DiskS} {init : List PayS} {p : PayS} (hi : init.length ≤ 16) (h0 : 0 ≤ k) (hk : k ≤ 10000000) (hp : lenF p ≤ 1048576) (ht : t ≤ 1048576) :
    ucH ((), nm, mo, uaE k n (init ++ [p]), nx, dead, ()) (t : Int) D = some (if 0 < lenF p ∧ mo < (lenF p : Int) + (t : Int) then ((k + init.length + 1, 0, 0, ()), true) else ((k + init.length, (lenF p : Int), (if 0 < p.length then ((n + cnt init + p.length : Nat) : Int) else 0), ()), false)) := by
  have hlen : (uaE k n (init ++ [p])).length = init.length + 1 := by rw [uck]; simp
  have hw : IntKind.wrap .i64 (((uaE k n (init ++ [p])).length : Int) - 1) = (init.length : Int) := by rw [hlen, uaN (by simp only [rng, lo, Sx.hi]; omega)]; omega
  have hw2 : IntKind.wrap .i64 (k + (init.length : Int) + 1) = k + (init.length : Int) + 1 := uaN (by simp only [rng, lo, Sx.hi]; omega)
  have hw3 : IntKind.wrap .i64 ((lenF p : Int) + (t : Int)) = (lenF p : Int) + (t : Int) := uaN (by simp only [rng, lo, Sx.hi]; omega)
  unfold ucH
  dsimp only
  rw [if_neg (by rw [hlen]; simp; omega), hw, if_pos (by rw [hlen]; omega), ual, ual, Int.toNat_natCast, ull]
  dsimp only
  rw [hw2, hw3]
  by_cases h1 : 0 < lenF p
  · rw [if_pos (by rw [decide_eq_true_eq]; omega), ual]
    by_cases h2 : mo < (lenF p : Int) + (t : Int)
    · rw [if_pos (by rw [decide_eq_true_eq]; omega), ual, if_pos ⟨h1, h2⟩]
    · rw [if_neg (by rw [decide_eq_true_eq]; omega), if_neg (show ¬ (0 < lenF p ∧ mo < (lenF p : Int) + (t : Int)) from fun h => h2 h.2)]
  · rw [if_neg (by rw [decide_eq_true_eq]; omega), if_neg (show ¬ (false = true) by decide), if_neg (show ¬ (0 < lenF p ∧ mo < (lenF p : Int) + (t : Int)) from fun h => h1 h.1)]
theorem InvF.renum {fs : List (List Int × FileS)} {nm : List Int} {k : Int} {n : Nat} (h : InvF fs nm k n []) : InvF fs nm 0 n [] :=
  ⟨h.ok, fun f => by
    rw [h.keys]
    constructor
    · rintro ⟨x, hx, _⟩; simp at hx; omega
    · rintro ⟨x, hx, _⟩; simp at hx; omega, fun i p hp => (by simp at hp), fun p hp => (by cases hp), Int.le_refl _, by simp⟩
theorem InvF.lens {fs : List (List Int × FileS)} {nm : List Int} {k : Int} {n : Nat} {gs : List PayS} (h : InvF fs nm k n gs) : ∀ p ∈ gs, lenF p ≤ 1048576 ∧ p.length ≤ 16384 := fun p hp => by
  obtain ⟨i, hi, rfl⟩ := List.mem_iff_getElem.1 hp
  have := (h.ok.get (h.files i gs[i] (by simp [hi]))).2.2.1
  dsimp only at this
  rw [uaF] at this
  have h64 := uhl gs[i]
  exact ⟨this, by omega⟩
theorem ul2 {m : Nat} : ∀ {gs : List PayS}, (∀ p ∈ gs, p.length ≤ m) → gs.flatten.length ≤ gs.length * m
  | [], _ => by simp
  | p :: r, h => by
    have h1 := h p (by simp)
    have h2 := ul2 (gs := r) fun q hq => h q (by simp [hq])
    rw [List.flatten_cons, List.length_append, List.length_cons, Nat.succ_mul]
    omega
theorem InvF.cnt_le {fs : List (List Int × FileS)} {nm : List Int} {k : Int} {n : Nat} {gs : List PayS} (h : InvF fs nm k n gs) : cnt gs ≤ 262144 := by
  have h1 := ul2 (m := 16384) fun p hp => (h.lens p hp).2
  have h2 := h.len
  have : gs.length * 16384 ≤ 16 * 16384 := Nat.mul_le_mul_right _ h2
  unfold cnt
  omega
theorem Books.mono {n : Nat} {gs : List PayS} {first : Int} {acked : PayS} {b b' : Nat} (h : Books n gs first acked b) (hb : b ≤ b') : Books n gs first acked b' := ⟨h.full, h.low, h.high, h.acked, Nat.le_trans h.bound hb⟩
theorem ukR {nm : List Int} {mo : Int} {D : DiskS} {l : LogS} {first : Int} {acked : PayS} {b : Nat} {U : List Int} (hr : uch nm = true) (hb : b < 1152921504606846976) (hU : uan U) (hA : Alive nm mo D l first acked b) :
    ∃ e l' D', ubb l U D = some (e, l', D') ∧
      ((e = 0 ∧ U.length ≤ 65536 ∧ Alive nm mo D' l' first (acked ++ [U]) (b + 1) ∧ l'.2.2.2.2.1 = l.2.2.2.2.1 + 1) ∨
      (e ≠ 0 ∧ e ≠ 9 ∧ l' = l ∧ Alive nm mo D' l first acked b ∧ (65536 < U.length → e = 3)) ∨
      (e = 9 ∧ U.length ≤ 65536 ∧ l'.2.2.2.2.2.1 = true ∧ l'.2.2.2.2.1 = l.2.2.2.2.1 ∧ Dead nm D' first acked U b)) := by
  have hA0 := hA
  obtain ⟨ho, k, n, gs, hI, hB, rfl⟩ := hA
  by_cases hUl : 65536 < U.length
  · refine ⟨3, _, D, ?_, .inr (.inl ⟨by decide, by decide, rfl, hA0, fun _ => rfl⟩)⟩
    unfold ubb
    rw [if_neg (show ¬ (false = true) by decide), if_pos (by rw [decide_eq_true_eq]; omega)]
  have hUl' : U.length ≤ 65536 := by omega
  have hrm := ubw U.length
  have conv : (∃ e l' D', ubb ((), nm, mo, uaE k n gs, ((n + cnt gs : Nat) : Int), false, ()) U D = some (e, l', D') ∧
      ((e = 0 ∧ Alive nm mo D' l' first (acked ++ [U]) (b + 1) ∧ l'.2.2.2.2.1 = ((n + cnt gs : Nat) : Int) + 1) ∨
      (e ≠ 0 ∧ e ≠ 9 ∧ l' = ((), nm, mo, uaE k n gs, ((n + cnt gs : Nat) : Int), false, ()) ∧ Alive nm mo D' l' first acked b) ∨
      (e = 9 ∧ l'.2.2.2.2.2.1 = true ∧ l'.2.2.2.2.1 = ((n + cnt gs : Nat) : Int) ∧ Dead nm D' first acked U b))) →
    ∃ e l' D', ubb ((), nm, mo, uaE k n gs, ((n + cnt gs : Nat) : Int), false, ()) U D = some (e, l', D') ∧
      ((e = 0 ∧ U.length ≤ 65536 ∧ Alive nm mo D' l' first (acked ++ [U]) (b + 1) ∧ l'.2.2.2.2.1 = ((n + cnt gs : Nat) : Int) + 1) ∨
      (e ≠ 0 ∧ e ≠ 9 ∧ l' = ((), nm, mo, uaE k n gs, ((n + cnt gs : Nat) : Int), false, ()) ∧ Alive nm mo D' ((), nm, mo, uaE k n gs, ((n + cnt gs : Nat) : Int), false, ()) first acked b ∧ (65536 < U.length → e = 3)) ∨
      (e = 9 ∧ U.length ≤ 65536 ∧ l'.2.2.2.2.2.1 = true ∧ l'.2.2.2.2.1 = ((n + cnt gs : Nat) : Int) ∧ Dead nm D' first acked U b)) := by
    rintro ⟨e, l', D', h, hc⟩
    refine ⟨e, l', D', h, ?_⟩
    rcases hc with ⟨h1, h2, h3⟩ | ⟨h1, h2, h3, h4⟩ | ⟨h1, h2, h3, h4⟩
    · exact .inl ⟨h1, hUl', h2, h3⟩
    · exact .inr (.inl ⟨h1, h2, h3, by rw [← h3]; exact h4, fun h => absurd h hUl⟩)
    · exact .inr (.inr ⟨h1, hUl', h2, h3, h4⟩)
  rcases List.eq_nil_or_concat gs with rfl | ⟨init, p, e⟩
  · have hseg : uaE k n [] = uaE 0 n [] := rfl
    refine conv ?_
    rw [hseg]
    exact ufX (init := []) (p := []) (fresh := true) (en := 0) hr hb hU hUl' ho hI.renum hB (fun _ => ⟨rfl, rfl⟩) (fun h => by cases h) (by simp) (fun q hq => by simp at hq) (fun _ q hq => by simp at hq) umw
  · rw [List.concat_eq_append] at e
    subst e
    have hk0 := hI.k0
    have hkM := hI.kM
    have hgl := hI.len
    simp only [List.length_append, List.length_cons, List.length_nil] at hkM hgl
    have hpl := hI.lens p (by simp)
    have hpc := umx (nm := nm) (mo := mo) (nx := ((n + cnt (init ++ [p]) : Nat) : Int)) (k := k) (n := n) (dead := false) (t := room U.length) (D := D) (init := init) (p := p) (by omega) hk0 (by omega) hpl.1 (by omega)
    refine conv ?_
    by_cases hf : 0 < lenF p ∧ mo < (lenF p : Int) + (room U.length : Int)
    · rw [if_pos hf] at hpc
      have hpne : p ≠ [] := fun e => by subst e; exact absurd hf.1 (by simp [lenF])
      have hfull : Full ((init ++ [p]) ++ [[]]) := fun q hq => by
        rw [List.dropLast_concat] at hq
        rcases List.mem_append.1 hq with hq | hq
        · exact hB.full.init q hq
        · rw [List.mem_singleton.1 hq]; exact hpne
      have hnum : k + (init.length : Int) + 1 = k + ((init ++ [p]).length : Nat) := by simp; omega
      by_cases hM : k + ((init ++ [p]).length + 1 : Nat) ≤ 10000000
      · rw [hnum] at hpc
        exact ufX (init := init ++ [p]) (p := []) (fresh := true) (en := 0) hr hb hU hUl' ho hI hB (fun _ => ⟨rfl, rfl⟩) (fun h => by cases h) hM hfull (fun _ => hfull) hpc
      ·
        have hfr : uek ((n + cnt (init ++ [p]) : Nat) : Int) U = (uax (n + cnt (init ++ [p])) U, 0) := by
          unfold uek
          rw [if_neg (by omega), if_neg (by omega), Int.toNat_natCast]
        have hbd := hB.bound
        refine ⟨6, _, D, ?_, .inr (.inl ⟨by decide, by decide, rfl, hA0⟩)⟩
        unfold ubb
        rw [if_neg (show ¬ (false = true) by decide), if_neg (by rw [decide_eq_true_eq]; omega), if_neg (by rw [decide_eq_true_eq]; dsimp only; omega)]
        rw [uh1 _ U (by simp only [rng, lo, Sx.hi]; omega) hU (by omega), uat, hfr]
        dsimp only
        rw [if_neg (by decide), ua0, hpc, uat]
        dsimp only
        rw [if_pos (by
          rw [decide_eq_true_eq]
          simp only [List.length_append, List.length_cons, List.length_nil] at hM
          omega)]
    · rw [if_neg hf] at hpc
      exact ufX (init := init) (p := p) (fresh := false) hr hb hU hUl' ho hI hB (fun h => by cases h) (fun _ => rfl) (by omega) hB.full (fun h => by cases h) hpc
theorem InvF.tail {fs : List (List Int × FileS)} {nm : List Int} {k : Int} {n : Nat} {p : PayS} {r : List PayS} (h : InvF fs nm k n (p :: r)) : InvF (pdel .str (fileN nm k) fs) nm (k + 1) (n + p.length) r := by
  have hk0 := h.k0
  have hkM := h.kM
  rw [List.length_cons] at hkM
  refine ⟨h.ok.del _, fun f => ?_, fun i q hq => ?_, fun q hq => h.good q (by simp [hq]), by omega, by omega⟩
  · have : f ∈ (pdel .str (fileN nm k) fs).map (·.1) ↔ f ∈ fs.map (·.1) ∧ f ≠ fileN nm k := by
      rw [uev]
      constructor
      · intro hm
        obtain ⟨x, hx, rfl⟩ := List.mem_map.1 hm
        rw [List.mem_filter] at hx
        exact ⟨List.mem_map_of_mem hx.1, by simpa using hx.2⟩
      · rintro ⟨hm, hn⟩
        obtain ⟨x, hx, rfl⟩ := List.mem_map.1 hm
        exact List.mem_map_of_mem (List.mem_filter.2 ⟨hx, by simpa using hn⟩)
    rw [this, h.keys, List.length_cons]
    constructor
    · rintro ⟨⟨x, hx, rfl⟩, hn⟩
      refine ⟨x, ⟨?_, by omega⟩, rfl⟩
      have : x ≠ k := fun e => hn (by rw [e])
      omega
    · rintro ⟨x, hx, rfl⟩
      refine ⟨⟨x, by omega, rfl⟩, fun e => ?_⟩
      have := uc4 (by omega) (by omega) e
      omega
  · have hi : i < r.length := by
      rcases Nat.lt_or_ge i r.length with g | g
      · exact g
      · rw [List.getElem?_eq_none g] at hq; cases hq
    rw [uec (fun e => by
      have := uc4 (by omega) (by omega) e
      omega)]
    have := h.files (i + 1) q (by simpa using hq)
    rw [show k + 1 + (i : Int) = k + ((i + 1 : Nat) : Int) by omega, this]
    simp [cnt, Nat.add_assoc]
theorem ukS {nm : List Int} {mo nx m : Int} {fl0 : List SegS} (hr : uch nm = true) (K : (List SegS × DiskS) → Option (Int × LogS × DiskS)) : ∀ (gs : List PayS) (k : Int) (n : Nat) (D : DiskS) (j : Nat), gs.length < j → D.2.2.2.2.2.1 = false → InvF D.2.1 nm k n gs →
    ∃ (i : Nat) (D' : DiskS), i ≤ gs.length ∧ ucl ((), nm, mo, fl0, nx, false, ()) m K j (D, uaE k n gs) = K (uaE (k + i) (n + cnt (gs.take i)) (gs.drop i), D') ∧ D'.2.2.2.2.2.1 = false ∧ InvF D'.2.1 nm (k + i) (n + cnt (gs.take i)) (gs.drop i) ∧ ((n : Int) ≤ m → ((n + cnt (gs.take i) : Nat) : Int) ≤ m)
  | [], k, n, D, 0, h, _, _ => by simp at h
  | [], k, n, D, j + 1, _, ho, hI => by
    refine ⟨0, D, Nat.le_refl _, ?_, ho, by simpa [cnt] using hI, by simp [cnt]⟩
    have e : uaE k n [] = [] := rfl
    rw [e, ucl]
    dsimp only
    rw [ual, ual, if_neg (by simp)]
    dsimp only
    rw [if_neg (show ¬ (false = true) by decide)]
    rfl
  | p :: r, k, n, D, 0, h, _, _ => by simp at h
  | p :: r, k, n, D, j + 1, h, ho, hI => by
    have hl24 : nm.length ≤ 24 := by
      unfold uch at hr
      rw [Bool.and_eq_true, decide_eq_true_eq] at hr
      exact hr.2
    have hk0 := hI.k0
    have hkM := hI.kM
    rw [List.length_cons] at hkM h
    have hgl := hI.len
    rw [ucl]
    dsimp only
    rw [ual, ual, if_pos (by rw [decide_eq_true_eq, uck, List.length_cons]; omega), if_pos (by rw [uck, List.length_cons]; omega)]
    have hg0 : (uaE k n (p :: r)).getD 0 (0, 0, 0, ()) = (k, (lenF p : Int), (if 0 < p.length then ((n + p.length : Nat) : Int) else 0), ()) := rfl
    rw [hg0]
    dsimp only
    by_cases hend : (if 0 < p.length then ((n + p.length : Nat) : Int) else 0) ≤ m
    · rw [if_pos (by rw [decide_eq_true_eq]; exact hend), ual, if_pos (by rw [uck, List.length_cons]; omega)]
      have hfile : ube ((), nm, mo, uaE k n (p :: r), nx, false, ()) k = some (fileN nm k) := ugc _ _ hl24 (by simp only [rng, lo, Sx.hi]; omega)
      have hget := hI.files 0 p rfl
      simp only [Int.natCast_zero, Int.add_zero] at hget
      have hrem := ujn (D := D) (a := fileN nm k) ho
      rw [hget, Option.isSome_some, if_pos rfl] at hrem
      rw [hfile, uat, hrem, uat]
      dsimp only
      rw [if_neg (show ¬ (((0 : Int) != 0) = true) by decide), if_pos (by rw [uck, List.length_cons]; omega), Int.toNat_natCast, List.take_length]
      have hdr : List.drop 1 (uaE k n (p :: r)) = uaE (k + 1) (n + p.length) r := rfl
      rw [hdr]
      obtain ⟨i, D', h1, h2, h3, h4, h5⟩ := ukS (fl0 := fl0) (nx := nx) (mo := mo) hr K r (k + 1) (n + p.length) (D.1, pdel .str (fileN nm k) D.2.1, D.2.2.1, D.2.2.2.1, D.2.2.2.2.1, D.2.2.2.2.2.1, D.2.2.2.2.2.2) j (by omega) ho hI.tail
      have e1 : k + 1 + (i : Int) = k + ((i + 1 : Nat) : Int) := by omega
      have e2 : n + p.length + cnt (r.take i) = n + cnt ((p :: r).take (i + 1)) := by simp [cnt, Nat.add_assoc]
      refine ⟨i + 1, D', by rw [List.length_cons]; omega, ?_, h3, ?_, fun hm => ?_⟩
      · rw [h2, e1, e2, List.drop_succ_cons]
      · rw [e1, e2] at h4
        rw [List.drop_succ_cons]; exact h4
      · rw [← e2]
        refine h5 ?_
        by_cases hp : 0 < p.length
        · rw [if_pos hp] at hend; exact hend
        · have : p.length = 0 := by omega
          rw [this]; exact hm
    · rw [if_neg (by rw [decide_eq_true_eq]; exact hend)]
      exact ⟨0, D, Nat.zero_le _, by simp [cnt], ho, by simpa [cnt] using hI, by simp [cnt]⟩
theorem Full.drop {gs : List PayS} (h : Full gs) (i : Nat) : Full (gs.drop i) := fun p hp => h p (by
  have : (gs.drop i).dropLast = gs.dropLast.drop i := by
    rw [List.dropLast_eq_take, List.dropLast_eq_take, List.drop_take, List.length_drop]
    congr 1
    omega
  rw [this] at hp
  exact List.mem_of_mem_drop hp)
theorem ulm {nm : List Int} {mo : Int} {D : DiskS} {l : LogS} {first m : Int} {acked : PayS} {b : Nat} (hr : uch nm = true) (hb : b < 1152921504606846976) (hA : Alive nm mo D l first acked b) (h0 : first ≤ m) (h1 : m ≤ l.2.2.2.2.1) :
    ∃ l' D', ubS l m D = some (0, l', D') ∧ Alive nm mo D' l' m (acked.drop (m - first).toNat) b ∧ l'.2.2.2.2.1 = l.2.2.2.2.1 := by
  obtain ⟨ho, k, n, gs, hI, hB, rfl⟩ := hA
  dsimp only at h1
  have hlow := hB.low
  unfold ubS
  rw [if_neg (show ¬ (false = true) by decide), ual, if_neg (by simp only [Bool.or_eq_true, decide_eq_true_eq]; omega), ual]
  dsimp only
  rw [uck]
  obtain ⟨i, D', i1, i2, i3, i4, i5⟩ := ukS (mo := mo) (nx := ((n + cnt gs : Nat) : Int)) (m := m) (fl0 := uaE k n gs) hr (fun o6 => some (0, ((), nm, mo, o6.1, ((n + cnt gs : Nat) : Int), false, ()), o6.2)) gs k n D (gs.length + 1) (Nat.lt_succ_self _) ho hI
  have htot : n + cnt (gs.take i) + cnt (gs.drop i) = n + cnt gs := by
    have : cnt gs = cnt (gs.take i) + cnt (gs.drop i) := by
      unfold cnt
      rw [← List.length_append, ← List.flatten_append, List.take_append_drop]
    omega
  refine ⟨_, D', i2, ⟨i3, k + i, n + cnt (gs.take i), gs.drop i, i4, ⟨hB.full.drop i, i5 (by omega), by rw [htot]; exact h1, ?_, by rw [htot]; exact hB.bound⟩, by rw [htot]⟩, rfl⟩
  rw [hB.acked, List.drop_drop]
  have hle := i5 (by omega)
  have e : gs.flatten = (gs.take i).flatten ++ (gs.drop i).flatten := by rw [← List.flatten_append, List.take_append_drop]
  rw [e, List.drop_append]
  have hc : cnt (gs.take i) = (gs.take i).flatten.length := rfl
  rw [List.drop_of_length_le (by rw [← hc]; omega), List.nil_append, ← hc]
  congr 1
  omega
end Sx
namespace Sx
open Go
abbrev KS := Unit × (Int × LogS) × Int × Int × PayS × List Int × Bool × Bool × Unit
def nmL : List Int := [108, 111, 103]
theorem uew : uch nmL = true := by decide
structure KInv (k : KS) (D : DiskS) (b : Nat) : Prop where
  flag : k.2.1.1 = 0
  seg : 64 ≤ k.2.2.1 ∧ k.2.2.1 ≤ 1048576
  first : 0 ≤ k.2.2.2.1
  gone : k.2.2.2.2.2.2.2.1 = false
  st : (k.2.2.2.2.2.2.1 = false ∧ Alive nmL k.2.2.1 D k.2.1.2 k.2.2.2.1 k.2.2.2.2.1 b) ∨ (k.2.2.2.2.2.2.1 = true ∧ k.2.1.2.2.2.2.2.2.1 = true ∧ Dead nmL D k.2.2.2.1 k.2.2.2.2.1 k.2.2.2.2.2.1 b)
theorem ug5 {nm : List Int} {mo : Int} {D : DiskS} {l : LogS} {first : Int} {acked : PayS} {b : Nat} (h : Alive nm mo D l first acked b) : acked.length ≤ 262144 ∧ l.2.2.2.2.1 = first + (acked.length : Int) ∧ l.2.2.2.2.1 ≤ b ∧ l.2.2.2.2.2.1 = false := by
  obtain ⟨ho, k, n, gs, hI, hB, rfl⟩ := h
  have h1 := hI.cnt_le
  have h2 := hB.low
  have h3 := hB.high
  have h4 := hB.bound
  rw [hB.acked, List.length_drop]
  have hc : gs.flatten.length = cnt gs := rfl
  rw [hc]
  refine ⟨by omega, ?_, ?_, rfl⟩
  · show ((n + cnt gs : Nat) : Int) = _
    omega
  · show ((n + cnt gs : Nat) : Int) ≤ _
    omega
theorem Dead.mono {nm : List Int} {D : DiskS} {first : Int} {acked : PayS} {U : List Int} {b b' : Nat} (h : Dead nm D first acked U b) (hb : b ≤ b') : Dead nm D first acked U b' := by
  obtain ⟨h0, h⟩ := h
  refine ⟨h0, ?_⟩
  rcases h with ⟨k, n, gs, hI, hB⟩ | ⟨k, n, init, p, hW, hB, h1, h2⟩
  · exact .inl ⟨k, n, gs, hI, hB.mono hb⟩
  · exact .inr ⟨k, n, init, p, hW, hB.mono hb, h1, h2⟩
theorem Alive.mono {nm : List Int} {mo : Int} {D : DiskS} {l : LogS} {first : Int} {acked : PayS} {b b' : Nat} (h : Alive nm mo D l first acked b) (hb : b ≤ b') : Alive nm mo D l first acked b' := by
  obtain ⟨h0, k, n, gs, hI, hB, h1⟩ := h
  exact ⟨h0, k, n, gs, hI, hB.mono hb, h1⟩
theorem KInv.mono {k : KS} {D : DiskS} {b b' : Nat} (h : KInv k D b) (hb : b ≤ b') : KInv k D b' :=
  ⟨h.flag, h.seg, h.first, h.gone, h.st.imp (fun h => ⟨h.1, h.2.mono hb⟩) (fun h => ⟨h.1, h.2.1, h.2.2.mono hb⟩)⟩
theorem uln {l : LogS} {U : List Int} {D : DiskS} (h : l.2.2.2.2.2.1 = true) : ubb l U D = some (60, l, D) := by
  unfold ubb
  rw [if_pos h]
theorem umy {l : LogS} {m : Int} {D : DiskS} (h : l.2.2.2.2.2.1 = true) : ubS l m D = some (60, l, D) := by
  unfold ubS
  rw [if_pos h]
theorem umz {l : LogS} {m : Int} {D : DiskS} (h : l.2.2.2.2.2.1 = false) (hm : l.2.2.2.2.1 < m) : ubS l m D = some (1, l, D) := by
  unfold ubS
  rw [if_neg (by rw [h]; decide), ual, if_pos (by simp only [Bool.or_eq_true, decide_eq_true_eq]; omega)]
theorem ueU (l : LogS) (D : DiskS) : ub9 l D = some l.2.2.2.2.1 := rfl
theorem ui2 {k : KS} {D : DiskS} {b : Nat} {U : List Int} (hb : b < 1152921504606846975) (hU : uan U) (h : KInv k D b) : ∃ k' D', ubR k U D = some (true, k', D') ∧ KInv k' D' (b + 1) := by
  obtain ⟨⟨⟩, ⟨f, l⟩, seg, first, acked, under, way, gone, ⟨⟩⟩ := k
  obtain ⟨h1, h2, h3, h4, h5⟩ := h
  dsimp only at h1 h2 h3 h4 h5
  subst h1 h4
  unfold ubR
  dsimp only
  rw [if_pos rfl, ueU, uat]
  rcases h5 with ⟨rfl, hA⟩ | ⟨rfl, hd, hD⟩
  · obtain ⟨hlen, hnx, hnb, hdead⟩ := ug5 hA
    obtain ⟨e, l', D', happ, hc⟩ := ukR uew (by omega) hU hA
    rw [happ, uat, ual]
    dsimp only
    rw [if_neg (show ¬ (false = true) by decide)]
    rcases hc with ⟨rfl, hUl, hA', hn'⟩ | ⟨he0, he9, rfl, hA', h3'⟩ | ⟨rfl, hUl, hd', hn', hD'⟩
    · rw [if_pos (by decide), if_pos (by simp only [List.length_cons, List.length_nil]; omega), ueU, uat]
      refine ⟨((), (0, l'), seg, first, acked ++ [U], under, false, false, ()), D', ?_, rfl, h2, h3, rfl, .inl ⟨rfl, hA'⟩⟩
      congr 2
      rw [hn', uaN (by simp only [rng, lo, Sx.hi]; omega)]
      simp
    · rw [if_neg (by simpa using he0), if_neg (by simpa using he9)]
      rw [ueU, uat, ual, ual, if_pos (by simp), ual]
      refine ⟨((), (0, l'), seg, first, acked, under, false, false, ()), D', ?_, rfl, h2, h3, rfl, .inl ⟨rfl, hA'.mono (Nat.le_succ b)⟩⟩
      congr 2
      by_cases hl : U.length ≤ 65536
      · rw [decide_eq_true (by omega), Bool.true_or]
      · rw [h3' (by omega)]; simp
    · rw [if_neg (by decide), if_pos (by decide)]
      rw [ueU, uat, ual, ual, if_pos (by rw [hn']; simp), ual]
      refine ⟨((), (0, l'), seg, first, acked, U, true, false, ()), D', ?_, rfl, h2, h3, rfl, .inr ⟨rfl, hd', hD'.mono (Nat.le_succ b)⟩⟩
      congr 2
      rw [decide_eq_true (by omega), Bool.true_or]
  · rw [uln hd, uat, ual]
    dsimp only
    rw [if_pos rfl, ual, ual, if_pos (by decide), ueU, uat]
    refine ⟨((), (0, l), seg, first, acked, under, true, false, ()), D, ?_, rfl, h2, h3, rfl, .inr ⟨rfl, hd, hD.mono (Nat.le_succ b)⟩⟩
    congr 2
    simp
theorem umA (a : Int) : ∃ n : Nat, n < 1048576 ∧ iand .i64 a 1048575 = (n : Int) := by
  refine ⟨(BitVec.ofInt 64 a &&& BitVec.ofInt 64 1048575).toNat, ?_, ?_⟩
  · rw [BitVec.toNat_and]
    exact Nat.lt_of_le_of_lt Nat.and_le_right (by decide)
  · unfold iand
    show IntKind.wrap .i64 ((BitVec.ofInt 64 a &&& BitVec.ofInt 64 1048575).toNat : Int) = _
    have : (BitVec.ofInt 64 a &&& BitVec.ofInt 64 1048575).toNat < 1048576 := by
      rw [BitVec.toNat_and]
      exact Nat.lt_of_le_of_lt Nat.and_le_right (by decide)
    exact uaN (by simp only [rng, lo, Sx.hi]; omega)
theorem ujQ {k : KS} {D : DiskS} {b : Nat} {a : Int} (hb : b < 1152921504606846975) (h : KInv k D b) : ∃ k' D', ub5 k a D = some (true, k', D') ∧ KInv k' D' b := by
  obtain ⟨⟨⟩, ⟨f, l⟩, seg, first, acked, under, way, gone, ⟨⟩⟩ := k
  obtain ⟨h1, h2, h3, h4, h5⟩ := h
  dsimp only at h1 h2 h3 h4 h5
  subst h1 h4
  unfold ub5
  dsimp only
  rcases h5 with ⟨rfl, hA⟩ | ⟨rfl, hd, hD⟩
  · obtain ⟨hlen, hnx, hnb, hdead⟩ := ug5 hA
    obtain ⟨x, hx, hiand⟩ := umA a
    have hw1 : IntKind.wrap .i64 ((acked.length : Int) + 1) = ((acked.length + 1 : Nat) : Int) := by rw [uaN (by simp only [rng, lo, Sx.hi]; omega)]; omega
    obtain ⟨q, hq, hmod⟩ : ∃ q : Nat, q ≤ acked.length ∧ Int.tmod (x : Int) ((acked.length + 1 : Nat) : Int) = (q : Int) := ⟨x % (acked.length + 1), Nat.le_of_lt_succ (Nat.mod_lt x (Nat.succ_pos acked.length)), rfl⟩
    have hw2 : IntKind.wrap .i64 (first + (q : Int)) = first + (q : Int) := uaN (by simp only [rng, lo, Sx.hi]; omega)
    rw [if_neg (show ¬ (false = true) by decide), hw1, if_pos (by omega), ual, if_pos rfl, hiand, hmod, hw2]
    obtain ⟨l', D', hr1, hA', hn'⟩ := ulm uew (by omega) hA (m := first + (q : Int)) (by omega) (by omega)
    obtain ⟨_, _, _, hdead'⟩ := ug5 hA'
    rw [hr1, uat]
    dsimp only
    rw [if_neg (by decide), ueU, uat, hn']
    have hw3 : IntKind.wrap .i64 (l.2.2.2.2.1 + 1) = l.2.2.2.2.1 + 1 := uaN (by simp only [rng, lo, Sx.hi]; omega)
    rw [hw3, umz hdead' (by omega), uat]
    dsimp only
    rw [if_neg (by decide), if_pos (by omega), Int.toNat_natCast, Int.toNat_natCast, List.take_length, if_pos (by simp only [List.length_nil, List.length_drop]; omega)]
    refine ⟨_, _, rfl, rfl, h2, ?_, rfl, .inl ⟨rfl, ?_⟩⟩
    · show 0 ≤ first + (q : Int)
      omega
    · dsimp only
      have : (first + (q : Int) - first).toNat = q := by omega
      rw [this] at hA'
      exact hA'
  · rw [if_pos rfl, if_pos rfl, umy hd, uat]
    exact ⟨_, _, rfl, rfl, h2, h3, rfl, .inr ⟨rfl, hd, hD⟩⟩
end Sx
namespace Sx
open Go
theorem Books.book {n : Nat} {gs : List PayS} {first : Int} {acked : PayS} {b : Nat} (h : Books n gs first acked b) : Book n gs first ((n + cnt gs : Nat) : Int) acked := by
  refine ⟨fun _ => ⟨h.low, h.high, rfl, h.acked⟩, fun e => ?_⟩
  have hc : cnt gs = 0 := by simp [cnt, e]
  have h1 := h.low
  have h2 := h.high
  refine ⟨by rw [h.acked, e, List.drop_nil], by omega⟩
theorem InvC.renum {fs : List (List Int × FileS)} {nm : List Int} {k : Int} {n : Nat} {c : List Int} (h : InvC fs nm k n [] c) (x : Nat) : InvC fs nm k x [] c :=
  ⟨h.ok, h.keys, fun i p hp => (by simp at hp), h.last, h.good, h.k0, h.kM⟩
abbrev uiH (nm : List Int) (mo : Int) (D2 : DiskS) (first : Int) (acked : PayS) (U : List Int) (way : Bool) (fates : List FateS) (b : Nat) : Prop :=
  (ubF D2 nm mo first = some (noLog, [], 60, D2) ∧ acked = [] ∧ ¬ ufF fates) ∨
  ∃ (k' : Int) (n' : Nat) (gs' : List PayS) (more : PayS) (D' : DiskS), InvF D'.2.1 nm k' n' gs' ∧ D'.2.2.1 = 0 ∧ Books n' gs' first (acked ++ more) (b + 262144) ∧ OpenS D2 nm mo first ((), nm, mo, uaE k' n' gs', ((n' + cnt gs' : Nat) : Int), false, ()) (acked ++ more) D' ∧
    (ufF fates → more = [] ∨ (way = true ∧ ∃ x, more = [x] ∧ (x = U ∨ (x ≠ U ∧ ubO x U = some true))))
theorem ukT {D2 : DiskS} {nm : List Int} {mo first : Int} {acked : PayS} {U c : List Int} {fates : List FateS} {b : Nat} {k : Int} {n : Nat} {init : List PayS} {p : PayS} (ho : D2.2.2.2.2.2.1 = false) (ha : D2.2.2.1 = 0) (hr : uch nm = true) (hmo : 64 ≤ mo ∧ mo ≤ 1048576) (hf0 : 0 ≤ first) (hb : b < 1152921504606000000)
    (h : InvC D2.2.1 nm k n init (uaq (n + cnt init) p ++ c)) (hgp : goodL p) (hL : ukQ (uax (n + cnt init + p.length) U) c fates) (hB : Books n (init ++ [p]) first acked b) (hU : U.length ≤ 65536) : uiH nm mo D2 first acked U true fates b := by
  obtain ⟨hbt, hlt⟩ := h.bytes
  have hlow := hB.low
  have hhigh := hB.high
  have hbd := hB.bound
  rw [ude] at hhigh hbd
  have hclen : c.length ≤ 1048576 := by rw [List.length_append] at hlt; omega
  obtain ⟨l', rest, s1, s2, s3, _, s5⟩ := ufq (c.length + 2) (uaq (n + cnt init) p) c (n + cnt init + p.length) hbt (by omega) (by omega)
  have htext : uaq (n + cnt init) p ++ c = uaq (n + cnt init) (p ++ l') ++ rest := by
    conv => lhs; rw [s2]
    rw [ugr, List.append_assoc]
  have hgl' : goodL (p ++ l') := fun x hx => by
    rcases List.mem_append.1 hx with hx | hx
    · exact hgp x hx
    · exact s1 x hx
  have hfi : 0 ≤ first ∧ first ≤ 1152921504606846976 := by omega
  by_cases hA : (init ++ [p ++ l']).flatten = []
  ·
    rw [udA, List.append_eq_nil_iff, List.append_eq_nil_iff] at hA
    obtain ⟨hi, rfl, rfl⟩ := hA
    have hi0 : init = [] := by
      cases init with
      | nil => rfl
      | cons q r =>
        have := hB.full.init q (by simp)
        rw [List.flatten_cons, List.append_eq_nil_iff] at hi
        exact absurd hi.1 this
    subst hi0
    have hc0 : cnt ([] : List PayS) = 0 := rfl
    simp only [hc0, List.length_nil, Nat.add_zero, List.append_nil] at *
    have hack : acked = [] := by rw [hB.acked]; simp
    have hfn : first = (n : Int) := by omega
    simp only [uaq, List.nil_append] at h htext s2 hbt hlt
    have s2' := s2.symm
    subst s2'
    cases hbg : (ubl rest).2 with
    | false =>
      obtain ⟨D', i1, i2, i3, i4⟩ := ujF ho ha hr hmo hfi h (by omega) hbg
      refine .inr ⟨k, n, [[]], [], D', i1, i2, ⟨fun q hq => by simp at hq, by omega, by rw [hfn]; simp [cnt], by rw [hack]; simp, by simp [cnt]; omega⟩, ?_, fun _ => .inl rfl⟩
      rw [hack]
      have : ((n + cnt [([] : PayS)] : Nat) : Int) = first := by rw [hfn]; simp [cnt]
      rw [this]
      exact i4
    | true =>
      obtain ⟨x, hx⟩ := Int.eq_ofNat_of_zero_le (ueH rest hbt).1
      have hxl := (ueH rest hbt).2
      have hw : (uaU rest 0 (x : Int)).2.2 = 1 := by
        have := hbg
        rw [← hx]
        unfold ubl at this ⊢
        split at this
        · cases this
        · rename_i c1
          rw [if_neg c1]
          split at this
          · cases this
          · rename_i c2
            rw [if_neg c2]
            simpa using this
      obtain ⟨_, p', r', hp', he'⟩ := ufU (P := []) (c := rest) (n := (x : Int)) hbt (by simpa using hw)
      rw [Int.toNat_natCast] at he'
      have hgift : ¬ ufF fates := fun hno => by
        obtain ⟨rfl, _, _⟩ := uiG hU hp' (by omega) (by omega) hL hno he'
        exact s5 p' r' hp' he'
      obtain ⟨lx, restx, t1, t2, t3, _, t5⟩ := ufq (rest.length + 2) [] rest x (by simpa using hbt) (by omega) (by omega)
      have hlx : lx ≠ [] := fun e => by
        subst e
        simp only [uaq, List.nil_append] at t2
        subst t2
        exact t5 p' r' hp' (by simpa using he')
      have hC := h.renum x
      rw [t2] at hC
      have hC' : InvC D2.2.1 nm k x [] (uaq (x + cnt []) lx ++ restx) := by simpa [cnt] using hC
      have h64 := uhl lx
      have hll : lenF lx ≤ 1048576 := by
        have := hC.bytes.2
        rw [List.length_append, uaF] at this
        omega
      obtain ⟨o1, o2⟩ := uh6 ho ha hr hmo hfi hC' t1 (by simp [cnt]; omega) (by omega) (by simpa using hlx) (by simpa [cnt] using t5)
      by_cases href : ((x : Int) > first ∨ ((x + cnt ([] ++ [lx]) : Nat) : Int) < first)
      · exact .inl ⟨o1 href, hack, hgift⟩
      · have hr1 : (x : Int) ≤ first := by omega
        have hr2 : first ≤ ((x + cnt ([] ++ [lx]) : Nat) : Int) := by omega
        obtain ⟨D', i1, i2, i3, i4⟩ := o2 hr1 hr2
        have hcl : cnt ([] ++ [lx]) = lx.length := by simp [cnt]
        refine .inr ⟨k, x, [] ++ [lx], ([] ++ [lx]).flatten.drop (first - (x : Int)).toNat, D', i1, i2, ⟨fun q hq => by simp at hq, hr1, hr2, by rw [hack]; rfl, by rw [hcl]; omega⟩, by rw [hack]; exact i4, fun hno => absurd hno hgift⟩
  ·
    rw [htext] at h
    have hcn : cnt (init ++ [p ++ l']) = cnt init + p.length + l'.length := by rw [ude, List.length_append]; omega
    have h64 := uhl (p ++ l')
    have hll : lenF (p ++ l') ≤ 1048576 := by
      have := h.bytes.2
      rw [List.length_append, uaF] at this
      omega
    rw [List.length_append] at h64
    obtain ⟨_, o2⟩ := uh6 ho ha hr hmo hfi h hgl' (by omega) (by rw [List.length_append]; omega) hA (by
      intro q r hq
      rw [List.length_append, ← Nat.add_assoc]
      exact s5 q r hq)
    obtain ⟨D', i1, i2, i3, i4⟩ := o2 hlow (by rw [hcn]; omega)
    have hflat : (init ++ [p ++ l']).flatten = (init ++ [p]).flatten ++ l' := by rw [udA, udA, List.append_assoc]
    have hgot : (init ++ [p ++ l']).flatten.drop (first - (n : Int)).toNat = acked ++ l' := by
      rw [hflat, List.drop_append_of_le_length, ← hB.acked]
      show _ ≤ cnt (init ++ [p])
      rw [ude]
      omega
    rw [hgot] at i4
    refine .inr ⟨k, n, init ++ [p ++ l'], l', D', i1, i2, ⟨fun q hq => ?_, hlow, by rw [hcn]; omega, hgot.symm, by rw [hcn]; omega⟩, i4, fun hno => ?_⟩
    · rw [List.dropLast_concat] at hq
      exact hB.full.init q hq
    · cases l' with
      | nil => exact .inl rfl
      | cons p' r =>
        have hp' := (s1 p' (by simp)).2
        have he' : c = uax (n + cnt init + p.length) p' ++ (uaq (n + cnt init + p.length + 1) r ++ rest) := by rw [s2]; simp [uaq]
        obtain ⟨_, hr0, hres⟩ := uiG hU hp' (by omega) (by omega) hL hno he'
        rw [List.append_eq_nil_iff] at hr0
        have : r = [] := frames_nil_iff.1 hr0.1
        subst this
        exact .inr ⟨rfl, p', rfl, hres⟩
theorem ukU {D2 : DiskS} {nm : List Int} {mo first : Int} {acked : PayS} {U : List Int} {way : Bool} {fates : List FateS} {b : Nat} {k : Int} {n : Nat} {gs : List PayS} (ho : D2.2.2.2.2.2.1 = false) (ha : D2.2.2.1 = 0) (hr : uch nm = true) (hmo : 64 ≤ mo ∧ mo ≤ 1048576) (hf0 : 0 ≤ first) (hb : b < 1152921504606000000)
    (h : InvF D2.2.1 nm k n gs) (hB : Books n gs first acked b) : uiH nm mo D2 first acked U way fates b := by
  have h1 := hB.high
  have h2 := hB.bound
  obtain ⟨D', i1, i2, i3, i4⟩ := uiF ho ha hr hmo ⟨hf0, by omega⟩ h hB.full (by omega) hB.book
  exact .inr ⟨k, n, gs, [], D', i1, i2, by rw [List.append_nil]; exact hB.mono (by omega), by rw [List.append_nil]; exact i4, fun _ => .inl rfl⟩
theorem ukV {D : DiskS} {k : KS} {b : Nat} {fates : List FateS} (hl : ucr fates) (hb : b < 1152921504606000000) (h : KInv k D b) :
    ∃ fs', ua9 D fates = some (D.1, fs', 0, D.2.2.2.1, 0, true, false) ∧ ∀ D2 : DiskS, D2.2.1 = fs' → D2.2.2.2.2.2.1 = false → D2.2.2.1 = 0 → uiH nmL k.2.2.1 D2 k.2.2.2.1 k.2.2.2.2.1 k.2.2.2.2.2.1 k.2.2.2.2.2.2.1 fates b := by
  have clean : ∀ {kk : Int} {n : Nat} {gs : List PayS}, (D.2.2.2.2.2.1 = true → D.2.2.2.2.2.2 = true) → InvF D.2.1 nmL kk n gs → Books n gs k.2.2.2.1 k.2.2.2.2.1 b → ∃ fs', ua9 D fates = some (D.1, fs', 0, D.2.2.2.1, 0, true, false) ∧ ∀ D2 : DiskS, D2.2.1 = fs' → D2.2.2.2.2.2.1 = false → D2.2.2.1 = 0 → uiH nmL k.2.2.1 D2 k.2.2.2.1 k.2.2.2.2.1 k.2.2.2.2.2.1 k.2.2.2.2.2.2.1 fates b := by
    intro kk n gs hop hI hB
    obtain ⟨fs', h1, h2⟩ := uhI hl hI hop
    refine ⟨fs', h1, fun D2 e ho ha => ?_⟩
    subst e
    exact ukU ho ha uew h.seg h.first hb h2 hB
  rcases h.st with ⟨_, ho, kk, n, gs, hI, hB, _⟩ | ⟨hw, _, hop, hd⟩
  · exact clean (fun e => by rw [ho] at e; cases e) hI hB
  · rcases hd with ⟨kk, n, gs, hI, hB⟩ | ⟨kk, n, init, p, hW, hB, hUl, hU⟩
    · exact clean hop hI hB
    · obtain ⟨fs', c, h1, h2, h3⟩ := ulj hl hW hop
      refine ⟨fs', h1, fun D2 e ho ha => ?_⟩
      subst e
      rw [hw]
      exact ukT ho ha uew h.seg h.first hb h2 hW.goodp h3 hB hUl
end Sx
namespace Sx
open Go
theorem ukW (a b : List (List Int)) (hab : a.length = b.length) (hl : a.length < 4611686018427387904) (K : Unit → Option Bool) : ∀ (j i : Nat), i + j = a.length →
    ubn a b K (j + 1) (i : Int) = if a.drop i = b.drop i then K () else some false
  | 0, i, h => by
    rw [ubn, if_neg (by simp; omega), if_pos (by rw [List.drop_of_length_le (by omega), List.drop_of_length_le (by omega)])]
  | j + 1, i, h => by
    have h1 : i < a.length := by omega
    have h2 : i < b.length := by omega
    rw [ubn, if_pos (by simp; omega), if_pos (by omega), if_pos (by omega), Int.toNat_natCast]
    have e1 : a.getD i [] = a[i] := by simp [List.getD, h1]
    have e2 : b.getD i [] = b[i] := by simp [List.getD, h2]
    have key : (a.drop i = b.drop i) ↔ (a[i] = b[i] ∧ a.drop (i + 1) = b.drop (i + 1)) := by
      rw [List.drop_eq_getElem_cons h1, List.drop_eq_getElem_cons h2, List.cons.injEq]
    have w5 : IntKind.wrap .i64 ((i : Int) + 1) = ((i + 1 : Nat) : Int) := by rw [uaN (by simp only [rng, lo, Sx.hi]; omega)]; omega
    rw [e1, e2]
    simp only [key]
    by_cases e : a[i] = b[i]
    · rw [if_neg (by simp [e]), ual, w5, ukW a b hab hl K j (i + 1) (by omega)]
      simp [e]
    · rw [if_pos (by simpa using e), if_neg (by simp [e])]
theorem uox (a b : List (List Int)) (hl : a.length < 4611686018427387904) : ua8 a b = some (decide (a = b)) := by
  unfold ua8
  by_cases h : a.length = b.length
  · rw [if_neg (by simp [h]), ual]
    have e : Int.toNat ((a.length : Int) - 0) + 1 = a.length + 1 := by omega
    rw [e]
    refine (ukW a b h hl _ a.length 0 (by omega)).trans ?_
    simp only [List.drop_zero]
    by_cases q : a = b
    · simp [q]
    · simp [q]
  · rw [if_pos (by simp; omega)]
    have : a ≠ b := fun e => h (by rw [e])
    simp [this]
theorem umB (a : List (List Int)) (hl : a.length < 4611686018427387904) : ua8 a a = some true := by
  rw [uox a a hl, decide_eq_true rfl]
theorem unK (D : DiskS) (n w : Int) : udl D n w = some (D.1, D.2.1, if n < 1 ∨ w < 0 ∨ w > 2 then 0 else n, w, D.2.2.2.2.1, D.2.2.2.2.2.1, D.2.2.2.2.2.2) := by
  unfold udl
  simp only [ual]
  by_cases h : n < 1 ∨ w < 0 ∨ w > 2
  · rw [if_pos (by simp only [Bool.or_eq_true, decide_eq_true_eq]; omega), if_pos h]
  · rw [if_neg (by simp only [Bool.or_eq_true, decide_eq_true_eq]; omega), if_neg h]
theorem ujH (l : List FateS) (hl : l.length < 4611686018427387904) (K : Unit → Option Bool) (hK : K () = some false) : ∀ (j i : Nat), i + j = l.length → ubG l K (j + 1) (i : Int) = some ((l.drop i).any fun x => x.2.2.1 == 2)
  | 0, i, h => by
    rw [ubG, if_neg (by rw [decide_eq_true_eq]; omega), List.drop_eq_nil_of_le (by omega)]
    exact hK
  | j + 1, i, h => by
    have hlt : i < l.length := by omega
    have w5 : IntKind.wrap .i64 ((i : Int) + 1) = ((i + 1 : Nat) : Int) := by rw [uaN (by simp only [rng, lo, Sx.hi]; omega)]; omega
    have hdr : l.drop i = l.getD i fate0 :: l.drop (i + 1) := by
      rw [List.drop_eq_getElem_cons hlt]
      simp [List.getD, hlt]
    have hg : l.getD i ([], 0, 0, [], ()) = l.getD i fate0 := rfl
    rw [ubG, if_pos (by rw [decide_eq_true_eq]; omega), if_pos (by constructor <;> omega), Int.toNat_natCast, hg, hdr, List.any_cons]
    cases hp : ((l.getD i fate0).2.2.1 == 2) with
    | true => rw [if_pos rfl, Bool.true_or]
    | false =>
      rw [if_neg (by decide), Bool.false_or, ual, w5]
      exact ujH l hl K hK j (i + 1) (by omega)
theorem unL (l : List FateS) (hl : l.length < 4611686018427387904) : ubJ l = some (l.any fun x => x.2.2.1 == 2) := by
  unfold ubJ
  rw [ual]
  have e : Int.toNat ((l.length : Int) - 0) + 1 = l.length + 1 := by omega
  rw [e]
  exact (ujH l hl _ rfl l.length 0 (by omega)).trans (by rw [List.drop_zero])
theorem forged_not {l : List FateS} : (l.any fun x => x.2.2.1 == 2) = false ↔ ufF l := by
  rw [List.any_eq_false]
  unfold ufF
  constructor
  · intro h x hx e
    exact h x hx (by simpa using e)
  · intro h x hx e
    exact h x hx (by simpa using e)
theorem umC {k : KS} {fates : List FateS} {b : Nat} (hl : ucr fates) (hb : b < 1152921504606000000) (hseg : 64 ≤ k.2.2.1 ∧ k.2.2.1 ≤ 1048576) (hf0 : 0 ≤ k.2.2.2.1)
    {D' : DiskS} {kk : Int} {n : Nat} {gs : List PayS} {got : PayS} (hI : InvF D'.2.1 nmL kk n gs) (hB : Books n gs k.2.2.2.1 got b) (ha : D'.2.2.1 = 0) (hop : D'.2.2.2.2.2.1 = true → D'.2.2.2.2.2.2 = true) :
    ∃ D'', InvF D''.2.1 nmL kk n gs ∧ D''.2.2.2.2.2.1 = false ∧ D''.2.2.1 = 0 ∧ ∀ (K : (Int × DiskS × (Int × LogS) × PayS) → Option (Bool × KS × DiskS)), uaT k fates K 5 (9, 0, D', (1, ((), [], 0, [], 0, false, ())), []) = K (0, D'', (0, ((), nmL, k.2.2.1, uaE kk n gs, ((n + cnt gs : Nat) : Int), false, ())), got) := by
  have h1 := hB.high
  have h2 := hB.bound
  obtain ⟨fs', c1, c2⟩ := uhI hl hI hop
  obtain ⟨D'', i1, i2, i3, i4⟩ := uiF (D := (D'.1, fs', 0, 0, 0, false, false)) (fi := k.2.2.2.1) rfl rfl uew hseg ⟨hf0, by omega⟩ c2 hB.full (by omega) hB.book
  rcases i4 with ⟨i4, i5⟩ | ⟨_, _, _, i5⟩
  · refine ⟨D'', i1, i5, i2, fun K => ?_⟩
    rw [uaT]
    dsimp only
    rw [ual, if_pos (by simp), ual, if_neg (by simp), c1, uat, unC rfl, uat, ui1, uat]
    dsimp only
    rw [unK, uat]
    dsimp only
    rw [if_pos (by decide)]
    rw [show max (0 : Int) 0 = 0 by decide]
    have e : ubF (D'.1, fs', 0, 0, 0, false, false) [108, 111, 103] k.2.2.1 k.2.2.2.1 = some ((0, ((), nmL, k.2.2.1, uaE kk n gs, ((n + cnt gs : Nat) : Int), false, ())), got, 0, D'') := i4
    rw [e, uat, ual]
    dsimp only
    rw [uaT]
    dsimp only
    rw [ual, if_neg (by simp)]
  · dsimp only at i5; omega
theorem ukX {k : KS} {D : DiskS} {b : Nat} {fates : List FateS} {fall : Int} (hl : ucr fates) (hb : b < 1152921504605000000) (h : KInv k D b) :
    ∃ k' D', ubH k fates fall D = some (true, k', D') ∧ (k'.2.2.2.2.2.2.2.1 = true ∨ KInv k' D' (b + 262144)) := by
  obtain ⟨fs', c1, c2⟩ := ukV hl (by omega) h
  unfold ubH
  rw [c1, uat, unC rfl, uat, ui1, uat]
  have hopen := c2 (D.1, fs', 0, D.2.2.2.1, max (iand .i64 fall 3) 0, false, false) rfl rfl rfl
  dsimp only
  have hnm : ubF (D.1, fs', 0, D.2.2.2.1, max (iand .i64 fall 3) 0, false, false) [108, 111, 103] k.2.2.1 k.2.2.2.1 = ubF (D.1, fs', 0, D.2.2.2.1, max (iand .i64 fall 3) 0, false, false) nmL k.2.2.1 k.2.2.2.1 := rfl
  rw [hnm]
  have hfe := unL fates hl.1
  rcases hopen with ⟨o1, o2, o3⟩ | ⟨kk, n, gs, more, D', hI, ha, hB, hO, hmore⟩
  ·
    rw [o1, uat, ual]
    dsimp only
    rw [uaT]
    dsimp only
    rw [ual, if_pos (by simp), ual, if_pos (by simp)]
    try dsimp only
    rw [ual, ual, if_pos (by simp), hfe, uat]
    have hf : (fates.any fun x => x.2.2.1 == 2) = true := by
      cases hz : (fates.any fun x => x.2.2.1 == 2) with
      | true => rfl
      | false => exact absurd (forged_not.1 hz) o3
    rw [hf]
    dsimp only
    rw [if_pos (by rw [o2]; decide)]
    exact ⟨_, _, rfl, .inl rfl⟩
  ·
    have hlen : (k.2.2.2.2.1 ++ more).length ≤ 262144 := by
      rw [hB.acked, List.length_drop]
      have := hI.cnt_le
      have hc : gs.flatten.length = cnt gs := rfl
      omega
    have hnx : ((n + cnt gs : Nat) : Int) = k.2.2.2.1 + ((k.2.2.2.2.1 ++ more).length : Int) := by
      have h1 := hB.low
      have h2 := hB.high
      have h3 := congrArg List.length hB.acked
      rw [List.length_drop] at h3
      have hc : gs.flatten.length = cnt gs := rfl
      omega
    have hbd := hB.bound
    have hf0 := h.first
    have hal : k.2.2.2.2.1.length ≤ (k.2.2.2.2.1 ++ more).length := by rw [List.length_append]; omega
    have tail : ∀ D'' : DiskS, InvF D''.2.1 nmL kk n gs → D''.2.2.2.2.2.1 = false → ∀ (v : (Int × DiskS × (Int × LogS) × PayS) → Option (Bool × KS × DiskS)), v = (fun (o12 : Int × DiskS × (Int × LogS) × PayS) => bnd (o12.1 == 60) fun (b16 : Bool) => bnd (fun (o18 : Bool) => if (o18 && ((List.length k.2.2.2.2.1 : Int) == 0)) = true then (some (true, ((), k.2.1, k.2.2.1, k.2.2.2.1, k.2.2.2.2.1, k.2.2.2.2.2.1, k.2.2.2.2.2.2.1, true, k.2.2.2.2.2.2.2.2), o12.2.1)) else (bnd (o12.1 != 0) fun (b21 : Bool) => bnd (b21 || (o12.2.2.1.1 != 0)) fun (b22 : Bool) => bnd (b22 || (decide ((List.length o12.2.2.2 : Int) < (List.length k.2.2.2.2.1 : Int)))) fun (b23 : Bool) => bnd (fun (o25 : Bool) => if o25 = true then (some (false, k, o12.2.1)) else (if (0 : Int) ≤ (List.length k.2.2.2.2.1 : Int) ∧ (List.length k.2.2.2.2.1 : Int) ≤ (List.length o12.2.2.2 : Int) ∧ (List.length o12.2.2.2 : Int) ≤ (List.length o12.2.2.2 : Int) then (bnd ((List.drop (Int.toNat (List.length k.2.2.2.2.1 : Int)) (List.take (Int.toNat (List.length o12.2.2.2 : Int)) o12.2.2.2))) fun (more27 : List (List Int)) => (ubJ fates).bind fun (r28 : Bool) => bnd (!r28) fun (b29 : Bool) => bnd (fun (o31 : Bool) => if o31 = true then (some (false, k, o12.2.1)) else (if (List.length ([] : List (List Int)) + List.length o12.2.2.2) * 16 ≤ 140737488355328 then (bnd (fun (o47 : Bool) => some (o47, ((), o12.2.2.1, k.2.2.1, k.2.2.2.1, ([] ++ o12.2.2.2), k.2.2.2.2.2.1, false, k.2.2.2.2.2.2.2.1, k.2.2.2.2.2.2.2.2), o12.2.1)) fun k46 => if o12.2.2.1.1 = 0 then ((ub9 o12.2.2.1.2 o12.2.1).bind fun (r49 : Int) => k46 (r49 == (IntKind.wrap .i64 (k.2.2.2.1 + (List.length o12.2.2.2 : Int))))) else none) else none)) fun k30 => if b29 = true then (bnd (decide ((List.length more27 : Int) > 1)) fun (b32 : Bool) => bnd (fun (o34 : Bool) => k30 o34) fun k33 => if b32 = true then (k33 true) else (bnd ((List.length more27 : Int) == 1) fun (b35 : Bool) => bnd (fun (o37 : Bool) => k33 o37) fun k36 => if b35 = true then (bnd (!k.2.2.2.2.2.2.1) fun (b38 : Bool) => bnd (fun (o40 : Bool) => k36 o40) fun k39 => if b38 = true then (k39 true) else (if (0 : Int) ≤ 0 ∧ 0 < (List.length more27 : Int) then (bnd ((List.getD more27 0 []) != k.2.2.2.2.2.1) fun (b41 : Bool) => bnd (fun (o43 : Bool) => k39 o43) fun k42 => if b41 = true then (if (0 : Int) ≤ 0 ∧ 0 < (List.length more27 : Int) then ((ubO (List.getD more27 0 []) k.2.2.2.2.2.1).bind fun (r44 : Bool) => k42 (!r44)) else none) else (k42 false)) else none)) else (k36 false))) else (k30 false)) else none)) fun k24 => if b23 = true then (k24 true) else (if (0 : Int) ≤ (0 : Int) ∧ (0 : Int) ≤ (List.length k.2.2.2.2.1 : Int) ∧ (List.length k.2.2.2.2.1 : Int) ≤ (List.length o12.2.2.2 : Int) then ((ua8 (List.drop 0 (List.take (Int.toNat (List.length k.2.2.2.2.1 : Int)) o12.2.2.2)) k.2.2.2.2.1).bind fun (r26 : Bool) => k24 (!r26)) else none))) fun k17 => if b16 = true then ((ubJ fates).bind fun (r19 : Bool) => k17 r19) else (k17 false)) →
        ∃ k' D3, v (0, D'', (0, ((), nmL, k.2.2.1, uaE kk n gs, ((n + cnt gs : Nat) : Int), false, ())), k.2.2.2.2.1 ++ more) = some (true, k', D3) ∧ KInv k' D3 (b + 262144) := by
      intro D'' hI'' ho'' v hv
      refine ⟨((), (0, ((), nmL, k.2.2.1, uaE kk n gs, ((n + cnt gs : Nat) : Int), false, ())), k.2.2.1, k.2.2.2.1, k.2.2.2.2.1 ++ more, k.2.2.2.2.2.1, false, k.2.2.2.2.2.2.2.1, k.2.2.2.2.2.2.2.2), D'', ?_, rfl, h.seg, h.first, h.gone, .inl ⟨rfl, ho'', kk, n, gs, hI'', hB, rfl⟩⟩
      subst hv
      try dsimp only
      rw [ual, ual, if_neg (by decide)]
      try dsimp only
      rw [Bool.false_and, if_neg (show ¬ (false = true) by decide), ual, ual, ual]
      have hb23 : (((0 : Int) != 0) || ((0 : Int) != 0) || decide (((k.2.2.2.2.1 ++ more).length : Int) < (k.2.2.2.2.1.length : Int))) = false := by
        rw [decide_eq_false (by omega)]; decide
      rw [hb23, ual, if_neg (show ¬ (false = true) by decide), if_pos (by omega)]
      simp only [Int.toNat_natCast, List.take_left', List.drop_zero]
      have hst := umB k.2.2.2.2.1 (by omega)
      rw [hst, uat]
      try dsimp only
      rw [if_neg (show ¬ ((!true) = true) by decide), if_pos (by omega), ual]
      have hdr : List.drop k.2.2.2.2.1.length (List.take (k.2.2.2.2.1 ++ more).length (k.2.2.2.2.1 ++ more)) = more := by rw [List.take_length, List.drop_left]
      rw [hdr, hfe, uat, ual, ual]
      have hk30 : ∀ K : Bool → Option (Bool × KS × DiskS), (if (!(fates.any fun x => x.2.2.1 == 2)) = true then (bnd (decide ((List.length more : Int) > 1)) fun (b32 : Bool) => bnd (fun (o34 : Bool) => K o34) fun k33 => if b32 = true then (k33 true) else (bnd ((List.length more : Int) == 1) fun (b35 : Bool) => bnd (fun (o37 : Bool) => k33 o37) fun k36 => if b35 = true then (bnd (!k.2.2.2.2.2.2.1) fun (b38 : Bool) => bnd (fun (o40 : Bool) => k36 o40) fun k39 => if b38 = true then (k39 true) else (if (0 : Int) ≤ 0 ∧ 0 < (List.length more : Int) then (bnd ((List.getD more 0 []) != k.2.2.2.2.2.1) fun (b41 : Bool) => bnd (fun (o43 : Bool) => k39 o43) fun k42 => if b41 = true then (if (0 : Int) ≤ 0 ∧ 0 < (List.length more : Int) then ((ubO (List.getD more 0 []) k.2.2.2.2.2.1).bind fun (r44 : Bool) => k42 (!r44)) else none) else (k42 false)) else none)) else (k36 false))) else (K false)) = K false := by
        intro K
        cases hz : (fates.any fun x => x.2.2.1 == 2) with
        | true => rw [if_neg (show ¬ ((!true) = true) by decide)]
        | false =>
          rw [if_pos (show (!false) = true by decide)]
          rcases hmore (forged_not.1 hz) with rfl | ⟨hway, x, rfl, hx⟩
          · rfl
          · simp only [ual, hway]
            rcases hx with rfl | ⟨hne, hlost⟩
            · simp
            · simp only [List.length_cons, List.length_nil, List.getD_cons_zero]
              have : (x != k.2.2.2.2.2.1) = true := by simpa using hne
              rw [this, hlost]
              simp
      refine (hk30 _).trans ?_
      rw [if_neg (show ¬ (false = true) by decide), if_pos (by simp only [List.length_nil]; omega), ual, if_pos trivial, ueU, uat]
      have hw : IntKind.wrap .i64 (k.2.2.2.1 + ((k.2.2.2.2.1 ++ more).length : Int)) = ((n + cnt gs : Nat) : Int) := by
        rw [← hnx, uaN (by simp only [rng, lo, Sx.hi]; omega)]
      rw [hw]
      simp
    rcases hO with ⟨p1, p2⟩ | ⟨p1, p2, p3, p4⟩
    · rw [p1, uat, ual]
      dsimp only
      rw [uaT]
      dsimp only
      rw [ual, if_neg (by simp)]
      obtain ⟨k', D3, q1, q2⟩ := tail D' hI p2 _ rfl
      exact ⟨k', D3, q1, .inr q2⟩
    · rw [p1, uat, ual]
      dsimp only
      obtain ⟨D'', r1, r2, r3, r4⟩ := umC (k := k) (fates := fates) (b := b + 262144) hl (by omega) h.seg h.first hI hB ha (fun _ => p3)
      obtain ⟨k', D3, q1, q2⟩ := tail D'' r1 r2 _ rfl
      exact ⟨k', D3, (r4 _).trans q1, .inr q2⟩
end Sx
namespace Sx
open Go
theorem unM : udq = some true := by kernel_rfl
end Sx
namespace Sx
open Go
abbrev KOpS := Int × List Int × List Int × Int × Int × Int × (List (List Int × Int × Int × List Int × Unit)) × Unit
def KOpOk (o : KOpS) : Prop := uan o.2.1 ∧ ucr o.2.2.2.2.2.2.1 ∧ o.2.2.2.2.2.2.1.length * 48 ≤ 140737488355328
theorem KInv.other {k : KS} {D D' : DiskS} {b : Nat} (h : KInv k D b) (h1 : D'.2.1 = D.2.1) (h2 : D'.2.2.2.2.2.1 = D.2.2.2.2.2.1) (h3 : D'.2.2.2.2.2.2 = D.2.2.2.2.2.2) : KInv k D' b := by
  refine ⟨h.flag, h.seg, h.first, h.gone, ?_⟩
  rcases h.st with ⟨hw, ho, kk, n, gs, hI, hB, hl⟩ | ⟨hw, hd, hop, hD⟩
  · exact .inl ⟨hw, by rw [h2]; exact ho, kk, n, gs, by rw [h1]; exact hI, hB, hl⟩
  · refine .inr ⟨hw, hd, by rw [h2, h3]; exact hop, ?_⟩
    rw [h1]; exact hD
theorem ukY (a1 : List KOpS) (hl : a1.length ≤ 1600000000000) (ho : ∀ o ∈ a1, KOpOk o) (K : (KS × DiskS) → Option Bool) (hK : ∀ k D b, b ≤ 262144 * 1600000000000 → KInv k D b → K (k, D) = some true) : ∀ (j i : Nat) (k : KS) (D : DiskS), i + j = a1.length → KInv k D (262144 * i) → ubi a1 K (j + 1) ((i : Int), k, D) = some true
  | 0, i, k, D, h, hI => by
    rw [ubi]
    dsimp only
    rw [if_neg (by rw [decide_eq_true_eq]; omega)]
    exact hK k D _ (by omega) hI
  | j + 1, i, k, D, h, hI => by
    have w5 : IntKind.wrap .i64 ((i : Int) + 1) = ((i + 1 : Nat) : Int) := by rw [uaN (by simp only [rng, lo, Sx.hi]; omega)]; omega
    have hlt : i < a1.length := by omega
    have hm : a1.getD i (0, [], [], 0, 0, 0, [], ()) ∈ a1 := by
      simp only [List.getD, List.getElem?_eq_getElem hlt, Option.getD_some]; exact List.getElem_mem hlt
    obtain ⟨g1, g2, g3⟩ := ho _ hm
    have next : ∀ k' D' b', b' ≤ 262144 * (i + 1) → KInv k' D' b' → ubi a1 K (j + 1) (((i + 1 : Nat) : Int), k', D') = some true := fun k' D' b' hb hk => ukY a1 hl ho K hK j (i + 1) k' D' (by omega) (hk.mono hb)
    rw [ubi]
    dsimp only
    rw [if_pos (by rw [decide_eq_true_eq]; omega), ual, if_pos (by constructor <;> omega)]
    simp only [Int.toNat_natCast]
    generalize a1.getD i (0, [], [], 0, 0, 0, [], ()) = o at *
    by_cases h1 : (o.1 == 1) = true
    · rw [if_pos h1]
      obtain ⟨k', D', e, hk⟩ := ui2 (by omega) g1 hI
      rw [e, uat]
      dsimp only
      rw [if_neg (show ¬ ((!true) = true) by decide), ual, w5]
      exact next k' D' _ (by omega) hk
    · rw [if_neg h1]
      by_cases h2 : (o.1 == 2) = true
      · rw [if_pos h2, ulZ, uat, ual, ual]
        cases hoff : D.2.2.2.2.2.1 with
        | false =>
          rw [if_pos (show (!false) = true by decide)]
          obtain ⟨k', D', e, hk⟩ := ujQ (a := o.2.2.2.2.2.1) (by omega) hI
          rw [e, uat]
          dsimp only
          rw [if_neg (show ¬ ((!true) = true) by decide), ual, w5]
          exact next k' D' _ (by omega) hk
        | true =>
          rw [if_neg (show ¬ ((!true) = true) by decide)]
          dsimp only
          rw [if_neg (show ¬ (false = true) by decide), ual, w5]
          exact next k D _ (by omega) hI
      · rw [if_neg h2]
        by_cases h4 : (o.1 == 4) = true
        · rw [if_pos h4, unK, uat, ual, w5]
          exact next k _ _ (by omega) (hI.other rfl rfl rfl)
        · rw [if_neg h4]
          by_cases h5 : (o.1 == 5) = true
          · rw [if_pos h5, ui1, uat, ual, w5]
            exact next k _ _ (by omega) (hI.other rfl rfl rfl)
          · rw [if_neg h5]
            by_cases h6 : (o.1 == 6) = true
            · rw [if_pos h6, ual, if_pos (by simp only [List.length_nil]; omega), List.nil_append]
              obtain ⟨k', D', e, hk⟩ := ukX (fall := o.2.2.2.2.1) g2 (by omega) hI
              rw [e, uat]
              dsimp only
              rw [if_neg (show ¬ ((!true) = true) by decide)]
              rcases hk with hk | hk
              · rw [if_pos hk]
              · rw [if_neg (by rw [hk.gone]; decide), ual, w5]
                exact next k' D' _ (by omega) hk
            · rw [if_neg h6, ual, w5]
              exact next k D _ (by omega) hI
theorem umD (a : Int) : ∃ n : Nat, n < 4096 ∧ iand .i64 a 4095 = (n : Int) := by
  refine ⟨(BitVec.ofInt 64 a &&& BitVec.ofInt 64 4095).toNat, ?_, ?_⟩
  · rw [BitVec.toNat_and]
    exact Nat.lt_of_le_of_lt Nat.and_le_right (by decide)
  · unfold iand
    show IntKind.wrap .i64 ((BitVec.ofInt 64 a &&& BitVec.ofInt 64 4095).toNat : Int) = _
    have : (BitVec.ofInt 64 a &&& BitVec.ofInt 64 4095).toNat < 4096 := by
      rw [BitVec.toNat_and]
      exact Nat.lt_of_le_of_lt Nat.and_le_right (by decide)
    exact uaN (by simp only [rng, lo, Sx.hi]; omega)
theorem ufr (a0 : Int) (a1 : List KOpS) {p0 p2 p3 p4 p5 p7 : KOpS → Prop} {t0 t1 t2 t4 : FateS → Prop} (_ : rng .i64 a0)
    (h1 : List.length a1 * 88 ≤ 140737488351232 ∧ ∀ y ∈ a1, p0 y ∧ (uan y.2.1 ∧ List.length y.2.1 ≤ 140737488351232) ∧ p2 y ∧ p3 y ∧ p4 y ∧ p5 y ∧ (List.length y.2.2.2.2.2.2.1 * 48 ≤ 140737488351232 ∧ ∀ z ∈ y.2.2.2.2.2.2.1, t0 z ∧ t1 z ∧ t2 z ∧ (uan z.2.2.2.1 ∧ List.length z.2.2.2.1 ≤ 140737488351232) ∧ t4 z) ∧ p7 y) : uc0 a0 a1 = some true := by
  have hops : ∀ o ∈ a1, KOpOk o := fun o ho => by
    obtain ⟨_, ⟨b1, b2⟩, _, _, _, _, ⟨c1, c2⟩, _⟩ := h1.2 o ho
    refine ⟨b1, ⟨by omega, fun x hx => ?_⟩, by omega⟩
    obtain ⟨_, _, _, ⟨d1, d2⟩, _⟩ := c2 x hx
    exact ⟨d1, by omega⟩
  have hnew : ufG 4000000 = some (0, (4000000, [], 0, 0, 0, false, false)) := rfl
  have hI0 : InvF ([] : List (List Int × FileS)) nmL 0 0 [] := ⟨⟨fun p hp => (by cases hp), List.nodup_nil, Nat.zero_le _⟩, fun f => ⟨fun h => (by cases h), fun ⟨x, hx, _⟩ => (by simp at hx; omega)⟩, fun i p hp => (by simp at hp), fun p hp => (by cases hp), Int.le_refl _, by decide⟩
  obtain ⟨x, hx, he⟩ := umD a0
  have hw : IntKind.wrap .i64 (64 + (x : Int)) = 64 + (x : Int) := uaN (by simp only [rng, lo, Sx.hi]; omega)
  obtain ⟨D', i1, i2, i3, i4⟩ := uiE (D := (4000000, [], 0, 0, 0, false, false)) (mo := 64 + (x : Int)) (fi := 0) rfl rfl uew ⟨by omega, by omega⟩ ⟨by decide, by decide⟩ hI0
  unfold uc0
  rw [hnew, uat]
  rw [ual, ual, ual]
  rw [if_neg (show ¬ ((((0 : Int) != 0) || ((0 : Int) != 0)) = true) by decide), unM, uat]
  dsimp only
  rw [if_neg (show ¬ ((!true) = true) by decide), if_pos rfl, he, hw]
  rcases i4 with ⟨i4, i5⟩ | ⟨_, _, _, i5⟩
  · have e : ubF (4000000, [], 0, 0, 0, false, false) [108, 111, 103] (64 + (x : Int)) 0 = some ((0, ((), nmL, 64 + (x : Int), uaE 0 0 [], 0, false, ())), [], 0, D') := i4
    rw [e, uat]
    dsimp only
    rw [ual, ual, if_neg (show ¬ ((((0 : Int) != 0) || ((0 : Int) != 0) || (((List.length ([] : List (List Int)) : Nat) : Int) != 0)) = true) by decide), ual]
    have ef : Int.toNat ((a1.length : Int) - 0) + 1 = a1.length + 1 := by omega
    rw [ef]
    refine ukY a1 (by omega) hops _ (fun k D b hb hk => ?_) a1.length 0 _ D' (by omega) ?_
    · obtain ⟨k', D3, e3, _⟩ := ukX (fates := []) (fall := 0) ⟨by decide, fun x hx => (by cases hx)⟩ (by omega) hk
      dsimp only
      rw [e3, uat]
    · refine ⟨rfl, ⟨?_, ?_⟩, Int.le_refl _, rfl, .inl ⟨rfl, i5, 0, 0, [], i1, ⟨fun q hq => (by cases hq), Int.le_refl _, Int.le_refl _, rfl, Nat.le_refl _⟩, rfl⟩⟩
      · show 64 ≤ 64 + (x : Int)
        omega
      · show 64 + (x : Int) ≤ 1048576
        omega
  · dsimp only at i5; omega
end Sx
