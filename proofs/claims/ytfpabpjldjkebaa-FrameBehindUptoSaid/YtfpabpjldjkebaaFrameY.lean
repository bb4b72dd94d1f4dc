import Derived.Test.YtfpabpjldjkebaaFrameX
namespace Sx
open Go

theorem lenF_take_le (o : List (List Int)) {i j : Nat} (h : i ≤ j) : lenF (o.take i) ≤ lenF (o.take j) := by
  have : o.take j = o.take i ++ (o.drop i).take (j - i) := by
    rw [← List.take_add]; congr 1; omega
  rw [this, lenF_app]; omega
theorem lenF_take_succ {o : List (List Int)} {k : Nat} {q : List Int} (h : o[k]? = some q) : lenF (o.take (k + 1)) = lenF (o.take k) + room q.length := by
  rw [List.take_add_one, h, lenF_app]; simp [lenF]
theorem lenF_take_all (o : List (List Int)) : lenF (o.take o.length) = lenF o := by rw [List.take_length]

theorem scan_all (l : List (List Int)) (n : Nat) (rest : List Int) (f : Nat) (hg : goodL l) (hf : l.length < f) (hn : n + l.length < 9223372036854775807) (hb : byteOk rest)
    (hno : ∀ p r, p.length ≤ 65536 → rest ≠ frameOf (n + l.length) p ++ r) : scanF f (frames n l ++ rest) 0 (n : Int) = (l, (lenF l : Int), decide (rest ≠ [])) := by
  have h := scan_frames l n [] rest f hg hf hn
  simp only [List.nil_append, List.length_nil, Nat.zero_add] at h
  refine h ?_
  intro hw
  rw [← frames_len n l] at hw
  obtain ⟨_, p, r, h1, h2⟩ := next_begins (fun c hc => by
    rcases List.mem_append.1 hc with g | g
    · exact frames_byte n hg c g
    · exact hb c g) hw
  rw [Int.toNat_natCast] at h2
  exact hno p r h1 h2

theorem number_eq (n0 : Int) : ∃ n : Nat, n < 1152921504606846976 ∧ escrowlaw05_number n0 = some (n : Int) := by
  refine ⟨(BitVec.ofInt 64 n0 &&& BitVec.ofInt 64 1152921504606846975).toNat, ?_, ?_⟩
  · rw [BitVec.toNat_and]
    exact Nat.lt_of_le_of_lt Nat.and_le_right (by decide)
  · unfold escrowlaw05_number iand
    show some (IntKind.wrap .i64 ((BitVec.ofInt 64 n0 &&& BitVec.ofInt 64 1152921504606846975).toNat : Int)) = _
    have : (BitVec.ofInt 64 n0 &&& BitVec.ofInt 64 1152921504606846975).toNat < 1152921504606846976 := by
      rw [BitVec.toNat_and]
      exact Nat.lt_of_le_of_lt Nat.and_le_right (by decide)
    rw [wrap_i64 (by omega) (by omega)]

theorem wrap_u64_nonneg (x : Int) : 0 ≤ IntKind.wrap .u64 x := by
  simp only [IntKind.wrap, IntKind.bits, IntKind.signed, Bool.false_and, Bool.false_eq_true, if_false]; omega
theorem umod (x : Int) (m : Nat) (h0 : 0 < m) (h1 : m < 4611686018427387904) : ∃ c : Nat, c < m ∧ IntKind.wrap .i64 (Int.tmod (IntKind.wrap .u64 x) (m : Int)) = (c : Int) := by
  obtain ⟨a, ha⟩ := Int.eq_ofNat_of_zero_le (wrap_u64_nonneg x)
  have := Nat.mod_lt a h0
  refine ⟨a % m, this, ?_⟩
  rw [ha]
  show IntKind.wrap .i64 ((a % m : Nat) : Int) = _
  rw [wrap_i64 (by omega) (by omega)]

/-- what 'joined' answers -/
structure Joined (n : Nat) (b : List Int) (own : List (List Int)) (e : List Int) : Prop where
  good : goodL own
  b : b = frames n own
  el : e.length = own.length
  ends : ∀ k, k < own.length → e.getD k 0 = (lenF (own.take (k + 1)) : Int)

theorem joined_l0_eq (l : List (List Int)) (n : Nat) (hn : n < 1152921504606846976) (hl : l.length ≤ 1048576) (hg : ∀ p ∈ l, byteOk p) (K : (List Int × List Int × List (List Int)) → Option (List Int × List (List Int) × List Int × Bool)) :
    ∀ (j i : Nat) (b e : List Int) (o : List (List Int)), i + j = l.length → Joined n b o e → o.length ≤ i → b.length + ((l.drop i).map fun p => p.length + 80).sum ≤ 90000000 →
    ∃ b' e' o', Joined n b' o' e' ∧ o'.length ≤ 1048576 ∧ b'.length ≤ 90000000 ∧ escrowlaw05_joined_l0 l (n : Int) K (j + 1) (b, (i : Int), e, o) = K (b', e', o')
  | 0, i, b, e, o, h, J, ho, hb => by
    refine ⟨b, e, o, J, by omega, by omega, ?_⟩
    rw [escrowlaw05_joined_l0, if_neg (by simp; omega)]
  | j + 1, i, b, e, o, h, J, ho, hb => by
    have hi : i < l.length := by omega
    have hd : l.drop i = l[i] :: l.drop (i + 1) := List.drop_eq_getElem_cons hi
    have hgd : l.getD i [] = l[i] := by simp [List.getD, hi]
    rw [hd, List.map_cons, List.sum_cons] at hb
    rw [escrowlaw05_joined_l0, if_pos (by simp; omega)]
    simp only [bnd_eq, Int.toNat_natCast, hgd]
    rw [if_pos (by omega)]
    have hw : IntKind.wrap .i64 ((i : Int) + 1) = ((i + 1 : Nat) : Int) := by rw [wrap_i64 (by omega) (by omega)]; omega
    by_cases hlong : l[i].length > 65536
    · obtain ⟨b', e', o', h1, h2, h3, h4⟩ := joined_l0_eq l n hn hl hg K j (i + 1) b e o (by omega) J (by omega) (by omega)
      refine ⟨b', e', o', h1, h2, h3, ?_⟩
      rw [if_pos (by simp; omega), hw]; exact h4
    · have hF := Frame_eq ((n + o.length : Nat) : Int) l[i] (by simp only [rng, lo, Sx.hi]; omega) (hg _ (List.getElem_mem hi)) (by omega)
      unfold frameAns at hF
      rw [if_neg (by omega), if_neg hlong, Int.toNat_natCast] at hF
      have hw2 : IntKind.wrap .i64 ((n : Int) + (o.length : Int)) = ((n + o.length : Nat) : Int) := by rw [wrap_i64 (by omega) (by omega)]; omega
      have hr := room_ge l[i].length
      have hfl := frameOf_len (n + o.length) l[i]
      rw [if_neg (by simp; omega), if_pos (by omega), hw2, hF]
      simp only [bind_eq]
      have hm : Int.tmod ((frameOf (n + o.length) l[i]).length : Int) 64 = 0 := by
        rw [hfl]
        show (((room l[i].length) % 64 : Nat) : Int) = 0
        simp only [room]; omega
      have hw3 : IntKind.wrap .i64 (16 + (l[i].length : Int)) = ((16 + l[i].length : Nat) : Int) := by rw [wrap_i64 (by omega) (by omega)]; omega
      have hw4 : IntKind.wrap .i64 (80 + (l[i].length : Int)) = ((80 + l[i].length : Nat) : Int) := by rw [wrap_i64 (by omega) (by omega)]; omega
      rw [hm, hw3, hw4, hfl]
      have d1 : decide ((room l[i].length : Int) < ((16 + l[i].length : Nat) : Int)) = false := by simp; omega
      have d2 : decide ((room l[i].length : Int) ≥ ((80 + l[i].length : Nat) : Int)) = false := by simp; omega
      rw [d1, d2]
      simp only [bne_self_eq_false, Bool.or_self, Bool.false_eq_true, if_false]
      rw [if_pos (by omega), if_pos (by omega), if_pos (by simp only [most]; omega), if_pos (by omega), if_pos (by simp only [List.length_singleton]; omega), if_pos (by rw [J.el]; simp only [List.length_singleton]; omega)]
      rw [hw]
      refine joined_l0_eq l n hn hl hg K j (i + 1) _ _ _ (by omega) ?_ (by simp; omega) (by rw [List.length_append, hfl]; omega)
      refine ⟨?_, ?_, ?_, ?_⟩
      · intro q hq
        rcases List.mem_append.1 hq with g | g
        · exact J.good q g
        · simp at g; subst g; exact ⟨hg _ (List.getElem_mem hi), by omega⟩
      · rw [J.b, frames_app]; simp [frames]
      · simp [J.el]
      · intro k hk
        simp only [List.length_append, List.length_singleton] at hk
        rcases Nat.lt_or_ge k o.length with g | g
        · rw [List.getD_eq_getElem?_getD, List.getElem?_append_left (by rw [J.el]; exact g), ← List.getD_eq_getElem?_getD, J.ends k g, List.take_append_of_le_length (by omega)]
        · obtain rfl : k = o.length := by omega
          rw [List.getD_eq_getElem?_getD, List.getElem?_append_right (by rw [J.el]; exact Nat.le_refl _), J.el, Nat.sub_self]
          simp only [List.getElem?_cons_zero, Option.getD_some, List.length_append, hfl]
          rw [List.take_of_length_le (by simp), lenF_app, J.b, frames_len]
          simp [lenF]

theorem joined_eq (l : List (List Int)) (n : Nat) (hn : n < 1152921504606846976) (hg : ∀ p ∈ l, byteOk p) (hB : (l.map fun p => p.length + 1).sum ≤ 1048576) :
    ∃ b e o, Joined n b o e ∧ o.length ≤ 1048576 ∧ b.length ≤ 90000000 ∧ escrowlaw05_joined l (n : Int) = some (b, o, e, true) := by
  have hl : l.length ≤ (l.map fun p => p.length + 1).sum := by
    clear hg hB
    induction l with
    | nil => simp
    | cons p r ih => simp only [List.length_cons, List.map_cons, List.sum_cons]; omega
  have hs : (l.map fun p => p.length + 80).sum ≤ 80 * (l.map fun p => p.length + 1).sum := by
    clear hg hB hl
    induction l with
    | nil => simp
    | cons p r ih => simp only [List.map_cons, List.sum_cons]; omega
  obtain ⟨b, e, o, h1, h2, h3, h4⟩ := joined_l0_eq l n hn (by omega) hg (fun o4 => some (o4.1, o4.2.2, o4.2.1, true)) l.length 0 [] [] [] (by omega) ⟨fun _ h => (by cases h), rfl, rfl, fun k hk => by simp at hk⟩ (by simp) (by simp only [List.drop_zero, List.length_nil]; omega)
  refine ⟨b, e, o, h1, h2, h3, ?_⟩
  simp only [escrowlaw05_joined, bnd_eq]
  have e1 : Int.toNat ((l.length : Int) - 0) + 1 = l.length + 1 := by omega
  rw [e1]; exact h4

theorem cut_frames : ∀ (o : List (List Int)) (n c : Nat), c ≤ lenF o → ∃ k rest, k ≤ o.length ∧ (frames n o).take c = frames n (o.take k) ++ rest ∧ c = lenF (o.take k) + rest.length ∧
    ((k = o.length ∧ rest = []) ∨ ∃ q, o[k]? = some q ∧ rest = (frameOf (n + k) q).take rest.length ∧ rest.length < room q.length)
  | [], n, c, h => ⟨0, [], by simp, by simp [frames], by simpa [lenF] using h, .inl ⟨rfl, rfl⟩⟩
  | p :: r, n, c, h => by
    have hl : lenF (p :: r) = room p.length + lenF r := by simp [lenF]
    have hfl := frameOf_len n p
    rw [hl] at h
    by_cases hc : c < room p.length
    · refine ⟨0, (frameOf n p).take c, by simp, ?_, by simp [lenF, hfl]; omega, .inr ⟨p, rfl, ?_, by simp [hfl]; omega⟩⟩
      · simp only [frames, List.take_zero, List.nil_append]
        rw [List.take_append_of_le_length (by omega)]
      · rw [List.length_take, hfl, Nat.min_eq_left (by omega)]; rfl
    · obtain ⟨k, rest, h1, h2, h3, h4⟩ := cut_frames r (n + 1) (c - room p.length) (by omega)
      refine ⟨k + 1, rest, by simpa using h1, ?_, ?_, ?_⟩
      · simp only [frames, List.take_succ_cons, List.append_assoc]
        rw [List.take_append, hfl, h2, List.take_of_length_le (by omega)]
      · simp only [List.take_succ_cons]
        have : lenF (p :: r.take k) = room p.length + lenF (r.take k) := by simp [lenF]
        clear h4 h2
        omega
      · rcases h4 with ⟨g1, g2⟩ | ⟨q, g1, g2, g3⟩
        · exact .inl ⟨by simp [g1], g2⟩
        · exact .inr ⟨q, by simpa using g1, by rw [show n + (k + 1) = n + 1 + k by omega]; exact g2, g3⟩

theorem Back_l0_eq {n : Nat} {b e : List Int} {o : List (List Int)} (J : Joined n b o e) (ho : o.length ≤ 1048576) (c : Nat) (k : Nat) (hk : k ≤ o.length) (h1 : lenF (o.take k) ≤ c) (h2 : k < o.length → c < lenF (o.take (k + 1))) (K : (Int × Int) → Option Bool) :
    ∀ (j i f : Nat), i + j = k → j < f → escrowlaw05_FrameBack_l0 (b, o, e, true) (c : Int) K f ((i : Int), (lenF (o.take i) : Int)) = K ((k : Int), (lenF (o.take k) : Int))
  | 0, i, 0, _, hf => by omega
  | 0, i, f + 1, h, hf => by
    obtain rfl : i = k := by omega
    rw [escrowlaw05_FrameBack_l0]
    simp only [bnd_eq, Int.toNat_natCast]
    by_cases g : i < o.length
    · have hd : decide ((i : Int) < (o.length : Int)) = true := by simp; omega
      have hc := h2 g
      rw [hd, if_pos rfl, if_pos (by rw [J.el]; omega)]
      simp only [J.ends i g]
      rw [if_neg (by simp; omega)]
    · have hd : decide ((i : Int) < (o.length : Int)) = false := by simp; omega
      rw [hd, if_neg (by simp), if_neg (by simp)]
  | j + 1, i, 0, _, hf => by omega
  | j + 1, i, f + 1, h, hf => by
    rw [escrowlaw05_FrameBack_l0]
    simp only [bnd_eq, Int.toNat_natCast]
    have g : i < o.length := by omega
    have hd : decide ((i : Int) < (o.length : Int)) = true := by simp; omega
    have hle := lenF_take_le o (show i + 1 ≤ k by omega)
    rw [hd, if_pos rfl, if_pos (by rw [J.el]; omega)]
    simp only [J.ends i g]
    rw [if_pos (by simp; omega), if_pos (by rw [J.el]; omega), wrap_i64 (by omega) (by omega), show ((i : Int) + 1) = ((i + 1 : Nat) : Int) by omega]
    exact Back_l0_eq J ho c k hk h1 h2 K j (i + 1) f (by omega) (by omega)

theorem goodL_take {o : List (List Int)} (h : goodL o) (k : Nat) : goodL (o.take k) := fun p hp => h p (List.mem_of_mem_take hp)
theorem lenF_ge (l : List (List Int)) : 64 * l.length ≤ lenF l := by
  induction l with
  | nil => simp [lenF]
  | cons p r ih =>
    have := room_ge p.length
    have hl : lenF (p :: r) = room p.length + lenF r := by simp [lenF]
    simp only [List.length_cons]; omega

theorem scan_whole {n : Nat} {o : List (List Int)} (hg : goodL o) (hn : n < 1152921504606846976) (ho : o.length ≤ 1048576) (hb : lenF o ≤ 90000000) (rest : List Int) (hr : byteOk rest) (hrl : rest.length ≤ 90000000) (hno : ∀ p r, p.length ≤ 65536 → rest ≠ frameOf (n + o.length) p ++ r) :
    frame_Scan (frames n o ++ rest) (n : Int) = some (o, (lenF o : Int), decide (rest ≠ [])) := by
  have hge := lenF_ge o
  have hbyte : byteOk (frames n o ++ rest) := fun c hc => by
    rcases List.mem_append.1 hc with g | g
    · exact frames_byte n hg c g
    · exact hr c g
  rw [Scan_eq _ _ hbyte (by rw [List.length_append, frames_len]; omega) (by simp only [rng, lo, hi]; omega)]
  rw [scan_all o n rest _ hg (by rw [List.length_append, frames_len]; omega) (by omega) hr hno]
theorem nil_no (m : Nat) (p r : List Int) : ([] : List Int) ≠ frameOf m p ++ r := fun h => by
  have := congrArg List.length h
  have hr := room_ge p.length
  simp [frameOf_len] at this
  omega

set_option maxRecDepth 100000 in
theorem escrowlaw05_FrameBack_true (l : List (List Int)) (n0 cut0 : Int) (h0 : List.length l * 16 ≤ 140737488351232 ∧ ∀ y ∈ l, byteOk y ∧ List.length y ≤ 140737488351232) (_ : rng .i64 n0) (_ : rng .i64 cut0)
    (hB : (l.map fun p => List.length p + 1).sum + 1 + (1 + (1 + 0)) ≤ 1048576) : escrowlaw05_FrameBack l n0 cut0 = some true := by
  obtain ⟨n, hn, en⟩ := number_eq n0
  obtain ⟨b, e, o, J, ho, hb, ej⟩ := joined_eq l n hn (fun p hp => (h0.2 p hp).1) (by omega)
  have hbl : b.length = lenF o := by rw [J.b, frames_len]
  obtain ⟨c, hc, ec⟩ := umod cut0 (b.length + 1) (by omega) (by omega)
  have w1 : IntKind.wrap .i64 ((b.length : Int) + 1) = ((b.length + 1 : Nat) : Int) := by rw [wrap_i64 (by omega) (by omega)]; omega
  have w2 : IntKind.wrap .u64 ((b.length + 1 : Nat) : Int) = ((b.length + 1 : Nat) : Int) := wrap_u64 (by omega) (by omega)
  obtain ⟨k, rest, k1, k2, k3, k4⟩ := cut_frames o n c (by omega)
  unfold escrowlaw05_FrameBack
  simp only [ffirst_eq, en, ej, bind_eq, bnd_eq, Bool.not_true, Bool.false_eq_true, if_false, w1, w2, ec, Int.toNat_natCast, List.drop_zero]
  rw [if_pos (by omega), if_pos (by omega)]
  have hrest : byteOk rest := fun x hx => by
    have : x ∈ (frames n o).take c := by rw [k2]; exact List.mem_append_right _ hx
    exact frames_byte n J.good x (List.mem_of_mem_take this)
  have hk1 : lenF (o.take k) ≤ lenF o := by
    have := lenF_take_le o k1
    rw [lenF_take_all] at this; exact this
  have s1 : frame_Scan (b.take c) (n : Int) = some (o.take k, (lenF (o.take k) : Int), decide (rest ≠ [])) := by
    rw [J.b, k2]
    have hkl : (o.take k).length = k := by simp; omega
    refine scan_whole (goodL_take J.good k) hn (by omega) (by omega) rest hrest (by omega) ?_
    rw [hkl]
    intro p r hp
    rcases k4 with ⟨g1, g2⟩ | ⟨q, g1, g2, g3⟩
    · rw [g2]; exact nil_no _ p r
    · rw [g2]
      exact not_cut (J.good q (List.mem_of_getElem? g1)).2 hp g3
  have s2 : frame_Scan b (n : Int) = some (o, (lenF o : Int), false) := by
    have := scan_whole J.good hn ho (by omega) [] (fun _ h => by cases h) (by simp) (fun p r _ => nil_no _ p r)
    rw [List.append_nil, ← J.b] at this
    simpa using this
  rw [s1]
  simp only [bind_eq]
  have loop := Back_l0_eq J ho c k k1 (by omega) (fun hlt => by
    rcases k4 with ⟨g1, _⟩ | ⟨q, g1, g2, g3⟩
    · omega
    · rw [lenF_take_succ g1]; omega)
  refine (loop _ k 0 (o.length + 2) (by omega) (by omega)).trans ?_
  rw [if_pos (by omega)]
  simp only [Int.toNat_natCast]
  rw [same_eq _ _ (by simp; omega), s2]
  simp only [bind_eq]
  rw [same_eq _ _ (by omega)]
  simp only [bind_eq, hbl]
  have hd : decide (rest ≠ []) = decide ((lenF (o.take k) : Int) < (c : Int)) := by
    rw [decide_eq_decide]
    constructor
    · intro h
      have := List.length_pos_iff.2 h
      omega
    · intro h e
      rw [e] at k3; simp at k3; omega
  rw [hd]
  simp

theorem Behind_l0_eq (x : Int) (m : Nat) (hm : m ≤ 300) (hx : IntKind.wrap .i64 (1 + (IntKind.wrap .i64 (Int.tmod (IntKind.wrap .u64 x) 300))) = (m : Int)) (K : List Int → Option Bool) : ∀ (j i : Nat), i + j = m →
    escrowlaw05_FrameBehind_l0 x K (j + 1) ((i : Int), List.replicate i 0) = K (List.replicate m 0)
  | 0, i, h => by
    obtain rfl : i = m := by omega
    rw [escrowlaw05_FrameBehind_l0]
    simp only [bnd_eq, hx]
    rw [if_neg (by simp)]
  | j + 1, i, h => by
    rw [escrowlaw05_FrameBehind_l0]
    simp only [bnd_eq, hx]
    rw [if_pos (by simp; omega), if_pos (by simp; omega), wrap_i64 (by omega) (by omega), show ((i : Int) + 1) = ((i + 1 : Nat) : Int) by omega]
    have : List.replicate i (0 : Int) ++ [0] = List.replicate (i + 1) 0 := by rw [List.replicate_succ']
    rw [this]
    exact Behind_l0_eq x m hm hx K j (i + 1) (by omega)

set_option maxRecDepth 100000 in
theorem escrowlaw05_FrameBehind_true (l : List (List Int)) (n0 zeros other : Int) (payload : List Int) (h0 : List.length l * 16 ≤ 140737488351232 ∧ ∀ y ∈ l, byteOk y ∧ List.length y ≤ 140737488351232) (_ : rng .i64 n0) (_ : rng .i64 zeros) (h3 : rng .i64 other) (h4 : byteOk payload ∧ List.length payload ≤ 140737488351232)
    (hB : (l.map fun p => List.length p + 1).sum + 1 + (1 + (1 + (1 + (List.length payload + 1 + 0)))) ≤ 1048576) : escrowlaw05_FrameBehind l n0 zeros other payload = some true := by
  obtain ⟨n, hn, en⟩ := number_eq n0
  obtain ⟨b, e, o, J, ho, hb, ej⟩ := joined_eq l n hn (fun p hp => (h0.2 p hp).1) (by omega)
  have hbl : b.length = lenF o := by rw [J.b, frames_len]
  obtain ⟨z, hz, ez⟩ := umod zeros 300 (by omega) (by omega)
  have hm : IntKind.wrap .i64 (1 + (IntKind.wrap .i64 (Int.tmod (IntKind.wrap .u64 zeros) 300))) = ((z + 1 : Nat) : Int) := by
    have : IntKind.wrap .i64 (Int.tmod (IntKind.wrap .u64 zeros) 300) = (z : Int) := ez
    rw [this, wrap_i64 (by omega) (by omega)]; omega
  unfold escrowlaw05_FrameBehind
  simp only [ffirst_eq, en, ej, bind_eq, bnd_eq, Bool.not_true, Bool.false_eq_true, if_false, hm]
  have e1 : Int.toNat (((z + 1 : Nat) : Int) - 0) + 1 = (z + 1) + 1 := by omega
  rw [e1]
  refine (Behind_l0_eq zeros (z + 1) (by omega) hm _ (z + 1) 0 (by omega)).trans ?_
  rw [if_pos (by simp only [List.length_replicate, most]; omega)]
  have s1 : frame_Scan (b ++ List.replicate (z + 1) 0) (n : Int) = some (o, (lenF o : Int), true) := by
    rw [J.b]
    have := scan_whole J.good hn ho (by omega) (List.replicate (z + 1) 0) (fun c hc => by obtain ⟨_, rfl⟩ := List.mem_replicate.1 hc; omega) (by simp; omega) (fun p r hp => not_zeros hp (by omega))
    rw [this]; simp
  rw [s1]
  simp only [bind_eq]
  rw [same_eq _ _ (by omega), Frame_eq other payload h3 h4.1 h4.2]
  simp only [bind_eq, hbl, decide_true, Bool.not_true, bne_self_eq_false, Bool.or_self, Bool.false_eq_true, if_false]
  have hw : IntKind.wrap .i64 ((n : Int) + (o.length : Int)) = ((n + o.length : Nat) : Int) := by rw [wrap_i64 (by omega) (by omega)]; omega
  rw [hw]
  unfold frameAns
  simp only [rng, lo, hi] at h3
  by_cases g1 : other < 0
  · rw [if_pos g1]; simp
  · rw [if_neg g1]
    by_cases g2 : payload.length > 65536
    · rw [if_pos g2]; simp
    · rw [if_neg g2]
      obtain ⟨m, rfl⟩ := Int.eq_ofNat_of_zero_le (Int.not_lt.1 g1)
      by_cases g3 : m = n + o.length
      · rw [if_pos (by simp [g3])]
      · have hr := room_ge payload.length
        rw [if_neg (by simp; omega), Int.toNat_natCast]
        simp only
        rw [if_pos (by rw [frameOf_len]; simp only [most]; omega)]
        have s2 : frame_Scan (b ++ frameOf m payload) (n : Int) = some (o, (lenF o : Int), true) := by
          rw [J.b]
          have := scan_whole J.good hn ho (by omega) (frameOf m payload) (frame_byte m h4.1) (by rw [frameOf_len]; omega) (fun p r hp => not_other (by omega) (by omega) (by omega))
          rw [this]
          have : frameOf m payload ≠ [] := fun h => by
            have := congrArg List.length h
            rw [frameOf_len] at this; simp at this; omega
          simp [this]
        rw [s2]
        simp only [bind_eq]
        rw [same_eq _ _ (by omega)]
        simp

theorem bnd_k {α γ : Type} (f : α → γ) (g : (α → γ) → γ) (x : α) (h : ∀ K, g K = K x) : bnd f g = f x := by rw [bnd_eq]; exact h f
theorem ixor_u8 {a c : Int} (_ : 0 ≤ a ∧ a < 256) (hc : 0 ≤ c ∧ c < 256) (h : c ≠ 0) : (0 ≤ ixor .u8 a c ∧ ixor .u8 a c < 256) ∧ a ≠ ixor .u8 a c := by
  have e : ixor .u8 a c = ((BitVec.ofInt 8 a ^^^ BitVec.ofInt 8 c).toNat : Int) := by
    unfold ixor
    show IntKind.wrap .u8 ((BitVec.ofInt 8 a ^^^ BitVec.ofInt 8 c).toNat : Int) = _
    rw [wrap_u8]
    have := (BitVec.ofInt 8 a ^^^ BitVec.ofInt 8 c).isLt
    omega
  have := (BitVec.ofInt 8 a ^^^ BitVec.ofInt 8 c).isLt
  refine ⟨by rw [e]; omega, fun he => ?_⟩
  rw [e] at he
  have h2 : (BitVec.ofInt 8 a).toNat = (BitVec.ofInt 8 a ^^^ BitVec.ofInt 8 c).toNat := by
    rw [BitVec.toNat_ofInt]; omega
  have h3 := BitVec.eq_of_toNat_eq h2
  have h4 : BitVec.ofInt 8 c = 0#8 := by
    have : BitVec.ofInt 8 a ^^^ (BitVec.ofInt 8 a ^^^ BitVec.ofInt 8 c) = BitVec.ofInt 8 a ^^^ BitVec.ofInt 8 a := by rw [← h3]
    rw [← BitVec.xor_assoc, BitVec.xor_self, BitVec.zero_xor] at this
    exact this
  have h5 := congrArg BitVec.toNat h4
  rw [BitVec.toNat_ofInt] at h5
  simp at h5
  omega

set_option maxRecDepth 100000 in
theorem escrowlaw05_FrameTells_true (l : List (List Int)) (n0 which at0 bits : Int) (h0 : List.length l * 16 ≤ 140737488351232 ∧ ∀ y ∈ l, byteOk y ∧ List.length y ≤ 140737488351232) (_ : rng .i64 n0) (_ : rng .i64 which) (_ : rng .i64 at0) (h4 : rng .u8 bits)
    (hB : (l.map fun p => List.length p + 1).sum + 1 + (1 + (1 + (1 + (1 + 0)))) ≤ 1048576) : escrowlaw05_FrameTells l n0 which at0 bits = some true := by
  simp only [rng, lo, hi] at h4
  obtain ⟨n, hn, en⟩ := number_eq n0
  obtain ⟨b, e, o, J, ho, hb, ej⟩ := joined_eq l n hn (fun p hp => (h0.2 p hp).1) (by omega)
  have hbl : b.length = lenF o := by rw [J.b, frames_len]
  unfold escrowlaw05_FrameTells
  rw [ffirst_eq, bind_eq, if_neg (by simp), en, bind_eq, ej, bind_eq, if_neg (by simp), bnd_eq]
  by_cases c0 : o.length = 0 ∨ bits = 0
  · rw [if_pos (by rcases c0 with c | c <;> simp [c])]
  · have hz : ((o.length : Int) == 0 || bits == 0) = false := by
      have z1 : ((o.length : Int) == 0) = false := by rw [beq_eq_false_iff_ne]; omega
      have z2 : (bits == 0) = false := by rw [beq_eq_false_iff_ne]; omega
      rw [z1, z2]; rfl
    simp only at hz ⊢
    rw [hz, if_neg (by simp)]
    have w1 : IntKind.wrap .u64 (o.length : Int) = (o.length : Int) := wrap_u64 (by omega) (by omega)
    obtain ⟨w, hw, ew⟩ := umod which o.length (by omega) (by omega)
    rw [w1, if_pos (by omega), ew, bnd_eq]
    have hq : o[w]? = some o[w] := List.getElem?_eq_getElem hw
    generalize hqq : o[w] = q at hq
    have hqg : byteOk q ∧ q.length ≤ 65536 := J.good q (by rw [← hqq]; exact List.getElem_mem hw)
    have hr := room_ge q.length
    have hsucc := lenF_take_succ hq
    have hle : lenF (o.take (w + 1)) ≤ lenF o := by
      have := lenF_take_le o (show w + 1 ≤ o.length by omega)
      rw [lenF_take_all] at this; exact this
    refine (bnd_k _ _ (lenF (o.take w) : Int) (fun K => ?_)).trans ?_
    · rcases Nat.eq_zero_or_pos w with z | z
      · subst z
        rw [if_neg (by simp)]; simp [lenF]
      · have e1 : IntKind.wrap .i64 ((w : Int) - 1) = ((w - 1 : Nat) : Int) := by rw [wrap_i64 (by omega) (by omega)]; omega
        rw [if_pos (by simp; omega), e1, if_pos (by rw [J.el]; omega), bnd_eq, Int.toNat_natCast, J.ends (w - 1) (by omega), show w - 1 + 1 = w by omega]
    simp only [bnd_eq]
    rw [if_pos (by rw [J.el]; omega)]
    simp only [Int.toNat_natCast]
    rw [J.ends w hw, hsucc]
    have e2 : IntKind.wrap .i64 (((lenF (o.take w) + room q.length : Nat) : Int) - (lenF (o.take w) : Int)) = (room q.length : Int) := by rw [wrap_i64 (by omega) (by omega)]; omega
    have e3 : IntKind.wrap .i64 ((room q.length : Int) - 4) = ((room q.length - 4 : Nat) : Int) := by rw [wrap_i64 (by omega) (by omega)]; omega
    have e4 : IntKind.wrap .u64 ((room q.length - 4 : Nat) : Int) = ((room q.length - 4 : Nat) : Int) := wrap_u64 (by omega) (by omega)
    obtain ⟨t, ht, et⟩ := umod at0 (room q.length - 4) (by omega) (by omega)
    rw [e2]
    simp only [e3, e4, et]
    rw [if_pos (by omega)]
    have e5 : IntKind.wrap .i64 ((lenF (o.take w) : Int) + 4) = ((lenF (o.take w) + 4 : Nat) : Int) := by rw [wrap_i64 (by omega) (by omega)]; omega
    have e6 : IntKind.wrap .i64 (((lenF (o.take w) + 4 : Nat) : Int) + (t : Int)) = ((lenF (o.take w) + (4 + t) : Nat) : Int) := by rw [wrap_i64 (by omega) (by omega)]; omega
    rw [e5, e6, if_pos (by omega), if_pos (by omega), Int.toNat_natCast]
    have hsplit : b = frames n (o.take w) ++ (frameOf (n + w) q ++ frames (n + w + 1) (o.drop (w + 1))) := by
      have : o = o.take w ++ q :: o.drop (w + 1) := by
        rw [← hqq, ← List.drop_eq_getElem_cons hw, List.take_append_drop]
      rw [J.b]
      conv => lhs; rw [this]
      rw [frames_app]
      simp only [frames, List.length_take]
      rw [Nat.min_eq_left (by omega)]
    have hfl := frames_len n (o.take w)
    have hff := frameOf_len (n + w) q
    have hget : b.getD (lenF (o.take w) + (4 + t)) 0 = (frameOf (n + w) q).getD (4 + t) 0 := by
      rw [hsplit, List.getD_eq_getElem?_getD, List.getElem?_append_right (by omega), hfl, List.getElem?_append_left (by omega), ← List.getD_eq_getElem?_getD]
      congr 1; omega
    have hset : ∀ x, b.set (lenF (o.take w) + (4 + t)) x = frames n (o.take w) ++ ((frameOf (n + w) q).set (4 + t) x ++ frames (n + w + 1) (o.drop (w + 1))) := by
      intro x
      rw [hsplit, List.set_append, if_neg (by omega), List.set_append, if_pos (by omega), hfl]
      congr 3; omega
    have hbyte := fgetD_byte (frame_byte (n + w) hqg.1) (4 + t)
    obtain ⟨x1, x2⟩ := ixor_u8 hbyte (by omega : 0 ≤ bits ∧ bits < 256) (by omega)
    rw [hget, hset]
    generalize hX : ixor .u8 ((frameOf (n + w) q).getD (4 + t) 0) bits = X at *
    have hgd : goodL (o.drop (w + 1)) := fun p hp => J.good p (List.mem_of_mem_drop hp)
    have hrb : byteOk ((frameOf (n + w) q).set (4 + t) X ++ frames (n + w + 1) (o.drop (w + 1))) := fun c hc => by
      rcases List.mem_append.1 hc with g | g
      · rcases List.mem_or_eq_of_mem_set g with g | g
        · exact frame_byte _ hqg.1 c g
        · subst g; exact x1
      · exact frames_byte _ hgd c g
    have hlen : lenF (o.take w) + ((frameOf (n + w) q).set (4 + t) X ++ frames (n + w + 1) (o.drop (w + 1))).length = lenF o := by
      have := congrArg List.length hsplit
      simp only [List.length_append, List.length_set] at this ⊢
      omega
    have hno : ∀ p r, p.length ≤ 65536 → (frameOf (n + w) q).set (4 + t) X ++ frames (n + w + 1) (o.drop (w + 1)) ≠ frameOf (n + w) p ++ r := fun p r hp =>
      not_set hqg.1 hqg.2 hp (by omega) (by omega) x1 x2
    have hne : (frameOf (n + w) q).set (4 + t) X ++ frames (n + w + 1) (o.drop (w + 1)) ≠ [] := fun h => by
      have := congrArg List.length h
      simp only [List.length_append, List.length_set, List.length_nil] at this; omega
    generalize (frameOf (n + w) q).set (4 + t) X ++ frames (n + w + 1) (o.drop (w + 1)) = R at *
    have htl : (o.take w).length = w := by simp; omega
    have s1 : frame_Scan (frames n (o.take w) ++ R) (n : Int) = some (o.take w, (lenF (o.take w) : Int), true) := by
      have := scan_whole (goodL_take J.good w) hn (by omega) (by omega) R hrb (by omega) (by rw [htl]; exact hno)
      rw [this]; simp [hne]
    have hbb : byteOk (frames n (o.take w) ++ R) := fun c hc => by
      rcases List.mem_append.1 hc with g | g
      · exact frames_byte n (goodL_take J.good w) c g
      · exact hrb c g
    have e7 : IntKind.wrap .i64 ((n : Int) + (w : Int)) = ((n + w : Nat) : Int) := by rw [wrap_i64 (by omega) (by omega)]; omega
    have s2 : frame_Next (frames n (o.take w) ++ R) (lenF (o.take w) : Int) (IntKind.wrap .i64 ((n : Int) + (w : Int))) = some ([], 0, 2) := by
      rw [e7, Next_eq _ _ _ hbb (by rw [List.length_append, hfl]; omega) (by simp only [rng, lo, hi]; omega) (by simp only [rng, lo, hi]; omega)]
      have h1 : (nextAns (frames n (o.take w) ++ R) (lenF (o.take w) : Int) ((n + w : Nat) : Int)).2.2 ≠ 1 := by
        intro hh
        rw [← hfl] at hh
        obtain ⟨_, p, r, g1, g2⟩ := next_begins hbb hh
        rw [Int.toNat_natCast] at g2
        exact hno p r g1 g2
      rw [next_other (by omega) (by rw [List.length_append, hfl]; omega) h1]
      have := List.length_pos_iff.2 hne
      rw [if_neg (by rw [List.length_append, hfl]; omega)]
    rw [s1, bind_eq, s2, bind_eq, if_pos (by omega)]
    simp only [List.drop_zero]
    rw [same_eq _ _ (by simp; omega)]
    simp [bind_eq]
end Sx
