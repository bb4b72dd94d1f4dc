import Derived.Test.YtfpabpjldjkebaaFrameW
namespace Sx
open Go

theorem be_succ (v n : Nat) : be v (n + 1) = be (v / 256) n ++ [((v % 256 : Nat) : Int)] := by
  simp only [be, List.range_succ, List.map_append, List.map_cons, List.map_nil]
  congr 1
  · apply List.map_congr_left
    intro i hi
    simp at hi
    rw [Nat.div_div_eq_div_mul]
    have : 2 ^ (8 * (n + 1 - 1 - i)) = 256 * 2 ^ (8 * (n - 1 - i)) := by
      rw [show 8 * (n + 1 - 1 - i) = 8 + 8 * (n - 1 - i) by omega, Nat.pow_add]
    rw [this]
  · simp
theorem be_inj : ∀ (n v w : Nat), v < 256 ^ n → w < 256 ^ n → be v n = be w n → v = w
  | 0, v, w, h1, h2, _ => by simp at h1 h2; omega
  | n + 1, v, w, h1, h2, h => by
    rw [be_succ, be_succ] at h
    have hl : (be (v / 256) n).length = (be (w / 256) n).length := by rw [be_len, be_len]
    obtain ⟨e1, e2⟩ := List.append_inj h hl
    rw [Nat.pow_succ] at h1 h2
    have := be_inj n _ _ (by omega) (by omega) e1
    simp at e2
    omega
theorem take_be (v n : Nat) (X : List Int) : List.take n (be v n ++ X) = be v n := List.take_left' (be_len v n)
theorem rep_add (m n : Nat) (a : Int) : List.replicate (m + n) a = List.replicate m a ++ List.replicate n a := (List.replicate_append_replicate).symm
theorem pre_be (v : Nat) (hv : v < 4294967296) (r : List Int) : pre (be v 4 ++ r) 4 = (v : Int) := by
  simp only [be, List.range_succ, List.range_zero, List.nil_append, List.map_append, List.map_cons, List.map_nil, pre]
  simp [List.getD]
  omega

theorem run_inj : ∀ (a : List Int) (x y : B32), run x a = run y a → x = y
  | [], _, _, h => h
  | c :: r, x, y, h => by
    simp only [run] at h
    have := it_inj 8 (run_inj r _ _ h)
    simpa using this
theorem byte32_inj {c d : Int} (hc : 0 ≤ c ∧ c < 256) (hd : 0 ≤ d ∧ d < 256) (h : BitVec.ofInt 32 c = BitVec.ofInt 32 d) : c = d := by
  have := congrArg u h
  rw [← byte_u hc, ← byte_u hd, wrap_u32 hc.1 (by omega), wrap_u32 hd.1 (by omega)] at this
  exact this
/-- one byte that is changed is told -/
theorem on_set (x : B32) (a q : List Int) (hq : byteOk q) (i : Nat) (hi : i < q.length) (c : Int) (hc : 0 ≤ c ∧ c < 256) (h : on x (a ++ q) = on x (a ++ q.set i c)) : q[i] = c := by
  unfold on at h
  have h := congrArg (fun z => ~~~z) h
  simp only [BitVec.not_not] at h
  rw [run_app, run_app] at h
  have e1 : q = q.take i ++ q[i] :: q.drop (i + 1) := by rw [← List.drop_eq_getElem_cons hi, List.take_append_drop]
  have e2 : q.set i c = q.take i ++ c :: q.drop (i + 1) := by rw [List.set_eq_take_append_cons_drop, if_pos hi]
  rw [e2] at h
  conv at h => lhs; rw [e1]
  rw [run_app, run_app] at h
  simp only [run] at h
  have := it_inj 8 (run_inj _ _ _ h)
  have : BitVec.ofInt 32 q[i] = BitVec.ofInt 32 c := by simpa using this
  exact byte32_inj (hq _ (List.getElem_mem hi)) hc this

theorem frame_parts (n : Nat) (p : List Int) : frameOf n p = be p.length 4 ++ (be n 8 ++ (be (sumOf n p).toNat 4 ++ (p ++ List.replicate (room p.length - (16 + p.length)) 0))) := by
  simp [frameOf, bare]
theorem frame_byte (n : Nat) {p : List Int} (hp : byteOk p) : byteOk (frameOf n p) := by
  intro c hc
  rw [frame_parts] at hc
  simp only [List.mem_append] at hc
  rcases hc with h | h | h | h | h
  · exact be_byte _ _ c h
  · exact be_byte _ _ c h
  · exact be_byte _ _ c h
  · exact hp c h
  · obtain ⟨_, rfl⟩ := List.mem_replicate.1 h; omega

theorem next_frame (P rest p : List Int) (n : Nat) (hp : p.length ≤ 65536) : nextAns (P ++ (frameOf n p ++ rest)) (P.length : Int) (n : Int) = (p, (room p.length : Int), 1) := by
  have hr := room_ge p.length
  have hfl := frameOf_len n p
  unfold nextAns
  simp only [Int.toNat_natCast, List.drop_left, List.length_append]
  have hpre : pre (frameOf n p ++ rest) 4 = (p.length : Int) := by
    rw [frame_parts, List.append_assoc]; exact pre_be _ (by omega) _
  have hpay : List.take p.length (List.drop 16 (frameOf n p ++ rest)) = p := by
    rw [frame_parts]
    have : be p.length 4 ++ (be n 8 ++ (be (sumOf n p).toNat 4 ++ (p ++ List.replicate (room p.length - (16 + p.length)) 0))) ++ rest = (be p.length 4 ++ be n 8 ++ be (sumOf n p).toNat 4) ++ (p ++ (List.replicate (room p.length - (16 + p.length)) 0 ++ rest)) := by simp
    rw [this, show 16 = (be p.length 4 ++ be n 8 ++ be (sumOf n p).toNat 4).length by simp [be_len], List.drop_left, List.take_left]
  have htake : List.take (room p.length) (frameOf n p ++ rest) = frameOf n p := by rw [← hfl, List.take_left]
  rw [if_neg (by omega), if_neg (by omega)]
  simp only [hpre, Int.toNat_natCast, hpay, htake]
  rw [if_neg (by omega), if_pos trivial]

/-- what is whole begins with a frame -/
theorem next_begins {P c : List Int} {n : Int} (hb : byteOk (P ++ c)) (h : (nextAns (P ++ c) (P.length : Int) n).2.2 = 1) : 0 ≤ n ∧ ∃ p rest, p.length ≤ 65536 ∧ c = frameOf n.toNat p ++ rest := by
  obtain ⟨g1, g2, g3, g4, g5, g6⟩ := next_whole hb h
  refine ⟨g2, _, c.drop (room (nextAns (P ++ c) (P.length : Int) n).1.length), g5, ?_⟩
  rw [g6, Int.toNat_natCast, List.drop_left, List.take_append_drop]

/-- frames one behind the other -/
def frames : Nat → List (List Int) → List Int
  | _, [] => []
  | n, p :: r => frameOf n p ++ frames (n + 1) r
def lenF (l : List (List Int)) : Nat := (l.map fun p => room p.length).sum
theorem frames_len : ∀ (n : Nat) (l : List (List Int)), (frames n l).length = lenF l
  | _, [] => rfl
  | n, p :: r => by simp only [frames, List.length_append, frameOf_len, frames_len (n + 1) r, lenF, List.map_cons, List.sum_cons]
theorem frames_app : ∀ (n : Nat) (l m : List (List Int)), frames n (l ++ m) = frames n l ++ frames (n + l.length) m
  | n, [], m => by simp [frames]
  | n, p :: r, m => by
    simp only [List.cons_append, frames, frames_app (n + 1) r m, List.append_assoc, List.length_cons]
    rw [show n + 1 + r.length = n + (r.length + 1) by omega]
theorem lenF_app (l m : List (List Int)) : lenF (l ++ m) = lenF l + lenF m := by simp [lenF]
/-- payloads that frames can hold -/
def goodL (l : List (List Int)) : Prop := ∀ p ∈ l, byteOk p ∧ p.length ≤ 65536
theorem frames_byte : ∀ (n : Nat) {l : List (List Int)}, goodL l → byteOk (frames n l)
  | _, [], _ => fun c hc => by cases hc
  | n, p :: r, h => fun c hc => by
    rcases List.mem_append.1 hc with g | g
    · exact frame_byte n (h p List.mem_cons_self).1 c g
    · exact frames_byte (n + 1) (fun q hq => h q (List.mem_cons_of_mem _ hq)) c g

theorem scan_frames : ∀ (l : List (List Int)) (n : Nat) (P rest : List Int) (f : Nat), goodL l → l.length < f → n + l.length < 9223372036854775807 →
    (nextAns (P ++ (frames n l ++ rest)) ((P.length + lenF l : Nat) : Int) ((n + l.length : Nat) : Int)).2.2 ≠ 1 →
    scanF f (P ++ (frames n l ++ rest)) (P.length : Int) (n : Int) = (l, ((P.length + lenF l : Nat) : Int), decide (rest ≠ []))
  | [], n, P, rest, 0, _, hf, _, _ => by simp at hf
  | [], n, P, rest, f + 1, _, _, _, h => by
    simp only [frames, List.nil_append, lenF, List.map_nil, List.sum_nil, List.length_nil, Nat.add_zero] at h ⊢
    simp only [scanF]
    rw [if_neg h]
    simp only [List.length_append]
    congr 2
    cases rest with
    | nil => simp
    | cons a r => simp; omega
  | p :: r, n, P, rest, 0, _, hf, _, _ => by omega
  | p :: r, n, P, rest, f + 1, hg, hf, hn, h => by
    have hp := hg p List.mem_cons_self
    simp only [List.length_cons] at hf hn h
    have hx := next_frame P (frames (n + 1) r ++ rest) p n hp.2
    have ih := scan_frames r (n + 1) (P ++ frameOf n p) rest f (fun q hq => hg q (List.mem_cons_of_mem _ hq)) (by omega) (by omega)
    simp only [List.length_append, frameOf_len, List.append_assoc] at ih
    have hl : lenF (p :: r) = room p.length + lenF r := by simp [lenF]
    rw [hl] at h ⊢
    simp only [frames, List.append_assoc] at h ⊢
    rw [show P.length + (room p.length + lenF r) = P.length + room p.length + lenF r by omega] at h ⊢
    rw [show n + (r.length + 1) = n + 1 + r.length by omega] at h
    have ih := ih h
    simp only [scanF, hx]
    rw [if_pos trivial, if_neg (by omega), show (P.length : Int) + (room p.length : Int) = ((P.length + room p.length : Nat) : Int) by omega, show (n : Int) + 1 = ((n + 1 : Nat) : Int) by omega, ih]

/-! ### What is no frame -/
theorem not_cut {n m : Nat} {q p rest : List Int} {k : Nat} (hq : q.length ≤ 65536) (hp : p.length ≤ 65536) (hk : k < room q.length) : (frameOf n q).take k ≠ frameOf m p ++ rest := by
  intro h
  have hr := room_ge p.length
  have hl := congrArg List.length h
  simp only [List.length_take, frameOf_len, List.length_append] at hl
  have h4 := congrArg (List.take 4) h
  rw [List.take_take, frame_parts, frame_parts, List.append_assoc, Nat.min_eq_left (by omega)] at h4
  rw [take_be, take_be] at h4
  have := be_inj 4 _ _ (by omega) (by omega) h4
  rw [this] at hk
  omega
theorem not_other {n m : Nat} {q p rest : List Int} (hn : n < 9223372036854775808) (hm : m < 9223372036854775808) (hnm : n ≠ m) : frameOf n q ≠ frameOf m p ++ rest := by
  intro h
  rw [frame_parts, frame_parts, List.append_assoc, List.append_assoc] at h
  have h1 := (List.append_inj h (by rw [be_len, be_len])).2
  have h2 := (List.append_inj h1 (by rw [be_len, be_len])).1
  exact hnm (be_inj 8 _ _ (by omega) (by omega) h2)
theorem be_zero {v n : Nat} (hv : v < 256 ^ n) (h : be v n = List.replicate n 0) : v = 0 := by
  apply be_inj n v 0 hv (Nat.pow_pos (by omega))
  rw [h]
  simp [be, List.map_const']
theorem not_zeros {m k : Nat} {p rest : List Int} (hp : p.length ≤ 65536) (hm : m < 9223372036854775808) : List.replicate k (0 : Int) ≠ frameOf m p ++ rest := by
  intro h
  have hr := room_ge p.length
  have hl := congrArg List.length h
  simp only [List.length_replicate, frameOf_len, List.length_append] at hl
  rw [frame_parts, List.append_assoc, List.append_assoc, List.append_assoc] at h
  rw [show k = 4 + (8 + (4 + (k - 16))) by omega, rep_add] at h
  obtain ⟨e1, h⟩ := List.append_inj h (by rw [be_len, List.length_replicate])
  rw [rep_add] at h
  obtain ⟨e2, h⟩ := List.append_inj h (by rw [be_len, List.length_replicate])
  rw [rep_add] at h
  obtain ⟨e3, _⟩ := List.append_inj h (by rw [be_len, List.length_replicate])
  have z1 := be_zero (by omega) e1.symm
  have z2 := be_zero (by omega) e2.symm
  have z3 := be_zero (by have := (sumOf m p).isLt; omega) e3.symm
  obtain rfl : p = [] := List.eq_nil_of_length_eq_zero z1
  subst z2
  exact absurd z3 (by decide +kernel)
theorem not_set {n : Nat} {q p rest0 rest : List Int} {i : Nat} {x : Int} (hq : byteOk q) (hql : q.length ≤ 65536) (hp : p.length ≤ 65536) (hi : 4 ≤ i) (hil : i < room q.length) (hx : 0 ≤ x ∧ x < 256) (hne : (frameOf n q).getD i 0 ≠ x) :
    (frameOf n q).set i x ++ rest0 ≠ frameOf n p ++ rest := by
  intro h
  have hi' : i < (frameOf n q).length := by rw [frameOf_len]; exact hil
  have h4 := congrArg (List.take 4) h
  have hset : ((frameOf n q).set i x).take 4 = be q.length 4 := by
    rw [List.take_set_of_le (by omega), frame_parts, take_be]
  rw [List.take_append_of_le_length (by rw [List.length_set, frameOf_len]; omega), hset, frame_parts, List.append_assoc, take_be] at h4
  have hpq : q.length = p.length := be_inj 4 _ _ (by omega) (by omega) h4
  obtain ⟨h, _⟩ := List.append_inj h (by rw [List.length_set, frameOf_len, frameOf_len, hpq])
  have same : p ≠ q := fun e => by
    rw [e] at h
    have := congrArg (fun l => l.getD i 0) h
    simp only [List.getD, List.getElem?_set_self hi', Option.getD_some] at this
    exact hne (by simp only [List.getD]; exact this.symm)
  have part : ∀ m z, frameOf m z = (be z.length 4 ++ be m 8 ++ be (sumOf m z).toNat 4) ++ (z ++ List.replicate (room z.length - (16 + z.length)) 0) := fun m z => by rw [frame_parts]; simp
  have len16 : ∀ m z, (be z.length 4 ++ be m 8 ++ be (sumOf m z).toNat 4).length = 16 := fun m (z : List Int) => by simp [be_len]
  rw [part n q, part n p] at h
  rcases Nat.lt_or_ge i 16 with hlt | hge
  · rw [List.set_append, if_pos (by rw [len16]; exact hlt)] at h
    have := (List.append_inj h (by rw [List.length_set, len16, len16])).2
    exact same (List.append_inj this hpq).1.symm
  · rw [List.set_append, if_neg (by rw [len16]; omega), len16] at h
    obtain ⟨e1, e2⟩ := List.append_inj h (by rw [len16, len16])
    have e3 := (List.append_inj e1 (by simp [be_len])).2
    have hs : sumOf n q = sumOf n p := BitVec.eq_of_toNat_eq (be_inj 4 _ _ (by have := (sumOf n q).isLt; omega) (by have := (sumOf n p).isLt; omega) e3)
    rw [List.set_append] at e2
    split at e2
    · rename_i hlt
      have e4 := (List.append_inj e2 (by rw [List.length_set, hpq])).1
      have hs2 : on 0#32 (be q.length 4 ++ be n 8 ++ q) = on 0#32 (be q.length 4 ++ be n 8 ++ q.set (i - 16) x) := by
        have := hs
        unfold sumOf at this
        rw [← hpq, ← e4] at this
        exact this
      have := on_set _ _ q hq (i - 16) hlt x hx hs2
      apply hne
      rw [part n q, List.getD_eq_getElem?_getD, List.getElem?_append_right (by rw [len16]; exact hge), len16, List.getElem?_append_left hlt, List.getElem?_eq_getElem hlt]
      exact this
    · exact same (List.append_inj e2 hpq).1.symm
end Sx
