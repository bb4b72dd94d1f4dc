/-
  Own work. Typed data and how it lies in memory: the shapes of Go's data, what a row of cells holds of a shape, paths into it.
-/
import Derived.Below
namespace Sx
open Go

/-- Shapes of data. 'raw': any value of one cell, as it is. 'sl e t': a slice (element type number e) that nobody writes any more. -/
inductive T where
  | int (k : IntKind) | bool | str | unit | raw (z : Value)
  | pair (a b : T) | arr (n : Nat) (t : T) | sl (e : TypeId) (t : T)

@[reducible] def T.D : T → Type
  | .int _ => Int | .bool => Bool | .str => List Int | .unit => Unit | .raw _ => Value
  | .pair a b => a.D × b.D | .arr _ t => List t.D | .sl _ t => List t.D

@[reducible] def T.size : T → Nat
  | .int _ | .bool | .str | .raw _ | .sl _ _ => 1
  | .unit => 0
  | .pair a b => a.size + b.size
  | .arr n t => n * t.size

def T.zero : (t : T) → t.D
  | .int _ => (0 : Int) | .bool => false | .str => ([] : List Int) | .unit => () | .raw z => z
  | .pair a b => (a.zero, b.zero) | .arr n t => List.replicate n t.zero | .sl _ t => ([] : List t.D)

abbrev Mem := Nat → Option Obj
def Mem.le (M M' : Mem) : Prop := ∀ k o, M k = some o → M' k = some o
theorem Mem.le.refl (M : Mem) : M.le M := fun _ _ h => h
theorem Mem.le.trans {A B C : Mem} (h : A.le B) (g : B.le C) : A.le C := fun k o e => g k o (h k o e)

@[reducible] def lo : IntKind → Int
  | .i8 => -128 | .i16 => -32768 | .i32 => -2147483648 | .i64 => -9223372036854775808 | _ => 0
@[reducible] def hi : IntKind → Int
  | .i8 => 127 | .i16 => 32767 | .i32 => 2147483647 | .i64 => 9223372036854775807
  | .u8 => 255 | .u16 => 65535 | .u32 => 4294967295 | .u64 => 18446744073709551615
@[reducible] def rng (k : IntKind) (x : Int) : Prop := lo k ≤ x ∧ x ≤ hi k
def byteOk (x : List Int) : Prop := ∀ c ∈ x, 0 ≤ c ∧ c < 256
def bs (l : List Int) : ByteArray := ⟨(l.map fun c => UInt8.ofNat c.toNat).toArray⟩

/-- a value of one cell -/
def one : Value → Bool
  | .agg _ | .tuple _ => false
  | _ => true

/-- the most that a text or a list may have -/
def most : Nat := 4611686018427387904

def RepL {α : Type} (R : List Value → α → Prop) : List Value → List α → Prop
  | cs, [] => cs = []
  | cs, x :: xs => ∃ c1 c2, cs = c1 ++ c2 ∧ R c1 x ∧ RepL R c2 xs

def Rep : (t : T) → Mem → List Value → t.D → Prop
  | .int k, _, cs, x => cs = [.int k x] ∧ rng k x
  | .bool, _, cs, x => cs = [.bool x]
  | .str, _, cs, x => cs = [.string (bs x)] ∧ byteOk x ∧ List.length x ≤ most
  | .unit, _, cs, _ => cs = []
  | .raw _, _, cs, x => cs = [x] ∧ one x = true
  | .pair a b, M, cs, x => ∃ c1 c2, cs = c1 ++ c2 ∧ Rep a M c1 x.1 ∧ Rep b M c2 x.2
  | .arr n t, M, cs, x => List.length x = n ∧ RepL (Rep t M) cs x
  | .sl _ t, M, cs, x => ∃ a cap, cs = [.slice a (List.length x) cap] ∧ List.length x ≤ most ∧ List.length x ≤ cap ∧
      match a with
      | none => List.length x = 0
      | some ad => List.length x = 0 ∨ (ad.spot = none ∧ ∃ c el fr, M ad.block = some (.cells c el fr) ∧ ad.off + List.length x * t.size ≤ c.size ∧
          RepL (Rep t M) ((c.toList.drop ad.off).take (List.length x * t.size)) x)

theorem RepL.mono {α : Type} {R R' : List Value → α → Prop} (h : ∀ c x, R c x → R' c x) : ∀ {cs : List Value} {xs : List α}, RepL R cs xs → RepL R' cs xs
  | _, [], hh => hh
  | _, _ :: _, ⟨c1, c2, e, a, b⟩ => ⟨c1, c2, e, h _ _ a, RepL.mono h b⟩

theorem RepL.length {α : Type} {R : List Value → α → Prop} {s : Nat} (h : ∀ c x, R c x → c.length = s) : ∀ {cs : List Value} {xs : List α}, RepL R cs xs → cs.length = xs.length * s
  | _, [], hh => by simp [RepL] at hh; simp [hh]
  | _, x :: xs, ⟨c1, c2, e, a, b⟩ => by
    have h1 := RepL.length h b; have h2 := h _ _ a; rw [e, List.length_append, h1, h2, List.length_cons, Nat.add_mul]; omega

theorem RepL.append {α : Type} {R : List Value → α → Prop} : ∀ {cs ds : List Value} {xs ys : List α}, RepL R cs xs → RepL R ds ys → RepL R (cs ++ ds) (xs ++ ys)
  | _, _, [], _, h, g => by simp only [RepL] at h; subst h; simpa using g
  | _, _, _ :: _, _, ⟨c1, c2, e, a, b⟩, g => ⟨c1, c2 ++ _, by simp [e], a, RepL.append b g⟩

/-- the i-th element's cells -/
theorem RepL.get {α : Type} {R : List Value → α → Prop} {s : Nat} (h : ∀ c x, R c x → c.length = s) : ∀ {cs : List Value} {xs : List α} {i : Nat} {x : α}, RepL R cs xs → xs[i]? = some x → R ((cs.drop (i * s)).take s) x
  | _, [], i, x, _, hi => by simp at hi
  | _, y :: ys, 0, x, ⟨c1, c2, e, a, _⟩, hi => by
    have hl := h _ _ a
    obtain rfl : y = x := by simpa using hi
    rw [e, Nat.zero_mul, List.drop_zero, ← hl, List.take_left]; exact a
  | _, y :: ys, i + 1, x, ⟨c1, c2, e, a, b⟩, hi => by
    have hl := h _ _ a
    have := RepL.get h b (by simpa using hi)
    have e2 : (i + 1) * s = c1.length + i * s := by rw [hl, Nat.add_mul]; omega
    rw [e, e2, ← List.drop_drop, List.drop_left]; exact this

theorem RepL.set {α : Type} {R : List Value → α → Prop} {s : Nat} (h : ∀ c x, R c x → c.length = s) : ∀ {cs d : List Value} {xs : List α} {i : Nat} {y : α}, RepL R cs xs → i < xs.length → R d y →
    RepL R (cs.take (i * s) ++ d ++ cs.drop (i * s + s)) (xs.set i y)
  | _, _, [], i, y, _, hi, _ => by simp at hi
  | _, d, x :: xs, 0, y, ⟨c1, c2, e, a, b⟩, _, hd => by
    have hl := h _ _ a
    refine ⟨d, c2, ?_, hd, b⟩
    simp [e, ← hl]
  | _, d, x :: xs, i + 1, y, ⟨c1, c2, e, a, b⟩, hi, hd => by
    have hl := h _ _ a
    have := RepL.set h b (by simpa using hi) hd
    refine ⟨c1, _, ?_, a, this⟩
    have e2 : (i + 1) * s = c1.length + i * s := by rw [hl, Nat.add_mul]; omega
    rw [e, e2, List.take_length_add_append, Nat.add_assoc, ← List.drop_drop, List.drop_left]; simp

theorem RepL.split {α : Type} {R : List Value → α → Prop} {s : Nat} (h : ∀ c x, R c x → c.length = s) : ∀ {cs : List Value} {xs : List α} (n : Nat), RepL R cs xs →
    RepL R (cs.take (n * s)) (xs.take n) ∧ RepL R (cs.drop (n * s)) (xs.drop n)
  | _, [], n, hh => by simp only [RepL] at hh; subst hh; simp [RepL]
  | cs, x :: xs, 0, hh => by simp; exact ⟨rfl, hh⟩
  | _, x :: xs, n + 1, ⟨c1, c2, e, a, b⟩ => by
    have hl := h _ _ a
    have := RepL.split h n b
    have e2 : (n + 1) * s = c1.length + n * s := by rw [hl, Nat.add_mul]; omega
    rw [e, e2, List.take_length_add_append, ← List.drop_drop, List.drop_left]
    exact ⟨⟨c1, _, rfl, a, this.1⟩, this.2⟩

theorem Rep.size : ∀ {t : T} {M : Mem} {cs : List Value} {x : t.D}, Rep t M cs x → cs.length = t.size
  | .int _, _, _, _, h => by simp [h.1]
  | .bool, _, _, _, h => by simp only [Rep] at h; simp [h]
  | .str, _, _, _, h => by simp [h.1]
  | .unit, _, _, _, h => by simp only [Rep] at h; simp [h]
  | .raw _, _, _, _, h => by simp [h.1]
  | .pair a b, _, _, _, ⟨c1, c2, e, h1, h2⟩ => by simp [e, Rep.size h1, Rep.size h2]
  | .arr n t, _, _, x, h => by
    have := RepL.length (s := t.size) (fun c x h => Rep.size h) h.2
    rw [this, h.1]
  | .sl _ _, _, _, _, ⟨a, cap, e, _⟩ => by simp [e]

theorem Rep.mono : ∀ {t : T} {M M' : Mem} {cs : List Value} {x : t.D}, M.le M' → Rep t M cs x → Rep t M' cs x
  | .int _, _, _, _, _, _, h => h
  | .bool, _, _, _, _, _, h => h
  | .str, _, _, _, _, _, h => h
  | .unit, _, _, _, _, _, h => h
  | .raw _, _, _, _, _, _, h => h
  | .pair a b, _, _, _, _, l, ⟨c1, c2, e, h1, h2⟩ => ⟨c1, c2, e, Rep.mono l h1, Rep.mono l h2⟩
  | .arr n t, _, _, _, _, l, h => ⟨h.1, RepL.mono (fun _ _ g => Rep.mono l g) h.2⟩
  | .sl _ t, _, _, _, _, l, ⟨a, cap, e, h1, h2, h3⟩ => ⟨a, cap, e, h1, h2, by
      cases a with
      | none => exact h3
      | some ad => rcases h3 with h3 | ⟨hs, c, el, fr, hm, hb, hr⟩; exact .inl h3; exact .inr ⟨hs, c, el, fr, l _ _ hm, hb, RepL.mono (fun _ _ g => Rep.mono l g) hr⟩⟩

/-- shapes that hold no slice: what they hold hangs on no memory -/
@[reducible] def T.flat : T → Bool
  | .sl _ _ => false
  | .pair a b => a.flat && b.flat
  | .arr _ t => t.flat
  | _ => true

theorem Rep.any : ∀ {t : T} {M M' : Mem} {cs : List Value} {x : t.D}, t.flat = true → Rep t M cs x → Rep t M' cs x
  | .int _, _, _, _, _, _, h => h
  | .bool, _, _, _, _, _, h => h
  | .str, _, _, _, _, _, h => h
  | .unit, _, _, _, _, _, h => h
  | .raw _, _, _, _, _, _, h => h
  | .pair a b, _, _, _, _, l, ⟨c1, c2, e, h1, h2⟩ => by
    simp only [T.flat, Bool.and_eq_true] at l
    exact ⟨c1, c2, e, Rep.any l.1 h1, Rep.any l.2 h2⟩
  | .arr n t, _, _, _, _, l, h => ⟨h.1, RepL.mono (fun _ _ g => Rep.any (by simpa [T.flat] using l) g) h.2⟩
  | .sl _ t, _, _, _, _, l, _ => by simp [T.flat] at l

theorem RepL.unique {α : Type} {R R' : List Value → α → Prop} (h : ∀ c d x, R c x → R' d x → c = d) : ∀ {cs ds : List Value} {xs : List α}, RepL R cs xs → RepL R' ds xs → cs = ds
  | _, _, [], h1, h2 => by simp only [RepL] at h1 h2; rw [h1, h2]
  | _, _, _ :: _, ⟨c1, c2, e, a, b⟩, ⟨d1, d2, e', a', b'⟩ => by rw [e, e', h _ _ _ a a', RepL.unique h b b']

theorem Rep.unique : ∀ {t : T} {M M' : Mem} {cs ds : List Value} {x : t.D}, t.flat = true → Rep t M cs x → Rep t M' ds x → cs = ds
  | .int _, _, _, _, _, _, _, h, g => by rw [h.1, g.1]
  | .bool, _, _, _, _, _, _, h, g => by simp only [Rep] at h g; rw [h, g]
  | .str, _, _, _, _, _, _, h, g => by rw [h.1, g.1]
  | .unit, _, _, _, _, _, _, h, g => by simp only [Rep] at h g; rw [h, g]
  | .raw _, _, _, _, _, _, _, h, g => by rw [h.1, g.1]
  | .pair a b, _, _, _, _, _, l, ⟨c1, c2, e, h1, h2⟩, ⟨d1, d2, e', g1, g2⟩ => by
    simp only [T.flat, Bool.and_eq_true] at l
    rw [e, e', Rep.unique l.1 h1 g1, Rep.unique l.2 h2 g2]
  | .arr n t, M, M', _, _, _, l, h, g => RepL.unique (R := Rep t M) (R' := Rep t M') (fun _ _ _ a b => Rep.unique (t := t) (by simpa [T.flat] using l) a b) h.2 g.2
  | .sl _ t, _, _, _, _, _, l, _, _ => by simp [T.flat] at l

/-! ### Paths -/
inductive Pth : T → T → Type
  | here {t : T} : Pth t t
  | fst {a b u : T} (p : Pth a u) : Pth (.pair a b) u
  | snd {a b u : T} (p : Pth b u) : Pth (.pair a b) u
  | elem {n : Nat} {t u : T} (i : Nat) (p : Pth t u) : Pth (.arr n t) u

@[reducible] def Pth.off : {t u : T} → Pth t u → Nat
  | _, _, .here => 0
  | _, _, .fst p => p.off
  | .pair a _, _, .snd p => a.size + p.off
  | .arr _ t, _, .elem i p => i * t.size + p.off

/-- every index on the way is in its array -/
@[reducible] def Pth.ok : {t u : T} → Pth t u → Prop
  | _, _, .here => True
  | _, _, .fst p => p.ok
  | _, _, .snd p => p.ok
  | .arr n _, _, .elem i p => i < n ∧ p.ok

@[reducible] def Pth.get : {t u : T} → Pth t u → t.D → u.D
  | _, _, .here, x => x
  | _, _, .fst p, x => p.get x.1
  | _, _, .snd p, x => p.get x.2
  | .arr _ t, _, .elem i p, x => p.get (List.getD x i t.zero)

@[reducible] def Pth.set : {t u : T} → Pth t u → t.D → u.D → t.D
  | _, _, .here, _, y => y
  | _, _, .fst p, x, y => (p.set x.1 y, x.2)
  | _, _, .snd p, x, y => (x.1, p.set x.2 y)
  | .arr _ t, _, .elem i p, x, y => List.set x i (p.set (List.getD x i t.zero) y)

theorem Pth.fits : ∀ {t u : T} (p : Pth t u), p.ok → p.off + u.size ≤ t.size
  | _, _, .here, _ => by simp [Pth.off]
  | .pair a b, _, .fst p, h => by have := p.fits h; simp only [Pth.off, T.size]; omega
  | .pair a b, _, .snd p, h => by have := p.fits h; simp only [Pth.off, T.size]; omega
  | .arr n t, u, .elem i p, h => by
    have := p.fits h.2
    simp only [Pth.off, T.size]
    have h1 : i * t.size + t.size ≤ n * t.size := by rw [← Nat.succ_mul]; exact Nat.mul_le_mul_right _ h.1
    omega

theorem take_drop_take {α : Type} (l : List α) (i s o u : Nat) (h : o + u ≤ s) : (((l.drop i).take s).drop o).take u = (l.drop (i + o)).take u := by
  rw [List.drop_take, List.take_take, List.drop_drop, Nat.min_eq_left (by omega)]

theorem Rep.get : ∀ {t u : T} (p : Pth t u) {M : Mem} {cs : List Value} {x : t.D}, p.ok → Rep t M cs x → Rep u M ((cs.drop p.off).take u.size) (p.get x)
  | t, _, .here, M, cs, x, _, h => by
    have := Rep.size h; simp only [Pth.off, Pth.get, List.drop_zero, ← this, List.take_length]; exact h
  | .pair a b, u, .fst p, M, cs, x, hok, ⟨c1, c2, e, h1, h2⟩ => by
    have hs := Rep.size h1
    have := Rep.get p hok h1
    have hf := p.fits hok
    simp only [Pth.off, Pth.get]
    rw [e, List.drop_append_of_le_length (by omega), List.take_append_of_le_length (by simp; omega)]; exact this
  | .pair a b, u, .snd p, M, cs, x, hok, ⟨c1, c2, e, h1, h2⟩ => by
    have hs := Rep.size h1
    have := Rep.get p hok h2
    simp only [Pth.off, Pth.get]
    rw [e, ← hs, ← List.drop_drop, List.drop_left]; exact this
  | .arr n t, u, .elem i p, M, cs, x, hok, h => by
    have hl : i < List.length x := by rw [h.1]; exact hok.1
    have hi : (x : List t.D)[i]? = some (List.getD x i t.zero) := by simp [List.getD, hl]
    have h1 := RepL.get (s := t.size) (fun c x h => Rep.size h) h.2 hi
    have h2 := Rep.get p hok.2 h1
    have hf := p.fits hok.2
    rw [take_drop_take _ _ _ _ _ hf] at h2
    exact h2

theorem Rep.set : ∀ {t u : T} (p : Pth t u) {M : Mem} {cs d : List Value} {x : t.D} {y : u.D}, p.ok → Rep t M cs x → Rep u M d y →
    Rep t M (cs.take p.off ++ d ++ cs.drop (p.off + u.size)) (p.set x y)
  | t, _, .here, M, cs, d, x, y, _, h, g => by
    have := Rep.size h
    simp only [Pth.off, Pth.set, List.take_zero, List.nil_append, Nat.zero_add, ← this, List.drop_length, List.append_nil]; exact g
  | .pair a b, u, .fst p, M, cs, d, x, y, hok, ⟨c1, c2, e, h1, h2⟩, g => by
    have hs := Rep.size h1
    have hf := p.fits hok
    refine ⟨_, c2, ?_, Rep.set p hok h1 g, h2⟩
    simp only [Pth.off]
    rw [e, List.take_append_of_le_length (by omega), List.drop_append_of_le_length (by omega)]; simp
  | .pair a b, u, .snd p, M, cs, d, x, y, hok, ⟨c1, c2, e, h1, h2⟩, g => by
    have hs := Rep.size h1
    refine ⟨c1, _, ?_, h1, Rep.set p hok h2 g⟩
    simp only [Pth.off]
    rw [e, ← hs, List.take_length_add_append, Nat.add_assoc, ← List.drop_drop, List.drop_left]; simp
  | .arr n t, u, .elem i p, M, cs, d, x, y, hok, h, g => by
    have hl : i < List.length x := by rw [h.1]; exact hok.1
    have hi : (x : List t.D)[i]? = some (List.getD x i t.zero) := by simp [List.getD, hl]
    have hf := p.fits hok.2
    have hlen := RepL.length (s := t.size) (fun c x h => Rep.size h) h.2
    have h1 := RepL.get (s := t.size) (fun c x h => Rep.size h) h.2 hi
    have h2 := RepL.set (s := t.size) (fun c x h => Rep.size h) h.2 hl (Rep.set p hok.2 h1 g)
    refine ⟨by simp only [Pth.set]; rw [List.length_set]; exact h.1, ?_⟩
    simp only [Pth.off]
    have hb : i * t.size + t.size ≤ cs.length := by rw [hlen, h.1, ← Nat.succ_mul]; exact Nat.mul_le_mul_right _ hok.1
    have e : cs.take (i * t.size) ++ (List.take p.off ((cs.drop (i * t.size)).take t.size) ++ d ++ List.drop (p.off + u.size) ((cs.drop (i * t.size)).take t.size)) ++ cs.drop (i * t.size + t.size)
        = cs.take (i * t.size + p.off) ++ d ++ cs.drop (i * t.size + p.off + u.size) := by
      rw [List.take_take, Nat.min_eq_left (by omega), List.take_add (i := i * t.size) (j := p.off), List.drop_take, List.drop_drop]
      have e3 : cs.drop (i * t.size + p.off + u.size) = (cs.drop (i * t.size + (p.off + u.size))).take (t.size - (p.off + u.size)) ++ cs.drop (i * t.size + t.size) := by
        have : i * t.size + t.size = i * t.size + (p.off + u.size) + (t.size - (p.off + u.size)) := by omega
        rw [this, ← List.drop_drop (i := t.size - (p.off + u.size)), Nat.add_assoc, List.take_append_drop]
      rw [e3]; simp [List.append_assoc]
    rw [← e]; exact h2

end Sx
