/-
  Own work. Operations that only reckon, run as one; the rules for code.
-/
import Derived.Test.YtpkjocjchkibaaaSxState
import Derived.Laws.Strings
namespace Sx
open Go

@[reducible] def lk {α : Type} : List (Nat × α) → Nat → Option α
  | [], _ => none
  | (j, v) :: r, i => match Nat.beq j i with
    | true => some v
    | false => lk r i

/-- What is known of a program's types: integer kinds; strings; slices; arrays; where fields lie. -/
structure Tab where
  ints : List (Nat × IntKind)
  strs : List (Nat × Unit)
  slices : List (Nat × Nat)
  arrs : List (Nat × Nat)
  offs : List (Nat × List Nat)

def fieldChk (P : Program) (s i off : Nat) : Bool :=
  match P.underlying s with
  | some (.struct fs) => match fs[i]? with
    | some f => Nat.beq f.offset off && (match P.info? f.type with | some i => !Nat.beq i.size 0 | none => false)
    | none => false
  | _ => false

def offChk (P : Program) (s : Nat) : Nat → List Nat → Bool
  | _, [] => true
  | i, o :: r => fieldChk P s i o && offChk P s (i + 1) r

def kindEq : IntKind → IntKind → Bool
  | .i8, .i8 | .i16, .i16 | .i32, .i32 | .i64, .i64 | .u8, .u8 | .u16, .u16 | .u32, .u32 | .u64, .u64 => true
  | _, _ => false
theorem kindEq_eq {a b : IntKind} (h : kindEq a b = true) : a = b := by cases a <;> cases b <;> first | rfl | cases h

def Tab.chk (P : Program) (T : Tab) : Bool :=
  T.ints.all (fun p => match P.underlying p.1 with | some (.int k) => kindEq k p.2 | _ => false) &&
  T.strs.all (fun p => match P.underlying p.1 with | some .string => true | _ => false) &&
  T.slices.all (fun p => match P.underlying p.1 with | some (.slice e) => Nat.beq e p.2 | _ => false) &&
  T.arrs.all (fun p => match P.underlying p.1 with | some (.array n _) => Nat.beq n p.2 | _ => false) &&
  T.offs.all (fun p => offChk P p.1 0 p.2)

theorem lk_mem {α : Type} : ∀ {l : List (Nat × α)} {i : Nat} {v : α}, lk l i = some v → (i, v) ∈ l
  | [], _, _, h => by simp [lk] at h
  | (j, u) :: r, i, v, h => by
    simp only [lk] at h
    split at h
    · rename_i hb
      have := Nat.eq_of_beq_eq_true hb
      simp only [Option.some.injEq] at h
      subst this; subst h; exact List.mem_cons_self ..
    · exact List.mem_cons_of_mem _ (lk_mem h)

section
variable {P : Program} {Tb : Tab}
theorem Tab.int (h : Tb.chk P = true) {t : Nat} {k : IntKind} (e : lk Tb.ints t = some k) : P.underlying t = some (.int k) := by
  simp only [Tab.chk, Bool.and_eq_true, List.all_eq_true] at h
  have := h.1.1.1.1 _ (lk_mem e)
  dsimp only at this
  split at this
  · rename_i h; rw [h, kindEq_eq this]
  · cases this
theorem Tab.str (h : Tb.chk P = true) {t : Nat} {k : Unit} (e : lk Tb.strs t = some k) : P.underlying t = some .string := by
  simp only [Tab.chk, Bool.and_eq_true, List.all_eq_true] at h
  have := h.1.1.1.2 _ (lk_mem e)
  dsimp only at this
  split at this
  · assumption
  · cases this
theorem Tab.slice (h : Tb.chk P = true) {t : Nat} {k : Nat} (e : lk Tb.slices t = some k) : P.underlying t = some (.slice k) := by
  simp only [Tab.chk, Bool.and_eq_true, List.all_eq_true] at h
  have := h.1.1.2 _ (lk_mem e)
  dsimp only at this
  split at this
  · rename_i h; rw [h, Nat.eq_of_beq_eq_true this]
  · cases this
theorem Tab.arr (h : Tb.chk P = true) {t : Nat} {k : Nat} (e : lk Tb.arrs t = some k) : ∃ e, P.underlying t = some (.array k e) := by
  simp only [Tab.chk, Bool.and_eq_true, List.all_eq_true] at h
  have := h.1.2 _ (lk_mem e)
  dsimp only at this
  split at this
  · rename_i h; rw [h, Nat.eq_of_beq_eq_true this]; exact ⟨_, rfl⟩
  · cases this
theorem offChk_get {s : Nat} : ∀ {l : List Nat} {i j off : Nat}, offChk P s i l = true → l[j]? = some off → fieldChk P s (i + j) off = true
  | [], _, _, _, _, h => by simp at h
  | o :: r, i, 0, off, h, e => by
    simp only [offChk, Bool.and_eq_true] at h
    simp only [List.getElem?_cons_zero, Option.some.injEq] at e; subst e; exact h.1
  | o :: r, i, j + 1, off, h, e => by
    simp only [offChk, Bool.and_eq_true] at h
    have := offChk_get (j := j) h.2 (by simpa using e)
    rwa [Nat.add_assoc, Nat.add_comm 1 j] at this
theorem Tab.off (h : Tb.chk P = true) {s i off : Nat} {l : List Nat} (e : lk Tb.offs s = some l) (g : l[i]? = some off) : fieldChk P s i off = true := by
  simp only [Tab.chk, Bool.and_eq_true, List.all_eq_true] at h
  have := offChk_get (h.2 _ (lk_mem e)) g
  rwa [Nat.zero_add] at this
end

/-! ### The values of operands -/
def constTV : Value → Option TV
  | .int k n => match decide (rng k n) with | true => some (.one (.int k) n) | false => none
  | .bool b => some (.one .bool b)
  | .string s => match Nat.ble s.data.toList.length 1000000 with | true => some (.one .str (s.data.toList.map fun c => (c.toNat : Int))) | false => none
  | .pointer none => some (.one (.raw (.pointer none)) (.pointer none))
  | .slice none 0 0 => some (.one (.raw (.slice none 0 0)) (.slice none 0 0))
  | .map none => some (.one (.raw (.map none)) (.map none))
  | .nilFunc => some (.one (.raw .nilFunc) .nilFunc)
  | .nilIface => some (.one (.raw .nilIface) .nilIface)
  | _ => none

@[reducible] def ev (E : Env) : Operand → Option TV
  | .tmp t => E.get t
  | .const v => constTV v
  | _ => none

/-! ### Arithmetic by name -/
def ishl (k : IntKind) (x y : Int) : Int := k.wrap (x * 2 ^ (min y.toNat k.bits))
def ishr (k : IntKind) (x y : Int) : Int := x.fdiv (2 ^ (min y.toNat k.bits))
def iand (k : IntKind) (x y : Int) : Int := k.wrap (BitVec.ofInt k.bits x &&& BitVec.ofInt k.bits y).toNat
def ior (k : IntKind) (x y : Int) : Int := k.wrap (BitVec.ofInt k.bits x ||| BitVec.ofInt k.bits y).toNat
def ixor (k : IntKind) (x y : Int) : Int := k.wrap (BitVec.ofInt k.bits x ^^^ BitVec.ofInt k.bits y).toNat
def iandn (k : IntKind) (x y : Int) : Int := k.wrap (BitVec.ofInt k.bits x &&& ~~~BitVec.ofInt k.bits y).toNat
def inot (k : IntKind) (x : Int) : Int := ixor k (if k.signed then -1 else k.max) x

theorem wrap_rng (k : IntKind) (n : Int) : rng k (k.wrap n) := by
  cases k <;> simp [rng, lo, hi, IntKind.wrap, IntKind.signed, IntKind.bits] <;> (try split) <;> omega

theorem wrap_id {k : IntKind} {n : Int} (h : rng k n) : k.wrap n = n := by
  cases k <;> simp [rng, lo, hi, IntKind.wrap, IntKind.signed, IntKind.bits] at * <;> (try split) <;> omega

theorem tmod_rng {k : IntKind} {x y : Int} (h : rng k x) : rng k (x.tmod y) := by
  rcases Int.le_total 0 x with h0 | h0
  · have h1 := Int.tmod_nonneg y h0
    have h2 : x.tmod y ≤ x := by
      have := Int.natAbs_tmod x y
      have h3 : (x.tmod y).natAbs ≤ x.natAbs := by rw [this]; exact Nat.mod_le _ _
      omega
    have : lo k ≤ 0 := by cases k <;> simp [lo]
    have := h.2
    exact ⟨by omega, by omega⟩
  · have h1 : x.tmod y ≤ 0 := by
      have := Int.tmod_nonneg (a := -x) y (by omega)
      rw [Int.neg_tmod] at this; omega
    have h3 : (x.tmod y).natAbs ≤ x.natAbs := by rw [Int.natAbs_tmod]; exact Nat.mod_le _ _
    have := h.1
    have h4 : 0 ≤ hi k := by cases k <;> simp [hi]
    exact ⟨by omega, by omega⟩

theorem shr_rng {k : IntKind} {x y : Int} (h : rng k x) : rng k (ishr k x y) := by
  unfold ishr
  have hp : (0 : Int) < 2 ^ (min y.toNat k.bits) := Int.pow_pos (by omega)
  generalize (2 : Int) ^ (min y.toNat k.bits) = p at hp
  rw [Int.fdiv_eq_ediv_of_nonneg _ (by omega)]
  have h1 := h.1
  have h2 := h.2
  have h3 : lo k ≤ 0 := by cases k <;> simp [lo]
  have h4 : 0 ≤ hi k := by cases k <;> simp [hi]
  rcases Int.le_total 0 x with h0 | h0
  · have := Int.ediv_nonneg h0 (Int.le_of_lt hp)
    have h5 := Int.ediv_le_self p h0
    exact ⟨by omega, by omega⟩
  · have h6 : x ≤ x / p := by
      have := Int.le_ediv_of_mul_le (a := x) (b := x) hp
      apply this
      have h7 : x * p ≤ x * 1 := Int.mul_le_mul_of_nonpos_left h0 (by omega)
      omega
    have h8 : x / p ≤ 0 := Int.ediv_nonpos_of_nonpos_of_neg h0 hp
    exact ⟨by omega, by omega⟩

/-! ### Operations that only reckon -/
@[reducible] def shOk (k : IntKind) (y : Int) : Bool := match k with | .u8 | .u16 | .u32 | .u64 => true | _ => decide (0 ≤ y)

def binInt (op : BinOp) (k k' : IntKind) (x y : Int) : Option TV :=
  match op with
  | .shl => match shOk k' y with | true => some (.one (.int k) (ishl k x y)) | false => none
  | .shr => match shOk k' y with | true => some (.one (.int k) (ishr k x y)) | false => none
  | op => match kindEq k k' with
    | false => none
    | true => match op with
      | .add => some (.one (.int k) (k.wrap (x + y)))
      | .sub => some (.one (.int k) (k.wrap (x - y)))
      | .mul => some (.one (.int k) (k.wrap (x * y)))
      | .quo => match decide (y = 0) with | true => none | false => some (.one (.int k) (k.wrap (x.tdiv y)))
      | .rem => match decide (y = 0) with | true => none | false => some (.one (.int k) (x.tmod y))
      | .and => some (.one (.int k) (iand k x y))
      | .or => some (.one (.int k) (ior k x y))
      | .xor => some (.one (.int k) (ixor k x y))
      | .andNot => some (.one (.int k) (iandn k x y))
      | .eql => some (.one .bool (x == y))
      | .neq => some (.one .bool (x != y))
      | .lss => some (.one .bool (decide (x < y)))
      | .leq => some (.one .bool (decide (x ≤ y)))
      | .gtr => some (.one .bool (decide (x > y)))
      | .geq => some (.one .bool (decide (x ≥ y)))
      | _ => none

def binStr (op : BinOp) (x y : List Int) : Option TV :=
  match op with
  | .eql => some (.one .bool (x == y))
  | .neq => some (.one .bool (x != y))
  | _ => none

def nth : (t : T) → t.D → Nat → Option TV
  | .pair a _, x, 0 => some (.one a x.1)
  | .pair _ b, x, n + 1 => nth b x.2 n
  | _, _, _ => none

def pvLen (T : Tab) (E : Env) (args : Array Operand) (types : Array TypeId) : Option TV :=
  match args.toList, types.toList with
  | [x], [t] => (match ev E x with
    | some (.one .str a) => (match lk T.strs t with | some _ => some (.one (.int .i64) (List.length a)) | none => none)
    | some (.one (.sl _ _) a) => (match lk T.slices t with | some _ => some (.one (.int .i64) (List.length a)) | none => none)
    | some (.one (.raw _) (.slice _ n _)) => (match lk T.slices t with | some _ => (match decide (n ≤ most) with | true => some (.one (.int .i64) n) | false => none) | none => none)
    | _ => none)
  | _, _ => none

def pvCall (T : Tab) (E : Env) (c : Call) : Option TV :=
  match c.callee with
  | .builtin b => (match b with | .len => pvLen T E c.args c.argTypes | _ => none)
  | _ => none

def pv (T : Tab) (E : Env) : Op → Option TV
  | .move x => ev E x
  | .assign x => ev E x
  | .pick c a b => match ev E c with
    | some (.one .bool c) => (match c with | true => ev E a | false => ev E b)
    | _ => none
  | .binOp op _ x y _ => match ev E x with
    | some (.one (.int k) a) => (match ev E y with | some (.one (.int k') b) => binInt op k k' a b | _ => none)
    | some (.one .str a) => (match ev E y with | some (.one .str b) => binStr op a b | _ => none)
    | _ => none
  | .unOp op _ x => match op, ev E x with
    | .not, some (.one .bool b) => some (.one .bool (!b))
    | .neg, some (.one (.int k) a) => some (.one (.int k) (k.wrap (0 - a)))
    | .xor, some (.one (.int k) a) => some (.one (.int k) (inot k a))
    | _, _ => none
  | .convert s d x => match ev E x with
    | some (.one (.int _) a) => (match lk T.ints s, lk T.ints d with | some _, some k => some (.one (.int k) (k.wrap a)) | _, _ => none)
    | some (.one .str a) => (match lk T.strs s, lk T.strs d with | some _, some _ => some (.one .str a) | _, _ => none)
    | _ => none
  | .nilCheck x => match ev E x with
    | some (.one (.raw z) (.pointer (some a))) => some (.one (.raw z) (.pointer (some a)))
    | _ => none
  | .fieldAddr s x f => match ev E x with
    | some (.one (.raw z) (.pointer (some ⟨b, o, none⟩))) => (match lk T.offs s with
      | some l => (match l[f]? with | some off => some (.one (.raw z) (.pointer (some ⟨b, o + off, none⟩))) | none => none)
      | none => none)
    | _ => none
  | .extract x i => match ev E x with
    | some (.tup l) => (match l[i]? with | some ⟨t, x⟩ => some (.one t x) | none => none)
    | _ => none
  | .call c => pvCall T E c
  | _ => none

/-! ### Texts -/
theorem bs_toList {l : List Int} : (bs l).toList = l.map fun c => UInt8.ofNat c.toNat := ByteArray.toList_mk _
theorem bs_size {l : List Int} : (bs l).size = l.length := by simp [bs, ByteArray.size]

theorem byte_inj {a b : Int} (ha : 0 ≤ a ∧ a < 256) (hb : 0 ≤ b ∧ b < 256) (h : UInt8.ofNat a.toNat = UInt8.ofNat b.toNat) : a = b := by
  have := congrArg UInt8.toNat h
  simp only [UInt8.toNat_ofNat'] at this
  omega

theorem bs_inj : ∀ {a b : List Int}, byteOk a → byteOk b → (a.map fun c => UInt8.ofNat c.toNat) = (b.map fun c => UInt8.ofNat c.toNat) → a = b
  | [], [], _, _, _ => rfl
  | [], _ :: _, _, _, h => by simp at h
  | _ :: _, [], _, _, h => by simp at h
  | x :: a, y :: b, ha, hb, h => by
    simp only [List.map_cons, List.cons.injEq] at h
    rw [byte_inj (ha x (by simp)) (hb y (by simp)) h.1, bs_inj (fun c hc => ha c (by simp [hc])) (fun c hc => hb c (by simp [hc])) h.2]

theorem bs_beq {a b : List Int} (ha : byteOk a) (hb : byteOk b) : ((bs a).toList == (bs b).toList) = (a == b) := by
  rw [Bool.eq_iff_iff]; simp only [beq_iff_eq, bs_toList]
  exact ⟨bs_inj ha hb, fun h => by rw [h]⟩

theorem byteOk_map (s : ByteArray) : byteOk (s.data.toList.map fun c => (c.toNat : Int)) := by
  intro c hc
  obtain ⟨u, _, rfl⟩ := List.mem_map.1 hc
  have := u.toNat_lt
  constructor <;> omega
theorem bs_map (s : ByteArray) : bs (s.data.toList.map fun c => (c.toNat : Int)) = s := by
  apply ByteArray.ext
  simp only [bs, List.map_map]
  have : ((fun c : Int => UInt8.ofNat c.toNat) ∘ fun c : UInt8 => (c.toNat : Int)) = id := by funext c; simp
  rw [this]; simp

theorem constTV_ok {v : Value} {t : TV} (h : constTV v = some t) (M : Mem) : t.holds M v := by
  unfold constTV at h
  split at h
  · split at h <;> cases h
    rename_i hr; exact holds_int.2 ⟨rfl, of_decide_eq_true hr⟩
  · cases h; exact holds_bool.2 rfl
  · split at h <;> cases h
    rename_i hb
    exact holds_str.2 ⟨by rw [bs_map], byteOk_map _, by have := Nat.le_of_ble_eq_true hb; simp only [most, List.length_map] at *; omega⟩
  · cases h; exact holds_raw.2 ⟨rfl, rfl⟩
  · cases h; exact holds_raw.2 ⟨rfl, rfl⟩
  · cases h; exact holds_raw.2 ⟨rfl, rfl⟩
  · cases h; exact holds_raw.2 ⟨rfl, rfl⟩
  · cases h; exact holds_raw.2 ⟨rfl, rfl⟩
  · cases h

section
variable {P : Program} {Tb : Tab} {F : Fr} {M : Mem} {n : Nat} {E : Env} {L : List Res} {a : Act} {w : World}
theorem ev_ok (c : Cfg F M n E L a w) : ∀ {x : Operand} {t : TV}, ev E x = some t → t.holds M (a.eval x)
  | .tmp _, _, h => by obtain ⟨v, e, hv⟩ := c.get? h; rw [e]; exact hv
  | .const _, _, h => constTV_ok h M
  | .global _, _, h => by simp [ev] at h
  | .func _, _, h => by simp [ev] at h

theorem run_bind {α β : Type} (s : Sem α) (f : α → Sem β) (P : Program) (w : World) :
    (s >>= f).run P w = match s.run P w with | .ok x w' => (f x).run P w' | .halt h w' => .halt h w' := by
  show (Sem.bind s f).run P w = _
  induction s generalizing w with
  | pure a => rfl
  | load m a k ih =>
    simp only [Sem.bind, Sem.run]
    split
    · exact ih _ _
    · split
      · exact ih _ _
      · rfl
  | store m a v k ih =>
    cases v <;> simp only [Sem.bind, Sem.run] <;> (try rfl) <;> split <;> (try split) <;> first | exact ih _ | rfl
  | new o k ih => exact ih _ _
  | shape r k ih => exact ih _ _
  | freeze a n k ih => exact ih _
  | frozen a k ih => exact ih _ _
  | getObj r k ih =>
    simp only [Sem.bind, Sem.run]
    split <;> first | rfl | exact ih _ _
  | setObj r o k ih =>
    simp only [Sem.bind, Sem.run]
    split <;> first | rfl | exact ih _
  | choose q k ih =>
    simp only [Sem.bind, Sem.run]
    split <;> exact ih _ _
  | sys c k ih => exact ih _ _
  | program k ih => exact ih _ _
  | mark m k ih => exact ih _
  | halt h => rfl

theorem run_pure {α : Type} (x : α) (P : Program) (w : World) : (pure x : Sem α).run P w = .ok x w := rfl

theorem run_val {s : Sem Value} {v : Value} {P : Program} {w w' : World} (h : s.run P w = .ok v w') : (do pure (Next.value (← s)) : Sem Next).run P w = .ok (.value v) w' := by
  rw [run_bind, h]; rfl

theorem run_underlying {w : World} {t : TypeId} {d : TypeDesc} (h : P.underlying t = some d) : (underlying t).run P w = .ok d w := by
  simp only [underlying, run_bind]; simp only [program, Sem.run, h]; rfl

theorem binInt_ok {op : BinOp} {k k' : IntKind} {x y : Int} {t : TV} {ty : TypeId} (hx : rng k x) (hy : rng k' y) (h : binInt op k k' x y = some t) :
    ∃ v, t.holds M v ∧ ∀ w, (binOp op ty (.int k x) (.int k' y)).run P w = .ok v w := by
  have sh : ∀ {z : Int}, shOk k' z = true → rng k' z → ¬ z < 0 := by
    intro z h hz
    cases k' <;> simp only [shOk, decide_eq_true_eq] at h <;> simp only [rng, lo, hi] at hz <;> omega
  cases op
  case shl =>
    simp only [binInt] at h
    split at h
    · rename_i hs; cases h
      exact ⟨_, holds_int.2 ⟨rfl, wrap_rng _ _⟩, fun w => by simp only [Go.binOp, Op.shift, if_neg (sh hs hy)]; rfl⟩
    · cases h
  case shr =>
    simp only [binInt] at h
    split at h
    · rename_i hs; cases h
      exact ⟨_, holds_int.2 ⟨rfl, shr_rng hx⟩, fun w => by simp only [Go.binOp, Op.shift, if_neg (sh hs hy)]; rfl⟩
    · cases h
  all_goals
    simp only [binInt] at h
    have hk : kindEq k k' = true := by
      cases hk : kindEq k k' with
      | true => rfl
      | false => rw [hk] at h; cases h
    rw [hk] at h
    obtain rfl := kindEq_eq hk
    dsimp only at h
  case quo =>
    split at h
    · cases h
    · rename_i hy0; cases h
      exact ⟨_, holds_int.2 ⟨rfl, wrap_rng _ _⟩, fun w => by simp only [Go.binOp, ne_eq, not_true_eq_false, if_false, Op.intDiv, of_decide_eq_false hy0]; rfl⟩
  case rem =>
    split at h
    · cases h
    · rename_i hy0; cases h
      exact ⟨_, holds_int.2 ⟨rfl, tmod_rng hx⟩, fun w => by simp only [Go.binOp, ne_eq, not_true_eq_false, if_false, Op.intDiv, of_decide_eq_false hy0]; rfl⟩
  all_goals
    cases h
    first
    | exact ⟨_, holds_int.2 ⟨rfl, wrap_rng _ _⟩, fun w => by simp only [Go.binOp, ne_eq, not_true_eq_false, if_false, Op.intArith]; rfl⟩
    | exact ⟨_, holds_int.2 ⟨rfl, wrap_rng _ _⟩, fun w => by simp only [Go.binOp, ne_eq, not_true_eq_false, if_false, Op.intBits]; rfl⟩
    | exact ⟨_, holds_bool.2 rfl, fun w => by simp only [Go.binOp, ne_eq, not_true_eq_false, if_false, Op.intCmp]; rfl⟩

theorem binStr_ok {op : BinOp} {x y : List Int} {t : TV} {ty : TypeId} (hx : byteOk x) (hy : byteOk y) (h : binStr op x y = some t) :
    ∃ v, t.holds M v ∧ ∀ w, (binOp op ty (.string (bs x)) (.string (bs y))).run P w = .ok v w := by
  unfold binStr at h
  split at h
  · cases h; exact ⟨_, holds_bool.2 rfl, fun w => by simp only [Go.binOp, Op.stringOp, bs_beq hx hy]; rfl⟩
  · cases h; exact ⟨_, holds_bool.2 rfl, fun w => by simp only [Go.binOp, Op.stringOp, bs_beq hx hy]; rfl⟩
  · cases h

theorem _root_.Sx.HoldsL.get {M : Mem} : ∀ {vs : List Value} {l : List ((t : T) × t.D)} {i : Nat} {t : T} {x : t.D}, HoldsL M vs l → l[i]? = some ⟨t, x⟩ → ∃ v, vs[i]? = some v ∧ Holds t M v x
  | _, _, 0, t, x, .cons h _, e => by simp at e; obtain ⟨rfl, e⟩ := e; cases e; exact ⟨_, rfl, h⟩
  | _, _, i + 1, t, x, .cons _ r, e => by simpa using HoldsL.get r (by simpa using e)
  | _, _, _, _, _, .nil, e => by simp at e

theorem run_fieldAt {w : World} {s f off : Nat} {b o : Nat} (h : fieldChk P s f off = true) :
    (Instr.fieldAt s (.pointer (some ⟨b, o, none⟩)) f).run P w = .ok (.pointer (some ⟨b, o + off, none⟩)) w := by
  unfold fieldChk at h
  split at h
  · rename_i fs hu
    split at h
    · rename_i fd hf
      simp only [Bool.and_eq_true] at h
      obtain ⟨h1, h2⟩ := h
      have h1 := Nat.eq_of_beq_eq_true h1
      split at h2
      · rename_i i hi
        have h3 : ¬ i.size = 0 := by intro e; simp [e] at h2
        unfold Instr.fieldAt
        rw [run_bind, run_underlying hu]
        simp only [hf]
        have hsz : (Go.sizeOf fd.type).run P w = .ok i.size w := by
          simp only [Go.sizeOf, typeInfo, run_bind, program, Sem.run, hi]; rfl
        simp only [run_bind, Instr.sureAddr, run_pure, fieldPlace, hsz, h3, if_false, Addr.add, h1]
        by_cases h0 : off = 0
        · simp [h0]
        · simp [h0]
      · cases h2
    · cases h
  · cases h

theorem pv_ok (hT : Tb.chk P = true) (c : Cfg F M n E L a w) {o : Oper} {t : TV} (h : pv Tb E o.op = some t) :
    ∃ v, t.holds M v ∧ ∀ w, (execOp a.eval o).run P w = .ok (.value v) w := by
  obtain ⟨dst, op, ty, pos, after, guard⟩ := o
  cases op <;> simp only [pv, reduceCtorEq] at h
  case move x => exact ⟨_, ev_ok c h, fun _ => rfl⟩
  case assign x => exact ⟨_, ev_ok c h, fun _ => rfl⟩
  case pick x y z =>
    split at h <;> try cases h
    rename_i b hb
    have h1 := holds_bool.1 (ev_ok c hb)
    split at h
    · exact ⟨_, ev_ok c h, fun w => by simp only [execOp, h1, run_bind, asBool, run_pure, if_true]⟩
    · exact ⟨_, ev_ok c h, fun w => by simp only [execOp, h1, run_bind, asBool, run_pure, Bool.false_eq_true, if_false]⟩
  case binOp op xt x y yt =>
    split at h
    · rename_i k p hp
      split at h <;> try cases h
      rename_i k' q hq
      obtain ⟨e1, r1⟩ := holds_int.1 (ev_ok c hp)
      obtain ⟨e2, r2⟩ := holds_int.1 (ev_ok c hq)
      obtain ⟨v, ht, hv⟩ := binInt_ok (P := P) (M := M) (ty := xt) r1 r2 h
      refine ⟨v, ht, fun w => run_val ?_⟩
      rw [e1, e2, run_bind]
      have : (eqGuard op xt x y (.int k p) (.int k' q)).run P w = .ok () w := by
        unfold eqGuard; split <;> rfl
      rw [this]; exact hv w
    · rename_i p hp
      split at h <;> try cases h
      rename_i q hq
      obtain ⟨e1, r1⟩ := holds_str.1 (ev_ok c hp)
      obtain ⟨e2, r2⟩ := holds_str.1 (ev_ok c hq)
      obtain ⟨v, ht, hv⟩ := binStr_ok (P := P) (M := M) (ty := xt) r1.1 r2.1 h
      refine ⟨v, ht, fun w => run_val ?_⟩
      rw [e1, e2, run_bind]
      have : (eqGuard op xt x y (.string (bs p)) (.string (bs q))).run P w = .ok () w := by
        unfold eqGuard; split <;> rfl
      rw [this]; exact hv w
    · cases h
  case unOp op xt x =>
    split at h
    · rename_i b hb
      cases h
      have h1 := holds_bool.1 (ev_ok c hb)
      exact ⟨_, holds_bool.2 rfl, fun w => run_val (by rw [h1]; rfl)⟩
    · rename_i k p hp
      cases h
      have h1 := (holds_int.1 (ev_ok c hp)).1
      exact ⟨_, holds_int.2 ⟨rfl, wrap_rng _ _⟩, fun w => run_val (by rw [h1]; rfl)⟩
    · rename_i k p hp
      cases h
      have h1 := (holds_int.1 (ev_ok c hp)).1
      exact ⟨_, holds_int.2 ⟨rfl, wrap_rng _ _⟩, fun w => run_val (by rw [h1]; rfl)⟩
    · cases h
  case convert s d x =>
    split at h
    · rename_i k p hp
      split at h <;> try cases h
      rename_i k1 k2 e1 e2
      have h1 := (holds_int.1 (ev_ok c hp)).1
      refine ⟨_, holds_int.2 ⟨rfl, wrap_rng _ _⟩, fun w => run_val ?_⟩
      rw [h1]
      simp only [Go.convert, run_bind, run_underlying (Tab.int hT e1), run_underlying (Tab.int hT e2)]
      rfl
    · rename_i p hp
      split at h <;> try cases h
      rename_i k1 k2 e1 e2
      have h1 := ev_ok c hp
      obtain ⟨h2, h3⟩ := holds_str.1 h1
      refine ⟨_, h1, fun w => run_val ?_⟩
      simp only [Go.convert, run_bind, run_underlying (Tab.str hT e1), run_underlying (Tab.str hT e2)]
      rw [h2]; rfl
    · cases h
  case nilCheck x =>
    split at h <;> try cases h
    rename_i z p hp
    have h1 := holds_raw.1 (ev_ok c hp)
    refine ⟨_, holds_raw.2 ⟨rfl, rfl⟩, fun w => ?_⟩
    simp only [execOp, h1.1]; rfl
  case fieldAddr s x f =>
    split at h <;> try cases h
    rename_i z b o' hp
    split at h <;> try cases h
    rename_i l hl
    split at h <;> cases h
    rename_i off ho
    have h1 := (holds_raw.1 (ev_ok c hp)).1
    exact ⟨_, holds_raw.2 ⟨rfl, rfl⟩, fun w => run_val (by rw [h1]; exact run_fieldAt (Tab.off hT hl ho))⟩
  case extract x i =>
    split at h <;> try cases h
    rename_i l hl
    split at h <;> cases h
    rename_i t x' hx
    obtain ⟨vs, e, hh⟩ := ev_ok c hl
    obtain ⟨v, hv, hv'⟩ := hh.get hx
    exact ⟨v, hv', fun w => run_val (by rw [e]; simp [Instr.extract, hv])⟩
  case call cl =>
    obtain ⟨callee, args, types⟩ := cl
    cases callee <;> simp only [pvCall, reduceCtorEq] at h
    rename_i b
    cases b <;> simp only [reduceCtorEq] at h
    unfold pvLen at h
    split at h <;> try cases h
    rename_i x t hx ht
    have hx' : args = #[x] := by rw [← Array.toList_inj]; simpa using hx
    have ht' : types = #[t] := by rw [← Array.toList_inj]; simpa using ht
    subst hx' ht'
    have red : ∀ (v : Value) (w : World), (Builtin.len_ #[t] ty #[a.eval x]).run P w = .ok v w → (execOp a.eval ⟨dst, .call ⟨.builtin .len, #[x], #[t]⟩, ty, pos, after, guard⟩).run P w = .ok (.value v) w := by
      intro v w hv
      simp only [execOp, resolve, run_bind, run_pure, invoke, Go.builtin]
      have : #[x].map a.eval = #[a.eval x] := by simp
      rw [this, hv]
    split at h
    · rename_i p hp
      split at h <;> cases h
      rename_i u hu
      obtain ⟨h1, h2⟩ := holds_str.1 (ev_ok c hp)
      refine ⟨.int .i64 p.length, holds_int.2 ⟨rfl, ?_⟩, fun w => red _ w ?_⟩
      rotate_left
      · simp only [Builtin.len_, List.getElem?_toArray, List.getElem?_cons_zero, run_bind, run_underlying (Tab.str hT hu), h1]
        simp only [run_pure, goInt, bs_size]
      · simp only [rng, lo, hi, most] at *; omega
    · rename_i e tt p hp
      split at h <;> cases h
      rename_i u hu
      obtain ⟨cs, e1, ad, cap, e2, h2, _⟩ := ev_ok c hp
      refine ⟨.int .i64 p.length, holds_int.2 ⟨rfl, ?_⟩, fun w => red _ w ?_⟩
      rotate_left
      · simp only [Builtin.len_, List.getElem?_toArray, List.getElem?_cons_zero, run_bind, run_underlying (Tab.slice hT hu), e1, e2, mk]
        rfl
      · simp only [rng, lo, hi, most] at *; omega
    · rename_i z ad ln cap hp
      split at h <;> try cases h
      rename_i u hu
      split at h <;> cases h
      rename_i hm
      have h1 := (holds_raw.1 (ev_ok c hp)).1
      have hm := of_decide_eq_true hm
      refine ⟨.int .i64 ln, holds_int.2 ⟨rfl, ?_⟩, fun w => red _ w ?_⟩
      rotate_left
      · simp only [Builtin.len_, List.getElem?_toArray, List.getElem?_cons_zero, run_bind, run_underlying (Tab.slice hT hu), h1]
        rfl
      · simp only [rng, lo, hi, most] at *; omega
    · cases h
end
end Sx
