/- The VC generator. Own work. -/
import Derived.Test.YtcimijgokedcgaaAbCore
set_option linter.unusedVariables false
set_option linter.unusedSimpArgs false
set_option linter.unusedSectionVars false
namespace Go.Ab
open Go

/-- what conditions are made of: propositions, or Booleans -/
class Alg (R : Type) where
  ob : (p : Prop) → [Decidable p] → (Unit → R) → R
  num : (p : Prop) → [Decidable p] → (Unit → R) → (Unit → R) → R
  br : Bool → (Unit → R) → (Unit → R) → R
  ix : Int → (Nat → R) → R
  opt : {α : Type} → Option α → (α → R) → R
  fail : R
  holds : R → Prop
  holds_br : ∀ (b : Bool) (t f : Unit → R), holds (br b t f) → (b = true ∧ holds (t ())) ∨ (b = false ∧ holds (f ()))
  br_t : ∀ (t f : Unit → R), holds (t ()) → holds (br true t f)
  br_f : ∀ (t f : Unit → R), holds (f ()) → holds (br false t f)
  holds_opt : ∀ {α : Type} (o : Option α) (k : α → R), holds (opt o k) → ∃ a, o = some a ∧ holds (k a)
  holds_ix : ∀ (i : Int) (k : Nat → R), holds (ix i k) → holds (k i.toNat)
  holds_num : ∀ (p : Prop) [Decidable p] (a b : Unit → R), holds (num p a b) → (p ∧ holds (a ())) ∨ holds (b ())
  holds_ob : ∀ (p : Prop) [Decidable p] (r : Unit → R), holds (ob p r) ↔ p ∧ holds (r ())
  holds_fail : ¬ holds fail

instance : Alg Prop where
  ob p _ r := p ∧ r ()
  num p _ a b := (p ∧ a ()) ∨ b ()
  br b t f := (b = true → t ()) ∧ (b = false → f ())
  holds_br b t f h := by
    cases b
    · exact .inr ⟨rfl, h.2 rfl⟩
    · exact .inl ⟨rfl, h.1 rfl⟩
  br_t t f h := ⟨fun _ => h, fun h => nomatch h⟩
  br_f t f h := ⟨fun h => (nomatch h), fun _ => h⟩
  ix i k := ∃ n : Nat, i = (n : Int) ∧ k n
  opt o k := ∃ a, o = some a ∧ k a
  fail := False
  holds r := r
  holds_ix i k h := by obtain ⟨n, rfl, h⟩ := h; exact h
  holds_opt _ _ h := h
  holds_num _ _ _ _ h := h
  holds_ob _ _ _ := Iff.rfl
  holds_fail h := h

instance : Alg Bool where
  ob p _ r := match decide p with
    | true => r ()
    | false => false
  num p _ a b := match decide p with
    | true => a ()
    | false => b ()
  ix i k := match i with
    | .ofNat n => k n
    | .negSucc _ => false
  opt o k := match o with
    | some a => k a
    | none => false
  br b t f := match b with
    | true => t ()
    | false => f ()
  holds_br b t f h := by
    cases b
    · exact .inr ⟨rfl, h⟩
    · exact .inl ⟨rfl, h⟩
  br_t t f h := h
  br_f t f h := h
  fail := false
  holds r := r = true
  holds_opt o k h := by
    cases o with
    | some a => exact ⟨a, rfl, h⟩
    | none => cases h
  holds_ix i k h := by
    cases i with
    | ofNat n => exact h
    | negSucc n => cases h
  holds_num p _ a b h := by by_cases hp : p <;> simp [hp] at h <;> simp [h, hp]
  holds_ob p _ r := by by_cases h : p <;> simp [h]
  holds_fail h := by cases h

variable {R : Type} [Alg R]
abbrev fail : R := Alg.fail

/-- which way a test goes -/
def brK (b : Bool) (t f : Unit → R) : R := Alg.br b t f

theorem brK_holds {b : Bool} {t f : Unit → R} (h : Alg.holds (brK b t f)) : (b = true ∧ Alg.holds (t ())) ∨ (b = false ∧ Alg.holds (f ())) := Alg.holds_br b t f h
theorem brK_t {t f : Unit → R} (h : Alg.holds (brK true t f)) : Alg.holds (t ()) := by
  rcases brK_holds h with ⟨_, h⟩ | ⟨h, _⟩
  · exact h
  · cases h
theorem brK_f {t f : Unit → R} (h : Alg.holds (brK false t f)) : Alg.holds (f ()) := by
  rcases brK_holds h with ⟨h, _⟩ | ⟨_, h⟩
  · cases h
  · exact h

/-- a number that is wrapped: as it is, where it is in range -/
def numW (k : IntKind) (z : Int) (kk : Int → R) : R := match k with
  | .i8 => Alg.num (-128 ≤ z ∧ z ≤ 127) (fun _ => kk z) fun _ => kk (IntKind.i8.wrap z)
  | .i16 => Alg.num (-32768 ≤ z ∧ z ≤ 32767) (fun _ => kk z) fun _ => kk (IntKind.i16.wrap z)
  | .i32 => Alg.num (-2147483648 ≤ z ∧ z ≤ 2147483647) (fun _ => kk z) fun _ => kk (IntKind.i32.wrap z)
  | .i64 => Alg.num (-9223372036854775808 ≤ z ∧ z ≤ 9223372036854775807) (fun _ => kk z) fun _ => kk (IntKind.i64.wrap z)
  | .u8 => Alg.num (0 ≤ z ∧ z ≤ 255) (fun _ => kk z) fun _ => kk (IntKind.u8.wrap z)
  | .u16 => Alg.num (0 ≤ z ∧ z ≤ 65535) (fun _ => kk z) fun _ => kk (IntKind.u16.wrap z)
  | .u32 => Alg.num (0 ≤ z ∧ z ≤ 4294967295) (fun _ => kk z) fun _ => kk (IntKind.u32.wrap z)
  | .u64 => Alg.num (0 ≤ z ∧ z ≤ 18446744073709551615) (fun _ => kk z) fun _ => kk (IntKind.u64.wrap z)

/-- the greatest number of a kind -/
def hiOf : IntKind → Int
  | .i8 => 127 | .i16 => 32767 | .i32 => 2147483647 | .i64 => 9223372036854775807
  | .u8 => 255 | .u16 => 65535 | .u32 => 4294967295 | .u64 => 18446744073709551615

structure Env where
  ty : T TI
  fns : T Func
  pure : FuncId → Bool

def Env.ti (E : Env) (t : TypeId) : Option TI := match Nat.ble t 4095 with
  | true => E.ty.get (bits 12 t)
  | false => none

/-- rows behind each other -/
def appG (ext : Nat) (g src : Nat → Nat → V) : Nat → Nat → V := fun i j => match Nat.blt i ext with
  | true => g i j
  | false => src (i - ext) j
/-- a row from a place on -/
def offG (lo : Nat) (g : Nat → Nat → V) : Nat → Nat → V := fun i j => g (lo + i) j
/-- elements that are listed -/
def listG (cs : List V) (size : Nat) : Nat → Nat → V := fun i j => cs.getD (i * size + j) .junk
def zeroG (z : List V) : Nat → Nat → V := fun _ j => z.getD j .junk
def overG (lo n : Nat) (src g : Nat → Nat → V) : Nat → Nat → V := fun i j => match Nat.ble lo i && Nat.blt i (lo + n) with
  | true => src (i - lo) j
  | false => g i j
def storeG (i j : Nat) (vs : List V) (g : Nat → Nat → V) : Nat → Nat → V := fun a b => match Nat.beq a i && (Nat.ble j b && Nat.blt b (j + vs.length)) with
  | true => vs.getD (b - j) .junk
  | false => g a b

theorem offG_zero (g : Nat → Nat → V) : offG 0 g = g := by funext i j; unfold offG; rw [Nat.zero_add]
/-- a sum, without what is nought -/
def addK (lo n : Nat) (k : Nat → R) : R := Alg.num (lo = 0) (fun _ => k n) fun _ => k (lo + n)
def offK (lo : Nat) (g : Nat → Nat → V) (k : (Nat → Nat → V) → R) : R := Alg.num (lo = 0) (fun _ => k g) fun _ => k (offG lo g)
theorem addK_sound {lo n : Nat} {k : Nat → R} (h : Alg.holds (addK lo n k)) : Alg.holds (k (lo + n)) := by
  rcases Alg.holds_num _ _ _ h with ⟨e, h1⟩ | h1
  · subst e; rw [Nat.zero_add]; exact h1
  · exact h1
theorem offK_sound {lo : Nat} {g : Nat → Nat → V} {k : (Nat → Nat → V) → R} (h : Alg.holds (offK lo g k)) : Alg.holds (k (offG lo g)) := by
  rcases Alg.holds_num _ _ _ h with ⟨e, h1⟩ | h1
  · subst e; rw [offG_zero]; exact h1
  · exact h1

/-- a type's sizes, told -/
def tiF (et : TI) (k : Nat → Nat → R) : R := match et with
  | ⟨_, size, bytes, _, _, _⟩ => k size bytes
theorem tiF_eq (et : TI) (k : Nat → Nat → R) : tiF et k = k et.size et.bytes := by cases et; rfl

def ikIdx : IntKind → Nat
  | .i8 => 0 | .i16 => 1 | .i32 => 2 | .i64 => 3 | .u8 => 4 | .u16 => 5 | .u32 => 6 | .u64 => 7
def ikEq (a b : IntKind) : Bool := Nat.beq (ikIdx a) (ikIdx b)

def opd (tm : T V) : Operand → V
  | .tmp t => match Nat.ble t 511 with
    | true => match tm.get (bits 9 t) with
      | some v => v
      | none => .junk
    | false => .junk
  | .const v => ofValue 4 v
  | .global _ => .junk
  | .func f => .fn (.func f) [] []

def takeK : Nat → List V → (List V → R) → R
  | 0, _, k => k []
  | n + 1, x :: xs, k => takeK n xs fun r => k (x :: r)
  | _ + 1, [], _ => fail

/-- n values that a function gives, from j on -/
def rowK (get : Nat → V) : Nat → Nat → (List V → R) → R
  | 0, _, k => k []
  | n + 1, j, k => rowK get n (j + 1) fun r => k (get j :: r)

def optK {α : Type} (o : Option α) (k : α → R) : R := match o with
  | some a => k a
  | none => fail

def partK (E : Env) (t : TypeId) (cs : List V) (off : Nat) (k : V → R) : R :=
  optK (E.ti t) fun ti => match aggB ti.d with
    | true => takeK ti.size (cs.drop off) fun l => k (.agg l)
    | false => optK cs[off]? k

/-- an element of a list, at a place that may not be told: it is not unfolded by itself -/
@[irreducible] def nthV (cs : List V) (n : Nat) : Option V := cs[n]?

/-- a part of an array -/
def partX (E : Env) (t : TypeId) (cs : List V) (off : Nat) (k : V → R) : R :=
  optK (E.ti t) fun ti => match aggB ti.d with
    | true => takeK ti.size (cs.drop off) fun l => k (.agg l)
    | false => Alg.opt (nthV cs off) k

theorem partX_sound {E : Env} {t : TypeId} {cs : List V} {off : Nat} {k : V → R} (h : Alg.holds (partX E t cs off k)) : Alg.holds (partK E t cs off k) := by
  unfold partX at h
  unfold partK
  cases ht : E.ti t with
  | none => rw [ht] at h; exact h
  | some ti =>
    rw [ht] at h
    dsimp only [optK] at h ⊢
    cases ha : aggB ti.d with
    | true => rw [ha] at h; exact h
    | false =>
      rw [ha] at h
      obtain ⟨a, h1, h2⟩ := Alg.holds_opt _ _ h
      unfold nthV at h1
      rw [h1]; exact h2

/-- where a field, or an element, of what is pointed to lies -/
def moveK (v : V) (n : Nat) (k : V → R) : R := match v with
  | .ptr id off => k (.ptr id (off + n))
  | .bptr id ext sz i j => k (.bptr id ext sz i (j + n))
  | .iptr m sz g i j => k (.iptr m sz g i (j + n))
  | _ => fail

/-- a kind's greatest number, and how many bits it has, told -/
def hiK (k : IntKind) (f : Int → Int → R) : R := match k with
  | .i8 => f 127 8 | .i16 => f 32767 16 | .i32 => f 2147483647 32 | .i64 => f 9223372036854775807 64
  | .u8 => f 255 8 | .u16 => f 65535 16 | .u32 => f 4294967295 32 | .u64 => f 18446744073709551615 64
theorem hiK_eq (k : IntKind) (f : Int → Int → R) : hiK k f = f (hiOf k) (k.bits : Int) := by cases k <;> rfl

def bitsOp (op : BinOp) (k : IntKind) (x y : Int) : Int :=
  let a := BitVec.ofInt k.bits x
  let b := BitVec.ofInt k.bits y
  match op with
  | .and => k.wrap (a &&& b).toNat
  | .or => k.wrap (a ||| b).toNat
  | .xor => k.wrap (a ^^^ b).toNat
  | _ => k.wrap (a &&& ~~~b).toNat

def shlI (k : IntKind) (x y : Int) : Int := k.wrap (x * 2 ^ (min y.toNat k.bits))
def shrI (k : IntKind) (x y : Int) : Int := x.fdiv (2 ^ (min y.toNat k.bits))

def bitsN (op : BinOp) (x y : Nat) : Int := match op with
  | .and => ((x &&& y : Nat) : Int)
  | .or => ((x ||| y : Nat) : Int)
  | _ => ((x ^^^ y : Nat) : Int)

def numB (op : BinOp) (k : IntKind) (x y : Int) (kk : Int → R) : R :=
  hiK k fun hi _ => Alg.num ((0 ≤ x ∧ x ≤ hi) ∧ 0 ≤ y ∧ y ≤ hi) (fun _ => Alg.ix x fun a => Alg.ix y fun b => kk (bitsN op a b)) fun _ => kk (bitsOp op k x y)

def intBinK (op : BinOp) (k : IntKind) (x y : Int) (kk : V → R) : R := match op with
  | .add => numW k (x + y) fun z => kk (.int k z)
  | .sub => numW k (x - y) fun z => kk (.int k z)
  | .mul => numW k (x * y) fun z => kk (.int k z)
  | .quo => Alg.ob (y ≠ 0) fun _ => hiK k fun hi _ => Alg.num (0 ≤ x ∧ x ≤ hi ∧ 0 < y) (fun _ => kk (.int k (x / y))) fun _ => kk (.int k (k.wrap (x.tdiv y)))
  | .rem => Alg.ob (y ≠ 0) fun _ => Alg.num (0 ≤ x) (fun _ => kk (.int k (x % y))) fun _ => kk (.int k (x.tmod y))
  | .and => numB .and k x y fun z => kk (.int k z)
  | .or => numB .or k x y fun z => kk (.int k z)
  | .xor => numB .xor k x y fun z => kk (.int k z)
  | .andNot => kk (.int k (bitsOp .andNot k x y))
  | .shl => Alg.ob (0 ≤ y) fun _ => Alg.num (y ≤ 64) (fun _ => Alg.ix y fun n => numW k (x * 2 ^ n) fun z => kk (.int k z)) fun _ => kk (.int k (shlI k x y))
  | .shr => Alg.ob (0 ≤ y) fun _ => hiK k fun _ bits => Alg.num (y ≤ bits) (fun _ => Alg.ix y fun n => kk (.int k (x / 2 ^ n))) fun _ => kk (.int k (shrI k x y))
  | .eql => kk (.bool (decide (x = y)))
  | .neq => kk (.bool (decide (x ≠ y)))
  | .lss => kk (.bool (decide (x < y)))
  | .leq => kk (.bool (decide (x ≤ y)))
  | .gtr => kk (.bool (decide (x > y)))
  | .geq => kk (.bool (decide (x ≥ y)))

/-- a row of numbers: their kinds, and they -/
def keyCells : List V → Option (List Nat × List Int)
  | [] => some ([], [])
  | .int k n :: cs => match keyCells cs with
    | some (s, l) => some (ikIdx k :: s, n :: l)
    | none => none
  | _ => none

/-- a key: a number, or a row of numbers -/
def keyOf : V → Option (List Nat × List Int)
  | .int k n => some ([ikIdx k], [n])
  | .agg cs => match keyCells cs with
    | some (s, l) => some (8 :: 8 :: s, l)
    | none => none
  | _ => none

def natsEq : List Nat → List Nat → Bool
  | [], [] => true
  | x :: xs, y :: ys => match Nat.beq x y with
    | true => natsEq xs ys
    | false => false
  | _, _ => false

def intsEq : List Int → List Int → Bool
  | [], [] => true
  | x :: xs, y :: ys => match x == y with
    | true => intsEq xs ys
    | false => false
  | _, _ => false

def allEq : List Int → List Int → Bool
  | x :: xs, y :: ys => (x == y) && allEq xs ys
  | _, _ => true

/-- Are these of one type that is built of numbers? Then: are they the same? -/
def eqFlat (flat : Nat) (x y : V) : Option Bool := match keyOf x, keyOf y with
  | some (s, a), some (s', b) => match natsEq s s' && Nat.beq s.length flat with
    | true => some (allEq a b)
    | false => none
  | _, _ => none

/-- a pointer that is nil, or surely is none -/
def ptrNil : V → Option Bool
  | .lit (.pointer none) => some true
  | .ptr _ _ | .iptr _ _ _ _ _ => some false
  | _ => none

def eqK (E : Env) (t : TypeId) (x y : V) (k : Bool → R) : R := optK (E.ti t) fun ti => match ti.d, x, y with
  | .bool, .bool a, .bool b => k (a == b)
  | .string, .str a, .str b => k (a.toList == b.toList)
  | .struct _, .agg xs, .agg ys => optK (eqFlat ti.flat (.agg xs) (.agg ys)) k
  | .array _ _, .agg xs, .agg ys => optK (eqFlat ti.flat (.agg xs) (.agg ys)) k
  | .pointer _, x, y => match ptrNil x, ptrNil y with
    | some true, some b => k b
    | some b, some true => k b
    | _, _ => fail
  | .slice _, .lit (.slice none _ _), .lit (.slice none _ _) => k true
  | _, _, _ => fail

def binK (E : Env) (op : BinOp) (t : TypeId) (x y : V) (k : V → R) : R := match x, y with
  | .int kx a, .int ky b => match op with
    | .shl => intBinK .shl kx a b k
    | .shr => intBinK .shr kx a b k
    | op => match ikEq kx ky with
      | true => intBinK op kx a b k
      | false => fail
  | x, y => match op with
    | .eql => eqK E t x y fun b => k (.bool b)
    | .neq => eqK E t x y fun b => k (.bool !b)
    | _ => fail

def unK (op : UnOp) (x : V) (k : V → R) : R := match op, x with
  | .neg, .int kd n => numW kd (0 - n) fun z => k (.int kd z)
  | .xor, .int kd n => k (.int kd (bitsOp .xor kd (if kd.signed then -1 else kd.max) n))
  | .not, .bool b => k (.bool !b)
  | _, _ => fail

/-- Has a value as many cells as are seen? -/
def hasCells : V → Bool
  | .junk => false
  | .lit (.agg _) => false
  | _ => true

def buildCells (place : Nat → Option (Nat × Nat)) : List V → List (Nat × V) → (List V → R) → R
  | cs, [], k => k cs
  | cs, (i, v) :: rest, k => optK (place i) fun (off, size) =>
    match (Nat.beq v.cells.length size && Nat.ble (off + size) cs.length) && hasCells v with
    | true => buildCells place (cs.take off ++ (v.cells ++ cs.drop (off + size))) rest k
    | false => fail

def mapK {α β : Type} (f : α → β) : List α → (List β → R) → R
  | [], k => k []
  | x :: xs, k => mapK f xs fun r => k (f x :: r)

def sliceBoundsK (len : Nat) (cap : Nat) (lo hi : Option V) (k : Nat → Nat → R) : R :=
  let low (h : Nat) : R := match lo with
    | none => k 0 h
    | some (.int _ l) => Alg.ob (0 ≤ l ∧ l ≤ (h : Int)) fun _ => Alg.ix l fun n => k n h
    | some _ => fail
  match hi with
  | none => low len
  | some (.int _ h) => Alg.ob (0 ≤ h ∧ h ≤ (cap : Int)) fun _ => Alg.ix h fun n => low n
  | some _ => fail

/-- operations that ask no heap -/
def evTmp (E : Env) (o : Op) (ρ : Operand → V) (k : V → R) : R := match o with
  | .move x | .assign x => k (ρ x)
  | .pick c a b => match ρ c with
    | .bool g => brK g (fun _ => k (ρ a)) fun _ => k (ρ b)
    | _ => fail
  | .fieldAddr s x f => optK (E.ti s) fun ti => match ti.d with
    | .struct fs => optK fs[f]? fun fd => optK (E.ti fd.type) fun ft => match Nat.beq ft.size 0 with
      | true => fail
      | false => moveK (ρ x) fd.offset k
    | _ => fail
  | .field s x f => optK (E.ti s) fun ti => match ti.d, ρ x with
    | .struct fs, .agg cs => optK fs[f]? fun fd => partK E fd.type cs fd.offset k
    | _, _ => fail
  | .nilCheck x => match ρ x with
    | .ptr id off => k (.ptr id off)
    | .bptr id ext sz i j => k (.bptr id ext sz i j)
    | .iptr n sz g i j => k (.iptr n sz g i j)
    | .fn (.func f) a b => k (.fn (.func f) a b)
    | _ => fail
  | .binOp op t x y _ => binK E op t (ρ x) (ρ y) k
  | .unOp op _ x => unK op (ρ x) k
  | .convert src dst x => optK (E.ti src) fun _ => optK (E.ti dst) fun ti => match ti.d, ρ x with
    | .int kd, .int _ n => numW kd n fun z => k (.int kd z)
    | .string, .str s => k (.str s)
    | _, _ => fail
  | .makeInterface t x => optK (E.ti t) fun ti => match ti.d with
    | .interface _ => fail
    | _ => k (.iface t (ρ x))
  | .makeFunc f first captured => mapK ρ first.toList fun a => mapK ρ captured.toList fun b => k (.fn f a b)
  | .extract x i => match ρ x with
    | .tup vs => optK vs[i]? k
    | _ => fail
  | .build t parts => optK (E.ti t) fun ti => match ti.d with
    | .struct fs => mapK (fun (p : Nat × Operand) => (p.1, ρ p.2)) parts.toList fun ps => match fs.toList.all fun f => (E.ti f.type).isSome with
     | false => fail
     | true => buildCells (fun i => match fs[i]? with
        | some fd => match E.ti fd.type with
          | some ft => some (fd.offset, ft.size)
          | none => none
        | none => none) ti.zero ps fun cs => k (.agg cs)
    | .array _ el => mapK (fun (p : Nat × Operand) => (p.1, ρ p.2)) parts.toList fun ps => optK (E.ti el) fun et =>
      buildCells (fun i => some (i * et.size, et.size)) ti.zero ps fun cs => k (.agg cs)
    | _ => fail
  | .indexAddr t x ix => optK (E.ti t) fun ti => match ti.d, ρ ix with
    | .array n el, .int _ i => optK (E.ti el) fun et => tiF et fun size _ => Alg.ob (0 ≤ i ∧ i < (n : Int)) fun _ => Alg.ix i fun n => moveK (ρ x) (n * size) k
    | .slice el, .int _ i => optK (E.ti el) fun et => match ρ x with
      | .isl len sz g => match Nat.beq sz et.size && Nat.ble 1 sz with
        | true => Alg.ob (0 ≤ i ∧ i < (len : Int)) fun _ => Alg.ix i fun n => k (.iptr len sz g n 0)
        | false => fail
      | .bv id ext sz lo len _ => match Nat.beq sz et.size && Nat.ble 1 sz with
        | true => Alg.ob (0 ≤ i ∧ i < (len : Int)) fun _ => Alg.ix i fun n => addK lo n fun m => k (.bptr id ext sz m 0)
        | false => fail
      | .av id off len _ sz => match Nat.beq sz et.size with
        | true => Alg.ob (0 ≤ i ∧ i < (len : Int)) fun _ => Alg.ix i fun n => k (.ptr id (off + n * sz))
        | false => fail
      | _ => fail
    | _, _ => fail
  | .index t x ix => optK (E.ti t) fun ti => match ti.d, ρ x, ρ ix with
    | .array n el, .agg cs, .int _ i => optK (E.ti el) fun et => tiF et fun size _ => Alg.ob (0 ≤ i ∧ i < (n : Int)) fun _ => Alg.ix i fun n => partX E el cs (n * size) k
    | .string, .str s, .int _ i => Alg.ob (0 ≤ i ∧ i < (s.size : Int)) fun _ => Alg.ix i fun n => k (.int .u8 ((s.data.getD n 0).toNat : Int))
    | _, _, _ => fail
  | .slice t x lo hi mx => optK (E.ti t) fun ti => match ti.d, ρ x with
    | .slice el, .isl len sz g => match mx with
      | none => sliceBoundsK len len (lo.map ρ) (hi.map ρ) fun l h => optK (E.ti el) fun et => match Nat.beq sz et.size with
        | true => offK l g fun g => k (.isl (h - l) sz g)
        | false => fail
      | some _ => fail
    | .slice el, .bv id ext sz lo' len cap => match mx with
      | none => sliceBoundsK len len (lo.map ρ) (hi.map ρ) fun l h => optK (E.ti el) fun et => match Nat.beq sz et.size with
        | true => addK lo' l fun m => k (.bv id ext sz m (h - l) (match cap with
          | none => none
          | some c => some (c - l)))
        | false => fail
      | some m => match hi, ρ m with
        | some z, .int _ m => sliceBoundsK len len (lo.map ρ) (some (ρ z)) fun l h => optK (E.ti el) fun et => match Nat.beq sz et.size with
          | true => Alg.ob (m = (h : Int)) fun _ => addK lo' l fun m => k (.bv id ext sz m (h - l) (some (h - l)))
          | false => fail
        | _, _ => fail
    | .string, .str s => match mx with
      | none => sliceBoundsK s.size s.size (lo.map ρ) (hi.map ρ) fun l h => k (.str (s.extract l h))
      | some _ => fail
    | .array n el, .ptr id off => match mx with
      | none => optK (E.ti el) fun et => tiF et fun size _ => sliceBoundsK n n (lo.map ρ) (hi.map ρ) fun l h => k (.av id (off + l * size) (h - l) (n - l) size)
      | some _ => fail
    | _, _ => fail
  | .call { callee := .builtin b, args, argTypes } => match b, args.toList, argTypes[0]? with
    | .len, [x], some t => optK (E.ti t) fun ti => match ti.d, ρ x with
      | .slice _, .isl len _ _ => k (.int .i64 len)
      | .slice _, .bv _ _ _ _ len _ => k (.int .i64 len)
      | .slice _, .av _ _ len _ _ => k (.int .i64 len)
      | .string, .str s => k (.int .i64 s.size)
      | .slice _, .lit (.slice none n _) => k (.int .i64 n)
      | .array n _, _ => k (.int .i64 n)
      | _, _ => fail
    | .max, [x, y], _ => match ρ x, ρ y with
      | .int kx a, .int _ b => k (.int kx (if b > a then b else a))
      | _, _ => fail
    | .min, [x, y], _ => match ρ x, ρ y with
      | .int kx a, .int _ b => k (.int kx (if b < a then b else a))
      | _, _ => fail
    | _, _, _ => fail
  | .typeAssert x _ t ok => optK (E.ti t) fun ti => match ti.d, ρ x with
    | .interface _, _ => fail
    | _, .iface u v => match Nat.beq u t with
      | true => k (match ok with
        | true => .tup [v, .bool true]
        | false => v)
      | false => fail
    | _, _ => fail
  | _ => fail

/-- operations that read the heap -/
def loadK (h : Heap) (v : V) (n : Nat) (k : List V → R) : R := match v with
  | .ptr id off => optK (h.get id) fun
    | .cells cs => takeK n (cs.drop off) k
    | _ => fail
  | .bptr id ext sz i j => optK (h.get id) fun
    | .buf ext' sz' g => Alg.ob ((Nat.beq ext ext' && Nat.beq sz sz') = true) fun _ => Alg.ob (i < ext ∧ j + n ≤ sz) fun _ => rowK (g i) n j k
    | _ => fail
  | .iptr m sz g i j => Alg.ob (i < m ∧ j + n ≤ sz) fun _ => rowK (g i) n j k
  | _ => fail

def findME (sig : List Nat) (key : List Int) : List ME → Nat → Option (Option (Nat × ME))
  | [], _ => some none
  | e :: es, i => match natsEq sig e.sig with
    | true => match intsEq key e.key with
      | true => some (some (i, e))
      | false => findME sig key es (i + 1)
    | false => none

/-- a key of the type -/
def keyK (E : Env) (kt : TypeId) (v : V) (k : List Nat → List Int → R) : R := optK (E.ti kt) fun ti => optK (keyOf v) fun (s, l) =>
  match Nat.beq s.length ti.flat with
  | true => k s l
  | false => fail

def zeroV (ti : TI) : Option V := match aggB ti.d with
  | true => some (.agg ti.zero)
  | false => match ti.zero with
    | [z] => some z
    | _ => none

def lookK (ei : TI) (ok : Bool) (r : Option V) (k : V → R) : R := match r with
  | some v => k (match ok with
    | true => .tup [v, .bool true]
    | false => v)
  | none => optK (zeroV ei) fun z => k (match ok with
    | true => .tup [z, .bool false]
    | false => z)

def evRd (E : Env) (o : Op) (ρ : Operand → V) (h : Heap) (k : V → R) : R := match o with
  | .load t x => optK (E.ti t) fun ti => match aggB ti.d with
    | true => tiF ti fun size _ => loadK h (ρ x) size fun cs => k (.agg cs)
    | false => loadK h (ρ x) 1 fun
      | [v] => k v
      | _ => fail
  | .lookup t m key ok => optK (E.ti t) fun ti => match ti.d with
    | .map kt et => keyK E kt (ρ key) fun sg kk => optK (E.ti et) fun ei =>
      match ρ m with
      | .map id => optK (h.get id) fun
        | .map es _ => Alg.opt (findME sg kk es 0) fun r => lookK ei ok (r.map (·.2.val)) k
        | _ => fail
      | .imap g => lookK ei ok (g kk) k
      | .lit (.map none) => lookK ei ok none k
      | _ => fail
    | _ => fail
  | .call { callee := .builtin .len, args, argTypes } => match args.toList, argTypes[0]? with
    | [x], some t => optK (E.ti t) fun ti => match ti.d, ρ x with
      | .map _ _, .map id => optK (h.get id) fun
        | .map es _ => k (.int .i64 es.length)
        | _ => fail
      | .map _ _, .lit (.map none) => k (.int .i64 0)
      | _, _ => fail
    | _, _ => fail
  | _ => fail

/-- operations that make a new object -/
def evAl (E : Env) (o : Op) (ρ : Operand → V) (id : Nat) (k : V → Ob → R) : R := match o with
  | .alloc t => optK (E.ti t) fun ti => k (.ptr id 0) (.cells ti.zero)
  | .box _ x => match hasCells (ρ x) with
    | true => k (.ptr id 0) (.cells (ρ x).cells)
    | false => fail
  | .makeMap _ none => k (.map id) (.map [] 0)
  | .buildSlice t len parts => optK (E.ti t) fun ti => match ti.d with
    | .slice el => optK (E.ti el) fun et => tiF et fun size _ => match Nat.ble (len * size) (2 ^ 24) with
      | true => mapK (fun (p : Nat × Operand) => (p.1, ρ p.2)) parts.toList fun ps =>
        buildCells (fun i => some (i * size, size)) (List.replicate len et.zero).flatten ps fun cs =>
          k (.bv id len size 0 len none) (.buf len size (listG cs size))
      | false => fail
    | _ => fail
  | .makeSlice t len cap => optK (E.ti t) fun ti => match ti.d, ρ len, ρ cap with
    | .slice el, .int _ l, .int _ c => optK (E.ti el) fun et => tiF et fun size bytes =>
      Alg.ob (0 ≤ l ∧ l ≤ c ∧ c < 2 ^ 62 ∧ bytes * c ≤ 2 ^ 48) fun _ => Alg.ix l fun n => k (.bv id n size 0 n none) (.buf n size (zeroG et.zero))
    | _, _, _ => fail
  | _ => fail

end Go.Ab
