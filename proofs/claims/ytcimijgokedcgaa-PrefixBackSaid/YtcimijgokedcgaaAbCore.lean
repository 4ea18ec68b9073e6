/- The abstract machine: values, heap objects, the VC generator. Own work. -/
import Derived.WalkKit
set_option linter.unusedVariables false
set_option linter.unusedSimpArgs false
set_option linter.unusedSectionVars false
namespace Go.Ab

/- ### tries with paths of a fixed length -/
inductive T (α : Type) : Type where
  | nil
  | leaf (v : α)
  | node (l r : T α)

def bits : Nat → Nat → List Bool
  | 0, _ => []
  | w + 1, n => (Nat.beq (n % 2) 1) :: bits w (n / 2)

def T.get {α : Type} : T α → List Bool → Option α
  | .leaf v, [] => some v
  | .node l r, b :: bs => match b with
    | true => r.get bs
    | false => l.get bs
  | _, _ => none

def T.left {α : Type} : T α → T α
  | .node l _ => l
  | _ => .nil
def T.right {α : Type} : T α → T α
  | .node _ r => r
  | _ => .nil

def T.set {α : Type} : T α → List Bool → α → T α
  | _, [], v => .leaf v
  | t, b :: bs, v => match b with
    | true => .node t.left (t.right.set bs v)
    | false => .node (t.left.set bs v) t.right

def T.setK {α β : Type} : T α → List Bool → α → (T α → β) → β
  | _, [], v, k => k (.leaf v)
  | .node l r, b :: bs, v, k => match b with
    | true => r.setK bs v fun r' => k (.node l r')
    | false => l.setK bs v fun l' => k (.node l' r)
  | .nil, b :: bs, v, k => match b with
    | true => T.nil.setK bs v fun r' => k (.node .nil r')
    | false => T.nil.setK bs v fun l' => k (.node l' .nil)
  | .leaf _, b :: bs, v, k => match b with
    | true => T.nil.setK bs v fun r' => k (.node .nil r')
    | false => T.nil.setK bs v fun l' => k (.node l' .nil)

theorem T.setK_eq {α β : Type} (p : List Bool) (v : α) : ∀ (t : T α) (k : T α → β), t.setK p v k = k (t.set p v) := by
  induction p with
  | nil => intro t k; cases t <;> simp [T.setK, T.set]
  | cons b bs ih =>
    intro t k
    cases t <;> cases b <;> simp [T.setK, T.set, T.left, T.right, ih]

theorem T.get_set_self {α : Type} (p : List Bool) (v : α) : ∀ t : T α, (t.set p v).get p = some v := by
  induction p with
  | nil => intro t; simp [T.set, T.get]
  | cons b bs ih => intro t; cases b <;> simp [T.set, T.get, ih]

theorem T.get_nil {α : Type} (p : List Bool) : (T.nil : T α).get p = none := by cases p <;> rfl

theorem T.get_set_ne {α : Type} (p q : List Bool) (v : α) (h : p ≠ q) (hl : p.length = q.length) : ∀ t : T α, (t.set p v).get q = t.get q := by
  induction p generalizing q with
  | nil => intro t; cases q with
    | nil => exact absurd rfl h
    | cons _ _ => simp at hl
  | cons b bs ih =>
    intro t
    cases q with
    | nil => simp at hl
    | cons c cs =>
      have hl' : bs.length = cs.length := by simpa using hl
      cases b <;> cases c <;> simp only [T.set, T.get]
      · rw [ih cs (by intro e; exact h (by rw [e])) hl']
        cases t <;> simp [T.left, T.get, T.get_nil]
      · cases t <;> simp [T.right, T.get, T.get_nil]
      · cases t <;> simp [T.left, T.get, T.get_nil]
      · rw [ih cs (by intro e; exact h (by rw [e])) hl']
        cases t <;> simp [T.right, T.get, T.get_nil]

theorem T.set_comm {α : Type} (p q : List Bool) (v u : α) (h : p ≠ q) (hl : p.length = q.length) : ∀ t : T α, (t.set p v).set q u = (t.set q u).set p v := by
  induction p generalizing q with
  | nil => intro t; cases q with
    | nil => exact absurd rfl h
    | cons _ _ => simp at hl
  | cons b bs ih =>
    intro t
    cases q with
    | nil => simp at hl
    | cons c cs =>
      have hl' : bs.length = cs.length := by simpa using hl
      cases b <;> cases c <;> simp only [T.set, T.left, T.right]
      · rw [ih cs (by intro e; exact h (by rw [e])) hl']
      · rw [ih cs (by intro e; exact h (by rw [e])) hl']

theorem bits_length (w n : Nat) : (bits w n).length = w := by
  induction w generalizing n with
  | zero => rfl
  | succ w ih => simp [bits, ih]

theorem bits_inj (w : Nat) : ∀ (n m : Nat), n < 2 ^ w → m < 2 ^ w → bits w n = bits w m → n = m := by
  induction w with
  | zero => intro n m hn hm _; simp at hn hm; omega
  | succ w ih =>
    intro n m hn hm h
    simp only [bits, List.cons.injEq] at h
    have h2 := ih (n / 2) (m / 2) (by rw [Nat.pow_succ] at hn; omega) (by rw [Nat.pow_succ] at hm; omega) h.2
    have h1 : (n % 2 = 1) ↔ (m % 2 = 1) := by
      have e1 : Nat.beq (n % 2) 1 = true ↔ n % 2 = 1 := by rw [Nat.beq_eq]
      have e2 : Nat.beq (m % 2) 1 = true ↔ m % 2 = 1 := by rw [Nat.beq_eq]
      rw [← e1, ← e2, h.1]
    omega

/- ### values -/
inductive V : Type where
  | bool (b : Bool)
  | int (k : IntKind) (n : Int)
  | str (s : ByteArray)
  | lit (v : Value)
  | ptr (id off : Nat)
  | bptr (id ext sz i j : Nat)
  | bv (id ext sz lo len : Nat) (cap : Option Nat)
  | av (id off len cap sz : Nat)
  | map (id : Nat)
  | iter (id : Nat)
  | iptr (n sz : Nat) (get : Nat → Nat → V) (i j : Nat)
  | isl (len sz : Nat) (get : Nat → Nat → V)
  | imap (get : List Int → Option V)
  | fn (f : Fn) (first captured : List V)
  | iface (t : TypeId) (v : V)
  | agg (cs : List V)
  | tup (cs : List V)
  | junk

structure ME where
  sig : List Nat
  key : List Int
  val : V
  born : Nat

inductive Ob : Type where
  | cells (cs : List V)
  | buf (ext sz : Nat) (get : Nat → Nat → V)
  | map (es : List ME) (clock : Nat)
  | mapIter (map : Nat) (since : Nat) (seen : List Nat) (stepped : Nat)

/-- What is known of a type. -/
structure TI where
  d : TypeDesc
  size : Nat
  bytes : Nat
  zero : List V
  flat : Nat
  methods : List (String × FuncId × Bool)

structure Heap where
  ob : T Ob
  nx : Nat

def hw : Nat := 16
def tw : Nat := 9
def Heap.get (h : Heap) (id : Nat) : Option Ob := h.ob.get (bits 16 id)

structure St where
  tm : T V
  hp : Heap

def V.nilSlice : V := .lit (.slice none 0 0)

def V.cells : V → List V
  | .agg cs => cs
  | v => [v]

def ofValue : Nat → Value → V
  | _, .bool b => .bool b
  | _, .int k n => .int k n
  | _, .string s => .str s
  | n + 1, .agg cs => .agg (cs.toList.map (ofValue n))
  | n + 1, .tuple cs => .tup (cs.toList.map (ofValue n))
  | _, v => .lit v

def aggB : TypeDesc → Bool
  | .struct _ | .array _ _ => true
  | _ => false

end Go.Ab
