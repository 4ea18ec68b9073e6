/- The VC generator: what writes, calls, regions, code. Own work. -/
import Derived.Test.YtcimijgokedcgaaAbEval
set_option linter.unusedVariables false
set_option linter.unusedSimpArgs false
set_option linter.unusedSectionVars false
namespace Go.Ab
open Go
variable {R : Type} [Alg R]

/-- a value that one cell holds -/
def cellV : V → Bool
  | .agg _ | .tup _ | .junk => false
  | .lit (.agg _) | .lit (.tuple _) => false
  | _ => true

/-- a value, with its head told -/
def forceK (v : V) (k : V → R) : R := match v with
  | .bool b => k (.bool b)
  | .int kd n => k (.int kd n)
  | .str s => k (.str s)
  | .lit v => k (.lit v)
  | .ptr id off => k (.ptr id off)
  | .bptr id ext sz i j => k (.bptr id ext sz i j)
  | .bv id ext sz lo len cap => k (.bv id ext sz lo len cap)
  | .av id off len cap sz => k (.av id off len cap sz)
  | .map id => k (.map id)
  | .iter id => k (.iter id)
  | .iptr n sz g i j => k (.iptr n sz g i j)
  | .isl len sz g => k (.isl len sz g)
  | .imap g => k (.imap g)
  | .fn f a b => k (.fn f a b)
  | .iface t v => k (.iface t v)
  | .agg cs => k (.agg cs)
  | .tup cs => k (.tup cs)
  | .junk => k .junk

theorem forceK_eq (v : V) (k : V → R) : forceK v k = k v := by cases v <;> rfl

def putK : Nat → List V → List V → (List V → R) → R
  | 0, [], cs, k => k cs
  | 0, v :: vs, _ :: cs, k => forceK v fun v => match cellV v with
    | true => putK 0 vs cs fun r => k (v :: r)
    | false => fail
  | n + 1, vs, c :: cs, k => putK n vs cs fun r => k (c :: r)
  | _, _, [], _ => fail

def okCells : List V → Bool
  | [] => true
  | v :: vs => match cellV v with
    | true => okCells vs
    | false => false

def setObK (h : Heap) (id : Nat) (o : Ob) (k : Heap → R) : R :=
  match Nat.ble id 65535 with
  | true => match h with
    | ⟨ob, nx⟩ => ob.setK (bits 16 id) o fun t => k ⟨t, nx⟩
  | false => fail

def newObK (h : Heap) (o : Ob) (k : Nat → Heap → R) : R :=
  match h with
  | ⟨ob, nx⟩ => match Nat.ble nx 65535 with
    | true => ob.setK (bits 16 nx) o fun t => k nx ⟨t, nx + 1⟩
    | false => fail

/-- the next name, with its number told -/
def nxK (h : Heap) (k : Nat → R) : R := match h with
  | ⟨_, nx⟩ => k nx

theorem nxK_eq (h : Heap) (k : Nat → R) : nxK h k = k h.nx := by cases h; rfl

/-- a row: how many elements, and each one's cells -/
def srcK (h : Heap) (sz : Nat) (x : V) (k : Nat → (Nat → Nat → V) → R) : R := match x with
  | .isl len sz' g => match Nat.beq sz sz' with
    | true => k len g
    | false => fail
  | .bv id ext sz' lo len _ => optK (h.get id) fun
    | .buf ext' sz'' g => Alg.ob ((Nat.beq ext ext' && (Nat.beq sz sz' && Nat.beq sz' sz'')) = true) fun _ => offK lo g fun g => k len g
    | _ => fail
  | .av id off len _ sz' => optK (h.get id) fun
    | .cells cs => match Nat.beq sz sz' && Nat.ble (off + len * sz) cs.length with
      | true => k len fun i j => cs.getD (off + i * sz + j) .junk
      | false => fail
    | _ => fail
  | .str s => match Nat.beq sz 1 with
    | true => k s.size fun i _ => .int .u8 ((s.data.getD i 0).toNat : Int)
    | false => fail
  | .lit (.slice none 0 _) => k 0 fun _ _ => .junk
  | _ => fail

def storeK (h : Heap) (a : V) (vs : List V) (k : Heap → R) : R := match a with
  | .ptr id off => optK (h.get id) fun
    | .cells cs => putK off vs cs fun cs' => setObK h id (.cells cs') k
    | _ => fail
  | .bptr id ext sz i j => optK (h.get id) fun
    | .buf ext' sz' g => Alg.ob (((Nat.beq ext ext' && Nat.beq sz sz') && (okCells vs && Nat.ble 1 vs.length)) = true) fun _ => Alg.ob (i < ext ∧ j + vs.length ≤ sz) fun _ =>
        setObK h id (.buf ext sz (storeG i j vs g)) k
    | _ => fail
  | _ => fail

def setME : Nat → V → List ME → List ME
  | _, _, [] => []
  | 0, v, e :: es => { e with val := v } :: es
  | n + 1, v, e :: es => e :: setME n v es

def findBorn (b : Nat) : List ME → Nat → Option Nat
  | [], _ => none
  | e :: es, i => match Nat.beq e.born b with
    | true => some i
    | false => findBorn b es (i + 1)

def rowOK (src : Nat → V) : Nat → Bool
  | 0 => true
  | j + 1 => match cellV (src j) with
    | true => rowOK src j
    | false => false

def allOK (src : Nat → Nat → V) (sz : Nat) : Nat → Bool
  | 0 => true
  | n + 1 => match rowOK (src n) sz with
    | true => allOK src sz n
    | false => false

/-- n elements are put behind a slice -/
def appK (et : TI) (h : Heap) (s : V) (n : Nat) (src : Nat → Nat → V) (k : V → Heap → R) : R := tiF et fun size bytes => Alg.ob (allOK src size n = true) fun _ => match s with
  | .lit (.slice none 0 0) => Alg.ob (n ≤ 2 ^ 46 ∧ n * bytes ≤ 2 ^ 46) fun _ =>
    newObK h (.buf n size src) fun id h' => k (.bv id n size 0 n none) h'
  | .bv id ext sz lo len none => optK (h.get id) fun
    | .buf ext' sz' g => Alg.ob (((Nat.beq ext ext' && Nat.beq sz sz') && Nat.beq sz size) = true) fun _ =>
        brK (Nat.beq len ext) (fun _ => Alg.ob (lo = 0 ∧ ext + n ≤ 2 ^ 46 ∧ (ext + n) * bytes ≤ 2 ^ 46) fun _ =>
          setObK h id (.buf (ext + n) sz (appG ext g src)) fun h' => k (.bv id (ext + n) sz 0 (ext + n) none) h')
        fun _ => Alg.ob (lo + len + n ≤ ext) fun _ =>
          setObK h id (.buf ext sz (overG (lo + len) n src g)) fun h' => k (.bv id ext sz lo (len + n) none) h'
    | _ => fail
  | .bv id ext sz lo len (some c) => optK (h.get id) fun
    | .buf ext' sz' g => Alg.ob (((Nat.beq ext ext' && Nat.beq sz sz') && Nat.beq sz size) = true) fun _ => Alg.ob (c < len + n ∧ len + n ≤ 2 ^ 46 ∧ (len + n) * bytes ≤ 2 ^ 46) fun _ =>
        offK lo g fun g => newObK h (.buf (len + n) sz (appG len g src)) fun id' h' => k (.bv id' (len + n) sz 0 (len + n) none) h'
    | _ => fail
  | _ => fail

/-- operations that write -/
def evEff (E : Env) (o : Op) (ρ : Operand → V) (h : Heap) (k : V → Heap → R) : R := match o with
  | .store t a v => optK (E.ti t) fun ti => match Nat.beq (ρ v).cells.length ti.size && hasCells (ρ v) with
    | true => storeK h (ρ a) (ρ v).cells fun h' => k .junk h'
    | false => fail
  | .mapUpdate t m key v | .insert t m key v => optK (E.ti t) fun ti => match ti.d, ρ m with
    | .map kt _, .map id => keyK E kt (ρ key) fun sg kk => optK (h.get id) fun
      | .map es clock => Alg.opt (findME sg kk es 0) fun
        | some (i, _) => setObK h id (.map (setME i (ρ v) es) clock) fun h' => k .junk h'
        | none => setObK h id (.map (es ++ [⟨sg, kk, ρ v, clock⟩]) (clock + 1)) fun h' => k .junk h'
      | _ => fail
    | _, _ => fail
  | .mapEntry t m key => optK (E.ti t) fun ti => match ti.d, ρ m with
    | .map kt et, .map id => keyK E kt (ρ key) fun sg kk => optK (h.get id) fun
      | .map es clock => Alg.opt (findME sg kk es 0) fun
        | some (_, e) => setObK h id (.map es clock) fun h => k (.tup [e.val, .int .i64 e.born]) h
        | none => optK (E.ti et) fun ei => optK (zeroV ei) fun z =>
          setObK h id (.map (es ++ [⟨sg, kk, z, clock⟩]) (clock + 1)) fun h' => k (.tup [z, .int .i64 clock]) h'
      | _ => fail
    | _, _ => fail
  | .entryStore _ m stamp v => match ρ m, ρ stamp with
    | .map id, .int _ n => optK (h.get id) fun
      | .map es clock => Alg.ob (0 ≤ n ∧ n < 2 ^ 62) fun _ => Alg.opt (findBorn n.toNat es 0) fun i =>
        setObK h id (.map (setME i (ρ v) es) clock) fun h' => k .junk h'
      | _ => fail
    | _, _ => fail
  | .call { callee := .builtin .append, args, argTypes } => match args.toList, argTypes.toList with
    | [s, x], [st, xt] => optK (E.ti st) fun si => optK (E.ti xt) fun xi => match si.d with
      | .slice el => optK (E.ti el) fun et => match Nat.ble 1 et.size with
        | true => match xi.d, ρ x with
          | .int _, .int _ n => tiF et fun _ bytes => Alg.ob (0 ≤ n ∧ n < 2 ^ 62 ∧ n * bytes ≤ 2 ^ 46) fun _ => Alg.ix n fun n => appK et h (ρ s) n (zeroG et.zero) k
          | .int _, _ => fail
          | _, x => srcK h et.size x fun n src => appK et h (ρ s) n src k
        | false => fail
      | _ => fail
    | _, _ => fail
  | _ => fail

inductive Cls where | tmp | rd | al | eff | call | ld | mp | dp
  deriving DecidableEq

def clsB : Builtin → Cls
  | .len => .tmp
  | .max | .min => .tmp
  | _ => .eff

def cls (E : Env) (o : Op) : Cls := match o with
  | .load .. | .lookup .. => .rd
  | .alloc _ | .box .. | .makeMap .. | .buildSlice .. | .makeSlice .. => .al
  | .store .. | .mapUpdate .. | .insert .. | .mapEntry .. | .entryStore .. => .eff
  | .call { callee := .builtin .len, argTypes, .. } => match argTypes[0]? with
    | some t => match E.ti t with
      | some ti => match ti.d with
        | .map _ _ => .rd
        | _ => .tmp
      | none => .eff
    | none => .eff
  | .call { callee := .builtin b, .. } => clsB b
  | .call _ => .call
  | .next .. | .range .. | .entry _ | .go _ | .defer _ | .panic _ | .send .. | .recv .. | .select .. => .eff
  | _ => .tmp

def findM (name : String) : List (String × FuncId × Bool) → Option (FuncId × Bool)
  | [] => none
  | (n, r) :: ms => match n == name with
    | true => some r
    | false => findM name ms

def okF (E : Env) (f : FuncId) : Bool := Nat.ble f 4095 && (E.fns.get (bits 12 f)).isSome

/-- whom a call calls, with what -/
def calleeK (E : Env) (c : Call) (ρ : Operand → V) (h : Heap) (k : FuncId → List V → R) : R :=
  let go (f : FuncId) (as : List V) : R := match okF E f with
    | true => k f as
    | false => fail
  match c.callee with
  | .value (.func f) => mapK ρ c.args.toList fun as => go f as
  | .value x => match ρ x with
    | .fn (.func f) first captured => mapK ρ c.args.toList fun as => go f (first ++ (as ++ captured))
    | _ => fail
  | .invoke r name => match ρ r with
    | .iface t v => optK (E.ti t) fun ti => optK (findM name ti.methods) fun (f, ptr) => mapK ρ c.args.toList fun as =>
      match ti.d with
      | .pointer e => match ptr with
        | true => go f (v :: as)
        | false => optK (E.ti e) fun ei => match aggB ei.d with
          | true => loadK h v ei.size fun cs => go f (.agg cs :: as)
          | false => loadK h v 1 fun
            | [x] => go f (x :: as)
            | _ => fail
      | _ => match ptr with
        | false => go f (v :: as)
        | true => fail
    | _ => fail
  | .builtin _ => fail

def setTmK (fs : Nat) (st : St) (dst : Option Tmp) (v : V) (k : St → R) : R := match st with
  | ⟨t0, hp⟩ => match dst with
    | none => k ⟨t0, hp⟩
    | some d => match Nat.blt d fs && Nat.ble d 511 with
      | true => forceK v fun v => t0.setK (bits 9 d) v fun tm => k ⟨tm, hp⟩
      | false => fail

abbrev CallF (R : Type) := FuncId → List V → Heap → (V → Heap → R) → R
abbrev PureF (R : Type) := FuncId → List V → Heap → Nat → (V → R) → R
inductive Ex where | normal | exit (id : Nat) | goto (l : Nat) | ret
abbrev LoopF (R : Type) := Nat → Code → St → (Ex → St → R) → R

/-- one operation, wanted; 'rid': the id that is kept for what it makes, in a region that draws -/
def evOp (E : Env) (Γ : CallF R) (Γp : PureF R) (fs : Nat) (o : Oper) (rid : Option (Nat × Nat)) (st : St) (k : St → R) : R :=
  match cls E o.op with
  | .tmp => evTmp E o.op (opd st.tm) fun v => setTmK fs st o.dst v k
  | .rd => evRd E o.op (opd st.tm) st.hp fun v => setTmK fs st o.dst v k
  | .al => match rid with
    | none => nxK st.hp fun nx => evAl E o.op (opd st.tm) nx fun v ob => newObK st.hp ob fun _ h' => setTmK fs ⟨st.tm, h'⟩ o.dst v k
    | some (_, id) => match st.hp.get id with
      | some _ => fail
      | none => nxK st.hp fun nx => match Nat.blt id nx with
        | true => evAl E o.op (opd st.tm) id fun v ob => setObK st.hp id ob fun h' => setTmK fs ⟨st.tm, h'⟩ o.dst v k
        | false => fail
  | .eff => evEff E o.op (opd st.tm) st.hp fun v h' => setTmK fs ⟨st.tm, h'⟩ o.dst v k
  | .call => match o.op with
    | .call c => calleeK E c (opd st.tm) st.hp fun f as => match E.pure f with
      | true => Γp f as st.hp (match rid with | none => 65536 | some (b, _) => b) fun v => setTmK fs st o.dst v k
      | false => Γ f as st.hp fun v h' => setTmK fs ⟨st.tm, h'⟩ o.dst v k
    | _ => fail
  | _ => fail

def guardK (all : List Oper) (tm : T V) (g : Option (Nat × Bool)) (yes no : Unit → R) : R := match g with
  | none => yes ()
  | some (j, want) => match all[j]? with
    | some o => match o.dst with
      | some d => match opd tm (.tmp d) with
        | .bool b => match want with
          | true => brK b yes no
          | false => brK b no yes
        | _ => fail
      | none => fail
    | none => fail

def evOps (E : Env) (Γ : CallF R) (Γp : PureF R) (fs : Nat) (all : List Oper) (base : Option Nat) : Nat → List Oper → St → (St → R) → R
  | _, [], st, k => k st
  | i, o :: os, st, k =>
    guardK all st.tm o.guard
      (fun _ => evOp E Γ Γp fs o (base.map fun b => (b, b + i)) st fun st' => evOps E Γ Γp fs all base (i + 1) os st' k)
      (fun _ => setTmK fs st o.dst .junk fun st' => evOps E Γ Γp fs all base (i + 1) os st' k)

/-- the class as far as the order is concerned -/
def clsD (E : Env) (o : Op) : Cls := match cls E o with
  | .call => match o with
    | .call { callee := .value (.func f), .. } => match E.pure f with
      | true => .dp
      | false => .eff
    | _ => .eff
  | .rd => match o with
    | .load .. => .ld
    | _ => .rd
  | .eff => match o with
    | .mapUpdate .. | .insert .. | .mapEntry .. | .entryStore .. => .mp
    | _ => .eff
  | c => c

def readC : Cls → Bool
  | .rd | .ld | .dp | .al => true
  | _ => false

def freeCls : Cls → Cls → Bool
  | .tmp, _ | _, .tmp => true
  | .ld, .mp | .mp, .ld => true
  | a, b => readC a && readC b

/-- as bits, the operations that one waits for -/
def maskOf (acc : List Nat) (o : Oper) : Nat := o.after.toList.foldl (fun s e => match Region.binds .any e with
    | true => s ||| 2 ^ e.on ||| acc.getD e.on 0
    | false => s) 0

def masks : List Oper → List Nat → List Nat
  | [], acc => acc
  | o :: os, acc => masks os (acc ++ [maskOf acc o])

/-- In the order of the text each operation may be taken first: it is ready, and all later ones wait for it or don't mind. -/
def drawFrom (E : Env) (ops : Array Oper) (ms : List Nat) : Nat → Nat → Array Bool → Bool
  | 0, _, listed => (Region.ready .any ops listed).isEmpty
  | n + 1, k, listed => match ops[k]? with
    | some o =>
      (Region.ready .any ops listed).contains k &&
      ((List.range ops.size).all fun j => Nat.ble j k || match ops[j]? with
        | some oj => (ms.getD j 0).testBit k || (o.apart ops oj && freeCls (clsD E o.op) (clsD E oj.op))
        | none => true) &&
      drawFrom E ops ms n (k + 1) (listed.setIfInBounds k true)
    | none => false

def drawOK (E : Env) (ops : Array Oper) : Bool :=
  (ops.all fun o => match o.op with | .select .. => false | _ => true) && drawFrom E ops (masks ops.toList []) ops.size 0 (Array.replicate ops.size false)

def ev (E : Env) (Γ : CallF R) (Γp : PureF R) (LH : LoopF R) (fs : Nat) : Code → St → (Ex → St → R) → R
  | .skip, st, k => k .normal st
  | .label _, st, k => k .normal st
  | .region _ ops false, st, k => evOps E Γ Γp fs ops.toList none 0 ops.toList st (k .normal)
  | .region _ ops true, st, k => Alg.ob (drawOK E ops = true) fun _ => nxK st.hp fun nx => evOps E Γ Γp fs ops.toList (some nx) 0 ops.toList ⟨st.tm, ⟨st.hp.ob, nx + ops.size⟩⟩ (k .normal)
  | .seq a b, st, k => ev E Γ Γp LH fs a st fun e s => match e with
    | .normal => ev E Γ Γp LH fs b s k
    | .exit i => k (.exit i) s
    | .goto i => k (.goto i) s
    | .ret => k .ret s
  | .cond c a b, st, k => match opd st.tm c with
    | .bool g => brK g (fun _ => ev E Γ Γp LH fs a st k) fun _ => ev E Γ Γp LH fs b st k
    | _ => fail
  | .block id c, st, k => ev E Γ Γp LH fs c st fun e s => match e with
    | .exit i => match Nat.beq i id with
      | true => k .normal s
      | false => k (.exit i) s
    | .normal => k .normal s
    | .goto i => k (.goto i) s
    | .ret => k .ret s
  | .loop c, st, k => LH fs c st k
  | .exit id, st, k => k (.exit id) st
  | .goto l, st, k => k (.goto l) st
  | .ret, st, k => k .ret st
  | _, _, _ => fail

def resK (E : Env) (st : St) : List ResultVar → (List V → R) → R
  | [], k => k []
  | .tmp t :: rs, k => resK E st rs fun r => k (opd st.tm (.tmp t) :: r)
  | .cell a t :: rs, k => optK (E.ti t) fun ti => loadK st.hp (opd st.tm (.tmp a)) (match aggB ti.d with | true => ti.size | false => 1) fun cs =>
    match aggB ti.d, cs with
    | true, cs => resK E st rs fun r => k (.agg cs :: r)
    | false, [v] => resK E st rs fun r => k (v :: r)
    | false, _ => fail

def argsK : Nat → List V → T V → (T V → R) → R
  | _, [], t, k => k t
  | i, v :: vs, t, k => t.setK (bits 9 i) v fun t' => argsK (i + 1) vs t' k

/-- a call's body -/
def bodyK (E : Env) (Γ : CallF R) (Γp : PureF R) (LH : LoopF R) (fn : Func) (args : List V) (h : Heap) (k : V → Heap → R) : R :=
  match fn.body with
  | none => fail
  | some c => match Nat.ble args.length fn.ntmps && Nat.ble args.length 511 with
    | true => argsK 0 args .nil fun tm => ev E Γ Γp LH fn.ntmps c ⟨tm, h⟩ fun e st => match e with
      | .normal | .ret => resK E st fn.results.toList fun
        | [v] => k v st.hp
        | vs => k (.tup vs) st.hp
      | _ => fail
    | false => fail

/- runs with fuel -/
def loopF (E : Env) (Γ : CallF R) (Γp : PureF R) : Nat → LoopF R
  | 0, _, _, _, _ => fail
  | n + 1, fs, c, st, k => ev E Γ Γp (loopF E Γ Γp n) fs c st fun e s => match e with
    | .normal => loopF E Γ Γp n fs c s k
    | .exit i => k (.exit i) s
    | .goto i => k (.goto i) s
    | .ret => k .ret s

def pureB : Nat → V → Bool
  | _, .bool _ | _, .int _ _ | _, .str _ | _, .lit _ => true
  | n + 1, .agg cs => cs.all (pureB n)
  | n + 1, .tup cs => cs.all (pureB n)
  | _, _ => false

/-- a call whose arguments, and answer, are plain: run over no memory -/
def plainF (Γ : CallF R) : PureF R := fun f args _ _ k => match args.all (pureB 3) with
  | true => Γ f args ⟨.nil, 0⟩ fun v _ => match pureB 3 v with
    | true => k v
    | false => fail
  | false => fail

def runF (E : Env) (L : Nat) : Nat → CallF R
  | 0, _, _, _, _ => fail
  | n + 1, f, args, h, k => optK (E.fns.get (bits 12 f)) fun fn =>
    match Nat.ble f 4095 with
    | true => bodyK E (runF E L n) (plainF (runF E L n)) (loopF E (runF E L n) (plainF (runF E L n)) L) fn args h k
    | false => fail

end Go.Ab
