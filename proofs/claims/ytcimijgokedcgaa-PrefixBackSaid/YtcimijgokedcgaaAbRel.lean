/- What an abstract state says of a world. Own work. -/
import Derived.Test.YtcimijgokedcgaaAbCode
set_option linter.unusedVariables false
set_option linter.unusedSimpArgs false
set_option linter.unusedSectionVars false
namespace Go.Ab
open Go Go.RowKit

inductive Pl where
  | row (b n : Nat)
  | buf (b base ext cap sz : Nat)
  | map (r : Nat)
  | iter (r : Nat)

def Pl.owns : Pl → Nat → Prop
  | .row b _, x => b = x
  | .buf b _ _ cap sz, x => 0 < cap * sz ∧ b = x
  | .map r, x => r = x
  | .iter r, x => r = x

structure Cfg where
  pl : Nat → Option Pl
  w : World
  imm : Nat → Prop

def Cfg.owned (c : Cfg) (b : Nat) : Prop := ∃ id p, c.pl id = some p ∧ p.owns b

def Cfg.ok (c : Cfg) : Prop := ∀ b, c.imm b → b < c.w.heap.size ∧ ¬ c.owned b

def Pl.le : Pl → Pl → Prop
  | .row b n, q => q = .row b n
  | .buf b base ext cap sz, q => ∃ b' base' ext' cap' sz', q = .buf b' base' ext' cap' sz' ∧ ext ≤ ext' ∧ (ext = ext' → b' = b ∧ base' = base ∧ cap' = cap ∧ sz' = sz)
  | .map r, q => q = .map r
  | .iter r, q => q = .iter r

theorem Pl.le_refl (p : Pl) : p.le p := by
  cases p with
  | buf b base ext cap sz => exact ⟨b, base, ext, cap, sz, rfl, Nat.le_refl _, fun _ => ⟨rfl, rfl, rfl, rfl⟩⟩
  | _ => rfl

theorem Pl.le_trans {p q r : Pl} (h : p.le q) (k : q.le r) : p.le r := by
  cases p with
  | row => simp only [Pl.le] at h; subst h; exact k
  | map => simp only [Pl.le] at h; subst h; exact k
  | iter => simp only [Pl.le] at h; subst h; exact k
  | buf b base ext cap sz =>
    simp only [Pl.le] at h
    obtain ⟨b', base', ext', cap', sz', rfl, h1, h2⟩ := h
    simp only [Pl.le] at k
    obtain ⟨b2, base2, ext2, cap2, sz2, rfl, k1, k2⟩ := k
    refine ⟨b2, base2, ext2, cap2, sz2, rfl, by omega, fun e => ?_⟩
    have e1 : ext = ext' := by omega
    have e2 : ext' = ext2 := by omega
    obtain ⟨rfl, rfl, rfl, rfl⟩ := h2 e1
    obtain ⟨rfl, rfl, rfl, rfl⟩ := k2 e2
    exact ⟨rfl, rfl, rfl, rfl⟩

inductive Pure : V → Prop
  | bool (b) : Pure (.bool b)
  | int (k n) : Pure (.int k n)
  | str (s) : Pure (.str s)
  | lit (v) : Pure (.lit v)
  | junk : Pure .junk
  | iptr {n sz get i j} : (∀ a b, Pure (get a b)) → Pure (.iptr n sz get i j)
  | isl {n sz get} : (∀ a b, Pure (get a b)) → Pure (.isl n sz get)
  | fn {f fs cs} : (∀ v, v ∈ fs → Pure v) → (∀ v, v ∈ cs → Pure v) → Pure (.fn f fs cs)
  | iface {t v} : Pure v → Pure (.iface t v)
  | agg {cs} : (∀ v, v ∈ cs → Pure v) → Pure (.agg cs)
  | tup {cs} : (∀ v, v ∈ cs → Pure v) → Pure (.tup cs)

inductive VR (c : Cfg) : V → Value → Prop
  | bool (b) : VR c (.bool b) (.bool b)
  | int (k n) : VR c (.int k n) (.int k n)
  | str (s) : VR c (.str s) (.string s)
  | lit (v) : VR c (.lit v) v
  | junk (x) : VR c .junk x
  | ptr {id off b n} : c.pl id = some (.row b n) → VR c (.ptr id off) (.pointer (some ⟨b, off, none⟩))
  | bptr {id ext sz i j b base ext' cap sz'} {a : Addr} : c.pl id = some (.buf b base ext' cap sz') → ext ≤ ext' → a.spot = none →
      (ext = ext' → sz = sz' ∧ a = ⟨b, base + i * sz + j, none⟩) → VR c (.bptr id ext sz i j) (.pointer (some a))
  | bv {id ext sz lo len capo b base ext' cp sz'} {a : Option Addr} {cap' : Nat} : c.pl id = some (.buf b base ext' cp sz') → ext ≤ ext' →
      lo + len ≤ ext → len ≤ cap' → (∀ cc, capo = some cc → cap' = cc) → (0 < cap' → ∃ a0, a = some a0 ∧ a0.spot = none) →
      (ext = ext' → sz = sz' ∧ lo + cap' ≤ cp ∧ (capo = none → lo + cap' = cp) ∧ (0 < cap' * sz → a = some ⟨b, base + lo * sz, none⟩)) →
      VR c (.bv id ext sz lo len capo) (.slice a len cap')
  | av {id off len cap sz b n a} : c.pl id = some (.row b n) → len ≤ cap → (0 < cap → a = some ⟨b, off, none⟩) →
      VR c (.av id off len cap sz) (.slice a len cap)
  | map {id r} : c.pl id = some (.map r) → VR c (.map id) (.map (some r))
  | iter {id r} : c.pl id = some (.iter r) → VR c (.iter id) (.pointer (some ⟨r, 0, none⟩))
  | iptr {n sz get i j b base arr el fr} : c.imm b → c.w.heap[b]? = some (.cells arr el fr) → base + n * sz ≤ arr.size →
      (∀ a b', a < n → b' < sz → VR c (get a b') (arr.getD (base + a * sz + b') undef)) → (∀ a b', Pure (get a b')) →
      VR c (.iptr n sz get i j) (.pointer (some ⟨b, base + i * sz + j, none⟩))
  | isl0 {sz get a cap} : VR c (.isl 0 sz get) (.slice a 0 cap)
  | isl {len sz get b base cap arr el fr} : c.imm b → c.w.heap[b]? = some (.cells arr el fr) → base + len * sz ≤ arr.size →
      (∀ a b', a < len → b' < sz → VR c (get a b') (arr.getD (base + a * sz + b') undef)) → (∀ a b', Pure (get a b')) → len ≤ cap →
      VR c (.isl len sz get) (.slice (some ⟨b, base, none⟩) len cap)
  | fn {f} {fs cs : List V} {fs' cs' : Array Value} : fs.length = fs'.size → (∀ i, i < fs.length → VR c (fs.getD i .junk) (fs'.getD i undef)) →
      cs.length = cs'.size → (∀ i, i < cs.length → VR c (cs.getD i .junk) (cs'.getD i undef)) → VR c (.fn f fs cs) (.func f fs' cs')
  | iface {t v x} : VR c v x → VR c (.iface t v) (.iface t x)
  | agg {cs : List V} {cs' : Array Value} : cs.length = cs'.size → (∀ i, i < cs.length → VR c (cs.getD i .junk) (cs'.getD i undef)) → VR c (.agg cs) (.agg cs')
  | tup {cs : List V} {cs' : Array Value} : cs.length = cs'.size → (∀ i, i < cs.length → VR c (cs.getD i .junk) (cs'.getD i undef)) → VR c (.tup cs) (.tuple cs')

/-- a row of values -/
def VRs (c : Cfg) (vs : List V) (xs : Array Value) : Prop := vs.length = xs.size ∧ ∀ i, i < vs.length → VR c (vs.getD i .junk) (xs.getD i undef)

structure Ext (c c' : Cfg) : Prop where
  size : c.w.heap.size ≤ c'.w.heap.size
  imm : ∀ b, c.imm b → c'.imm b
  pl : ∀ id p, c.pl id = some p → ∃ p', c'.pl id = some p' ∧ p.le p'
  frame : ∀ b, b < c.w.heap.size → ¬ c.owned b → c'.w.heap[b]? = c.w.heap[b]?
  own : ∀ b, c'.owned b → c.owned b ∨ c.w.heap.size ≤ b
  os : c'.w.os = c.w.os
  tape : c'.w.tape = c.w.tape
  output : c'.w.output = c.w.output
  immo : ∀ b, c'.imm b → c.imm b ∨ c.owned b ∨ c.w.heap.size ≤ b

theorem Ext.refl (c : Cfg) : Ext c c := ⟨Nat.le_refl _, fun _ h => h, fun _ p h => ⟨p, h, p.le_refl⟩, fun _ _ _ => rfl, fun _ h => .inl h, rfl, rfl, rfl, fun _ h => .inl h⟩

theorem Ext.trans {a b c : Cfg} (h : Ext a b) (k : Ext b c) : Ext a c where
  size := Nat.le_trans h.size k.size
  imm x hx := k.imm x (h.imm x hx)
  pl id p hp := let ⟨q, hq, l⟩ := h.pl id p hp; let ⟨r, hr, l'⟩ := k.pl id q hq; ⟨r, hr, Pl.le_trans l l'⟩
  frame x hx ho := by
    rw [k.frame x (Nat.lt_of_lt_of_le hx h.size) ?_, h.frame x hx ho]
    intro hb
    rcases h.own x hb with h1 | h1
    · exact ho h1
    · omega
  own x hx := by
    rcases k.own x hx with h1 | h1
    · exact h.own x h1
    · exact .inr (Nat.le_trans h.size h1)
  os := k.os.trans h.os
  tape := k.tape.trans h.tape
  output := k.output.trans h.output
  immo x hx := by
    rcases k.immo x hx with h1 | h1 | h1
    · exact h.immo x h1
    · rcases h.own x h1 with h2 | h2
      · exact .inr (.inl h2)
      · exact .inr (.inr h2)
    · exact .inr (.inr (Nat.le_trans h.size h1))

theorem VR.mono {c c' : Cfg} (hc : c.ok) (h : Ext c c') {v : V} {x : Value} (hv : VR c v x) : VR c' v x := by
  induction hv with
  | bool => exact .bool _
  | int => exact .int _ _
  | str => exact .str _
  | lit => exact .lit _
  | junk => exact .junk _
  | ptr hp =>
    obtain ⟨q, hq, l⟩ := h.pl _ _ hp
    simp only [Pl.le] at l; subst l
    exact .ptr hq
  | bptr hp he hs hx =>
    obtain ⟨q, hq, l⟩ := h.pl _ _ hp
    simp only [Pl.le] at l
    obtain ⟨b', base', ext', cap', sz', rfl, l1, l2⟩ := l
    refine .bptr hq (by omega) hs fun e => ?_
    obtain ⟨rfl, rfl, rfl, rfl⟩ := l2 (by omega)
    exact hx (by omega)
  | bv hp he h1 h2 h3 h4 hx =>
    obtain ⟨q, hq, l⟩ := h.pl _ _ hp
    simp only [Pl.le] at l
    obtain ⟨b', base', ext', cap', sz', rfl, l1, l2⟩ := l
    refine .bv hq (by omega) h1 h2 h3 h4 fun e => ?_
    obtain ⟨rfl, rfl, rfl, rfl⟩ := l2 (by omega)
    exact hx (by omega)
  | av hp h2 h3 =>
    obtain ⟨q, hq, l⟩ := h.pl _ _ hp
    simp only [Pl.le] at l; subst l
    exact .av hq h2 h3
  | map hp =>
    obtain ⟨q, hq, l⟩ := h.pl _ _ hp
    simp only [Pl.le] at l; subst l
    exact .map hq
  | iter hp =>
    obtain ⟨q, hq, l⟩ := h.pl _ _ hp
    simp only [Pl.le] at l; subst l
    exact .iter hq
  | iptr hi hb hs _ hpu ih =>
    exact .iptr (h.imm _ hi) (by rw [h.frame _ (hc _ hi).1 (hc _ hi).2]; exact hb) hs ih hpu
  | isl0 => exact .isl0
  | isl hi hb hs _ hpu hl ih =>
    exact .isl (h.imm _ hi) (by rw [h.frame _ (hc _ hi).1 (hc _ hi).2]; exact hb) hs ih hpu hl
  | fn h1 _ h2 _ ih1 ih2 => exact .fn h1 ih1 h2 ih2
  | iface _ ih => exact .iface ih
  | agg h1 _ ih => exact .agg h1 ih
  | tup h1 _ ih => exact .tup h1 ih

theorem VRs.mono {c c' : Cfg} (hc : c.ok) (h : Ext c c') {v : List V} {x : Array Value} (hv : VRs c v x) : VRs c' v x :=
  ⟨hv.1, fun i hi => (hv.2 i hi).mono hc h⟩

/-- a map's key as a value -/
def keyL : List Value → Option (List Nat × List Int)
  | [] => some ([], [])
  | .int k n :: cs => match keyL cs with
    | some (s, l) => some (ikIdx k :: s, n :: l)
    | none => none
  | _ => none

def keyV : Value → Option (List Nat × List Int)
  | .int k n => some ([ikIdx k], [n])
  | .agg cs => match keyL cs.toList with
    | some (s, l) => some (8 :: 8 :: s, l)
    | none => none
  | _ => none

def ME.rel (c : Cfg) (e : ME) (x : MapEntry) : Prop := keyV x.key = some (e.sig, e.key) ∧ VR c e.val x.val ∧ e.born = x.born

inductive OR (c : Cfg) : Ob → Pl → Prop
  | cells {cs : List V} {b arr el} : c.w.heap[b]? = some (.cells arr el (0, 0)) → VRs c cs arr → OR c (.cells cs) (.row b cs.length)
  | buf {ext sz get b base cap} : ext ≤ cap →
      (0 < cap * sz → ∃ arr el, c.w.heap[b]? = some (.cells arr el (0, 0)) ∧ base + cap * sz ≤ arr.size ∧
        ∀ i j, i < ext → j < sz → VR c (get i j) (arr.getD (base + i * sz + j) undef)) → OR c (.buf ext sz get) (.buf b base ext cap sz)
  | map {es : List ME} {clock r} {arr : Array MapEntry} : c.w.heap[r]? = some (.map arr clock) → es.length = arr.size →
      (∀ i (h : i < es.length) (h' : i < arr.size), ME.rel c es[i] arr[i]) → OR c (.map es clock) (.map r)

theorem OR.mono {c c' : Cfg} (hc : c.ok) (h : Ext c c') {o : Ob} {p : Pl} (hb : ∀ b, p.owns b → c'.w.heap[b]? = c.w.heap[b]?) (ho : OR c o p) : OR c' o p := by
  cases ho with
  | cells h1 h2 => exact .cells (by rw [hb _ rfl]; exact h1) (h2.mono hc h)
  | buf h1 h2 =>
    refine .buf h1 fun h0 => ?_
    obtain ⟨arr, el, h3, h4, h5⟩ := h2 h0
    exact ⟨arr, el, by rw [hb _ ⟨h0, rfl⟩]; exact h3, h4, fun i j hi hj => (h5 i j hi hj).mono hc h⟩
  | map h1 h2 h3 =>
    exact .map (by rw [hb _ rfl]; exact h1) h2 fun i hi hi' => ⟨(h3 i hi hi').1, (h3 i hi hi').2.1.mono hc h, (h3 i hi hi').2.2⟩

structure HRel (h : Heap) (c : Cfg) : Prop where
  ok : c.ok
  there : ∀ id p, c.pl id = some p → ∃ o, h.get id = some o ∧ OR c o p
  back : ∀ id o, id < 65536 → h.get id = some o → ∃ p, c.pl id = some p
  inj : ∀ i j p q b, c.pl i = some p → c.pl j = some q → p.owns b → q.owns b → i = j
  lt : ∀ b, c.owned b → b < c.w.heap.size
  nx : ∀ id p, c.pl id = some p → id < h.nx ∧ id < 65536

/-- One object is new, or other; the world is another one in its block, or in a new one. -/
theorem HRel.step {h h' : Heap} {c c' : Cfg} {id : Nat} {p : Pl} {o : Ob} (H : HRel h c) (hid : id < 65536)
    (hpl : c'.pl = fun i => if i = id then some p else c.pl i) (himm : c'.imm = c.imm)
    (hext : Ext c c') (hoth : ∀ i q b, i ≠ id → c.pl i = some q → q.owns b → c'.w.heap[b]? = c.w.heap[b]?)
    (hown : ∀ b, p.owns b → b < c'.w.heap.size ∧ ((∃ q, c.pl id = some q ∧ q.owns b) ∨ c.w.heap.size ≤ b))
    (hget : h'.get id = some o) (hgeto : ∀ i, i < 65536 → i ≠ id → h'.get i = h.get i) (hnx : h.nx ≤ h'.nx) (hnx' : id < h'.nx)
    (hor : OR c' o p) : HRel h' c' where
  ok b hb := by
    rw [himm] at hb
    have hb' := H.ok b hb
    refine ⟨Nat.lt_of_lt_of_le hb'.1 hext.size, fun ho => ?_⟩
    rcases hext.own b ho with h1 | h1
    · exact hb'.2 h1
    · omega
  there i q hq := by
    rw [hpl] at hq
    by_cases e : i = id
    · subst e
      simp only [if_true, Option.some.injEq] at hq
      subst hq
      exact ⟨o, hget, hor⟩
    · simp only [e, if_false] at hq
      obtain ⟨o', h1, h2⟩ := H.there i q hq
      exact ⟨o', by rw [hgeto i (H.nx i q hq).2 e]; exact h1, h2.mono H.ok hext fun b hb => hoth i q b e hq hb⟩
  back i o' hi hg := by
    rw [hpl]
    by_cases e : i = id
    · exact ⟨p, by simp [e]⟩
    · rw [hgeto i hi e] at hg
      obtain ⟨q, hq⟩ := H.back i o' hi hg
      exact ⟨q, by simp [e, hq]⟩
  inj i j q r b hi hj hqb hrb := by
    have other : ∀ (k : Nat) (s : Pl), k ≠ id → c.pl k = some s → s.owns b → p.owns b → False := by
      intro k s hk hs hsb hpb
      rcases (hown b hpb).2 with ⟨q0, h1, h2⟩ | h1
      · exact hk (H.inj k id s q0 b hs h1 hsb h2)
      · have := H.lt b ⟨k, s, hs, hsb⟩; omega
    rw [hpl] at hi hj
    by_cases e1 : i = id <;> by_cases e2 : j = id
    · rw [e1, e2]
    · simp only [e1, if_true, Option.some.injEq] at hi
      simp only [e2, if_false] at hj
      subst hi
      exact (other j r e2 hj hrb hqb).elim
    · simp only [e1, if_false] at hi
      simp only [e2, if_true, Option.some.injEq] at hj
      subst hj
      exact (other i q e1 hi hqb hrb).elim
    · simp only [e1, if_false] at hi
      simp only [e2, if_false] at hj
      exact H.inj i j q r b hi hj hqb hrb
  lt b hb := by
    obtain ⟨i, q, hq, hqb⟩ := hb
    rw [hpl] at hq
    by_cases e : i = id
    · simp only [e, if_true, Option.some.injEq] at hq
      subst hq
      exact (hown b hqb).1
    · simp only [e, if_false] at hq
      exact Nat.lt_of_lt_of_le (H.lt b ⟨i, q, hq, hqb⟩) hext.size
  nx i q hq := by
    rw [hpl] at hq
    by_cases e : i = id
    · subst e; exact ⟨hnx', hid⟩
    · simp only [e, if_false] at hq
      exact ⟨Nat.lt_of_lt_of_le (H.nx i q hq).1 hnx, (H.nx i q hq).2⟩

theorem Heap.get_set_self (h : Heap) (id nx : Nat) (o : Ob) : (Heap.mk (h.ob.set (bits 16 id) o) nx).get id = some o := T.get_set_self _ _ _

theorem Heap.get_set_ne (h : Heap) (id i nx : Nat) (o : Ob) (hid : id < 65536) (hi : i < 65536) (e : i ≠ id) :
    (Heap.mk (h.ob.set (bits 16 id) o) nx).get i = h.get i :=
  T.get_set_ne _ _ _ (fun hb => e (bits_inj 16 _ _ hid hi hb).symm) (by simp [bits_length]) _

end Go.Ab
