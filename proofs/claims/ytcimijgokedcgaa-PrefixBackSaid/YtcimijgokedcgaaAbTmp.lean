/- Operations that ask no heap: what the generator says of them holds. Own work. -/
import Derived.IntWalk
import Derived.Test.YtcimijgokedcgaaAbRel
import Derived.Laws.StructEq
set_option linter.unusedVariables false
set_option linter.unusedSimpArgs false
set_option linter.unusedSectionVars false
namespace Go.Ab
open Go Go.RowKit

/-- a type that is built of numbers -/
def FlatP (P : Program) (t : TypeId) (n : Nat) : Prop :=
  (n = 1 ∧ ∃ k, P.underlying t = some (.int k)) ∨
  (∃ fs : Array Field, n = fs.size + 2 ∧ P.underlying t = some (.struct fs) ∧ P.stoodInHeld t = false ∧ P.eqGuardType P.depth t = false ∧
    ∀ i (h : i < fs.size), fs[i].name ≠ "_" ∧ fs[i].offset = i ∧ ∃ k, P.underlying fs[i].type = some (.int k)) ∨
  (∃ (m : Nat) (e : TypeId), n = m + 2 ∧ P.underlying t = some (.array m e) ∧ (∃ k, P.underlying e = some (.int k)) ∧ (∃ i, P.info? e = some i ∧ i.size = 1) ∧ P.eqGuardType P.depth t = false)

structure TyOK (P : Program) (t : TypeId) (ti : TI) : Prop where
  und : P.underlying t = some ti.d
  info : ∃ i z, P.info? t = some i ∧ i.size = ti.size ∧ i.bytes = ti.bytes ∧ i.zero = some z ∧ (∀ c, VRs c ti.zero z.cells) ∧
    ((aggB ti.d = true → z = .agg z.cells) ∧ (aggB ti.d = false → z.cells = #[z])) ∧ ti.zero.length = ti.size
  flat : ti.flat = 0 ∨ FlatP P t ti.flat
  meth : ∀ i, P.info? t = some i → ∀ name f ptr, findM name ti.methods = some (f, ptr) → ∃ m, i.methods.find? (·.name == name) = some m ∧ m.path = #[] ∧ m.func = some (f, ptr)

structure EnvOK (P : Program) (E : Env) : Prop where
  ty : ∀ t ti, E.ti t = some ti → TyOK P t ti
  fns : ∀ (f : Nat) fn, f < 4096 → E.fns.get (bits 12 f) = some fn → P.funcs[f]? = some fn ∧ fn.body.isSome = true ∧ (fn.name == "runtime.NumGoroutine") = false
  wide : P.follows .mixedOrders = true

section
variable {R : Type} [Alg R] {P : Program} {E : Env}

theorem holds_optK {α : Type} {o : Option α} {k : α → R} (h : Alg.holds (optK o k)) : ∃ a, o = some a ∧ Alg.holds (k a) := by
  cases o with
  | none => exact absurd h Alg.holds_fail
  | some a => exact ⟨a, rfl, h⟩

theorem no_fail {p : Prop} (h : Alg.holds (fail : R)) : p := absurd h Alg.holds_fail

theorem TyOK.run {t : TypeId} {ti : TI} (h : TyOK P t ti) (w : World) : (underlying t).run P w = .ok ti.d w := by
  simp [underlying, h.und]
theorem TyOK.size {t : TypeId} {ti : TI} (h : TyOK P t ti) (w : World) : (sizeOf t).run P w = .ok ti.size w := by
  obtain ⟨i, z, h1, h2, _⟩ := h.info
  simp [sizeOf, typeInfo, h1, h2]
theorem TyOK.agg {t : TypeId} {ti : TI} (h : TyOK P t ti) (w : World) : (isAgg t).run P w = .ok (aggB ti.d) w := by
  simp only [isAgg, Sem.run_bind, h.run, Result.andThen_ok]
  cases ti.d <;> rfl

/-- What an operation that asks no heap yields. -/
def TmpTo (P : Program) (op : Op) (ρ : Operand → V) (v : V) : Prop :=
  ∀ (c : Cfg) (ρ' : Operand → Value) (o : Oper), o.op = op → (∀ x ∈ op.operands, VR c (ρ x) (ρ' x)) →
    ∃ v', (∀ w, (execOp ρ' o).run P w = .ok (.value v') w) ∧ VR c v v'

theorem VR.int_inv {c : Cfg} {k : IntKind} {n : Int} {x : Value} (h : VR c (.int k n) x) : x = .int k n := by cases h; rfl
theorem VR.bool_inv {c : Cfg} {b : Bool} {x : Value} (h : VR c (.bool b) x) : x = .bool b := by cases h; rfl
theorem VR.str_inv {c : Cfg} {s : ByteArray} {x : Value} (h : VR c (.str s) x) : x = .string s := by cases h; rfl
theorem VR.lit_inv {c : Cfg} {v x : Value} (h : VR c (.lit v) x) : x = v := by cases h; rfl

theorem VR.agg_inv {c : Cfg} {cs : List V} {x : Value} (h : VR c (.agg cs) x) : ∃ xs, x = .agg xs ∧ VRs c cs xs := by
  cases h with | agg h1 h2 => exact ⟨_, rfl, h1, h2⟩
theorem VR.tup_inv {c : Cfg} {cs : List V} {x : Value} (h : VR c (.tup cs) x) : ∃ xs, x = .tuple xs ∧ VRs c cs xs := by
  cases h with | tup h1 h2 => exact ⟨_, rfl, h1, h2⟩

theorem VR.ptr_inv {c : Cfg} {id off : Nat} {x : Value} (h : VR c (.ptr id off) x) : ∃ b n, c.pl id = some (.row b n) ∧ x = .pointer (some ⟨b, off, none⟩) := by
  cases h with | ptr hp => exact ⟨_, _, hp, rfl⟩
theorem VR.bptr_inv {c : Cfg} {id ext sz i j : Nat} {x : Value} (h : VR c (.bptr id ext sz i j) x) : ∃ a b base ext' cap sz', c.pl id = some (.buf b base ext' cap sz') ∧ ext ≤ ext' ∧ a.spot = none ∧
    (ext = ext' → sz = sz' ∧ a = ⟨b, base + i * sz + j, none⟩) ∧ x = .pointer (some a) := by
  cases h with | bptr h1 h2 h3 h4 => exact ⟨_, _, _, _, _, _, h1, h2, h3, h4, rfl⟩
theorem VR.iptr_inv {c : Cfg} {n sz i j : Nat} {get : Nat → Nat → V} {x : Value} (h : VR c (.iptr n sz get i j) x) : ∃ b base arr el fr, c.imm b ∧ c.w.heap[b]? = some (.cells arr el fr) ∧ base + n * sz ≤ arr.size ∧
    (∀ a b', a < n → b' < sz → VR c (get a b') (arr.getD (base + a * sz + b') undef)) ∧ (∀ a b', Pure (get a b')) ∧ x = .pointer (some ⟨b, base + i * sz + j, none⟩) := by
  cases h with | iptr h1 h2 h3 h4 h5 => exact ⟨_, _, _, _, _, h1, h2, h3, h4, h5, rfl⟩
theorem VR.bv_inv {c : Cfg} {id ext sz lo len : Nat} {capo : Option Nat} {x : Value} (h : VR c (.bv id ext sz lo len capo) x) : ∃ (a : Option Addr) (cap' b base ext' cp sz' : Nat),
    c.pl id = some (.buf b base ext' cp sz') ∧ ext ≤ ext' ∧ lo + len ≤ ext ∧ len ≤ cap' ∧ (∀ cc, capo = some cc → cap' = cc) ∧ (0 < cap' → ∃ a0, a = some a0 ∧ a0.spot = none) ∧
    (ext = ext' → sz = sz' ∧ lo + cap' ≤ cp ∧ (capo = none → lo + cap' = cp) ∧ (0 < cap' * sz → a = some ⟨b, base + lo * sz, none⟩)) ∧ x = .slice a len cap' := by
  cases h with | bv h1 h2 h3 h4 h5 h6 h7 => exact ⟨_, _, _, _, _, _, _, h1, h2, h3, h4, h5, h6, h7, rfl⟩
theorem VR.av_inv {c : Cfg} {id off len cap sz : Nat} {x : Value} (h : VR c (.av id off len cap sz) x) : ∃ b n a, c.pl id = some (.row b n) ∧ len ≤ cap ∧ (0 < cap → a = some ⟨b, off, none⟩) ∧ x = .slice a len cap := by
  cases h with | av h1 h2 h3 => exact ⟨_, _, _, h1, h2, h3, rfl⟩
theorem VR.isl_inv {c : Cfg} {len sz : Nat} {get : Nat → Nat → V} {x : Value} (h : VR c (.isl len sz get) x) : ∃ a cap, x = .slice a len cap ∧ len ≤ cap ∧
    (0 < len → ∃ b base arr el fr, a = some ⟨b, base, none⟩ ∧ c.imm b ∧ c.w.heap[b]? = some (.cells arr el fr) ∧ base + len * sz ≤ arr.size ∧
      (∀ a b', a < len → b' < sz → VR c (get a b') (arr.getD (base + a * sz + b') undef)) ∧ (∀ a b', Pure (get a b'))) := by
  cases h with
  | isl0 => exact ⟨_, _, rfl, Nat.zero_le _, fun h => absurd h (by omega)⟩
  | isl h1 h2 h3 h4 h5 h6 => exact ⟨_, _, rfl, h6, fun _ => ⟨_, _, _, _, _, rfl, h1, h2, h3, h4, h5⟩⟩
theorem VR.map_inv {c : Cfg} {id : Nat} {x : Value} (h : VR c (.map id) x) : ∃ r, c.pl id = some (.map r) ∧ x = .map (some r) := by
  cases h with | map hp => exact ⟨_, hp, rfl⟩
theorem VR.fn_inv {c : Cfg} {f : Fn} {fs cs : List V} {x : Value} (h : VR c (.fn f fs cs) x) : ∃ fs' cs', x = .func f fs' cs' ∧ VRs c fs fs' ∧ VRs c cs cs' := by
  cases h with | fn h1 h2 h3 h4 => exact ⟨_, _, rfl, ⟨h1, h2⟩, ⟨h3, h4⟩⟩
theorem VR.iface_inv {c : Cfg} {t : TypeId} {v : V} {x : Value} (h : VR c (.iface t v) x) : ∃ y, x = .iface t y ∧ VR c v y := by
  cases h with | iface h => exact ⟨_, rfl, h⟩

theorem VRs.get {c : Cfg} {cs : List V} {xs : Array Value} (h : VRs c cs xs) {i : Nat} {v : V} (hi : cs[i]? = some v) : ∃ x, xs[i]? = some x ∧ VR c v x := by
  have hlt : i < cs.length := by
    rcases Nat.lt_or_ge i cs.length with h' | h'
    · exact h'
    · rw [List.getElem?_eq_none h'] at hi; cases hi
  have := h.2 i hlt
  have hx : i < xs.size := by rw [← h.1]; exact hlt
  refine ⟨xs[i], by simp [hx], ?_⟩
  simp only [List.getD_eq_getElem?_getD, hi, Option.getD_some] at this
  simpa [Array.getD, hx] using this

theorem takeK_holds {n : Nat} : ∀ {l : List V} {k : List V → R}, Alg.holds (takeK n l k) → n ≤ l.length ∧ Alg.holds (k (l.take n)) := by
  induction n with
  | zero => intro l k h; exact ⟨Nat.zero_le _, by simpa [takeK] using h⟩
  | succ n ih =>
    intro l k h
    cases l with
    | nil => exact no_fail h
    | cons x xs =>
      obtain ⟨h1, h2⟩ := ih (by simpa [takeK] using h)
      exact ⟨by simp; omega, by simpa using h2⟩

theorem VRs.sub {c : Cfg} {cs : List V} {xs : Array Value} (h : VRs c cs xs) (off n : Nat) (hl : off + n ≤ cs.length) :
    VRs c ((cs.drop off).take n) (xs.extract off (off + n)) := by
  have h1 := h.1
  refine ⟨by simp; omega, fun i hi => ?_⟩
  have hi' : i < n := by simp at hi; omega
  have := h.2 (off + i) (by omega)
  have hx : off + i < xs.size := by omega
  have e1 : ((cs.drop off).take n).getD i .junk = cs.getD (off + i) .junk := by
    simp [List.getD_eq_getElem?_getD, hi']
  have e2 : (xs.extract off (off + n)).getD i undef = xs.getD (off + i) undef := by
    have h3 : i < min (off + n) xs.size - off := by omega
    simp [Array.getD, h3, hx]
  rw [e1, e2]; exact this

theorem part_sound (hE : EnvOK P E) {t : TypeId} {cs : List V} {off : Nat} {k : V → R} (h : Alg.holds (partK E t cs off k)) :
    ∃ v, Alg.holds (k v) ∧ ∀ c xs, VRs c cs xs → ∃ x, (∀ w, (part t xs off).run P w = .ok x w) ∧ VR c v x := by
  obtain ⟨ti, hti, h⟩ := holds_optK h
  have ht := hE.ty t ti hti
  cases ha : aggB ti.d with
  | true =>
    simp only [ha] at h
    obtain ⟨h1, h2⟩ := takeK_holds h
    refine ⟨_, h2, fun c xs hxs => ⟨.agg (xs.extract off (off + ti.size)), fun w => ?_, ?_⟩⟩
    · simp [part, ht.agg, ha, ht.size]
    · have hv : VRs c ((cs.drop off).take ti.size) (xs.extract off (off + ti.size)) := by
        simp at h1
        rcases Nat.eq_zero_or_pos ti.size with h0 | h0
        · rw [h0]
          exact ⟨by simp; omega, fun i hi => by simp at hi⟩
        · exact hxs.sub off ti.size (by omega)
      exact .agg hv.1 hv.2
  | false =>
    simp only [ha] at h
    obtain ⟨v, hv, h⟩ := holds_optK h
    refine ⟨v, h, fun c xs hxs => ?_⟩
    obtain ⟨x, hx, hvx⟩ := hxs.get hv
    exact ⟨x, fun w => by simp [part, ht.agg, ha, hx], hvx⟩

theorem mem_ops1 {x : Operand} {a : Array Operand} (h : a = #[x]) : x ∈ a := by simp [h]

theorem move_sound {v : V} {n : Nat} {k : V → R} (h : Alg.holds (moveK v n k)) : ∃ u, Alg.holds (k u) ∧ ∀ c x, VR c v x → ∃ a, x = .pointer (some a) ∧ VR c u (.pointer (some (a.add n))) := by
  have key : ∀ (b off : Nat), (Addr.mk b off none).add n = ⟨b, off + n, none⟩ := by
    intro b off; unfold Addr.add; split <;> simp_all
  cases v with
  | ptr id off =>
    refine ⟨_, h, fun c x hx => ?_⟩
    cases hx with | ptr hp => exact ⟨_, rfl, by rw [key]; exact .ptr hp⟩
  | bptr id ext sz i j =>
    refine ⟨_, h, fun c x hx => ?_⟩
    cases hx with
    | bptr hp he hs hx =>
      refine ⟨_, rfl, .bptr hp he ?_ fun e => ?_⟩
      · unfold Addr.add; split <;> simp [hs]
      · obtain ⟨h1, h2⟩ := hx e
        refine ⟨h1, ?_⟩
        rw [h2, key, Nat.add_assoc]
  | iptr m sz g i j =>
    refine ⟨_, h, fun c x hx => ?_⟩
    cases hx with | iptr h1 h2 h3 h4 h5 => exact ⟨_, rfl, by rw [key, Nat.add_assoc]; exact .iptr h1 h2 h3 h4 h5⟩
  | _ => exact no_fail h

theorem numW_sound {k : IntKind} {z : Int} {kk : Int → R} (h : Alg.holds (numW k z kk)) : Alg.holds (kk (k.wrap z)) := by
  cases k <;> (simp only [numW] at h; rcases Alg.holds_num _ _ _ h with ⟨h1, h2⟩ | h2 <;> try exact h2)
  · rwa [IntWalk.i8_in z h1]
  · rwa [IntWalk.i16_in z h1]
  · rwa [IntWalk.i32_in z h1]
  · rwa [IntWalk.i64_in z h1]
  · rwa [IntWalk.u8_in z h1]
  · rwa [IntWalk.u16_in z h1]
  · rwa [IntWalk.u32_in z h1]
  · rwa [IntWalk.u64_in z h1]

theorem hi_wrap (k : IntKind) (z : Int) (h0 : 0 ≤ z) (h1 : z ≤ hiOf k) : k.wrap z = z := by
  cases k <;> simp only [hiOf] at h1
  · exact IntWalk.i8_in z (by omega)
  · exact IntWalk.i16_in z (by omega)
  · exact IntWalk.i32_in z (by omega)
  · exact IntWalk.i64_in z (by omega)
  · exact IntWalk.u8_in z (by omega)
  · exact IntWalk.u16_in z (by omega)
  · exact IntWalk.u32_in z (by omega)
  · exact IntWalk.u64_in z (by omega)

theorem toNat_ofInt_hi (k : IntKind) (z : Int) (h0 : 0 ≤ z) (h1 : z ≤ hiOf k) : (BitVec.ofInt k.bits z).toNat = z.toNat := by
  rw [BitVec.toNat_ofInt]
  have : z % ((2 ^ k.bits : Nat) : Int) = z := by
    refine Int.emod_eq_of_lt h0 ?_
    cases k <;> simp [hiOf, IntKind.bits] at h1 ⊢ <;> omega
  rw [this]

theorem hi_two (k : IntKind) : ∃ n, hiOf k = ((2 ^ n : Nat) : Int) - 1 := by
  cases k
  · exact ⟨7, by decide⟩
  · exact ⟨15, by decide⟩
  · exact ⟨31, by decide⟩
  · exact ⟨63, by decide⟩
  · exact ⟨8, by decide⟩
  · exact ⟨16, by decide⟩
  · exact ⟨32, by decide⟩
  · exact ⟨64, by decide⟩

theorem numB_sound {op : BinOp} (hop : op = .and ∨ op = .or ∨ op = .xor) {k : IntKind} {x y : Int} {kk : Int → R} (h : Alg.holds (numB op k x y kk)) : Alg.holds (kk (bitsOp op k x y)) := by
  unfold numB at h
  rw [hiK_eq] at h
  rcases Alg.holds_num _ _ _ h with ⟨⟨⟨h1, h2⟩, h3, h4⟩, h5⟩ | h2
  · have e1 := toNat_ofInt_hi k x h1 h2
    have e2 := toNat_ofInt_hi k y h3 h4
    obtain ⟨n, hn⟩ := hi_two k
    have l1 : x.toNat < 2 ^ n := by omega
    have l2 : y.toNat < 2 ^ n := by omega
    have key : bitsN op x.toNat y.toNat = bitsOp op k x y := by
      rcases hop with rfl | rfl | rfl
      · simp only [bitsN, bitsOp, BitVec.toNat_and, e1, e2]
        have := Nat.and_lt_two_pow x.toNat l2
        rw [hi_wrap k _ (by omega) (by omega)]
      · simp only [bitsN, bitsOp, BitVec.toNat_or, e1, e2]
        have := Nat.or_lt_two_pow l1 l2
        rw [hi_wrap k _ (by omega) (by omega)]
      · simp only [bitsN, bitsOp, BitVec.toNat_xor, e1, e2]
        have := Nat.xor_lt_two_pow l1 l2
        rw [hi_wrap k _ (by omega) (by omega)]
    rw [← key]; exact Alg.holds_ix _ _ (Alg.holds_ix _ _ h5)
  · exact h2

theorem beq_dec (x y : Int) : (x == y) = decide (x = y) := rfl
theorem bne_dec (x y : Int) : (x != y) = !decide (x = y) := rfl

theorem intBin_sound {t : TypeId} {op : BinOp} {kd : IntKind} {x y : Int} {k : V → R} (h : Alg.holds (intBinK op kd x y k)) (hn : op ≠ .shl) (hn' : op ≠ .shr) :
    ∃ v, Alg.holds (k v) ∧ ∃ v', (∀ w c, VR c v v' ∧ (binOp op t (.int kd x) (.int kd y)).run P w = .ok v' w) := by
  cases op with
  | shl => exact absurd rfl hn
  | shr => exact absurd rfl hn'
  | add => exact ⟨_, numW_sound (kk := fun z => k (.int kd z)) h, _, fun w c => ⟨.int _ _, by simp [binOp, Op.intArith]⟩⟩
  | sub => exact ⟨_, numW_sound (kk := fun z => k (.int kd z)) h, _, fun w c => ⟨.int _ _, by simp [binOp, Op.intArith]⟩⟩
  | mul => exact ⟨_, numW_sound (kk := fun z => k (.int kd z)) h, _, fun w c => ⟨.int _ _, by simp [binOp, Op.intArith]⟩⟩
  | quo =>
    obtain ⟨h0, h⟩ := (Alg.holds_ob _ _).1 h
    have h : Alg.holds (k (.int kd (kd.wrap (x.tdiv y)))) := by
      rw [hiK_eq] at h
      rcases Alg.holds_num _ _ _ h with ⟨⟨h1, h2, h3⟩, h4⟩ | h4
      · rw [Int.tdiv_eq_ediv_of_nonneg h1, hi_wrap kd _ (Int.ediv_nonneg h1 (by omega)) (Int.le_trans (Int.ediv_le_self _ h1) h2)]; exact h4
      · exact h4
    exact ⟨_, h, _, fun w c => ⟨.int _ _, by simp [binOp, Op.intDiv, h0]⟩⟩
  | rem =>
    obtain ⟨h0, h⟩ := (Alg.holds_ob _ _).1 h
    have h : Alg.holds (k (.int kd (x.tmod y))) := by
      rcases Alg.holds_num _ _ _ h with ⟨h1, h4⟩ | h4
      · rw [Int.tmod_eq_emod_of_nonneg h1]; exact h4
      · exact h4
    exact ⟨_, h, _, fun w c => ⟨.int _ _, by simp [binOp, Op.intDiv, h0]⟩⟩
  | and => exact ⟨_, numB_sound (by simp) (kk := fun z => k (.int kd z)) h, _, fun w c => ⟨.int _ _, by simp [binOp, Op.intBits, bitsOp]⟩⟩
  | or => exact ⟨_, numB_sound (by simp) (kk := fun z => k (.int kd z)) h, _, fun w c => ⟨.int _ _, by simp [binOp, Op.intBits, bitsOp]⟩⟩
  | xor => exact ⟨_, numB_sound (by simp) (kk := fun z => k (.int kd z)) h, _, fun w c => ⟨.int _ _, by simp [binOp, Op.intBits, bitsOp]⟩⟩
  | andNot => exact ⟨_, h, _, fun w c => ⟨.int _ _, by simp [binOp, Op.intBits, bitsOp]⟩⟩
  | eql => exact ⟨_, h, _, fun w c => ⟨.bool _, by simp [binOp, Op.intCmp, beq_dec]⟩⟩
  | neq => exact ⟨_, h, _, fun w c => ⟨.bool _, by simp [binOp, Op.intCmp, bne_dec]⟩⟩
  | lss => exact ⟨_, h, _, fun w c => ⟨.bool _, by simp [binOp, Op.intCmp]⟩⟩
  | leq => exact ⟨_, h, _, fun w c => ⟨.bool _, by simp [binOp, Op.intCmp]⟩⟩
  | gtr => exact ⟨_, h, _, fun w c => ⟨.bool _, by simp [binOp, Op.intCmp]⟩⟩
  | geq => exact ⟨_, h, _, fun w c => ⟨.bool _, by simp [binOp, Op.intCmp]⟩⟩

theorem wrap_mod (k : IntKind) (a b : Int) (h : a % (2 ^ k.bits : Int) = b % (2 ^ k.bits : Int)) : k.wrap a = k.wrap b := by
  unfold IntKind.wrap; rw [h]

theorem wrap_shl (k : IntKind) (x y : Int) : shlI k x y = k.wrap (x * 2 ^ y.toNat) := by
  unfold shlI
  rcases Nat.le_total y.toNat k.bits with h | h
  · rw [Nat.min_eq_left h]
  · rw [Nat.min_eq_right h]
    obtain ⟨d, hd⟩ := Nat.exists_eq_add_of_le h
    apply wrap_mod
    rw [hd, Int.pow_add, ← Int.mul_assoc, Int.mul_right_comm]
    simp

theorem shl_sound {t : TypeId} {kx ky : IntKind} {x y : Int} {k : V → R} (h : Alg.holds (intBinK .shl kx x y k)) :
    ∃ v, Alg.holds (k v) ∧ ∃ v', (∀ w c, VR c v v' ∧ (binOp .shl t (.int kx x) (.int ky y)).run P w = .ok v' w) := by
  obtain ⟨h0, h⟩ := (Alg.holds_ob _ _).1 h
  have h : Alg.holds (k (.int kx (shlI kx x y))) := by
    rcases Alg.holds_num _ _ _ h with ⟨h1, h4⟩ | h4
    · have h5 := numW_sound (kk := fun z => k (.int kx z)) (Alg.holds_ix _ _ h4)
      have e : shlI kx x y = kx.wrap (x * 2 ^ y.toNat) := wrap_shl kx x y
      rw [e]; exact h5
    · exact h4
  exact ⟨_, h, _, fun w c => ⟨.int _ _, by simp [binOp, Op.shift, Int.not_lt.2 h0, shlI]⟩⟩

theorem shr_sound {t : TypeId} {kx ky : IntKind} {x y : Int} {k : V → R} (h : Alg.holds (intBinK .shr kx x y k)) :
    ∃ v, Alg.holds (k v) ∧ ∃ v', (∀ w c, VR c v v' ∧ (binOp .shr t (.int kx x) (.int ky y)).run P w = .ok v' w) := by
  obtain ⟨h0, h⟩ := (Alg.holds_ob _ _).1 h
  have h : Alg.holds (k (.int kx (shrI kx x y))) := by
    rw [hiK_eq] at h
    rcases Alg.holds_num _ _ _ h with ⟨h1, h4⟩ | h4
    · have e : shrI kx x y = x / 2 ^ y.toNat := by
        unfold shrI
        rw [Nat.min_eq_left (by omega), Int.fdiv_eq_ediv_of_nonneg _ (Int.pow_nonneg (by omega))]
      rw [e]; exact Alg.holds_ix _ _ h4
    · exact h4
  exact ⟨_, h, _, fun w c => ⟨.int _ _, by simp [binOp, Op.shift, Int.not_lt.2 h0, shrI]⟩⟩

theorem ikEq_spec {a b : IntKind} (h : ikEq a b = true) : a = b := by
  cases a <;> cases b <;> first | rfl | (simp [ikEq, ikIdx] at h)

theorem ptrNil_spec {v : V} {b : Bool} (h : ptrNil v = some b) {c : Cfg} {x : Value} (hx : VR c v x) : ∃ a : Option Addr, x = .pointer a ∧ a.isNone = b := by
  unfold ptrNil at h
  split at h
  · cases hx; simp at h; exact ⟨none, rfl, by simp [h]⟩
  · cases hx; simp at h; exact ⟨_, rfl, by simp [h]⟩
  · cases hx; simp at h; exact ⟨_, rfl, by simp [h]⟩
  · cases h

theorem run_eql (t : TypeId) (x y : Value) (w : World) (b : Bool) (hx : ∀ k n, x ≠ .int k n) (hf : ∀ k n, x ≠ .float k n) (hc : ∀ k n m, x ≠ .complex k n m) (hs : ∀ s, x ≠ .string s)
    (d : Nat) (h : (Op.equalIn (d + 1) t x y).run P w = .ok b w) (hd : d + 1 = 10000) : (binOp .eql t x y).run P w = .ok (.bool b) w ∧ (binOp .neq t x y).run P w = .ok (.bool !b) w := by
  have e : Op.equal t x y = Op.equalIn (d + 1) t x y := by rw [hd]; rfl
  constructor
  · cases x <;> first | exact absurd rfl (hx _ _) | exact absurd rfl (hf _ _) | exact absurd rfl (hc _ _ _) | exact absurd rfl (hs _) | (simp only [binOp, e, Sem.run_bind, h, Result.andThen_ok, Sem.run_pure])
  · cases x <;> first | exact absurd rfl (hx _ _) | exact absurd rfl (hf _ _) | exact absurd rfl (hc _ _ _) | exact absurd rfl (hs _) | (simp only [binOp, e, Sem.run_bind, h, Result.andThen_ok, Sem.run_pure])

theorem eqI_bool {t : TypeId} {ti : TI} (ht : TyOK P t ti) (hd : ti.d = .bool) (d : Nat) (a b : Bool) (w : World) : (Op.equalIn (d + 1) t (.bool a) (.bool b)).run P w = .ok (a == b) w := by
  simp only [Op.equalIn, Sem.run_bind, ht.run, hd, Result.andThen_ok, Sem.run_pure]
theorem eqI_ptr {t e : TypeId} {ti : TI} (ht : TyOK P t ti) (hd : ti.d = .pointer e) (d : Nat) (p q : Option Addr) (b : Bool) (w : World)
    (h : (p = none ∧ q.isNone = b) ∨ (q = none ∧ p.isNone = b)) : (Op.equalIn (d + 1) t (.pointer p) (.pointer q)).run P w = .ok b w := by
  simp only [Op.equalIn, Sem.run_bind, ht.run, hd, Result.andThen_ok]
  rcases h with ⟨rfl, h⟩ | ⟨rfl, h⟩
  · simp [h]
  · cases p <;> simp_all
theorem eqI_slice {t e : TypeId} {ti : TI} (ht : TyOK P t ti) (hd : ti.d = .slice e) (d : Nat) (a b a' b' : Nat) (w : World) :
    (Op.equalIn (d + 1) t (.slice none a b) (.slice none a' b')).run P w = .ok true w := by
  simp only [Op.equalIn, Sem.run_bind, ht.run, hd, Result.andThen_ok]
  simp

end
end Go.Ab
