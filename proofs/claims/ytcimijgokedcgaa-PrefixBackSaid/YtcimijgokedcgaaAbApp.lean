/- append. Own work. -/
import Derived.Test.YtcimijgokedcgaaAbEff
set_option linter.unusedVariables false
set_option linter.unusedSimpArgs false
set_option linter.unusedSectionVars false
namespace Go.Ab
open Go Go.RowKit
section
variable {R : Type} [Alg R] {P : Program} {E : Env}

/-- what 'nextslicecap' comes to at most -/
theorem next_le (need cap : Nat) (h : cap < need) : Builtin.nextslicecap need cap ≤ 3 * need := by
  unfold Builtin.nextslicecap
  split
  · omega
  · split
    · omega
    · simp only [Builtin.growBy]
      repeat' split
      all_goals omega

/-- the cells that are appended -/
def Src (P : Program) (x : Value) (sz n : Nat) (w : World) (new : Array Value) (xd : TypeDesc) (z : Value) : Prop :=
  ((∀ k, xd ≠ .int k) ∧ (Builtin.lenOf x).run P w = .ok n w ∧ (Builtin.firstCells sz n x).run P w = .ok new w) ∨
  (∃ k kk, xd = .int k ∧ x = .int kk n ∧ n < 2 ^ 62 ∧ new = if n * sz = 0 then #[] else Builtin.zeroCells z.cells n)

theorem append_run {st xt el : TypeId} {si xi et : TI} (hs : TyOK P st si) (hx : TyOK P xt xi) (he : TyOK P el et) (hd : si.d = .slice el) {z : Value} (hz : (P.info? el).bind (·.zero) = some z) {w : World} {base : Option Addr} {sLen sCap n : Nat} {x : Value} {new old : Array Value} {ty : TypeId}
    (hsrc : Src P x et.size n w new xi.d z) (hb : ∀ k, xi.d = .int k → n * et.bytes ≤ 2 ^ 46) (hb2 : ¬ sLen + n ≤ sCap → sLen + n ≤ 2 ^ 46 ∧ (sLen + n) * et.bytes ≤ 2 ^ 46)
    (hold : ¬ sLen + n ≤ sCap → (Builtin.firstCells et.size sLen (.slice base sLen sCap)).run P { w with drawn := w.drawn + 1 } = .ok old { w with drawn := w.drawn + 1 })
    (hnew : ¬ sLen + n ≤ sCap → Src P x et.size n { w with drawn := w.drawn + 1 } new xi.d z) :
    (Builtin.append_ #[st, xt] ty #[.slice base sLen sCap, x]).run P w =
      if sLen + n ≤ sCap then (match base with
        | some a => ((storeCells (a.add (sLen * et.size)) new.toList).run P w).andThen fun _ w' => .ok (.slice base (sLen + n) sCap) w'
        | none => .ok (.slice base (sLen + n) sCap) w)
      else .ok (.slice (some ⟨w.heap.size, 0, none⟩) (sLen + n) ((Question.appendCap (sLen + n) sCap el).cut (w.tape w.drawn (.appendCap (sLen + n) sCap el))))
        { w with drawn := w.drawn + 1, heap := w.heap.push (.cells (old ++ new ++ Builtin.zeroCells z.cells ((Question.appendCap (sLen + n) sCap el).cut (w.tape w.drawn (.appendCap (sLen + n) sCap el)) - (sLen + n))) el) } := by
  obtain ⟨inf, z', hi1, hi2, hi3, hi4, _⟩ := he.info
  have hz' : z' = z := by simp [hi1, hi4] at hz; exact hz
  subst hz'
  have hzv : ∀ w, (zeroValue el).run P w = .ok z' w := fun w => by simp [zeroValue, typeInfo, hi1, hi4]
  have hti : ∀ w, (typeInfo el).run P w = .ok inf w := fun w => by simp [typeInfo, hi1]
  have hcap : ¬ sLen + n ≤ sCap → ¬ Builtin.nextslicecap (sLen + n) sCap * inf.bytes > 2 ^ 48 := fun h0 => by
    obtain ⟨h1, h2⟩ := hb2 h0
    have h3 := next_le (sLen + n) sCap (by omega)
    have h4 : Builtin.nextslicecap (sLen + n) sCap * inf.bytes ≤ (3 * (sLen + n)) * inf.bytes := Nat.mul_le_mul_right _ h3
    rw [hi3, Nat.mul_assoc] at h4
    rw [hi3]
    omega
  have hmax : ¬ sLen + n ≤ sCap → ¬ ((sLen + n : Nat) : Int) > IntKind.i64.max := fun h0 => by
    obtain ⟨h1, h2⟩ := hb2 h0
    have : IntKind.i64.max = 2 ^ 63 - 1 := by rfl
    rw [this]; omega
  rcases hsrc with ⟨hk, hlen, hfirst⟩ | ⟨kk, kk', hk, rfl, hn62, hnew'⟩
  · have hzeros : (match xi.d with | .int _ => true | _ => false) = false := by
      cases hxd : xi.d <;> first | rfl | exact absurd hxd (hk _)
    by_cases h0 : sLen + n ≤ sCap
    · rw [if_pos h0]
      simp only [Builtin.append_, List.getElem?_toArray, List.getElem?_cons_zero, List.getElem?_cons_succ, Sem.run_bind, hs.run, hd, Result.andThen_ok, he.size, hx.run, Sem.run_pure]
      simp only [hzeros, Bool.false_eq_true, if_false, hlen, Result.andThen_ok, Sem.run_bind, h0, if_true, Bool.not_false, hfirst]
      cases base <;> simp
    · rw [if_neg h0]
      obtain ⟨hk', _, hfirst'⟩ | ⟨k2, _, hk2, _⟩ := hnew h0
      · simp only [Builtin.append_, List.getElem?_toArray, List.getElem?_cons_zero, List.getElem?_cons_succ, Sem.run_bind, hs.run, hd, Result.andThen_ok, he.size, hx.run, Sem.run_pure]
        simp only [hzeros, Bool.false_eq_true, if_false, hlen, Result.andThen_ok, Sem.run_bind, h0, if_true, Bool.not_false, hti, hmax h0, hcap h0, false_and, run_choose, Question.forced, run_askRoom, hold h0, hfirst', hzv, newRow, run_newObj, Sem.run_pure]
      · exact absurd hk2 (hk _)
  · have hw : IntKind.i64.wrap (n : Int) = n := wrap_i64 (by omega) (by omega)
    have hneg : ¬ ((n : Int) < 0) := by omega
    have hbig : ¬ ((n : Int) * (inf.bytes : Int) > 2 ^ 48) := by
      rw [hi3]
      have : n * et.bytes ≤ 2 ^ 46 := hb _ hk
      have h2 : ((n * et.bytes : Nat) : Int) = (n : Int) * (et.bytes : Int) := by simp
      omega
    have happ : ∀ w, ((if n * et.size = 0 then pure #[] else do pure (Builtin.zeroCells (← zeroValue el).cells n) : Sem (Array Value))).run P w = .ok new w := fun w => by
      rw [hnew']
      split <;> simp [hzv]
    have hzn : ∀ w : World, (if n * et.size = 0 then (pure #[] : Sem (Array Value)).run P w else ((zeroValue el >>= fun v => pure (Builtin.zeroCells v.cells n)) : Sem (Array Value)).run P w) = .ok new w := fun w => by
      rw [hnew']
      split <;> simp [hzv]
    by_cases h0 : sLen + n ≤ sCap
    · rw [if_pos h0]
      simp only [Builtin.append_, List.getElem?_toArray, List.getElem?_cons_zero, List.getElem?_cons_succ, Sem.run_bind, hs.run, hd, Result.andThen_ok, he.size, hx.run, Sem.run_pure]
      simp only [hk, if_true, asInt, asIntOf, Sem.run_bind, Sem.run_pure, Result.andThen_ok, hw, hneg, if_false, hti, hbig, h0, Bool.not_true, Bool.false_eq_true, Int.toNat_natCast, happ]
      cases base <;> simp
    · rw [if_neg h0]
      simp only [Builtin.append_, List.getElem?_toArray, List.getElem?_cons_zero, List.getElem?_cons_succ, Sem.run_bind, hs.run, hd, Result.andThen_ok, he.size, hx.run, Sem.run_pure]
      simp only [hk, if_true, asInt, asIntOf, Sem.run_bind, Sem.run_pure, Result.andThen_ok, hw, hneg, if_false, hti, hbig, h0, Bool.not_true, Bool.false_eq_true, Int.toNat_natCast, hmax h0, hcap h0, false_and, run_choose, Question.forced, run_askRoom, hold h0, happ, hzv, newRow, run_newObj]

theorem rowOK_spec {src : Nat → V} : ∀ {n : Nat}, rowOK src n = true → ∀ j, j < n → cellV (src j) = true := by
  intro n
  induction n with
  | zero => intro _ j hj; omega
  | succ n ih =>
    intro h j hj
    simp only [rowOK] at h
    split at h <;> try cases h
    rename_i hc
    by_cases e : j = n
    · subst e; exact hc
    · exact ih h j (by omega)

theorem allOK_spec {src : Nat → Nat → V} {sz : Nat} : ∀ {n : Nat}, allOK src sz n = true → ∀ i j, i < n → j < sz → cellV (src i j) = true := by
  intro n
  induction n with
  | zero => intro _ i j hi; omega
  | succ n ih =>
    intro h i j hi hj
    simp only [allOK] at h
    split at h <;> try cases h
    rename_i hc
    by_cases e : i = n
    · subst e; exact rowOK_spec hc j hj
    · exact ih h i j (by omega) hj

/-- An object is other, or new, and no block that was there is. -/
theorem ob_gen {h h' : Heap} {c : Cfg} (H : HRel h c) {id : Nat} {p' : Pl} {ob' : Ob} (hcond : ∀ p, c.pl id = some p → p.le p') (hid : id < 65536)
    {w : World} (hsz : c.w.heap.size ≤ w.heap.size) (hold : ∀ b, b < c.w.heap.size → w.heap[b]? = c.w.heap[b]?)
    (hown : ∀ b, p'.owns b → b < w.heap.size ∧ ((∃ q, c.pl id = some q ∧ q.owns b) ∨ c.w.heap.size ≤ b)) (ho : w.os = c.w.os) (ht : w.tape = c.w.tape) (hu : w.output = c.w.output)
    (hget : h'.get id = some ob') (hgo : ∀ i, i < 65536 → i ≠ id → h'.get i = h.get i) (hnx : h.nx ≤ h'.nx) (hnx' : id < h'.nx) (hor : ∀ c', Ext c c' → c'.pl id = some p' → c'.w = w → OR c' ob' p') :
    ∃ c', c'.w = w ∧ Ext c c' ∧ HRel h' c' ∧ c'.pl id = some p' := by
  let c' : Cfg := { pl := fun i => if i = id then some p' else c.pl i, w := w, imm := c.imm }
  have hext : Ext c c' := by
    refine ⟨hsz, fun _ h => h, fun i q hq => ?_, fun b hb _ => hold b hb, fun b hb => ?_, ho, ht, hu, fun _ h => .inl h⟩
    · by_cases e : i = id
      · subst e
        exact ⟨p', by simp [c'], hcond q hq⟩
      · exact ⟨q, by simp [c', e, hq], q.le_refl⟩
    · obtain ⟨i, q, hq, hqb⟩ := hb
      by_cases e : i = id
      · simp only [c', e, if_true, Option.some.injEq] at hq
        subst hq
        rcases (hown b hqb).2 with ⟨q0, g1, g2⟩ | g
        · exact .inl ⟨id, q0, g1, g2⟩
        · exact .inr g
      · simp only [c', e, if_false] at hq
        exact .inl ⟨i, q, hq, hqb⟩
  refine ⟨c', rfl, hext, ?_, by simp [c']⟩
  exact H.step hid rfl rfl hext (fun i q b _ hq hqb => hold b (H.lt b ⟨i, q, hq, hqb⟩)) hown hget hgo hnx hnx' (hor c' hext (by simp [c']) rfl)

theorem HRel.fresh0 {h : Heap} {c : Cfg} (H : HRel h c) (hn : h.nx < 65536) : c.pl h.nx = none := by
  cases hp : c.pl h.nx with
  | none => rfl
  | some q => have := (H.nx _ _ hp).1; omega

theorem load_at {w : World} {b off n : Nat} {arr : Array Value} {el : TypeId} {fr : Nat × Nat} (hb : w.heap[b]? = some (.cells arr el fr)) (hn : off + n ≤ arr.size) :
    (loadCells ⟨b, off, none⟩ n).run P w = .ok ((List.range n).map fun j => arr.getD (off + j) undef).toArray w := by
  refine run_loadCells (P := P) w ⟨b, off, none⟩ n (fun j => arr.getD (off + j) undef) fun j hj => ?_
  have : off + j < arr.size := by omega
  rw [add_off]
  simp [World.cell?, hb, Array.getD, this]

theorem load_none {w : World} (a : Addr) : (loadCells a 0).run P w = .ok #[] w := by simp [loadCells, loadCellsFrom]

/-- the cells of a part of a buffer -/
theorem row_cells {c : Cfg} {g : Nat → Nat → V} {arr : Array Value} {base lo len sz : Nat} (h : ∀ i j, i < len → j < sz → VR c (g (lo + i) j) (arr.getD (base + (lo + i) * sz + j) undef)) :
    let new := ((List.range (len * sz)).map fun j => arr.getD (base + lo * sz + j) undef).toArray
    new.size = len * sz ∧ ∀ i j, i < len → j < sz → VR c (g (lo + i) j) (new.getD (i * sz + j) undef) := by
  refine ⟨by simp, fun i j hi hj => ?_⟩
  have hlt : i * sz + j < len * sz := by
    have : (i + 1) * sz ≤ len * sz := Nat.mul_le_mul_right _ (by omega)
    rw [Nat.add_mul] at this; omega
  have := h i j hi hj
  rw [show base + (lo + i) * sz + j = base + lo * sz + (i * sz + j) by rw [Nat.add_mul]; omega] at this
  simpa [Array.getD_eq_getD_getElem?, hlt] using this

/-- the first cells of a slice of a buffer -/
theorem bv_cells {h : Heap} {c : Cfg} (H : HRel h c) {id ext sz lo len : Nat} {capo : Option Nat} {g : Nat → Nat → V} {x : Value} (ho : h.get id = some (.buf ext sz g)) (hx : VR c (.bv id ext sz lo len capo) x) :
    ∃ a cap', x = .slice a len cap' ∧ ∃ new : Array Value, new.size = len * sz ∧ (∀ i j, i < len → j < sz → VR c (g (lo + i) j) (new.getD (i * sz + j) undef)) ∧
      ∀ w : World, w.heap = c.w.heap → (Builtin.firstCells sz len x).run P w = .ok new w := by
  obtain ⟨a, cap', b, base, ext', cp, sz', h1, h2, h3, h4, h5, h6, h7, rfl⟩ := hx.bv_inv
  obtain ⟨o', g1, g2⟩ := H.there id _ h1
  rw [ho] at g1
  cases g1
  cases g2 with
  | buf g3 g4 =>
    obtain ⟨_, q1, q2, q3⟩ := h7 rfl
    refine ⟨a, cap', rfl, ?_⟩
    by_cases h0 : len * sz = 0
    · refine ⟨#[], by simp [h0], fun i j hi hj => ?_, fun w hw => ?_⟩
      · have : 0 < len * sz := Nat.mul_pos (by omega) (by omega)
        omega
      · cases a with
        | none => simp [Builtin.firstCells]
        | some a => simp only [Builtin.firstCells, h0, load_none]
    · have hl : 0 < len := Nat.pos_of_ne_zero fun e => h0 (by simp [e])
      have hs : 0 < sz := Nat.pos_of_ne_zero fun e => h0 (by simp [e])
      have ha := q3 (Nat.mul_pos (by omega) hs)
      obtain ⟨arr, el, r1, r2, r3⟩ := g4 (Nat.mul_pos (by omega) hs)
      obtain ⟨s1, s2⟩ := row_cells (c := c) (g := g) (arr := arr) (base := base) (lo := lo) (len := len) (sz := sz) (fun i j hi hj => r3 (lo + i) j (by omega) hj)
      refine ⟨_, s1, s2, fun w hw => ?_⟩
      subst ha
      have hmul : (lo + len) * sz ≤ cp * sz := Nat.mul_le_mul_right _ (by omega)
      rw [Nat.add_mul] at hmul
      simp only [Builtin.firstCells]
      exact load_at (by rw [hw]; exact r1) (by omega)

theorem src_sound {h : Heap} {sz : Nat} {x : V} {k : Nat → (Nat → Nat → V) → R} (hk : Alg.holds (srcK h sz x k)) : ∃ n src, Alg.holds (k n src) ∧ ∀ c xv, HRel h c → VR c x xv →
    ∃ new : Array Value, new.size = n * sz ∧ (∀ i j, i < n → j < sz → VR c (src i j) (new.getD (i * sz + j) undef)) ∧
      ∀ w : World, w.heap = c.w.heap → (Builtin.lenOf xv).run P w = .ok n w ∧ (Builtin.firstCells sz n xv).run P w = .ok new w := by
  unfold srcK at hk
  split at hk <;> try exact no_fail hk
  · rename_i len sz' g
    split at hk <;> try exact no_fail hk
    rename_i hsz
    have hsz := Nat.eq_of_beq_eq_true hsz
    subst hsz
    refine ⟨_, _, hk, fun c xv hh hx => ?_⟩
    obtain ⟨a, cap, rfl, hlc, hall⟩ := hx.isl_inv
    by_cases h0 : len * sz = 0
    · refine ⟨#[], by simp [h0], fun i j hi hj => ?_, fun w hw => ⟨rfl, ?_⟩⟩
      · have : 0 < len * sz := Nat.mul_pos (by omega) (by omega)
        omega
      · cases a with
        | none => simp [Builtin.firstCells]
        | some a => simp only [Builtin.firstCells, h0, load_none]
    · have hl : 0 < len := Nat.pos_of_ne_zero fun e => h0 (by simp [e])
      obtain ⟨b, base, arr, elq, fr, rfl, h1, h2, h3, h4, h5⟩ := hall hl
      obtain ⟨s1, s2⟩ := row_cells (c := c) (g := g) (arr := arr) (base := base) (lo := 0) (len := len) (sz := sz) (fun i j hi hj => by rw [Nat.zero_add]; exact h4 i j hi hj)
      simp only [Nat.zero_add, Nat.zero_mul, Nat.add_zero] at s1 s2
      refine ⟨_, s1, s2, fun w hw => ⟨rfl, ?_⟩⟩
      simp only [Builtin.firstCells]
      exact load_at (by rw [hw]; exact h2) (by omega)
  · rename_i id ext sz' lo len capo
    obtain ⟨o, ho, hk2⟩ := holds_optK hk
    clear hk
    split at hk2 <;> try exact no_fail hk2
    rename_i ext' sz'' g
    have hq9 := (Alg.holds_ob _ _).1 hk2
    clear hk2
    obtain ⟨he, hk2⟩ := hq9
    simp only [Bool.and_eq_true, Nat.beq_eq] at he
    obtain ⟨rfl, rfl, rfl⟩ := he
    replace hk2 := offK_sound (k := fun g => _) hk2
    refine ⟨_, _, hk2, fun c xv hh hx => ?_⟩
    obtain ⟨a, cap', e, new, n1, n2, n3⟩ := bv_cells (P := P) hh ho hx
    exact ⟨new, n1, n2, fun w hw => ⟨by rw [e]; rfl, n3 w hw⟩⟩
  · rename_i id off len cap sz'
    obtain ⟨o, ho, hk2⟩ := holds_optK hk
    clear hk
    split at hk2 <;> try exact no_fail hk2
    rename_i cs
    split at hk2 <;> try exact no_fail hk2
    rename_i he
    simp only [Bool.and_eq_true, Nat.beq_eq] at he
    obtain ⟨rfl, hle⟩ := he
    have hle := Nat.le_of_ble_eq_true hle
    refine ⟨_, _, hk2, fun c xv hh hx => ?_⟩
    obtain ⟨b, m, a, h1, h3, h4, rfl⟩ := hx.av_inv
    obtain ⟨o', g1, g2⟩ := hh.there id _ h1
    rw [ho] at g1
    cases g1
    cases g2 with
    | cells g3 g4 =>
      rename_i arr el
      by_cases h0 : len * sz = 0
      · refine ⟨#[], by simp [h0], fun i j hi hj => ?_, fun w hw => ⟨rfl, ?_⟩⟩
        · have : 0 < len * sz := Nat.mul_pos (by omega) (by omega)
          omega
        · cases a with
          | none => simp [Builtin.firstCells]
          | some a => simp only [Builtin.firstCells, h0, load_none]
      · have hl : 0 < len := Nat.pos_of_ne_zero fun e => h0 (by simp [e])
        have ha := h4 (by omega)
        subst ha
        have hsz := g4.1
        obtain ⟨s1, s2⟩ := row_cells (c := c) (g := fun i j => cs.getD (off + i * sz + j) .junk) (arr := arr) (base := off) (lo := 0) (len := len) (sz := sz) (fun i j hi hj => by
          rw [Nat.zero_add]
          have : (i + 1) * sz ≤ len * sz := Nat.mul_le_mul_right _ (by omega)
          rw [Nat.add_mul] at this
          exact g4.2 _ (by omega))
        simp only [Nat.zero_add, Nat.zero_mul, Nat.add_zero] at s1 s2
        refine ⟨_, s1, s2, fun w hw => ⟨rfl, ?_⟩⟩
        simp only [Builtin.firstCells]
        exact load_at (by rw [hw]; exact g3) (by omega)
  · rename_i s
    split at hk <;> try exact no_fail hk
    rename_i he
    simp only [Nat.beq_eq] at he
    subst he
    refine ⟨_, _, hk, fun c xv hh hx => ?_⟩
    rw [hx.str_inv]
    refine ⟨s.data.map fun b => .int .u8 b.toNat, by simp, fun i j hi hj => ?_, fun w hw => ⟨rfl, ?_⟩⟩
    · have : j = 0 := by omega
      subst this
      have hi' : i < s.data.size := hi
      have e : (s.data.map fun b => Value.int .u8 b.toNat).getD (i * 1 + 0) undef = .int .u8 ((s.data.getD i 0).toNat : Int) := by
        have hi2 : i < s.size := hi
        simp [Array.getD, hi2]
      rw [e]
      exact .int _ _
    · have : (s.extract 0 s.size) = s := by
        apply ByteArray.ext
        simp
      simp [Builtin.firstCells, this]
  · refine ⟨_, _, hk, fun c xv hh hx => ?_⟩
    rw [hx.lit_inv]
    exact ⟨#[], by simp, fun i j hi => by omega, fun w hw => ⟨rfl, rfl⟩⟩
end
end Go.Ab
