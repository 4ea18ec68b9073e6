/- Keys, and what is equal. Own work. -/
import Derived.Test.YtcimijgokedcgaaAbTmp
set_option linter.unusedVariables false
set_option linter.unusedSimpArgs false
set_option linter.unusedSectionVars false
namespace Go.Ab
open Go Go.RowKit
section
variable {R : Type} [Alg R] {P : Program} {E : Env}

theorem keyL_rel {c : Cfg} : ∀ (cs : List V) (ys : List Value) (r : List Nat × List Int), cs.length = ys.length → (∀ i, i < cs.length → VR c (cs.getD i .junk) (ys.getD i undef)) →
    keyCells cs = some r → keyL ys = some r := by
  intro cs
  induction cs with
  | nil =>
    intro ys r hl _ h
    cases ys with
    | nil => exact h
    | cons => simp at hl
  | cons v vs ih =>
    intro ys r hl hv h
    cases ys with
    | nil => simp at hl
    | cons y ys =>
      have h0 := hv 0 (by simp)
      simp at h0
      cases v <;> try (simp [keyCells] at h; done)
      rename_i k n
      have e := h0.int_inv
      subst e
      simp only [keyCells] at h
      cases hk : keyCells vs with
      | none => rw [hk] at h; simp at h
      | some r' =>
        have := ih ys r' (by simpa using hl) (fun i hi => by simpa using hv (i + 1) (by simp; omega)) hk
        rw [hk] at h
        simp only [keyL, this]
        exact h

theorem keyV_rel {c : Cfg} {v : V} {x : Value} {r : List Nat × List Int} (h : VR c v x) (hk : keyOf v = some r) : keyV x = some r := by
  cases v <;> try (simp [keyOf] at hk; done)
  · rw [h.int_inv]; exact hk
  · rename_i cs
    obtain ⟨xs, rfl, h1, h2⟩ := h.agg_inv
    simp only [keyOf] at hk
    cases hc : keyCells cs with
    | none => rw [hc] at hk; simp at hk
    | some r' =>
      have := keyL_rel (c := c) cs xs.toList r' (by simpa using h1) (fun i hi => by simpa [List.getD_eq_getElem?_getD, Array.getD_eq_getD_getElem?] using h2 i hi) hc
      rw [hc] at hk
      simp only [keyV, this]
      exact hk

theorem ikIdx_inj {a b : IntKind} (h : ikIdx a = ikIdx b) : a = b := by cases a <;> cases b <;> first | rfl | (simp [ikIdx] at h)

theorem natsEq_spec : ∀ {a b : List Nat}, natsEq a b = true → a = b := by
  intro a
  induction a with
  | nil => intro b h; cases b <;> simp [natsEq] at h ⊢
  | cons x xs ih =>
    intro b h
    cases b with
    | nil => simp [natsEq] at h
    | cons y ys =>
      simp only [natsEq] at h
      split at h <;> try cases h
      rename_i he
      rw [Nat.beq_eq] at he
      rw [he, ih h]

theorem intsEq_eq : ∀ (a b : List Int), intsEq a b = (a == b) := by
  intro a
  induction a with
  | nil => intro b; cases b <;> rfl
  | cons x xs ih =>
    intro b
    cases b with
    | nil => rfl
    | cons y ys =>
      simp only [intsEq, List.cons_beq_cons]
      cases h : x == y <;> simp [ih]

theorem allEq_eq : ∀ (a b : List Int), a.length = b.length → allEq a b = (a == b) := by
  intro a
  induction a with
  | nil => intro b h; cases b with
    | nil => rfl
    | cons => simp at h
  | cons x xs ih =>
    intro b h
    cases b with
    | nil => simp at h
    | cons y ys =>
      simp only [allEq, List.cons_beq_cons]
      rw [ih ys (by simpa using h)]

theorem keyL_len : ∀ {xs : List Value} {s : List Nat} {l : List Int}, keyL xs = some (s, l) → s.length = xs.length ∧ l.length = xs.length := by
  intro xs
  induction xs with
  | nil => intro s l h; simp [keyL] at h; obtain ⟨rfl, rfl⟩ := h; simp
  | cons x xs ih =>
    intro s l h
    cases x <;> try (simp [keyL] at h; done)
    simp only [keyL] at h
    cases hk : keyL xs with
    | none => rw [hk] at h; simp at h
    | some r =>
      rw [hk] at h
      simp at h
      obtain ⟨rfl, rfl⟩ := h
      have := ih (s := r.1) (l := r.2) hk
      simp [this]

theorem keyL_cons {x : Value} {xs : List Value} {s : List Nat} {l : List Int} (h : keyL (x :: xs) = some (s, l)) :
    ∃ k n s' l', x = .int k n ∧ s = ikIdx k :: s' ∧ l = n :: l' ∧ keyL xs = some (s', l') := by
  cases x <;> try (simp [keyL] at h; done)
  rename_i k n
  simp only [keyL] at h
  cases hk : keyL xs with
  | none => rw [hk] at h; simp at h
  | some r =>
    rw [hk] at h
    simp at h
    obtain ⟨rfl, rfl⟩ := h
    exact ⟨k, n, r.1, r.2, rfl, rfl, rfl, rfl⟩

theorem part_int {t : TypeId} {k : IntKind} (h : P.underlying t = some (.int k)) (xs : Array Value) (off : Nat) (x : Value) (hx : xs[off]? = some x) (w : World) : (part t xs off).run P w = .ok x w := by
  simp [part, isAgg, underlying, h, hx]

theorem eqFields_flat {d : Nat} {xs ys : Array Value} {w : World} : ∀ (fs : List Field) (i : Nat) (s : List Nat) (a b : List Int),
    (∀ j (h : j < fs.length), fs[j].name ≠ "_" ∧ fs[j].offset = i + j ∧ ∃ k, P.underlying fs[j].type = some (.int k)) → s.length = fs.length →
    keyL (xs.toList.drop i) = some (s, a) → keyL (ys.toList.drop i) = some (s, b) → (Op.eqFields (d + 1) xs ys fs).run P w = .ok (a == b) w := by
  intro fs
  induction fs with
  | nil =>
    intro i s a b _ hs ha hb
    have hs' : s = [] := List.length_eq_zero_iff.1 hs
    subst hs'
    have h1 := keyL_len ha
    have h2 := keyL_len hb
    have ha' : a = [] := List.length_eq_zero_iff.1 (by rw [h1.2, ← h1.1]; rfl)
    have hb' : b = [] := List.length_eq_zero_iff.1 (by rw [h2.2, ← h2.1]; rfl)
    subst ha' hb'
    simp [Op.eqFields]
  | cons f fs ih =>
    intro i s a b hf hs ha hb
    obtain ⟨h1, h2, k0, h3⟩ := hf 0 (by simp)
    simp only [List.getElem_cons_zero, Nat.add_zero] at h1 h2 h3
    have lx := keyL_len ha
    have ly := keyL_len hb
    simp only [List.length_cons] at hs
    have hx : i < xs.size := by simp at lx; omega
    have hy : i < ys.size := by simp at ly; omega
    rw [List.drop_eq_getElem_cons (by simpa using hx)] at ha
    rw [List.drop_eq_getElem_cons (by simpa using hy)] at hb
    obtain ⟨k, n, s1, a1, e1, e2, e3, e4⟩ := keyL_cons ha
    obtain ⟨k', m, s2, b1, f1, f2, f3, f4⟩ := keyL_cons hb
    rw [e2] at f2
    simp only [List.cons.injEq] at f2
    have hk := ikIdx_inj f2.1
    subst hk
    obtain ⟨_, rfl⟩ := f2
    subst e2 e3 f3
    simp only [Array.getElem_toList] at e1 f1
    have p1 := fun w => part_int (P := P) h3 xs i (.int k n) (by simp [hx, e1]) w
    have p2 := fun w => part_int (P := P) h3 ys i (.int k m) (by simp [hy, f1]) w
    have rec' := ih (i + 1) s1 a1 b1 (fun j hj => by
      have := hf (j + 1) (by simp; omega)
      simp only [List.getElem_cons_succ] at this
      exact ⟨this.1, by rw [this.2.1]; omega, this.2.2⟩) (by simpa using hs) e4 f4
    have h1' : (f.name = "_") = False := eq_false h1
    simp only [Op.eqFields, ne_eq, h1', not_false_eq_true, if_true, Sem.run_bind, h2, p1, p2, Result.andThen_ok, run_equalIn_int _ _ _ _ _ _ _ h3]
    by_cases hnm : n = m
    · subst hnm
      simp [rec']
    · simp [hnm]

/-- the loop of an array's '==' -/
theorem eqLoop_flat {P : Program} (d : Nat) (e : TypeId) (k0 : IntKind) (xs ys : Array Value) (w : World) (he : P.underlying e = some (.int k0))
    (hL : ∀ {x : Value} {xs : List Value} {s : List Nat} {l : List Int}, keyL (x :: xs) = some (s, l) → ∃ k n s' l', x = .int k n ∧ s = ikIdx k :: s' ∧ l = n :: l' ∧ keyL xs = some (s', l'))
    (hI : ∀ {a b : IntKind}, ikIdx a = ikIdx b → a = b)
    (hp : ∀ (xs : Array Value) (off : Nat) (x : Value), xs[off]? = some x → (part e xs off).run P w = .ok x w)
    (hlen : ∀ {xs : List Value} {s : List Nat} {l : List Int}, keyL xs = some (s, l) → s.length = xs.length ∧ l.length = xs.length) :
    ∀ (m i : Nat) (s : List Nat) (a b : List Int), s.length = m → keyL (xs.toList.drop i) = some (s, a) → keyL (ys.toList.drop i) = some (s, b) →
    Sem.run P (forIn (List.range' i m) ((none, ()) : Option Bool × Unit) fun i _ => do
      let x ← part e xs i
      let y ← part e ys i
      let r ← Op.equalIn (d + 1) e x y
      if (!r) = true then pure (ForInStep.done (some false, ())) else pure (ForInStep.yield (none, ()))) w = .ok (if (a == b) = true then (none, ()) else (some false, ())) w := by
  intro m
  induction m with
  | zero =>
    intro i s a b hs ha hb
    have h1 := hlen ha
    have h2 := hlen hb
    have ha' : a = [] := List.length_eq_zero_iff.1 (by omega)
    have hb' : b = [] := List.length_eq_zero_iff.1 (by omega)
    subst ha' hb'
    simp
  | succ m ih =>
    intro i s a b hs ha hb
    have lx := hlen ha
    have ly := hlen hb
    have hx : i < xs.size := by simp at lx; omega
    have hy : i < ys.size := by simp at ly; omega
    rw [List.drop_eq_getElem_cons (by simpa using hx)] at ha
    rw [List.drop_eq_getElem_cons (by simpa using hy)] at hb
    obtain ⟨k, n, s1, a1, e1, e2, e3, e4⟩ := hL ha
    obtain ⟨k', q, s2, b1, f1, f2, f3, f4⟩ := hL hb
    rw [e2] at f2
    simp only [List.cons.injEq] at f2
    have hk := hI f2.1
    subst hk
    obtain ⟨_, rfl⟩ := f2
    subst e2 e3 f3
    simp only [Array.getElem_toList] at e1 f1
    have p1 := hp xs i (.int k n) (by simp [hx, e1])
    have p2 := hp ys i (.int k q) (by simp [hy, f1])
    have rec' := ih (i + 1) s1 a1 b1 (by simpa using hs) e4 f4
    simp only [List.range'_succ, List.forIn_cons, Sem.run_bind, p1, p2, Result.andThen_ok, run_equalIn_int _ _ _ _ _ _ _ he]
    by_cases hnm : n = q
    · subst hnm
      simp at rec' ⊢
      exact rec'
    · simp [hnm]

theorem run_equalIn_array {P : Program} (d : Nat) (t e : TypeId) (m : Nat) (k0 : IntKind) (xs ys : Array Value) (w : World) (hu : P.underlying t = some (.array m e)) (hs : ∀ w, (sizeOf e).run P w = .ok 1 w) (he : P.underlying e = some (.int k0)) {a b : List Int}
   (loop : Sem.run P (forIn (List.range' 0 m) ((none, ()) : Option Bool × Unit) fun i _ => do
      let x ← part e xs i
      let y ← part e ys i
      let r ← Op.equalIn (d + 1) e x y
      if (!r) = true then pure (ForInStep.done (some false, ())) else pure (ForInStep.yield (none, ()))) w = .ok (if (a == b) = true then (none, ()) else (some false, ())) w) : (Op.equalIn (d + 2) t (.agg xs) (.agg ys)).run P w = .ok (a == b) w := by
  unfold Op.equalIn
  simp only [Sem.run_bind, underlying, run_program, hu, Result.andThen_ok, Sem.run_pure, hs, Nat.mul_one]
  simp only [Std.Legacy.Range.forIn_eq_forIn_range', Std.Legacy.Range.size, Nat.sub_zero, Nat.add_one_sub_one, Nat.div_one]
  simp at loop ⊢
  rw [loop]
  by_cases hab : a = b <;> simp [hab]

theorem equal_flat {t : TypeId} {n d : Nat} (h : FlatP P t n) {x y : Value} {s : List Nat} {a b : List Int} (hn : s.length = n) (hx : keyV x = some (s, a)) (hy : keyV y = some (s, b)) (w : World) :
    (Op.equalIn (d + 2) t x y).run P w = .ok (a == b) w := by
  rcases h with ⟨rfl, k0, hu⟩ | ⟨fs, rfl, hu, hst, _, hf⟩ | ⟨m, e, rfl, hu, ⟨k0, he⟩, ⟨inf, hi1, hi2⟩, _⟩
  · have one : ∀ {x : Value} {a : List Int}, keyV x = some (s, a) → ∃ k m, x = .int k m ∧ s = [ikIdx k] ∧ a = [m] := by
      intro x a hx
      cases x <;> try (simp [keyV] at hx; done)
      · simp [keyV] at hx
        exact ⟨_, _, rfl, hx.1.symm, hx.2.symm⟩
      · simp only [keyV] at hx
        split at hx <;> simp at hx
        rw [← hx.1] at hn
        simp at hn
    obtain ⟨k, m, rfl, rfl, rfl⟩ := one hx
    obtain ⟨k', m', rfl, e, rfl⟩ := one hy
    simp at e
    have e := ikIdx_inj e
    subst e
    rw [run_equalIn_int w _ _ _ _ _ _ hu]
    simp
  · have agg : ∀ {x : Value} {a : List Int}, keyV x = some (s, a) → ∃ cs s', x = .agg cs ∧ s = 8 :: 8 :: s' ∧ keyL cs.toList = some (s', a) := by
      intro x a hx
      cases x <;> try (simp [keyV] at hx; done)
      · simp [keyV] at hx
        rw [← hx.1] at hn
        simp at hn
      · rename_i cs
        simp only [keyV] at hx
        split at hx
        · rename_i s' l hk
          simp at hx
          obtain ⟨rfl, rfl⟩ := hx
          exact ⟨cs, s', rfl, rfl, hk⟩
        · simp at hx
    obtain ⟨xs, s', rfl, rfl, hx'⟩ := agg hx
    obtain ⟨ys, s2, rfl, e, hy'⟩ := agg hy
    simp at e
    subst e
    have hfs : P.fieldsOf t = fs := by simp [Program.fieldsOf, hu]
    rw [run_equalIn_struct w _ t _ _ (by rw [hfs]; exact hu) hst, hfs]
    exact eqFields_flat fs.toList 0 s' a b (fun j hj => by
      have hj' : j < fs.size := by simpa using hj
      have := hf j hj'
      simpa using this) (by simp at hn ⊢; omega) (by simpa using hx') (by simpa using hy')
  · have agg : ∀ {x : Value} {a : List Int}, keyV x = some (s, a) → ∃ cs s', x = .agg cs ∧ s = 8 :: 8 :: s' ∧ keyL cs.toList = some (s', a) := by
      intro x a hx
      cases x <;> try (simp [keyV] at hx; done)
      · simp [keyV] at hx
        rw [← hx.1] at hn
        simp at hn
      · rename_i cs
        simp only [keyV] at hx
        split at hx
        · rename_i s' l hk
          simp at hx
          obtain ⟨rfl, rfl⟩ := hx
          exact ⟨cs, s', rfl, rfl, hk⟩
        · simp at hx
    obtain ⟨xs, s', rfl, rfl, hx'⟩ := agg hx
    obtain ⟨ys, s2, rfl, e, hy'⟩ := agg hy
    simp at e
    subst e
    have hlen : s'.length = m := by simp at hn; omega
    exact run_equalIn_array d t e m k0 xs ys w hu (fun w => by simp [sizeOf, typeInfo, hi1, hi2]) he
      (eqLoop_flat d e k0 xs ys w he keyL_cons ikIdx_inj (fun xs off x hx => part_int he xs off x hx w) keyL_len m 0 s' a b hlen (by simpa using hx') (by simpa using hy'))

theorem eqFlat_sound {t : TypeId} {ti : TI} (ht : TyOK P t ti) {x y : V} {b : Bool} (h : eqFlat ti.flat x y = some b) : ∀ c x' y', VR c x x' → VR c y y' →
    FlatP P t ti.flat ∧ ∀ d w, (Op.equalIn (d + 2) t x' y').run P w = .ok b w := by
  unfold eqFlat at h
  split at h <;> try cases h
  rename_i s a s' b' h1 h2
  split at h <;> try cases h
  rename_i hc
  simp only [Bool.and_eq_true, Nat.beq_eq] at hc
  have e := natsEq_spec hc.1
  subst e
  intro c x' y' hx hy
  have g1 := keyV_rel hx h1
  have g2 := keyV_rel hy h2
  have hne : ti.flat ≠ 0 := by
    rw [← hc.2]
    intro h0
    have : s = [] := List.length_eq_zero_iff.1 h0
    subst this
    cases x <;> simp [keyOf] at h1
    split at h1 <;> simp at h1
  have hf : FlatP P t ti.flat := ht.flat.resolve_left hne
  refine ⟨hf, fun d w => ?_⟩
  have := equal_flat (P := P) (d := d) hf hc.2 g1 g2 w
  rw [this, allEq_eq]
  have lens : ∀ {x : Value} {a : List Int}, keyV x = some (s, a) → a.length = if s.length = 1 then 1 else s.length - 2 := by
    intro x a hx
    cases x <;> try (simp [keyV] at hx; done)
    · simp [keyV] at hx
      obtain ⟨rfl, rfl⟩ := hx
      rfl
    · simp only [keyV] at hx
      split at hx
      · rename_i s' l hk
        simp at hx
        obtain ⟨rfl, rfl⟩ := hx
        have := keyL_len hk
        simp [this]
      · simp at hx
  rw [lens g1, lens g2]

theorem eq_sound (hE : EnvOK P E) {t : TypeId} {x y : V} {k : Bool → R} (h : Alg.holds (eqK E t x y k)) :
    ∃ b, Alg.holds (k b) ∧ ∀ c x' y', VR c x x' → VR c y y' → (∀ op, (op = .eql ∨ op = .neq) → ∀ X Y w, (eqGuard op t X Y x' y').run P w = .ok () w) ∧
      (∀ w, (binOp .eql t x' y').run P w = .ok (.bool b) w ∧ (binOp .neq t x' y').run P w = .ok (.bool !b) w) := by
  obtain ⟨ti, hti, h'⟩ := holds_optK h
  clear h
  have h := h'
  clear h'
  have ht := hE.ty t ti hti
  split at h
  · rename_i hd
    refine ⟨_, h, fun c x' y' hx hy => ?_⟩
    rw [hx.bool_inv, hy.bool_inv]
    exact ⟨fun op ho X Y w => by rcases ho with rfl | rfl <;> simp [eqGuard], fun w => run_eql t _ _ w _ (by simp) (by simp) (by simp) (by simp) 9999 (eqI_bool ht hd 9999 _ _ w) (by omega)⟩
  · rename_i hd
    refine ⟨_, h, fun c x' y' hx hy => ?_⟩
    rw [hx.str_inv, hy.str_inv]
    exact ⟨fun op ho X Y w => by rcases ho with rfl | rfl <;> simp [eqGuard], fun w => by simp [binOp, Op.stringOp]⟩
  · rename_i cs1 cs2 hd
    obtain ⟨b, hb, h⟩ := holds_optK h
    refine ⟨b, h, fun c x' y' hx hy => ?_⟩
    obtain ⟨hf, he⟩ := eqFlat_sound ht hb c x' y' hx hy
    obtain ⟨xs, rfl, _⟩ := hx.agg_inv
    obtain ⟨ys, rfl, _⟩ := hy.agg_inv
    refine ⟨fun op ho X Y w => ?_, fun w => ⟨?_, ?_⟩⟩
    · rcases hf with ⟨_, k, hu⟩ | ⟨fs, _, hu, _, hg, _⟩ | ⟨m, e, _, hu, _, _, hg⟩
      · have := ht.und
        rw [hu, hd] at this
        cases this
      · exact run_eqGuard_agg w op t X Y xs ys hg
      · exact run_eqGuard_agg w op t X Y xs ys hg
    · rw [run_eql_struct, he 9998 w]; rfl
    · rw [run_neq_struct, he 9998 w]; rfl
  · rename_i cs1 cs2 hd
    obtain ⟨b, hb, h⟩ := holds_optK h
    refine ⟨b, h, fun c x' y' hx hy => ?_⟩
    obtain ⟨hf, he⟩ := eqFlat_sound ht hb c x' y' hx hy
    obtain ⟨xs, rfl, _⟩ := hx.agg_inv
    obtain ⟨ys, rfl, _⟩ := hy.agg_inv
    refine ⟨fun op ho X Y w => ?_, fun w => ⟨?_, ?_⟩⟩
    · rcases hf with ⟨_, k, hu⟩ | ⟨fs, _, hu, _, hg, _⟩ | ⟨m, e, _, hu, _, _, hg⟩
      · have := ht.und
        rw [hu, hd] at this
        cases this
      · exact run_eqGuard_agg w op t X Y xs ys hg
      · exact run_eqGuard_agg w op t X Y xs ys hg
    · rw [run_eql_struct, he 9998 w]; rfl
    · rw [run_neq_struct, he 9998 w]; rfl
  · rename_i hd
    have aux : ∀ (x y : V) b, Alg.holds (k b) → (∀ c x' y', VR c x x' → VR c y y' → ∃ p q : Option Addr, x' = .pointer p ∧ y' = .pointer q ∧ ((p = none ∧ q.isNone = b) ∨ (q = none ∧ p.isNone = b))) →
        ∃ b, Alg.holds (k b) ∧ ∀ c x' y', VR c x x' → VR c y y' → (∀ op, (op = .eql ∨ op = .neq) → ∀ X Y w, (eqGuard op t X Y x' y').run P w = .ok () w) ∧
          (∀ w, (binOp .eql t x' y').run P w = .ok (.bool b) w ∧ (binOp .neq t x' y').run P w = .ok (.bool !b) w) := by
      intro x y b hb hall
      refine ⟨b, hb, fun c x' y' hx hy => ?_⟩
      obtain ⟨p, q, rfl, rfl, hpq⟩ := hall c x' y' hx hy
      refine ⟨fun op ho X Y w => by rcases ho with rfl | rfl <;> simp [eqGuard], fun w => ?_⟩
      exact run_eql t _ _ w _ (by simp) (by simp) (by simp) (by simp) 9999 (eqI_ptr ht hd 9999 _ _ _ w hpq) (by omega)
    split at h
    · rename_i b h1 h2
      refine aux _ _ _ h fun c x' y' hx hy => ?_
      obtain ⟨p, rfl, hp⟩ := ptrNil_spec h1 hx
      obtain ⟨q, rfl, hq⟩ := ptrNil_spec h2 hy
      exact ⟨p, q, rfl, rfl, .inl ⟨by simpa using hp, hq⟩⟩
    · rename_i b h2 h1
      refine aux _ _ _ h fun c x' y' hx hy => ?_
      obtain ⟨p, rfl, hp⟩ := ptrNil_spec h2 hx
      obtain ⟨q, rfl, hq⟩ := ptrNil_spec h1 hy
      exact ⟨p, q, rfl, rfl, .inr ⟨by simpa using hq, hp⟩⟩
    · exact no_fail h
  · rename_i hd
    refine ⟨_, h, fun c x' y' hx hy => ?_⟩
    rw [hx.lit_inv, hy.lit_inv]
    exact ⟨fun op ho X Y w => by rcases ho with rfl | rfl <;> simp [eqGuard], fun w => run_eql t _ _ w _ (by simp) (by simp) (by simp) (by simp) 9999 (eqI_slice ht hd 9999 _ _ _ _ w) (by omega)⟩
  · exact no_fail h
end
end Go.Ab
