/- Maps whose keys are numbers, or rows of numbers. Own work. -/
import Derived.Test.YtcimijgokedcgaaAbOps
set_option linter.unusedVariables false
set_option linter.unusedSimpArgs false
set_option linter.unusedSectionVars false
namespace Go.Ab
open Go Go.RowKit
section
variable {R : Type} [Alg R] {P : Program} {E : Env}

theorem keyV_one {x : Value} {s : List Nat} {l : List Int} (h : keyV x = some (s, l)) (h1 : s.length = 1) : ∃ k m, x = .int k m ∧ s = [ikIdx k] ∧ l = [m] := by
  cases x <;> try (simp [keyV] at h; done)
  · simp [keyV] at h
    exact ⟨_, _, rfl, h.1.symm, h.2.symm⟩
  · simp only [keyV] at h
    split at h <;> simp at h
    rw [← h.1] at h1
    simp at h1

theorem keyV_agg {x : Value} {s : List Nat} {l : List Int} (h : keyV x = some (s, l)) (h1 : 2 ≤ s.length) : ∃ cs s', x = .agg cs ∧ s = 8 :: 8 :: s' ∧ keyL cs.toList = some (s', l) := by
  cases x <;> try (simp [keyV] at h; done)
  · simp [keyV] at h
    rw [← h.1] at h1
    simp at h1
  · rename_i cs
    simp only [keyV] at h
    split at h
    · rename_i s' l' hk
      simp at h
      obtain ⟨rfl, rfl⟩ := h
      exact ⟨cs, s', rfl, rfl, hk⟩
    · simp at h

theorem keyL_get : ∀ {xs : List Value} {s : List Nat} {l : List Int}, keyL xs = some (s, l) → ∀ i (h : i < xs.length), ∃ k n, xs[i] = .int k n := by
  intro xs
  induction xs with
  | nil => intro s l _ i h; simp at h
  | cons x xs ih =>
    intro s l h i hi
    obtain ⟨k, n, s', l', e, _, _, h'⟩ := keyL_cons h
    cases i with
    | zero => exact ⟨k, n, e⟩
    | succ i => simpa using ih h' i (by simpa using hi)

theorem checkKey_flat {t : TypeId} {n d : Nat} (h : FlatP P t n) {x : Value} {s : List Nat} {a : List Int} (hn : s.length = n) (hx : keyV x = some (s, a)) (em : Bool) (w : World) :
    (Instr.checkKey em (d + 2) t x).run P w = .ok () w := by
  rcases h with ⟨rfl, k0, hu⟩ | ⟨fs, rfl, hu, hst, _, hf⟩ | ⟨m, e, rfl, hu, ⟨k0, he⟩, ⟨inf, hi1, hi2⟩, _⟩
  · obtain ⟨k, m, rfl, _, _⟩ := keyV_one hx hn
    unfold Instr.checkKey
    simp [underlying, hu]
  · obtain ⟨cs, s', rfl, rfl, hk⟩ := keyV_agg hx (by omega)
    have hl := keyL_len hk
    unfold Instr.checkKey
    simp only [Sem.run_bind, underlying, run_program, hu, Result.andThen_ok, Sem.run_pure]
    rw [← Array.forIn_toList]
    have key : ∀ (gs : List Field) (i : Nat), (∀ j (h : j < gs.length), gs[j].name ≠ "_" ∧ gs[j].offset = i + j ∧ ∃ k, P.underlying gs[j].type = some (.int k)) → i + gs.length ≤ cs.size →
        Sem.run P (do
          forIn gs PUnit.unit fun f _ => do
            if f.name ≠ "_" then do
                let v ← part f.type cs f.offset
                Instr.checkKey em (d + 1) f.type v
                pure PUnit.unit
                pure (ForInStep.yield PUnit.unit)
              else do
                pure PUnit.unit
                pure (ForInStep.yield PUnit.unit)) w = .ok PUnit.unit w := by
      intro gs
      induction gs with
      | nil => intro i _ _; simp
      | cons f gs ih =>
        intro i hg hsz
        obtain ⟨h1, h2, k0, h3⟩ := hg 0 (by simp)
        simp only [List.getElem_cons_zero, Nat.add_zero] at h1 h2 h3
        simp only [List.length_cons] at hsz
        have hi : i < cs.size := by omega
        obtain ⟨k, m, e⟩ := keyL_get hk i (by simpa using hi)
        have p := part_int (P := P) h3 cs i (.int k m) (by simp at e; simp [hi, e]) w
        have rec' := ih (i + 1) (fun j hj => by
          have := hg (j + 1) (by simp; omega)
          simp only [List.getElem_cons_succ] at this
          exact ⟨this.1, by rw [this.2.1]; omega, this.2.2⟩) (by omega)
        have ck : (Instr.checkKey em (d + 1) f.type (.int k m)).run P w = .ok () w := by
          unfold Instr.checkKey
          simp [underlying, h3]
        simp only [List.forIn_cons, Sem.run_bind, h1, ne_eq, not_false_eq_true, if_true, h2, p, Result.andThen_ok, ck, Sem.run_pure]
        simpa using rec'
    have := key fs.toList 0 (fun j hj => by
      have hj' : j < fs.size := by simpa using hj
      have := hf j hj'
      simpa using this) (by simp at hn hl ⊢; omega)
    simp at this ⊢
    rw [this]; rfl
  · obtain ⟨cs, s', rfl, rfl, hk⟩ := keyV_agg hx (by omega)
    have hl := keyL_len hk
    have hsz : ∀ w, (sizeOf e).run P w = .ok 1 w := fun w => by simp [sizeOf, typeInfo, hi1, hi2]
    have key : ∀ (q i : Nat), i + q ≤ cs.size → Sem.run P (forIn (List.range' i q) PUnit.unit fun i _ => do
        let n ← sizeOf e
        let v ← part e cs (i * n)
        Instr.checkKey em (d + 1) e v
        pure (ForInStep.yield PUnit.unit)) w = .ok PUnit.unit w := by
      intro q
      induction q with
      | zero => intro i _; simp
      | succ q ih =>
        intro i hq
        have hi : i < cs.size := by omega
        obtain ⟨k, v, ev⟩ := keyL_get hk i (by simpa using hi)
        have p := part_int (P := P) he cs i (.int k v) (by simp at ev; simp [hi, ev]) w
        have ck : (Instr.checkKey em (d + 1) e (.int k v)).run P w = .ok () w := by
          unfold Instr.checkKey
          simp [underlying, he]
        have rec' := ih (i + 1) (by omega)
        simp only [List.range'_succ, List.forIn_cons, Sem.run_bind, hsz, Nat.mul_one, p, Result.andThen_ok, ck, Sem.run_pure]
        simpa using rec'
    have := key m 0 (by simp at hn hl ⊢; omega)
    unfold Instr.checkKey
    simp only [Sem.run_bind, underlying, run_program, hu, Result.andThen_ok, Sem.run_pure, hsz, Nat.mul_one]
    simp only [Std.Legacy.Range.forIn_eq_forIn_range', Std.Legacy.Range.size, Nat.sub_zero, Nat.add_one_sub_one, Nat.div_one]
    simp at this ⊢
    rw [this]; rfl

theorem findNow_int {k0 k : IntKind} {m : Int} : ∀ (es : List ME) (xs : List MapEntry) (i : Nat) (r : Option (Nat × ME)), es.length = xs.length →
    (∀ j (h : j < es.length) (h' : j < xs.length), keyV xs[j].key = some (es[j].sig, es[j].key)) → findME [ikIdx k] [m] es i = some r →
    Instr.findNow (.int k0) (.int k m) xs i = some (r.map fun p => (p.1, (xs.getD (p.1 - i) default).val)) ∧ ∀ p, r = some p → i ≤ p.1 ∧ es[p.1 - i]? = some p.2 ∧ p.2.sig = [ikIdx k] ∧ p.2.key = [m] := by
  intro es
  induction es with
  | nil =>
    intro xs i r hl _ h
    cases xs with
    | nil => simp [findME] at h; subst h; simp [Instr.findNow]
    | cons => simp at hl
  | cons e es ih =>
    intro xs i r hl hrel h
    cases xs with
    | nil => simp at hl
    | cons x xs =>
      have h0 := hrel 0 (by simp) (by simp)
      simp only [List.getElem_cons_zero] at h0
      simp only [findME] at h
      split at h <;> try cases h
      rename_i hs
      have hs := natsEq_spec hs
      obtain ⟨k', m', e1, e2, e3⟩ := keyV_one h0 (by rw [← hs]; rfl)
      rw [e2] at hs
      simp at hs
      have hs := ikIdx_inj hs
      subst hs
      simp only [Instr.findNow, e1, Instr.sameNow, if_true]
      rw [intsEq_eq, e3] at h
      by_cases hm : m = m'
      · subst hm
        simp only [BEq.rfl] at h
        simp only [Option.some.injEq] at h
        subst h
        simp [e2, e3]
      · have hb : (([m] : List Int) == [m']) = false := by simp [hm]
        have hb2 : (m == m') = false := by simp [hm]
        rw [hb] at h
        simp only [hb2]
        obtain ⟨g1, g2⟩ := ih xs (i + 1) r (by simpa using hl) (fun j hj hj' => hrel (j + 1) (by simp; omega) (by simp; omega)) h
        have conv : ∀ p, r = some p → i + 1 ≤ p.1 → p.1 - i = (p.1 - (i + 1)) + 1 := fun p _ hp => by omega
        refine ⟨?_, fun p hp => ?_⟩
        · rw [g1]
          cases r with
          | none => rfl
          | some p =>
            obtain ⟨q1, _⟩ := g2 p rfl
            simp only [Option.map_some]
            rw [conv p rfl q1]
            simp
        · obtain ⟨q1, q2, q3, q4⟩ := g2 p hp
          refine ⟨by omega, ?_, q3, q4⟩
          rw [conv p hp q1]
          simpa using q2

theorem findAsk {kt : TypeId} {n : Nat} (hf : FlatP P kt n) {K : Value} {sg : List Nat} {kk : List Int} (hn : sg.length = n) (hK : keyV K = some (sg, kk)) (w : World) : ∀ (es : List ME) (xs : List MapEntry) (i : Nat) (r : Option (Nat × ME)), es.length = xs.length →
    (∀ j (h : j < es.length) (h' : j < xs.length), keyV xs[j].key = some (es[j].sig, es[j].key)) → findME sg kk es i = some r →
    (Instr.findAsking kt K xs i).run P w = .ok (r.map fun p => (p.1, (xs.getD (p.1 - i) default).val)) w ∧ ∀ p, r = some p → i ≤ p.1 ∧ es[p.1 - i]? = some p.2 ∧ p.2.sig = sg ∧ p.2.key = kk := by
  intro es
  induction es with
  | nil =>
    intro xs i r hl _ h
    cases xs with
    | nil => simp [findME] at h; subst h; simp [Instr.findAsking]
    | cons => simp at hl
  | cons e es ih =>
    intro xs i r hl hrel h
    cases xs with
    | nil => simp at hl
    | cons x xs =>
      have h0 := hrel 0 (by simp) (by simp)
      simp only [List.getElem_cons_zero] at h0
      simp only [findME] at h
      split at h <;> try cases h
      rename_i hs
      have hs := natsEq_spec hs
      rw [← hs] at h0
      have he := equal_flat (P := P) (d := 9998) hf hn hK h0 w
      have he' : (Op.equal kt K x.key).run P w = .ok (kk == e.key) w := he
      rw [intsEq_eq] at h
      simp only [Instr.findAsking, Sem.run_bind, he', Result.andThen_ok]
      cases hm : kk == e.key with
      | true =>
        rw [hm] at h
        simp only [Option.some.injEq] at h
        subst h
        have := eq_of_beq hm
        simp [hs, this]
      | false =>
        rw [hm] at h
        simp only [Bool.false_eq_true, if_false]
        obtain ⟨g1, g2⟩ := ih xs (i + 1) r (by simpa using hl) (fun j hj hj' => hrel (j + 1) (by simp; omega) (by simp; omega)) h
        have conv : ∀ p, r = some p → i + 1 ≤ p.1 → p.1 - i = (p.1 - (i + 1)) + 1 := fun p _ hp => by omega
        refine ⟨?_, fun p hp => ?_⟩
        · rw [g1]
          cases r with
          | none => rfl
          | some p =>
            obtain ⟨q1, _⟩ := g2 p rfl
            simp only [Option.map_some]
            rw [conv p rfl q1]
            simp
        · obtain ⟨q1, q2, q3, q4⟩ := g2 p hp
          refine ⟨by omega, ?_, q3, q4⟩
          rw [conv p hp q1]
          simpa using q2

theorem findKey_sound {kt : TypeId} {n : Nat} (hf : FlatP P kt n) {K : Value} {sg : List Nat} {kk : List Int} (hn : sg.length = n) (hK : keyV K = some (sg, kk)) (w : World) {es : List ME} {xs : List MapEntry} {r : Option (Nat × ME)} (hl : es.length = xs.length)
    (hrel : ∀ j (h : j < es.length) (h' : j < xs.length), keyV xs[j].key = some (es[j].sig, es[j].key)) (h : findME sg kk es 0 = some r) :
    (Instr.findKey kt K xs).run P w = .ok (r.map fun p => (p.1, (xs.getD p.1 default).val)) w ∧ ∀ p, r = some p → es[p.1]? = some p.2 ∧ p.2.sig = sg ∧ p.2.key = kk := by
  have ask := findAsk (P := P) hf hn hK w es xs 0 r hl hrel h
  simp only [Nat.sub_zero] at ask
  refine ⟨?_, fun p hp => (ask.2 p hp).2⟩
  rcases hf with ⟨rfl, k0, hu⟩ | ⟨fs, rfl, hu, hst, hg, hf'⟩ | ⟨m, e, rfl, hu, _, _, _⟩
  · obtain ⟨k, m, rfl, rfl, rfl⟩ := keyV_one hK hn
    have := (findNow_int (k0 := k0) es xs 0 r hl hrel h).1
    simp only [Nat.sub_zero] at this
    simp [Instr.findKey, underlying, hu, this]
  · obtain ⟨cs, s', rfl, rfl, _⟩ := keyV_agg hK (by omega)
    cases xs with
    | nil =>
      have : es = [] := List.length_eq_zero_iff.1 hl
      subst this
      simp [findME] at h
      subst h
      simp [Instr.findKey, underlying, hu, Instr.findNow]
    | cons x xs =>
      have : Instr.findNow (.struct fs) (.agg cs) (x :: xs) 0 = none := by simp [Instr.findNow, Instr.sameNow]
      simp only [Instr.findKey, underlying, Sem.run_bind, run_program, hu, Result.andThen_ok, Sem.run_pure, this]
      exact ask.1
  · obtain ⟨cs, s', rfl, rfl, _⟩ := keyV_agg hK (by omega)
    cases xs with
    | nil =>
      have : es = [] := List.length_eq_zero_iff.1 hl
      subst this
      simp [findME] at h
      subst h
      simp [Instr.findKey, underlying, hu, Instr.findNow]
    | cons x xs =>
      have : Instr.findNow (.array m e) (.agg cs) (x :: xs) 0 = none := by simp [Instr.findNow, Instr.sameNow]
      simp only [Instr.findKey, underlying, Sem.run_bind, run_program, hu, Result.andThen_ok, Sem.run_pure, this]
      exact ask.1

theorem sameBits_int (n : Nat) (k : IntKind) (m : Int) : Instr.sameBits n (.int k m) (.int k m) = true := by
  cases n <;> simp [Instr.sameBits]

theorem keyL_inj : ∀ {xs ys : List Value} {s : List Nat} {l : List Int}, keyL xs = some (s, l) → keyL ys = some (s, l) → xs = ys := by
  intro xs
  induction xs with
  | nil =>
    intro ys s l h1 h2
    simp [keyL] at h1
    obtain ⟨rfl, rfl⟩ := h1
    have := (keyL_len h2).1
    exact (List.length_eq_zero_iff.1 this.symm).symm
  | cons x xs ih =>
    intro ys s l h1 h2
    cases ys with
    | nil =>
      have a := (keyL_len h1).1
      have b := (keyL_len h2).1
      rw [a] at b; simp at b
    | cons y ys =>
      obtain ⟨k, n, s', l', rfl, rfl, rfl, h1'⟩ := keyL_cons h1
      obtain ⟨k2, n2, s2, l2, rfl, e1, e2, h2'⟩ := keyL_cons h2
      simp only [List.cons.injEq] at e1 e2
      obtain ⟨e1, rfl⟩ := e1
      obtain ⟨rfl, rfl⟩ := e2
      rw [ikIdx_inj e1, ih h1' h2']

theorem keyV_inj {x y : Value} {s : List Nat} {l : List Int} (hx : keyV x = some (s, l)) (hy : keyV y = some (s, l)) : x = y := by
  by_cases h : s.length = 1
  · obtain ⟨k, m, rfl, rfl, rfl⟩ := keyV_one hx h
    obtain ⟨k2, m2, rfl, e1, e2⟩ := keyV_one hy h
    simp at e1 e2
    rw [ikIdx_inj e1, e2]
  · have : 2 ≤ s.length := by
      cases x <;> try (simp [keyV] at hx; done)
      · simp [keyV] at hx; rw [← hx.1] at h; simp at h
      · simp only [keyV] at hx
        split at hx <;> simp at hx
        rw [← hx.1]; simp
    obtain ⟨xs, s', rfl, rfl, h1⟩ := keyV_agg hx this
    obtain ⟨ys, s2, rfl, e, h2⟩ := keyV_agg hy this
    simp at e
    subst e
    have := keyL_inj h1 h2
    congr 1
    exact Array.toList_inj.1 this

theorem stays {x y : Value} {s : List Nat} {l : List Int} (hx : keyV x = some (s, l)) (hy : keyV y = some (s, l)) (w : World) : (Instr.keyThatStays x y).run P w = .ok y w := by
  have e := keyV_inj hx hy
  subst e
  have : Instr.sameBits 10000 x x = true := by
    by_cases h : s.length = 1
    · obtain ⟨k, m, rfl, _, _⟩ := keyV_one hx h
      exact sameBits_int _ _ _
    · cases x with
      | int k m => exact sameBits_int _ _ _
      | agg cs =>
        simp only [keyV] at hx
        split at hx <;> simp at hx
        rename_i s' l' hk
        simp only [Instr.sameBits, Bool.and_eq_true, List.all_eq_true, BEq.rfl, true_and]
        intro p hp
        obtain ⟨i, hi, rfl⟩ := List.getElem_of_mem hp
        simp only [List.length_zip, Nat.min_self] at hi
        obtain ⟨k, n, e⟩ := keyL_get hk i hi
        simp only [List.getElem_zip, e]
        exact sameBits_int _ _ _
      | _ => simp [keyV] at hx
  simp [Instr.keyThatStays, this]

theorem keyK_sound (hE : EnvOK P E) {kt : TypeId} {v : V} {k : List Nat → List Int → R} (h : Alg.holds (keyK E kt v k)) :
    ∃ s l n, Alg.holds (k s l) ∧ FlatP P kt n ∧ s.length = n ∧ ∀ c x, VR c v x → keyV x = some (s, l) := by
  obtain ⟨ti, hti, h⟩ := holds_optK h
  obtain ⟨⟨s, l⟩, hs, h⟩ := holds_optK h
  have ht := hE.ty kt ti hti
  dsimp only at h
  split at h <;> try exact no_fail h
  rename_i hb
  rw [Nat.beq_eq] at hb
  have hne : ti.flat ≠ 0 := by
    rw [← hb]
    intro h0
    have : s = [] := List.length_eq_zero_iff.1 h0
    subst this
    cases v <;> simp [keyOf] at hs
    split at hs <;> simp at hs
  exact ⟨s, l, _, h, ht.flat.resolve_left hne, hb, fun c x hx => keyV_rel hx hs⟩
end
end Go.Ab
