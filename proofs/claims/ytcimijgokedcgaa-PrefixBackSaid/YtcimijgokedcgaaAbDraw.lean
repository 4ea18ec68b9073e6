/- Regions: the theorem. Own work. -/
import Derived.Test.YtcimijgokedcgaaAbRegion
set_option linter.unusedVariables false
set_option linter.unusedSimpArgs false
set_option linter.unusedSectionVars false
namespace Go.Ab
open Go Go.RowKit
section
variable {R : Type} [Alg R] {P : Program} {E : Env}

theorem wpOp_false {ops : Array Oper} {i : Nat} {a : Act} {w : World} : ¬ wpOp P ops (fun _ _ _ => False) i (fun _ _ => False) a w := by
  intro h
  unfold wpOp at h
  split at h
  · exact h
  · split at h
    · rcases h with h | ⟨_, _, _, h⟩
      · unfold Oper.wp at h
        generalize (execOp a.eval _).run P w = r at h
        unfold Oper.upon at h
        split at h
        · exact h
        · exact h
        · exact h
        · obtain ⟨e, w', fr, h1, _⟩ := h []
          cases e with
          | returned v => exact h1
          | panicked ch => exact h1
          | outgrown => obtain ⟨_, _, h1⟩ := h1; exact h1
        · obtain ⟨v, w', h1, _⟩ := h default []
          exact h1
        · exact h
        · exact h
      · exact h
    · exact h

theorem StepTo.conc {fs : Nat} {ops : Array Oper} {i : Nat} {st st' : St} (h : StepTo P fs ops i st st') (hc : Conc fs st) : Conc fs st' := by
  apply Classical.byContradiction
  intro hn
  obtain ⟨c, a, hr⟩ := hc
  exact wpOp_false (h c a hr (fun _ _ _ => False) (fun _ _ => False) fun c' a' _ hr' => hn ⟨c', a', hr'⟩)

theorem masks_keep : ∀ (os : List Oper) (acc : List Nat) (k : Nat), k < acc.length → (masks os acc).getD k 0 = acc.getD k 0 := by
  intro os
  induction os with
  | nil => intro acc k _; rfl
  | cons o os ih =>
    intro acc k hk
    simp only [masks]
    rw [ih _ k (by simp; omega)]
    simp only [List.getD_eq_getElem?_getD]
    rw [List.getElem?_append_left hk]

theorem masks_at : ∀ (os : List Oper) (acc : List Nat) (j : Nat) (o : Oper), os[j]? = some o →
    ∃ acc' : List Nat, (masks os acc).getD (acc.length + j) 0 = maskOf acc' o ∧ acc'.length = acc.length + j ∧ ∀ k, k < acc'.length → acc'.getD k 0 = (masks os acc).getD k 0 := by
  intro os
  induction os with
  | nil => intro acc j o h; simp at h
  | cons x os ih =>
    intro acc j o h
    cases j with
    | zero =>
      simp only [List.getElem?_cons_zero, Option.some.injEq] at h
      subst h
      refine ⟨acc, ?_, by simp, fun k hk => (masks_keep _ _ _ hk).symm⟩
      simp only [masks, Nat.add_zero]
      rw [masks_keep _ _ _ (by simp)]
      simp [List.getD_eq_getElem?_getD]
    | succ j =>
      obtain ⟨acc', h1, h2, h3⟩ := ih (acc ++ [maskOf acc x]) j o (by simpa using h)
      refine ⟨acc', ?_, by rw [h2]; simp; omega, h3⟩
      rw [← h1]
      simp only [masks, List.length_append, List.length_cons, List.length_nil]
      congr 1
      omega

theorem fold_bit (acc : List Nat) (i : Nat) : ∀ (es : List Edge) (s : Nat), (es.foldl (fun s e => match Region.binds .any e with
    | true => s ||| 2 ^ e.on ||| acc.getD e.on 0
    | false => s) s).testBit i = true → s.testBit i = true ∨ ∃ e ∈ es, Region.binds .any e = true ∧ (e.on = i ∨ (acc.getD e.on 0).testBit i = true) := by
  intro es
  induction es with
  | nil => intro s h; exact .inl h
  | cons e es ih =>
    intro s h
    simp only [List.foldl_cons] at h
    rcases ih _ h with h1 | ⟨e', he', h1⟩
    · cases hb : Region.binds .any e with
      | false => simp only [hb] at h1; exact .inl h1
      | true =>
        simp only [hb, Nat.testBit_or, Bool.or_eq_true] at h1
        rcases h1 with (h1 | h1) | h1
        · exact .inl h1
        · rw [Nat.testBit_two_pow] at h1
          exact .inr ⟨e, by simp, hb, .inl (by simpa using h1)⟩
        · exact .inr ⟨e, by simp, hb, .inr h1⟩
    · exact .inr ⟨e', by simp [he'], h1⟩

/-- the operations that have come up are closed under what they wait for -/
def Closed (ops : Array Oper) (listed : Array Bool) : Prop :=
  ∀ j oj, ops[j]? = some oj → listed.getD j false = true → ∀ e ∈ oj.after, Region.binds .any e = true → listed.getD e.on false = true

theorem waits_listed {ops : Array Oper} {listed : Array Bool} (hcl : Closed ops listed) (i : Nat) : ∀ (n j : Nat) (oj : Oper), j < n → ops[j]? = some oj →
    (∀ e ∈ oj.after, Region.binds .any e = true → listed.getD e.on false = true) → ((masks ops.toList []).getD j 0).testBit i = true → listed.getD i false = true := by
  intro n
  induction n with
  | zero => intro j _ h; omega
  | succ n ih =>
    intro j oj hj ho hall hb
    obtain ⟨acc', h1, h2, h3⟩ := masks_at ops.toList [] j oj (by simpa using ho)
    simp only [List.length_nil, Nat.zero_add] at h1 h2
    rw [h1, maskOf] at hb
    rcases fold_bit acc' i oj.after.toList 0 hb with h | ⟨e, he, hbe, h | h⟩
    · simp at h
    · rw [← h]; exact hall e (by simpa using he) hbe
    · have he' := hall e (by simpa using he) hbe
      have hlt : e.on < acc'.length := by
        rcases Nat.lt_or_ge e.on acc'.length with h' | h'
        · exact h'
        · rw [List.getD_eq_getElem?_getD, List.getElem?_eq_none h'] at h; simp at h
      rw [h3 _ hlt] at h
      cases hoe : ops[e.on]? with
      | none =>
        obtain ⟨acc2, _⟩ : True := trivial
        exfalso
        have hs : ops.size ≤ e.on := by simpa using hoe
        have hjs : j < ops.size := by
          rcases Nat.lt_or_ge j ops.size with h' | h'
          · exact h'
          · simp [Array.getElem?_eq_none h'] at ho
        omega
      | some oe => exact ih e.on oe (by omega) hoe (hcl e.on oe hoe he') h

theorem Closed.add {ops : Array Oper} {listed : Array Bool} (h : Closed ops listed) {i : Nat} (hi : i ∈ Region.ready .any ops listed) : Closed ops (listed.setIfInBounds i true) := by
  intro j oj hj hl e he hb
  by_cases e' : j = i
  · subst e'
    obtain ⟨_, o, ho, hall⟩ := mem_ready.1 hi
    rw [hj] at ho
    cases ho
    exact getD_set_true (hall e he hb)
  · rw [getD_set_ne false (Ne.symm e')] at hl
    exact getD_set_true (h j oj hj hl e he hb)

theorem AAny.first {fs : Nat} {ops : Array Oper} {base : Nat} {Q : St → Prop} {i : Nat} {oi : Oper} (hi : ops[i]? = some oi) :
    ∀ (fuel : Nat) (listed : Array Bool) (st st1 : St), Closed ops listed → Conc fs st →
      (∀ j oj, ops[j]? = some oj → j ≠ i → listed.getD j true = false → ((masks ops.toList []).getD j 0).testBit i = false → oi.apart ops oj = true ∧ freeCls (clsD E oi.op) (clsD E oj.op) = true) →
      i ∈ Region.ready .any ops listed → Fact P fs ops oi base (base + i) st (clsD E oi.op) st1 →
      AAny P E fs ops base Q fuel (listed.setIfInBounds i true) st1 → AAny P E fs ops base Q (fuel + 1) listed st := by
  intro fuel
  induction fuel with
  | zero =>
    intro listed st st1 hcl hc hfree hr hf H
    refine ⟨fun h => (by rw [h] at hr; cases hr), fun j hj oj hoj => ?_⟩
    by_cases hji : j = i
    · subst hji
      rw [hi] at hoj; cases hoj
      exact ⟨st1, hf, H⟩
    · have := ready_mono hj hji
      rw [H.1] at this
      cases this
  | succ fuel ih =>
    intro listed st st1 hcl hc hfree hr hf H
    refine ⟨fun h => (by rw [h] at hr; cases hr), fun j hj oj hoj => ?_⟩
    by_cases hji : j = i
    · subst hji
      rw [hi] at hoj; cases hoj
      exact ⟨st1, hf, H⟩
    · obtain ⟨st2, hf2, H2⟩ := H.2 j (ready_mono hj hji) oj hoj
      obtain ⟨hjun, oj', hoj', hall⟩ := mem_ready.1 hj
      rw [hoj] at hoj'; cases hoj'
      have hiun := (mem_ready.1 hr).1
      have hnw : ((masks ops.toList []).getD j 0).testBit i = false := by
        apply Bool.eq_false_iff.2
        intro hb
        have hb' := waits_listed hcl i (j + 1) j oj (by omega) hoj hall hb
        have hlt : i < listed.size := by
          rcases Nat.lt_or_ge i listed.size with h' | h'
          · exact h'
          · simp [Array.getElem?_eq_none h'] at hb'
        simp [hlt] at hiun hb'
        rw [hiun] at hb'; cases hb'
      obtain ⟨hap, hfr⟩ := hfree j oj hoj hji hjun hnw
      obtain ⟨s, g1, g2⟩ := Fact.swap hc hap hfr (by omega) hf hf2
      refine ⟨s, g1, ih (listed.setIfInBounds j true) s st2 (hcl.add hj) ((g1.step hoj).conc hc) ?_ (ready_mono hr (Ne.symm hji)) g2 ?_⟩
      · intro k ok hk hki hun hnb
        refine hfree k ok hk hki ?_ hnb
        by_cases hjk : j = k
        · subst hjk; exact hjun
        · rw [getD_set_ne true hjk] at hun; exact hun
      · rw [Array.setIfInBounds_comm _ _ hji]
        exact H2

/-- the operations in the order of the text -/
def Chain (P : Program) (E : Env) (fs : Nat) (ops : Array Oper) (base : Nat) : Nat → List Oper → St → St → Prop
  | _, [], st, st' => st' = st
  | k, o :: os, st, st' => ∃ s, Fact P fs ops o base (base + k) st (clsD E o.op) s ∧ Chain P E fs ops base (k + 1) os s st'

theorem AAny.lex {fs : Nat} {ops : Array Oper} {base : Nat} {Q : St → Prop} : ∀ (l : List Oper) (k : Nat) (listed : Array Bool) (st st' : St), (∀ j, l[j]? = ops[k + j]?) → Closed ops listed → Conc fs st →
    (∀ j, j < k → listed.getD j true = true) → drawFrom E ops (masks ops.toList []) l.length k listed = true → Chain P E fs ops base k l st st' → Q st' → AAny P E fs ops base Q l.length listed st := by
  intro l
  induction l with
  | nil =>
    intro k listed st st' _ _ _ _ hd hc hq
    simp only [Chain] at hc
    subst hc
    exact ⟨by simpa [drawFrom] using hd, hq⟩
  | cons o l ih =>
    intro k listed st st' hl hcl hco hlist hd hc hq
    have h0 : ops[k]? = some o := by simpa using (hl 0).symm
    obtain ⟨s, hf, hch⟩ := hc
    simp only [List.length_cons, drawFrom, h0, Bool.and_eq_true] at hd
    obtain ⟨⟨hr, hall⟩, hd'⟩ := hd
    have hr : k ∈ Region.ready .any ops listed := by simpa using hr
    refine AAny.first h0 l.length listed st s hcl hco ?_ hr hf (ih (k + 1) _ s st' (fun j => by have := hl (j + 1); simpa [Nat.add_assoc, Nat.add_comm 1 j] using this) (hcl.add hr) ((hf.step h0).conc hco) ?_ hd' hch hq)
    · intro j oj hj hjk hun hnb
      have hjs : j < ops.size := by
        rcases Nat.lt_or_ge j ops.size with h' | h'
        · exact h'
        · simp [Array.getElem?_eq_none h'] at hj
      have := List.all_eq_true.1 hall j (by simpa using hjs)
      simp only [Bool.or_eq_true, hj, hnb, Bool.false_eq_true, false_or, Bool.and_eq_true] at this
      rcases this with h | h
      · have hle := Nat.le_of_ble_eq_true h
        have := hlist j (by omega)
        rw [this] at hun; cases hun
      · exact h
    · intro j hj
      by_cases e : j = k
      · subst e
        by_cases hs : j < listed.size
        · simp [hs]
        · simp [hs]
      · rw [getD_set_ne true (Ne.symm e)]
        exact hlist j (by omega)
end
end Go.Ab
