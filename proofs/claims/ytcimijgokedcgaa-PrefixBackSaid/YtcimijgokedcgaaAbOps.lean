/- One operation, a row of operations. Own work. -/
import Derived.Test.YtcimijgokedcgaaAbTmp2
import Derived.Orders
set_option linter.unusedVariables false
set_option linter.unusedSimpArgs false
set_option linter.unusedSectionVars false
namespace Go.Ab
open Go Go.RowKit
section
variable {R : Type} [Alg R] {P : Program} {E : Env}

theorem ofValue_rel (c : Cfg) : ∀ (n : Nat) (v : Value), VR c (ofValue n v) v := by
  intro n
  induction n with
  | zero => intro v; cases v <;> first | exact .bool _ | exact .int _ _ | exact .str _ | exact .lit _
  | succ n ih =>
    have row : ∀ cs : Array Value, (cs.toList.map (ofValue n)).length = cs.size ∧ ∀ i, i < (cs.toList.map (ofValue n)).length → VR c ((cs.toList.map (ofValue n)).getD i .junk) (cs.getD i undef) := fun cs => by
      refine ⟨by simp, fun i hi => ?_⟩
      have hi' : i < cs.size := by simpa using hi
      have := ih cs[i]
      simpa [List.getD_eq_getElem?_getD, Array.getD, hi'] using this
    intro v
    cases v with
    | agg cs => exact .agg (row cs).1 (row cs).2
    | tuple cs => exact .tup (row cs).1 (row cs).2
    | _ => first | exact .bool _ | exact .int _ _ | exact .str _ | exact .lit _

structure Rel (fs : Nat) (st : St) (c : Cfg) (a : Act) : Prop where
  hp : HRel st.hp c
  size : a.tmps.size = fs
  defers : a.defers = []
  tm : ∀ t : Nat, t < 512 → VR c (opd st.tm (.tmp t)) (a.tmps.getD t undef)

theorem Rel.opd {fs : Nat} {st : St} {c : Cfg} {a : Act} (h : Rel fs st c a) (x : Operand) : VR c (opd st.tm x) (a.eval x) := by
  cases x with
  | tmp t =>
    by_cases ht : (show Nat from t) < 512
    · exact h.tm t ht
    · have : Nat.ble t 511 = false := Bool.eq_false_iff.2 fun hb => ht (Nat.lt_succ_of_le (Nat.le_of_ble_eq_true hb))
      simp only [Ab.opd, this]
      exact .junk _
  | const v => exact ofValue_rel c 4 v
  | global g => exact .junk _
  | func f => exact .fn rfl (fun i hi => by simp at hi) rfl (fun i hi => by simp at hi)

theorem Rel.ext {fs : Nat} {st : St} {c c' : Cfg} {a : Act} (h : Rel fs st c a) (he : Ext c c') {h' : Heap} (hh : HRel h' c') : Rel fs ⟨st.tm, h'⟩ c' a :=
  ⟨hh, h.size, h.defers, fun t ht => (h.tm t ht).mono h.hp.ok he⟩

theorem ble_lt {t n : Nat} (h : Nat.ble t n = true) : t < n + 1 := by rw [Nat.ble_eq] at h; omega

theorem setTm_sound {fs : Nat} {st : St} {dst : Option Tmp} {v : V} {k : St → R} (h : Alg.holds (setTmK fs st dst v k)) :
    ∃ st', Alg.holds (k st') ∧ st'.hp = st.hp ∧ ∀ c a v', Rel fs st c a → VR c v v' → Rel fs st' c (a.put dst v') := by
  cases dst with
  | none => exact ⟨st, h, rfl, fun c a v' hr _ => hr⟩
  | some d =>
    simp only [setTmK] at h
    split at h <;> try exact no_fail h
    rename_i hd
    simp only [Bool.and_eq_true] at hd
    have hd1' : d < fs := Nat.le_of_ble_eq_true hd.1
    have hd2 : (show Nat from d) ≤ 511 := Nat.le_of_ble_eq_true hd.2
    have hd3 : (show Nat from d) < 2 ^ 9 := Nat.lt_succ_of_le hd2
    rw [forceK_eq, T.setK_eq] at h
    refine ⟨_, h, rfl, fun c a v' hr hv => ⟨hr.hp, ?_, hr.defers, fun t ht => ?_⟩⟩
    · simp [Act.put, hr.size]
    · have hble : Nat.ble t 511 = true := Nat.ble_eq_true_of_le (Nat.le_of_lt_succ ht)
      by_cases e : t = d
      · subst e
        have hlt : t < a.tmps.size := by rw [hr.size]; exact hd1'
        simp only [Ab.opd, hble, T.get_set_self]
        simpa [Act.put, Array.getD, hlt] using hv
      · have e1 : (st.tm.set (bits 9 d) v).get (bits 9 t) = st.tm.get (bits 9 t) :=
          T.get_set_ne _ _ _ (fun hb => e (bits_inj 9 _ _ hd3 ht hb).symm) (by simp [bits_length]) _
        have := hr.tm t ht
        simp only [Ab.opd, hble] at this ⊢
        rw [e1]
        simp only [Act.put, Array.getD_eq_getD_getElem?] at this ⊢
        rw [Array.getElem?_setIfInBounds_ne (Ne.symm e)]
        exact this

/-- What an operation does to the heap, with what it yields. -/
def OpTo (P : Program) (o : Oper) (ρ : Operand → V) (h : Heap) (v : V) (h' : Heap) : Prop :=
  ∀ (c : Cfg) (a : Act), HRel h c → (∀ x ∈ o.op.operands, VR c (ρ x) (a.eval x)) → ∀ (K : Act → World → Prop) (Q : Exit → Act → World → Prop),
    (∀ v' c', Ext c c' → HRel h' c' → VR c' v v' → K (a.put o.dst v') c'.w) → o.wp P a c.w K Q

theorem OpTo.of_value {o : Oper} {ρ : Operand → V} {h h' : Heap} {v : V}
    (H : ∀ (c : Cfg) (a : Act), HRel h c → (∀ x ∈ o.op.operands, VR c (ρ x) (a.eval x)) → ∃ v' c', (execOp a.eval o).run P c.w = .ok (.value v') c'.w ∧ Ext c c' ∧ HRel h' c' ∧ VR c' v v') : OpTo P o ρ h v h' := by
  intro c a hh hρ K Q hK
  obtain ⟨v', c', h1, h2, h3, h4⟩ := H c a hh hρ
  unfold Oper.wp
  rw [h1, Oper.upon_value]
  exact hK v' c' h2 h3 h4

theorem OpTo.of_skip {o : Oper} {ρ : Operand → V} {h h' : Heap}
    (H : ∀ (c : Cfg) (a : Act), HRel h c → (∀ x ∈ o.op.operands, VR c (ρ x) (a.eval x)) → ∃ c', (execOp a.eval o).run P c.w = .ok .skip c'.w ∧ Ext c c' ∧ HRel h' c') : OpTo P o ρ h .junk h' := by
  intro c a hh hρ K Q hK
  obtain ⟨c', h1, h2, h3⟩ := H c a hh hρ
  unfold Oper.wp
  rw [h1, Oper.upon_skip]
  exact hK _ c' h2 h3 (.junk _)

theorem TmpTo.op {o : Oper} {ρ : Operand → V} {v : V} (h : TmpTo P o.op ρ v) (hp : Heap) : OpTo P o ρ hp v hp :=
  OpTo.of_value fun c a hh hρ =>
    let ⟨v', h1, h2⟩ := h c a.eval o rfl hρ
    ⟨v', c, h1 c.w, Ext.refl c, hh, h2⟩

/-- the objects that a value names outright -/
def ment : V → Nat → Prop
  | .ptr id _, x | .bptr id _ _ _ _, x | .bv id _ _ _ _ _, x | .av id _ _ _ _, x | .map id, x | .iter id, x => id = x
  | _, _ => False

theorem VR.ment {c : Cfg} {v : V} {x : Value} (h : VR c v x) {id : Nat} (hm : ment v id) : ∃ p, c.pl id = some p := by
  cases h <;> first | exact hm.elim | (simp only [Ab.ment] at hm; subst hm; exact ⟨_, by assumption⟩)

def RdTo (P : Program) (o : Oper) (ρ : Operand → V) (h : Heap) (v : V) : Prop :=
  ∀ h' : Heap, (∀ x ∈ o.op.operands, ∀ id, ment (ρ x) id → h'.get id = h.get id) → OpTo P o ρ h' v h'

def AlTo (P : Program) (o : Oper) (ρ : Operand → V) (id : Nat) (v : V) (ob : Ob) : Prop :=
  ∀ h h' : Heap, h.get id = none → id < 65536 → h'.get id = some ob → (∀ i, i < 65536 → i ≠ id → h'.get i = h.get i) → h.nx ≤ h'.nx → id < h'.nx → OpTo P o ρ h v h'

/-- A call. -/
def CallTo (P : Program) (f : FuncId) (args : List V) (h : Heap) (v : V) (h' : Heap) : Prop :=
  ∀ (c : Cfg) (xs : Array Value), HRel h c → VRs c args xs → Calls P f xs c.w (fun e w' => ∃ v' c', e = .returned v' ∧ c'.w = w' ∧ Ext c c' ∧ HRel h' c' ∧ VR c' v v')

/-- A call that leaves the heap alone. -/
def PCallTo (P : Program) (f : FuncId) (args : List V) (v : V) : Prop := ∀ h, CallTo P f args h v h

def GoodΓ (P : Program) (Γ : CallF R) : Prop := ∀ f args h k, Alg.holds (Γ f args h k) → ∃ v h', Alg.holds (k v h') ∧ CallTo P f args h v h' ∧ h.nx ≤ h'.nx
/-- A call that only reads: what is below 'fl' in 'h'. -/
def DCallTo (P : Program) (f : FuncId) (args : List V) (fl : Nat) (h : Heap) (v : V) : Prop :=
  ∀ H : Heap, (∀ j o, j < fl → j < 65536 → h.get j = some o → H.get j = some o) → CallTo P f args H v H
theorem PCallTo.deep {P : Program} {f : FuncId} {args : List V} {v : V} (hc : PCallTo P f args v) (fl : Nat) (h : Heap) : DCallTo P f args fl h v := fun H _ => hc H
theorem DCallTo.here {P : Program} {f : FuncId} {args : List V} {fl : Nat} {h : Heap} {v : V} (hc : DCallTo P f args fl h v) : CallTo P f args h v h := hc h fun _ _ _ _ hg => hg

def GoodΓp (P : Program) (Γp : PureF R) : Prop := ∀ f args h fl k, Alg.holds (Γp f args h fl k) → ∃ v, Alg.holds (k v) ∧ DCallTo P f args fl h v

/-- Whom a call calls, with what: in whatever heap looks the same. -/
def CalleeTo (P : Program) (cl : Call) (ρ : Operand → V) (h : Heap) (f : FuncId) (as : List V) : Prop :=
  ∀ (c : Cfg) (ρ' : Operand → Value) (ty : TypeId), HRel h c → (∀ f, ρ' (.func f) = .func (.func f) #[] #[]) → (∀ x ∈ cl.operands, VR c (ρ x) (ρ' x)) → ∃ xs, VRs c as xs ∧
    (do let d ← resolve ρ' cl ty; invoke d.target d.args : Sem Next).run P c.w = .ok (.enter f xs) c.w

theorem CallTo.op {o : Oper} {cl : Call} (ho : o.op = .call cl) {ρ : Operand → V} {f : FuncId} {as : List V} {h h' : Heap} {v : V} (hc : CallTo P f as h v h')
    (H : CalleeTo P cl ρ h f as) : OpTo P o ρ h v h' := by
  intro c a hh hρ K Q hK
  obtain ⟨xs, h1, h2⟩ := H c a.eval o.type hh (fun _ => rfl) fun x hx => hρ x (by rw [ho]; exact hx)
  unfold Oper.wp
  have e : execOp a.eval o = (do let d ← resolve a.eval cl o.type; invoke d.target d.args) := by simp only [execOp, ho]
  rw [e, h2, Oper.upon_enter]
  refine (hc c xs hh h1).mono ?_
  rintro en w' ⟨v', c', rfl, rfl, h3, h4, h5⟩
  exact hK v' c' h3 h4 h5

/-- One operation of a region comes up. -/
def StepTo (P : Program) (fs : Nat) (ops : Array Oper) (i : Nat) (st st' : St) : Prop :=
  ∀ (c : Cfg) (a : Act), Rel fs st c a → ∀ (Q : Exit → Act → World → Prop) (K : Act → World → Prop),
    (∀ c' a', Ext c c' → Rel fs st' c' a' → K a' c'.w) → wpOp P ops Q i K a c.w

theorem OpTo.step {fs : Nat} {ops : Array Oper} {i : Nat} {o : Oper} (hi : ops[i]? = some o) {st st' : St} {v : V} {h' : Heap}
    (hw : ∀ c a, Rel fs st c a → Region.wanted o (yielded ops a.tmps) = true) (h : OpTo P o (opd st.tm) st.hp v h')
    (hput : ∀ c a v', Rel fs ⟨st.tm, h'⟩ c a → VR c v v' → Rel fs st' c (a.put o.dst v')) : StepTo P fs ops i st st' := by
  intro c a hr Q K hK
  unfold wpOp
  simp only [hi, hw c a hr, if_true]
  exact .inl (h c a hr.hp (fun x _ => hr.opd x) K Q fun v' c' he hh hv => hK c' _ he (hput c' a v' (hr.ext he hh) hv))

theorem guard_sound {fs : Nat} {ops : Array Oper} {st : St} {o : Oper} {yes no : Unit → R} (h : Alg.holds (guardK ops.toList st.tm o.guard yes no)) :
    (Alg.holds (yes ()) ∧ ∀ c a, Rel fs st c a → Region.wanted o (yielded ops a.tmps) = true) ∨
    (Alg.holds (no ()) ∧ ∀ c a, Rel fs st c a → Region.wanted o (yielded ops a.tmps) = false) := by
  unfold guardK at h
  cases hg : o.guard with
  | none =>
    simp only [hg] at h
    exact .inl ⟨h, fun c a _ => by simp [Region.wanted, hg]⟩
  | some g =>
    obtain ⟨j, want⟩ := g
    simp only [hg] at h
    cases hj : ops.toList[j]? with
    | none => simp only [hj] at h; exact no_fail h
    | some oj =>
      simp only [hj] at h
      have hj' : ops[j]? = some oj := by simpa using hj
      cases hd : oj.dst with
      | none => simp only [hd] at h; exact no_fail h
      | some d =>
        simp only [hd] at h
        cases hv : opd st.tm (.tmp d) with
        | bool b =>
          simp only [hv] at h
          have key : ∀ c a, Rel fs st c a → Region.wanted o (yielded ops a.tmps) = (b == want) := fun c a hr => by
            have := hr.opd (.tmp d)
            rw [hv] at this
            have e := this.bool_inv
            have e2 : a.tmps.getD d undef = .bool b := e
            have e3 : a.tmps[d]? = some (.bool b) := by
              rw [Array.getD_eq_getD_getElem?] at e2
              cases hq : a.tmps[d]? with
              | none => rw [hq] at e2; simp [undef] at e2
              | some y => rw [hq] at e2; simp only [Option.getD_some] at e2; rw [e2]
            have hy : yielded ops a.tmps j = some b := by simp [yielded, hj', hd, e3]
            simp [Region.wanted, hg, hy]
          cases b <;> cases want <;> dsimp only at h <;> (first | replace h := brK_t h | replace h := brK_f h)
          · exact .inl ⟨h, fun c a hr => by rw [key c a hr]; rfl⟩
          · exact .inr ⟨h, fun c a hr => by rw [key c a hr]; rfl⟩
          · exact .inr ⟨h, fun c a hr => by rw [key c a hr]; rfl⟩
          · exact .inl ⟨h, fun c a hr => by rw [key c a hr]; rfl⟩
        | _ => simp only [hv] at h; exact no_fail h
end
end Go.Ab
