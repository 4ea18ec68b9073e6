/- What a seat's table is proved by. Own work. -/
import Derived.Test.YtcimijgokedcgaaAbRun
set_option linter.unusedVariables false
set_option linter.unusedSimpArgs false
set_option linter.unusedSectionVars false
namespace Go.Ab
open Go

def T.For {α : Type} (Q : Nat → α → Prop) : T α → Nat → Nat → Nat → Prop
  | .leaf v, 0, _, o => Q o v
  | .node l r, w + 1, m, o => l.For Q w (2 * m) o ∧ r.For Q w (2 * m) (o + m)
  | _, _, _, _ => True

theorem T.For.get {α : Type} {Q : Nat → α → Prop} : ∀ (w : Nat) {t : T α} {m o : Nat}, t.For Q w m o → ∀ n, n < 2 ^ w → ∀ v, t.get (bits w n) = some v → Q (o + m * n) v := by
  intro w
  induction w with
  | zero =>
    intro t m o h n hn v hg
    have : n = 0 := by simpa using hn
    subst this
    cases t <;> simp [bits, T.get] at hg
    subst hg
    simpa [T.For] using h
  | succ w ih =>
    intro t m o h n hn v hg
    cases t with
    | nil => simp [bits, T.get] at hg
    | leaf => simp [bits, T.get] at hg
    | node l r =>
      simp only [T.For] at h
      simp only [bits, T.get] at hg
      have hd := Nat.div_add_mod n 2
      have hlt : n / 2 < 2 ^ w := by rw [Nat.pow_succ] at hn; omega
      cases hb : Nat.beq (n % 2) 1 with
      | true =>
        rw [hb] at hg
        have h1 : n % 2 = 1 := by rw [← Nat.beq_eq]; exact hb
        have := ih h.2 (n / 2) hlt v hg
        have e : o + m + 2 * m * (n / 2) = o + m * n := by
          have : m * n = m * (2 * (n / 2) + 1) := by rw [← h1, hd]
          rw [this, Nat.mul_add, Nat.mul_one]
          have : 2 * m * (n / 2) = m * (2 * (n / 2)) := by rw [Nat.mul_comm 2 m, Nat.mul_assoc]
          omega
        rwa [e] at this
      | false =>
        rw [hb] at hg
        have h1 : n % 2 = 0 := by
          have : ¬ n % 2 = 1 := fun h => by rw [← Nat.beq_eq, hb] at h; cases h
          omega
        have := ih h.1 (n / 2) hlt v hg
        have e : o + 2 * m * (n / 2) = o + m * n := by
          have : m * n = m * (2 * (n / 2)) := by congr 1; omega
          rw [this]
          have : 2 * m * (n / 2) = m * (2 * (n / 2)) := by rw [Nat.mul_comm 2 m, Nat.mul_assoc]
          omega
        rwa [e] at this

theorem findM_mem {name : String} : ∀ {ms : List (String × FuncId × Bool)} {r : FuncId × Bool}, findM name ms = some r → (name, r) ∈ ms := by
  intro ms
  induction ms with
  | nil => intro r h; simp [findM] at h
  | cons m ms ih =>
    obtain ⟨n, q⟩ := m
    intro r h
    simp only [findM] at h
    split at h
    · rename_i he
      simp only [Option.some.injEq] at h
      have : n = name := eq_of_beq he
      subst this h
      exact List.mem_cons_self
    · exact List.mem_cons_of_mem _ (ih h)

theorem TyOK.of {P : Program} {t : TypeId} {ti : TI} {i : TypeInfo} {z : Value} (hu : P.underlying t = some ti.d) (hi : P.info? t = some i) (h1 : i.size = ti.size) (h2 : i.bytes = ti.bytes) (hz : i.zero = some z)
    (hzl : ti.zero = z.cells.toList.map (ofValue 0)) (hlen : ti.zero.length = ti.size) (ha : (aggB ti.d = true → z = .agg z.cells) ∧ (aggB ti.d = false → z.cells = #[z])) (hf : ti.flat = 0 ∨ FlatP P t ti.flat)
    (hm : ∀ p ∈ ti.methods, ∃ m, i.methods.find? (·.name == p.1) = some m ∧ m.path = #[] ∧ m.func = some p.2) : TyOK P t ti where
  und := hu
  info := ⟨i, z, hi, h1, h2, hz, fun c => by
    rw [hzl]
    refine ⟨by simp, fun j hj => ?_⟩
    have hj' : j < z.cells.size := by simpa using hj
    have := ofValue_rel c 0 z.cells[j]
    simpa [List.getD_eq_getElem?_getD, Array.getD, hj'] using this, ha, hlen⟩
  flat := hf
  meth j hj name f ptr hfm := by
    rw [hi] at hj
    cases hj
    exact hm _ (findM_mem hfm)

theorem EnvOK.of {P : Program} {E : Env} (ht : E.ty.For (TyOK P) 12 1 0) (hf : E.fns.For (fun f fn => P.funcs[f]? = some fn ∧ fn.body.isSome = true ∧ (fn.name == "runtime.NumGoroutine") = false) 12 1 0)
    (hw : P.follows .mixedOrders = true) : EnvOK P E where
  ty t ti h := by
    unfold Env.ti at h
    split at h <;> try cases h
    rename_i hb
    have hb : (show Nat from t) ≤ 4095 := Nat.le_of_ble_eq_true hb
    have := T.For.get 12 ht t (Nat.lt_succ_of_le hb) ti h
    simpa using this
  fns f fn hlt h := by
    have := T.For.get 12 hf f hlt fn h
    simpa using this
  wide := hw
end Go.Ab
