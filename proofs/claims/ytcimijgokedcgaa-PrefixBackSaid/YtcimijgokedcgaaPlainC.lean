/- PlainC: a part of the proof of PrefixBack. Own work. -/
import Derived.Test.YtcimijgokedcgaaPlain
set_option linter.unusedVariables false
set_option linter.unusedSimpArgs false
set_option linter.unusedSectionVars false
namespace Go.Proofs
open Go Go.Ab
set_option maxRecDepth 100000


/-- one code stands ahead of another one -/
def Ahead (a b : Nat × Nat) : Prop := a.2 ≤ b.2 ∧ (a.1 + 1) * 2 ^ (16 - a.2) ≤ b.1 * 2 ^ (16 - b.2)

theorem sumTo_nat {c : Nat → Int} (hc : countOK c) : ∀ i, i ≤ 15 → ((codeTo c i * 2 ^ (15 - i) : Nat) : Int) = sumTo c i := by
  intro i
  induction i with
  | zero => intro _; simp [codeTo, sumTo]
  | succ i ih =>
    intro hi
    have h := ih (by omega)
    obtain ⟨h0, h1⟩ := hc i (by omega)
    simp only [codeTo, sumTo]
    rw [← h]
    obtain ⟨n, hn⟩ := Int.eq_ofNat_of_zero_le h0
    rw [hn]
    simp only [Int.toNat_natCast]
    have e : 2 * (codeTo c i + n) * 2 ^ (15 - (i + 1)) = codeTo c i * 2 ^ (15 - i) + n * 2 ^ (15 - i) := by
      rw [show 15 - i = (15 - (i + 1)) + 1 by omega, Nat.pow_succ]
      generalize 2 ^ (15 - (i + 1)) = z
      rw [Nat.mul_add, Nat.add_mul, Nat.mul_comm 2 (codeTo c i), Nat.mul_comm 2 n, Nat.mul_assoc, Nat.mul_assoc, Nat.mul_comm z 2]
    rw [e]
    simp

/-- what is told of the codes of the first lengths -/
theorem codes_inv {c : Nat → Int} (hc : countOK c) : ∀ i, i ≤ 16 → (∀ p ∈ outTo c i, 1 ≤ p.2 ∧ p.2 ≤ i ∧ (((p.1 + 1) * 2 ^ (16 - p.2) : Nat) : Int) ≤ sumTo c i) ∧ (outTo c i).Pairwise Ahead := by
  intro i
  induction i with
  | zero => intro _; simp [outTo]
  | succ i ih =>
    intro hi
    obtain ⟨h1, h2⟩ := ih (by omega)
    obtain ⟨c0, c1⟩ := hc i (by omega)
    have hs := sumTo_nat hc i (by omega)
    obtain ⟨n, hn⟩ := Int.eq_ofNat_of_zero_le c0
    have hcn : (c i).toNat = n := by omega
    have hsum : sumTo c (i + 1) = ((codeTo c i * 2 ^ (15 - i) + n * 2 ^ (15 - i) : Nat) : Int) := by
      simp only [sumTo]; rw [← hs, hn]; simp
    have hp16 : 2 ^ (16 - (i + 1)) = 2 ^ (15 - i) := by congr 1; omega
    have lvlm : ∀ p ∈ lvl (codeTo c i) n i, ∃ j, j < n ∧ p = (codeTo c i + j, i + 1) := fun p hp => by
      simp only [lvl, List.mem_map, List.mem_range] at hp
      obtain ⟨j, hj, rfl⟩ := hp
      exact ⟨j, hj, rfl⟩
    have two : ∀ x : Nat, x * 2 ^ (16 - i) = x * 2 ^ (15 - i) * 2 := fun x => by rw [show 16 - i = (15 - i) + 1 by omega, Nat.pow_succ, Nat.mul_assoc]
    simp only [outTo, hcn]
    refine ⟨fun p hp => ?_, ?_⟩
    · rw [List.mem_append] at hp
      rcases hp with hp | hp
      · obtain ⟨a, b, d⟩ := h1 p hp
        refine ⟨a, by omega, ?_⟩
        rw [hsum]
        rw [← hs] at d
        have d' := Int.ofNat_le.1 d
        exact Int.ofNat_le.2 (Nat.le_trans d' (Nat.le_add_right _ _))
      · obtain ⟨j, hj, rfl⟩ := lvlm p hp
        refine ⟨by simp, by simp, ?_⟩
        rw [hsum]
        simp only
        rw [hp16, ← Nat.add_mul]
        exact Int.ofNat_le.2 (Nat.mul_le_mul_right _ (by omega))
    · rw [List.pairwise_append]
      refine ⟨h2, ?_, fun a ha b hb => ?_⟩
      · simp only [lvl, List.pairwise_map]
        refine List.Pairwise.imp ?_ (List.pairwise_lt_range (n := n))
        intro a b hab
        refine ⟨Nat.le_refl _, ?_⟩
        simp only
        exact Nat.mul_le_mul_right _ (by omega)
      · obtain ⟨j, hj, rfl⟩ := lvlm b hb
        obtain ⟨q1, q2, q3⟩ := h1 a ha
        refine ⟨by simp; omega, ?_⟩
        simp only
        rw [hp16]
        rw [← hs] at q3
        exact Nat.le_trans (Int.ofNat_le.1 q3) (Nat.mul_le_mul_right _ (by omega))

theorem codes_len {c : Nat → Int} (hc : countOK c) : ∀ i, i ≤ 16 → (((outTo c i).length : Nat) : Int) = manyTo c i := by
  intro i
  induction i with
  | zero => intro _; simp [outTo, manyTo]
  | succ i ih =>
    intro hi
    have h := ih (by omega)
    obtain ⟨c0, c1⟩ := hc i (by omega)
    simp only [outTo, manyTo, List.length_append, lvl_len]
    omega

/-- what a table's codes are -/
structure CodesOK (cs : List (Nat × Nat)) : Prop where
  one : ∀ p ∈ cs, 1 ≤ p.2 ∧ p.2 ≤ 16 ∧ p.1 + 1 < 2 ^ p.2
  ahead : cs.Pairwise Ahead

theorem codes_ok {c : Nat → Int} {s : List Int} (h : mayP c s) : CodesOK (codesL c) ∧ (codesL c).length = s.length := by
  obtain ⟨hc, hs, h1, h2, h3⟩ := h
  obtain ⟨q1, q2⟩ := codes_inv hc 16 (by omega)
  have hl := codes_len hc 16 (by omega)
  refine ⟨⟨fun p hp => ?_, q2⟩, by unfold codesL; omega⟩
  obtain ⟨a, b, d⟩ := q1 p hp
  refine ⟨a, b, ?_⟩
  have d2 : (p.1 + 1) * 2 ^ (16 - p.2) < 2 ^ 16 := by
    have : (((p.1 + 1) * 2 ^ (16 - p.2) : Nat) : Int) < ((2 ^ 16 : Nat) : Int) := by
      have e : ((2 ^ 16 : Nat) : Int) = 65536 := by decide
      omega
    exact Int.ofNat_lt.1 this
  rw [pow_split (show 16 - p.2 ≤ 16 by omega), Nat.mul_comm, show 16 - (16 - p.2) = p.2 by omega] at d2
  exact Nat.lt_of_mul_lt_mul_left d2

theorem Ahead.ne {a b : Nat × Nat} (h : Ahead a b) (hb : b.2 ≤ 16) : b.1 / 2 ^ (b.2 - a.2) ≠ a.1 := by
  obtain ⟨h1, h2⟩ := h
  intro e
  have hp : 0 < 2 ^ (b.2 - a.2) := Nat.pow_pos (by omega)
  have hlt : b.1 < (a.1 + 1) * 2 ^ (b.2 - a.2) := by
    have := Nat.lt_mul_div_succ b.1 hp
    rw [e, Nat.mul_comm] at this
    exact this
  have : b.1 * 2 ^ (16 - b.2) < (a.1 + 1) * 2 ^ (b.2 - a.2) * 2 ^ (16 - b.2) := Nat.mul_lt_mul_of_pos_right hlt (Nat.pow_pos (by omega))
  rw [Nat.mul_assoc, ← Nat.pow_add, show b.2 - a.2 + (16 - b.2) = 16 - a.2 by omega] at this
  omega

theorem CodesOK.nodup {cs : List (Nat × Nat)} (h : CodesOK cs) : cs.Nodup := by
  refine h.ahead.imp fun {a b} hab => ?_
  rintro rfl
  have := hab.2
  have : 0 < 2 ^ (16 - a.2) := Nat.pow_pos (by omega)
  have h3 := Nat.mul_lt_mul_of_pos_right (Nat.lt_succ_self a.1) this
  rw [Nat.succ_eq_add_one] at h3
  omega

theorem CodesOK.get {cs : List (Nat × Nat)} (h : CodesOK cs) {i k : Nat} (hik : i < k) (hk : k < cs.length) : Ahead (cs.getD i (0, 0)) (cs.getD k (0, 0)) := by
  have := List.pairwise_iff_getElem.1 h.ahead i k (by omega) hk hik
  rw [List.getD_eq_getElem?_getD, List.getD_eq_getElem?_getD, List.getElem?_eq_getElem (by omega), List.getElem?_eq_getElem hk]
  exact this

theorem getD_mem {α : Type} {l : List α} {i : Nat} {d : α} (h : i < l.length) : l.getD i d ∈ l := by
  rw [List.getD_eq_getElem?_getD, List.getElem?_eq_getElem h]; simp

/-- of a code's bits, fewer ones are no code -/
theorem CodesOK.short {cs : List (Nat × Nat)} (h : CodesOK cs) {j : Nat} (hj : j < cs.length) {v n : Nat} (hv : cs.getD j (0, 0) = (v, n)) {i : Nat} (hi : i < n) : (v / 2 ^ (n - i), i) ∉ cs := by
  intro hm
  obtain ⟨k, hk, e⟩ := List.getElem_of_mem hm
  have ek : cs.getD k (0, 0) = (v / 2 ^ (n - i), i) := by rw [List.getD_eq_getElem?_getD, List.getElem?_eq_getElem hk]; simpa using e
  have hn := (h.one _ (getD_mem (d := (0, 0)) hj)).2.1
  rw [hv] at hn
  rcases Nat.lt_trichotomy k j with hkj | hkj | hkj
  · have := (h.get hkj hj).ne (by rw [hv]; exact hn)
    rw [hv, ek] at this
    exact this rfl
  · subst hkj
    rw [hv] at ek
    simp only [Prod.mk.injEq] at ek
    omega
  · have := (h.get hkj hk).1
    rw [hv, ek] at this
    simp only at this
    omega
end Go.Proofs
