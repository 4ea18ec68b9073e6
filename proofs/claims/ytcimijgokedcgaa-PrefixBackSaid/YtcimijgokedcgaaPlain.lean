/- Plain: a part of the proof of PrefixBack. Own work. -/
import Derived.Test.YtcimijgokedcgaaPfxK
set_option linter.unusedVariables false
set_option linter.unusedSimpArgs false
set_option linter.unusedSectionVars false
namespace Go.Proofs
open Go Go.Ab
set_option maxRecDepth 100000


theorem pow_split {a b : Nat} (h : b ≤ a) : 2 ^ a = 2 ^ b * 2 ^ (a - b) := by rw [← Nat.pow_add]; congr 1; omega

/-- what is put behind does not change the bytes ahead -/
theorem div_ahead (X n z e : Nat) (hz : z < 2 ^ n) : (X * 2 ^ n + z) / 2 ^ (n + e) = X / 2 ^ e := by
  rw [Nat.pow_add, ← Nat.div_div_eq_div_mul, Nat.mul_comm X, Nat.mul_add_div (Nat.pow_pos (by omega)), Nat.div_eq_of_lt hz, Nat.add_zero]

theorem mod_behind (Q R M e k : Nat) (h : e + k ≤ M) : (Q * 2 ^ M + R) / 2 ^ e % 2 ^ k = R / 2 ^ e % 2 ^ k := by
  have e1 : Q * 2 ^ M + R = 2 ^ e * (2 ^ k * (2 ^ (M - e - k) * Q)) + R := by
    rw [pow_split (show e ≤ M by omega), pow_split (show k ≤ M - e by omega)]
    rw [show M - e - k = M - e - k from rfl]
    congr 1
    simp only [Nat.mul_comm, Nat.mul_left_comm]
  rw [e1, Nat.mul_add_div (Nat.pow_pos (by omega)), Nat.add_comm, Nat.add_mul_mod_self_left]

theorem bytesOf_get (R m i j : Nat) (hj : j < i) : (bytesOf R m i).getD j 0 = ((R / 2 ^ (m - 8 * (j + 1)) % 256 : Nat) : Int) := by
  simp [bytesOf, List.getD_eq_getElem?_getD, hj]

/-- a writer's state, by what was put, as a number of m bits -/
theorem put_eq (X m v n : Nat) (hv : v < 2 ^ n) :
    (X % 2 ^ (m % 8)) * 2 ^ n ||| v % 2 ^ n = (X % 2 ^ (m % 8)) * 2 ^ n + v ∧
    bytesOf X m (m / 8) ++ bytesOf ((X % 2 ^ (m % 8)) * 2 ^ n + v) (m % 8 + n) ((m % 8 + n) / 8) = bytesOf (X * 2 ^ n + v) (m + n) ((m + n) / 8) ∧
    ((X % 2 ^ (m % 8)) * 2 ^ n + v) % 2 ^ ((m % 8 + n) % 8) = (X * 2 ^ n + v) % 2 ^ ((m + n) % 8) ∧ (m % 8 + n) % 8 = (m + n) % 8 := by
  have hQ : X * 2 ^ n + v = (X / 2 ^ (m % 8)) * 2 ^ (m % 8 + n) + ((X % 2 ^ (m % 8)) * 2 ^ n + v) := by
    have := Nat.div_add_mod X (2 ^ (m % 8))
    conv => lhs; rw [← this]
    rw [Nat.add_mul, Nat.pow_add, Nat.add_assoc]
    congr 1
    simp only [Nat.mul_comm, Nat.mul_left_comm]
  refine ⟨?_, ?_, ?_, by omega⟩
  · rw [Nat.mod_eq_of_lt hv]
    have := Nat.shiftLeft_add_eq_or_of_lt hv (X % 2 ^ (m % 8))
    rw [Nat.shiftLeft_eq] at this
    exact this.symm
  · apply List.ext_getElem
    · simp [bytesOf_len]; omega
    · intro j h1 h2
      have hj : j < (m + n) / 8 := by simpa [bytesOf_len] using h2
      rw [List.getElem_append]
      split
      · rename_i hlt
        have hlt : j < m / 8 := by simpa [bytesOf_len] using hlt
        simp only [bytesOf, List.getElem_map, List.getElem_range]
        rw [show m + n - 8 * (j + 1) = n + (m - 8 * (j + 1)) by omega, div_ahead X n v _ hv]
      · rename_i hge
        have hge : m / 8 ≤ j := by simpa [bytesOf_len] using hge
        simp only [bytesOf, List.getElem_map, List.getElem_range, List.length_map, List.length_range]
        rw [hQ]
        have hb := mod_behind (X / 2 ^ (m % 8)) ((X % 2 ^ (m % 8)) * 2 ^ n + v) (m % 8 + n) (m + n - 8 * (j + 1)) 8 (by omega)
        rw [show (2 : Nat) ^ 8 = 256 from rfl] at hb
        rw [hb, show m % 8 + n - 8 * (j - m / 8 + 1) = m + n - 8 * (j + 1) by omega]
  · rw [hQ, show (m % 8 + n) % 8 = (m + n) % 8 by omega]
    have hb := mod_behind (X / 2 ^ (m % 8)) ((X % 2 ^ (m % 8)) * 2 ^ n + v) (m % 8 + n) 0 ((m + n) % 8) (by omega)
    simpa using hb.symm

theorem done_eq (X m : Nat) : doneL (bytesOf X m (m / 8)) (X % 2 ^ (m % 8)) (m % 8) = bytesOf (X * 2 ^ ((8 - m % 8) % 8) + (2 ^ ((8 - m % 8) % 8) - 1)) (m + (8 - m % 8) % 8) ((m + (8 - m % 8) % 8) / 8) := by
  unfold doneL
  split
  · rename_i h
    simp [h]
  · rename_i h
    have hf : (8 - m % 8) % 8 = 8 - m % 8 := by omega
    rw [hf]
    have hpos : 0 < 2 ^ (8 - m % 8) := Nat.pow_pos (by omega)
    obtain ⟨_, e2, _, _⟩ := put_eq X m (2 ^ (8 - m % 8) - 1) (8 - m % 8) (by omega)
    rw [← e2]
    congr 1
    have hr : X % 2 ^ (m % 8) < 2 ^ (m % 8) := Nat.mod_lt _ (Nat.pow_pos (by omega))
    have hlt : X % 2 ^ (m % 8) * 2 ^ (8 - m % 8) + 2 ^ (8 - m % 8) ≤ 256 := by
      have : (X % 2 ^ (m % 8) + 1) * 2 ^ (8 - m % 8) ≤ 2 ^ (m % 8) * 2 ^ (8 - m % 8) := Nat.mul_le_mul_right _ hr
      rw [← Nat.pow_add, show m % 8 + (8 - m % 8) = 8 by omega, Nat.add_mul] at this
      omega
    rw [show (m % 8 + (8 - m % 8)) / 8 = 1 by omega, show m % 8 + (8 - m % 8) = 8 by omega]
    simp only [bytesOf, List.range_one, List.map_cons, List.map_nil, Nat.zero_add, Nat.mul_one, Nat.sub_self, Nat.pow_zero, Nat.div_one]
    rw [Nat.mod_eq_of_lt (a := X % 2 ^ (m % 8) * 2 ^ (8 - m % 8) + (2 ^ (8 - m % 8) - 1)) (b := 256) (by omega)]

theorem isByte_bytesOf (R m i : Nat) : isByte (bytesOf R m i) := by
  intro j
  by_cases hj : j < i
  · rw [bytesOf_get R m i j hj]
    have := Nat.mod_lt (R / 2 ^ (m - 8 * (j + 1))) (show 256 > 0 by omega)
    omega
  · rw [List.getD_eq_getElem?_getD, List.getElem?_eq_none (by rw [bytesOf_len]; omega)]; simp

theorem bitAt_eq (Y M p : Nat) (hM : M % 8 = 0) (hp : p < M) : bitAt (bytesOf Y M (M / 8)) p = Y / 2 ^ (M - 1 - p) % 2 := by
  unfold bitAt
  rw [bytesOf_get _ _ _ _ (by omega)]
  simp only [Int.toNat_natCast]
  rw [show M - 1 - p = (M - 8 * (p / 8 + 1)) + (7 - p % 8) by omega, Nat.pow_add, ← Nat.div_div_eq_div_mul]
  generalize Y / 2 ^ (M - 8 * (p / 8 + 1)) = Z
  have h1 : Z = Z / 256 * 2 ^ 8 + Z % 256 := by have := Nat.div_add_mod Z 256; omega
  have hb := mod_behind (Z / 256) (Z % 256) 8 (7 - p % 8) 1 (by omega)
  rw [← h1] at hb
  simpa using hb.symm

theorem takeV_eq (Y M p : Nat) (hM : M % 8 = 0) : ∀ i, p + i ≤ M → takeV (bytesOf Y M (M / 8)) p i = Y / 2 ^ (M - p - i) % 2 ^ i := by
  intro i
  induction i with
  | zero => intro _; simp [takeV, Nat.mod_one]
  | succ i ih =>
    intro h
    rw [takeV, ih (by omega), bitAt_eq Y M (p + i) hM (by omega)]
    rw [show M - 1 - (p + i) = M - p - (i + 1) by omega]
    have e : Y / 2 ^ (M - p - i) = Y / 2 ^ (M - p - (i + 1)) / 2 := by
      rw [Nat.div_div_eq_div_mul, ← Nat.pow_succ]; congr 2; omega
    rw [e]
    generalize Y / 2 ^ (M - p - (i + 1)) = Z
    rw [Nat.pow_succ, Nat.mul_comm (2 ^ i) 2, Nat.mod_mul]
    omega

/-- what is put, as a number, and how long it is -/
def sx : List (Nat × Nat) → Nat
  | [] => 0
  | p :: q => p.1 * 2 ^ ((q.map (·.2)).sum) + sx q
def sm (q : List (Nat × Nat)) : Nat := (q.map (·.2)).sum
theorem sm_app (a b : List (Nat × Nat)) : sm (a ++ b) = sm a + sm b := by simp [sm]
theorem sx_app (a b : List (Nat × Nat)) : sx (a ++ b) = sx a * 2 ^ sm b + sx b := by
  induction a with
  | nil => simp [sx]
  | cons p a ih =>
    simp only [List.cons_append, sx, ih]
    have : ((a ++ b).map (·.2)).sum = (a.map (·.2)).sum + sm b := by simp [sm]
    rw [this, Nat.pow_add, Nat.add_mul, Nat.mul_assoc, Nat.add_assoc]
theorem sx_lt (q : List (Nat × Nat)) (h : ∀ p ∈ q, p.1 < 2 ^ p.2) : sx q < 2 ^ sm q := by
  induction q with
  | nil => simp [sx, sm]
  | cons p q ih =>
    have h1 := ih fun p hp => h p (by simp [hp])
    have h2 := h p (by simp)
    simp only [sx, sm, List.map_cons, List.sum_cons, Nat.pow_add]
    have h3 : (p.1 + 1) * 2 ^ (q.map (·.2)).sum ≤ 2 ^ p.2 * 2 ^ (q.map (·.2)).sum := Nat.mul_le_mul_right _ h2
    rw [Nat.add_mul] at h3
    unfold sm at h1
    omega

/-- What is read at a code's place: its bits. -/
theorem read_back (a b : List (Nat × Nat)) (v n : Nat) (hv : v < 2 ^ n) (hb : ∀ p ∈ b, p.1 < 2 ^ p.2) (f i : Nat) (hi : i ≤ n) (hM : (sm (a ++ (v, n) :: b) + f) % 8 = 0) :
    takeV (bytesOf (sx (a ++ (v, n) :: b) * 2 ^ f + (2 ^ f - 1)) (sm (a ++ (v, n) :: b) + f) ((sm (a ++ (v, n) :: b) + f) / 8)) (sm a) i = v / 2 ^ (n - i) := by
  have hsm : sm (a ++ (v, n) :: b) = sm a + n + sm b := by simp [sm]; omega
  have hpos : 0 < 2 ^ f := Nat.pow_pos (by omega)
  rw [takeV_eq _ _ _ hM i (by omega)]
  have hsx : sx (a ++ (v, n) :: b) = (sx a * 2 ^ n + v) * 2 ^ sm b + sx b := by
    rw [sx_app]
    simp only [sx]
    have : sm ((v, n) :: b) = n + sm b := by simp [sm]
    rw [this, Nat.pow_add, Nat.add_mul, ← Nat.mul_assoc]
    unfold sm
    omega
  have hlt : sx b * 2 ^ f + (2 ^ f - 1) < 2 ^ (sm b + f) := by
    have h1 := sx_lt b hb
    rw [Nat.pow_add]
    have h3 : (sx b + 1) * 2 ^ f ≤ 2 ^ sm b * 2 ^ f := Nat.mul_le_mul_right _ h1
    rw [Nat.add_mul] at h3
    omega
  have e1 : sx (a ++ (v, n) :: b) * 2 ^ f + (2 ^ f - 1) = (sx a * 2 ^ n + v) * 2 ^ (sm b + f) + (sx b * 2 ^ f + (2 ^ f - 1)) := by
    rw [hsx, Nat.add_mul, Nat.mul_assoc, ← Nat.pow_add, Nat.add_assoc]
  rw [e1, hsm, show sm a + n + sm b + f - sm a - i = (sm b + f) + (n - i) by omega, div_ahead _ _ _ _ hlt]
  have e2 : (sx a * 2 ^ n + v) / 2 ^ (n - i) % 2 ^ i = v / 2 ^ (n - i) % 2 ^ i := mod_behind _ _ _ _ _ (by omega)
  rw [e2, Nat.mod_eq_of_lt]
  rw [Nat.div_lt_iff_lt_mul (Nat.pow_pos (by omega)), ← Nat.pow_add]
  rwa [show i + (n - i) = n by omega]

/-- behind what was put are 1s alone -/
theorem read_rest (q : List (Nat × Nat)) (f k : Nat) (hM : (sm q + f) % 8 = 0) (h1 : sm q ≤ k) (h2 : k < sm q + f) :
    bitAt (bytesOf (sx q * 2 ^ f + (2 ^ f - 1)) (sm q + f) ((sm q + f) / 8)) k = 1 := by
  rw [bitAt_eq _ _ _ hM h2]
  have e := mod_behind (sx q) (2 ^ f - 1) f (sm q + f - 1 - k) 1 (by omega)
  rw [Nat.pow_one] at e
  rw [e]
  have hd : f = (sm q + f - 1 - k) + (f - (sm q + f - 1 - k)) := by omega
  have hd0 : 0 < f - (sm q + f - 1 - k) := by omega
  generalize sm q + f - 1 - k = a at *
  generalize f - a = d at *
  clear e
  subst hd
  have hpa : 0 < 2 ^ a := Nat.pow_pos (by omega)
  have hpd : 0 < 2 ^ d := Nat.pow_pos (by omega)
  have e3 : (2 ^ (a + d) - 1) / 2 ^ a = 2 ^ d - 1 := by
    rw [Nat.pow_add]
    apply Nat.div_eq_of_lt_le
    · rw [Nat.sub_mul, Nat.one_mul, Nat.mul_comm (2 ^ d)]; omega
    · rw [show 2 ^ d - 1 + 1 = 2 ^ d by omega, Nat.mul_comm (2 ^ d) (2 ^ a)]
      have : 0 < 2 ^ a * 2 ^ d := Nat.mul_pos hpa hpd
      omega
  rw [e3]
  obtain ⟨d, rfl⟩ : ∃ e, d = e + 1 := ⟨d - 1, by omega⟩
  have h2 : 2 ^ (d + 1) = 2 * 2 ^ d := by rw [Nat.pow_succ, Nat.mul_comm]
  have : 0 < 2 ^ d := Nat.pow_pos (by omega)
  rw [h2]
  generalize 2 ^ d = z at *
  omega
end Go.Proofs
