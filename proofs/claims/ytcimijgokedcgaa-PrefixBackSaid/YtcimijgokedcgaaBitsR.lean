/- BitsR: a part of the proof of PrefixBack. Own work. -/
import Derived.Test.YtcimijgokedcgaaBitsW
set_option linter.unusedVariables false
set_option linter.unusedSimpArgs false
set_option linter.unusedSectionVars false
namespace Go.Proofs
open Go Go.Ab
set_option maxRecDepth 100000


theorem Len_ct (l : List Int) (rest many : Nat) (hl : l.length ≤ 2 ^ 40) (hm : many ≤ 2 ^ 40) :
    CallTo Try.prog 7 [.ptr 0 0] (hpN 2 (wrO l rest many)) (.int .i64 ((8 * l.length + many : Nat) : Int)) (hpN 2 (wrO l rest many)) := by
  have pu := eI_pure .u8
  refine call_step Try.ESOK Try.func7 [] [] ?_
  ((try (conv => whnf)); repeat ((first | exact True.intro | refine br_t ?_ | (with_reducible refine ix_nat ?_) | (with_reducible refine ix_lit _ ?_) | (with_reducible refine ix_add 1 ?_) | (with_reducible refine ix_add 2 ?_) | refine sIx ?_ | refine opt_in rfl ?_ | refine br_f ?_ | refine sNum ?_ | refine num0_out ?_ | refine sDt ?_ | refine sDf ?_ | refine sNt ?_ | refine sNf ?_ | refine sBt ?_ | refine sBf ?_ | refine sOb ?_ | refine sRw ?_); try (conv => whnf)))

theorem Clip_ct (l : List Int) : CallTo Try.prog 23 [.bv 0 l.length 1 0 l.length none] (hpN 1 [bufI .u8 l]) (.bv 0 l.length 1 0 l.length (some l.length)) (hpN 1 [bufI .u8 l]) := by
  have pu := eI_pure .u8
  refine call_step Try.ESOK Try.func23 [] [] ?_
  ((try (conv => whnf)); repeat ((first | exact True.intro | refine br_t ?_ | (with_reducible refine ix_nat ?_) | (with_reducible refine ix_lit _ ?_) | (with_reducible refine ix_add 1 ?_) | (with_reducible refine ix_add 2 ?_) | refine sIx ?_ | refine opt_in rfl ?_ | refine br_f ?_ | refine sNum ?_ | refine num0_out ?_ | refine sDt ?_ | refine sDf ?_ | refine sNt ?_ | refine sNf ?_ | refine sBt ?_ | refine sBf ?_ | refine sOb ?_ | refine sRw ?_); try (conv => whnf)))

def doneL (l : List Int) (rest many : Nat) : List Int := if many = 0 then l else l ++ [((rest * 2 ^ (8 - many) + (2 ^ (8 - many) - 1) : Nat) : Int)]

theorem Done_ct (l : List Int) (rest many : Nat) (hl : l.length ≤ 2 ^ 39) (hm : many < 8) (hr : rest < 2 ^ many) :
    CallTo Try.prog 10 [.ptr 0 0] (hpN 2 (wrO l rest many)) (islI .u8 (stuff (doneL l rest many))) (hpN 2 (wrO l rest many)) := by
  have pu := eI_pure .u8
  by_cases h0 : many = 0
  · subst h0
    have e : doneL l rest 0 = l := by simp [doneL]
    rw [e]
    refine call_step Try.ESOK Try.func10 [] [2] ?_
    ((try (conv => whnf)); repeat ((first | exact True.intro | refine br_t ?_ | (with_reducible refine ix_nat ?_) | (with_reducible refine ix_lit _ ?_) | (with_reducible refine ix_add 1 ?_) | (with_reducible refine ix_add 2 ?_) | refine sIx ?_ | refine opt_in rfl ?_ | refine br_f ?_ | refine sNum ?_ | refine num0_out ?_ | refine sDt ?_ | refine sDf ?_ | refine sNt ?_ | refine sNf ?_ | refine sBt ?_ | refine sBf ?_ | refine sOb ?_ | refine sRw ?_); try (conv => whnf)))
    refine lift_use [1] 1 1 (Stuff_ct l (by omega)) rfl rfl (by kernel_rfl) ?_ ?_
    · ((try (conv => whnf)); repeat ((first | exact True.intro | refine br_t ?_ | (with_reducible refine ix_nat ?_) | (with_reducible refine ix_lit _ ?_) | (with_reducible refine ix_add 1 ?_) | (with_reducible refine ix_add 2 ?_) | refine sIx ?_ | refine opt_in rfl ?_ | refine br_f ?_ | refine sNum ?_ | refine num0_out ?_ | refine sDt ?_ | refine sDf ?_ | refine sNt ?_ | refine sNf ?_ | refine sBt ?_ | refine sBf ?_ | refine sOb ?_ | refine sRw ?_); try (conv => whnf)))
    ((try (conv => whnf)); repeat ((first | exact True.intro | refine br_t ?_ | (with_reducible refine ix_nat ?_) | (with_reducible refine ix_lit _ ?_) | (with_reducible refine ix_add 1 ?_) | (with_reducible refine ix_add 2 ?_) | refine sIx ?_ | refine opt_in rfl ?_ | refine br_f ?_ | refine sNum ?_ | refine num0_out ?_ | refine sDt ?_ | refine sDf ?_ | refine sNt ?_ | refine sNf ?_ | refine sBt ?_ | refine sBf ?_ | refine sOb ?_ | refine sRw ?_); try (conv => whnf)))
  · have e : doneL l rest many = l ++ [((rest * 2 ^ (8 - many) + (2 ^ (8 - many) - 1) : Nat) : Int)] := by simp [doneL, h0]
    rw [e]
    have hf : ∃ f, 8 - many = f ∧ f ≤ 7 ∧ 1 ≤ f ∧ many + f = 8 := ⟨8 - many, rfl, by omega, by omega, by omega⟩
    obtain ⟨f, hf1, hf2, hf3, hf4⟩ := hf
    rw [hf1]
    have c0 : ((8 : Int) - (many : Int)).toNat = f := by omega
    have p7 : 2 ^ f ≤ 2 ^ 7 := Nat.pow_le_pow_right (by omega) hf2
    have hpos : 0 < 2 ^ f := Nat.pow_pos (by omega)
    have hr2 : rest * 2 ^ f + 2 ^ f ≤ 256 := by
      have : (rest + 1) * 2 ^ f ≤ 2 ^ many * 2 ^ f := Nat.mul_le_mul_right _ hr
      rw [← Nat.pow_add, hf4, Nat.add_mul] at this; omega
    have c1 : (rest : Int) * 2 ^ ((8 : Int) - (many : Int)).toNat = ((rest * 2 ^ f : Nat) : Int) := by rw [c0]; simp
    have c2 : (1 : Int) * 2 ^ ((8 : Int) - (many : Int)).toNat = ((2 ^ f : Nat) : Int) := by rw [c0]; simp
    have a1 : 0 ≤ (rest : Int) * 2 ^ ((8 : Int) - (many : Int)).toNat ∧ (rest : Int) * 2 ^ ((8 : Int) - (many : Int)).toNat ≤ 4294967295 := by rw [c1]; omega
    have a2 : 0 ≤ (1 : Int) * 2 ^ ((8 : Int) - (many : Int)).toNat ∧ (1 : Int) * 2 ^ ((8 : Int) - (many : Int)).toNat ≤ 4294967295 := by rw [c2]; omega
    have a3 : 0 ≤ (1 : Int) * 2 ^ ((8 : Int) - (many : Int)).toNat - 1 ∧ (1 : Int) * 2 ^ ((8 : Int) - (many : Int)).toNat - 1 ≤ 4294967295 := by rw [c2]; omega
    have a4 := And.intro a1 a3
    have b1 : bitsN .or ((rest : Int) * 2 ^ ((8 : Int) - (many : Int)).toNat).toNat ((1 : Int) * 2 ^ ((8 : Int) - (many : Int)).toNat - 1).toNat = ((rest * 2 ^ f + (2 ^ f - 1) : Nat) : Int) := by
      rw [c1, c2, show (((2 ^ f : Nat) : Int) - 1).toNat = 2 ^ f - 1 by omega]
      simp only [bitsN, Int.toNat_natCast]
      have := Nat.shiftLeft_add_eq_or_of_lt (i := f) (b := 2 ^ f - 1) (by omega) rest
      rw [Nat.shiftLeft_eq] at this
      rw [this]
    have a5 : 0 ≤ bitsN .or ((rest : Int) * 2 ^ ((8 : Int) - (many : Int)).toNat).toNat ((1 : Int) * 2 ^ ((8 : Int) - (many : Int)).toNat - 1).toNat ∧ bitsN .or ((rest : Int) * 2 ^ ((8 : Int) - (many : Int)).toNat).toNat ((1 : Int) * 2 ^ ((8 : Int) - (many : Int)).toNat - 1).toNat ≤ 255 := by rw [b1]; omega
    generalize hx : ((rest * 2 ^ f + (2 ^ f - 1) : Nat) : Int) = x at *
    refine call_step Try.ESOK Try.func10 [] [19] ?_
    ((try (conv => whnf)); repeat ((first | exact True.intro | refine br_t ?_ | (with_reducible refine ix_nat ?_) | (with_reducible refine ix_lit _ ?_) | (with_reducible refine ix_add 1 ?_) | (with_reducible refine ix_add 2 ?_) | refine sIx ?_ | refine opt_in rfl ?_ | refine br_f ?_ | refine sNum ?_ | refine num0_out ?_ | refine sDt ?_ | refine sDf ?_ | refine sNt ?_ | refine sNf ?_ | refine sBt ?_ | refine sBf ?_ | refine sOb ?_ | refine sRw ?_); try (conv => whnf)))
    refine deep_use [1] 1 (Clip_ct l) rfl (by kernel_rfl) ?_ ?_
    · ((try (conv => whnf)); repeat ((first | exact True.intro | refine br_t ?_ | (with_reducible refine ix_nat ?_) | (with_reducible refine ix_lit _ ?_) | (with_reducible refine ix_add 1 ?_) | (with_reducible refine ix_add 2 ?_) | refine sIx ?_ | refine opt_in rfl ?_ | refine br_f ?_ | refine sNum ?_ | refine num0_out ?_ | refine sDt ?_ | refine sDf ?_ | refine sNt ?_ | refine sNf ?_ | refine sBt ?_ | refine sBf ?_ | refine sOb ?_ | refine sRw ?_); try (conv => whnf)))
    ((try (conv => whnf)); repeat ((first | exact True.intro | refine br_t ?_ | (with_reducible refine ix_nat ?_) | (with_reducible refine ix_lit _ ?_) | (with_reducible refine ix_add 1 ?_) | (with_reducible refine ix_add 2 ?_) | refine sIx ?_ | refine opt_in rfl ?_ | refine br_f ?_ | refine sNum ?_ | refine num0_out ?_ | refine sDt ?_ | refine sDf ?_ | refine sNt ?_ | refine sNf ?_ | refine sBt ?_ | refine sBf ?_ | refine sOb ?_ | refine sRw ?_); try (conv => whnf)))
    rw [b1]
    refine lift_use [18] 1 1 (Stuff_ct (l ++ [x]) (by simp; omega)) rfl rfl (by kernel_rfl) ?_ ?_
    · ((try (conv => whnf)); repeat ((first | exact True.intro | refine br_t ?_ | (with_reducible refine ix_nat ?_) | (with_reducible refine ix_lit _ ?_) | (with_reducible refine ix_add 1 ?_) | (with_reducible refine ix_add 2 ?_) | refine sIx ?_ | refine opt_in rfl ?_ | refine br_f ?_ | refine sNum ?_ | refine num0_out ?_ | refine sDt ?_ | refine sDf ?_ | refine sNt ?_ | refine sNf ?_ | refine sBt ?_ | refine sBf ?_ | refine sOb ?_ | refine sRw ?_); try (conv => whnf)))
    ((try (conv => whnf)); repeat ((first | exact True.intro | refine br_t ?_ | (with_reducible refine ix_nat ?_) | (with_reducible refine ix_lit _ ?_) | (with_reducible refine ix_add 1 ?_) | (with_reducible refine ix_add 2 ?_) | refine sIx ?_ | refine opt_in rfl ?_ | refine br_f ?_ | refine sNum ?_ | refine num0_out ?_ | refine sDt ?_ | refine sDf ?_ | refine sNt ?_ | refine sNf ?_ | refine sBt ?_ | refine sBf ?_ | refine sOb ?_ | refine sRw ?_); try (conv => whnf)))
end Go.Proofs
