/- PfxC: a part of the proof of PrefixBack. Own work. -/
import Derived.Test.YtcimijgokedcgaaPfxM
set_option linter.unusedVariables false
set_option linter.unusedSimpArgs false
set_option linter.unusedSectionVars false
namespace Go.Proofs
open Go Go.Ab
set_option maxRecDepth 100000


@[reducible] def eBits : Nat × Nat → List V := fun p => [.int .i64 p.1, .int .i64 p.2]
theorem eBits_pure : PureE eBits := fun x v hv => by simp at hv; rcases hv with rfl | rfl <;> exact .int _ _

def codeTo (c : Nat → Int) : Nat → Nat
  | 0 => 0
  | i + 1 => 2 * (codeTo c i + (c i).toNat)
def lvl (code n i : Nat) : List (Nat × Nat) := (List.range n).map fun j => (code + j, i + 1)
def outTo (c : Nat → Int) : Nat → List (Nat × Nat)
  | 0 => []
  | i + 1 => outTo c i ++ lvl (codeTo c i) (c i).toNat i
def codesL (c : Nat → Int) : List (Nat × Nat) := outTo c 16
theorem lvl_succ (code n i : Nat) : lvl code (n + 1) i = lvl code n i ++ [(code + n, i + 1)] := by simp [lvl, List.range_succ]
theorem lvl_len (code n i : Nat) : (lvl code n i).length = n := by simp [lvl]

theorem code_bd {c : Nat → Int} (hc : countOK c) : ∀ i, i ≤ 16 → codeTo c i + 512 ≤ 512 * 2 ^ i ∧ (outTo c i).length ≤ 256 * i := by
  intro i
  induction i with
  | zero => intro _; simp [codeTo, outTo]
  | succ i ih =>
    intro hi
    obtain ⟨a, b⟩ := ih (by omega)
    obtain ⟨h0, h1⟩ := hc i (by omega)
    simp only [codeTo, outTo, List.length_append, lvl_len, Nat.pow_succ]
    omega

def bitsBv (id : Nat) (l : List (Nat × Nat)) : V := .bv id l.length 2 0 l.length none
def innS (c : Nat → Int) (s : List Int) (i n code j : Nat) (out : List (Nat × Nat)) : St :=
  stL [(3, .bv 1 out.length 2 0 out.length none), (4, .int .i64 code), (5, .int .i64 i), (13, .int .i64 n), (14, .int .i64 j), (8, .agg (arrL c)), (9, .int .i64 i)] [(0, .cells (huffL c s)), (1, bufR eBits (0, 0) 2 out)] 2
def outS (c : Nat → Int) (s : List Int) (i code : Nat) (out : List (Nat × Nat)) : St :=
  stL [(3, .bv 1 out.length 2 0 out.length none), (4, .int .i64 code), (8, .agg (arrL c)), (9, .int .i64 i)] [(0, .cells (huffL c s)), (1, bufR eBits (0, 0) 2 out)] 2

theorem inn_round (c : Nat → Int) (s : List Int) (i n code j : Nat) (out : List (Nat × Nat)) (hi : i < 16) (hj : j < n) (hn : n ≤ 256) (hcode : code ≤ 2 ^ 40) (ho : out.length ≤ 2 ^ 20) :
    CodeTo Try.prog Try.f20.ntmps (loopAt Try.f20 1) (innS c s i n code j out) .normal (innS c s i n (code + 1) (j + 1) (out ++ [(code, i + 1)])) := by
  have pu := eI_pure .i64
  have pb := eBits_pure
  refine code_step Try.ESOK [] [] ?_
  ((try (conv => whnf)); repeat ((first | exact True.intro | refine br_t ?_ | (with_reducible refine ix_nat ?_) | (with_reducible refine ix_lit _ ?_) | (with_reducible refine ix_add 1 ?_) | (with_reducible refine ix_add 2 ?_) | refine sIx ?_ | refine opt_in rfl ?_ | refine br_f ?_ | refine sNum ?_ | refine num0_out ?_ | refine sDt ?_ | refine sDf ?_ | refine sNt ?_ | refine sNf ?_ | refine sBt ?_ | refine sBf ?_ | refine sOb ?_ | refine sRw ?_); try (conv => whnf)))

theorem inn_loop (c : Nat → Int) (s : List Int) (i n code : Nat) (out : List (Nat × Nat)) (hi : i < 16) (hn : n ≤ 256) (hcode : code ≤ 2 ^ 30) (ho : out.length ≤ 2 ^ 19) :
    LoopTo Try.prog Try.f20.ntmps (loopAt Try.f20 1) (innS c s i n code 0 out) (.exit 2) (outS c s i (code + n) (out ++ lvl code n i)) := by
  have key := loop_of (P := Try.prog) (fs := Try.f20.ntmps) (cd := loopAt Try.f20 1) (S := fun j => innS c s i n (code + j) j (out ++ lvl code j i)) (n := n) (e := .exit 2)
    (s' := outS c s i (code + n) (out ++ lvl code n i)) (by simp)
    (fun j hj => by
      have := inn_round c s i n (code + j) j (out ++ lvl code j i) hi hj hn (by omega) (by simp [lvl_len]; omega)
      rw [lvl_succ, ← List.append_assoc]
      exact this)
    (by
      have pu := eI_pure .i64
      have pb := eBits_pure
      generalize out ++ lvl code n i = q
      refine code_step Try.ESOK [] [] ?_
      ((try (conv => whnf)); repeat ((first | exact True.intro | refine br_t ?_ | (with_reducible refine ix_nat ?_) | (with_reducible refine ix_lit _ ?_) | (with_reducible refine ix_add 1 ?_) | (with_reducible refine ix_add 2 ?_) | refine sIx ?_ | refine opt_in rfl ?_ | refine br_f ?_ | refine sNum ?_ | refine num0_out ?_ | refine sDt ?_ | refine sDf ?_ | refine sNt ?_ | refine sNf ?_ | refine sBt ?_ | refine sBf ?_ | refine sOb ?_ | refine sRw ?_); try (conv => whnf)))) 0 (Nat.zero_le _)
  simpa [lvl] using key

theorem out_round (c : Nat → Int) (s : List Int) (hc : countOK c) (i code : Nat) (out : List (Nat × Nat)) (hi : i < 16) (hcode : code ≤ 2 ^ 29) (ho : out.length ≤ 2 ^ 19) :
    CodeTo Try.prog Try.f20.ntmps (loopAt Try.f20 0) (outS c s i code out) .normal (outS c s (i + 1) (2 * (code + (c i).toNat)) (out ++ lvl code (c i).toNat i)) := by
  have pu := eI_pure .i64
  have pb := eBits_pure
  obtain ⟨h0, h1⟩ := hc i hi
  have hin := inn_loop c s i (c i).toNat code out hi (by omega) (by omega) ho
  have hn := nth16 c i hi
  obtain ⟨n, hcn⟩ := Int.eq_ofNat_of_zero_le h0
  have hn2 : (c i).toNat = n := by omega
  rw [hn2] at hin ⊢
  rw [hcn] at hn
  have hol : (out ++ lvl code n i).length ≤ 2 ^ 20 := by simp [lvl_len]; omega
  generalize out ++ lvl code n i = q at *
  have w : (((code + n : Nat) : Int)) * 2 ^ 1 = ((2 * (code + n) : Nat) : Int) := by simp; omega
  have w2 : -9223372036854775808 ≤ (((code + n : Nat) : Int)) * 2 ^ 1 ∧ (((code + n : Nat) : Int)) * 2 ^ 1 ≤ 9223372036854775807 := by rw [w]; omega
  refine code_step Try.ESOK [] [] ?_
  ((try (conv => whnf)); repeat ((first | exact True.intro | refine br_t ?_ | (with_reducible refine ix_nat ?_) | (with_reducible refine ix_lit _ ?_) | (with_reducible refine ix_add 1 ?_) | (with_reducible refine ix_add 2 ?_) | refine sIx ?_ | refine opt_in rfl ?_ | refine br_f ?_ | refine sNum ?_ | refine num0_out ?_ | refine sDt ?_ | refine sDf ?_ | refine sNt ?_ | refine sNf ?_ | refine sBt ?_ | refine sBf ?_ | refine sOb ?_ | refine sRw ?_); try (conv => whnf)))
  refine opt_in hn ?_
  ((try (conv => whnf)); repeat ((first | exact True.intro | refine br_t ?_ | (with_reducible refine ix_nat ?_) | (with_reducible refine ix_lit _ ?_) | (with_reducible refine ix_add 1 ?_) | (with_reducible refine ix_add 2 ?_) | refine sIx ?_ | refine opt_in rfl ?_ | refine br_f ?_ | refine sNum ?_ | refine num0_out ?_ | refine sDt ?_ | refine sDf ?_ | refine sNt ?_ | refine sNf ?_ | refine sBt ?_ | refine sBf ?_ | refine sOb ?_ | refine sRw ?_); try (conv => whnf)))
  refine loop_use [] [] hin ?_ ?_
  · ((try (conv => whnf)); repeat ((first | exact True.intro | refine br_t ?_ | (with_reducible refine ix_nat ?_) | (with_reducible refine ix_lit _ ?_) | (with_reducible refine ix_add 1 ?_) | (with_reducible refine ix_add 2 ?_) | refine sIx ?_ | refine opt_in rfl ?_ | refine br_f ?_ | refine sNum ?_ | refine num0_out ?_ | refine sDt ?_ | refine sDf ?_ | refine sNt ?_ | refine sNf ?_ | refine sBt ?_ | refine sBf ?_ | refine sOb ?_ | refine sRw ?_); try (conv => whnf)))
  ((try (conv => whnf)); repeat ((first | exact True.intro | refine br_t ?_ | (with_reducible refine ix_nat ?_) | (with_reducible refine ix_lit _ ?_) | (with_reducible refine ix_add 1 ?_) | (with_reducible refine ix_add 2 ?_) | refine sIx ?_ | refine opt_in rfl ?_ | refine br_f ?_ | refine sNum ?_ | refine num0_out ?_ | refine sDt ?_ | refine sDf ?_ | refine sNt ?_ | refine sNf ?_ | refine sBt ?_ | refine sBf ?_ | refine sOb ?_ | refine sRw ?_); try (conv => whnf)))

theorem outTo_bd {c : Nat → Int} (hc : countOK c) (i : Nat) (hi : i ≤ 16) : codeTo c i ≤ 2 ^ 29 ∧ (outTo c i).length ≤ 2 ^ 19 := by
  obtain ⟨a, b⟩ := code_bd hc i hi
  have := Nat.pow_le_pow_right (n := 2) (by omega) hi
  omega

theorem out_loop (c : Nat → Int) (s : List Int) (hc : countOK c) : LoopTo Try.prog Try.f20.ntmps (loopAt Try.f20 0) (outS c s 0 0 []) (.exit 0) (outS c s 16 (codeTo c 16) (codesL c)) := by
  have key := loop_of (P := Try.prog) (fs := Try.f20.ntmps) (cd := loopAt Try.f20 0) (S := fun i => outS c s i (codeTo c i) (outTo c i)) (n := 16) (e := .exit 0)
    (s' := outS c s 16 (codeTo c 16) (codesL c)) (by simp)
    (fun i hi => out_round c s hc i (codeTo c i) (outTo c i) hi (outTo_bd hc i (by omega)).1 (outTo_bd hc i (by omega)).2)
    (by
      have pu := eI_pure .i64
      have pb := eBits_pure
      unfold codesL
      generalize outTo c 16 = q
      generalize codeTo c 16 = r
      refine code_step Try.ESOK [] [] ?_
      ((try (conv => whnf)); repeat ((first | exact True.intro | refine br_t ?_ | (with_reducible refine ix_nat ?_) | (with_reducible refine ix_lit _ ?_) | (with_reducible refine ix_add 1 ?_) | (with_reducible refine ix_add 2 ?_) | refine sIx ?_ | refine opt_in rfl ?_ | refine br_f ?_ | refine sNum ?_ | refine num0_out ?_ | refine sDt ?_ | refine sDf ?_ | refine sNt ?_ | refine sNf ?_ | refine sBt ?_ | refine sBf ?_ | refine sOb ?_ | refine sRw ?_); try (conv => whnf)))) 0 (by omega)
  exact key

theorem codes_ct (c : Nat → Int) (s : List Int) (hc : countOK c) : PCallTo Try.prog 20 [huffV c s] (islR eBits (0, 0) 2 (codesL c)) := by
  have pu := eI_pure .i64
  have pb := eBits_pure
  have l0 := out_loop c s hc
  generalize codesL c = q at *
  refine pure_step Try.ESOK Try.func20 [1] ?_ (by intro v hv; simp at hv; subst hv; exact huff_pure _ _) (islR_pure pb _ _ _)
  ((try (conv => whnf)); repeat ((first | exact True.intro | refine br_t ?_ | (with_reducible refine ix_nat ?_) | (with_reducible refine ix_lit _ ?_) | (with_reducible refine ix_add 1 ?_) | (with_reducible refine ix_add 2 ?_) | refine sIx ?_ | refine opt_in rfl ?_ | refine br_f ?_ | refine sNum ?_ | refine num0_out ?_ | refine sDt ?_ | refine sDf ?_ | refine sNt ?_ | refine sNf ?_ | refine sBt ?_ | refine sBf ?_ | refine sOb ?_ | refine sRw ?_); try (conv => whnf)))
  refine loop_use [some 0, none] [] l0 ?_ ?_
  · ((try (conv => whnf)); repeat ((first | exact True.intro | refine br_t ?_ | (with_reducible refine ix_nat ?_) | (with_reducible refine ix_lit _ ?_) | (with_reducible refine ix_add 1 ?_) | (with_reducible refine ix_add 2 ?_) | refine sIx ?_ | refine opt_in rfl ?_ | refine br_f ?_ | refine sNum ?_ | refine num0_out ?_ | refine sDt ?_ | refine sDf ?_ | refine sNt ?_ | refine sNf ?_ | refine sBt ?_ | refine sBf ?_ | refine sOb ?_ | refine sRw ?_); try (conv => whnf)))
  ((try (conv => whnf)); repeat ((first | exact True.intro | refine br_t ?_ | (with_reducible refine ix_nat ?_) | (with_reducible refine ix_lit _ ?_) | (with_reducible refine ix_add 1 ?_) | (with_reducible refine ix_add 2 ?_) | refine sIx ?_ | refine opt_in rfl ?_ | refine br_f ?_ | refine sNum ?_ | refine num0_out ?_ | refine sDt ?_ | refine sDf ?_ | refine sNt ?_ | refine sNf ?_ | refine sBt ?_ | refine sBf ?_ | refine sOb ?_ | refine sRw ?_); try (conv => whnf)))

theorem Codes_yes (c : Nat → Int) (s : List Int) (hl : s.length ≤ 256) (h : mayP c s) : PCallTo Try.prog 12 [huffV c s] (islR eBits (0, 0) 2 (codesL c)) := by
  have pu := eI_pure .i64
  have pb := eBits_pure
  have h1 := May_ok c s hl h
  have h2 := codes_ct c s h.1
  generalize codesL c = q at *
  refine pure_step Try.ESOK Try.func12 [] ?_ (by intro v hv; simp at hv; subst hv; exact huff_pure _ _) (islR_pure pb _ _ _)
  ((try (conv => whnf)); repeat ((first | exact True.intro | refine br_t ?_ | (with_reducible refine ix_nat ?_) | (with_reducible refine ix_lit _ ?_) | (with_reducible refine ix_add 1 ?_) | (with_reducible refine ix_add 2 ?_) | refine sIx ?_ | refine opt_in rfl ?_ | refine br_f ?_ | refine sNum ?_ | refine num0_out ?_ | refine sDt ?_ | refine sDf ?_ | refine sNt ?_ | refine sNf ?_ | refine sBt ?_ | refine sBf ?_ | refine sOb ?_ | refine sRw ?_); try (conv => whnf)))
  refine pure_use h1 ?_
  ((try (conv => whnf)); repeat ((first | exact True.intro | refine br_t ?_ | (with_reducible refine ix_nat ?_) | (with_reducible refine ix_lit _ ?_) | (with_reducible refine ix_add 1 ?_) | (with_reducible refine ix_add 2 ?_) | refine sIx ?_ | refine opt_in rfl ?_ | refine br_f ?_ | refine sNum ?_ | refine num0_out ?_ | refine sDt ?_ | refine sDf ?_ | refine sNt ?_ | refine sNf ?_ | refine sBt ?_ | refine sBf ?_ | refine sOb ?_ | refine sRw ?_); try (conv => whnf)))
  refine pure_use h2 ?_
  ((try (conv => whnf)); repeat ((first | exact True.intro | refine br_t ?_ | (with_reducible refine ix_nat ?_) | (with_reducible refine ix_lit _ ?_) | (with_reducible refine ix_add 1 ?_) | (with_reducible refine ix_add 2 ?_) | refine sIx ?_ | refine opt_in rfl ?_ | refine br_f ?_ | refine sNum ?_ | refine num0_out ?_ | refine sDt ?_ | refine sDf ?_ | refine sNt ?_ | refine sNf ?_ | refine sBt ?_ | refine sBf ?_ | refine sOb ?_ | refine sRw ?_); try (conv => whnf)))
end Go.Proofs
