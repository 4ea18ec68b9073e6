/- PfxT: a part of the proof of PrefixBack. Own work. -/
import Derived.Test.YtcimijgokedcgaaPfxN
set_option linter.unusedVariables false
set_option linter.unusedSimpArgs false
set_option linter.unusedSectionVars false
namespace Go.Proofs
open Go Go.Ab
set_option maxRecDepth 100000


theorem WPut_nil (v n : Int) : PCallTo Try.prog 21 [.lit (.pointer none), .int .i64 v, .int .i64 n] (.bool false) := by
  refine pure_step Try.ESOK Try.func21 [] ?_ (by intro v hv; simp at hv; rcases hv with rfl | rfl | rfl <;> first | exact .lit _ | exact .int _ _) (.bool _)
  ((try (conv => whnf)); repeat ((first | exact True.intro | refine br_t ?_ | (with_reducible refine ix_nat ?_) | (with_reducible refine ix_lit _ ?_) | (with_reducible refine ix_add 1 ?_) | (with_reducible refine ix_add 2 ?_) | refine sIx ?_ | refine opt_in rfl ?_ | refine br_f ?_ | refine sNum ?_ | refine num0_out ?_ | refine sDt ?_ | refine sDf ?_ | refine sNt ?_ | refine sNf ?_ | refine sBt ?_ | refine sBf ?_ | refine sOb ?_ | refine sRw ?_); try (conv => whnf)))

theorem TPut_nil (x : Int) : PCallTo Try.prog 6 [.lit (.pointer none), .junk, .int .i64 x] (.bool false) := by
  refine pure_step Try.ESOK Try.func6 [] ?_ (by intro v hv; simp at hv; rcases hv with rfl | rfl | rfl <;> first | exact .lit _ | exact .int _ _ | exact .junk) (.bool _)
  ((try (conv => whnf)); repeat ((first | exact True.intro | refine br_t ?_ | (with_reducible refine ix_nat ?_) | (with_reducible refine ix_lit _ ?_) | (with_reducible refine ix_add 1 ?_) | (with_reducible refine ix_add 2 ?_) | refine sIx ?_ | refine opt_in rfl ?_ | refine br_f ?_ | refine sNum ?_ | refine num0_out ?_ | refine sDt ?_ | refine sDf ?_ | refine sNt ?_ | refine sNf ?_ | refine sBt ?_ | refine sBf ?_ | refine sOb ?_ | refine sRw ?_); try (conv => whnf)))
  refine pure_use (Code_nil x) ?_
  ((try (conv => whnf)); repeat ((first | exact True.intro | refine br_t ?_ | (with_reducible refine ix_nat ?_) | (with_reducible refine ix_lit _ ?_) | (with_reducible refine ix_add 1 ?_) | (with_reducible refine ix_add 2 ?_) | refine sIx ?_ | refine opt_in rfl ?_ | refine br_f ?_ | refine sNum ?_ | refine num0_out ?_ | refine sDt ?_ | refine sDf ?_ | refine sNt ?_ | refine sNf ?_ | refine sBt ?_ | refine sBf ?_ | refine sOb ?_ | refine sRw ?_); try (conv => whnf)))

theorem TPut_no (cs : List (Nat × Nat)) (s : List Int) (x : Int) (hx : x ∉ s) : CallTo Try.prog 6 [.ptr 0 0, .junk, .int .i64 x] (hpN 3 (tabO cs s)) (.bool false) (hpN 3 (tabO cs s)) := by
  have p1 := cEs_pure cs s s.length
  have p2 := sEs_pure cs s s.length
  have h1 := Code_no cs s x hx
  unfold tabO at *
  generalize cEs cs s s.length = es at *
  generalize sEs cs s s.length = fs at *
  refine call_step Try.ESOK Try.func6 [] [] ?_
  ((try (conv => whnf)); repeat ((first | exact True.intro | refine br_t ?_ | (with_reducible refine ix_nat ?_) | (with_reducible refine ix_lit _ ?_) | (with_reducible refine ix_add 1 ?_) | (with_reducible refine ix_add 2 ?_) | refine sIx ?_ | refine opt_in rfl ?_ | refine br_f ?_ | refine sNum ?_ | refine num0_out ?_ | refine sDt ?_ | refine sDf ?_ | refine sNt ?_ | refine sNf ?_ | refine sBt ?_ | refine sBf ?_ | refine sOb ?_ | refine sRw ?_); try (conv => whnf)))
  refine lift_use [0, 1, 2] 3 0 h1 rfl rfl (by kernel_rfl) ?_ ?_
  · ((try (conv => whnf)); repeat ((first | exact True.intro | refine br_t ?_ | (with_reducible refine ix_nat ?_) | (with_reducible refine ix_lit _ ?_) | (with_reducible refine ix_add 1 ?_) | (with_reducible refine ix_add 2 ?_) | refine sIx ?_ | refine opt_in rfl ?_ | refine br_f ?_ | refine sNum ?_ | refine num0_out ?_ | refine sDt ?_ | refine sDf ?_ | refine sNt ?_ | refine sNf ?_ | refine sBt ?_ | refine sBf ?_ | refine sOb ?_ | refine sRw ?_); try (conv => whnf)))
  ((try (conv => whnf)); repeat ((first | exact True.intro | refine br_t ?_ | (with_reducible refine ix_nat ?_) | (with_reducible refine ix_lit _ ?_) | (with_reducible refine ix_add 1 ?_) | (with_reducible refine ix_add 2 ?_) | refine sIx ?_ | refine opt_in rfl ?_ | refine br_f ?_ | refine sNum ?_ | refine num0_out ?_ | refine sDt ?_ | refine sDf ?_ | refine sNt ?_ | refine sNf ?_ | refine sBt ?_ | refine sBf ?_ | refine sOb ?_ | refine sRw ?_); try (conv => whnf)))

/-- into no writer -/
theorem TPut_out (cs : List (Nat × Nat)) (s : List Int) (hs : s.Nodup) (x : Int) : CallTo Try.prog 6 [.ptr 0 0, .lit (.pointer none), .int .i64 x] (hpN 3 (tabO cs s)) (.bool false) (hpN 3 (tabO cs s)) := by
  have p1 := cEs_pure cs s s.length
  have p2 := sEs_pure cs s s.length
  by_cases hx : x ∈ s
  · obtain ⟨i, hi, rfl⟩ := List.getElem_of_mem hx
    have h1 := Code_yes cs s hs i hi
    rw [List.getD_eq_getElem?_getD, List.getElem?_eq_getElem hi] at h1
    simp only [Option.getD_some] at h1
    unfold tabO at *
    generalize cEs cs s s.length = es at *
    generalize sEs cs s s.length = fs at *
    generalize s[i] = y at *
    generalize cs.getD i (0, 0) = c at *
    refine call_step Try.ESOK Try.func6 [] [] ?_
    ((try (conv => whnf)); repeat ((first | exact True.intro | refine br_t ?_ | (with_reducible refine ix_nat ?_) | (with_reducible refine ix_lit _ ?_) | (with_reducible refine ix_add 1 ?_) | (with_reducible refine ix_add 2 ?_) | refine sIx ?_ | refine opt_in rfl ?_ | refine br_f ?_ | refine sNum ?_ | refine num0_out ?_ | refine sDt ?_ | refine sDf ?_ | refine sNt ?_ | refine sNf ?_ | refine sBt ?_ | refine sBf ?_ | refine sOb ?_ | refine sRw ?_); try (conv => whnf)))
    refine lift_use [0, 1, 2] 3 0 h1 rfl rfl (by kernel_rfl) ?_ ?_
    · ((try (conv => whnf)); repeat ((first | exact True.intro | refine br_t ?_ | (with_reducible refine ix_nat ?_) | (with_reducible refine ix_lit _ ?_) | (with_reducible refine ix_add 1 ?_) | (with_reducible refine ix_add 2 ?_) | refine sIx ?_ | refine opt_in rfl ?_ | refine br_f ?_ | refine sNum ?_ | refine num0_out ?_ | refine sDt ?_ | refine sDf ?_ | refine sNt ?_ | refine sNf ?_ | refine sBt ?_ | refine sBf ?_ | refine sOb ?_ | refine sRw ?_); try (conv => whnf)))
    ((try (conv => whnf)); repeat ((first | exact True.intro | refine br_t ?_ | (with_reducible refine ix_nat ?_) | (with_reducible refine ix_lit _ ?_) | (with_reducible refine ix_add 1 ?_) | (with_reducible refine ix_add 2 ?_) | refine sIx ?_ | refine opt_in rfl ?_ | refine br_f ?_ | refine sNum ?_ | refine num0_out ?_ | refine sDt ?_ | refine sDf ?_ | refine sNt ?_ | refine sNf ?_ | refine sBt ?_ | refine sBf ?_ | refine sOb ?_ | refine sRw ?_); try (conv => whnf)))
    refine pure_use (WPut_nil _ _) ?_
    ((try (conv => whnf)); repeat ((first | exact True.intro | refine br_t ?_ | (with_reducible refine ix_nat ?_) | (with_reducible refine ix_lit _ ?_) | (with_reducible refine ix_add 1 ?_) | (with_reducible refine ix_add 2 ?_) | refine sIx ?_ | refine opt_in rfl ?_ | refine br_f ?_ | refine sNum ?_ | refine num0_out ?_ | refine sDt ?_ | refine sDf ?_ | refine sNt ?_ | refine sNf ?_ | refine sBt ?_ | refine sBf ?_ | refine sOb ?_ | refine sRw ?_); try (conv => whnf)))
  · have h1 := Code_no cs s x hx
    unfold tabO at *
    generalize cEs cs s s.length = es at *
    generalize sEs cs s s.length = fs at *
    refine call_step Try.ESOK Try.func6 [] [] ?_
    ((try (conv => whnf)); repeat ((first | exact True.intro | refine br_t ?_ | (with_reducible refine ix_nat ?_) | (with_reducible refine ix_lit _ ?_) | (with_reducible refine ix_add 1 ?_) | (with_reducible refine ix_add 2 ?_) | refine sIx ?_ | refine opt_in rfl ?_ | refine br_f ?_ | refine sNum ?_ | refine num0_out ?_ | refine sDt ?_ | refine sDf ?_ | refine sNt ?_ | refine sNf ?_ | refine sBt ?_ | refine sBf ?_ | refine sOb ?_ | refine sRw ?_); try (conv => whnf)))
    refine lift_use [0, 1, 2] 3 0 h1 rfl rfl (by kernel_rfl) ?_ ?_
    · ((try (conv => whnf)); repeat ((first | exact True.intro | refine br_t ?_ | (with_reducible refine ix_nat ?_) | (with_reducible refine ix_lit _ ?_) | (with_reducible refine ix_add 1 ?_) | (with_reducible refine ix_add 2 ?_) | refine sIx ?_ | refine opt_in rfl ?_ | refine br_f ?_ | refine sNum ?_ | refine num0_out ?_ | refine sDt ?_ | refine sDf ?_ | refine sNt ?_ | refine sNf ?_ | refine sBt ?_ | refine sBf ?_ | refine sOb ?_ | refine sRw ?_); try (conv => whnf)))
    ((try (conv => whnf)); repeat ((first | exact True.intro | refine br_t ?_ | (with_reducible refine ix_nat ?_) | (with_reducible refine ix_lit _ ?_) | (with_reducible refine ix_add 1 ?_) | (with_reducible refine ix_add 2 ?_) | refine sIx ?_ | refine opt_in rfl ?_ | refine br_f ?_ | refine sNum ?_ | refine num0_out ?_ | refine sDt ?_ | refine sDf ?_ | refine sNt ?_ | refine sNf ?_ | refine sBt ?_ | refine sBf ?_ | refine sOb ?_ | refine sRw ?_); try (conv => whnf)))

def wrAt (b : Nat) (l : List Int) (rest many : Nat) : List Ob := [.cells [.bv b l.length 1 0 l.length none, .int .u32 rest, .int .i64 many], bufI .u8 l]
def twO (cs : List (Nat × Nat)) (s : List Int) (l : List Int) (rest many : Nat) : List Ob := tabO cs s ++ wrAt 4 l rest many

theorem TPut_yes (cs : List (Nat × Nat)) (s : List Int) (hs : s.Nodup) (i : Nat) (hi : i < s.length) (v n : Nat) (hc : cs.getD i (0, 0) = (v, n)) (l : List Int) (rest many : Nat)
    (hl : l.length ≤ 2 ^ 38) (hm : many < 8) (hr : rest < 2 ^ many) (hn : n ≤ 16) (hv : v < 2 ^ 32) (l' : List Int) (rest' many' : Nat)
    (hput : CallTo Try.prog 21 [.ptr 0 0, .int .i64 v, .int .i64 n] (hpN 2 (wrO l rest many)) (.bool true) (hpN 2 (wrO l' rest' many'))) :
    CallTo Try.prog 6 [.ptr 0 0, .ptr 3 0, .int .i64 (s.getD i 0)] (hpN 5 (twO cs s l rest many)) (.bool true) (hpN 5 (twO cs s l' rest' many')) := by
  have pu := eI_pure .u8
  have p1 := cEs_pure cs s s.length
  have p2 := sEs_pure cs s s.length
  have h1 := Code_yes cs s hs i hi
  rw [hc] at h1
  unfold twO tabO at *
  generalize cEs cs s s.length = es at *
  generalize sEs cs s s.length = fs at *
  generalize s.getD i 0 = y at *
  refine call_step Try.ESOK Try.func6 [] [] ?_
  ((try (conv => whnf)); repeat ((first | exact True.intro | refine br_t ?_ | (with_reducible refine ix_nat ?_) | (with_reducible refine ix_lit _ ?_) | (with_reducible refine ix_add 1 ?_) | (with_reducible refine ix_add 2 ?_) | refine sIx ?_ | refine opt_in rfl ?_ | refine br_f ?_ | refine sNum ?_ | refine num0_out ?_ | refine sDt ?_ | refine sDf ?_ | refine sNt ?_ | refine sNf ?_ | refine sBt ?_ | refine sBf ?_ | refine sOb ?_ | refine sRw ?_); try (conv => whnf)))
  refine lift_use [0, 1, 2] 3 0 h1 rfl rfl (by kernel_rfl) ?_ ?_
  · ((try (conv => whnf)); repeat ((first | exact True.intro | refine br_t ?_ | (with_reducible refine ix_nat ?_) | (with_reducible refine ix_lit _ ?_) | (with_reducible refine ix_add 1 ?_) | (with_reducible refine ix_add 2 ?_) | refine sIx ?_ | refine opt_in rfl ?_ | refine br_f ?_ | refine sNum ?_ | refine num0_out ?_ | refine sDt ?_ | refine sDf ?_ | refine sNt ?_ | refine sNf ?_ | refine sBt ?_ | refine sBf ?_ | refine sOb ?_ | refine sRw ?_); try (conv => whnf)))
  ((try (conv => whnf)); repeat ((first | exact True.intro | refine br_t ?_ | (with_reducible refine ix_nat ?_) | (with_reducible refine ix_lit _ ?_) | (with_reducible refine ix_add 1 ?_) | (with_reducible refine ix_add 2 ?_) | refine sIx ?_ | refine opt_in rfl ?_ | refine br_f ?_ | refine sNum ?_ | refine num0_out ?_ | refine sDt ?_ | refine sDf ?_ | refine sNt ?_ | refine sNf ?_ | refine sBt ?_ | refine sBf ?_ | refine sOb ?_ | refine sRw ?_); try (conv => whnf)))
  refine lift_use [3, 4] 2 0 hput rfl rfl (by kernel_rfl) ?_ ?_
  · ((try (conv => whnf)); repeat ((first | exact True.intro | refine br_t ?_ | (with_reducible refine ix_nat ?_) | (with_reducible refine ix_lit _ ?_) | (with_reducible refine ix_add 1 ?_) | (with_reducible refine ix_add 2 ?_) | refine sIx ?_ | refine opt_in rfl ?_ | refine br_f ?_ | refine sNum ?_ | refine num0_out ?_ | refine sDt ?_ | refine sDf ?_ | refine sNt ?_ | refine sNf ?_ | refine sBt ?_ | refine sBf ?_ | refine sOb ?_ | refine sRw ?_); try (conv => whnf)))
  ((try (conv => whnf)); repeat ((first | exact True.intro | refine br_t ?_ | (with_reducible refine ix_nat ?_) | (with_reducible refine ix_lit _ ?_) | (with_reducible refine ix_add 1 ?_) | (with_reducible refine ix_add 2 ?_) | refine sIx ?_ | refine opt_in rfl ?_ | refine br_f ?_ | refine sNum ?_ | refine num0_out ?_ | refine sDt ?_ | refine sDf ?_ | refine sNt ?_ | refine sNf ?_ | refine sBt ?_ | refine sBf ?_ | refine sOb ?_ | refine sRw ?_); try (conv => whnf)))
end Go.Proofs
