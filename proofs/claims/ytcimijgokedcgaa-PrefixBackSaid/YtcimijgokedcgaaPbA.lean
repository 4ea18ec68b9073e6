/- PbA: a part of the proof of PrefixBack. Own work. -/
import Derived.Test.YtcimijgokedcgaaPlainC
set_option linter.unusedVariables false
set_option linter.unusedSimpArgs false
set_option linter.unusedSectionVars false
namespace Go.Proofs
open Go Go.Ab
set_option maxRecDepth 100000


def pbS (c : Nat → Int) (s : List Int) (cs : List (Nat × Nat)) (l : List Int) (i : Nat) (lb : List Int) (rest many : Nat) (u : List Int) : St :=
  stL [(1, islI .i64 l), (2, .ptr 0 0), (5, .ptr 1 0), (7, .ptr 4 0), (8, .bv 6 u.length 1 0 u.length none), (9, .int .i64 i)]
    [(0, .cells (huffL c s)), (1, .cells [.map 2, .map 3]), (2, .map (cEs cs s s.length) s.length), (3, .map (sEs cs s s.length) s.length),
     (4, .cells [.bv 5 lb.length 1 0 lb.length none, .int .u32 rest, .int .i64 many]), (5, bufI .u8 lb), (6, bufI .i64 u)] 7

theorem pb_yes (c : Nat → Int) (s : List Int) (cs : List (Nat × Nat)) (l : List Int) (hs : s.Nodup) (i j : Nat) (hi : i < l.length) (hj : j < s.length) (hij : l.getD i 0 = s.getD j 0) (v n : Nat) (hc : cs.getD j (0, 0) = (v, n))
    (lb : List Int) (rest many : Nat) (lb' : List Int) (rest' many' : Nat) (u : List Int) (hl : l.length ≤ 200) (hu : u.length ≤ 200) (hlb : lb.length ≤ 2 ^ 30) (hlb' : lb'.length ≤ 2 ^ 30) (hm : many < 8) (hm' : many' < 8) (hr : rest < 2 ^ many)
    (hn0 : 0 < n) (hn : n ≤ 16) (hv : v < 2 ^ 32) (hlen : 8 * lb'.length + many' = 8 * lb.length + many + n)
    (hput : CallTo Try.prog 21 [.ptr 0 0, .int .i64 v, .int .i64 n] (hpN 2 (wrO lb rest many)) (.bool true) (hpN 2 (wrO lb' rest' many'))) :
    CodeTo Try.prog Try.f3.ntmps (loopAt Try.f3 0) (pbS c s cs l i lb rest many u) .normal (pbS c s cs l (i + 1) lb' rest' many' (u ++ [l.getD i 0])) := by
  have pu := eI_pure .u8
  have pi := eI_pure .i64
  have p1 := cEs_pure cs s s.length
  have p2 := sEs_pure cs s s.length
  have h1 := Code_yes cs s hs j hj
  have h2 := TPut_yes cs s hs j hj v n hc lb rest many (by omega) hm hr hn hv lb' rest' many' hput
  rw [hc] at h1
  have h3 := Len_ct lb rest many (by omega) (by omega)
  have h4 := Len_ct lb' rest' many' (by omega) (by omega)
  rw [hlen] at h4
  rw [← hij] at h1 h2
  unfold twO tabO at *
  unfold pbS
  generalize cEs cs s s.length = es at *
  generalize sEs cs s s.length = fs at *
  refine code_step Try.ESOK [] [] ?_
  ((try (conv => whnf)); repeat ((first | exact True.intro | refine br_t ?_ | (with_reducible refine ix_nat ?_) | (with_reducible refine ix_lit _ ?_) | (with_reducible refine ix_add 1 ?_) | (with_reducible refine ix_add 2 ?_) | refine sIx ?_ | refine opt_in rfl ?_ | refine br_f ?_ | refine sNum ?_ | refine num0_out ?_ | refine sDt ?_ | refine sDf ?_ | refine sNt ?_ | refine sNf ?_ | refine sBt ?_ | refine sBf ?_ | refine sOb ?_ | refine sRw ?_); try (conv => whnf)))
  refine lift_use [1, 2, 3] 3 0 h1 rfl rfl (by kernel_rfl) ?_ ?_
  · ((try (conv => whnf)); repeat ((first | exact True.intro | refine br_t ?_ | (with_reducible refine ix_nat ?_) | (with_reducible refine ix_lit _ ?_) | (with_reducible refine ix_add 1 ?_) | (with_reducible refine ix_add 2 ?_) | refine sIx ?_ | refine opt_in rfl ?_ | refine br_f ?_ | refine sNum ?_ | refine num0_out ?_ | refine sDt ?_ | refine sDf ?_ | refine sNt ?_ | refine sNf ?_ | refine sBt ?_ | refine sBf ?_ | refine sOb ?_ | refine sRw ?_); try (conv => whnf)))
  ((try (conv => whnf)); repeat ((first | exact True.intro | refine br_t ?_ | (with_reducible refine ix_nat ?_) | (with_reducible refine ix_lit _ ?_) | (with_reducible refine ix_add 1 ?_) | (with_reducible refine ix_add 2 ?_) | refine sIx ?_ | refine opt_in rfl ?_ | refine br_f ?_ | refine sNum ?_ | refine num0_out ?_ | refine sDt ?_ | refine sDf ?_ | refine sNt ?_ | refine sNf ?_ | refine sBt ?_ | refine sBf ?_ | refine sOb ?_ | refine sRw ?_); try (conv => whnf)))
  refine deep_use [4, 5] 2 h3 rfl (by kernel_rfl) ?_ ?_
  · ((try (conv => whnf)); repeat ((first | exact True.intro | refine br_t ?_ | (with_reducible refine ix_nat ?_) | (with_reducible refine ix_lit _ ?_) | (with_reducible refine ix_add 1 ?_) | (with_reducible refine ix_add 2 ?_) | refine sIx ?_ | refine opt_in rfl ?_ | refine br_f ?_ | refine sNum ?_ | refine num0_out ?_ | refine sDt ?_ | refine sDf ?_ | refine sNt ?_ | refine sNf ?_ | refine sBt ?_ | refine sBf ?_ | refine sOb ?_ | refine sRw ?_); try (conv => whnf)))
  ((try (conv => whnf)); repeat ((first | exact True.intro | refine br_t ?_ | (with_reducible refine ix_nat ?_) | (with_reducible refine ix_lit _ ?_) | (with_reducible refine ix_add 1 ?_) | (with_reducible refine ix_add 2 ?_) | refine sIx ?_ | refine opt_in rfl ?_ | refine br_f ?_ | refine sNum ?_ | refine num0_out ?_ | refine sDt ?_ | refine sDf ?_ | refine sNt ?_ | refine sNf ?_ | refine sBt ?_ | refine sBf ?_ | refine sOb ?_ | refine sRw ?_); try (conv => whnf)))
  refine lift_use [1, 2, 3, 4, 5] 5 0 h2 rfl rfl (by kernel_rfl) ?_ ?_
  · ((try (conv => whnf)); repeat ((first | exact True.intro | refine br_t ?_ | (with_reducible refine ix_nat ?_) | (with_reducible refine ix_lit _ ?_) | (with_reducible refine ix_add 1 ?_) | (with_reducible refine ix_add 2 ?_) | refine sIx ?_ | refine opt_in rfl ?_ | refine br_f ?_ | refine sNum ?_ | refine num0_out ?_ | refine sDt ?_ | refine sDf ?_ | refine sNt ?_ | refine sNf ?_ | refine sBt ?_ | refine sBf ?_ | refine sOb ?_ | refine sRw ?_); try (conv => whnf)))
  ((try (conv => whnf)); repeat ((first | exact True.intro | refine br_t ?_ | (with_reducible refine ix_nat ?_) | (with_reducible refine ix_lit _ ?_) | (with_reducible refine ix_add 1 ?_) | (with_reducible refine ix_add 2 ?_) | refine sIx ?_ | refine opt_in rfl ?_ | refine br_f ?_ | refine sNum ?_ | refine num0_out ?_ | refine sDt ?_ | refine sDf ?_ | refine sNt ?_ | refine sNf ?_ | refine sBt ?_ | refine sBf ?_ | refine sOb ?_ | refine sRw ?_); try (conv => whnf)))
  refine deep_use [4, 5] 2 h4 rfl (by kernel_rfl) ?_ ?_
  · ((try (conv => whnf)); repeat ((first | exact True.intro | refine br_t ?_ | (with_reducible refine ix_nat ?_) | (with_reducible refine ix_lit _ ?_) | (with_reducible refine ix_add 1 ?_) | (with_reducible refine ix_add 2 ?_) | refine sIx ?_ | refine opt_in rfl ?_ | refine br_f ?_ | refine sNum ?_ | refine num0_out ?_ | refine sDt ?_ | refine sDf ?_ | refine sNt ?_ | refine sNf ?_ | refine sBt ?_ | refine sBf ?_ | refine sOb ?_ | refine sRw ?_); try (conv => whnf)))
  ((try (conv => whnf)); repeat ((first | exact True.intro | refine br_t ?_ | (with_reducible refine ix_nat ?_) | (with_reducible refine ix_lit _ ?_) | (with_reducible refine ix_add 1 ?_) | (with_reducible refine ix_add 2 ?_) | refine sIx ?_ | refine opt_in rfl ?_ | refine br_f ?_ | refine sNum ?_ | refine num0_out ?_ | refine sDt ?_ | refine sDf ?_ | refine sNt ?_ | refine sNf ?_ | refine sBt ?_ | refine sBf ?_ | refine sOb ?_ | refine sRw ?_); try (conv => whnf)))
  refine br_false (by simp; omega) ?_
  ((try (conv => whnf)); repeat ((first | exact True.intro | refine br_t ?_ | (with_reducible refine ix_nat ?_) | (with_reducible refine ix_lit _ ?_) | (with_reducible refine ix_add 1 ?_) | (with_reducible refine ix_add 2 ?_) | refine sIx ?_ | refine opt_in rfl ?_ | refine br_f ?_ | refine sNum ?_ | refine num0_out ?_ | refine sDt ?_ | refine sDf ?_ | refine sNt ?_ | refine sNf ?_ | refine sBt ?_ | refine sBf ?_ | refine sOb ?_ | refine sRw ?_); try (conv => whnf)))

theorem pb_no (c : Nat → Int) (s : List Int) (cs : List (Nat × Nat)) (l : List Int) (i : Nat) (hi : i < l.length) (hx : l.getD i 0 ∉ s)
    (lb : List Int) (rest many : Nat) (u : List Int) (hl : l.length ≤ 200) (hu : u.length ≤ 200) (hlb : lb.length ≤ 2 ^ 30) (hm : many < 8) :
    CodeTo Try.prog Try.f3.ntmps (loopAt Try.f3 0) (pbS c s cs l i lb rest many u) .normal (pbS c s cs l (i + 1) lb rest many u) := by
  have pu := eI_pure .u8
  have pi := eI_pure .i64
  have p1 := cEs_pure cs s s.length
  have p2 := sEs_pure cs s s.length
  have h1 := Code_no cs s (l.getD i 0) hx
  have h2 := TPut_no cs s (l.getD i 0) hx
  have h3 := Len_ct lb rest many (by omega) (by omega)
  unfold tabO at *
  unfold pbS
  generalize cEs cs s s.length = es at *
  generalize sEs cs s s.length = fs at *
  refine code_step Try.ESOK [] [] ?_
  ((try (conv => whnf)); repeat ((first | exact True.intro | refine br_t ?_ | (with_reducible refine ix_nat ?_) | (with_reducible refine ix_lit _ ?_) | (with_reducible refine ix_add 1 ?_) | (with_reducible refine ix_add 2 ?_) | refine sIx ?_ | refine opt_in rfl ?_ | refine br_f ?_ | refine sNum ?_ | refine num0_out ?_ | refine sDt ?_ | refine sDf ?_ | refine sNt ?_ | refine sNf ?_ | refine sBt ?_ | refine sBf ?_ | refine sOb ?_ | refine sRw ?_); try (conv => whnf)))
  refine lift_use [1, 2, 3] 3 0 h1 rfl rfl (by kernel_rfl) ?_ ?_
  · ((try (conv => whnf)); repeat ((first | exact True.intro | refine br_t ?_ | (with_reducible refine ix_nat ?_) | (with_reducible refine ix_lit _ ?_) | (with_reducible refine ix_add 1 ?_) | (with_reducible refine ix_add 2 ?_) | refine sIx ?_ | refine opt_in rfl ?_ | refine br_f ?_ | refine sNum ?_ | refine num0_out ?_ | refine sDt ?_ | refine sDf ?_ | refine sNt ?_ | refine sNf ?_ | refine sBt ?_ | refine sBf ?_ | refine sOb ?_ | refine sRw ?_); try (conv => whnf)))
  ((try (conv => whnf)); repeat ((first | exact True.intro | refine br_t ?_ | (with_reducible refine ix_nat ?_) | (with_reducible refine ix_lit _ ?_) | (with_reducible refine ix_add 1 ?_) | (with_reducible refine ix_add 2 ?_) | refine sIx ?_ | refine opt_in rfl ?_ | refine br_f ?_ | refine sNum ?_ | refine num0_out ?_ | refine sDt ?_ | refine sDf ?_ | refine sNt ?_ | refine sNf ?_ | refine sBt ?_ | refine sBf ?_ | refine sOb ?_ | refine sRw ?_); try (conv => whnf)))
  refine deep_use [4, 5] 2 h3 rfl (by kernel_rfl) ?_ ?_
  · ((try (conv => whnf)); repeat ((first | exact True.intro | refine br_t ?_ | (with_reducible refine ix_nat ?_) | (with_reducible refine ix_lit _ ?_) | (with_reducible refine ix_add 1 ?_) | (with_reducible refine ix_add 2 ?_) | refine sIx ?_ | refine opt_in rfl ?_ | refine br_f ?_ | refine sNum ?_ | refine num0_out ?_ | refine sDt ?_ | refine sDf ?_ | refine sNt ?_ | refine sNf ?_ | refine sBt ?_ | refine sBf ?_ | refine sOb ?_ | refine sRw ?_); try (conv => whnf)))
  ((try (conv => whnf)); repeat ((first | exact True.intro | refine br_t ?_ | (with_reducible refine ix_nat ?_) | (with_reducible refine ix_lit _ ?_) | (with_reducible refine ix_add 1 ?_) | (with_reducible refine ix_add 2 ?_) | refine sIx ?_ | refine opt_in rfl ?_ | refine br_f ?_ | refine sNum ?_ | refine num0_out ?_ | refine sDt ?_ | refine sDf ?_ | refine sNt ?_ | refine sNf ?_ | refine sBt ?_ | refine sBf ?_ | refine sOb ?_ | refine sRw ?_); try (conv => whnf)))
  refine lift_use [1, 2, 3] 3 0 h2 rfl rfl (by kernel_rfl) ?_ ?_
  · ((try (conv => whnf)); repeat ((first | exact True.intro | refine br_t ?_ | (with_reducible refine ix_nat ?_) | (with_reducible refine ix_lit _ ?_) | (with_reducible refine ix_add 1 ?_) | (with_reducible refine ix_add 2 ?_) | refine sIx ?_ | refine opt_in rfl ?_ | refine br_f ?_ | refine sNum ?_ | refine num0_out ?_ | refine sDt ?_ | refine sDf ?_ | refine sNt ?_ | refine sNf ?_ | refine sBt ?_ | refine sBf ?_ | refine sOb ?_ | refine sRw ?_); try (conv => whnf)))
  ((try (conv => whnf)); repeat ((first | exact True.intro | refine br_t ?_ | (with_reducible refine ix_nat ?_) | (with_reducible refine ix_lit _ ?_) | (with_reducible refine ix_add 1 ?_) | (with_reducible refine ix_add 2 ?_) | refine sIx ?_ | refine opt_in rfl ?_ | refine br_f ?_ | refine sNum ?_ | refine num0_out ?_ | refine sDt ?_ | refine sDf ?_ | refine sNt ?_ | refine sNf ?_ | refine sBt ?_ | refine sBf ?_ | refine sOb ?_ | refine sRw ?_); try (conv => whnf)))
  refine deep_use [4, 5] 2 h3 rfl (by kernel_rfl) ?_ ?_
  · ((try (conv => whnf)); repeat ((first | exact True.intro | refine br_t ?_ | (with_reducible refine ix_nat ?_) | (with_reducible refine ix_lit _ ?_) | (with_reducible refine ix_add 1 ?_) | (with_reducible refine ix_add 2 ?_) | refine sIx ?_ | refine opt_in rfl ?_ | refine br_f ?_ | refine sNum ?_ | refine num0_out ?_ | refine sDt ?_ | refine sDf ?_ | refine sNt ?_ | refine sNf ?_ | refine sBt ?_ | refine sBf ?_ | refine sOb ?_ | refine sRw ?_); try (conv => whnf)))
  ((try (conv => whnf)); repeat ((first | exact True.intro | refine br_t ?_ | (with_reducible refine ix_nat ?_) | (with_reducible refine ix_lit _ ?_) | (with_reducible refine ix_add 1 ?_) | (with_reducible refine ix_add 2 ?_) | refine sIx ?_ | refine opt_in rfl ?_ | refine br_f ?_ | refine sNum ?_ | refine num0_out ?_ | refine sDt ?_ | refine sDf ?_ | refine sNt ?_ | refine sNf ?_ | refine sBt ?_ | refine sBf ?_ | refine sOb ?_ | refine sRw ?_); try (conv => whnf)))
end Go.Proofs
