/- BitsP: a part of the proof of PrefixBack. Own work. -/
import Derived.Test.YtcimijgokedcgaaBitsR
set_option linter.unusedVariables false
set_option linter.unusedSimpArgs false
set_option linter.unusedSectionVars false
namespace Go.Proofs
open Go Go.Ab
set_option maxRecDepth 100000


def plainS (s q : List Int) (u : Nat) : St := stL [(0, islI .u8 s), (2, .bv 0 q.length 1 0 q.length none), (3, .int .i64 u)] [(0, bufI .u8 q)] 1

theorem plain_one (s q : List Int) (u : Nat) (hs : s.length ≤ 2 ^ 40) (hq : q.length ≤ 2 ^ 40) (hu : u < s.length) (hc : s.getD u 0 ≠ 255) :
    CodeTo Try.prog Try.f22.ntmps (loopAt Try.f22 0) (plainS s q u) .normal (plainS s (q ++ [s.getD u 0]) (u + 1)) := by
  have pu := eI_pure .u8
  refine code_step Try.ESOK [] [] ?_
  ((try (conv => whnf)); repeat ((first | exact True.intro | refine br_t ?_ | (with_reducible refine ix_nat ?_) | (with_reducible refine ix_lit _ ?_) | (with_reducible refine ix_add 1 ?_) | (with_reducible refine ix_add 2 ?_) | refine sIx ?_ | refine opt_in rfl ?_ | refine br_f ?_ | refine sNum ?_ | refine num0_out ?_ | refine sDt ?_ | refine sDf ?_ | refine sNt ?_ | refine sNf ?_ | refine sBt ?_ | refine sBf ?_ | refine sOb ?_ | refine sRw ?_); try (conv => whnf)))

theorem plain_two (s q : List Int) (u : Nat) (hs : s.length ≤ 2 ^ 40) (hq : q.length ≤ 2 ^ 40) (hu : u + 1 < s.length) (hc : s.getD u 0 = 255) (hz : s.getD (u + 1) 0 = 0) :
    CodeTo Try.prog Try.f22.ntmps (loopAt Try.f22 0) (plainS s q u) .normal (plainS s (q ++ [255]) (u + 2)) := by
  have pu := eI_pure .u8
  refine code_step Try.ESOK [] [] ?_
  ((try (conv => whnf)); repeat ((first | exact True.intro | refine br_t ?_ | (with_reducible refine ix_nat ?_) | (with_reducible refine ix_lit _ ?_) | (with_reducible refine ix_add 1 ?_) | (with_reducible refine ix_add 2 ?_) | refine sIx ?_ | refine opt_in rfl ?_ | refine br_f ?_ | refine sNum ?_ | refine num0_out ?_ | refine sDt ?_ | refine sDf ?_ | refine sNt ?_ | refine sNf ?_ | refine sBt ?_ | refine sBf ?_ | refine sOb ?_ | refine sRw ?_); try (conv => whnf)))

theorem stuff_app (a b : List Int) : stuff (a ++ b) = stuff a ++ stuff b := by
  induction a with
  | nil => rfl
  | cons c a ih => simp only [List.cons_append, stuff, ih]; split <;> simp

theorem plain_ct (x : List Int) (hx : x.length ≤ 2 ^ 38) : PCallTo Try.prog 22 [islI .u8 (stuff x)] (.tup [islI .u8 x, .int .i64 (stuff x).length]) := by
  have pu := eI_pure .u8
  have hs := stuff_len x
  have hl : LoopTo Try.prog Try.f22.ntmps (loopAt Try.f22 0) (plainS (stuff x) [] 0) (.exit 0) (plainS (stuff x) x (stuff x).length) := by
    have key := loop_of (P := Try.prog) (fs := Try.f22.ntmps) (cd := loopAt Try.f22 0) (S := fun i => plainS (stuff x) (x.take i) (stuff (x.take i)).length) (n := x.length) (e := .exit 0)
      (s' := plainS (stuff x) x (stuff x).length) (by simp)
      (fun i hi => by
        have e0 : stuff x = stuff (x.take i) ++ stuff (x.drop i) := by rw [← stuff_app, List.take_append_drop]
        have e1 : x.drop i = x.getD i 0 :: x.drop (i + 1) := by
          rw [List.drop_eq_getElem_cons hi]; simp [List.getD_eq_getElem?_getD, hi]
        rw [e1] at e0
        have hu : stuff (x.take (i + 1)) = stuff (x.take i) ++ if x.getD i 0 = 255 then [x.getD i 0, 0] else [x.getD i 0] := stuff_upto x i hi
        have ht : (x.take i).length ≤ x.length := by simp; omega
        rw [take_snoc' x i hi] at hu ⊢
        rw [hu]
        generalize hc : x.getD i 0 = c at *
        by_cases h : c = 255
        · subst h
          have q1 : (stuff x).getD (stuff (x.take i)).length 0 = 255 := by rw [e0]; simp [List.getD_eq_getElem?_getD, stuff]
          have q2 : (stuff x).getD ((stuff (x.take i)).length + 1) 0 = 0 := by rw [e0]; simp [List.getD_eq_getElem?_getD, stuff, List.getElem?_append_right]
          have q3 : (stuff (x.take i)).length + 1 < (stuff x).length := by rw [e0]; simp [stuff]
          have := plain_two (stuff x) (x.take i) (stuff (x.take i)).length (by omega) (by omega) q3 q1 q2
          simpa using this
        · have q1 : (stuff x).getD (stuff (x.take i)).length 0 = c := by rw [e0]; simp [List.getD_eq_getElem?_getD, stuff, h]
          have q3 : (stuff (x.take i)).length < (stuff x).length := by rw [e0]; simp [stuff, h]
          have := plain_one (stuff x) (x.take i) (stuff (x.take i)).length (by omega) (by omega) q3 (by rw [q1]; exact h)
          rw [q1] at this
          simpa [h] using this)
      (by
        rw [List.take_length]
        generalize stuff x = s at *
        refine code_step Try.ESOK [] [] ?_
        ((try (conv => whnf)); repeat ((first | exact True.intro | refine br_t ?_ | (with_reducible refine ix_nat ?_) | (with_reducible refine ix_lit _ ?_) | (with_reducible refine ix_add 1 ?_) | (with_reducible refine ix_add 2 ?_) | refine sIx ?_ | refine opt_in rfl ?_ | refine br_f ?_ | refine sNum ?_ | refine num0_out ?_ | refine sDt ?_ | refine sDf ?_ | refine sNt ?_ | refine sNf ?_ | refine sBt ?_ | refine sBf ?_ | refine sOb ?_ | refine sRw ?_); try (conv => whnf)))) 0 (Nat.zero_le _)
    exact key
  generalize stuff x = s at *
  refine pure_step Try.ESOK Try.func22 [0] ?_ (by intro v hv; simp at hv; subst hv; exact islI_pure _ _) (.tup (by intro v hv; simp at hv; rcases hv with rfl | rfl <;> first | exact islI_pure _ _ | exact .int _ _))
  ((try (conv => whnf)); repeat ((first | exact True.intro | refine br_t ?_ | (with_reducible refine ix_nat ?_) | (with_reducible refine ix_lit _ ?_) | (with_reducible refine ix_add 1 ?_) | (with_reducible refine ix_add 2 ?_) | refine sIx ?_ | refine opt_in rfl ?_ | refine br_f ?_ | refine sNum ?_ | refine num0_out ?_ | refine sDt ?_ | refine sDf ?_ | refine sNt ?_ | refine sNf ?_ | refine sBt ?_ | refine sBf ?_ | refine sOb ?_ | refine sRw ?_); try (conv => whnf)))
  refine loop_use [none] [] hl ?_ ?_
  ((try (conv => whnf)); repeat ((first | exact True.intro | refine br_t ?_ | (with_reducible refine ix_nat ?_) | (with_reducible refine ix_lit _ ?_) | (with_reducible refine ix_add 1 ?_) | (with_reducible refine ix_add 2 ?_) | refine sIx ?_ | refine opt_in rfl ?_ | refine br_f ?_ | refine sNum ?_ | refine num0_out ?_ | refine sDt ?_ | refine sDf ?_ | refine sNt ?_ | refine sNf ?_ | refine sBt ?_ | refine sBf ?_ | refine sOb ?_ | refine sRw ?_); try (conv => whnf)))
  ((try (conv => whnf)); repeat ((first | exact True.intro | refine br_t ?_ | (with_reducible refine ix_nat ?_) | (with_reducible refine ix_lit _ ?_) | (with_reducible refine ix_add 1 ?_) | (with_reducible refine ix_add 2 ?_) | refine sIx ?_ | refine opt_in rfl ?_ | refine br_f ?_ | refine sNum ?_ | refine num0_out ?_ | refine sDt ?_ | refine sDf ?_ | refine sNt ?_ | refine sNf ?_ | refine sBt ?_ | refine sBf ?_ | refine sOb ?_ | refine sRw ?_); try (conv => whnf)))

/-- a reader: its bytes, and how many bits were taken -/
def rdO (l : List Int) (p : Nat) : List Ob := [.cells [islI .u8 l, .int .i64 p]]

theorem BNew_ct (x : List Int) (hx : x.length ≤ 2 ^ 38) : CallTo Try.prog 9 [islI .u8 (stuff x)] (hpN 0 []) (.ptr 0 0) (hpN 1 (rdO x 0)) := by
  have pu := eI_pure .u8
  refine call_step Try.ESOK Try.func9 [some 0] [] ?_
  ((try (conv => whnf)); repeat ((first | exact True.intro | refine br_t ?_ | (with_reducible refine ix_nat ?_) | (with_reducible refine ix_lit _ ?_) | (with_reducible refine ix_add 1 ?_) | (with_reducible refine ix_add 2 ?_) | refine sIx ?_ | refine opt_in rfl ?_ | refine br_f ?_ | refine sNum ?_ | refine num0_out ?_ | refine sDt ?_ | refine sDf ?_ | refine sNt ?_ | refine sNf ?_ | refine sBt ?_ | refine sBf ?_ | refine sOb ?_ | refine sRw ?_); try (conv => whnf)))
  refine pure_use (plain_ct x hx) ?_
  ((try (conv => whnf)); repeat ((first | exact True.intro | refine br_t ?_ | (with_reducible refine ix_nat ?_) | (with_reducible refine ix_lit _ ?_) | (with_reducible refine ix_add 1 ?_) | (with_reducible refine ix_add 2 ?_) | refine sIx ?_ | refine opt_in rfl ?_ | refine br_f ?_ | refine sNum ?_ | refine num0_out ?_ | refine sDt ?_ | refine sDf ?_ | refine sNt ?_ | refine sNf ?_ | refine sBt ?_ | refine sBf ?_ | refine sOb ?_ | refine sRw ?_); try (conv => whnf)))

theorem Left_ct (l : List Int) (p : Nat) (hl : l.length ≤ 2 ^ 40) (hp : p ≤ 2 ^ 50) : CallTo Try.prog 26 [.ptr 0 0] (hpN 1 (rdO l p)) (.int .i64 (8 * (l.length : Int) - p)) (hpN 1 (rdO l p)) := by
  have pu := eI_pure .u8
  refine call_step Try.ESOK Try.func26 [] [] ?_
  ((try (conv => whnf)); repeat ((first | exact True.intro | refine br_t ?_ | (with_reducible refine ix_nat ?_) | (with_reducible refine ix_lit _ ?_) | (with_reducible refine ix_add 1 ?_) | (with_reducible refine ix_add 2 ?_) | refine sIx ?_ | refine opt_in rfl ?_ | refine br_f ?_ | refine sNum ?_ | refine num0_out ?_ | refine sDt ?_ | refine sDf ?_ | refine sNt ?_ | refine sNf ?_ | refine sBt ?_ | refine sBf ?_ | refine sOb ?_ | refine sRw ?_); try (conv => whnf)))
end Go.Proofs
