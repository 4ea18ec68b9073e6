/- PbD: a part of the proof of PrefixBack. Own work. -/
import Derived.Test.YtcimijgokedcgaaPbC
set_option linter.unusedVariables false
set_option linter.unusedSimpArgs false
set_option linter.unusedSectionVars false
namespace Go.Proofs
open Go Go.Ab
set_option maxRecDepth 100000


theorem pb_args (c : Nat → Int) (s l : List Int) : ∀ v ∈ [huffV c s, islI .i64 l], Ab.Pure v := by
  intro v hv; simp at hv; rcases hv with rfl | rfl
  · exact huff_pure _ _
  · exact islI_pure _ _

theorem Pb_long1 (c : Nat → Int) (s l : List Int) (h : 256 < s.length) : PCallTo Try.prog 3 [huffV c s, islI .i64 l] (.bool true) := by
  have pu := eI_pure .i64
  refine pure_step Try.ESOK Try.func3 [] ?_ (pb_args c s l) (.bool _)
  ((try (conv => whnf)); repeat ((first | exact True.intro | refine br_t ?_ | (with_reducible refine ix_nat ?_) | (with_reducible refine ix_lit _ ?_) | (with_reducible refine ix_add 1 ?_) | (with_reducible refine ix_add 2 ?_) | refine sIx ?_ | refine opt_in rfl ?_ | refine br_f ?_ | refine sNum ?_ | refine num0_out ?_ | refine sDt ?_ | refine sDf ?_ | refine sNt ?_ | refine sNf ?_ | refine sBt ?_ | refine sBf ?_ | refine sOb ?_ | refine sRw ?_); try (conv => whnf)))
  refine pure_use awake_ct ?_
  ((try (conv => whnf)); repeat ((first | exact True.intro | refine br_t ?_ | (with_reducible refine ix_nat ?_) | (with_reducible refine ix_lit _ ?_) | (with_reducible refine ix_add 1 ?_) | (with_reducible refine ix_add 2 ?_) | refine sIx ?_ | refine opt_in rfl ?_ | refine br_f ?_ | refine sNum ?_ | refine num0_out ?_ | refine sDt ?_ | refine sDf ?_ | refine sNt ?_ | refine sNf ?_ | refine sBt ?_ | refine sBf ?_ | refine sOb ?_ | refine sRw ?_); try (conv => whnf)))

theorem Pb_long2 (c : Nat → Int) (s l : List Int) (h : s.length ≤ 256) (h2 : 200 < l.length) : PCallTo Try.prog 3 [huffV c s, islI .i64 l] (.bool true) := by
  have pu := eI_pure .i64
  refine pure_step Try.ESOK Try.func3 [] ?_ (pb_args c s l) (.bool _)
  ((try (conv => whnf)); repeat ((first | exact True.intro | refine br_t ?_ | (with_reducible refine ix_nat ?_) | (with_reducible refine ix_lit _ ?_) | (with_reducible refine ix_add 1 ?_) | (with_reducible refine ix_add 2 ?_) | refine sIx ?_ | refine opt_in rfl ?_ | refine br_f ?_ | refine sNum ?_ | refine num0_out ?_ | refine sDt ?_ | refine sDf ?_ | refine sNt ?_ | refine sNf ?_ | refine sBt ?_ | refine sBf ?_ | refine sOb ?_ | refine sRw ?_); try (conv => whnf)))
  refine pure_use awake_ct ?_
  ((try (conv => whnf)); repeat ((first | exact True.intro | refine br_t ?_ | (with_reducible refine ix_nat ?_) | (with_reducible refine ix_lit _ ?_) | (with_reducible refine ix_add 1 ?_) | (with_reducible refine ix_add 2 ?_) | refine sIx ?_ | refine opt_in rfl ?_ | refine br_f ?_ | refine sNum ?_ | refine num0_out ?_ | refine sDt ?_ | refine sDf ?_ | refine sNt ?_ | refine sNf ?_ | refine sBt ?_ | refine sBf ?_ | refine sOb ?_ | refine sRw ?_); try (conv => whnf)))

theorem Len_nil : CallTo Try.prog 7 [.ptr 0 0] (hpN 1 [.cells [V.nilSlice, .int .u32 0, .int .i64 0]]) (.int .i64 0) (hpN 1 [.cells [V.nilSlice, .int .u32 0, .int .i64 0]]) := by
  refine call_step Try.ESOK Try.func7 [] [] ?_
  ((try (conv => whnf)); repeat ((first | exact True.intro | refine br_t ?_ | (with_reducible refine ix_nat ?_) | (with_reducible refine ix_lit _ ?_) | (with_reducible refine ix_add 1 ?_) | (with_reducible refine ix_add 2 ?_) | refine sIx ?_ | refine opt_in rfl ?_ | refine br_f ?_ | refine sNum ?_ | refine num0_out ?_ | refine sDt ?_ | refine sDf ?_ | refine sNt ?_ | refine sNf ?_ | refine sBt ?_ | refine sBf ?_ | refine sOb ?_ | refine sRw ?_); try (conv => whnf)))

theorem Pb_no (c : Nat → Int) (s l : List Int) (h : s.length ≤ 256) (h2 : l.length ≤ 200) (hn : ¬ mayP c s) : PCallTo Try.prog 3 [huffV c s, islI .i64 l] (.bool true) := by
  have pu := eI_pure .i64
  have h1 := New_no c s h hn
  refine pure_step Try.ESOK Try.func3 [] ?_ (pb_args c s l) (.bool _)
  ((try (conv => whnf)); repeat ((first | exact True.intro | refine br_t ?_ | (with_reducible refine ix_nat ?_) | (with_reducible refine ix_lit _ ?_) | (with_reducible refine ix_add 1 ?_) | (with_reducible refine ix_add 2 ?_) | refine sIx ?_ | refine opt_in rfl ?_ | refine br_f ?_ | refine sNum ?_ | refine num0_out ?_ | refine sDt ?_ | refine sDf ?_ | refine sNt ?_ | refine sNf ?_ | refine sBt ?_ | refine sBf ?_ | refine sOb ?_ | refine sRw ?_); try (conv => whnf)))
  refine pure_use h1 ?_
  ((try (conv => whnf)); repeat ((first | exact True.intro | refine br_t ?_ | (with_reducible refine ix_nat ?_) | (with_reducible refine ix_lit _ ?_) | (with_reducible refine ix_add 1 ?_) | (with_reducible refine ix_add 2 ?_) | refine sIx ?_ | refine opt_in rfl ?_ | refine br_f ?_ | refine sNum ?_ | refine num0_out ?_ | refine sDt ?_ | refine sDf ?_ | refine sNt ?_ | refine sNf ?_ | refine sBt ?_ | refine sBf ?_ | refine sOb ?_ | refine sRw ?_); try (conv => whnf)))
  refine pure_use_rp (TPut_nil 0) ?_
  ((try (conv => whnf)); repeat ((first | exact True.intro | refine br_t ?_ | (with_reducible refine ix_nat ?_) | (with_reducible refine ix_lit _ ?_) | (with_reducible refine ix_add 1 ?_) | (with_reducible refine ix_add 2 ?_) | refine sIx ?_ | refine opt_in rfl ?_ | refine br_f ?_ | refine sNum ?_ | refine num0_out ?_ | refine sDt ?_ | refine sDf ?_ | refine sNt ?_ | refine sNf ?_ | refine sBt ?_ | refine sBf ?_ | refine sOb ?_ | refine sRw ?_); try (conv => whnf)))
  refine deep_use [1] 1 Len_nil rfl (by kernel_rfl) ?_ ?_
  · ((try (conv => whnf)); repeat ((first | exact True.intro | refine br_t ?_ | (with_reducible refine ix_nat ?_) | (with_reducible refine ix_lit _ ?_) | (with_reducible refine ix_add 1 ?_) | (with_reducible refine ix_add 2 ?_) | refine sIx ?_ | refine opt_in rfl ?_ | refine br_f ?_ | refine sNum ?_ | refine num0_out ?_ | refine sDt ?_ | refine sDf ?_ | refine sNt ?_ | refine sNf ?_ | refine sBt ?_ | refine sBf ?_ | refine sOb ?_ | refine sRw ?_); try (conv => whnf)))
  ((try (conv => whnf)); repeat ((first | exact True.intro | refine br_t ?_ | (with_reducible refine ix_nat ?_) | (with_reducible refine ix_lit _ ?_) | (with_reducible refine ix_add 1 ?_) | (with_reducible refine ix_add 2 ?_) | refine sIx ?_ | refine opt_in rfl ?_ | refine br_f ?_ | refine sNum ?_ | refine num0_out ?_ | refine sDt ?_ | refine sDf ?_ | refine sNt ?_ | refine sNf ?_ | refine sBt ?_ | refine sBf ?_ | refine sOb ?_ | refine sRw ?_); try (conv => whnf)))
  refine pure_use awake_ct ?_
  ((try (conv => whnf)); repeat ((first | exact True.intro | refine br_t ?_ | (with_reducible refine ix_nat ?_) | (with_reducible refine ix_lit _ ?_) | (with_reducible refine ix_add 1 ?_) | (with_reducible refine ix_add 2 ?_) | refine sIx ?_ | refine opt_in rfl ?_ | refine br_f ?_ | refine sNum ?_ | refine num0_out ?_ | refine sDt ?_ | refine sDf ?_ | refine sNt ?_ | refine sNf ?_ | refine sBt ?_ | refine sBf ?_ | refine sOb ?_ | refine sRw ?_); try (conv => whnf)))

theorem tk_loop (c : Nat → Int) (s : List Int) (cs : List (Nat × Nat)) (l : List Int) (hok : CodesOK cs) (hlen : cs.length = s.length) (hl : l.length ≤ 200) (lb : List Int) (rest many : Nat) :
    LoopTo Try.prog Try.f3.ntmps (loopAt Try.f3 1) (tkL c s cs lb rest many (kept s l) (outB (kq cs s l)) 0 0) (.exit 2)
      (stL [(2, .ptr 0 0), (5, .ptr 1 0), (13, .ptr 12 0)] (pbO c s cs lb rest many (kept s l) (outB (kq cs s l)) (sm (kq cs s l))) 13) := by
  obtain ⟨k1, k2, k3⟩ := kq_ok hok hlen l
  have key := loop_of (P := Try.prog) (fs := Try.f3.ntmps) (cd := loopAt Try.f3 1) (S := fun i => tkL c s cs lb rest many (kept s l) (outB (kq cs s l)) i (sm ((kq cs s l).take i))) (n := (kept s l).length) (e := .exit 2)
    (s' := stL [(2, .ptr 0 0), (5, .ptr 1 0), (13, .ptr 12 0)] (pbO c s cs lb rest many (kept s l) (outB (kq cs s l)) (sm (kq cs s l))) 13) (by simp)
    (fun i hi => by
      have ht := take_q hok hlen l hl i hi
      have hx : (kept s l).getD i 0 ∈ s := by
        have := getD_mem (d := (0 : Int)) hi
        simpa [kept] using (List.mem_filter.1 this).2
      obtain ⟨j1, j2, _⟩ := code_one hok hlen hx
      exact tk_round c s cs lb rest many (kept s l) (outB (kq cs s l)) i _ _ (s.idxOf ((kept s l).getD i 0)) (by omega) hi j2.symm (by rw [j2]; exact ht))
    (by
      have pu := eI_pure .u8
      have pi := eI_pure .i64
      have p1 := cEs_pure cs s s.length
      have p2 := sEs_pure cs s s.length
      have e : (kq cs s l).take (kept s l).length = kq cs s l := List.take_of_length_le (by simp [kq])
      rw [e]
      generalize sm (kq cs s l) = P
      generalize outB (kq cs s l) = bytes
      generalize kept s l = u at *
      unfold tkL pbO
      generalize cEs cs s s.length = es at *
      generalize sEs cs s s.length = fs at *
      refine code_step Try.ESOK [] [] ?_
      ((try (conv => whnf)); repeat ((first | exact True.intro | refine br_t ?_ | (with_reducible refine ix_nat ?_) | (with_reducible refine ix_lit _ ?_) | (with_reducible refine ix_add 1 ?_) | (with_reducible refine ix_add 2 ?_) | refine sIx ?_ | refine opt_in rfl ?_ | refine br_f ?_ | refine sNum ?_ | refine num0_out ?_ | refine sDt ?_ | refine sDf ?_ | refine sNt ?_ | refine sNf ?_ | refine sBt ?_ | refine sBf ?_ | refine sOb ?_ | refine sRw ?_); try (conv => whnf)))) 0 (Nat.zero_le _)
  have e0 : sm ((kq cs s l).take 0) = 0 := by simp [sm]
  simp only [e0] at key
  exact key

theorem all_loop (c : Nat → Int) (s : List Int) (cs : List (Nat × Nat)) (hok : CodesOK cs) (hlen : cs.length ≤ 2 ^ 20) (lb : List Int) (rest many : Nat) (u bytes : List Int) (P : Nat) :
    LoopTo Try.prog Try.f3.ntmps (loopAt Try.f3 2) (allS c s cs lb rest many u bytes P 0) (.exit 4) (allS c s cs lb rest many u bytes P cs.length) := by
  have key := loop_of (P := Try.prog) (fs := Try.f3.ntmps) (cd := loopAt Try.f3 2) (S := fun i => allS c s cs lb rest many u bytes P i) (n := cs.length) (e := .exit 4)
    (s' := allS c s cs lb rest many u bytes P cs.length) (by simp)
    (fun i hi => all_round c s cs lb rest many u bytes P i hi hok hlen)
    (by
      have pu := eI_pure .u8
      have pi := eI_pure .i64
      have pb := eBits_pure
      have p1 := cEs_pure cs s s.length
      have p2 := sEs_pure cs s s.length
      unfold allS pbO
      generalize cEs cs s s.length = es at *
      generalize sEs cs s s.length = fs at *
      refine code_step Try.ESOK [] [] ?_
      ((try (conv => whnf)); repeat ((first | exact True.intro | refine br_t ?_ | (with_reducible refine ix_nat ?_) | (with_reducible refine ix_lit _ ?_) | (with_reducible refine ix_add 1 ?_) | (with_reducible refine ix_add 2 ?_) | refine sIx ?_ | refine opt_in rfl ?_ | refine br_f ?_ | refine sNum ?_ | refine num0_out ?_ | refine sDt ?_ | refine sDf ?_ | refine sNt ?_ | refine sNf ?_ | refine sBt ?_ | refine sBf ?_ | refine sOb ?_ | refine sRw ?_); try (conv => whnf)))) 0 (Nat.zero_le _)
  exact key

theorem Pb_yes (c : Nat → Int) (s l : List Int) (h : s.length ≤ 256) (h2 : l.length ≤ 200) (hm : mayP c s) : PCallTo Try.prog 3 [huffV c s, islI .i64 l] (.bool true) := by
  have pu := eI_pure .u8
  have pi := eI_pure .i64
  have pb := eBits_pure
  obtain ⟨hok, hlen⟩ := codes_ok hm
  have hs := hm.2.1.2
  have h1 := New_yes c s h hm hlen hok.nodup
  have hcd := Codes_yes c s h hm
  have l0 := pb_loop0 c s (codesL c) l hs hok hlen h2
  obtain ⟨k1, k2, k3⟩ := kq_ok hok hlen l
  have hwl := wb_len (kq (codesL c) s l)
  have hdn := Done_ct (wb (kq (codesL c) s l)) (wr (kq (codesL c) s l)) (wm (kq (codesL c) s l)) (by omega) (Nat.mod_lt _ (by omega)) (wr_lt _)
  rw [done_q] at hdn
  have hol := outB_len (kq (codesL c) s l)
  have hp8 := pad8 (kq (codesL c) s l)
  have hbn := BNew_ct (outB (kq (codesL c) s l)) (by omega)
  have l1 := tk_loop c s (codesL c) l hok hlen h2 (wb (kq (codesL c) s l)) (wr (kq (codesL c) s l)) (wm (kq (codesL c) s l))
  have l2 := all_loop c s (codesL c) hok (by omega) (wb (kq (codesL c) s l)) (wr (kq (codesL c) s l)) (wm (kq (codesL c) s l)) (kept s l) (outB (kq (codesL c) s l)) (sm (kq (codesL c) s l))
  have hfl := Filled_ct (outB (kq (codesL c) s l)) (isByte_bytesOf _ _ _) (by omega) (sm (kq (codesL c) s l)) (by omega) (by omega) (fun k hk1 hk2 => read_rest _ _ _ hp8.1 hk1 (by omega))
  have hpo := TPut_out (codesL c) s hs 0
  have p1 := cEs_pure (codesL c) s s.length
  have p2 := sEs_pure (codesL c) s s.length
  unfold tabO at h1 hpo
  unfold pbS at l0
  unfold tkL pbO at l1
  unfold allS pbO at l2
  generalize outB (kq (codesL c) s l) = ob at *
  generalize wb (kq (codesL c) s l) = lb at *
  generalize wr (kq (codesL c) s l) = rest at *
  generalize wm (kq (codesL c) s l) = many at *
  generalize sm (kq (codesL c) s l) = P at *
  generalize kept s l = u at *
  generalize cEs (codesL c) s s.length = es at *
  generalize sEs (codesL c) s s.length = fs at *
  generalize codesL c = cs at *
  refine pure_step Try.ESOK Try.func3 [] ?_ (pb_args c s l) (.bool _)
  ((try (conv => whnf)); repeat ((first | exact True.intro | refine br_t ?_ | (with_reducible refine ix_nat ?_) | (with_reducible refine ix_lit _ ?_) | (with_reducible refine ix_add 1 ?_) | (with_reducible refine ix_add 2 ?_) | refine sIx ?_ | refine opt_in rfl ?_ | refine br_f ?_ | refine sNum ?_ | refine num0_out ?_ | refine sDt ?_ | refine sDf ?_ | refine sNt ?_ | refine sNf ?_ | refine sBt ?_ | refine sBf ?_ | refine sOb ?_ | refine sRw ?_); try (conv => whnf)))
  refine lift_use [] 0 3 h1 rfl rfl (by kernel_rfl) ?_ ?_
  · ((try (conv => whnf)); repeat ((first | exact True.intro | refine br_t ?_ | (with_reducible refine ix_nat ?_) | (with_reducible refine ix_lit _ ?_) | (with_reducible refine ix_add 1 ?_) | (with_reducible refine ix_add 2 ?_) | refine sIx ?_ | refine opt_in rfl ?_ | refine br_f ?_ | refine sNum ?_ | refine num0_out ?_ | refine sDt ?_ | refine sDf ?_ | refine sNt ?_ | refine sNf ?_ | refine sBt ?_ | refine sBf ?_ | refine sOb ?_ | refine sRw ?_); try (conv => whnf)))
  ((try (conv => whnf)); repeat ((first | exact True.intro | refine br_t ?_ | (with_reducible refine ix_nat ?_) | (with_reducible refine ix_lit _ ?_) | (with_reducible refine ix_add 1 ?_) | (with_reducible refine ix_add 2 ?_) | refine sIx ?_ | refine opt_in rfl ?_ | refine br_f ?_ | refine sNum ?_ | refine num0_out ?_ | refine sDt ?_ | refine sDf ?_ | refine sNt ?_ | refine sNf ?_ | refine sBt ?_ | refine sBf ?_ | refine sOb ?_ | refine sRw ?_); try (conv => whnf)))
  refine loop_use [some 0, some 1, some 2, some 3, some 4, none, none] [] l0 ?_ ?_
  · ((try (conv => whnf)); repeat ((first | exact True.intro | refine br_t ?_ | (with_reducible refine ix_nat ?_) | (with_reducible refine ix_lit _ ?_) | (with_reducible refine ix_add 1 ?_) | (with_reducible refine ix_add 2 ?_) | refine sIx ?_ | refine opt_in rfl ?_ | refine br_f ?_ | refine sNum ?_ | refine num0_out ?_ | refine sDt ?_ | refine sDf ?_ | refine sNt ?_ | refine sNf ?_ | refine sBt ?_ | refine sBf ?_ | refine sOb ?_ | refine sRw ?_); try (conv => whnf)))
  ((try (conv => whnf)); repeat ((first | exact True.intro | refine br_t ?_ | (with_reducible refine ix_nat ?_) | (with_reducible refine ix_lit _ ?_) | (with_reducible refine ix_add 1 ?_) | (with_reducible refine ix_add 2 ?_) | refine sIx ?_ | refine opt_in rfl ?_ | refine br_f ?_ | refine sNum ?_ | refine num0_out ?_ | refine sDt ?_ | refine sDf ?_ | refine sNt ?_ | refine sNf ?_ | refine sBt ?_ | refine sBf ?_ | refine sOb ?_ | refine sRw ?_); try (conv => whnf)))
  refine lift_use [4, 5] 2 0 hdn rfl rfl (by kernel_rfl) ?_ ?_
  · ((try (conv => whnf)); repeat ((first | exact True.intro | refine br_t ?_ | (with_reducible refine ix_nat ?_) | (with_reducible refine ix_lit _ ?_) | (with_reducible refine ix_add 1 ?_) | (with_reducible refine ix_add 2 ?_) | refine sIx ?_ | refine opt_in rfl ?_ | refine br_f ?_ | refine sNum ?_ | refine num0_out ?_ | refine sDt ?_ | refine sDf ?_ | refine sNt ?_ | refine sNf ?_ | refine sBt ?_ | refine sBf ?_ | refine sOb ?_ | refine sRw ?_); try (conv => whnf)))
  ((try (conv => whnf)); repeat ((first | exact True.intro | refine br_t ?_ | (with_reducible refine ix_nat ?_) | (with_reducible refine ix_lit _ ?_) | (with_reducible refine ix_add 1 ?_) | (with_reducible refine ix_add 2 ?_) | refine sIx ?_ | refine opt_in rfl ?_ | refine br_f ?_ | refine sNum ?_ | refine num0_out ?_ | refine sDt ?_ | refine sDf ?_ | refine sNt ?_ | refine sNf ?_ | refine sBt ?_ | refine sBf ?_ | refine sOb ?_ | refine sRw ?_); try (conv => whnf)))
  refine lift_use [] 0 1 hbn rfl rfl (by kernel_rfl) ?_ ?_
  · ((try (conv => whnf)); repeat ((first | exact True.intro | refine br_t ?_ | (with_reducible refine ix_nat ?_) | (with_reducible refine ix_lit _ ?_) | (with_reducible refine ix_add 1 ?_) | (with_reducible refine ix_add 2 ?_) | refine sIx ?_ | refine opt_in rfl ?_ | refine br_f ?_ | refine sNum ?_ | refine num0_out ?_ | refine sDt ?_ | refine sDf ?_ | refine sNt ?_ | refine sNf ?_ | refine sBt ?_ | refine sBf ?_ | refine sOb ?_ | refine sRw ?_); try (conv => whnf)))
  ((try (conv => whnf)); repeat ((first | exact True.intro | refine br_t ?_ | (with_reducible refine ix_nat ?_) | (with_reducible refine ix_lit _ ?_) | (with_reducible refine ix_add 1 ?_) | (with_reducible refine ix_add 2 ?_) | refine sIx ?_ | refine opt_in rfl ?_ | refine br_f ?_ | refine sNum ?_ | refine num0_out ?_ | refine sDt ?_ | refine sDf ?_ | refine sNt ?_ | refine sNf ?_ | refine sBt ?_ | refine sBf ?_ | refine sOb ?_ | refine sRw ?_); try (conv => whnf)))
  refine loop_use [] [] l1 ?_ ?_
  · ((try (conv => whnf)); repeat ((first | exact True.intro | refine br_t ?_ | (with_reducible refine ix_nat ?_) | (with_reducible refine ix_lit _ ?_) | (with_reducible refine ix_add 1 ?_) | (with_reducible refine ix_add 2 ?_) | refine sIx ?_ | refine opt_in rfl ?_ | refine br_f ?_ | refine sNum ?_ | refine num0_out ?_ | refine sDt ?_ | refine sDf ?_ | refine sNt ?_ | refine sNf ?_ | refine sBt ?_ | refine sBf ?_ | refine sOb ?_ | refine sRw ?_); try (conv => whnf)))
  ((try (conv => whnf)); repeat ((first | exact True.intro | refine br_t ?_ | (with_reducible refine ix_nat ?_) | (with_reducible refine ix_lit _ ?_) | (with_reducible refine ix_add 1 ?_) | (with_reducible refine ix_add 2 ?_) | refine sIx ?_ | refine opt_in rfl ?_ | refine br_f ?_ | refine sNum ?_ | refine num0_out ?_ | refine sDt ?_ | refine sDf ?_ | refine sNt ?_ | refine sNf ?_ | refine sBt ?_ | refine sBf ?_ | refine sOb ?_ | refine sRw ?_); try (conv => whnf)))
  refine pure_use hcd ?_
  ((try (conv => whnf)); repeat ((first | exact True.intro | refine br_t ?_ | (with_reducible refine ix_nat ?_) | (with_reducible refine ix_lit _ ?_) | (with_reducible refine ix_add 1 ?_) | (with_reducible refine ix_add 2 ?_) | refine sIx ?_ | refine opt_in rfl ?_ | refine br_f ?_ | refine sNum ?_ | refine num0_out ?_ | refine sDt ?_ | refine sDf ?_ | refine sNt ?_ | refine sNf ?_ | refine sBt ?_ | refine sBf ?_ | refine sOb ?_ | refine sRw ?_); try (conv => whnf)))
  refine loop_use [] [] l2 ?_ ?_
  · ((try (conv => whnf)); repeat ((first | exact True.intro | refine br_t ?_ | (with_reducible refine ix_nat ?_) | (with_reducible refine ix_lit _ ?_) | (with_reducible refine ix_add 1 ?_) | (with_reducible refine ix_add 2 ?_) | refine sIx ?_ | refine opt_in rfl ?_ | refine br_f ?_ | refine sNum ?_ | refine num0_out ?_ | refine sDt ?_ | refine sDf ?_ | refine sNt ?_ | refine sNf ?_ | refine sBt ?_ | refine sBf ?_ | refine sOb ?_ | refine sRw ?_); try (conv => whnf)))
  ((try (conv => whnf)); repeat ((first | exact True.intro | refine br_t ?_ | (with_reducible refine ix_nat ?_) | (with_reducible refine ix_lit _ ?_) | (with_reducible refine ix_add 1 ?_) | (with_reducible refine ix_add 2 ?_) | refine sIx ?_ | refine opt_in rfl ?_ | refine br_f ?_ | refine sNum ?_ | refine num0_out ?_ | refine sDt ?_ | refine sDf ?_ | refine sNt ?_ | refine sNf ?_ | refine sBt ?_ | refine sBf ?_ | refine sOb ?_ | refine sRw ?_); try (conv => whnf)))
  refine lift_use [12] 1 0 hfl rfl rfl (by kernel_rfl) ?_ ?_
  · ((try (conv => whnf)); repeat ((first | exact True.intro | refine br_t ?_ | (with_reducible refine ix_nat ?_) | (with_reducible refine ix_lit _ ?_) | (with_reducible refine ix_add 1 ?_) | (with_reducible refine ix_add 2 ?_) | refine sIx ?_ | refine opt_in rfl ?_ | refine br_f ?_ | refine sNum ?_ | refine num0_out ?_ | refine sDt ?_ | refine sDf ?_ | refine sNt ?_ | refine sNf ?_ | refine sBt ?_ | refine sBf ?_ | refine sOb ?_ | refine sRw ?_); try (conv => whnf)))
  ((try (conv => whnf)); repeat ((first | exact True.intro | refine br_t ?_ | (with_reducible refine ix_nat ?_) | (with_reducible refine ix_lit _ ?_) | (with_reducible refine ix_add 1 ?_) | (with_reducible refine ix_add 2 ?_) | refine sIx ?_ | refine opt_in rfl ?_ | refine br_f ?_ | refine sNum ?_ | refine num0_out ?_ | refine sDt ?_ | refine sDf ?_ | refine sNt ?_ | refine sNf ?_ | refine sBt ?_ | refine sBf ?_ | refine sOb ?_ | refine sRw ?_); try (conv => whnf)))
  refine lift_use [1, 2, 3] 3 0 hpo rfl rfl (by kernel_rfl) ?_ ?_
  · ((try (conv => whnf)); repeat ((first | exact True.intro | refine br_t ?_ | (with_reducible refine ix_nat ?_) | (with_reducible refine ix_lit _ ?_) | (with_reducible refine ix_add 1 ?_) | (with_reducible refine ix_add 2 ?_) | refine sIx ?_ | refine opt_in rfl ?_ | refine br_f ?_ | refine sNum ?_ | refine num0_out ?_ | refine sDt ?_ | refine sDf ?_ | refine sNt ?_ | refine sNf ?_ | refine sBt ?_ | refine sBf ?_ | refine sOb ?_ | refine sRw ?_); try (conv => whnf)))
  ((try (conv => whnf)); repeat ((first | exact True.intro | refine br_t ?_ | (with_reducible refine ix_nat ?_) | (with_reducible refine ix_lit _ ?_) | (with_reducible refine ix_add 1 ?_) | (with_reducible refine ix_add 2 ?_) | refine sIx ?_ | refine opt_in rfl ?_ | refine br_f ?_ | refine sNum ?_ | refine num0_out ?_ | refine sDt ?_ | refine sDf ?_ | refine sNt ?_ | refine sNf ?_ | refine sBt ?_ | refine sBf ?_ | refine sOb ?_ | refine sRw ?_); try (conv => whnf)))
  refine pure_use awake_ct ?_
  ((try (conv => whnf)); repeat ((first | exact True.intro | refine br_t ?_ | (with_reducible refine ix_nat ?_) | (with_reducible refine ix_lit _ ?_) | (with_reducible refine ix_add 1 ?_) | (with_reducible refine ix_add 2 ?_) | refine sIx ?_ | refine opt_in rfl ?_ | refine br_f ?_ | refine sNum ?_ | refine num0_out ?_ | refine sDt ?_ | refine sDf ?_ | refine sNt ?_ | refine sNf ?_ | refine sBt ?_ | refine sBf ?_ | refine sOb ?_ | refine sRw ?_); try (conv => whnf)))

theorem PrefixBack_ct (c : Nat → Int) (s l : List Int) : PCallTo Try.prog 3 [huffV c s, islI .i64 l] (.bool true) := by
  by_cases h : s.length ≤ 256
  · by_cases h2 : l.length ≤ 200
    · by_cases hm : mayP c s
      · exact Pb_yes c s l h h2 hm
      · exact Pb_no c s l h h2 hm
    · exact Pb_long2 c s l h (by omega)
  · exact Pb_long1 c s l (by omega)
end Go.Proofs
