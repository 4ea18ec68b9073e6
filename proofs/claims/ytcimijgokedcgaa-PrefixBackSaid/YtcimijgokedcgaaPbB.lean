/- PbB: a part of the proof of PrefixBack. Own work. -/
import Derived.Test.YtcimijgokedcgaaPbA
set_option linter.unusedVariables false
set_option linter.unusedSimpArgs false
set_option linter.unusedSectionVars false
namespace Go.Proofs
open Go Go.Ab
set_option maxRecDepth 100000


/-- what lies in memory behind the first loop; P: where the reader stands -/
def pbO (c : Nat → Int) (s : List Int) (cs : List (Nat × Nat)) (lb : List Int) (rest many : Nat) (u bytes : List Int) (P : Nat) : List (Nat × Ob) :=
  [(0, .cells (huffL c s)), (1, .cells [.map 2, .map 3]), (2, .map (cEs cs s s.length) s.length), (3, .map (sEs cs s s.length) s.length),
     (4, .cells [.bv 5 lb.length 1 0 lb.length none, .int .u32 rest, .int .i64 many]), (5, bufI .u8 lb), (6, bufI .i64 u), (12, .cells [islI .u8 bytes, .int .i64 P])]

def tkL (c : Nat → Int) (s : List Int) (cs : List (Nat × Nat)) (lb : List Int) (rest many : Nat) (u bytes : List Int) (i P : Nat) : St :=
  stL [(2, .ptr 0 0), (5, .ptr 1 0), (8, .bv 6 u.length 1 0 u.length none), (13, .ptr 12 0), (14, .int .i64 i)] (pbO c s cs lb rest many u bytes P) 13

theorem tk_round (c : Nat → Int) (s : List Int) (cs : List (Nat × Nat)) (lb : List Int) (rest many : Nat) (u bytes : List Int) (i P P' j : Nat) (hu : u.length ≤ 200) (hi : i < u.length) (hij : u.getD i 0 = s.getD j 0)
    (ht : CallTo Try.prog 11 [.ptr 0 0, .ptr 3 0] (hpN 4 (trO cs s bytes P)) (.tup [.int .i64 (s.getD j 0), .bool true]) (hpN 4 (trO cs s bytes P'))) :
    CodeTo Try.prog Try.f3.ntmps (loopAt Try.f3 1) (tkL c s cs lb rest many u bytes i P) .normal (tkL c s cs lb rest many u bytes (i + 1) P') := by
  have pu := eI_pure .u8
  have pi := eI_pure .i64
  have p1 := cEs_pure cs s s.length
  have p2 := sEs_pure cs s s.length
  rw [← hij] at ht
  unfold trO tabO at ht
  unfold tkL pbO
  generalize cEs cs s s.length = es at *
  generalize sEs cs s s.length = fs at *
  refine code_step Try.ESOK [] [] ?_
  ((try (conv => whnf)); repeat ((first | exact True.intro | refine br_t ?_ | (with_reducible refine ix_nat ?_) | (with_reducible refine ix_lit _ ?_) | (with_reducible refine ix_add 1 ?_) | (with_reducible refine ix_add 2 ?_) | refine sIx ?_ | refine opt_in rfl ?_ | refine br_f ?_ | refine sNum ?_ | refine num0_out ?_ | refine sDt ?_ | refine sDf ?_ | refine sNt ?_ | refine sNf ?_ | refine sBt ?_ | refine sBf ?_ | refine sOb ?_ | refine sRw ?_); try (conv => whnf)))
  refine lift_use [1, 2, 3, 12] 4 0 ht rfl rfl (by kernel_rfl) ?_ ?_
  · ((try (conv => whnf)); repeat ((first | exact True.intro | refine br_t ?_ | (with_reducible refine ix_nat ?_) | (with_reducible refine ix_lit _ ?_) | (with_reducible refine ix_add 1 ?_) | (with_reducible refine ix_add 2 ?_) | refine sIx ?_ | refine opt_in rfl ?_ | refine br_f ?_ | refine sNum ?_ | refine num0_out ?_ | refine sDt ?_ | refine sDf ?_ | refine sNt ?_ | refine sNf ?_ | refine sBt ?_ | refine sBf ?_ | refine sOb ?_ | refine sRw ?_); try (conv => whnf)))
  ((try (conv => whnf)); repeat ((first | exact True.intro | refine br_t ?_ | (with_reducible refine ix_nat ?_) | (with_reducible refine ix_lit _ ?_) | (with_reducible refine ix_add 1 ?_) | (with_reducible refine ix_add 2 ?_) | refine sIx ?_ | refine opt_in rfl ?_ | refine br_f ?_ | refine sNum ?_ | refine num0_out ?_ | refine sDt ?_ | refine sDf ?_ | refine sNt ?_ | refine sNf ?_ | refine sBt ?_ | refine sBf ?_ | refine sOb ?_ | refine sRw ?_); try (conv => whnf)))

def allS (c : Nat → Int) (s : List Int) (cs : List (Nat × Nat)) (lb : List Int) (rest many : Nat) (u bytes : List Int) (P i : Nat) : St :=
  stL [(2, .ptr 0 0), (5, .ptr 1 0), (13, .ptr 12 0), (17, islR eBits (0, 0) 2 cs), (18, .int .i64 i)] (pbO c s cs lb rest many u bytes P) 13
def inS (c : Nat → Int) (s : List Int) (cs : List (Nat × Nat)) (lb : List Int) (rest many : Nat) (u bytes : List Int) (P i v n k : Nat) : St :=
  stL [(2, .ptr 0 0), (5, .ptr 1 0), (13, .ptr 12 0), (17, islR eBits (0, 0) 2 cs), (18, .int .i64 i), (19, .ptr 13 0), (20, .int .i64 k)] (pbO c s cs lb rest many u bytes P ++ [(13, .cells [.int .i64 v, .int .i64 n])]) 14

theorem in_round (c : Nat → Int) (s : List Int) (cs : List (Nat × Nat)) (lb : List Int) (rest many : Nat) (u bytes : List Int) (P i v n k v' n' : Nat) (hk : k < cs.length) (hlen : cs.length ≤ 2 ^ 20) (hv : cs.getD k (0, 0) = (v', n')) (hn : n ≤ n') (hn' : n' ≤ 16) (hne : v' / 2 ^ (n' - n) ≠ v) :
    CodeTo Try.prog Try.f3.ntmps (loopAt Try.f3 3) (inS c s cs lb rest many u bytes P i v n k) .normal (inS c s cs lb rest many u bytes P i v n (k + 1)) := by
  have pu := eI_pure .u8
  have pi := eI_pure .i64
  have pb := eBits_pure
  have p1 := cEs_pure cs s s.length
  have p2 := sEs_pure cs s s.length
  have e1 : (cs.getD k (0, 0)).1 = v' := by rw [hv]
  have e2 : (cs.getD k (0, 0)).2 = n' := by rw [hv]
  have e3 : (((n' : Int) - (n : Int))).toNat = n' - n := by omega
  have hne2 : ((v' : Int)) / 2 ^ ((n' : Int) - (n : Int)).toNat ≠ (v : Int) := by
    rw [e3]; intro e; apply hne
    have : ((v' / 2 ^ (n' - n) : Nat) : Int) = (v : Int) := by rw [← e]; simp
    exact Int.ofNat.inj this
  rw [← e1, ← e2] at hne2
  rw [← e2] at hn hn'
  unfold inS pbO
  generalize cEs cs s s.length = es at *
  generalize sEs cs s s.length = fs at *
  refine code_step Try.ESOK [] [] ?_
  ((try (conv => whnf)); repeat ((first | exact True.intro | refine br_t ?_ | (with_reducible refine ix_nat ?_) | (with_reducible refine ix_lit _ ?_) | (with_reducible refine ix_add 1 ?_) | (with_reducible refine ix_add 2 ?_) | refine sIx ?_ | refine opt_in rfl ?_ | refine br_f ?_ | refine sNum ?_ | refine num0_out ?_ | refine sDt ?_ | refine sDf ?_ | refine sNt ?_ | refine sNf ?_ | refine sBt ?_ | refine sBf ?_ | refine sOb ?_ | refine sRw ?_); try (conv => whnf)))

theorem in_loop (c : Nat → Int) (s : List Int) (cs : List (Nat × Nat)) (lb : List Int) (rest many : Nat) (u bytes : List Int) (P i v n : Nat) (hi : i < cs.length) (hok : CodesOK cs) (hlen : cs.length ≤ 2 ^ 20) (hv : cs.getD i (0, 0) = (v, n)) :
    LoopTo Try.prog Try.f3.ntmps (loopAt Try.f3 3) (inS c s cs lb rest many u bytes P i v n (i + 1)) (.exit 6) (inS c s cs lb rest many u bytes P i v n cs.length) := by
  have key := loop_of (P := Try.prog) (fs := Try.f3.ntmps) (cd := loopAt Try.f3 3) (S := fun t => inS c s cs lb rest many u bytes P i v n (i + 1 + t)) (n := cs.length - (i + 1)) (e := .exit 6)
    (s' := inS c s cs lb rest many u bytes P i v n cs.length) (by simp)
    (fun t ht => by
      have hk : i + 1 + t < cs.length := by omega
      have ha := hok.get (show i < i + 1 + t by omega) hk
      obtain ⟨o1, o2, o3⟩ := hok.one _ (getD_mem (d := (0, 0)) hk)
      generalize hq : cs.getD (i + 1 + t) (0, 0) = q at *
      obtain ⟨v', n'⟩ := q
      have hne := ha.ne o2
      rw [hv] at ha hne
      exact in_round c s cs lb rest many u bytes P i v n (i + 1 + t) v' n' hk hlen hq ha.1 o2 hne)
    (by
      have pu := eI_pure .u8
      have pi := eI_pure .i64
      have pb := eBits_pure
      have p1 := cEs_pure cs s s.length
      have p2 := sEs_pure cs s s.length
      rw [show i + 1 + (cs.length - (i + 1)) = cs.length by omega]
      unfold inS pbO
      generalize cEs cs s s.length = es at *
      generalize sEs cs s s.length = fs at *
      refine code_step Try.ESOK [] [] ?_
      ((try (conv => whnf)); repeat ((first | exact True.intro | refine br_t ?_ | (with_reducible refine ix_nat ?_) | (with_reducible refine ix_lit _ ?_) | (with_reducible refine ix_add 1 ?_) | (with_reducible refine ix_add 2 ?_) | refine sIx ?_ | refine opt_in rfl ?_ | refine br_f ?_ | refine sNum ?_ | refine num0_out ?_ | refine sDt ?_ | refine sDf ?_ | refine sNt ?_ | refine sNf ?_ | refine sBt ?_ | refine sBf ?_ | refine sOb ?_ | refine sRw ?_); try (conv => whnf)))) 0 (Nat.zero_le _)
  exact key

theorem all_round (c : Nat → Int) (s : List Int) (cs : List (Nat × Nat)) (lb : List Int) (rest many : Nat) (u bytes : List Int) (P i : Nat) (hi : i < cs.length) (hok : CodesOK cs) (hlen : cs.length ≤ 2 ^ 20) :
    CodeTo Try.prog Try.f3.ntmps (loopAt Try.f3 2) (allS c s cs lb rest many u bytes P i) .normal (allS c s cs lb rest many u bytes P (i + 1)) := by
  have pu := eI_pure .u8
  have pi := eI_pure .i64
  have pb := eBits_pure
  have p1 := cEs_pure cs s s.length
  have p2 := sEs_pure cs s s.length
  obtain ⟨o1, o2, o3⟩ := hok.one _ (getD_mem (d := (0, 0)) hi)
  have hin := in_loop c s cs lb rest many u bytes P i (cs.getD i (0, 0)).1 (cs.getD i (0, 0)).2 hi hok hlen rfl
  have c2 : (1 : Int) * 2 ^ (cs.getD i (0, 0)).2 = ((2 ^ (cs.getD i (0, 0)).2 : Nat) : Int) := by simp
  have p16 := Nat.pow_le_pow_right (n := 2) (by omega) o2
  have a2 : -9223372036854775808 ≤ (1 : Int) * 2 ^ (cs.getD i (0, 0)).2 ∧ (1 : Int) * 2 ^ (cs.getD i (0, 0)).2 ≤ 9223372036854775807 := by rw [c2]; omega
  have a3 : ¬ ((cs.getD i (0, 0)).1 : Int) ≥ (1 : Int) * 2 ^ (cs.getD i (0, 0)).2 - 1 := by rw [c2]; omega
  have a4 : -9223372036854775808 ≤ (1 : Int) * 2 ^ (cs.getD i (0, 0)).2 - 1 ∧ (1 : Int) * 2 ^ (cs.getD i (0, 0)).2 - 1 ≤ 9223372036854775807 := by rw [c2]; omega
  unfold inS pbO at hin
  unfold allS pbO
  generalize cEs cs s s.length = es at *
  generalize sEs cs s s.length = fs at *
  refine code_step Try.ESOK [] [] ?_
  ((try (conv => whnf)); repeat ((first | exact True.intro | refine br_t ?_ | (with_reducible refine ix_nat ?_) | (with_reducible refine ix_lit _ ?_) | (with_reducible refine ix_add 1 ?_) | (with_reducible refine ix_add 2 ?_) | refine sIx ?_ | refine opt_in rfl ?_ | refine br_f ?_ | refine sNum ?_ | refine num0_out ?_ | refine sDt ?_ | refine sDf ?_ | refine sNt ?_ | refine sNf ?_ | refine sBt ?_ | refine sBf ?_ | refine sOb ?_ | refine sRw ?_); try (conv => whnf)))
  refine loop_use [] [] hin ?_ ?_
  · ((try (conv => whnf)); repeat ((first | exact True.intro | refine br_t ?_ | (with_reducible refine ix_nat ?_) | (with_reducible refine ix_lit _ ?_) | (with_reducible refine ix_add 1 ?_) | (with_reducible refine ix_add 2 ?_) | refine sIx ?_ | refine opt_in rfl ?_ | refine br_f ?_ | refine sNum ?_ | refine num0_out ?_ | refine sDt ?_ | refine sDf ?_ | refine sNt ?_ | refine sNf ?_ | refine sBt ?_ | refine sBf ?_ | refine sOb ?_ | refine sRw ?_); try (conv => whnf)))
  ((try (conv => whnf)); repeat ((first | exact True.intro | refine br_t ?_ | (with_reducible refine ix_nat ?_) | (with_reducible refine ix_lit _ ?_) | (with_reducible refine ix_add 1 ?_) | (with_reducible refine ix_add 2 ?_) | refine sIx ?_ | refine opt_in rfl ?_ | refine br_f ?_ | refine sNum ?_ | refine num0_out ?_ | refine sDt ?_ | refine sDf ?_ | refine sNt ?_ | refine sNf ?_ | refine sBt ?_ | refine sBf ?_ | refine sOb ?_ | refine sRw ?_); try (conv => whnf)))
end Go.Proofs
