/- PfxK: a part of the proof of PrefixBack. Own work. -/
import Derived.Test.YtcimijgokedcgaaPfxT
set_option linter.unusedVariables false
set_option linter.unusedSimpArgs false
set_option linter.unusedSectionVars false
namespace Go.Proofs
open Go Go.Ab
set_option maxRecDepth 100000


theorem takeV_one (l : List Int) (q : Nat) : takeV l q 1 = bitAt l q := by simp [takeV]

theorem sE_key (cs : List (Nat × Nat)) (s : List Int) (v n : Nat) (k : Nat) : natsEq [8, 8, 3, 3] (sE cs s k).sig = true ∧ (intsEq [(v : Int), (n : Int)] (sE cs s k).key = true ↔ cs.getD k (0, 0) = (v, n)) := by
  refine ⟨rfl, ?_⟩
  simp only [sE]
  generalize cs.getD k (0, 0) = a
  obtain ⟨a1, a2⟩ := a
  simp only [intsEq]
  by_cases e1 : v = a1
  · by_cases e2 : n = a2
    · subst e1 e2; simp
    · rw [show ((v : Int) == (a1 : Int)) = true from beq_iff_eq.2 (by omega), show ((n : Int) == (a2 : Int)) = false from beq_eq_false_iff_ne.2 (by omega)]
      simp [Ne.symm e2]
  · rw [show ((v : Int) == (a1 : Int)) = false from beq_eq_false_iff_ne.2 (by omega)]
    simp [Ne.symm e1]

theorem sym_none (cs : List (Nat × Nat)) (s : List Int) (hlen : cs.length = s.length) (v n : Nat) (h : (v, n) ∉ cs) : findME [8, 8, 3, 3] [(v : Int), (n : Int)] (sEs cs s s.length) 0 = some none :=
  findME_none _ _ _ _ fun e he => by
    simp only [sEs, List.mem_map, List.mem_range] at he
    obtain ⟨k, hk, rfl⟩ := he
    obtain ⟨h1, h2⟩ := sE_key cs s v n k
    refine ⟨h1, ?_⟩
    rw [Bool.eq_false_iff]
    intro hb
    refine h ?_
    rw [← h2.1 hb, List.getD_eq_getElem?_getD, List.getElem?_eq_getElem (by omega)]
    simp

theorem sym_some (cs : List (Nat × Nat)) (s : List Int) (hlen : cs.length = s.length) (hcs : cs.Nodup) (v n : Nat) (j : Nat) (hj : j < cs.length) (h : cs.getD j (0, 0) = (v, n)) :
    findME [8, 8, 3, 3] [(v : Int), (n : Int)] (sEs cs s s.length) 0 = some (some (0 + j, sE cs s j)) := by
  obtain ⟨h1, h2⟩ := sE_key cs s v n j
  refine findME_at _ _ _ _ _ _ (by simp [sEs, ← hlen, hj]) h1 (h2.2 h) fun k e' hk he => ?_
  simp only [sEs, List.getElem?_map] at he
  rw [List.getElem?_range (by omega)] at he
  simp only [Option.map_some, Option.some.injEq] at he
  subst he
  obtain ⟨q1, q2⟩ := sE_key cs s v n k
  refine ⟨q1, ?_⟩
  rw [Bool.eq_false_iff]
  intro hb
  have e1 := q2.1 hb
  rw [← h, List.getD_eq_getElem?_getD, List.getD_eq_getElem?_getD, List.getElem?_eq_getElem (by omega), List.getElem?_eq_getElem hj] at e1
  have := (List.getElem_inj hcs).1 e1
  omega

def tkS (cs : List (Nat × Nat)) (s : List Int) (l : List Int) (p i v : Nat) : St :=
  stL [(0, .ptr 0 0), (1, .ptr 3 0), (6, .ptr 4 0), (7, .ptr 5 0)]
    [(0, .cells [.map 1, .map 2]), (1, .map (cEs cs s s.length) s.length), (2, .map (sEs cs s s.length) s.length), (3, .cells [islI .u8 l, .int .i64 p]), (4, .cells [islI .u8 l, .int .i64 ((p + i : Nat) : Int)]), (5, .cells [.int .i64 v, .int .i64 i])] 6
def trO (cs : List (Nat × Nat)) (s : List Int) (l : List Int) (p : Nat) : List Ob := tabO cs s ++ rdO l p

theorem or_bit (v b : Nat) (hb : b < 2) : bitsN .or ((v : Int) * 2 ^ 1).toNat b = ((2 * v + b : Nat) : Int) := by
  have e : ((v : Int) * 2 ^ 1).toNat = 2 * v := by simp; omega
  rw [e]
  simp only [bitsN]
  have := Nat.shiftLeft_add_eq_or_of_lt (i := 1) (b := b) (by omega) v
  rw [Nat.shiftLeft_eq] at this
  rw [show 2 * v = v * 2 ^ 1 by omega, ← this]

theorem tk_next (cs : List (Nat × Nat)) (s : List Int) (hlen : cs.length = s.length) (l : List Int) (hb : isByte l) (hl : l.length ≤ 2 ^ 40) (p i v : Nat) (hi : i < 16) (hp : p + i + 1 ≤ 8 * l.length) (hv : v < 2 ^ i)
    (hno : (2 * v + bitAt l (p + i), i + 1) ∉ cs) :
    CodeTo Try.prog Try.f11.ntmps (loopAt Try.f11 0) (tkS cs s l p i v) .normal (tkS cs s l p (i + 1) (2 * v + bitAt l (p + i))) := by
  have pu := eI_pure .u8
  have p1 := cEs_pure cs s s.length
  have p2 := sEs_pure cs s s.length
  have hv16 : v < 2 ^ 16 := Nat.lt_of_lt_of_le hv (Nat.pow_le_pow_right (by omega) (by omega))
  have hbl := bitAt_lt l (p + i)
  have ht := Take_ct l hb hl (p + i) 1 (by omega) hp
  rw [takeV_one] at ht
  have f1 := sym_none cs s hlen _ _ hno
  have o1 := or_bit v (bitAt l (p + i)) hbl
  have w1 : 0 ≤ (v : Int) * 2 ^ 1 ∧ (v : Int) * 2 ^ 1 ≤ 131072 := by simp; omega
  unfold tkS
  rw [show p + (i + 1) = p + i + 1 by omega]
  generalize bitAt l (p + i) = b at *
  generalize p + i = P at *
  generalize cEs cs s s.length = es at *
  generalize sEs cs s s.length = fs at *
  refine code_step Try.ESOK [] [] ?_
  ((try (conv => whnf)); repeat ((first | exact True.intro | refine br_t ?_ | (with_reducible refine ix_nat ?_) | (with_reducible refine ix_lit _ ?_) | (with_reducible refine ix_add 1 ?_) | (with_reducible refine ix_add 2 ?_) | refine sIx ?_ | refine opt_in rfl ?_ | refine br_f ?_ | refine sNum ?_ | refine num0_out ?_ | refine sDt ?_ | refine sDf ?_ | refine sNt ?_ | refine sNf ?_ | refine sBt ?_ | refine sBf ?_ | refine sOb ?_ | refine sRw ?_); try (conv => whnf)))
  refine lift_use [4] 1 0 ht rfl rfl (by kernel_rfl) ?_ ?_
  · ((try (conv => whnf)); repeat ((first | exact True.intro | refine br_t ?_ | (with_reducible refine ix_nat ?_) | (with_reducible refine ix_lit _ ?_) | (with_reducible refine ix_add 1 ?_) | (with_reducible refine ix_add 2 ?_) | refine sIx ?_ | refine opt_in rfl ?_ | refine br_f ?_ | refine sNum ?_ | refine num0_out ?_ | refine sDt ?_ | refine sDf ?_ | refine sNt ?_ | refine sNf ?_ | refine sBt ?_ | refine sBf ?_ | refine sOb ?_ | refine sRw ?_); try (conv => whnf)))
  ((try (conv => whnf)); repeat ((first | exact True.intro | refine br_t ?_ | (with_reducible refine ix_nat ?_) | (with_reducible refine ix_lit _ ?_) | (with_reducible refine ix_add 1 ?_) | (with_reducible refine ix_add 2 ?_) | refine sIx ?_ | refine opt_in rfl ?_ | refine br_f ?_ | refine sNum ?_ | refine num0_out ?_ | refine sDt ?_ | refine sDf ?_ | refine sNt ?_ | refine sNf ?_ | refine sBt ?_ | refine sBf ?_ | refine sOb ?_ | refine sRw ?_); try (conv => whnf)))
  rw [o1]
  refine opt_in f1 ?_
  ((try (conv => whnf)); repeat ((first | exact True.intro | refine br_t ?_ | (with_reducible refine ix_nat ?_) | (with_reducible refine ix_lit _ ?_) | (with_reducible refine ix_add 1 ?_) | (with_reducible refine ix_add 2 ?_) | refine sIx ?_ | refine opt_in rfl ?_ | refine br_f ?_ | refine sNum ?_ | refine num0_out ?_ | refine sDt ?_ | refine sDf ?_ | refine sNt ?_ | refine sNf ?_ | refine sBt ?_ | refine sBf ?_ | refine sOb ?_ | refine sRw ?_); try (conv => whnf)))

theorem tk_last (cs : List (Nat × Nat)) (s : List Int) (hlen : cs.length = s.length) (hcs : cs.Nodup) (l : List Int) (hb : isByte l) (hl : l.length ≤ 2 ^ 40) (p i v : Nat) (hi : i < 16) (hp : p + i + 1 ≤ 8 * l.length) (hv : v < 2 ^ i)
    (j : Nat) (hj : j < cs.length) (hyes : cs.getD j (0, 0) = (2 * v + bitAt l (p + i), i + 1)) :
    CodeTo Try.prog Try.f11.ntmps (loopAt Try.f11 0) (tkS cs s l p i v) .ret (stL [(4, .int .i64 (s.getD j 0)), (5, .bool true)]
      [(0, .cells [.map 1, .map 2]), (1, .map (cEs cs s s.length) s.length), (2, .map (sEs cs s s.length) s.length), (3, .cells [islI .u8 l, .int .i64 ((p + i + 1 : Nat) : Int)]), (4, .cells [.junk, .junk]), (5, .cells [.junk, .junk])] 6) := by
  have pu := eI_pure .u8
  have p1 := cEs_pure cs s s.length
  have p2 := sEs_pure cs s s.length
  have hv16 : v < 2 ^ 16 := Nat.lt_of_lt_of_le hv (Nat.pow_le_pow_right (by omega) (by omega))
  have hbl := bitAt_lt l (p + i)
  have ht := Take_ct l hb hl (p + i) 1 (by omega) hp
  rw [takeV_one] at ht
  have f1 := sym_some cs s hlen hcs _ _ j hj hyes
  have o1 := or_bit v (bitAt l (p + i)) hbl
  have w1 : 0 ≤ (v : Int) * 2 ^ 1 ∧ (v : Int) * 2 ^ 1 ≤ 131072 := by simp; omega
  unfold sE at f1
  unfold tkS
  generalize bitAt l (p + i) = b at *
  generalize p + i = P at *
  generalize cEs cs s s.length = es at *
  generalize sEs cs s s.length = fs at *
  refine code_step Try.ESOK [] [] ?_
  ((try (conv => whnf)); repeat ((first | exact True.intro | refine br_t ?_ | (with_reducible refine ix_nat ?_) | (with_reducible refine ix_lit _ ?_) | (with_reducible refine ix_add 1 ?_) | (with_reducible refine ix_add 2 ?_) | refine sIx ?_ | refine opt_in rfl ?_ | refine br_f ?_ | refine sNum ?_ | refine num0_out ?_ | refine sDt ?_ | refine sDf ?_ | refine sNt ?_ | refine sNf ?_ | refine sBt ?_ | refine sBf ?_ | refine sOb ?_ | refine sRw ?_); try (conv => whnf)))
  refine lift_use [4] 1 0 ht rfl rfl (by kernel_rfl) ?_ ?_
  · ((try (conv => whnf)); repeat ((first | exact True.intro | refine br_t ?_ | (with_reducible refine ix_nat ?_) | (with_reducible refine ix_lit _ ?_) | (with_reducible refine ix_add 1 ?_) | (with_reducible refine ix_add 2 ?_) | refine sIx ?_ | refine opt_in rfl ?_ | refine br_f ?_ | refine sNum ?_ | refine num0_out ?_ | refine sDt ?_ | refine sDf ?_ | refine sNt ?_ | refine sNf ?_ | refine sBt ?_ | refine sBf ?_ | refine sOb ?_ | refine sRw ?_); try (conv => whnf)))
  ((try (conv => whnf)); repeat ((first | exact True.intro | refine br_t ?_ | (with_reducible refine ix_nat ?_) | (with_reducible refine ix_lit _ ?_) | (with_reducible refine ix_add 1 ?_) | (with_reducible refine ix_add 2 ?_) | refine sIx ?_ | refine opt_in rfl ?_ | refine br_f ?_ | refine sNum ?_ | refine num0_out ?_ | refine sDt ?_ | refine sDf ?_ | refine sNt ?_ | refine sNf ?_ | refine sBt ?_ | refine sBf ?_ | refine sOb ?_ | refine sRw ?_); try (conv => whnf)))
  rw [o1]
  refine opt_in f1 ?_
  ((try (conv => whnf)); repeat ((first | exact True.intro | refine br_t ?_ | (with_reducible refine ix_nat ?_) | (with_reducible refine ix_lit _ ?_) | (with_reducible refine ix_add 1 ?_) | (with_reducible refine ix_add 2 ?_) | refine sIx ?_ | refine opt_in rfl ?_ | refine br_f ?_ | refine sNum ?_ | refine num0_out ?_ | refine sDt ?_ | refine sDf ?_ | refine sNt ?_ | refine sNf ?_ | refine sBt ?_ | refine sBf ?_ | refine sOb ?_ | refine sRw ?_); try (conv => whnf)))

/-- The first k bits are a code, and no fewer ones are. -/
theorem TTake_ct (cs : List (Nat × Nat)) (s : List Int) (hlen : cs.length = s.length) (hcs : cs.Nodup) (l : List Int) (hb : isByte l) (hl : l.length ≤ 2 ^ 40) (p k : Nat) (hk0 : 0 < k) (hk : k ≤ 16) (hp : p + k ≤ 8 * l.length)
    (j : Nat) (hj : j < cs.length) (hyes : cs.getD j (0, 0) = (takeV l p k, k)) (hno : ∀ i, 0 < i → i < k → (takeV l p i, i) ∉ cs) :
    CallTo Try.prog 11 [.ptr 0 0, .ptr 3 0] (hpN 4 (trO cs s l p)) (.tup [.int .i64 (s.getD j 0), .bool true]) (hpN 4 (trO cs s l (p + k))) := by
  obtain ⟨k, rfl⟩ : ∃ m, k = m + 1 := ⟨k - 1, by omega⟩
  have l0 := loop_of (P := Try.prog) (fs := Try.f11.ntmps) (cd := loopAt Try.f11 0) (S := fun i => tkS cs s l p i (takeV l p i)) (n := k) (e := .ret) (by simp)
    (fun i hi => tk_next cs s hlen l hb hl p i (takeV l p i) (by omega) (by omega) (takeV_lt l p i) (by have := hno (i + 1) (by omega) (by omega); rwa [takeV] at this))
    (tk_last cs s hlen hcs l hb hl p k (takeV l p k) (by omega) (by omega) (takeV_lt l p k) j hj (by rw [hyes, takeV])) 0 (Nat.zero_le _)
  have pu := eI_pure .u8
  have p1 := cEs_pure cs s s.length
  have p2 := sEs_pure cs s s.length
  unfold tkS at l0
  unfold trO tabO
  rw [show p + (k + 1) = p + k + 1 by omega]
  generalize s.getD j 0 = y at *
  generalize cEs cs s s.length = es at *
  generalize sEs cs s s.length = fs at *
  refine call_step Try.ESOK Try.func11 [] [] ?_
  ((try (conv => whnf)); repeat ((first | exact True.intro | refine br_t ?_ | (with_reducible refine ix_nat ?_) | (with_reducible refine ix_lit _ ?_) | (with_reducible refine ix_add 1 ?_) | (with_reducible refine ix_add 2 ?_) | refine sIx ?_ | refine opt_in rfl ?_ | refine br_f ?_ | refine sNum ?_ | refine num0_out ?_ | refine sDt ?_ | refine sDf ?_ | refine sNt ?_ | refine sNf ?_ | refine sBt ?_ | refine sBf ?_ | refine sOb ?_ | refine sRw ?_); try (conv => whnf)))
  refine loop_use [] [] l0 ?_ ?_
  · ((try (conv => whnf)); repeat ((first | exact True.intro | refine br_t ?_ | (with_reducible refine ix_nat ?_) | (with_reducible refine ix_lit _ ?_) | (with_reducible refine ix_add 1 ?_) | (with_reducible refine ix_add 2 ?_) | refine sIx ?_ | refine opt_in rfl ?_ | refine br_f ?_ | refine sNum ?_ | refine num0_out ?_ | refine sDt ?_ | refine sDf ?_ | refine sNt ?_ | refine sNf ?_ | refine sBt ?_ | refine sBf ?_ | refine sOb ?_ | refine sRw ?_); try (conv => whnf)))
  ((try (conv => whnf)); repeat ((first | exact True.intro | refine br_t ?_ | (with_reducible refine ix_nat ?_) | (with_reducible refine ix_lit _ ?_) | (with_reducible refine ix_add 1 ?_) | (with_reducible refine ix_add 2 ?_) | refine sIx ?_ | refine opt_in rfl ?_ | refine br_f ?_ | refine sNum ?_ | refine num0_out ?_ | refine sDt ?_ | refine sDf ?_ | refine sNt ?_ | refine sNf ?_ | refine sBt ?_ | refine sBf ?_ | refine sOb ?_ | refine sRw ?_); try (conv => whnf)))
end Go.Proofs
