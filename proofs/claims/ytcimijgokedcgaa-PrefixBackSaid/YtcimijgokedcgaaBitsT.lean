/- BitsT: a part of the proof of PrefixBack. Own work. -/
import Derived.Test.YtcimijgokedcgaaBitsP
set_option linter.unusedVariables false
set_option linter.unusedSimpArgs false
set_option linter.unusedSectionVars false
namespace Go.Proofs
open Go Go.Ab
set_option maxRecDepth 100000


/-- one bit of some bytes -/
def bitAt (l : List Int) (p : Nat) : Nat := (l.getD (p / 8) 0).toNat / 2 ^ (7 - p % 8) % 2
def takeV (l : List Int) (p : Nat) : Nat → Nat
  | 0 => 0
  | i + 1 => 2 * takeV l p i + bitAt l (p + i)
theorem bitAt_lt (l : List Int) (p : Nat) : bitAt l p < 2 := Nat.mod_lt _ (by omega)
theorem takeV_lt (l : List Int) (p i : Nat) : takeV l p i < 2 ^ i := by
  induction i with
  | zero => simp [takeV]
  | succ i ih => have := bitAt_lt l (p + i); rw [takeV, Nat.pow_succ]; omega

def isByte (l : List Int) : Prop := ∀ i, 0 ≤ l.getD i 0 ∧ l.getD i 0 ≤ 255

def takeS (l : List Int) (p n i v : Nat) : St := stL [(0, .ptr 0 0), (23, .int .i64 n), (24, .int .i64 i), (6, .int .i64 v)] (enumO 0 (rdO l (p + i))) 1

theorem bit_facts (l : List Int) (hb : isByte l) (p : Nat) :
    (0 ≤ (7 : Int) - bitsN .and p 7 ∧ (7 : Int) - bitsN .and p 7 ≤ 7) ∧ bitsN .and (l.getD (p / 8) 0 / 2 ^ ((7 : Int) - bitsN .and p 7).toNat).toNat 1 = ((bitAt l p : Nat) : Int) ∧
    0 ≤ l.getD (p / 8) 0 / 2 ^ ((7 : Int) - bitsN .and p 7).toNat ∧ l.getD (p / 8) 0 / 2 ^ ((7 : Int) - bitsN .and p 7).toNat ≤ 255 := by
  obtain ⟨h1, h2⟩ := hb (p / 8)
  have e1 : bitsN .and p 7 = ((p % 8 : Nat) : Int) := by
    simp only [bitsN]; rw [show (7 : Nat) = 2 ^ 3 - 1 from rfl, Nat.and_two_pow_sub_one_eq_mod]
  have e2 : ((7 : Int) - ((p % 8 : Nat) : Int)).toNat = 7 - p % 8 := by omega
  rw [e1, e2]
  obtain ⟨c, hc⟩ := Int.eq_ofNat_of_zero_le h1
  have e3 : l.getD (p / 8) 0 / 2 ^ (7 - p % 8) = ((c / 2 ^ (7 - p % 8) : Nat) : Int) := by rw [hc]; simp
  have e4 : c / 2 ^ (7 - p % 8) ≤ c := Nat.div_le_self _ _
  rw [e3]
  generalize hq : c / 2 ^ (7 - p % 8) = q at *
  refine ⟨by omega, ?_, by omega, by omega⟩
  subst hq
  simp only [bitsN, Int.toNat_natCast, bitAt]
  rw [show (1 : Nat) = 2 ^ 1 - 1 from rfl, Nat.and_two_pow_sub_one_eq_mod, hc]
  simp

theorem take_round (l : List Int) (hb : isByte l) (hl : l.length ≤ 2 ^ 40) (p n i v : Nat) (hn : n ≤ 16) (hi : i < n) (hp : p + n ≤ 8 * l.length) (hv : v < 2 ^ i) :
    CodeTo Try.prog Try.f25.ntmps (loopAt Try.f25 0) (takeS l p n i v) .normal (takeS l p n (i + 1) (2 * v + bitAt l (p + i))) := by
  have hv16 : v < 2 ^ 16 := Nat.lt_of_lt_of_le hv (Nat.pow_le_pow_right (by omega) (by omega))
  obtain ⟨f1, f2, f3⟩ := bit_facts l hb (p + i)
  have hbl := bitAt_lt l (p + i)
  unfold takeS
  rw [show p + (i + 1) = p + i + 1 by omega]
  have hpi : p + i < 8 * l.length := by omega
  generalize p + i = P at *
  refine code_step Try.ESOK [] [] ?_
  have w1 : 0 ≤ (v : Int) * 2 ^ 1 ∧ (v : Int) * 2 ^ 1 ≤ 131072 := by simp; omega
  have o1 : bitsN .or ((v : Int) * 2 ^ 1).toNat (bitAt l P) = ((2 * v + bitAt l P : Nat) : Int) := by
    have e : ((v : Int) * 2 ^ 1).toNat = 2 * v := by simp; omega
    rw [e]
    simp only [bitsN]
    have := Nat.shiftLeft_add_eq_or_of_lt (i := 1) (b := bitAt l P) (by omega) v
    rw [Nat.shiftLeft_eq] at this
    rw [show 2 * v = v * 2 ^ 1 by omega, ← this]
  have e8 : ((P : Int) / 2 ^ 3).toNat = P / 8 := by omega
  rw [← e8] at f2 f3
  have o2 : bitsN .or ((v : Int) * 2 ^ 1).toNat (bitsN .and (l.getD ((P : Int) / 2 ^ 3).toNat 0 / 2 ^ ((7 : Int) - bitsN .and P 7).toNat).toNat 1).toNat = ((2 * v + bitAt l P : Nat) : Int) := by
    rw [f2]; exact o1
  have pu := eI_pure .u8
  ((try (conv => whnf)); repeat ((first | exact True.intro | refine br_t ?_ | (with_reducible refine ix_nat ?_) | (with_reducible refine ix_lit _ ?_) | (with_reducible refine ix_add 1 ?_) | (with_reducible refine ix_add 2 ?_) | refine sIx ?_ | refine opt_in rfl ?_ | refine br_f ?_ | refine sNum ?_ | refine num0_out ?_ | refine sDt ?_ | refine sDf ?_ | refine sNt ?_ | refine sNf ?_ | refine sBt ?_ | refine sBf ?_ | refine sOb ?_ | refine sRw ?_); try (conv => whnf)))

theorem Take_ct (l : List Int) (hb : isByte l) (hl : l.length ≤ 2 ^ 40) (p n : Nat) (hn : n ≤ 16) (hp : p + n ≤ 8 * l.length) :
    CallTo Try.prog 25 [.ptr 0 0, .int .i64 n] (hpN 1 (rdO l p)) (.tup [.int .i64 (takeV l p n), .bool true]) (hpN 1 (rdO l (p + n))) := by
  have hl2 : LoopTo Try.prog Try.f25.ntmps (loopAt Try.f25 0) (takeS l p n 0 0) (.exit 0) (takeS l p n n (takeV l p n)) := by
    have key := loop_of (P := Try.prog) (fs := Try.f25.ntmps) (cd := loopAt Try.f25 0) (S := fun i => takeS l p n i (takeV l p i)) (n := n) (e := .exit 0)
      (s' := takeS l p n n (takeV l p n)) (by simp)
      (fun i hi => take_round l hb hl p n i (takeV l p i) hn hi hp (takeV_lt l p i))
      (by
        have pu := eI_pure .u8
        unfold takeS
        generalize p + n = P at *
        refine code_step Try.ESOK [] [] ?_
        ((try (conv => whnf)); repeat ((first | exact True.intro | refine br_t ?_ | (with_reducible refine ix_nat ?_) | (with_reducible refine ix_lit _ ?_) | (with_reducible refine ix_add 1 ?_) | (with_reducible refine ix_add 2 ?_) | refine sIx ?_ | refine opt_in rfl ?_ | refine br_f ?_ | refine sNum ?_ | refine num0_out ?_ | refine sDt ?_ | refine sDf ?_ | refine sNt ?_ | refine sNf ?_ | refine sBt ?_ | refine sBf ?_ | refine sOb ?_ | refine sRw ?_); try (conv => whnf)))) 0 (Nat.zero_le _)
    exact key
  have pu := eI_pure .u8
  have hv := takeV_lt l p n
  unfold takeS at hl2
  generalize takeV l p n = v at *
  refine call_step Try.ESOK Try.func25 [] [] ?_
  ((try (conv => whnf)); repeat ((first | exact True.intro | refine br_t ?_ | (with_reducible refine ix_nat ?_) | (with_reducible refine ix_lit _ ?_) | (with_reducible refine ix_add 1 ?_) | (with_reducible refine ix_add 2 ?_) | refine sIx ?_ | refine opt_in rfl ?_ | refine br_f ?_ | refine sNum ?_ | refine num0_out ?_ | refine sDt ?_ | refine sDf ?_ | refine sNt ?_ | refine sNf ?_ | refine sBt ?_ | refine sBf ?_ | refine sOb ?_ | refine sRw ?_); try (conv => whnf)))
  refine deep_use [0] 1 (Left_ct l p hl (by omega)) rfl (by kernel_rfl) ?_ ?_
  · ((try (conv => whnf)); repeat ((first | exact True.intro | refine br_t ?_ | (with_reducible refine ix_nat ?_) | (with_reducible refine ix_lit _ ?_) | (with_reducible refine ix_add 1 ?_) | (with_reducible refine ix_add 2 ?_) | refine sIx ?_ | refine opt_in rfl ?_ | refine br_f ?_ | refine sNum ?_ | refine num0_out ?_ | refine sDt ?_ | refine sDf ?_ | refine sNt ?_ | refine sNf ?_ | refine sBt ?_ | refine sBf ?_ | refine sOb ?_ | refine sRw ?_); try (conv => whnf)))
  ((try (conv => whnf)); repeat ((first | exact True.intro | refine br_t ?_ | (with_reducible refine ix_nat ?_) | (with_reducible refine ix_lit _ ?_) | (with_reducible refine ix_add 1 ?_) | (with_reducible refine ix_add 2 ?_) | refine sIx ?_ | refine opt_in rfl ?_ | refine br_f ?_ | refine sNum ?_ | refine num0_out ?_ | refine sDt ?_ | refine sDf ?_ | refine sNt ?_ | refine sNf ?_ | refine sBt ?_ | refine sBf ?_ | refine sOb ?_ | refine sRw ?_); try (conv => whnf)))
  refine loop_use [] [] hl2 ?_ ?_
  · ((try (conv => whnf)); repeat ((first | exact True.intro | refine br_t ?_ | (with_reducible refine ix_nat ?_) | (with_reducible refine ix_lit _ ?_) | (with_reducible refine ix_add 1 ?_) | (with_reducible refine ix_add 2 ?_) | refine sIx ?_ | refine opt_in rfl ?_ | refine br_f ?_ | refine sNum ?_ | refine num0_out ?_ | refine sDt ?_ | refine sDf ?_ | refine sNt ?_ | refine sNf ?_ | refine sBt ?_ | refine sBf ?_ | refine sOb ?_ | refine sRw ?_); try (conv => whnf)))
  ((try (conv => whnf)); repeat ((first | exact True.intro | refine br_t ?_ | (with_reducible refine ix_nat ?_) | (with_reducible refine ix_lit _ ?_) | (with_reducible refine ix_add 1 ?_) | (with_reducible refine ix_add 2 ?_) | refine sIx ?_ | refine opt_in rfl ?_ | refine br_f ?_ | refine sNum ?_ | refine num0_out ?_ | refine sDt ?_ | refine sDf ?_ | refine sNt ?_ | refine sNf ?_ | refine sBt ?_ | refine sBf ?_ | refine sOb ?_ | refine sRw ?_); try (conv => whnf)))

/-- there are not so many bits -/
theorem Take_no (l : List Int) (hl : l.length ≤ 2 ^ 40) (p n : Nat) (hn : n ≤ 16) (hp2 : p ≤ 2 ^ 50) (hp : 8 * l.length < p + n) :
    CallTo Try.prog 25 [.ptr 0 0, .int .i64 n] (hpN 1 (rdO l p)) (.tup [.int .i64 0, .bool false]) (hpN 1 (rdO l p)) := by
  have pu := eI_pure .u8
  refine call_step Try.ESOK Try.func25 [] [] ?_
  ((try (conv => whnf)); repeat ((first | exact True.intro | refine br_t ?_ | (with_reducible refine ix_nat ?_) | (with_reducible refine ix_lit _ ?_) | (with_reducible refine ix_add 1 ?_) | (with_reducible refine ix_add 2 ?_) | refine sIx ?_ | refine opt_in rfl ?_ | refine br_f ?_ | refine sNum ?_ | refine num0_out ?_ | refine sDt ?_ | refine sDf ?_ | refine sNt ?_ | refine sNf ?_ | refine sBt ?_ | refine sBf ?_ | refine sOb ?_ | refine sRw ?_); try (conv => whnf)))
  refine deep_use [0] 1 (Left_ct l p hl hp2) rfl (by kernel_rfl) ?_ ?_
  · ((try (conv => whnf)); repeat ((first | exact True.intro | refine br_t ?_ | (with_reducible refine ix_nat ?_) | (with_reducible refine ix_lit _ ?_) | (with_reducible refine ix_add 1 ?_) | (with_reducible refine ix_add 2 ?_) | refine sIx ?_ | refine opt_in rfl ?_ | refine br_f ?_ | refine sNum ?_ | refine num0_out ?_ | refine sDt ?_ | refine sDf ?_ | refine sNt ?_ | refine sNf ?_ | refine sBt ?_ | refine sBf ?_ | refine sOb ?_ | refine sRw ?_); try (conv => whnf)))
  ((try (conv => whnf)); repeat ((first | exact True.intro | refine br_t ?_ | (with_reducible refine ix_nat ?_) | (with_reducible refine ix_lit _ ?_) | (with_reducible refine ix_add 1 ?_) | (with_reducible refine ix_add 2 ?_) | refine sIx ?_ | refine opt_in rfl ?_ | refine br_f ?_ | refine sNum ?_ | refine num0_out ?_ | refine sDt ?_ | refine sDf ?_ | refine sNt ?_ | refine sNf ?_ | refine sBt ?_ | refine sBf ?_ | refine sOb ?_ | refine sRw ?_); try (conv => whnf)))

theorem fill_round (l : List Int) (hb : isByte l) (hl : l.length ≤ 2 ^ 40) (p k : Nat) (hk : k < 8 * l.length) (h1 : bitAt l k = 1) :
    CodeTo Try.prog Try.f13.ntmps (loopAt Try.f13 0) (stL [(0, .ptr 0 0), (3, .int .i64 k)] (enumO 0 (rdO l p)) 1) .normal (stL [(0, .ptr 0 0), (3, .int .i64 ((k + 1 : Nat) : Int))] (enumO 0 (rdO l p)) 1) := by
  have pu := eI_pure .u8
  obtain ⟨f1, f2, f3⟩ := bit_facts l hb k
  have e8 : ((k : Int) / 2 ^ 3).toNat = k / 8 := by omega
  rw [← e8] at f2 f3
  rw [h1] at f2
  refine code_step Try.ESOK [] [] ?_
  ((try (conv => whnf)); repeat ((first | exact True.intro | refine br_t ?_ | (with_reducible refine ix_nat ?_) | (with_reducible refine ix_lit _ ?_) | (with_reducible refine ix_add 1 ?_) | (with_reducible refine ix_add 2 ?_) | refine sIx ?_ | refine opt_in rfl ?_ | refine br_f ?_ | refine sNum ?_ | refine num0_out ?_ | refine sDt ?_ | refine sDf ?_ | refine sNt ?_ | refine sNf ?_ | refine sBt ?_ | refine sBf ?_ | refine sOb ?_ | refine sRw ?_); try (conv => whnf)))

theorem Filled_ct (l : List Int) (hb : isByte l) (hl : l.length ≤ 2 ^ 40) (p : Nat) (hp : p ≤ 8 * l.length) (hp8 : 8 * l.length < p + 8) (h1 : ∀ k, p ≤ k → k < 8 * l.length → bitAt l k = 1) :
    CallTo Try.prog 13 [.ptr 0 0] (hpN 1 (rdO l p)) (.bool true) (hpN 1 (rdO l p)) := by
  have pu := eI_pure .u8
  have hl2 : LoopTo Try.prog Try.f13.ntmps (loopAt Try.f13 0) (stL [(0, .ptr 0 0), (3, .int .i64 p)] (enumO 0 (rdO l p)) 1) (.exit 0) (stL [(0, .ptr 0 0)] (enumO 0 (rdO l p)) 1) := by
    have key := loop_of (P := Try.prog) (fs := Try.f13.ntmps) (cd := loopAt Try.f13 0) (S := fun i => stL [(0, .ptr 0 0), (3, .int .i64 ((p + i : Nat) : Int))] (enumO 0 (rdO l p)) 1) (n := 8 * l.length - p) (e := .exit 0)
      (s' := stL [(0, .ptr 0 0)] (enumO 0 (rdO l p)) 1) (by simp)
      (fun i hi => fill_round l hb hl p (p + i) (by omega) (h1 _ (by omega) (by omega)))
      (by
        rw [show p + (8 * l.length - p) = 8 * l.length by omega]
        refine code_step Try.ESOK [] [] ?_
        ((try (conv => whnf)); repeat ((first | exact True.intro | refine br_t ?_ | (with_reducible refine ix_nat ?_) | (with_reducible refine ix_lit _ ?_) | (with_reducible refine ix_add 1 ?_) | (with_reducible refine ix_add 2 ?_) | refine sIx ?_ | refine opt_in rfl ?_ | refine br_f ?_ | refine sNum ?_ | refine num0_out ?_ | refine sDt ?_ | refine sDf ?_ | refine sNt ?_ | refine sNf ?_ | refine sBt ?_ | refine sBf ?_ | refine sOb ?_ | refine sRw ?_); try (conv => whnf)))) 0 (Nat.zero_le _)
    exact key
  refine call_step Try.ESOK Try.func13 [] [] ?_
  ((try (conv => whnf)); repeat ((first | exact True.intro | refine br_t ?_ | (with_reducible refine ix_nat ?_) | (with_reducible refine ix_lit _ ?_) | (with_reducible refine ix_add 1 ?_) | (with_reducible refine ix_add 2 ?_) | refine sIx ?_ | refine opt_in rfl ?_ | refine br_f ?_ | refine sNum ?_ | refine num0_out ?_ | refine sDt ?_ | refine sDf ?_ | refine sNt ?_ | refine sNf ?_ | refine sBt ?_ | refine sBf ?_ | refine sOb ?_ | refine sRw ?_); try (conv => whnf)))
  refine deep_use [0] 1 (Left_ct l p hl (by omega)) rfl (by kernel_rfl) ?_ ?_
  · ((try (conv => whnf)); repeat ((first | exact True.intro | refine br_t ?_ | (with_reducible refine ix_nat ?_) | (with_reducible refine ix_lit _ ?_) | (with_reducible refine ix_add 1 ?_) | (with_reducible refine ix_add 2 ?_) | refine sIx ?_ | refine opt_in rfl ?_ | refine br_f ?_ | refine sNum ?_ | refine num0_out ?_ | refine sDt ?_ | refine sDf ?_ | refine sNt ?_ | refine sNf ?_ | refine sBt ?_ | refine sBf ?_ | refine sOb ?_ | refine sRw ?_); try (conv => whnf)))
  ((try (conv => whnf)); repeat ((first | exact True.intro | refine br_t ?_ | (with_reducible refine ix_nat ?_) | (with_reducible refine ix_lit _ ?_) | (with_reducible refine ix_add 1 ?_) | (with_reducible refine ix_add 2 ?_) | refine sIx ?_ | refine opt_in rfl ?_ | refine br_f ?_ | refine sNum ?_ | refine num0_out ?_ | refine sDt ?_ | refine sDf ?_ | refine sNt ?_ | refine sNf ?_ | refine sBt ?_ | refine sBf ?_ | refine sOb ?_ | refine sRw ?_); try (conv => whnf)))
  refine loop_use [] [] hl2 ?_ ?_
  · ((try (conv => whnf)); repeat ((first | exact True.intro | refine br_t ?_ | (with_reducible refine ix_nat ?_) | (with_reducible refine ix_lit _ ?_) | (with_reducible refine ix_add 1 ?_) | (with_reducible refine ix_add 2 ?_) | refine sIx ?_ | refine opt_in rfl ?_ | refine br_f ?_ | refine sNum ?_ | refine num0_out ?_ | refine sDt ?_ | refine sDf ?_ | refine sNt ?_ | refine sNf ?_ | refine sBt ?_ | refine sBf ?_ | refine sOb ?_ | refine sRw ?_); try (conv => whnf)))
  ((try (conv => whnf)); repeat ((first | exact True.intro | refine br_t ?_ | (with_reducible refine ix_nat ?_) | (with_reducible refine ix_lit _ ?_) | (with_reducible refine ix_add 1 ?_) | (with_reducible refine ix_add 2 ?_) | refine sIx ?_ | refine opt_in rfl ?_ | refine br_f ?_ | refine sNum ?_ | refine num0_out ?_ | refine sDt ?_ | refine sDf ?_ | refine sNt ?_ | refine sNf ?_ | refine sBt ?_ | refine sBf ?_ | refine sOb ?_ | refine sRw ?_); try (conv => whnf)))
end Go.Proofs
