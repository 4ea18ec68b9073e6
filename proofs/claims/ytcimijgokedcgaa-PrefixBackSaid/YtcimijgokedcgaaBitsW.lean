/- BitsW: a part of the proof of PrefixBack. Own work. -/
import Derived.Test.YtcimijgokedcgaaAbTab
import Derived.Test.YtcimijgokedcgaaAbLift
import Derived.KernelRfl
set_option linter.unusedVariables false
set_option linter.unusedSimpArgs false
set_option linter.unusedSectionVars false
namespace Go.Proofs
open Go Go.Ab
set_option maxRecDepth 100000


def stuff : List Int → List Int
  | [] => []
  | c :: r => if c = 255 then c :: 0 :: stuff r else c :: stuff r

theorem stuff_snoc (l : List Int) (c : Int) : stuff (l ++ [c]) = stuff l ++ (if c = 255 then [c, 0] else [c]) := by
  induction l with
  | nil => simp [stuff]
  | cons a l ih => simp only [List.cons_append, stuff, ih]; split <;> simp
theorem stuff_len (l : List Int) : (stuff l).length ≤ 2 * l.length := by
  induction l with
  | nil => simp [stuff]
  | cons a l ih => simp only [stuff]; split <;> simp <;> omega
theorem take_snoc' (l : List Int) (i : Nat) (hi : i < l.length) : l.take (i + 1) = l.take i ++ [l.getD i 0] := by
  rw [List.take_succ_eq_append_getElem hi]; simp [List.getD_eq_getElem?_getD, List.getElem?_eq_getElem hi]

def stuffT (l q : List Int) (i : Nat) : St := stL [(6, .bv 0 l.length 1 0 l.length none), (7, .int .i64 l.length), (8, .int .i64 i), (3, .bv 1 q.length 1 0 q.length none)] [(0, bufI .u8 l), (1, bufI .u8 q)] 2

theorem stuff_round (l q : List Int) (hl : l.length ≤ 2 ^ 40) (i : Nat) (hi : i < l.length) (hq : q.length ≤ 2 ^ 41) : CodeTo Try.prog Try.f24.ntmps (loopAt Try.f24 0) (stuffT l q i) .normal (stuffT l (q ++ if l.getD i 0 = 255 then [l.getD i 0, 0] else [l.getD i 0]) (i + 1)) := by
  have pu := eI_pure .u8
  by_cases hc' : l.getD i 0 = 255
  · rw [if_pos hc']
    have e : q ++ [l.getD i 0, 0] = (q ++ [l.getD i 0]) ++ [0] := by simp
    rw [e]
    refine code_step Try.ESOK [] [] ?_
    ((try (conv => whnf)); repeat ((first | exact True.intro | refine br_t ?_ | (with_reducible refine ix_nat ?_) | (with_reducible refine ix_lit _ ?_) | (with_reducible refine ix_add 1 ?_) | (with_reducible refine ix_add 2 ?_) | refine sIx ?_ | refine opt_in rfl ?_ | refine br_f ?_ | refine sNum ?_ | refine num0_out ?_ | refine sDt ?_ | refine sDf ?_ | refine sNt ?_ | refine sNf ?_ | refine sBt ?_ | refine sBf ?_ | refine sOb ?_ | refine sRw ?_); try (conv => whnf)))
  · rw [if_neg hc']
    refine code_step Try.ESOK [] [] ?_
    ((try (conv => whnf)); repeat ((first | exact True.intro | refine br_t ?_ | (with_reducible refine ix_nat ?_) | (with_reducible refine ix_lit _ ?_) | (with_reducible refine ix_add 1 ?_) | (with_reducible refine ix_add 2 ?_) | refine sIx ?_ | refine opt_in rfl ?_ | refine br_f ?_ | refine sNum ?_ | refine num0_out ?_ | refine sDt ?_ | refine sDf ?_ | refine sNt ?_ | refine sNf ?_ | refine sBt ?_ | refine sBf ?_ | refine sOb ?_ | refine sRw ?_); try (conv => whnf)))

theorem stuff_upto (l : List Int) (i : Nat) (hi : i < l.length) : stuff (l.take (i + 1)) = stuff (l.take i) ++ if l.getD i 0 = 255 then [l.getD i 0, 0] else [l.getD i 0] := by
  rw [take_snoc' l i hi, stuff_snoc]

theorem stuff_loop (l : List Int) (hl : l.length ≤ 2 ^ 40) : LoopTo Try.prog Try.f24.ntmps (loopAt Try.f24 0) (stuffT l [] 0) (.exit 0) (stuffT l (stuff l) l.length) := by
  have key := loop_of (P := Try.prog) (fs := Try.f24.ntmps) (cd := loopAt Try.f24 0) (S := fun i => stuffT l (stuff (l.take i)) i) (n := l.length) (e := .exit 0) (s' := stuffT l (stuff l) l.length) (by simp)
    (fun i hi => by
      have h2 := stuff_len (l.take i)
      have h3 : (l.take i).length ≤ i := List.length_take_le _ _
      have := stuff_round l (stuff (l.take i)) hl i hi (by omega)
      rwa [← stuff_upto l i hi] at this)
    (by
      have pu := eI_pure .u8
      rw [List.take_length]
      generalize stuff l = q
      refine code_step Try.ESOK [] [] ?_
      ((try (conv => whnf)); repeat ((first | exact True.intro | refine br_t ?_ | (with_reducible refine ix_nat ?_) | (with_reducible refine ix_lit _ ?_) | (with_reducible refine ix_add 1 ?_) | (with_reducible refine ix_add 2 ?_) | refine sIx ?_ | refine opt_in rfl ?_ | refine br_f ?_ | refine sNum ?_ | refine num0_out ?_ | refine sDt ?_ | refine sDf ?_ | refine sNt ?_ | refine sNf ?_ | refine sBt ?_ | refine sBf ?_ | refine sOb ?_ | refine sRw ?_); try (conv => whnf)))) 0 (Nat.zero_le _)
  exact key

theorem Stuff_ct (l : List Int) (hl : l.length ≤ 2 ^ 40) : CallTo Try.prog 24 [.bv 0 l.length 1 0 l.length none] (hpN 1 [bufI .u8 l]) (.bv 1 (stuff l).length 1 0 (stuff l).length none) (hpN 2 [bufI .u8 l, bufI .u8 (stuff l)]) := by
  have pu := eI_pure .u8
  refine call_step Try.ESOK Try.func24 [] [] ?_
  ((try (conv => whnf)); repeat ((first | exact True.intro | refine br_t ?_ | (with_reducible refine ix_nat ?_) | (with_reducible refine ix_lit _ ?_) | (with_reducible refine ix_add 1 ?_) | (with_reducible refine ix_add 2 ?_) | refine sIx ?_ | refine opt_in rfl ?_ | refine br_f ?_ | refine sNum ?_ | refine num0_out ?_ | refine sDt ?_ | refine sDf ?_ | refine sNt ?_ | refine sNf ?_ | refine sBt ?_ | refine sBf ?_ | refine sOb ?_ | refine sRw ?_); try (conv => whnf)))
  refine loop_use [some 0, none] [] (stuff_loop l hl) ?_ ?_
  ((try (conv => whnf)); repeat ((first | exact True.intro | refine br_t ?_ | (with_reducible refine ix_nat ?_) | (with_reducible refine ix_lit _ ?_) | (with_reducible refine ix_add 1 ?_) | (with_reducible refine ix_add 2 ?_) | refine sIx ?_ | refine opt_in rfl ?_ | refine br_f ?_ | refine sNum ?_ | refine num0_out ?_ | refine sDt ?_ | refine sDf ?_ | refine sNt ?_ | refine sNf ?_ | refine sBt ?_ | refine sBf ?_ | refine sOb ?_ | refine sRw ?_); try (conv => whnf)))
  ((try (conv => whnf)); repeat ((first | exact True.intro | refine br_t ?_ | (with_reducible refine ix_nat ?_) | (with_reducible refine ix_lit _ ?_) | (with_reducible refine ix_add 1 ?_) | (with_reducible refine ix_add 2 ?_) | refine sIx ?_ | refine opt_in rfl ?_ | refine br_f ?_ | refine sNum ?_ | refine num0_out ?_ | refine sDt ?_ | refine sDf ?_ | refine sNt ?_ | refine sNf ?_ | refine sBt ?_ | refine sBf ?_ | refine sOb ?_ | refine sRw ?_); try (conv => whnf)))

def wrO (l : List Int) (rest many : Nat) : List Ob := [.cells [.bv 1 l.length 1 0 l.length none, .int .u32 rest, .int .i64 many], bufI .u8 l]
def wrR (l : List Int) (rest many : Nat) : List (Nat × Ob) := enumO 0 (wrO l rest many)

theorem put_round (l : List Int) (R m : Nat) (hl : l.length ≤ 2 ^ 40) (hR : R < 2 ^ 32) (hm : 8 ≤ m) (hm2 : m ≤ 30) :
    CodeTo Try.prog Try.f21.ntmps (loopAt Try.f21 0) (stL [(0, .ptr 0 0)] (wrR l R m) 2) .normal (stL [(0, .ptr 0 0)] (wrR (l ++ [((R / 2 ^ (m - 8) % 256 : Nat) : Int)]) R (m - 8)) 2) := by
  have pu := eI_pure .u8
  refine code_step Try.ESOK [] [] ?_
  have e : ((m : Int) - 8).toNat = m - 8 := by omega
  have key : IntKind.u8.wrap ((R : Int) / 2 ^ ((m : Int) - 8).toNat) = ((R / 2 ^ (m - 8) % 256 : Nat) : Int) := by
    rw [IntKind.wrap_u8, e]
    simp
  ((try (conv => whnf)); repeat ((first | exact True.intro | refine br_t ?_ | (with_reducible refine ix_nat ?_) | (with_reducible refine ix_lit _ ?_) | (with_reducible refine ix_add 1 ?_) | (with_reducible refine ix_add 2 ?_) | refine sIx ?_ | refine opt_in rfl ?_ | refine br_f ?_ | refine sNum ?_ | refine num0_out ?_ | refine sDt ?_ | refine sDf ?_ | refine sNt ?_ | refine sNf ?_ | refine sBt ?_ | refine sBf ?_ | refine sOb ?_ | refine sRw ?_); try (conv => whnf)))
  refine num_out ?_
  rw [key]
  ((try (conv => whnf)); repeat ((first | exact True.intro | refine br_t ?_ | (with_reducible refine ix_nat ?_) | (with_reducible refine ix_lit _ ?_) | (with_reducible refine ix_add 1 ?_) | (with_reducible refine ix_add 2 ?_) | refine sIx ?_ | refine opt_in rfl ?_ | refine br_f ?_ | refine sNum ?_ | refine num0_out ?_ | refine sDt ?_ | refine sDf ?_ | refine sNt ?_ | refine sNf ?_ | refine sBt ?_ | refine sBf ?_ | refine sOb ?_ | refine sRw ?_); try (conv => whnf)))

def bytesOf (R m : Nat) (i : Nat) : List Int := (List.range i).map fun j => ((R / 2 ^ (m - 8 * (j + 1)) % 256 : Nat) : Int)
theorem bytesOf_len (R m i : Nat) : (bytesOf R m i).length = i := by simp [bytesOf]
theorem bytesOf_succ (R m i : Nat) : bytesOf R m (i + 1) = bytesOf R m i ++ [((R / 2 ^ (m - 8 * (i + 1)) % 256 : Nat) : Int)] := by
  simp [bytesOf, List.range_succ]

theorem put_loop (l : List Int) (R m : Nat) (hl : l.length ≤ 2 ^ 39) (hR : R < 2 ^ 32) (hm2 : m ≤ 30) :
    LoopTo Try.prog Try.f21.ntmps (loopAt Try.f21 0) (stL [(0, .ptr 0 0)] (wrR l R m) 2) (.exit 0) (stL [(0, .ptr 0 0)] (wrR (l ++ bytesOf R m (m / 8)) R (m % 8)) 2) := by
  have key := loop_of (P := Try.prog) (fs := Try.f21.ntmps) (cd := loopAt Try.f21 0) (S := fun i => stL [(0, .ptr 0 0)] (wrR (l ++ bytesOf R m i) R (m - 8 * i)) 2) (n := m / 8) (e := .exit 0)
    (s' := stL [(0, .ptr 0 0)] (wrR (l ++ bytesOf R m (m / 8)) R (m % 8)) 2) (by simp)
    (fun i hi => by
      have := put_round (l ++ bytesOf R m i) R (m - 8 * i) (by simp [bytesOf_len]; omega) hR (by omega) (by omega)
      rw [bytesOf_succ, ← List.append_assoc]
      rwa [show m - 8 * i - 8 = m - 8 * (i + 1) by omega] at this)
    (by
      have pu := eI_pure .u8
      rw [show m - 8 * (m / 8) = m % 8 by omega]
      have hlt : m % 8 < 8 := by omega
      generalize l ++ bytesOf R m (m / 8) = q
      generalize m % 8 = r at *
      refine code_step Try.ESOK [] [] ?_
      ((try (conv => whnf)); repeat ((first | exact True.intro | refine br_t ?_ | (with_reducible refine ix_nat ?_) | (with_reducible refine ix_lit _ ?_) | (with_reducible refine ix_add 1 ?_) | (with_reducible refine ix_add 2 ?_) | refine sIx ?_ | refine opt_in rfl ?_ | refine br_f ?_ | refine sNum ?_ | refine num0_out ?_ | refine sDt ?_ | refine sDf ?_ | refine sNt ?_ | refine sNf ?_ | refine sBt ?_ | refine sBf ?_ | refine sOb ?_ | refine sRw ?_); try (conv => whnf)))) 0 (Nat.zero_le _)
  simpa [bytesOf] using key

theorem Put_raw (l : List Int) (rest many n v : Nat) (hl : l.length ≤ 2 ^ 39) (hm : many < 8) (hr : rest < 2 ^ many) (hn : n ≤ 16) (hv : v < 2 ^ 32) :
    CallTo Try.prog 21 [.ptr 0 0, .int .i64 v, .int .i64 n] (hpN 2 (wrO l rest many)) (.bool true)
      (hpN 2 (wrO (l ++ bytesOf (rest * 2 ^ n ||| v % 2 ^ n) (many + n) ((many + n) / 8)) ((rest * 2 ^ n ||| v % 2 ^ n) % 2 ^ ((many + n) % 8)) ((many + n) % 8))) := by
  have pu := eI_pure .u8
  have p16 : 2 ^ n ≤ 2 ^ 16 := Nat.pow_le_pow_right (by omega) hn
  have pmn : 2 ^ (many + n) ≤ 2 ^ 23 := Nat.pow_le_pow_right (by omega) (by omega)
  have hr2 : rest * 2 ^ n < 2 ^ (many + n) := by rw [Nat.pow_add]; exact Nat.mul_lt_mul_of_pos_right hr (Nat.pow_pos (by omega))
  have hpos : 0 < 2 ^ n := Nat.pow_pos (by omega)
  have c1 : (rest : Int) * 2 ^ n = ((rest * 2 ^ n : Nat) : Int) := by simp
  have c2 : (1 : Int) * 2 ^ n = ((2 ^ n : Nat) : Int) := by simp
  have a1 : 0 ≤ (rest : Int) * 2 ^ n ∧ (rest : Int) * 2 ^ n ≤ 4294967295 := by rw [c1]; omega
  have a2 : 0 ≤ (1 : Int) * 2 ^ n ∧ (1 : Int) * 2 ^ n ≤ 4294967295 := by rw [c2]; omega
  have a3 : 0 ≤ (1 : Int) * 2 ^ n - 1 ∧ (1 : Int) * 2 ^ n - 1 ≤ 4294967295 := by rw [c2]; omega
  have vm : v % 2 ^ n < 2 ^ n := Nat.mod_lt _ hpos
  have b1 : bitsN .and v ((1 : Int) * 2 ^ n - 1).toNat = ((v % 2 ^ n : Nat) : Int) := by
    rw [c2, show (((2 ^ n : Nat) : Int) - 1).toNat = 2 ^ n - 1 by omega]
    simp only [bitsN, Int.toNat_natCast, Nat.and_two_pow_sub_one_eq_mod]
  have b2 : bitsN .or ((rest : Int) * 2 ^ n).toNat (bitsN .and v ((1 : Int) * 2 ^ n - 1).toNat).toNat = ((rest * 2 ^ n ||| v % 2 ^ n : Nat) : Int) := by
    rw [b1, c1]; simp only [bitsN, Int.toNat_natCast]
  have hR : rest * 2 ^ n ||| v % 2 ^ n < 2 ^ (many + n) := Nat.or_lt_two_pow hr2 (Nat.lt_of_lt_of_le vm (Nat.pow_le_pow_right (by omega) (by omega)))
  have a4 : 0 ≤ ((v % 2 ^ n : Nat) : Int) ∧ ((v % 2 ^ n : Nat) : Int) ≤ 4294967295 := by omega
  have a5 := And.intro a1 a4
  have hvn : 0 ≤ (v : Int) ∧ (v : Int) ≤ 4294967295 := by omega
  have a6 := And.intro hvn a3
  generalize hRR : rest * 2 ^ n ||| v % 2 ^ n = R at *
  have hm8 : (many + n) % 8 < 8 := Nat.mod_lt _ (by omega)
  have q8 : 2 ^ ((many + n) % 8) ≤ 2 ^ 7 := Nat.pow_le_pow_right (by omega) (by omega)
  refine call_step Try.ESOK Try.func21 [] [] ?_
  ((try (conv => whnf)); repeat ((first | exact True.intro | refine br_t ?_ | (with_reducible refine ix_nat ?_) | (with_reducible refine ix_lit _ ?_) | (with_reducible refine ix_add 1 ?_) | (with_reducible refine ix_add 2 ?_) | refine sIx ?_ | refine opt_in rfl ?_ | refine br_f ?_ | refine sNum ?_ | refine num0_out ?_ | refine sDt ?_ | refine sDf ?_ | refine sNt ?_ | refine sNf ?_ | refine sBt ?_ | refine sBf ?_ | refine sOb ?_ | refine sRw ?_); try (conv => whnf)))
  rw [b2]
  ((try (conv => whnf)); repeat ((first | exact True.intro | refine br_t ?_ | (with_reducible refine ix_nat ?_) | (with_reducible refine ix_lit _ ?_) | (with_reducible refine ix_add 1 ?_) | (with_reducible refine ix_add 2 ?_) | refine sIx ?_ | refine opt_in rfl ?_ | refine br_f ?_ | refine sNum ?_ | refine num0_out ?_ | refine sDt ?_ | refine sDf ?_ | refine sNt ?_ | refine sNf ?_ | refine sBt ?_ | refine sBf ?_ | refine sOb ?_ | refine sRw ?_); try (conv => whnf)))
  refine loop_use [] [] (put_loop l R (many + n) hl (by omega) (by omega)) ?_ ?_
  · ((try (conv => whnf)); repeat ((first | exact True.intro | refine br_t ?_ | (with_reducible refine ix_nat ?_) | (with_reducible refine ix_lit _ ?_) | (with_reducible refine ix_add 1 ?_) | (with_reducible refine ix_add 2 ?_) | refine sIx ?_ | refine opt_in rfl ?_ | refine br_f ?_ | refine sNum ?_ | refine num0_out ?_ | refine sDt ?_ | refine sDf ?_ | refine sNt ?_ | refine sNf ?_ | refine sBt ?_ | refine sBf ?_ | refine sOb ?_ | refine sRw ?_); try (conv => whnf)))
  have c3 : (1 : Int) * 2 ^ ((many + n) % 8) = ((2 ^ ((many + n) % 8) : Nat) : Int) := by simp
  have d2 : 0 ≤ (1 : Int) * 2 ^ ((many + n) % 8) ∧ (1 : Int) * 2 ^ ((many + n) % 8) ≤ 4294967295 := by rw [c3]; generalize 2 ^ ((many + n) % 8) = q at *; omega
  have d3 : 0 ≤ (1 : Int) * 2 ^ ((many + n) % 8) - 1 ∧ (1 : Int) * 2 ^ ((many + n) % 8) - 1 ≤ 4294967295 := by
    have h0 : 0 < 2 ^ ((many + n) % 8) := Nat.pow_pos (by omega)
    rw [c3]; generalize 2 ^ ((many + n) % 8) = q at *; omega
  have d4 : 0 ≤ (R : Int) ∧ (R : Int) ≤ 4294967295 := by omega
  have d5 := And.intro d4 d3
  have b3 : bitsN .and R ((1 : Int) * 2 ^ ((many + n) % 8) - 1).toNat = ((R % 2 ^ ((many + n) % 8) : Nat) : Int) := by
    rw [c3, show (((2 ^ ((many + n) % 8) : Nat) : Int) - 1).toNat = 2 ^ ((many + n) % 8) - 1 by have : 0 < 2 ^ ((many + n) % 8) := Nat.pow_pos (by omega); omega]
    simp only [bitsN, Nat.and_two_pow_sub_one_eq_mod]
  ((try (conv => whnf)); repeat ((first | exact True.intro | refine br_t ?_ | (with_reducible refine ix_nat ?_) | (with_reducible refine ix_lit _ ?_) | (with_reducible refine ix_add 1 ?_) | (with_reducible refine ix_add 2 ?_) | refine sIx ?_ | refine opt_in rfl ?_ | refine br_f ?_ | refine sNum ?_ | refine num0_out ?_ | refine sDt ?_ | refine sDf ?_ | refine sNt ?_ | refine sNf ?_ | refine sBt ?_ | refine sBf ?_ | refine sOb ?_ | refine sRw ?_); try (conv => whnf)))
end Go.Proofs
