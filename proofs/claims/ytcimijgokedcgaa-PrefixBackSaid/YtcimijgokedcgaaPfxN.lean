/- PfxN: a part of the proof of PrefixBack. Own work. -/
import Derived.Test.YtcimijgokedcgaaPfxC
set_option linter.unusedVariables false
set_option linter.unusedSimpArgs false
set_option linter.unusedSectionVars false
namespace Go.Proofs
open Go Go.Ab
set_option maxRecDepth 100000


theorem findME_none (sg : List Nat) (key : List Int) : ∀ (es : List ME) (i : Nat), (∀ e ∈ es, natsEq sg e.sig = true ∧ intsEq key e.key = false) → findME sg key es i = some none := by
  intro es
  induction es with
  | nil => intro i _; rfl
  | cons e es ih =>
    intro i h
    obtain ⟨h1, h2⟩ := h e (by simp)
    simp only [findME, h1, h2]
    exact ih (i + 1) fun e he => h e (by simp [he])

theorem findME_at (sg : List Nat) (key : List Int) : ∀ (es : List ME) (i j : Nat) (e : ME), es[j]? = some e → natsEq sg e.sig = true → intsEq key e.key = true → (∀ k e', k < j → es[k]? = some e' → natsEq sg e'.sig = true ∧ intsEq key e'.key = false) →
    findME sg key es i = some (some (i + j, e)) := by
  intro es
  induction es with
  | nil => intro i j e h; simp at h
  | cons a es ih =>
    intro i j e h h1 h2 hk
    cases j with
    | zero =>
      simp at h; subst h
      simp only [findME, h1, h2, Nat.add_zero]
    | succ j =>
      obtain ⟨a1, a2⟩ := hk 0 a (by omega) rfl
      simp only [findME, a1, a2]
      rw [ih (i + 1) j e (by simpa using h) h1 h2 fun k e' hk' he => hk (k + 1) e' (by omega) (by simpa using he)]
      rw [show i + 1 + j = i + (j + 1) by omega]

theorem findBorn_last (b : Nat) (x : ME) (hx : x.born = b) : ∀ (es : List ME) (i : Nat), (∀ e ∈ es, e.born ≠ b) → findBorn b (es ++ [x]) i = some (i + es.length) := by
  intro es
  induction es with
  | nil => intro i _; simp [findBorn, hx]
  | cons e es ih =>
    intro i h
    have h1 : Nat.beq e.born b = false := by
      rw [Bool.eq_false_iff]; exact fun hb => h e (by simp) (Nat.eq_of_beq_eq_true hb)
    simp only [List.cons_append, findBorn, h1]
    rw [ih (i + 1) fun e he => h e (by simp [he])]
    simp only [List.length_cons]
    rw [show i + 1 + es.length = i + (es.length + 1) by omega]

theorem setME_last (v : V) (x : ME) : ∀ (es : List ME), setME es.length v (es ++ [x]) = es ++ [{ x with val := v }] := by
  intro es
  induction es with
  | nil => rfl
  | cons e es ih => simp only [List.cons_append, List.length_cons, setME, ih]

def cE (cs : List (Nat × Nat)) (s : List Int) (i : Nat) : ME := ⟨[3], [s.getD i 0], .agg (eBits (cs.getD i (0, 0))), i⟩
def sE (cs : List (Nat × Nat)) (s : List Int) (i : Nat) : ME := ⟨[8, 8, 3, 3], [((cs.getD i (0, 0)).1 : Int), ((cs.getD i (0, 0)).2 : Int)], .int .i64 (s.getD i 0), i⟩
def cEs (cs : List (Nat × Nat)) (s : List Int) (n : Nat) : List ME := (List.range n).map (cE cs s)
def sEs (cs : List (Nat × Nat)) (s : List Int) (n : Nat) : List ME := (List.range n).map (sE cs s)
theorem cEs_succ (cs : List (Nat × Nat)) (s : List Int) (n : Nat) : cEs cs s (n + 1) = cEs cs s n ++ [cE cs s n] := by simp [cEs, List.range_succ]
theorem sEs_succ (cs : List (Nat × Nat)) (s : List Int) (n : Nat) : sEs cs s (n + 1) = sEs cs s n ++ [sE cs s n] := by simp [sEs, List.range_succ]
theorem cEs_len (cs : List (Nat × Nat)) (s : List Int) (n : Nat) : (cEs cs s n).length = n := by simp [cEs]
theorem sEs_len (cs : List (Nat × Nat)) (s : List Int) (n : Nat) : (sEs cs s n).length = n := by simp [sEs]
theorem cEs_pure (cs : List (Nat × Nat)) (s : List Int) (n : Nat) : ∀ e ∈ cEs cs s n, Ab.Pure e.val := fun e he => by
  simp only [cEs, List.mem_map] at he; obtain ⟨i, _, rfl⟩ := he
  exact .agg fun v hv => eBits_pure _ v hv
theorem sEs_pure (cs : List (Nat × Nat)) (s : List Int) (n : Nat) : ∀ e ∈ sEs cs s n, Ab.Pure e.val := fun e he => by
  simp only [sEs, List.mem_map] at he; obtain ⟨i, _, rfl⟩ := he
  exact .int _ _

def newS (c : Nat → Int) (s : List Int) (cs : List (Nat × Nat)) (i : Nat) : St :=
  stL [(1, .ptr 0 0), (4, .ptr 3 0), (15, islR eBits (0, 0) 2 cs), (16, .int .i64 cs.length), (17, .int .i64 i)]
    [(0, .cells (huffL c s)), (1, .map (cEs cs s i) i), (2, .map (sEs cs s i) i), (3, .cells [.map 1, .map 2])] 4

theorem new_round (c : Nat → Int) (s : List Int) (cs : List (Nat × Nat)) (hlen : cs.length = s.length) (hl : s.length ≤ 256) (hs : s.Nodup) (hcs : cs.Nodup) (i : Nat) (hi : i < s.length) :
    CodeTo Try.prog Try.f5.ntmps (loopAt Try.f5 0) (newS c s cs i) .normal (newS c s cs (i + 1)) := by
  have pu := eI_pure .i64
  have pb := eBits_pure
  have f1 : findME [3] [s.getD i 0] (cEs cs s i) 0 = some none := findME_none _ _ _ _ fun e he => by
    simp only [cEs, List.mem_map, List.mem_range] at he
    obtain ⟨k, hk, rfl⟩ := he
    refine ⟨rfl, ?_⟩
    have : s.getD i 0 ≠ s.getD k 0 := fun e => by
      rw [List.getD_eq_getElem?_getD, List.getD_eq_getElem?_getD, List.getElem?_eq_getElem hi, List.getElem?_eq_getElem (by omega)] at e
      have := (List.getElem_inj hs).1 e; omega
    simp only [cE, intsEq, beq_eq_false_iff_ne.2 this]
  have f2 : findME [8, 8, 3, 3] [((cs.getD i (0, 0)).1 : Int), ((cs.getD i (0, 0)).2 : Int)] (sEs cs s i) 0 = some none := findME_none _ _ _ _ fun e he => by
    simp only [sEs, List.mem_map, List.mem_range] at he
    obtain ⟨k, hk, rfl⟩ := he
    refine ⟨rfl, ?_⟩
    have : cs.getD i (0, 0) ≠ cs.getD k (0, 0) := fun e => by
      rw [List.getD_eq_getElem?_getD, List.getD_eq_getElem?_getD, List.getElem?_eq_getElem (by omega), List.getElem?_eq_getElem (by omega)] at e
      have := (List.getElem_inj hcs).1 e; omega
    simp only [sE]
    generalize cs.getD k (0, 0) = a at *
    generalize cs.getD i (0, 0) = b at *
    obtain ⟨a1, a2⟩ := a
    obtain ⟨b1, b2⟩ := b
    simp only [intsEq]
    by_cases e1 : b1 = a1
    · have e2 : b2 ≠ a2 := fun e2 => this (by rw [e1, e2])
      simp only [e1, beq_self_eq_true]
      rw [show ((b2 : Int) == (a2 : Int)) = false from beq_eq_false_iff_ne.2 (by omega)]
    · rw [show ((b1 : Int) == (a1 : Int)) = false from beq_eq_false_iff_ne.2 (by omega)]
  have g1 : ∀ z : V, findBorn ((i : Int)).toNat (cEs cs s i ++ [⟨[3], [s.getD i 0], z, i⟩]) 0 = some (cEs cs s i).length := fun z => by
    have := findBorn_last i ⟨[3], [s.getD i 0], z, i⟩ rfl (cEs cs s i) 0 (fun e he => by
      simp only [cEs, List.mem_map, List.mem_range] at he; obtain ⟨k, hk, rfl⟩ := he; simp only [cE]; omega)
    simpa using this
  have g2 : ∀ z : V, findBorn ((i : Int)).toNat (sEs cs s i ++ [⟨[8, 8, 3, 3], [((cs.getD i (0, 0)).1 : Int), ((cs.getD i (0, 0)).2 : Int)], z, i⟩]) 0 = some (sEs cs s i).length := fun z => by
    have := findBorn_last i ⟨[8, 8, 3, 3], [((cs.getD i (0, 0)).1 : Int), ((cs.getD i (0, 0)).2 : Int)], z, i⟩ rfl (sEs cs s i) 0 (fun e he => by
      simp only [sEs, List.mem_map, List.mem_range] at he; obtain ⟨k, hk, rfl⟩ := he; simp only [sE]; omega)
    simpa using this
  have p1 := cEs_pure cs s (i + 1)
  have p2 := sEs_pure cs s (i + 1)
  unfold newS
  rw [cEs_succ] at p1 ⊢
  rw [sEs_succ] at p2 ⊢
  have s1 := fun v z => setME_last v ⟨[3], [s.getD i 0], z, i⟩ (cEs cs s i)
  have s2 := fun v z => setME_last v ⟨[8, 8, 3, 3], [((cs.getD i (0, 0)).1 : Int), ((cs.getD i (0, 0)).2 : Int)], z, i⟩ (sEs cs s i)
  have lc := cEs_len cs s i
  have ls := sEs_len cs s i
  generalize cEs cs s i = es at *
  generalize sEs cs s i = fs at *
  refine code_step Try.ESOK [] [] ?_
  ((try (conv => whnf)); repeat ((first | exact True.intro | refine br_t ?_ | (with_reducible refine ix_nat ?_) | (with_reducible refine ix_lit _ ?_) | (with_reducible refine ix_add 1 ?_) | (with_reducible refine ix_add 2 ?_) | refine sIx ?_ | refine opt_in rfl ?_ | refine br_f ?_ | refine sNum ?_ | refine num0_out ?_ | refine sDt ?_ | refine sDf ?_ | refine sNt ?_ | refine sNf ?_ | refine sBt ?_ | refine sBf ?_ | refine sOb ?_ | refine sRw ?_); try (conv => whnf)))
  refine opt_in f1 ?_
  ((try (conv => whnf)); repeat ((first | exact True.intro | refine br_t ?_ | (with_reducible refine ix_nat ?_) | (with_reducible refine ix_lit _ ?_) | (with_reducible refine ix_add 1 ?_) | (with_reducible refine ix_add 2 ?_) | refine sIx ?_ | refine opt_in rfl ?_ | refine br_f ?_ | refine sNum ?_ | refine num0_out ?_ | refine sDt ?_ | refine sDf ?_ | refine sNt ?_ | refine sNf ?_ | refine sBt ?_ | refine sBf ?_ | refine sOb ?_ | refine sRw ?_); try (conv => whnf)))
  refine opt_in (g1 _) ?_
  ((try (conv => whnf)); repeat ((first | exact True.intro | refine br_t ?_ | (with_reducible refine ix_nat ?_) | (with_reducible refine ix_lit _ ?_) | (with_reducible refine ix_add 1 ?_) | (with_reducible refine ix_add 2 ?_) | refine sIx ?_ | refine opt_in rfl ?_ | refine br_f ?_ | refine sNum ?_ | refine num0_out ?_ | refine sDt ?_ | refine sDf ?_ | refine sNt ?_ | refine sNf ?_ | refine sBt ?_ | refine sBf ?_ | refine sOb ?_ | refine sRw ?_); try (conv => whnf)))
  refine opt_in f2 ?_
  ((try (conv => whnf)); repeat ((first | exact True.intro | refine br_t ?_ | (with_reducible refine ix_nat ?_) | (with_reducible refine ix_lit _ ?_) | (with_reducible refine ix_add 1 ?_) | (with_reducible refine ix_add 2 ?_) | refine sIx ?_ | refine opt_in rfl ?_ | refine br_f ?_ | refine sNum ?_ | refine num0_out ?_ | refine sDt ?_ | refine sDf ?_ | refine sNt ?_ | refine sNf ?_ | refine sBt ?_ | refine sBf ?_ | refine sOb ?_ | refine sRw ?_); try (conv => whnf)))
  refine opt_in (g2 _) ?_
  ((try (conv => whnf)); repeat ((first | exact True.intro | refine br_t ?_ | (with_reducible refine ix_nat ?_) | (with_reducible refine ix_lit _ ?_) | (with_reducible refine ix_add 1 ?_) | (with_reducible refine ix_add 2 ?_) | refine sIx ?_ | refine opt_in rfl ?_ | refine br_f ?_ | refine sNum ?_ | refine num0_out ?_ | refine sDt ?_ | refine sDf ?_ | refine sNt ?_ | refine sNf ?_ | refine sBt ?_ | refine sBf ?_ | refine sOb ?_ | refine sRw ?_); try (conv => whnf)))
  refine ob_in ⟨s1 _ _, rfl⟩ ?_
  ((try (conv => whnf)); repeat ((first | exact True.intro | refine br_t ?_ | (with_reducible refine ix_nat ?_) | (with_reducible refine ix_lit _ ?_) | (with_reducible refine ix_add 1 ?_) | (with_reducible refine ix_add 2 ?_) | refine sIx ?_ | refine opt_in rfl ?_ | refine br_f ?_ | refine sNum ?_ | refine num0_out ?_ | refine sDt ?_ | refine sDf ?_ | refine sNt ?_ | refine sNf ?_ | refine sBt ?_ | refine sBf ?_ | refine sOb ?_ | refine sRw ?_); try (conv => whnf)))
  refine ob_in ⟨s2 _ _, rfl⟩ ?_
  ((try (conv => whnf)); repeat ((first | exact True.intro | refine br_t ?_ | (with_reducible refine ix_nat ?_) | (with_reducible refine ix_lit _ ?_) | (with_reducible refine ix_add 1 ?_) | (with_reducible refine ix_add 2 ?_) | refine sIx ?_ | refine opt_in rfl ?_ | refine br_f ?_ | refine sNum ?_ | refine num0_out ?_ | refine sDt ?_ | refine sDf ?_ | refine sNt ?_ | refine sNf ?_ | refine sBt ?_ | refine sBf ?_ | refine sOb ?_ | refine sRw ?_); try (conv => whnf)))

def tabO (cs : List (Nat × Nat)) (s : List Int) : List Ob := [.cells [.map 1, .map 2], .map (cEs cs s s.length) s.length, .map (sEs cs s s.length) s.length]

theorem new_loop (c : Nat → Int) (s : List Int) (cs : List (Nat × Nat)) (hlen : cs.length = s.length) (hl : s.length ≤ 256) (hs : s.Nodup) (hcs : cs.Nodup) :
    LoopTo Try.prog Try.f5.ntmps (loopAt Try.f5 0) (newS c s cs 0) (.exit 0) (newS c s cs s.length) := by
  have key := loop_of (P := Try.prog) (fs := Try.f5.ntmps) (cd := loopAt Try.f5 0) (S := fun i => newS c s cs i) (n := s.length) (e := .exit 0)
    (s' := newS c s cs s.length) (by simp)
    (fun i hi => new_round c s cs hlen hl hs hcs i hi)
    (by
      have pu := eI_pure .i64
      have pb := eBits_pure
      have p1 := cEs_pure cs s s.length
      have p2 := sEs_pure cs s s.length
      unfold newS
      generalize cEs cs s s.length = es at *
      generalize sEs cs s s.length = fs at *
      refine code_step Try.ESOK [] [] ?_
      ((try (conv => whnf)); repeat ((first | exact True.intro | refine br_t ?_ | (with_reducible refine ix_nat ?_) | (with_reducible refine ix_lit _ ?_) | (with_reducible refine ix_add 1 ?_) | (with_reducible refine ix_add 2 ?_) | refine sIx ?_ | refine opt_in rfl ?_ | refine br_f ?_ | refine sNum ?_ | refine num0_out ?_ | refine sDt ?_ | refine sDf ?_ | refine sNt ?_ | refine sNf ?_ | refine sBt ?_ | refine sBf ?_ | refine sOb ?_ | refine sRw ?_); try (conv => whnf)))) 0 (Nat.zero_le _)
  exact key

theorem New_no (c : Nat → Int) (s : List Int) (hl : s.length ≤ 256) (h : ¬ mayP c s) : PCallTo Try.prog 5 [huffV c s] (.tup [.lit (.pointer none), .int .i64 2]) := by
  have pu := eI_pure .i64
  have h1 := May_no c s hl h
  refine pure_step Try.ESOK Try.func5 [] ?_ (by intro v hv; simp at hv; subst hv; exact huff_pure _ _) (.tup (by intro v hv; simp at hv; rcases hv with rfl | rfl <;> first | exact .lit _ | exact .int _ _))
  ((try (conv => whnf)); repeat ((first | exact True.intro | refine br_t ?_ | (with_reducible refine ix_nat ?_) | (with_reducible refine ix_lit _ ?_) | (with_reducible refine ix_add 1 ?_) | (with_reducible refine ix_add 2 ?_) | refine sIx ?_ | refine opt_in rfl ?_ | refine br_f ?_ | refine sNum ?_ | refine num0_out ?_ | refine sDt ?_ | refine sDf ?_ | refine sNt ?_ | refine sNf ?_ | refine sBt ?_ | refine sBf ?_ | refine sOb ?_ | refine sRw ?_); try (conv => whnf)))
  refine pure_use h1 ?_
  ((try (conv => whnf)); repeat ((first | exact True.intro | refine br_t ?_ | (with_reducible refine ix_nat ?_) | (with_reducible refine ix_lit _ ?_) | (with_reducible refine ix_add 1 ?_) | (with_reducible refine ix_add 2 ?_) | refine sIx ?_ | refine opt_in rfl ?_ | refine br_f ?_ | refine sNum ?_ | refine num0_out ?_ | refine sDt ?_ | refine sDf ?_ | refine sNt ?_ | refine sNf ?_ | refine sBt ?_ | refine sBf ?_ | refine sOb ?_ | refine sRw ?_); try (conv => whnf)))

theorem New_yes (c : Nat → Int) (s : List Int) (hl : s.length ≤ 256) (h : mayP c s) (hlen : (codesL c).length = s.length) (hcs : (codesL c).Nodup) :
    CallTo Try.prog 5 [huffV c s] (hpN 0 []) (.tup [.ptr 0 0, .int .i64 0]) (hpN 3 (tabO (codesL c) s)) := by
  have pu := eI_pure .i64
  have pb := eBits_pure
  have h1 := May_ok c s hl h
  have h2 := codes_ct c s h.1
  have h3 := new_loop c s (codesL c) hlen hl h.2.1.2 hcs
  have p1 := cEs_pure (codesL c) s s.length
  have p2 := sEs_pure (codesL c) s s.length
  have p3 := cEs_pure (codesL c) s 0
  have p4 := sEs_pure (codesL c) s 0
  generalize codesL c = cs at *
  refine call_step Try.ESOK Try.func5 [some 3, some 1, some 2] [] ?_
  ((try (conv => whnf)); repeat ((first | exact True.intro | refine br_t ?_ | (with_reducible refine ix_nat ?_) | (with_reducible refine ix_lit _ ?_) | (with_reducible refine ix_add 1 ?_) | (with_reducible refine ix_add 2 ?_) | refine sIx ?_ | refine opt_in rfl ?_ | refine br_f ?_ | refine sNum ?_ | refine num0_out ?_ | refine sDt ?_ | refine sDf ?_ | refine sNt ?_ | refine sNf ?_ | refine sBt ?_ | refine sBf ?_ | refine sOb ?_ | refine sRw ?_); try (conv => whnf)))
  refine pure_use h1 ?_
  ((try (conv => whnf)); repeat ((first | exact True.intro | refine br_t ?_ | (with_reducible refine ix_nat ?_) | (with_reducible refine ix_lit _ ?_) | (with_reducible refine ix_add 1 ?_) | (with_reducible refine ix_add 2 ?_) | refine sIx ?_ | refine opt_in rfl ?_ | refine br_f ?_ | refine sNum ?_ | refine num0_out ?_ | refine sDt ?_ | refine sDf ?_ | refine sNt ?_ | refine sNf ?_ | refine sBt ?_ | refine sBf ?_ | refine sOb ?_ | refine sRw ?_); try (conv => whnf)))
  refine pure_use h2 ?_
  ((try (conv => whnf)); repeat ((first | exact True.intro | refine br_t ?_ | (with_reducible refine ix_nat ?_) | (with_reducible refine ix_lit _ ?_) | (with_reducible refine ix_add 1 ?_) | (with_reducible refine ix_add 2 ?_) | refine sIx ?_ | refine opt_in rfl ?_ | refine br_f ?_ | refine sNum ?_ | refine num0_out ?_ | refine sDt ?_ | refine sDf ?_ | refine sNt ?_ | refine sNf ?_ | refine sBt ?_ | refine sBf ?_ | refine sOb ?_ | refine sRw ?_); try (conv => whnf)))
  refine loop_use [] [] h3 ?_ ?_
  · ((try (conv => whnf)); repeat ((first | exact True.intro | refine br_t ?_ | (with_reducible refine ix_nat ?_) | (with_reducible refine ix_lit _ ?_) | (with_reducible refine ix_add 1 ?_) | (with_reducible refine ix_add 2 ?_) | refine sIx ?_ | refine opt_in rfl ?_ | refine br_f ?_ | refine sNum ?_ | refine num0_out ?_ | refine sDt ?_ | refine sDf ?_ | refine sNt ?_ | refine sNf ?_ | refine sBt ?_ | refine sBf ?_ | refine sOb ?_ | refine sRw ?_); try (conv => whnf)))
  ((try (conv => whnf)); repeat ((first | exact True.intro | refine br_t ?_ | (with_reducible refine ix_nat ?_) | (with_reducible refine ix_lit _ ?_) | (with_reducible refine ix_add 1 ?_) | (with_reducible refine ix_add 2 ?_) | refine sIx ?_ | refine opt_in rfl ?_ | refine br_f ?_ | refine sNum ?_ | refine num0_out ?_ | refine sDt ?_ | refine sDf ?_ | refine sNt ?_ | refine sNf ?_ | refine sBt ?_ | refine sBf ?_ | refine sOb ?_ | refine sRw ?_); try (conv => whnf)))

/-- a table that is nil -/
theorem Code_nil (x : Int) : PCallTo Try.prog 8 [.lit (.pointer none), .int .i64 x] (.tup [.agg [.int .i64 0, .int .i64 0], .bool false]) := by
  refine pure_step Try.ESOK Try.func8 [] ?_ (by intro v hv; simp at hv; rcases hv with rfl | rfl <;> first | exact .lit _ | exact .int _ _) (.tup (by intro v hv; simp at hv; rcases hv with rfl | rfl <;> first | exact .bool _ | exact .agg (by intro v hv; simp at hv; subst hv; exact .int _ _)))
  ((try (conv => whnf)); repeat ((first | exact True.intro | refine br_t ?_ | (with_reducible refine ix_nat ?_) | (with_reducible refine ix_lit _ ?_) | (with_reducible refine ix_add 1 ?_) | (with_reducible refine ix_add 2 ?_) | refine sIx ?_ | refine opt_in rfl ?_ | refine br_f ?_ | refine sNum ?_ | refine num0_out ?_ | refine sDt ?_ | refine sDf ?_ | refine sNt ?_ | refine sNf ?_ | refine sBt ?_ | refine sBf ?_ | refine sOb ?_ | refine sRw ?_); try (conv => whnf)))

theorem Code_yes (cs : List (Nat × Nat)) (s : List Int) (hs : s.Nodup) (i : Nat) (hi : i < s.length) :
    CallTo Try.prog 8 [.ptr 0 0, .int .i64 (s.getD i 0)] (hpN 3 (tabO cs s)) (.tup [.agg (eBits (cs.getD i (0, 0))), .bool true]) (hpN 3 (tabO cs s)) := by
  have p1 := cEs_pure cs s s.length
  have p2 := sEs_pure cs s s.length
  have f1 : findME [3] [s.getD i 0] (cEs cs s s.length) 0 = some (some (0 + i, cE cs s i)) := findME_at _ _ _ _ _ _ (by simp [cEs, hi]) rfl (by simp [cE, intsEq]) fun k e' hk he => by
    simp only [cEs, List.getElem?_map] at he
    rw [List.getElem?_range (by omega)] at he
    simp only [Option.map_some, Option.some.injEq] at he
    subst he
    refine ⟨rfl, ?_⟩
    have : s.getD i 0 ≠ s.getD k 0 := fun e => by
      rw [List.getD_eq_getElem?_getD, List.getD_eq_getElem?_getD, List.getElem?_eq_getElem hi, List.getElem?_eq_getElem (by omega)] at e
      have := (List.getElem_inj hs).1 e; omega
    simp only [cE, intsEq, beq_eq_false_iff_ne.2 this]
  unfold tabO
  generalize cEs cs s s.length = es at *
  generalize sEs cs s s.length = fs at *
  refine call_step Try.ESOK Try.func8 [] [] ?_
  ((try (conv => whnf)); repeat ((first | exact True.intro | refine br_t ?_ | (with_reducible refine ix_nat ?_) | (with_reducible refine ix_lit _ ?_) | (with_reducible refine ix_add 1 ?_) | (with_reducible refine ix_add 2 ?_) | refine sIx ?_ | refine opt_in rfl ?_ | refine br_f ?_ | refine sNum ?_ | refine num0_out ?_ | refine sDt ?_ | refine sDf ?_ | refine sNt ?_ | refine sNf ?_ | refine sBt ?_ | refine sBf ?_ | refine sOb ?_ | refine sRw ?_); try (conv => whnf)))
  refine opt_in f1 ?_
  ((try (conv => whnf)); repeat ((first | exact True.intro | refine br_t ?_ | (with_reducible refine ix_nat ?_) | (with_reducible refine ix_lit _ ?_) | (with_reducible refine ix_add 1 ?_) | (with_reducible refine ix_add 2 ?_) | refine sIx ?_ | refine opt_in rfl ?_ | refine br_f ?_ | refine sNum ?_ | refine num0_out ?_ | refine sDt ?_ | refine sDf ?_ | refine sNt ?_ | refine sNf ?_ | refine sBt ?_ | refine sBf ?_ | refine sOb ?_ | refine sRw ?_); try (conv => whnf)))

theorem Code_no (cs : List (Nat × Nat)) (s : List Int) (x : Int) (hx : x ∉ s) :
    CallTo Try.prog 8 [.ptr 0 0, .int .i64 x] (hpN 3 (tabO cs s)) (.tup [.agg [.int .i64 0, .int .i64 0], .bool false]) (hpN 3 (tabO cs s)) := by
  have p1 := cEs_pure cs s s.length
  have p2 := sEs_pure cs s s.length
  have f1 : findME [3] [x] (cEs cs s s.length) 0 = some none := findME_none _ _ _ _ fun e he => by
    simp only [cEs, List.mem_map, List.mem_range] at he
    obtain ⟨k, hk, rfl⟩ := he
    refine ⟨rfl, ?_⟩
    have : x ≠ s.getD k 0 := fun e => hx (by rw [e, List.getD_eq_getElem?_getD, List.getElem?_eq_getElem hk]; simp)
    simp only [cE, intsEq, beq_eq_false_iff_ne.2 this]
  unfold tabO
  generalize cEs cs s s.length = es at *
  generalize sEs cs s s.length = fs at *
  refine call_step Try.ESOK Try.func8 [] [] ?_
  ((try (conv => whnf)); repeat ((first | exact True.intro | refine br_t ?_ | (with_reducible refine ix_nat ?_) | (with_reducible refine ix_lit _ ?_) | (with_reducible refine ix_add 1 ?_) | (with_reducible refine ix_add 2 ?_) | refine sIx ?_ | refine opt_in rfl ?_ | refine br_f ?_ | refine sNum ?_ | refine num0_out ?_ | refine sDt ?_ | refine sDf ?_ | refine sNt ?_ | refine sNf ?_ | refine sBt ?_ | refine sBf ?_ | refine sOb ?_ | refine sRw ?_); try (conv => whnf)))
  refine opt_in f1 ?_
  ((try (conv => whnf)); repeat ((first | exact True.intro | refine br_t ?_ | (with_reducible refine ix_nat ?_) | (with_reducible refine ix_lit _ ?_) | (with_reducible refine ix_add 1 ?_) | (with_reducible refine ix_add 2 ?_) | refine sIx ?_ | refine opt_in rfl ?_ | refine br_f ?_ | refine sNum ?_ | refine num0_out ?_ | refine sDt ?_ | refine sDf ?_ | refine sNt ?_ | refine sNf ?_ | refine sBt ?_ | refine sBf ?_ | refine sOb ?_ | refine sRw ?_); try (conv => whnf)))
end Go.Proofs
