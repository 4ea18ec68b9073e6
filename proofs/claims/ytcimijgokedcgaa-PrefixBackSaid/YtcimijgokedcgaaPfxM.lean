/- PfxM: a part of the proof of PrefixBack. Own work. -/
import Derived.Test.YtcimijgokedcgaaBitsT
set_option linter.unusedVariables false
set_option linter.unusedSimpArgs false
set_option linter.unusedSectionVars false
namespace Go.Proofs
open Go Go.Ab
set_option maxRecDepth 100000


def arrL (c : Nat → Int) : List V := [.int .i64 (c 0), .int .i64 (c 1), .int .i64 (c 2), .int .i64 (c 3), .int .i64 (c 4), .int .i64 (c 5), .int .i64 (c 6), .int .i64 (c 7), .int .i64 (c 8), .int .i64 (c 9), .int .i64 (c 10), .int .i64 (c 11), .int .i64 (c 12), .int .i64 (c 13), .int .i64 (c 14), .int .i64 (c 15)]
def huffL (c : Nat → Int) (s : List Int) : List V := [.int .i64 (c 0), .int .i64 (c 1), .int .i64 (c 2), .int .i64 (c 3), .int .i64 (c 4), .int .i64 (c 5), .int .i64 (c 6), .int .i64 (c 7), .int .i64 (c 8), .int .i64 (c 9), .int .i64 (c 10), .int .i64 (c 11), .int .i64 (c 12), .int .i64 (c 13), .int .i64 (c 14), .int .i64 (c 15), islI .i64 s]
def huffV (c : Nat → Int) (s : List Int) : V := .agg (huffL c s)

theorem nth16 (c : Nat → Int) (i : Nat) (hi : i < 16) : nthV (arrL c) (i * 1) = some (.int .i64 (c i)) := by
  unfold nthV arrL
  rw [Nat.mul_one]
  match i, hi with
  | 0, _ | 1, _ | 2, _ | 3, _ | 4, _ | 5, _ | 6, _ | 7, _ | 8, _ | 9, _ | 10, _ | 11, _ | 12, _ | 13, _ | 14, _ | 15, _ => rfl
  | n + 16, h => exact absurd h (by omega)

def sumTo (c : Nat → Int) : Nat → Int
  | 0 => 0
  | i + 1 => sumTo c i + c i * 2 ^ (15 - i)
def manyTo (c : Nat → Int) : Nat → Int
  | 0 => 0
  | i + 1 => manyTo c i + c i

def mayS (c : Nat → Int) (s : List Int) (i : Nat) (sum many : Int) : St :=
  stL [(1, .ptr 0 0), (2, .bool false), (11, .agg (arrL c)), (12, .int .i64 i), (3, .int .i64 sum), (4, .int .i64 many)] [(0, .cells (huffL c s))] 1

theorem may_round (c : Nat → Int) (s : List Int) (i : Nat) (hi : i < 16) (h0 : 0 ≤ c i) (h1 : c i ≤ 256) (sum many : Int) (hs : 0 ≤ sum ∧ sum ≤ 2 ^ 40) (hm : 0 ≤ many ∧ many ≤ 2 ^ 40) :
    CodeTo Try.prog Try.f17.ntmps (loopAt Try.f17 0) (mayS c s i sum many) .normal (mayS c s (i + 1) (sum + c i * 2 ^ (15 - i)) (many + c i)) := by
  have pu := eI_pure .i64
  have e15 : ((15 : Int) - (i : Int)).toNat = 15 - i := by omega
  have p15 : (2 : Int) ^ (15 - i) ≤ 2 ^ 15 := by
    have := Nat.pow_le_pow_right (n := 2) (by omega) (show 15 - i ≤ 15 by omega)
    exact_mod_cast this
  have p0 : (0 : Int) < 2 ^ (15 - i) := Int.pow_pos (by omega)
  have q1 : c i * 2 ^ (15 - i) ≤ 256 * 2 ^ 15 := Int.mul_le_mul h1 p15 (by omega) (by omega)
  have q0 : 0 ≤ c i * 2 ^ (15 - i) := Int.mul_nonneg h0 (by omega)
  have q2 : -9223372036854775808 ≤ c i * 2 ^ ((15 : Int) - (i : Int)).toNat ∧ c i * 2 ^ ((15 : Int) - (i : Int)).toNat ≤ 9223372036854775807 := by rw [e15]; omega
  have q3 : c i * 2 ^ (15 - i) = c i * 2 ^ ((15 : Int) - (i : Int)).toNat := by rw [e15]
  rw [q3] at q1 q0 ⊢
  refine code_step Try.ESOK [] [] ?_
  ((try (conv => whnf)); repeat ((first | exact True.intro | refine br_t ?_ | (with_reducible refine ix_nat ?_) | (with_reducible refine ix_lit _ ?_) | (with_reducible refine ix_add 1 ?_) | (with_reducible refine ix_add 2 ?_) | refine sIx ?_ | refine opt_in rfl ?_ | refine br_f ?_ | refine sNum ?_ | refine num0_out ?_ | refine sDt ?_ | refine sDf ?_ | refine sNt ?_ | refine sNf ?_ | refine sBt ?_ | refine sBf ?_ | refine sOb ?_ | refine sRw ?_); try (conv => whnf)))
  refine opt_in (nth16 c i hi) ?_
  ((try (conv => whnf)); repeat ((first | exact True.intro | refine br_t ?_ | (with_reducible refine ix_nat ?_) | (with_reducible refine ix_lit _ ?_) | (with_reducible refine ix_add 1 ?_) | (with_reducible refine ix_add 2 ?_) | refine sIx ?_ | refine opt_in rfl ?_ | refine br_f ?_ | refine sNum ?_ | refine num0_out ?_ | refine sDt ?_ | refine sDf ?_ | refine sNt ?_ | refine sNf ?_ | refine sBt ?_ | refine sBf ?_ | refine sOb ?_ | refine sRw ?_); try (conv => whnf)))

/-- a count that may not be -/
theorem may_bad (c : Nat → Int) (s : List Int) (i : Nat) (hi : i < 16) (h0 : c i < 0 ∨ 256 < c i) (sum many : Int) :
    CodeTo Try.prog Try.f17.ntmps (loopAt Try.f17 0) (mayS c s i sum many) .ret (stL [(2, .bool false)] [(0, .cells (huffL c s))] 1) := by
  have pu := eI_pure .i64
  rcases h0 with h0 | h0
  · refine code_step Try.ESOK [] [] ?_
    ((try (conv => whnf)); repeat ((first | exact True.intro | refine br_t ?_ | (with_reducible refine ix_nat ?_) | (with_reducible refine ix_lit _ ?_) | (with_reducible refine ix_add 1 ?_) | (with_reducible refine ix_add 2 ?_) | refine sIx ?_ | refine opt_in rfl ?_ | refine br_f ?_ | refine sNum ?_ | refine num0_out ?_ | refine sDt ?_ | refine sDf ?_ | refine sNt ?_ | refine sNf ?_ | refine sBt ?_ | refine sBf ?_ | refine sOb ?_ | refine sRw ?_); try (conv => whnf)))
    refine opt_in (nth16 c i hi) ?_
    ((try (conv => whnf)); repeat ((first | exact True.intro | refine br_t ?_ | (with_reducible refine ix_nat ?_) | (with_reducible refine ix_lit _ ?_) | (with_reducible refine ix_add 1 ?_) | (with_reducible refine ix_add 2 ?_) | refine sIx ?_ | refine opt_in rfl ?_ | refine br_f ?_ | refine sNum ?_ | refine num0_out ?_ | refine sDt ?_ | refine sDf ?_ | refine sNt ?_ | refine sNf ?_ | refine sBt ?_ | refine sBf ?_ | refine sOb ?_ | refine sRw ?_); try (conv => whnf)))
  · refine code_step Try.ESOK [] [] ?_
    ((try (conv => whnf)); repeat ((first | exact True.intro | refine br_t ?_ | (with_reducible refine ix_nat ?_) | (with_reducible refine ix_lit _ ?_) | (with_reducible refine ix_add 1 ?_) | (with_reducible refine ix_add 2 ?_) | refine sIx ?_ | refine opt_in rfl ?_ | refine br_f ?_ | refine sNum ?_ | refine num0_out ?_ | refine sDt ?_ | refine sDf ?_ | refine sNt ?_ | refine sNf ?_ | refine sBt ?_ | refine sBf ?_ | refine sOb ?_ | refine sRw ?_); try (conv => whnf)))
    refine opt_in (nth16 c i hi) ?_
    ((try (conv => whnf)); repeat ((first | exact True.intro | refine br_t ?_ | (with_reducible refine ix_nat ?_) | (with_reducible refine ix_lit _ ?_) | (with_reducible refine ix_add 1 ?_) | (with_reducible refine ix_add 2 ?_) | refine sIx ?_ | refine opt_in rfl ?_ | refine br_f ?_ | refine sNum ?_ | refine num0_out ?_ | refine sDt ?_ | refine sDf ?_ | refine sNt ?_ | refine sNf ?_ | refine sBt ?_ | refine sBf ?_ | refine sOb ?_ | refine sRw ?_); try (conv => whnf)))

def mE (j : Nat) (x : Int) : ME := ⟨[3], [x], .int .i64 1, j⟩
def mEs (l : List Int) : List ME := l.mapIdx mE
theorem mEs_snoc (l : List Int) (x : Int) : mEs (l ++ [x]) = mEs l ++ [⟨[3], [x], .int .i64 1, l.length⟩] := by simp [mEs, mE, List.mapIdx_append]
theorem findME_ne {x y : Int} (h : y ≠ x) {e : ME} (h1 : e.sig = [3]) (h2 : e.key = [y]) (es : List ME) (i : Nat) : findME [3] [x] (e :: es) i = findME [3] [x] es (i + 1) := by
  have e1 : natsEq [3] [3] = true := rfl
  have e2 : intsEq [x] [y] = false := by simp only [intsEq, beq_eq_false_iff_ne.2 (Ne.symm h)]
  simp only [findME, h1, h2, e1, e2]
theorem findME_eq {x : Int} {e : ME} (h1 : e.sig = [3]) (h2 : e.key = [x]) (es : List ME) (i : Nat) : findME [3] [x] (e :: es) i = some (some (i, e)) := by
  have e1 : natsEq [3] [3] = true := rfl
  have e2 : intsEq [x] [x] = true := by simp only [intsEq, beq_self_eq_true]
  simp only [findME, h1, h2, e1, e2]
theorem find_none (x : Int) : ∀ (es : List ME) (i : Nat), (∀ e ∈ es, e.sig = [3] ∧ ∃ y, e.key = [y] ∧ y ≠ x) → findME [3] [x] es i = some none := by
  intro es
  induction es with
  | nil => intro i _; rfl
  | cons e es ih =>
    intro i h
    obtain ⟨h1, y, h2, h3⟩ := h e (by simp)
    rw [findME_ne h3 h1 h2]
    exact ih (i + 1) fun e he => h e (by simp [he])
theorem find_app (x : Int) (b : ME) (hb : b.sig = [3] ∧ b.key = [x]) : ∀ (es : List ME) (i : Nat), (∀ e ∈ es, e.sig = [3] ∧ ∃ y, e.key = [y] ∧ y ≠ x) → findME [3] [x] (es ++ [b]) i = some (some (i + es.length, b)) := by
  intro es
  induction es with
  | nil => intro i _; exact findME_eq hb.1 hb.2 _ _
  | cons e es ih =>
    intro i h
    obtain ⟨h1, y, h2, h3⟩ := h e (by simp)
    rw [List.cons_append, findME_ne h3 h1 h2, ih (i + 1) fun e he => h e (by simp [he])]
    simp only [List.length_cons]
    rw [show i + 1 + es.length = i + (es.length + 1) by omega]
theorem mEs_ne {l : List Int} {x : Int} (hx : x ∉ l) : ∀ e ∈ mEs l, e.sig = [3] ∧ ∃ y, e.key = [y] ∧ y ≠ x := by
  intro e he
  simp only [mEs, List.mem_mapIdx] at he
  obtain ⟨i, hi, rfl⟩ := he
  exact ⟨rfl, l[i], rfl, fun h => hx (h ▸ List.getElem_mem hi)⟩
/-- a key that is there -/
theorem find_there {x : Int} : ∀ {es : List ME} (i : Nat), (∀ e ∈ es, e.sig = [3] ∧ ∃ y, e.key = [y]) → (∃ e ∈ es, e.key = [x]) → ∃ j e, findME [3] [x] es i = some (some (j, e)) ∧ e ∈ es ∧ e.key = [x] := by
  intro es
  induction es with
  | nil => intro i _ h; obtain ⟨e, he, _⟩ := h; simp at he
  | cons a es ih =>
    intro i h hx
    obtain ⟨h1, y, h2⟩ := h a (by simp)
    by_cases e : y = x
    · subst e; exact ⟨i, a, findME_eq h1 h2 _ _, by simp, h2⟩
    · rw [findME_ne e h1 h2]
      obtain ⟨j, e', q1, q2, q3⟩ := ih (i + 1) (fun e he => h e (by simp [he])) (by
        obtain ⟨b, hb, hk⟩ := hx
        simp only [List.mem_cons] at hb
        rcases hb with rfl | hb
        · rw [h2] at hk; exact absurd (by simpa using hk) e
        · exact ⟨b, hb, hk⟩)
      exact ⟨j, e', q1, by simp [q2], q3⟩

theorem mEs_pure (l : List Int) : ∀ e ∈ mEs l, Ab.Pure e.val := fun e he => by
  simp only [mEs, List.mem_mapIdx] at he; obtain ⟨_, _, rfl⟩ := he; exact .int _ _

def seenS (c : Nat → Int) (s : List Int) (i : Nat) (sum many : Int) : St :=
  stL [(1, .ptr 0 0), (2, .bool false), (34, islI .i64 s), (35, .int .i64 s.length), (36, .int .i64 i), (7, .map 2), (3, .int .i64 sum), (4, .int .i64 many)] [(0, .cells (huffL c s)), (2, .map (mEs (s.take i)) i)] 3

theorem seen_round (c : Nat → Int) (s : List Int) (hl : s.length ≤ 256) (i : Nat) (hi : i < s.length) (h0 : 0 ≤ s.getD i 0) (h1 : s.getD i 0 < 256) (hn : s.getD i 0 ∉ s.take i) (sum many : Int) :
    CodeTo Try.prog Try.f17.ntmps (loopAt Try.f17 1) (seenS c s i sum many) .normal (seenS c s (i + 1) sum many) := by
  have pu := eI_pure .i64
  have f1 := find_none (s.getD i 0) (mEs (s.take i)) 0 (mEs_ne hn)
  have f2 := find_app (s.getD i 0) ⟨[3], [s.getD i 0], .int .i64 1, i⟩ ⟨rfl, rfl⟩ (mEs (s.take i)) 0 (mEs_ne hn)
  have e1 : mEs (s.take (i + 1)) = mEs (s.take i) ++ [⟨[3], [s.getD i 0], .int .i64 1, i⟩] := by
    rw [take_snoc' s i hi, mEs_snoc]; simp; omega
  have hp : ∀ e ∈ mEs (s.take (i + 1)), Ab.Pure e.val := fun e he => by
    simp only [mEs, List.mem_mapIdx] at he; obtain ⟨_, _, rfl⟩ := he; exact .int _ _
  unfold seenS
  rw [e1] at hp ⊢
  generalize mEs (s.take i) = es at *
  refine code_step Try.ESOK [] [] ?_
  ((try (conv => whnf)); repeat ((first | exact True.intro | refine br_t ?_ | (with_reducible refine ix_nat ?_) | (with_reducible refine ix_lit _ ?_) | (with_reducible refine ix_add 1 ?_) | (with_reducible refine ix_add 2 ?_) | refine sIx ?_ | refine opt_in rfl ?_ | refine br_f ?_ | refine sNum ?_ | refine num0_out ?_ | refine sDt ?_ | refine sDf ?_ | refine sNt ?_ | refine sNf ?_ | refine sBt ?_ | refine sBf ?_ | refine sOb ?_ | refine sRw ?_); try (conv => whnf)))
  refine opt_in f1 ?_
  ((try (conv => whnf)); repeat ((first | exact True.intro | refine br_t ?_ | (with_reducible refine ix_nat ?_) | (with_reducible refine ix_lit _ ?_) | (with_reducible refine ix_add 1 ?_) | (with_reducible refine ix_add 2 ?_) | refine sIx ?_ | refine opt_in rfl ?_ | refine br_f ?_ | refine sNum ?_ | refine num0_out ?_ | refine sDt ?_ | refine sDf ?_ | refine sNt ?_ | refine sNf ?_ | refine sBt ?_ | refine sBf ?_ | refine sOb ?_ | refine sRw ?_); try (conv => whnf)))
  refine opt_in f1 ?_
  ((try (conv => whnf)); repeat ((first | exact True.intro | refine br_t ?_ | (with_reducible refine ix_nat ?_) | (with_reducible refine ix_lit _ ?_) | (with_reducible refine ix_add 1 ?_) | (with_reducible refine ix_add 2 ?_) | refine sIx ?_ | refine opt_in rfl ?_ | refine br_f ?_ | refine sNum ?_ | refine num0_out ?_ | refine sDt ?_ | refine sDf ?_ | refine sNt ?_ | refine sNf ?_ | refine sBt ?_ | refine sBf ?_ | refine sOb ?_ | refine sRw ?_); try (conv => whnf)))
  refine opt_in f2 ?_
  ((try (conv => whnf)); repeat ((first | exact True.intro | refine br_t ?_ | (with_reducible refine ix_nat ?_) | (with_reducible refine ix_lit _ ?_) | (with_reducible refine ix_add 1 ?_) | (with_reducible refine ix_add 2 ?_) | refine sIx ?_ | refine opt_in rfl ?_ | refine br_f ?_ | refine sNum ?_ | refine num0_out ?_ | refine sDt ?_ | refine sDf ?_ | refine sNt ?_ | refine sNf ?_ | refine sBt ?_ | refine sBf ?_ | refine sOb ?_ | refine sRw ?_); try (conv => whnf)))

theorem find_set (x : Int) (v : V) : ∀ {es : List ME} (i j : Nat) {e : ME}, (∀ e ∈ es, e.sig = [3] ∧ ∃ y, e.key = [y]) → findME [3] [x] es i = some (some (i + j, e)) → findME [3] [x] (setME j v es) i = some (some (i + j, { e with val := v })) := by
  intro es
  induction es with
  | nil => intro i j e _ h; simp [findME] at h
  | cons a es ih =>
    intro i j e hs h
    obtain ⟨h1, y, h2⟩ := hs a (by simp)
    by_cases hy : y = x
    · subst hy
      rw [findME_eq h1 h2] at h
      simp only [Option.some.injEq, Prod.mk.injEq] at h
      obtain ⟨hj, rfl⟩ := h
      have : j = 0 := by omega
      subst this
      exact findME_eq (e := { a with val := v }) h1 h2 _ _
    · rw [findME_ne hy h1 h2] at h
      cases j with
      | zero =>
        exfalso
        have : ∀ (es : List ME) (i : Nat) (p : Nat) (e : ME), findME [3] [x] es i = some (some (p, e)) → i ≤ p := by
          intro es
          induction es with
          | nil => intro i p e h; simp [findME] at h
          | cons b es ih2 =>
            intro i p e h
            simp only [findME] at h
            split at h
            · split at h
              · simp only [Option.some.injEq, Prod.mk.injEq] at h; omega
              · have := ih2 _ _ _ h; omega
            · cases h
        have := this _ _ _ _ h
        omega
      | succ j =>
        show findME [3] [x] (a :: setME j v es) i = _
        rw [findME_ne hy h1 h2, show i + (j + 1) = i + 1 + j by omega]
        exact ih (i + 1) j (fun e he => hs e (by simp [he])) (by rw [h]; rw [show i + (j + 1) = i + 1 + j by omega])

theorem mEs_keys (l : List Int) : ∀ e ∈ mEs l, e.sig = [3] ∧ ∃ y, e.key = [y] := by
  intro e he
  simp only [mEs, List.mem_mapIdx] at he
  obtain ⟨i, hi, rfl⟩ := he
  exact ⟨rfl, l[i], rfl⟩

theorem seen_bad (c : Nat → Int) (s : List Int) (hl : s.length ≤ 256) (i : Nat) (hi : i < s.length) (hprev : ∀ x ∈ s.take i, 0 ≤ x ∧ x < 256) (hbad : s.getD i 0 < 0 ∨ 256 ≤ s.getD i 0 ∨ s.getD i 0 ∈ s.take i) (sum many : Int) :
    ∃ es n, CodeTo Try.prog Try.f17.ntmps (loopAt Try.f17 1) (seenS c s i sum many) .ret (stL [(2, .bool false)] [(0, .cells (huffL c s)), (2, .map es n)] 3) := by
  have pu := eI_pure .i64
  by_cases hin : s.getD i 0 ∈ s.take i
  · obtain ⟨h0, h1⟩ := hprev _ hin
    obtain ⟨j, e, f1, f2, f3⟩ := find_there (x := s.getD i 0) (es := mEs (s.take i)) 0 (mEs_keys _) (by
      obtain ⟨k, hk, e⟩ := List.getElem_of_mem hin
      exact ⟨mE k (s.take i)[k], by simp only [mEs, List.mem_mapIdx]; exact ⟨k, hk, rfl⟩, by simp [mE, e]⟩)
    have hp : ∀ e ∈ mEs (s.take i), Ab.Pure e.val := fun e he => by
      simp only [mEs, List.mem_mapIdx] at he; obtain ⟨_, _, rfl⟩ := he; exact .int _ _
    have hset : ∀ (l : List ME) (j : Nat), (∀ e ∈ l, Ab.Pure e.val) → ∀ e ∈ setME j (.int .i64 2) l, Ab.Pure e.val := by
      intro l
      induction l with
      | nil => intro j h e he; cases j <;> simp [setME] at he
      | cons a l ih =>
        intro j h e he
        cases j with
        | zero =>
          simp only [setME, List.mem_cons] at he
          rcases he with rfl | he
          · exact .int _ _
          · exact h e (by simp [he])
        | succ j =>
          simp only [setME, List.mem_cons] at he
          rcases he with rfl | he
          · exact h _ (by simp)
          · exact ih j (fun e he => h e (by simp [he])) e he
    have hp2 := hset _ j hp
    simp only [mEs, List.mem_mapIdx] at f2
    obtain ⟨k, hk, rfl⟩ := f2
    have f4 := find_set (s.getD i 0) (.int .i64 2) 0 j (mEs_keys (s.take i)) (by rw [f1, Nat.zero_add])
    refine ⟨setME j (.int .i64 2) (mEs (s.take i)), i, ?_⟩
    unfold seenS
    generalize mEs (s.take i) = es at *
    generalize (s.take i)[k] = y at *
    refine code_step Try.ESOK [] [] ?_
    ((try (conv => whnf)); repeat ((first | exact True.intro | refine br_t ?_ | (with_reducible refine ix_nat ?_) | (with_reducible refine ix_lit _ ?_) | (with_reducible refine ix_add 1 ?_) | (with_reducible refine ix_add 2 ?_) | refine sIx ?_ | refine opt_in rfl ?_ | refine br_f ?_ | refine sNum ?_ | refine num0_out ?_ | refine sDt ?_ | refine sDf ?_ | refine sNt ?_ | refine sNf ?_ | refine sBt ?_ | refine sBf ?_ | refine sOb ?_ | refine sRw ?_); try (conv => whnf)))
    refine opt_in f1 ?_
    ((try (conv => whnf)); repeat ((first | exact True.intro | refine br_t ?_ | (with_reducible refine ix_nat ?_) | (with_reducible refine ix_lit _ ?_) | (with_reducible refine ix_add 1 ?_) | (with_reducible refine ix_add 2 ?_) | refine sIx ?_ | refine opt_in rfl ?_ | refine br_f ?_ | refine sNum ?_ | refine num0_out ?_ | refine sDt ?_ | refine sDf ?_ | refine sNt ?_ | refine sNf ?_ | refine sBt ?_ | refine sBf ?_ | refine sOb ?_ | refine sRw ?_); try (conv => whnf)))
    refine opt_in f1 ?_
    ((try (conv => whnf)); repeat ((first | exact True.intro | refine br_t ?_ | (with_reducible refine ix_nat ?_) | (with_reducible refine ix_lit _ ?_) | (with_reducible refine ix_add 1 ?_) | (with_reducible refine ix_add 2 ?_) | refine sIx ?_ | refine opt_in rfl ?_ | refine br_f ?_ | refine sNum ?_ | refine num0_out ?_ | refine sDt ?_ | refine sDf ?_ | refine sNt ?_ | refine sNf ?_ | refine sBt ?_ | refine sBf ?_ | refine sOb ?_ | refine sRw ?_); try (conv => whnf)))
    refine opt_in f4 ?_
    ((try (conv => whnf)); repeat ((first | exact True.intro | refine br_t ?_ | (with_reducible refine ix_nat ?_) | (with_reducible refine ix_lit _ ?_) | (with_reducible refine ix_add 1 ?_) | (with_reducible refine ix_add 2 ?_) | refine sIx ?_ | refine opt_in rfl ?_ | refine br_f ?_ | refine sNum ?_ | refine num0_out ?_ | refine sDt ?_ | refine sDf ?_ | refine sNt ?_ | refine sNf ?_ | refine sBt ?_ | refine sBf ?_ | refine sOb ?_ | refine sRw ?_); try (conv => whnf)))
  · have hb2 : s.getD i 0 < 0 ∨ 256 ≤ s.getD i 0 := by rcases hbad with h | h | h <;> first | exact .inl h | exact .inr h | exact absurd h hin
    have f1 := find_none (s.getD i 0) (mEs (s.take i)) 0 (mEs_ne hin)
    have hp : ∀ e ∈ mEs (s.take i) ++ [⟨[3], [s.getD i 0], .int .i64 1, i⟩], Ab.Pure e.val := fun e he => by
      simp only [List.mem_append, List.mem_cons, List.not_mem_nil, or_false, mEs, List.mem_mapIdx] at he
      rcases he with ⟨_, _, rfl⟩ | rfl <;> exact .int _ _
    refine ⟨mEs (s.take i) ++ [⟨[3], [s.getD i 0], .int .i64 1, i⟩], i + 1, ?_⟩
    unfold seenS
    generalize mEs (s.take i) = es at *
    rcases hb2 with h | h
    · refine code_step Try.ESOK [] [] ?_
      ((try (conv => whnf)); repeat ((first | exact True.intro | refine br_t ?_ | (with_reducible refine ix_nat ?_) | (with_reducible refine ix_lit _ ?_) | (with_reducible refine ix_add 1 ?_) | (with_reducible refine ix_add 2 ?_) | refine sIx ?_ | refine opt_in rfl ?_ | refine br_f ?_ | refine sNum ?_ | refine num0_out ?_ | refine sDt ?_ | refine sDf ?_ | refine sNt ?_ | refine sNf ?_ | refine sBt ?_ | refine sBf ?_ | refine sOb ?_ | refine sRw ?_); try (conv => whnf)))
      refine opt_in f1 ?_
      ((try (conv => whnf)); repeat ((first | exact True.intro | refine br_t ?_ | (with_reducible refine ix_nat ?_) | (with_reducible refine ix_lit _ ?_) | (with_reducible refine ix_add 1 ?_) | (with_reducible refine ix_add 2 ?_) | refine sIx ?_ | refine opt_in rfl ?_ | refine br_f ?_ | refine sNum ?_ | refine num0_out ?_ | refine sDt ?_ | refine sDf ?_ | refine sNt ?_ | refine sNf ?_ | refine sBt ?_ | refine sBf ?_ | refine sOb ?_ | refine sRw ?_); try (conv => whnf)))
      refine opt_in f1 ?_
      ((try (conv => whnf)); repeat ((first | exact True.intro | refine br_t ?_ | (with_reducible refine ix_nat ?_) | (with_reducible refine ix_lit _ ?_) | (with_reducible refine ix_add 1 ?_) | (with_reducible refine ix_add 2 ?_) | refine sIx ?_ | refine opt_in rfl ?_ | refine br_f ?_ | refine sNum ?_ | refine num0_out ?_ | refine sDt ?_ | refine sDf ?_ | refine sNt ?_ | refine sNf ?_ | refine sBt ?_ | refine sBf ?_ | refine sOb ?_ | refine sRw ?_); try (conv => whnf)))
    · refine code_step Try.ESOK [] [] ?_
      ((try (conv => whnf)); repeat ((first | exact True.intro | refine br_t ?_ | (with_reducible refine ix_nat ?_) | (with_reducible refine ix_lit _ ?_) | (with_reducible refine ix_add 1 ?_) | (with_reducible refine ix_add 2 ?_) | refine sIx ?_ | refine opt_in rfl ?_ | refine br_f ?_ | refine sNum ?_ | refine num0_out ?_ | refine sDt ?_ | refine sDf ?_ | refine sNt ?_ | refine sNf ?_ | refine sBt ?_ | refine sBf ?_ | refine sOb ?_ | refine sRw ?_); try (conv => whnf)))
      refine opt_in f1 ?_
      ((try (conv => whnf)); repeat ((first | exact True.intro | refine br_t ?_ | (with_reducible refine ix_nat ?_) | (with_reducible refine ix_lit _ ?_) | (with_reducible refine ix_add 1 ?_) | (with_reducible refine ix_add 2 ?_) | refine sIx ?_ | refine opt_in rfl ?_ | refine br_f ?_ | refine sNum ?_ | refine num0_out ?_ | refine sDt ?_ | refine sDf ?_ | refine sNt ?_ | refine sNf ?_ | refine sBt ?_ | refine sBf ?_ | refine sOb ?_ | refine sRw ?_); try (conv => whnf)))
      refine opt_in f1 ?_
      ((try (conv => whnf)); repeat ((first | exact True.intro | refine br_t ?_ | (with_reducible refine ix_nat ?_) | (with_reducible refine ix_lit _ ?_) | (with_reducible refine ix_add 1 ?_) | (with_reducible refine ix_add 2 ?_) | refine sIx ?_ | refine opt_in rfl ?_ | refine br_f ?_ | refine sNum ?_ | refine num0_out ?_ | refine sDt ?_ | refine sDf ?_ | refine sNt ?_ | refine sNf ?_ | refine sBt ?_ | refine sBf ?_ | refine sOb ?_ | refine sRw ?_); try (conv => whnf)))

def countOK (c : Nat → Int) : Prop := ∀ i, i < 16 → 0 ≤ c i ∧ c i ≤ 256

theorem sum_bd {c : Nat → Int} (hc : countOK c) : ∀ i, i ≤ 16 → (0 ≤ sumTo c i ∧ sumTo c i ≤ 8388608 * i) ∧ 0 ≤ manyTo c i ∧ manyTo c i ≤ 256 * i := by
  intro i
  induction i with
  | zero => intro _; simp [sumTo, manyTo]
  | succ i ih =>
    intro hi
    obtain ⟨⟨a, b⟩, d, e⟩ := ih (by omega)
    obtain ⟨h0, h1⟩ := hc i (by omega)
    have p15 : (2 : Int) ^ (15 - i) ≤ 2 ^ 15 := by
      have := Nat.pow_le_pow_right (n := 2) (by omega) (show 15 - i ≤ 15 by omega)
      exact_mod_cast this
    have p0 : (0 : Int) < 2 ^ (15 - i) := Int.pow_pos (by omega)
    have q1 : c i * 2 ^ (15 - i) ≤ 256 * 2 ^ 15 := Int.mul_le_mul h1 p15 (by omega) (by omega)
    have q0 : 0 ≤ c i * 2 ^ (15 - i) := Int.mul_nonneg h0 (by omega)
    simp only [sumTo, manyTo]
    generalize c i * 2 ^ (15 - i) = z at *
    omega

theorem may_loop0 (c : Nat → Int) (s : List Int) (hc : countOK c) : LoopTo Try.prog Try.f17.ntmps (loopAt Try.f17 0) (mayS c s 0 0 0) (.exit 0) (mayS c s 16 (sumTo c 16) (manyTo c 16)) := by
  have key := loop_of (P := Try.prog) (fs := Try.f17.ntmps) (cd := loopAt Try.f17 0) (S := fun i => mayS c s i (sumTo c i) (manyTo c i)) (n := 16) (e := .exit 0)
    (s' := mayS c s 16 (sumTo c 16) (manyTo c 16)) (by simp)
    (fun i hi => by
      obtain ⟨b1, b2⟩ := sum_bd hc i (by omega)
      exact may_round c s i hi (hc i hi).1 (hc i hi).2 _ _ (by omega) (by omega))
    (by
      have pu := eI_pure .i64
      generalize sumTo c 16 = su
      generalize manyTo c 16 = ma
      refine code_step Try.ESOK [] [] ?_
      ((try (conv => whnf)); repeat ((first | exact True.intro | refine br_t ?_ | (with_reducible refine ix_nat ?_) | (with_reducible refine ix_lit _ ?_) | (with_reducible refine ix_add 1 ?_) | (with_reducible refine ix_add 2 ?_) | refine sIx ?_ | refine opt_in rfl ?_ | refine br_f ?_ | refine sNum ?_ | refine num0_out ?_ | refine sDt ?_ | refine sDf ?_ | refine sNt ?_ | refine sNf ?_ | refine sBt ?_ | refine sBf ?_ | refine sOb ?_ | refine sRw ?_); try (conv => whnf)))) 0 (by omega)
  exact key

def symOK (s : List Int) : Prop := (∀ x ∈ s, 0 ≤ x ∧ x < 256) ∧ s.Nodup

theorem nodup_take {s : List Int} (h : s.Nodup) {i : Nat} (hi : i < s.length) : s.getD i 0 ∉ s.take i := by
  intro hm
  obtain ⟨j, hj, e⟩ := List.getElem_of_mem hm
  have hj' : j < i := by simp at hj; omega
  rw [List.getElem_take, List.getD_eq_getElem?_getD, List.getElem?_eq_getElem hi] at e
  have := (List.getElem_inj h).1 e
  omega

theorem may_loop1 (c : Nat → Int) (s : List Int) (hl : s.length ≤ 256) (hs : symOK s) (sum many : Int) : LoopTo Try.prog Try.f17.ntmps (loopAt Try.f17 1) (seenS c s 0 sum many) (.exit 2) (seenS c s s.length sum many) := by
  have key := loop_of (P := Try.prog) (fs := Try.f17.ntmps) (cd := loopAt Try.f17 1) (S := fun i => seenS c s i sum many) (n := s.length) (e := .exit 2)
    (s' := seenS c s s.length sum many) (by simp)
    (fun i hi => by
      have hm : s.getD i 0 ∈ s := by rw [List.getD_eq_getElem?_getD, List.getElem?_eq_getElem hi]; simp
      exact seen_round c s hl i hi (hs.1 _ hm).1 (hs.1 _ hm).2 (nodup_take hs.2 hi) sum many)
    (by
      have pu := eI_pure .i64
      have hp : ∀ e ∈ mEs (s.take s.length), Ab.Pure e.val := fun e he => by
        simp only [mEs, List.mem_mapIdx] at he; obtain ⟨_, _, rfl⟩ := he; exact .int _ _
      unfold seenS
      generalize mEs (s.take s.length) = es at *
      refine code_step Try.ESOK [] [] ?_
      ((try (conv => whnf)); repeat ((first | exact True.intro | refine br_t ?_ | (with_reducible refine ix_nat ?_) | (with_reducible refine ix_lit _ ?_) | (with_reducible refine ix_add 1 ?_) | (with_reducible refine ix_add 2 ?_) | refine sIx ?_ | refine opt_in rfl ?_ | refine br_f ?_ | refine sNum ?_ | refine num0_out ?_ | refine sDt ?_ | refine sDf ?_ | refine sNt ?_ | refine sNf ?_ | refine sBt ?_ | refine sBf ?_ | refine sOb ?_ | refine sRw ?_); try (conv => whnf)))) 0 (Nat.zero_le _)
  exact key

theorem huff_pure (c : Nat → Int) (s : List Int) : Ab.Pure (huffV c s) := by
  refine .agg fun v hv => ?_
  simp only [huffL, List.mem_cons, List.not_mem_nil, or_false] at hv
  rcases hv with rfl | rfl | rfl | rfl | rfl | rfl | rfl | rfl | rfl | rfl | rfl | rfl | rfl | rfl | rfl | rfl | rfl <;> first | exact .int _ _ | exact islI_pure _ _

theorem May_yes (c : Nat → Int) (s : List Int) (hl : s.length ≤ 256) (hc : countOK c) (hs : symOK s) (h1 : manyTo c 16 = s.length) (h2 : 0 < manyTo c 16) (h3 : sumTo c 16 < 65536) :
    PCallTo Try.prog 17 [huffV c s] (.bool true) := by
  have pu := eI_pure .i64
  have l0 := may_loop0 c s hc
  have l1 := may_loop1 c s hl hs (sumTo c 16) (manyTo c 16)
  generalize sumTo c 16 = su at *
  generalize manyTo c 16 = ma at *
  refine pure_step Try.ESOK Try.func17 [] ?_ (by intro v hv; simp at hv; subst hv; exact huff_pure _ _) (.bool _)
  ((try (conv => whnf)); repeat ((first | exact True.intro | refine br_t ?_ | (with_reducible refine ix_nat ?_) | (with_reducible refine ix_lit _ ?_) | (with_reducible refine ix_add 1 ?_) | (with_reducible refine ix_add 2 ?_) | refine sIx ?_ | refine opt_in rfl ?_ | refine br_f ?_ | refine sNum ?_ | refine num0_out ?_ | refine sDt ?_ | refine sDf ?_ | refine sNt ?_ | refine sNf ?_ | refine sBt ?_ | refine sBf ?_ | refine sOb ?_ | refine sRw ?_); try (conv => whnf)))
  refine loop_use [] [] l0 ?_ ?_
  · ((try (conv => whnf)); repeat ((first | exact True.intro | refine br_t ?_ | (with_reducible refine ix_nat ?_) | (with_reducible refine ix_lit _ ?_) | (with_reducible refine ix_add 1 ?_) | (with_reducible refine ix_add 2 ?_) | refine sIx ?_ | refine opt_in rfl ?_ | refine br_f ?_ | refine sNum ?_ | refine num0_out ?_ | refine sDt ?_ | refine sDf ?_ | refine sNt ?_ | refine sNf ?_ | refine sBt ?_ | refine sBf ?_ | refine sOb ?_ | refine sRw ?_); try (conv => whnf)))
  ((try (conv => whnf)); repeat ((first | exact True.intro | refine br_t ?_ | (with_reducible refine ix_nat ?_) | (with_reducible refine ix_lit _ ?_) | (with_reducible refine ix_add 1 ?_) | (with_reducible refine ix_add 2 ?_) | refine sIx ?_ | refine opt_in rfl ?_ | refine br_f ?_ | refine sNum ?_ | refine num0_out ?_ | refine sDt ?_ | refine sDf ?_ | refine sNt ?_ | refine sNf ?_ | refine sBt ?_ | refine sBf ?_ | refine sOb ?_ | refine sRw ?_); try (conv => whnf)))
  have hp0 := mEs_pure (s.take 0)
  refine loop_use [] [] l1 ?_ ?_
  · ((try (conv => whnf)); repeat ((first | exact True.intro | refine br_t ?_ | (with_reducible refine ix_nat ?_) | (with_reducible refine ix_lit _ ?_) | (with_reducible refine ix_add 1 ?_) | (with_reducible refine ix_add 2 ?_) | refine sIx ?_ | refine opt_in rfl ?_ | refine br_f ?_ | refine sNum ?_ | refine num0_out ?_ | refine sDt ?_ | refine sDf ?_ | refine sNt ?_ | refine sNf ?_ | refine sBt ?_ | refine sBf ?_ | refine sOb ?_ | refine sRw ?_); try (conv => whnf)))
  ((try (conv => whnf)); repeat ((first | exact True.intro | refine br_t ?_ | (with_reducible refine ix_nat ?_) | (with_reducible refine ix_lit _ ?_) | (with_reducible refine ix_add 1 ?_) | (with_reducible refine ix_add 2 ?_) | refine sIx ?_ | refine opt_in rfl ?_ | refine br_f ?_ | refine sNum ?_ | refine num0_out ?_ | refine sDt ?_ | refine sDf ?_ | refine sNt ?_ | refine sNf ?_ | refine sBt ?_ | refine sBf ?_ | refine sOb ?_ | refine sRw ?_); try (conv => whnf)))

theorem may_first (c : Nat → Int) (h : ¬ countOK c) : ∃ i, i < 16 ∧ (∀ k, k < i → 0 ≤ c k ∧ c k ≤ 256) ∧ (c i < 0 ∨ 256 < c i) := by
  have key : ∀ n, (∀ k, k < n → 0 ≤ c k ∧ c k ≤ 256) ∨ ∃ i, i < n ∧ (∀ k, k < i → 0 ≤ c k ∧ c k ≤ 256) ∧ (c i < 0 ∨ 256 < c i) := by
    intro n
    induction n with
    | zero => exact .inl fun k hk => by omega
    | succ n ih =>
      rcases ih with ih | ⟨i, h1, h2, h3⟩
      · by_cases hn : 0 ≤ c n ∧ c n ≤ 256
        · exact .inl fun k hk => by
            by_cases e : k = n
            · subst e; exact hn
            · exact ih k (by omega)
        · exact .inr ⟨n, by omega, ih, by omega⟩
      · exact .inr ⟨i, by omega, h2, h3⟩
  rcases key 16 with h' | ⟨i, h1, h2, h3⟩
  · exact absurd (fun i hi => h' i hi) h
  · exact ⟨i, h1, h2, h3⟩

theorem sum_bd' {c : Nat → Int} (n : Nat) (hn : n ≤ 16) (hc : ∀ k, k < n → 0 ≤ c k ∧ c k ≤ 256) : ∀ i, i ≤ n → (0 ≤ sumTo c i ∧ sumTo c i ≤ 8388608 * i) ∧ 0 ≤ manyTo c i ∧ manyTo c i ≤ 256 * i := by
  intro i hi
  have h := sum_bd (c := fun k => if k < n then c k else 0) (fun k hk => by by_cases e : k < n <;> simp [e]; exact hc k e) i (by omega)
  have e : ∀ j, j ≤ n → sumTo (fun k => if k < n then c k else 0) j = sumTo c j ∧ manyTo (fun k => if k < n then c k else 0) j = manyTo c j := by
    intro j
    induction j with
    | zero => intro _; exact ⟨rfl, rfl⟩
    | succ j ih => intro hj; obtain ⟨a, b⟩ := ih (by omega); simp only [sumTo, manyTo, a, b, show j < n by omega, if_true]; exact ⟨trivial, trivial⟩
  rw [(e i hi).1, (e i hi).2] at h
  exact h

theorem May_no0 (c : Nat → Int) (s : List Int) (h : ¬ countOK c) : PCallTo Try.prog 17 [huffV c s] (.bool false) := by
  have pu := eI_pure .i64
  obtain ⟨n, hn, hlt, hbad⟩ := may_first c h
  have l0 := loop_of (P := Try.prog) (fs := Try.f17.ntmps) (cd := loopAt Try.f17 0) (S := fun i => mayS c s i (sumTo c i) (manyTo c i)) (n := n) (e := .ret)
    (s' := stL [(2, .bool false)] [(0, .cells (huffL c s))] 1) (by simp)
    (fun i hi => by
      obtain ⟨b1, b2⟩ := sum_bd' n (by omega) hlt i (by omega)
      exact may_round c s i (by omega) (hlt i hi).1 (hlt i hi).2 _ _ (by omega) (by omega))
    (may_bad c s n hn hbad _ _) 0 (Nat.zero_le _)
  refine pure_step Try.ESOK Try.func17 [] ?_ (by intro v hv; simp at hv; subst hv; exact huff_pure _ _) (.bool _)
  ((try (conv => whnf)); repeat ((first | exact True.intro | refine br_t ?_ | (with_reducible refine ix_nat ?_) | (with_reducible refine ix_lit _ ?_) | (with_reducible refine ix_add 1 ?_) | (with_reducible refine ix_add 2 ?_) | refine sIx ?_ | refine opt_in rfl ?_ | refine br_f ?_ | refine sNum ?_ | refine num0_out ?_ | refine sDt ?_ | refine sDf ?_ | refine sNt ?_ | refine sNf ?_ | refine sBt ?_ | refine sBf ?_ | refine sOb ?_ | refine sRw ?_); try (conv => whnf)))
  refine loop_use [] [] l0 ?_ ?_
  · ((try (conv => whnf)); repeat ((first | exact True.intro | refine br_t ?_ | (with_reducible refine ix_nat ?_) | (with_reducible refine ix_lit _ ?_) | (with_reducible refine ix_add 1 ?_) | (with_reducible refine ix_add 2 ?_) | refine sIx ?_ | refine opt_in rfl ?_ | refine br_f ?_ | refine sNum ?_ | refine num0_out ?_ | refine sDt ?_ | refine sDf ?_ | refine sNt ?_ | refine sNf ?_ | refine sBt ?_ | refine sBf ?_ | refine sOb ?_ | refine sRw ?_); try (conv => whnf)))
  ((try (conv => whnf)); repeat ((first | exact True.intro | refine br_t ?_ | (with_reducible refine ix_nat ?_) | (with_reducible refine ix_lit _ ?_) | (with_reducible refine ix_add 1 ?_) | (with_reducible refine ix_add 2 ?_) | refine sIx ?_ | refine opt_in rfl ?_ | refine br_f ?_ | refine sNum ?_ | refine num0_out ?_ | refine sDt ?_ | refine sDf ?_ | refine sNt ?_ | refine sNf ?_ | refine sBt ?_ | refine sBf ?_ | refine sOb ?_ | refine sRw ?_); try (conv => whnf)))

theorem sym_first (s : List Int) (h : ¬ symOK s) : ∃ i, i < s.length ∧ (∀ k, k < i → 0 ≤ s.getD k 0 ∧ s.getD k 0 < 256 ∧ s.getD k 0 ∉ s.take k) ∧ (s.getD i 0 < 0 ∨ 256 ≤ s.getD i 0 ∨ s.getD i 0 ∈ s.take i) := by
  have key : ∀ n, n ≤ s.length → (∀ k, k < n → 0 ≤ s.getD k 0 ∧ s.getD k 0 < 256 ∧ s.getD k 0 ∉ s.take k) ∨
      ∃ i, i < n ∧ (∀ k, k < i → 0 ≤ s.getD k 0 ∧ s.getD k 0 < 256 ∧ s.getD k 0 ∉ s.take k) ∧ (s.getD i 0 < 0 ∨ 256 ≤ s.getD i 0 ∨ s.getD i 0 ∈ s.take i) := by
    intro n
    induction n with
    | zero => intro _; exact .inl fun k hk => by omega
    | succ n ih =>
      intro hl
      rcases ih (by omega) with ih | ⟨i, h1, h2, h3⟩
      · by_cases hm : s.getD n 0 ∈ s.take n
        · exact .inr ⟨n, by omega, ih, .inr (.inr hm)⟩
        · by_cases hn : 0 ≤ s.getD n 0 ∧ s.getD n 0 < 256
          · exact .inl fun k hk => by
              by_cases e : k = n
              · subst e; exact ⟨hn.1, hn.2, hm⟩
              · exact ih k (by omega)
          · exact .inr ⟨n, by omega, ih, by omega⟩
      · exact .inr ⟨i, by omega, h2, h3⟩
  rcases key s.length (Nat.le_refl _) with h' | ⟨i, h1, h2, h3⟩
  · exfalso
    refine h ⟨fun x hx => ?_, ?_⟩
    · obtain ⟨k, hk, rfl⟩ := List.getElem_of_mem hx
      have := h' k hk
      rw [List.getD_eq_getElem?_getD, List.getElem?_eq_getElem hk] at this
      exact ⟨this.1, this.2.1⟩
    · rw [List.nodup_iff_pairwise_ne, List.pairwise_iff_getElem]
      intro i j hi hj hij e
      have := (h' j hj).2.2
      rw [List.getD_eq_getElem?_getD, List.getElem?_eq_getElem hj] at this
      refine this ?_
      simp only [Option.getD_some]
      rw [← e]
      exact List.mem_take_iff_getElem.2 ⟨i, by omega, rfl⟩
  · exact ⟨i, h1, h2, h3⟩

theorem May_no1 (c : Nat → Int) (s : List Int) (hl : s.length ≤ 256) (hc : countOK c) (h : ¬ symOK s) : PCallTo Try.prog 17 [huffV c s] (.bool false) := by
  have pu := eI_pure .i64
  have l0 := may_loop0 c s hc
  obtain ⟨n, hn, hlt, hbad⟩ := sym_first s h
  have hprev : ∀ x ∈ s.take n, 0 ≤ x ∧ x < 256 := fun x hx => by
    obtain ⟨k, hk, rfl⟩ := List.getElem_of_mem hx
    have hk' : k < n := by simp at hk; omega
    have := hlt k hk'
    rw [List.getD_eq_getElem?_getD, List.getElem?_eq_getElem (by omega)] at this
    rw [List.getElem_take]
    exact ⟨this.1, this.2.1⟩
  obtain ⟨es, m, hb⟩ := seen_bad c s hl n hn hprev hbad (sumTo c 16) (manyTo c 16)
  have l1 := loop_of (P := Try.prog) (fs := Try.f17.ntmps) (cd := loopAt Try.f17 1) (S := fun i => seenS c s i (sumTo c 16) (manyTo c 16)) (n := n) (e := .ret)
    (s' := stL [(2, .bool false)] [(0, .cells (huffL c s)), (2, .map es m)] 3) (by simp)
    (fun i hi => seen_round c s hl i (by omega) (hlt i hi).1 (hlt i hi).2.1 (hlt i hi).2.2 _ _)
    hb 0 (Nat.zero_le _)
  generalize sumTo c 16 = su at *
  generalize manyTo c 16 = ma at *
  refine pure_step Try.ESOK Try.func17 [] ?_ (by intro v hv; simp at hv; subst hv; exact huff_pure _ _) (.bool _)
  ((try (conv => whnf)); repeat ((first | exact True.intro | refine br_t ?_ | (with_reducible refine ix_nat ?_) | (with_reducible refine ix_lit _ ?_) | (with_reducible refine ix_add 1 ?_) | (with_reducible refine ix_add 2 ?_) | refine sIx ?_ | refine opt_in rfl ?_ | refine br_f ?_ | refine sNum ?_ | refine num0_out ?_ | refine sDt ?_ | refine sDf ?_ | refine sNt ?_ | refine sNf ?_ | refine sBt ?_ | refine sBf ?_ | refine sOb ?_ | refine sRw ?_); try (conv => whnf)))
  refine loop_use [] [] l0 ?_ ?_
  · ((try (conv => whnf)); repeat ((first | exact True.intro | refine br_t ?_ | (with_reducible refine ix_nat ?_) | (with_reducible refine ix_lit _ ?_) | (with_reducible refine ix_add 1 ?_) | (with_reducible refine ix_add 2 ?_) | refine sIx ?_ | refine opt_in rfl ?_ | refine br_f ?_ | refine sNum ?_ | refine num0_out ?_ | refine sDt ?_ | refine sDf ?_ | refine sNt ?_ | refine sNf ?_ | refine sBt ?_ | refine sBf ?_ | refine sOb ?_ | refine sRw ?_); try (conv => whnf)))
  ((try (conv => whnf)); repeat ((first | exact True.intro | refine br_t ?_ | (with_reducible refine ix_nat ?_) | (with_reducible refine ix_lit _ ?_) | (with_reducible refine ix_add 1 ?_) | (with_reducible refine ix_add 2 ?_) | refine sIx ?_ | refine opt_in rfl ?_ | refine br_f ?_ | refine sNum ?_ | refine num0_out ?_ | refine sDt ?_ | refine sDf ?_ | refine sNt ?_ | refine sNf ?_ | refine sBt ?_ | refine sBf ?_ | refine sOb ?_ | refine sRw ?_); try (conv => whnf)))
  have hp0 := mEs_pure (s.take 0)
  refine loop_use [] [] l1 ?_ ?_
  · ((try (conv => whnf)); repeat ((first | exact True.intro | refine br_t ?_ | (with_reducible refine ix_nat ?_) | (with_reducible refine ix_lit _ ?_) | (with_reducible refine ix_add 1 ?_) | (with_reducible refine ix_add 2 ?_) | refine sIx ?_ | refine opt_in rfl ?_ | refine br_f ?_ | refine sNum ?_ | refine num0_out ?_ | refine sDt ?_ | refine sDf ?_ | refine sNt ?_ | refine sNf ?_ | refine sBt ?_ | refine sBf ?_ | refine sOb ?_ | refine sRw ?_); try (conv => whnf)))
  ((try (conv => whnf)); repeat ((first | exact True.intro | refine br_t ?_ | (with_reducible refine ix_nat ?_) | (with_reducible refine ix_lit _ ?_) | (with_reducible refine ix_add 1 ?_) | (with_reducible refine ix_add 2 ?_) | refine sIx ?_ | refine opt_in rfl ?_ | refine br_f ?_ | refine sNum ?_ | refine num0_out ?_ | refine sDt ?_ | refine sDf ?_ | refine sNt ?_ | refine sNf ?_ | refine sBt ?_ | refine sBf ?_ | refine sOb ?_ | refine sRw ?_); try (conv => whnf)))

theorem May_no2 (c : Nat → Int) (s : List Int) (hl : s.length ≤ 256) (hc : countOK c) (hs : symOK s) (h1 : ¬ (manyTo c 16 = s.length ∧ 0 < manyTo c 16 ∧ sumTo c 16 < 65536)) :
    PCallTo Try.prog 17 [huffV c s] (.bool false) := by
  have pu := eI_pure .i64
  have l0 := may_loop0 c s hc
  have l1 := may_loop1 c s hl hs (sumTo c 16) (manyTo c 16)
  generalize sumTo c 16 = su at *
  generalize manyTo c 16 = ma at *
  by_cases a1 : ma = s.length
  · by_cases a2 : 0 < ma
    · refine pure_step Try.ESOK Try.func17 [] ?_ (by intro v hv; simp at hv; subst hv; exact huff_pure _ _) (.bool _)
      ((try (conv => whnf)); repeat ((first | exact True.intro | refine br_t ?_ | (with_reducible refine ix_nat ?_) | (with_reducible refine ix_lit _ ?_) | (with_reducible refine ix_add 1 ?_) | (with_reducible refine ix_add 2 ?_) | refine sIx ?_ | refine opt_in rfl ?_ | refine br_f ?_ | refine sNum ?_ | refine num0_out ?_ | refine sDt ?_ | refine sDf ?_ | refine sNt ?_ | refine sNf ?_ | refine sBt ?_ | refine sBf ?_ | refine sOb ?_ | refine sRw ?_); try (conv => whnf)))
      refine loop_use [] [] l0 ?_ ?_
      · ((try (conv => whnf)); repeat ((first | exact True.intro | refine br_t ?_ | (with_reducible refine ix_nat ?_) | (with_reducible refine ix_lit _ ?_) | (with_reducible refine ix_add 1 ?_) | (with_reducible refine ix_add 2 ?_) | refine sIx ?_ | refine opt_in rfl ?_ | refine br_f ?_ | refine sNum ?_ | refine num0_out ?_ | refine sDt ?_ | refine sDf ?_ | refine sNt ?_ | refine sNf ?_ | refine sBt ?_ | refine sBf ?_ | refine sOb ?_ | refine sRw ?_); try (conv => whnf)))
      ((try (conv => whnf)); repeat ((first | exact True.intro | refine br_t ?_ | (with_reducible refine ix_nat ?_) | (with_reducible refine ix_lit _ ?_) | (with_reducible refine ix_add 1 ?_) | (with_reducible refine ix_add 2 ?_) | refine sIx ?_ | refine opt_in rfl ?_ | refine br_f ?_ | refine sNum ?_ | refine num0_out ?_ | refine sDt ?_ | refine sDf ?_ | refine sNt ?_ | refine sNf ?_ | refine sBt ?_ | refine sBf ?_ | refine sOb ?_ | refine sRw ?_); try (conv => whnf)))
      have hp0 := mEs_pure (s.take 0)
      refine loop_use [] [] l1 ?_ ?_
      · ((try (conv => whnf)); repeat ((first | exact True.intro | refine br_t ?_ | (with_reducible refine ix_nat ?_) | (with_reducible refine ix_lit _ ?_) | (with_reducible refine ix_add 1 ?_) | (with_reducible refine ix_add 2 ?_) | refine sIx ?_ | refine opt_in rfl ?_ | refine br_f ?_ | refine sNum ?_ | refine num0_out ?_ | refine sDt ?_ | refine sDf ?_ | refine sNt ?_ | refine sNf ?_ | refine sBt ?_ | refine sBf ?_ | refine sOb ?_ | refine sRw ?_); try (conv => whnf)))
      ((try (conv => whnf)); repeat ((first | exact True.intro | refine br_t ?_ | (with_reducible refine ix_nat ?_) | (with_reducible refine ix_lit _ ?_) | (with_reducible refine ix_add 1 ?_) | (with_reducible refine ix_add 2 ?_) | refine sIx ?_ | refine opt_in rfl ?_ | refine br_f ?_ | refine sNum ?_ | refine num0_out ?_ | refine sDt ?_ | refine sDf ?_ | refine sNt ?_ | refine sNf ?_ | refine sBt ?_ | refine sBf ?_ | refine sOb ?_ | refine sRw ?_); try (conv => whnf)))
    · refine pure_step Try.ESOK Try.func17 [] ?_ (by intro v hv; simp at hv; subst hv; exact huff_pure _ _) (.bool _)
      ((try (conv => whnf)); repeat ((first | exact True.intro | refine br_t ?_ | (with_reducible refine ix_nat ?_) | (with_reducible refine ix_lit _ ?_) | (with_reducible refine ix_add 1 ?_) | (with_reducible refine ix_add 2 ?_) | refine sIx ?_ | refine opt_in rfl ?_ | refine br_f ?_ | refine sNum ?_ | refine num0_out ?_ | refine sDt ?_ | refine sDf ?_ | refine sNt ?_ | refine sNf ?_ | refine sBt ?_ | refine sBf ?_ | refine sOb ?_ | refine sRw ?_); try (conv => whnf)))
      refine loop_use [] [] l0 ?_ ?_
      · ((try (conv => whnf)); repeat ((first | exact True.intro | refine br_t ?_ | (with_reducible refine ix_nat ?_) | (with_reducible refine ix_lit _ ?_) | (with_reducible refine ix_add 1 ?_) | (with_reducible refine ix_add 2 ?_) | refine sIx ?_ | refine opt_in rfl ?_ | refine br_f ?_ | refine sNum ?_ | refine num0_out ?_ | refine sDt ?_ | refine sDf ?_ | refine sNt ?_ | refine sNf ?_ | refine sBt ?_ | refine sBf ?_ | refine sOb ?_ | refine sRw ?_); try (conv => whnf)))
      ((try (conv => whnf)); repeat ((first | exact True.intro | refine br_t ?_ | (with_reducible refine ix_nat ?_) | (with_reducible refine ix_lit _ ?_) | (with_reducible refine ix_add 1 ?_) | (with_reducible refine ix_add 2 ?_) | refine sIx ?_ | refine opt_in rfl ?_ | refine br_f ?_ | refine sNum ?_ | refine num0_out ?_ | refine sDt ?_ | refine sDf ?_ | refine sNt ?_ | refine sNf ?_ | refine sBt ?_ | refine sBf ?_ | refine sOb ?_ | refine sRw ?_); try (conv => whnf)))
      have hp0 := mEs_pure (s.take 0)
      refine loop_use [] [] l1 ?_ ?_
      · ((try (conv => whnf)); repeat ((first | exact True.intro | refine br_t ?_ | (with_reducible refine ix_nat ?_) | (with_reducible refine ix_lit _ ?_) | (with_reducible refine ix_add 1 ?_) | (with_reducible refine ix_add 2 ?_) | refine sIx ?_ | refine opt_in rfl ?_ | refine br_f ?_ | refine sNum ?_ | refine num0_out ?_ | refine sDt ?_ | refine sDf ?_ | refine sNt ?_ | refine sNf ?_ | refine sBt ?_ | refine sBf ?_ | refine sOb ?_ | refine sRw ?_); try (conv => whnf)))
      ((try (conv => whnf)); repeat ((first | exact True.intro | refine br_t ?_ | (with_reducible refine ix_nat ?_) | (with_reducible refine ix_lit _ ?_) | (with_reducible refine ix_add 1 ?_) | (with_reducible refine ix_add 2 ?_) | refine sIx ?_ | refine opt_in rfl ?_ | refine br_f ?_ | refine sNum ?_ | refine num0_out ?_ | refine sDt ?_ | refine sDf ?_ | refine sNt ?_ | refine sNf ?_ | refine sBt ?_ | refine sBf ?_ | refine sOb ?_ | refine sRw ?_); try (conv => whnf)))
  · refine pure_step Try.ESOK Try.func17 [] ?_ (by intro v hv; simp at hv; subst hv; exact huff_pure _ _) (.bool _)
    ((try (conv => whnf)); repeat ((first | exact True.intro | refine br_t ?_ | (with_reducible refine ix_nat ?_) | (with_reducible refine ix_lit _ ?_) | (with_reducible refine ix_add 1 ?_) | (with_reducible refine ix_add 2 ?_) | refine sIx ?_ | refine opt_in rfl ?_ | refine br_f ?_ | refine sNum ?_ | refine num0_out ?_ | refine sDt ?_ | refine sDf ?_ | refine sNt ?_ | refine sNf ?_ | refine sBt ?_ | refine sBf ?_ | refine sOb ?_ | refine sRw ?_); try (conv => whnf)))
    refine loop_use [] [] l0 ?_ ?_
    · ((try (conv => whnf)); repeat ((first | exact True.intro | refine br_t ?_ | (with_reducible refine ix_nat ?_) | (with_reducible refine ix_lit _ ?_) | (with_reducible refine ix_add 1 ?_) | (with_reducible refine ix_add 2 ?_) | refine sIx ?_ | refine opt_in rfl ?_ | refine br_f ?_ | refine sNum ?_ | refine num0_out ?_ | refine sDt ?_ | refine sDf ?_ | refine sNt ?_ | refine sNf ?_ | refine sBt ?_ | refine sBf ?_ | refine sOb ?_ | refine sRw ?_); try (conv => whnf)))
    ((try (conv => whnf)); repeat ((first | exact True.intro | refine br_t ?_ | (with_reducible refine ix_nat ?_) | (with_reducible refine ix_lit _ ?_) | (with_reducible refine ix_add 1 ?_) | (with_reducible refine ix_add 2 ?_) | refine sIx ?_ | refine opt_in rfl ?_ | refine br_f ?_ | refine sNum ?_ | refine num0_out ?_ | refine sDt ?_ | refine sDf ?_ | refine sNt ?_ | refine sNf ?_ | refine sBt ?_ | refine sBf ?_ | refine sOb ?_ | refine sRw ?_); try (conv => whnf)))
    have hp0 := mEs_pure (s.take 0)
    refine loop_use [] [] l1 ?_ ?_
    · ((try (conv => whnf)); repeat ((first | exact True.intro | refine br_t ?_ | (with_reducible refine ix_nat ?_) | (with_reducible refine ix_lit _ ?_) | (with_reducible refine ix_add 1 ?_) | (with_reducible refine ix_add 2 ?_) | refine sIx ?_ | refine opt_in rfl ?_ | refine br_f ?_ | refine sNum ?_ | refine num0_out ?_ | refine sDt ?_ | refine sDf ?_ | refine sNt ?_ | refine sNf ?_ | refine sBt ?_ | refine sBf ?_ | refine sOb ?_ | refine sRw ?_); try (conv => whnf)))
    ((try (conv => whnf)); repeat ((first | exact True.intro | refine br_t ?_ | (with_reducible refine ix_nat ?_) | (with_reducible refine ix_lit _ ?_) | (with_reducible refine ix_add 1 ?_) | (with_reducible refine ix_add 2 ?_) | refine sIx ?_ | refine opt_in rfl ?_ | refine br_f ?_ | refine sNum ?_ | refine num0_out ?_ | refine sDt ?_ | refine sDf ?_ | refine sNt ?_ | refine sNf ?_ | refine sBt ?_ | refine sBf ?_ | refine sOb ?_ | refine sRw ?_); try (conv => whnf)))

def mayP (c : Nat → Int) (s : List Int) : Prop := countOK c ∧ symOK s ∧ manyTo c 16 = s.length ∧ 0 < manyTo c 16 ∧ sumTo c 16 < 65536

theorem May_no (c : Nat → Int) (s : List Int) (hl : s.length ≤ 256) (h : ¬ mayP c s) : PCallTo Try.prog 17 [huffV c s] (.bool false) := by
  by_cases hc : countOK c
  · by_cases hs : symOK s
    · exact May_no2 c s hl hc hs fun h' => h ⟨hc, hs, h'⟩
    · exact May_no1 c s hl hc hs
  · exact May_no0 c s hc
theorem May_ok (c : Nat → Int) (s : List Int) (hl : s.length ≤ 256) (h : mayP c s) : PCallTo Try.prog 17 [huffV c s] (.bool true) :=
  May_yes c s hl h.1 h.2.1 h.2.2.1 h.2.2.2.1 h.2.2.2.2
end Go.Proofs
