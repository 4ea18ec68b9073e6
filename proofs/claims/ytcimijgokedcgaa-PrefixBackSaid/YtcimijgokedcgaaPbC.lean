/- PbC: a part of the proof of PrefixBack. Own work. -/
import Derived.Test.YtcimijgokedcgaaPbB
import Derived.Test.YtcimijgokedcgaaAwk
set_option linter.unusedVariables false
set_option linter.unusedSimpArgs false
set_option linter.unusedSectionVars false
namespace Go.Proofs
open Go Go.Ab
set_option maxRecDepth 100000


def wb (q : List (Nat × Nat)) : List Int := bytesOf (sx q) (sm q) (sm q / 8)
def wr (q : List (Nat × Nat)) : Nat := sx q % 2 ^ (sm q % 8)
def wm (q : List (Nat × Nat)) : Nat := sm q % 8
theorem wr_lt (q : List (Nat × Nat)) : wr q < 2 ^ wm q := Nat.mod_lt _ (Nat.pow_pos (by omega))
theorem wb_len (q : List (Nat × Nat)) : (wb q).length = sm q / 8 := bytesOf_len _ _ _

theorem Put_q (q : List (Nat × Nat)) (v n : Nat) (hq : sm q ≤ 2 ^ 30) (hn : n ≤ 16) (hv : v < 2 ^ n) :
    CallTo Try.prog 21 [.ptr 0 0, .int .i64 v, .int .i64 n] (hpN 2 (wrO (wb q) (wr q) (wm q))) (.bool true) (hpN 2 (wrO (wb (q ++ [(v, n)])) (wr (q ++ [(v, n)])) (wm (q ++ [(v, n)])))) := by
  have p16 := Nat.pow_le_pow_right (n := 2) (by omega) hn
  have h := Put_raw (wb q) (wr q) (wm q) n v (by rw [wb_len]; omega) (Nat.mod_lt _ (by omega)) (wr_lt q) hn (by omega)
  obtain ⟨e1, e2, e3, e4⟩ := put_eq (sx q) (sm q) v n hv
  unfold wb wr wm at *
  rw [e1, e2, e3, e4] at h
  have hs1 : sx (q ++ [(v, n)]) = sx q * 2 ^ n + v := by rw [sx_app]; simp [sx, sm]
  have hs2 : sm (q ++ [(v, n)]) = sm q + n := by rw [sm_app]; simp [sm]
  rw [hs1, hs2]
  exact h

def codeOf (cs : List (Nat × Nat)) (s : List Int) (x : Int) : Nat × Nat := cs.getD (s.idxOf x) (0, 0)
def kept (s l : List Int) : List Int := l.filter fun x => decide (x ∈ s)
def kq (cs : List (Nat × Nat)) (s l : List Int) : List (Nat × Nat) := (kept s l).map (codeOf cs s)

theorem kept_snoc (s l : List Int) (x : Int) : kept s (l ++ [x]) = if x ∈ s then kept s l ++ [x] else kept s l := by
  unfold kept; rw [List.filter_append]; by_cases h : x ∈ s <;> simp [h]

theorem code_one {cs : List (Nat × Nat)} {s : List Int} (hok : CodesOK cs) (hlen : cs.length = s.length) {x : Int} (hx : x ∈ s) :
    s.idxOf x < s.length ∧ s.getD (s.idxOf x) 0 = x ∧ 1 ≤ (codeOf cs s x).2 ∧ (codeOf cs s x).2 ≤ 16 ∧ (codeOf cs s x).1 + 1 < 2 ^ (codeOf cs s x).2 := by
  have h1 := List.idxOf_lt_length_of_mem hx
  refine ⟨h1, ?_, hok.one _ (getD_mem (d := (0, 0)) (by omega))⟩
  rw [List.getD_eq_getElem?_getD, List.getElem?_eq_getElem h1]; simp

theorem kq_ok {cs : List (Nat × Nat)} {s : List Int} (hok : CodesOK cs) (hlen : cs.length = s.length) (l : List Int) : (∀ p ∈ kq cs s l, p.1 < 2 ^ p.2) ∧ sm (kq cs s l) ≤ 16 * l.length ∧ (kept s l).length ≤ l.length := by
  have hmem : ∀ p ∈ kq cs s l, p.1 + 1 < 2 ^ p.2 ∧ p.2 ≤ 16 := fun p hp => by
    simp only [kq, List.mem_map] at hp
    obtain ⟨x, hx, rfl⟩ := hp
    have hx' : x ∈ s := by simpa [kept] using (List.mem_filter.1 hx).2
    obtain ⟨_, _, _, a, b⟩ := code_one hok hlen hx'
    exact ⟨b, a⟩
  have hkl : (kept s l).length ≤ l.length := List.length_filter_le _ _
  refine ⟨fun p hp => by have := (hmem p hp).1; omega, ?_, hkl⟩
  have : ∀ q : List (Nat × Nat), (∀ p ∈ q, p.2 ≤ 16) → sm q ≤ 16 * q.length := by
    intro q
    induction q with
    | nil => intro _; simp [sm]
    | cons p q ih =>
      intro h
      have h1 := ih fun p hp => h p (by simp [hp])
      have h2 := h p (by simp)
      simp only [sm, List.map_cons, List.sum_cons, List.length_cons] at *
      omega
  have := this (kq cs s l) fun p hp => (hmem p hp).2
  have e : (kq cs s l).length = (kept s l).length := by simp [kq]
  omega

theorem pb_loop0 (c : Nat → Int) (s : List Int) (cs : List (Nat × Nat)) (l : List Int) (hs : s.Nodup) (hok : CodesOK cs) (hlen : cs.length = s.length) (hl : l.length ≤ 200) :
    LoopTo Try.prog Try.f3.ntmps (loopAt Try.f3 0) (pbS c s cs l 0 [] 0 0 []) (.exit 0) (pbS c s cs l l.length (wb (kq cs s l)) (wr (kq cs s l)) (wm (kq cs s l)) (kept s l)) := by
  have key := loop_of (P := Try.prog) (fs := Try.f3.ntmps) (cd := loopAt Try.f3 0) (S := fun i => pbS c s cs l i (wb (kq cs s (l.take i))) (wr (kq cs s (l.take i))) (wm (kq cs s (l.take i))) (kept s (l.take i))) (n := l.length) (e := .exit 0)
    (s' := pbS c s cs l l.length (wb (kq cs s l)) (wr (kq cs s l)) (wm (kq cs s l)) (kept s l)) (by simp)
    (fun i hi => by
      obtain ⟨k1, k2, k3⟩ := kq_ok hok hlen (l.take i)
      have hti : (l.take i).length ≤ 200 := by simp; omega
      have hsn := kept_snoc s (l.take i) (l.getD i 0)
      rw [← take_snoc' l i hi] at hsn
      by_cases hx : l.getD i 0 ∈ s
      · rw [if_pos hx] at hsn
        obtain ⟨j1, j2, j3, j4, j5⟩ := code_one hok hlen hx
        have hq : kq cs s (l.take (i + 1)) = kq cs s (l.take i) ++ [codeOf cs s (l.getD i 0)] := by unfold kq; rw [hsn]; simp
        rw [hq, hsn]
        generalize hcv : codeOf cs s (l.getD i 0) = p at *
        obtain ⟨v, n⟩ := p
        simp only at j3 j4 j5
        have p16 := Nat.pow_le_pow_right (n := 2) (by omega) j4
        have hp := Put_q (kq cs s (l.take i)) v n (by omega) j4 (by omega)
        refine pb_yes c s cs l hs i (s.idxOf (l.getD i 0)) hi j1 j2.symm v n hcv _ _ _ _ _ _ _ hl (by omega) (by rw [wb_len]; omega) (by rw [wb_len, sm_app]; simp [sm] at *; omega) (Nat.mod_lt _ (by omega)) (Nat.mod_lt _ (by omega)) (wr_lt _) (by omega) j4 (by omega) ?_ hp
        rw [wb_len, wb_len]
        unfold wm
        rw [sm_app]
        have : sm [(v, n)] = n := by simp [sm]
        omega
      · rw [if_neg hx] at hsn
        have hq : kq cs s (l.take (i + 1)) = kq cs s (l.take i) := by unfold kq; rw [hsn]
        rw [hq, hsn]
        exact pb_no c s cs l i hi hx _ _ _ _ hl (by omega) (by rw [wb_len]; omega) (Nat.mod_lt _ (by omega)))
    (by
      have pu := eI_pure .u8
      have pi := eI_pure .i64
      have p1 := cEs_pure cs s s.length
      have p2 := sEs_pure cs s s.length
      rw [List.take_length]
      generalize wb (kq cs s l) = lb
      generalize wr (kq cs s l) = rest
      generalize wm (kq cs s l) = many
      generalize kept s l = u
      unfold pbS
      generalize cEs cs s s.length = es at *
      generalize sEs cs s s.length = fs at *
      refine code_step Try.ESOK [] [] ?_
      ((try (conv => whnf)); repeat ((first | exact True.intro | refine br_t ?_ | (with_reducible refine ix_nat ?_) | (with_reducible refine ix_lit _ ?_) | (with_reducible refine ix_add 1 ?_) | (with_reducible refine ix_add 2 ?_) | refine sIx ?_ | refine opt_in rfl ?_ | refine br_f ?_ | refine sNum ?_ | refine num0_out ?_ | refine sDt ?_ | refine sDf ?_ | refine sNt ?_ | refine sNf ?_ | refine sBt ?_ | refine sBf ?_ | refine sOb ?_ | refine sRw ?_); try (conv => whnf)))) 0 (Nat.zero_le _)
  have e0 : kept s (l.take 0) = [] := by simp [kept]
  have e1 : kq cs s (l.take 0) = [] := by simp [kq, kept]
  simp only [e0, e1] at key
  have e2 : wb [] = [] := by simp [wb, bytesOf, sm]
  have e3 : wr [] = 0 := by simp [wr, sx]
  have e4 : wm [] = 0 := by simp [wm, sm]
  rw [e2, e3, e4] at key
  exact key

/-- how many 1s are put behind -/
def padF (q : List (Nat × Nat)) : Nat := (8 - sm q % 8) % 8
def outB (q : List (Nat × Nat)) : List Int := bytesOf (sx q * 2 ^ padF q + (2 ^ padF q - 1)) (sm q + padF q) ((sm q + padF q) / 8)
theorem pad8 (q : List (Nat × Nat)) : (sm q + padF q) % 8 = 0 ∧ padF q < 8 := by unfold padF; omega
theorem outB_len (q : List (Nat × Nat)) : 8 * (outB q).length = sm q + padF q := by have := pad8 q; unfold outB; rw [bytesOf_len]; omega
theorem done_q (q : List (Nat × Nat)) : doneL (wb q) (wr q) (wm q) = outB q := done_eq _ _

theorem take_q {cs : List (Nat × Nat)} {s : List Int} (hok : CodesOK cs) (hlen : cs.length = s.length) (l : List Int) (hl : l.length ≤ 200) (i : Nat) (hi : i < (kept s l).length) :
    CallTo Try.prog 11 [.ptr 0 0, .ptr 3 0] (hpN 4 (trO cs s (outB (kq cs s l)) (sm ((kq cs s l).take i)))) (.tup [.int .i64 ((kept s l).getD i 0), .bool true]) (hpN 4 (trO cs s (outB (kq cs s l)) (sm ((kq cs s l).take (i + 1))))) := by
  obtain ⟨k1, k2, k3⟩ := kq_ok hok hlen l
  have hx : (kept s l).getD i 0 ∈ s := by
    have := getD_mem (d := (0 : Int)) hi
    simpa [kept] using (List.mem_filter.1 this).2
  obtain ⟨j1, j2, j3, j4, j5⟩ := code_one hok hlen hx
  have hqi : i < (kq cs s l).length := by simp [kq]; exact hi
  have hgi : (kq cs s l).getD i (0, 0) = codeOf cs s ((kept s l).getD i 0) := by
    simp only [kq, List.getD_eq_getElem?_getD, List.getElem?_map, List.getElem?_eq_getElem hi]; simp
  have hsplit : kq cs s l = (kq cs s l).take i ++ codeOf cs s ((kept s l).getD i 0) :: (kq cs s l).drop (i + 1) := by
    rw [← hgi, List.getD_eq_getElem?_getD, List.getElem?_eq_getElem hqi]
    simp
  have htake : (kq cs s l).take (i + 1) = (kq cs s l).take i ++ [codeOf cs s ((kept s l).getD i 0)] := by
    rw [List.take_succ_eq_append_getElem hqi, ← hgi, List.getD_eq_getElem?_getD, List.getElem?_eq_getElem hqi]; simp
  rw [htake]
  generalize hcv : codeOf cs s ((kept s l).getD i 0) = p at *
  obtain ⟨v, n⟩ := p
  simp only at j3 j4 j5
  have hM := pad8 (kq cs s l)
  have hrd : ∀ i', i' ≤ n → takeV (outB (kq cs s l)) (sm ((kq cs s l).take i)) i' = v / 2 ^ (n - i') := fun i' hi' => by
    have hb : ∀ p ∈ (kq cs s l).drop (i + 1), p.1 < 2 ^ p.2 := fun p hp => k1 p (List.mem_of_mem_drop hp)
    have := read_back ((kq cs s l).take i) ((kq cs s l).drop (i + 1)) v n (by omega) hb (padF (kq cs s l)) i' hi' (by rw [← hsplit]; exact hM.1)
    rw [← hsplit] at this
    exact this
  have hsm : sm (kq cs s l) = sm ((kq cs s l).take i) + n + sm ((kq cs s l).drop (i + 1)) := by
    conv => lhs; rw [hsplit]
    rw [sm_app]
    have : sm ((v, n) :: (kq cs s l).drop (i + 1)) = n + sm ((kq cs s l).drop (i + 1)) := by simp [sm]
    omega
  have h8 := outB_len (kq cs s l)
  have ht := TTake_ct cs s hlen hok.nodup (outB (kq cs s l)) (isByte_bytesOf _ _ _) (by omega) (sm ((kq cs s l).take i)) n (by omega) j4 (by omega) (s.idxOf ((kept s l).getD i 0)) (by omega)
    (by rw [hrd n (Nat.le_refl _)]; simp; exact hcv)
    (fun i' h0 hi' => by rw [hrd i' (by omega)]; exact hok.short (j := s.idxOf ((kept s l).getD i 0)) (by omega) hcv hi')
  rw [j2] at ht
  have : sm ((kq cs s l).take i ++ [(v, n)]) = sm ((kq cs s l).take i) + n := by rw [sm_app]; simp [sm]
  rw [this]
  exact ht
end Go.Proofs
