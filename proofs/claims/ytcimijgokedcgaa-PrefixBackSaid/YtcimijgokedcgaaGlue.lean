/- PrefixBack: for every table and every row of symbols the law's call returns true, and both arguments read afterwards as they read before. No condition. -/
import Derived.Test.YtcimijgokedcgaaPbD
import Derived.Test.YtcimijgokedcgaaRows
import Derived.ProofKit
import Derived.SizedLaws
set_option linter.unusedVariables false
set_option linter.unusedSimpArgs false
set_option linter.unusedSectionVars false
namespace Go.Proofs.Ytcimijgokedcgaa
open Go.ChangeShapes Go.WideShapes Go.ChangeAt Go.RowKit
open Go Go.Ab
set_option maxRecDepth 100000


theorem own : ownKnob Try.prog.godebug = none := by kernel_rfl
theorem laidOut : laidOutB Try.prog = true := by kernel_rfl
theorem cells3 : Try.prog.cellsOf 3 = 1 := by kernel_rfl
theorem cells22 : Try.prog.cellsOf 22 = 16 := by kernel_rfl
theorem cells23 : Try.prog.cellsOf 23 = 1 := by kernel_rfl
theorem cells25 : Try.prog.cellsOf 25 = 17 := by kernel_rfl

/-- a world of which all that lies there is only read -/
def still (w : World) : Cfg := { pl := fun _ => none, w := w, imm := fun b => b < w.heap.size }
theorem still_rel (w : World) : HRel ⟨.nil, 0⟩ (still w) :=
  ⟨fun b hb => ⟨hb, fun ⟨_, _, h, _⟩ => by cases h⟩, fun _ _ h => (by cases h), fun _ _ _ h => (by simp [Heap.get, T.get_nil] at h), fun _ _ _ _ _ h => (by cases h), fun _ ⟨_, _, h, _⟩ => (by cases h), fun _ _ h => (by cases h)⟩

theorem still_below {w : World} {c : Cfg} (h : Ext (still w) c) : Below w.heap.size w c.w :=
  ⟨h.os, h.tape, h.output, h.size, fun k hk => h.frame k hk fun ⟨_, _, h, _⟩ => by cases h⟩

theorem mapM_all {α β : Type} {f : α → Option β} : ∀ {l : List α} {r : List β}, l.mapM f = some r → ∀ x ∈ l, ∃ y, f x = some y := by
  intro l
  induction l with
  | nil => intro r _ x hx; simp at hx
  | cons a tl ih =>
    intro r h x hx
    rw [List.mapM_cons] at h
    cases ha : f a with
    | none => simp [ha] at h
    | some b =>
      cases has : tl.mapM f with
      | none => simp [ha, has] at h
      | some bs =>
        rcases List.mem_cons.1 hx with rfl | hx
        · exact ⟨b, ha⟩
        · exact ih has x hx

section
variable {H : Type} {enc : TypeId × Value → H} {P : Program} {w : World} {base : Nat} {spare : Nat → Bool} {held : Bool}

/-- a slice of numbers that came in -/
theorem vr_ints {t e : TypeId} {k : IntKind} {fuel : Nat} {x : Value} {y : DataW H × List MemPlace} (ht : P.underlying t = some (.slice e)) (he : P.underlying e = some (.int k)) (hc : P.cellsOf e = 1)
    (h : DataW.trod enc P w base spare held fuel t [x] = some y) : ∃ l : List Int, VR (still w) (islI k l) x := by
  rcases open_ints ht he hc h with ⟨hx, _⟩ | ⟨a, len, cap, zs, hx, _, hl, _, hz, _, hcell, _⟩
  · simp only [List.cons.injEq, and_true] at hx
    subst hx
    exact ⟨[], .isl0⟩
  · simp only [List.cons.injEq, and_true] at hx
    subst hx
    have hlz : len ≤ zs.length := by rw [hz]; split <;> omega
    rcases Nat.eq_zero_or_pos len with h0 | h0
    · subst h0; exact ⟨[], .isl0⟩
    · obtain ⟨b, off, spot⟩ := a
      have hspot : spot = none := by simpa [Addr.add] using World.cell?_spot (hcell 0 (by omega))
      subst hspot
      have cj : ∀ j, j < zs.length → w.cell? ⟨b, off + j, none⟩ = some (.int k (zs.getD j 0)) := fun j hj => by rw [← add_plain]; exact hcell j hj
      have c0 := cj 0 (by omega)
      unfold World.cell? at c0
      cases hb : w.heap[b]? with
      | none => simp [hb] at c0
      | some o =>
        cases o with
        | cells arr el fr =>
          have cells : ∀ j, j < zs.length → arr[off + j]? = some (.int k (zs.getD j 0)) := fun j hj => by
            have := cj j hj
            unfold World.cell? at this
            simpa [hb] using this
          have hbig : off + len ≤ arr.size := by
            have := cells (len - 1) (by omega)
            rcases Nat.lt_or_ge (off + (len - 1)) arr.size with h' | h'
            · omega
            · rw [Array.getElem?_eq_none h'] at this; cases this
          have hlt : b < w.heap.size := by
            rcases Nat.lt_or_ge b w.heap.size with h' | h'
            · exact h'
            · rw [Array.getElem?_eq_none h'] at hb; cases hb
          refine ⟨zs.take len, ?_⟩
          have e : (zs.take len).length = len := by simp; omega
          unfold islI islR
          rw [e]
          refine .isl (c := still w) hlt hb (by omega) (fun i j hi hj => ?_) (fun a b => rowG_pure (eI_pure k) _ _ _ _) hl
          have hj0 : j = 0 := by omega
          subst hj0
          have := cells i (by omega)
          have e2 : arr.getD (off + i * 1 + 0) undef = .int k (zs.getD i 0) := by
            rw [Array.getD_eq_getD_getElem?, show off + i * 1 + 0 = off + i by omega, this]; rfl
          rw [e2]
          have e3 : rowG (eI k) 0 (zs.take len) i 0 = .int k (zs.getD i 0) := by
            simp [rowG, List.getD_eq_getElem?_getD, hi]
          rw [e3]
          exact .int _ _
        | _ => simp [hb] at c0

theorem arr_ints {t e : TypeId} {k : IntKind} {n fuel : Nat} {cs : List Value} {y : DataW H × List MemPlace} (ht : P.underlying t = some (.array n e)) (he : P.underlying e = some (.int k)) (hc : P.cellsOf e = 1)
    (h : DataW.trod enc P w base spare held fuel t cs = some y) : ∀ i, i < n → i < cs.length → ∃ z, cs[i]? = some (.int k z) := by
  intro i hi hl
  cases fuel with
  | zero => simp [DataW.trod] at h
  | succ m =>
    unfold DataW.trod at h
    rw [ht] at h
    simp only at h
    split at h
    · simp only [Option.map_eq_some_iff] at h
      obtain ⟨xs, hx, _⟩ := h
      obtain ⟨q, hq⟩ := mapM_all hx i (by simpa using hi)
      rw [hc, Nat.mul_one] at hq
      obtain ⟨z, hz, _⟩ := DataW.trod_int he hq
      refine ⟨z, ?_⟩
      have : ((cs.drop i).take 1)[0]? = some (.int k z) := by rw [hz]; rfl
      simpa [hl] using this
    · cases h
end

theorem arr_eta {α : Type} (cs : List α) (d : α) (hl : cs.length = 17) : cs = (List.range 17).map fun i => cs.getD i d := by
  apply List.ext_getElem
  · simp [hl]
  · intro i h1 h2; simp [List.getD_eq_getElem?_getD, h1]

set_option maxHeartbeats 1000000 in
theorem lifted (os : Os) (started : os.Started) (H : Type) (enc : TypeId × Value → H) :
    ReturnsInHanded {} Try.checked os 3 .any (Rows.prefixBackSpec.pre6 enc Try.prog Try.f3 Rows.prefixBackRow.domain false) (Rows.prefixBackSpec.post enc Try.prog Try.f3 false true false false) := by
  refine returnsInHanded_of_change (C := Try.checked) own started (by kernel_rfl) Try.func3
    (ChangeSpec.witness6 (enc := enc) (C := Try.checked) false ⟨#[], #[.agg #[.int .i64 0, .int .i64 0, .int .i64 0, .int .i64 0, .int .i64 0, .int .i64 0, .int .i64 0, .int .i64 0, .int .i64 0, .int .i64 0, .int .i64 0, .int .i64 0, .int .i64 0, .int .i64 0, .int .i64 0, .int .i64 0, .slice none 0 0], .slice none 0 0], []⟩ 8 (by kernel_rfl) (by kernel_rfl) (by kernel_rfl) (by kernel_rfl)) ?_
  intro W base args ds gs before hval0 hW _ _
  have hval : ∀ (j : Nat) t v, Try.f3.params[j]? = some t → args[j]? = some v → Value.okWide Try.prog W .any base t v := hval0
  have hW' := hW
  obtain ⟨p, q, hA0, hV, rfl, _, _⟩ := hW
  have hA : DataW.TrodAll enc Try.prog W 0 (fun _ => true) true Try.f3.params.toList args.toList ds p := hA0
  have hlt : ∀ x ∈ p, x.block < W.heap.size := fun x hx => by
    have := hW'.lt x (by simp [hx]); simpa using this
  rw [Try.params3] at hA hval
  obtain ⟨v0, v1, d0, d1, p0, p1, hargs, rfl, rfl, h0, h1⟩ := trodAll_two hA
  obtain rfl : args = #[v0, v1] := by cases args; simp_all
  obtain ⟨rfl, rfl⟩ := trodVars_none hV
  obtain ⟨cs, rfl, hcs⟩ := okWide_struct Try.underlying25 (hval 0 25 v0 rfl rfl)
  have h0k := h0
  have h1k := h1
  obtain ⟨a1, len1, cap1, rfl⟩ := okWide_slice Try.underlying23 (hval 1 23 v1 rfl rfl)
  obtain ⟨fuel0, f0⟩ := h0
  obtain ⟨fuel1, f1⟩ := h1
  obtain ⟨l, hl⟩ := vr_ints (w := W) Try.underlying23 Try.underlying3 cells3 f1
  obtain ⟨y0, y1, n, _, hlen, t0, t1⟩ := trod_struct2 Try.underlying25 f0
  have hcs17 : cs.size = 17 := by rw [hcs, cells25]
  have hcl : cs.toList.length = 17 := by simpa using hcs17
  have e0 : (Value.agg cs).cells.toList = cs.toList := rfl
  rw [e0] at t0 t1
  have t0' : DataW.trod enc Try.prog W 0 (fun _ => true) true n 22 (cs.toList.take 16) = some y0 := by
    have := t0; rw [cells22] at this; simpa using this
  have t1' : ∃ x16, cs.toList[16]? = some x16 ∧ DataW.trod enc Try.prog W 0 (fun _ => true) true n 23 [x16] = some y1 := by
    have h := t1
    rw [cells23] at h
    refine ⟨cs.toList[16], List.getElem?_eq_getElem (by omega), ?_⟩
    have e : (cs.toList.drop 16).take 1 = [cs.toList[16]] := by
      rw [List.drop_eq_getElem_cons (by omega)]; rfl
    rw [← e]; exact h
  obtain ⟨x16, hx16, t1'⟩ := t1'
  obtain ⟨s, hs⟩ := vr_ints (w := W) Try.underlying23 Try.underlying3 cells3 t1'
  have hints : ∀ i, i < 16 → ∃ z, cs.toList[i]? = some (.int .i64 z) := fun i hi => by
    obtain ⟨z, hz⟩ := arr_ints Try.underlying22 Try.underlying3 cells3 t0' i hi (by simp; omega)
    refine ⟨z, ?_⟩
    rw [List.getElem?_take_of_lt hi] at hz
    exact hz
  let c : Nat → Int := fun i => match cs.toList[i]? with
    | some (.int _ z) => z
    | _ => 0
  have hc : ∀ i, i < 16 → cs.getD i undef = .int .i64 (c i) := fun i hi => by
    obtain ⟨z, hz⟩ := hints i hi
    have : c i = z := by simp only [c, hz]
    rw [this, Array.getD_eq_getD_getElem?, ← Array.getElem?_toList, hz]; rfl
  have hv : VRs (still W) [huffV c s, islI .i64 l] #[.agg cs, .slice a1 len1 cap1] := by
    refine ⟨rfl, fun i hi => ?_⟩
    match i, hi with
    | 0, _ =>
      refine .agg (by rw [hcs17]; rfl) fun i hi => ?_
      have hi : i < 17 := hi
      match i, hi with
      | 0, _ => exact (hc 0 (by omega)) ▸ .int _ _
      | 1, _ => exact (hc 1 (by omega)) ▸ .int _ _
      | 2, _ => exact (hc 2 (by omega)) ▸ .int _ _
      | 3, _ => exact (hc 3 (by omega)) ▸ .int _ _
      | 4, _ => exact (hc 4 (by omega)) ▸ .int _ _
      | 5, _ => exact (hc 5 (by omega)) ▸ .int _ _
      | 6, _ => exact (hc 6 (by omega)) ▸ .int _ _
      | 7, _ => exact (hc 7 (by omega)) ▸ .int _ _
      | 8, _ => exact (hc 8 (by omega)) ▸ .int _ _
      | 9, _ => exact (hc 9 (by omega)) ▸ .int _ _
      | 10, _ => exact (hc 10 (by omega)) ▸ .int _ _
      | 11, _ => exact (hc 11 (by omega)) ▸ .int _ _
      | 12, _ => exact (hc 12 (by omega)) ▸ .int _ _
      | 13, _ => exact (hc 13 (by omega)) ▸ .int _ _
      | 14, _ => exact (hc 14 (by omega)) ▸ .int _ _
      | 15, _ => exact (hc 15 (by omega)) ▸ .int _ _
      | 16, _ =>
        have e : cs.getD 16 undef = x16 := by rw [Array.getD_eq_getD_getElem?, ← Array.getElem?_toList, hx16]; rfl
        rw [e]; exact hs
      | m + 17, h => exact absurd h (by omega)
    | 1, _ => exact hl
  clear_value c
  refine (PrefixBack_ct c s l ⟨.nil, 0⟩ (still W) _ (still_rel W) hv).mono ?_
  rintro e W' ⟨v', c', rfl, rfl, hext, _, hvr⟩
  have hb := still_below hext
  have hv' : v' = .bool true := hvr.bool_inv
  subst hv'
  simp only [List.append_nil] at hW' hlt
  refine ⟨_, rfl, _, _, _, [], p0 ++ (p1 ++ []), [], hW', ?_, ?_, rfl, hb.frame _, fun h => by cases h⟩
  · exact trodAll_mk1 (shut_bool Try.underlying4 true)
  · exact ⟨p0, p1 ++ [], Below.trod laidOut (by kernel_rfl) (of_decide_eq_true (by kernel_rfl)) h0k hb fun x hx => hlt x (by simp [hx]), ⟨p1, [], Below.trod laidOut (by kernel_rfl) (of_decide_eq_true (by kernel_rfl)) h1k hb fun x hx => hlt x (by simp [hx]), rfl, rfl⟩, rfl⟩

theorem prefixBack_holds : Rows.PrefixBackSaid :=
  OpenClaim.holds_of_wide 3 Try.f3 rfl rfl rfl rfl rfl rfl rfl ⟨rfl, rfl, rfl, rfl, rfl⟩ rfl rfl rfl rfl rfl (by kernel_rfl) Try.func3 (by kernel_rfl)
    (of_decide_eq_true (by kernel_rfl)) (by unfold Func.isWrapper; first | (rw [if_pos (by decide +kernel)]; kernel_rfl) | (rw [if_neg (by decide +kernel)]; exact ⟨rfl, rfl⟩))
    (fun os started H enc _ => lifted os started H enc)
end Go.Proofs.Ytcimijgokedcgaa
