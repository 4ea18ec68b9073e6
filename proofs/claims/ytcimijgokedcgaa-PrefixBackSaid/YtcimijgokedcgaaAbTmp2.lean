/- Operations that ask no heap: the theorem. Own work. -/
import Derived.Test.YtcimijgokedcgaaAbKey
set_option linter.unusedVariables false
set_option linter.unusedSimpArgs false
set_option linter.unusedSectionVars false
namespace Go.Ab
open Go Go.RowKit
section
variable {R : Type} [Alg R] {P : Program} {E : Env}

/-- it suffices that the value's own run answers -/
theorem TmpTo.of {op : Op} {ρ : Operand → V} {v : V} (h : ∀ (c : Cfg) (ρ' : Operand → Value) (o : Oper), o.op = op → (∀ x ∈ op.operands, VR c (ρ x) (ρ' x)) →
    ∃ v', (∀ w, (execOp ρ' o).run P w = .ok (.value v') w) ∧ VR c v v') : TmpTo P op ρ v := h

theorem mapK_holds {α β : Type} {f : α → β} {l : List α} {k : List β → R} (h : Alg.holds (mapK f l k)) : Alg.holds (k (l.map f)) := by
  induction l generalizing k with
  | nil => exact h
  | cons x xs ih => simpa using ih (k := fun r => k (f x :: r)) (by simpa [mapK] using h)

theorem VRs.map {c : Cfg} {ρ : Operand → V} {ρ' : Operand → Value} {l : Array Operand} (h : ∀ x ∈ l, VR c (ρ x) (ρ' x)) : VRs c (l.toList.map ρ) (l.map ρ') := by
  refine ⟨by simp, fun i hi => ?_⟩
  have hi' : i < l.size := by simpa using hi
  have := h l[i] (by simp)
  simpa [List.getD_eq_getElem?_getD, Array.getD, hi'] using this

theorem VRs.getD_some {c : Cfg} {cs : List V} {xs : Array Value} (h : VRs c cs xs) {i : Nat} {v : V} (hi : cs[i]? = some v) : ∃ x, xs[i]? = some x ∧ VR c v x := h.get hi

theorem cells_rel {c : Cfg} {v : V} {x : Value} (h : VR c v x) (hv : hasCells v = true) : VRs c v.cells x.cells := by
  have one : ∀ (u : V) (y : Value), VR c u y → y.cells = #[y] → VRs c [u] y.cells := fun u y h1 h2 => by
    rw [h2]
    refine ⟨rfl, fun i hi => ?_⟩
    match i, hi with
    | 0, _ => exact h1
  cases h with
  | agg h1 h2 => exact ⟨h1, h2⟩
  | junk => simp [hasCells] at hv
  | lit =>
    cases x with
    | agg cs => simp [hasCells] at hv
    | _ => exact one _ _ (.lit _) rfl
  | bool => exact one _ _ (.bool _) rfl
  | int => exact one _ _ (.int _ _) rfl
  | str => exact one _ _ (.str _) rfl
  | ptr h1 => exact one _ _ (.ptr h1) rfl
  | bptr h1 h2 h3 h4 => exact one _ _ (.bptr h1 h2 h3 h4) rfl
  | bv h1 h2 h3 h4 h5 h6 h7 => exact one _ _ (.bv h1 h2 h3 h4 h5 h6 h7) rfl
  | av h1 h2 h3 => exact one _ _ (.av h1 h2 h3) rfl
  | map h1 => exact one _ _ (.map h1) rfl
  | iter h1 => exact one _ _ (.iter h1) rfl
  | iptr h1 h2 h3 h4 h5 => exact one _ _ (.iptr h1 h2 h3 h4 h5) rfl
  | isl0 => exact one _ _ .isl0 rfl
  | isl h1 h2 h3 h4 h5 h6 => exact one _ _ (.isl h1 h2 h3 h4 h5 h6) rfl
  | fn h1 h2 h3 h4 => exact one _ _ (.fn h1 h2 h3 h4) rfl
  | iface h1 => exact one _ _ (.iface h1) rfl
  | tup h1 h2 => exact one _ _ (.tup h1 h2) rfl

theorem setList_spec (off : Nat) : ∀ (l : List Value) (n : Nat) (xs : Array Value), off + n + l.length ≤ xs.size →
    ((l.zipIdx n).foldl (fun (a : Array Value) (p : Value × Nat) => a.setIfInBounds (off + p.2) p.1) xs).size = xs.size ∧
    ∀ i, ((l.zipIdx n).foldl (fun (a : Array Value) (p : Value × Nat) => a.setIfInBounds (off + p.2) p.1) xs).getD i undef =
      if off + n ≤ i ∧ i < off + n + l.length then l.getD (i - (off + n)) undef else xs.getD i undef := by
  intro l
  induction l with
  | nil => intro n xs _; exact ⟨rfl, fun i => by rw [if_neg (by simp)]; rfl⟩
  | cons y l ih =>
    intro n xs hl
    simp only [List.length_cons] at hl
    simp only [List.zipIdx_cons, List.foldl_cons]
    obtain ⟨h1, h2⟩ := ih (n + 1) (xs.setIfInBounds (off + n) y) (by simp; omega)
    refine ⟨by rw [h1]; simp, fun i => ?_⟩
    rw [h2 i]
    by_cases e : i = off + n
    · subst e
      rw [if_neg (by omega), if_pos (by simp)]
      have : off + n < xs.size := by omega
      simp [Array.getD, this]
    · have hne : (xs.setIfInBounds (off + n) y).getD i undef = xs.getD i undef := by
        simp only [Array.getD_eq_getD_getElem?]
        rw [Array.getElem?_setIfInBounds_ne (by omega)]
      by_cases e2 : off + n ≤ i ∧ i < off + n + (l.length + 1)
      · rw [if_pos (by omega), if_pos (by simpa using e2)]
        rw [show i - (off + n) = (i - (off + (n + 1))) + 1 by omega]
        simp
      · rw [if_neg (by omega), if_neg (by simpa using e2), hne]

theorem VRs.splice {c : Cfg} {cs : List V} {xs : Array Value} (h : VRs c cs xs) {us : List V} {ys : Array Value} (hu : VRs c us ys) (off : Nat) (hl : off + us.length ≤ cs.length) :
    VRs c (cs.take off ++ (us ++ cs.drop (off + us.length))) (ys.zipIdx.foldl (fun a (p : Value × Nat) => a.setIfInBounds (off + p.2) p.1) xs) := by
  have hys := hu.1
  have hxs := h.1
  have e : ys.zipIdx.foldl (fun a (p : Value × Nat) => a.setIfInBounds (off + p.2) p.1) xs = (ys.toList.zipIdx 0).foldl (fun a (p : Value × Nat) => a.setIfInBounds (off + p.2) p.1) xs := by
    rw [← Array.foldl_toList]; simp
  obtain ⟨h1, h2⟩ := setList_spec off ys.toList 0 xs (by simp; omega)
  rw [e]
  refine ⟨by rw [h1]; simp; omega, fun i hi => ?_⟩
  rw [h2 i]
  simp only [List.length_append, List.length_take, List.length_drop] at hi
  by_cases g : off + 0 ≤ i ∧ i < off + 0 + ys.toList.length
  · rw [if_pos g]
    have g1 : off ≤ i := by omega
    have g2 : i - off < us.length := by simp at g; omega
    have e1 : (cs.take off ++ (us ++ cs.drop (off + us.length))).getD i .junk = us.getD (i - off) .junk := by
      simp only [List.getD_eq_getElem?_getD]
      rw [List.getElem?_append_right (by simp; omega), List.getElem?_append_left (by simp; omega)]
      congr 2; simp; omega
    rw [e1]
    have := hu.2 (i - off) g2
    simpa [List.getD_eq_getElem?_getD, Array.getD_eq_getD_getElem?] using this
  · rw [if_neg g]
    have g0 : i < off ∨ off + us.length ≤ i := by simp at g; omega
    have e1 : (cs.take off ++ (us ++ cs.drop (off + us.length))).getD i .junk = cs.getD i .junk := by
      simp only [List.getD_eq_getElem?_getD]
      rcases g0 with g0 | g0
      · rw [List.getElem?_append_left (by simp; omega)]; simp [g0]
      · rw [List.getElem?_append_right (by simp; omega), List.getElem?_append_right (by simp; omega), List.getElem?_drop]
        congr 2; simp; omega
    rw [e1]
    exact h.2 i (by omega)

theorem fill_sound {place : Nat → Option (Nat × Nat)} : ∀ {ps : List (Nat × V)} {cs : List V} {k : List V → R},
    Alg.holds (buildCells place cs ps k) → ∃ cs', Alg.holds (k cs') ∧ cs'.length = cs.length ∧ ∀ (c : Cfg) (qs : List (Nat × Value)) (xs : Array Value), VRs c cs xs → ps.length = qs.length →
      (∀ i (h : i < ps.length) (h' : i < qs.length), ps[i].1 = qs[i].1 ∧ VR c ps[i].2 qs[i].2) → ∃ xs', Instr.fill place xs qs = some xs' ∧ VRs c cs' xs' := by
  intro ps
  induction ps with
  | nil =>
    intro cs k h
    refine ⟨cs, h, rfl, fun c qs xs hr hl _ => ?_⟩
    cases qs with
    | nil => exact ⟨xs, rfl, hr⟩
    | cons _ _ => simp at hl
  | cons p ps ih =>
    intro cs k h
    obtain ⟨i, v⟩ := p
    simp only [buildCells] at h
    obtain ⟨⟨off, size⟩, hp, h⟩ := holds_optK h
    dsimp only at h
    split at h <;> try exact no_fail h
    rename_i hc
    simp only [Bool.and_eq_true, Nat.beq_eq, Nat.ble_eq] at hc
    obtain ⟨⟨h1, h2⟩, h3⟩ := hc
    obtain ⟨cs', g1, gl, g2⟩ := ih h
    refine ⟨cs', g1, by rw [gl]; simp; omega, fun c qs xs hr hl hall => ?_⟩
    cases qs with
    | nil => simp at hl
    | cons q qs =>
      obtain ⟨i', v'⟩ := q
      have h0 := hall 0 (by simp) (by simp)
      simp only [List.getElem_cons_zero] at h0
      obtain ⟨rfl, hv⟩ := h0
      have hcr := cells_rel hv h3
      have hsz : v'.cells.size = size := by rw [← hcr.1, h1]
      have hr' := hr.splice hcr off (by omega)
      rw [h1] at hr'
      obtain ⟨xs', g3, g4⟩ := g2 c qs _ hr' (by simpa using hl) fun j hj hj' => by
        have := hall (j + 1) (by simp; omega) (by simp; omega)
        simpa using this
      refine ⟨xs', ?_, g4⟩
      have hr1 := hr.1
      simp only [Instr.fill, hp]
      rw [if_neg (by simp [hsz]; omega)]
      exact g3

theorem mapM_places (hE : EnvOK P E) (fs : List Field) (w : World) (h : ∀ f ∈ fs, ∃ ft, E.ti f.type = some ft) :
    (fs.mapM (fun f => do pure (f.offset, ← sizeOf f.type) : Field → Sem (Nat × Nat))).run P w = .ok (fs.map fun f => (f.offset, ((E.ti f.type).map (·.size)).getD 0)) w := by
  induction fs with
  | nil => rfl
  | cons f fs ih =>
    obtain ⟨ft, hft⟩ := h f (by simp)
    have h1 := (hE.ty _ _ hft).size w
    have h2 := ih fun g hg => h g (by simp [hg])
    simp only [List.mapM_cons, Sem.run_bind, h1, Result.andThen_ok, Sem.run_pure, h2, List.map_cons, hft, Option.map_some, Option.getD_some]

theorem bounds_sound {len : Nat} {lo hi : Option Operand} {ρ : Operand → V} {k : Nat → Nat → R}
    (h : Alg.holds (sliceBoundsK len len (lo.map ρ) (hi.map ρ) k)) : ∃ l hh, Alg.holds (k l hh) ∧ (l ≤ hh ∧ hh ≤ len) ∧
      ∀ (isS : Bool) (c : Cfg) (ρ' : Operand → Value) (cap : Nat), len ≤ cap → (∀ z, lo = some z → VR c (ρ z) (ρ' z)) → (∀ z, hi = some z → VR c (ρ z) (ρ' z)) →
        ∀ (w : World), (Instr.sliceBounds isS len cap (lo.map ρ') (hi.map ρ') none).run P w = .ok (l, hh, cap) w := by
  have low : ∀ (hh : Nat) (h0 : hh ≤ len), Alg.holds (match lo.map ρ with
      | none => k 0 hh
      | some (.int _ l) => Alg.ob (0 ≤ l ∧ l ≤ (hh : Int)) fun _ => Alg.ix l fun n => k n hh
      | some _ => fail) → ∃ l, Alg.holds (k l hh) ∧ l ≤ hh ∧ ∀ (c : Cfg) (ρ' : Operand → Value), (∀ z, lo = some z → VR c (ρ z) (ρ' z)) →
        ∀ code w, ((match lo.map ρ' with | some v => Instr.sliceBound v hh code | none => pure 0) : Sem Nat).run P w = .ok l w := by
    intro hh h0 hk
    cases lo with
    | none => exact ⟨0, hk, Nat.zero_le _, fun c ρ' _ code w => rfl⟩
    | some z =>
      simp only [Option.map_some] at hk
      split at hk
      · rename_i he; cases he
      · rename_i kk l he
        simp only [Option.some.injEq] at he
        obtain ⟨hb, hk⟩ := (Alg.holds_ob _ _).1 hk
        refine ⟨_, Alg.holds_ix _ _ hk, by omega, fun c ρ' hz code w => ?_⟩
        have := hz z rfl
        rw [he] at this
        simp [this.int_inv, Instr.sliceBound, asIntOf, hb]
      · exact no_fail hk
  unfold sliceBoundsK at h
  cases hi with
  | none =>
    simp only [Option.map_none] at h
    obtain ⟨l, hk, hl, hr⟩ := low len (Nat.le_refl _) h
    refine ⟨l, len, hk, ⟨hl, Nat.le_refl _⟩, fun isS c ρ' cap hc h1 h2 w => ?_⟩
    have := hr c ρ' h1 .sliceB w
    cases lo with
    | none => simpa [Instr.sliceBounds] using this
    | some z => simp only [Option.map_some] at this; simp [Instr.sliceBounds, this]
  | some z =>
    simp only [Option.map_some] at h
    split at h
    · rename_i he; cases he
    · rename_i kk x he
      simp only [Option.some.injEq] at he
      obtain ⟨hb, h⟩ := (Alg.holds_ob _ _).1 h
      replace h := Alg.holds_ix _ _ h
      obtain ⟨l, hk, hl, hr⟩ := low x.toNat (by omega) h
      refine ⟨l, x.toNat, hk, ⟨hl, by omega⟩, fun isS c ρ' cap hc h1 h2 w => ?_⟩
      have := hr c ρ' h1 .sliceB w
      have hz := h2 z rfl
      rw [he] at hz
      have hb' : 0 ≤ x ∧ x ≤ (cap : Int) := by omega
      have hq : ∀ code, (Instr.sliceBound (ρ' z) cap code).run P w = .ok x.toNat w := fun code => by
        simp [hz.int_inv, Instr.sliceBound, asIntOf, hb']
      cases lo with
      | none => simp only [Option.map_none, Sem.run_pure, Result.ok.injEq, and_true] at this; simp [Instr.sliceBounds, hq, ← this]
      | some z => simp only [Option.map_some] at this; simp [Instr.sliceBounds, this, hq]
    · exact no_fail h

theorem bounds3_sound {len : Nat} {lo : Option Operand} {z : Operand} {ρ : Operand → V} {k : Nat → Nat → R}
    (h : Alg.holds (sliceBoundsK len len (lo.map ρ) (some (ρ z)) k)) : ∃ l hh, Alg.holds (k l hh) ∧ (l ≤ hh ∧ hh ≤ len) ∧
      ∀ (isS : Bool) (c : Cfg) (ρ' : Operand → Value) (cap : Nat), len ≤ cap → (∀ y, lo = some y → VR c (ρ y) (ρ' y)) → VR c (ρ z) (ρ' z) →
        ∀ km mv, mv = .int km (hh : Int) → ∀ (w : World), (Instr.sliceBounds isS len cap (lo.map ρ') (some (ρ' z)) (some mv)).run P w = .ok (l, hh, hh) w := by
  unfold sliceBoundsK at h
  dsimp only at h
  split at h
  · rename_i he; cases he
  · rename_i kk x he
    simp only [Option.some.injEq] at he
    obtain ⟨hb, h⟩ := (Alg.holds_ob _ _).1 h
    have hx0 : 0 ≤ x := hb.1
    obtain ⟨n, rfl⟩ := Int.eq_ofNat_of_zero_le hx0
    replace h := Alg.holds_ix _ _ h
    simp only [Int.toNat_natCast] at h
    have hq : ∀ (c : Cfg) (ρ' : Operand → Value), VR c (ρ z) (ρ' z) → ∀ (cap : Nat), n ≤ cap → ∀ code w, (Instr.sliceBound (ρ' z) cap code).run P w = .ok n w := fun c ρ' hz cap hc code w => by
      rw [he] at hz
      have : (0 : Int) ≤ (n : Int) ∧ (n : Int) ≤ (cap : Int) := by omega
      simp [hz.int_inv, Instr.sliceBound, asIntOf]
      omega
    have hm : ∀ km (cap : Nat), n ≤ cap → ∀ code w, (Instr.sliceBound (.int km (n : Int)) cap code).run P w = .ok n w := fun km cap hc code w => by
      simp [Instr.sliceBound, asIntOf]
      omega
    cases lo with
    | none =>
      refine ⟨0, n, h, by omega, fun isS c ρ' cap hc h1 h2 km mv hmv w => ?_⟩
      subst hmv
      simp [Instr.sliceBounds, hm km cap (by omega), hq c ρ' h2 n (Nat.le_refl _)]
    | some y =>
      simp only [Option.map_some] at h
      split at h
      · rename_i e2; cases e2
      · rename_i k2 l e2
        simp only [Option.some.injEq] at e2
        obtain ⟨hb2, h⟩ := (Alg.holds_ob _ _).1 h
        refine ⟨l.toNat, n, Alg.holds_ix _ _ h, by omega, fun isS c ρ' cap hc h1 h2 km mv hmv w => ?_⟩
        subst hmv
        have hy := h1 y rfl
        rw [e2] at hy
        have hl : ∀ code w, (Instr.sliceBound (ρ' y) n code).run P w = .ok l.toNat w := fun code w => by
          simp [hy.int_inv, Instr.sliceBound, asIntOf]
          omega
        simp [Instr.sliceBounds, hm km cap (by omega), hq c ρ' h2 n (Nat.le_refl _), hl]
      · exact no_fail h
  · exact no_fail h


theorem tmp_sound (hE : EnvOK P E) {op : Op} {ρ : Operand → V} {k : V → R} (h : Alg.holds (evTmp E op ρ k)) : ∃ v, Alg.holds (k v) ∧ TmpTo P op ρ v := by
  cases op with
  | move x =>
    refine ⟨ρ x, h, fun c ρ' o ho hρ => ⟨ρ' x, fun w => ?_, hρ x (by simp [Op.operands])⟩⟩
    simp [execOp, ho]
  | assign x =>
    refine ⟨ρ x, h, fun c ρ' o ho hρ => ⟨ρ' x, fun w => ?_, hρ x (by simp [Op.operands])⟩⟩
    simp [execOp, ho]
  | pick a b d =>
    simp only [evTmp] at h
    cases hb : ρ a <;> simp only [hb] at h <;> try exact no_fail h
    rename_i g
    have key : ∀ (c : Cfg) (ρ' : Operand → Value), (∀ x ∈ (Op.pick a b d).operands, VR c (ρ x) (ρ' x)) → ρ' a = .bool g := fun c ρ' hρ => by
      have := hρ a (by simp [Op.operands]); rw [hb] at this; exact this.bool_inv
    cases g with
    | true =>
      replace h := brK_t h
      refine ⟨ρ b, h, fun c ρ' o ho hρ => ⟨ρ' b, fun w => ?_, hρ b (by simp [Op.operands])⟩⟩
      simp [execOp, ho, key c ρ' hρ, asBool]
    | false =>
      replace h := brK_f h
      refine ⟨ρ d, h, fun c ρ' o ho hρ => ⟨ρ' d, fun w => ?_, hρ d (by simp [Op.operands])⟩⟩
      simp [execOp, ho, key c ρ' hρ, asBool]
  | fieldAddr s x f =>
    simp only [evTmp] at h
    obtain ⟨ti, hti, h⟩ := holds_optK h
    have ht := hE.ty s ti hti
    split at h <;> try exact no_fail h
    rename_i fs hd
    obtain ⟨fd, hfd, h⟩ := holds_optK h
    obtain ⟨ft, hft, h⟩ := holds_optK h
    have hft' := hE.ty _ ft hft
    split at h <;> try exact no_fail h
    rename_i hz
    obtain ⟨u, hu, hm⟩ := move_sound h
    refine ⟨u, hu, fun c ρ' o ho hρ => ?_⟩
    obtain ⟨a, ha, hr⟩ := hm c _ (hρ x (by simp [Op.operands]))
    have hz' : ft.size ≠ 0 := by intro e; rw [e] at hz; exact absurd hz (by decide)
    refine ⟨_, fun w => ?_, hr⟩
    simp [execOp, ho, Instr.fieldAt, ht.run, hd, hfd, ha, Instr.sureAddr, fieldPlace, hft'.size, hz']
  | field s x f =>
    simp only [evTmp] at h
    obtain ⟨ti, hti, h⟩ := holds_optK h
    have ht := hE.ty s ti hti
    split at h <;> try exact no_fail h
    rename_i fs cs hd hx
    obtain ⟨fd, hfd, h⟩ := holds_optK h
    obtain ⟨v, hv, hp⟩ := part_sound hE h
    refine ⟨v, hv, fun c ρ' o ho hρ => ?_⟩
    have hx' := hρ x (by simp [Op.operands])
    rw [hx] at hx'
    obtain ⟨xs, hxs, hr⟩ := hx'.agg_inv
    obtain ⟨y, hy, hvy⟩ := hp c xs hr
    exact ⟨y, fun w => by simp [execOp, ho, Instr.field, ht.run, hd, hfd, hxs, asAgg, hy], hvy⟩
  | nilCheck x =>
    simp only [evTmp] at h
    split at h
    · rename_i hx
      refine ⟨_, h, fun c ρ' o ho hρ => ?_⟩
      have hx' := hρ x (by simp [Op.operands])
      rw [hx] at hx'
      obtain ⟨b, n, _, e⟩ := hx'.ptr_inv
      exact ⟨_, fun w => by simp only [execOp, ho, e]; rfl, e ▸ hx'⟩
    · rename_i hx
      refine ⟨_, h, fun c ρ' o ho hρ => ?_⟩
      have hx' := hρ x (by simp [Op.operands])
      rw [hx] at hx'
      obtain ⟨a, _, _, _, _, _, _, _, _, _, e⟩ := hx'.bptr_inv
      exact ⟨_, fun w => by simp only [execOp, ho, e]; rfl, e ▸ hx'⟩
    · rename_i hx
      refine ⟨_, h, fun c ρ' o ho hρ => ?_⟩
      have hx' := hρ x (by simp [Op.operands])
      rw [hx] at hx'
      obtain ⟨b, _, _, _, _, _, _, _, _, _, e⟩ := hx'.iptr_inv
      exact ⟨_, fun w => by simp only [execOp, ho, e]; rfl, e ▸ hx'⟩
    · rename_i hx
      refine ⟨_, h, fun c ρ' o ho hρ => ?_⟩
      have hx' := hρ x (by simp [Op.operands])
      rw [hx] at hx'
      obtain ⟨b, _, e, _, _⟩ := hx'.fn_inv
      exact ⟨_, fun w => by simp only [execOp, ho, e]; rfl, e ▸ hx'⟩
    · exact no_fail h
  | binOp op t x y yt =>
    simp only [evTmp, binK] at h
    split at h
    · rename_i kx a ky b hx hy
      have key : ∀ (c : Cfg) (ρ' : Operand → Value), (∀ z ∈ (Op.binOp op t x y yt).operands, VR c (ρ z) (ρ' z)) → ρ' x = .int kx a ∧ ρ' y = .int ky b := fun c ρ' hρ => by
        have h1 := hρ x (by simp [Op.operands]); rw [hx] at h1
        have h2 := hρ y (by simp [Op.operands]); rw [hy] at h2
        exact ⟨h1.int_inv, h2.int_inv⟩
      have fin : (∃ v, Alg.holds (k v) ∧ ∃ v', (∀ w c, VR c v v' ∧ (binOp op t (.int kx a) (.int ky b)).run P w = .ok v' w)) → ∃ v, Alg.holds (k v) ∧ TmpTo P (.binOp op t x y yt) ρ v := by
        rintro ⟨v, hv, v', hr⟩
        refine ⟨v, hv, fun c ρ' o ho hρ => ⟨v', fun w => ?_, (hr default c).1⟩⟩
        obtain ⟨e1, e2⟩ := key c ρ' hρ
        have eg : (eqGuard op t x y (.int kx a) (.int ky b)).run P w = .ok () w := by unfold eqGuard; cases op <;> simp
        simp [execOp, ho, e1, e2, eg, (hr w c).2]
      split at h
      · exact fin (shl_sound h)
      · exact fin (shr_sound h)
      · split at h <;> try exact no_fail h
        rename_i hk
        rw [← ikEq_spec hk] at fin
        refine fin (intBin_sound h ?_ ?_) <;> (intro e; subst e; simp_all)
    · split at h <;> try exact no_fail h
      · obtain ⟨b, hb, hr⟩ := eq_sound hE h
        refine ⟨_, hb, fun c ρ' o ho hρ => ⟨.bool b, fun w => ?_, .bool _⟩⟩
        obtain ⟨h1, h2⟩ := hr c _ _ (hρ x (by simp [Op.operands])) (hρ y (by simp [Op.operands]))
        simp [execOp, ho, h1 .eql (.inl rfl) x y w, (h2 w).1]
      · obtain ⟨b, hb, hr⟩ := eq_sound hE h
        refine ⟨_, hb, fun c ρ' o ho hρ => ⟨.bool !b, fun w => ?_, .bool _⟩⟩
        obtain ⟨h1, h2⟩ := hr c _ _ (hρ x (by simp [Op.operands])) (hρ y (by simp [Op.operands]))
        simp [execOp, ho, h1 .neq (.inr rfl) x y w, (h2 w).2]
  | unOp op t x =>
    simp only [evTmp, unK] at h
    split at h <;> try exact no_fail h
    · rename_i kd n hx
      refine ⟨_, numW_sound (kk := fun z => k (.int kd z)) h, fun c ρ' o ho hρ => ?_⟩
      have hx' := hρ x (by simp [Op.operands])
      rw [hx] at hx'
      exact ⟨_, fun w => by simp only [execOp, ho, hx'.int_inv, Op.unary, Op.intArith]; rfl, .int _ _⟩
    · rename_i hx
      refine ⟨_, h, fun c ρ' o ho hρ => ?_⟩
      have hx' := hρ x (by simp [Op.operands])
      rw [hx] at hx'
      exact ⟨_, fun w => by simp only [execOp, ho, hx'.int_inv, Op.unary, Op.intBits]; rfl, .int _ _⟩
    · rename_i hx
      refine ⟨_, h, fun c ρ' o ho hρ => ?_⟩
      have hx' := hρ x (by simp [Op.operands])
      rw [hx] at hx'
      exact ⟨_, fun w => by simp only [execOp, ho, hx'.bool_inv, Op.unary]; rfl, .bool _⟩
  | convert src dst x =>
    simp only [evTmp] at h
    obtain ⟨si, hsi, h⟩ := holds_optK h
    have hs := hE.ty src si hsi
    obtain ⟨ti, hti, h⟩ := holds_optK h
    have ht := hE.ty dst ti hti
    split at h <;> try exact no_fail h
    · rename_i kd k0 n hd hx
      refine ⟨_, numW_sound (kk := fun z => k (.int kd z)) h, fun c ρ' o ho hρ => ?_⟩
      have hx' := hρ x (by simp [Op.operands])
      rw [hx] at hx'
      refine ⟨_, fun w => ?_, .int _ _⟩
      simp [execOp, ho, hx'.int_inv, convert, underlying, hs.und, ht.und, hd, Conv.intToInt]
    · rename_i s hd hx
      refine ⟨_, h, fun c ρ' o ho hρ => ?_⟩
      have hx' := hρ x (by simp [Op.operands])
      rw [hx] at hx'
      refine ⟨_, fun w => ?_, .str _⟩
      simp [execOp, ho, hx'.str_inv, convert, underlying, hs.und, ht.und, hd]
  | makeInterface t x =>
    simp only [evTmp] at h
    obtain ⟨ti, hti, h⟩ := holds_optK h
    have ht := hE.ty t ti hti
    split at h <;> try exact no_fail h
    rename_i hd
    refine ⟨_, h, fun c ρ' o ho hρ => ⟨_, fun w => ?_, .iface (hρ x (by simp [Op.operands]))⟩⟩
    simp only [execOp, ho, Instr.makeInterface, Sem.run_bind, ht.run, Result.andThen_ok]
    cases hdd : ti.d <;> first | rfl | exact absurd hdd (hd _)
  | makeFunc f first captured =>
    simp only [evTmp] at h
    have h := mapK_holds (mapK_holds h)
    refine ⟨_, h, fun c ρ' o ho hρ => ⟨_, fun w => by simp only [execOp, ho, Instr.makeFunc]; rfl, ?_⟩⟩
    have h1 : VRs c (first.toList.map ρ) (first.map ρ') := VRs.map fun x hx => hρ x (by simp [Op.operands, hx])
    have h2 : VRs c (captured.toList.map ρ) (captured.map ρ') := VRs.map fun x hx => hρ x (by simp [Op.operands, hx])
    exact .fn h1.1 h1.2 h2.1 h2.2
  | extract x i =>
    simp only [evTmp] at h
    split at h <;> try exact no_fail h
    rename_i vs hx
    obtain ⟨v, hv, h⟩ := holds_optK h
    refine ⟨v, h, fun c ρ' o ho hρ => ?_⟩
    have hx' := hρ x (by simp [Op.operands])
    rw [hx] at hx'
    obtain ⟨xs, e, hr⟩ := hx'.tup_inv
    obtain ⟨y, hy, hvy⟩ := hr.get hv
    exact ⟨y, fun w => by simp [execOp, ho, e, Instr.extract, hy], hvy⟩
  | index t x ix =>
    simp only [evTmp] at h
    obtain ⟨ti, hti, h⟩ := holds_optK h
    have ht := hE.ty t ti hti
    split at h <;> try exact no_fail h
    · rename_i n el cs kk i hd hx hi
      obtain ⟨et, het, h⟩ := holds_optK h
      have het' := hE.ty el et het
      obtain ⟨hb, h⟩ := (Alg.holds_ob _ _).1 h
      replace h := Alg.holds_ix _ _ h
      replace h := partX_sound h
      obtain ⟨v, hv, hp⟩ := part_sound hE h
      refine ⟨v, hv, fun c ρ' o ho hρ => ?_⟩
      have hx' := hρ x (by simp [Op.operands])
      have hi' := hρ ix (by simp [Op.operands])
      rw [hx] at hx'; rw [hi] at hi'
      obtain ⟨xs, e, hr⟩ := hx'.agg_inv
      obtain ⟨y, hy, hvy⟩ := hp c xs hr
      exact ⟨y, fun w => by simp [execOp, ho, e, hi'.int_inv, Instr.index, asIntOf, ht.run, hd, hb, het'.size, hy], hvy⟩
    · rename_i s kk i hd hx hi
      obtain ⟨hb, h⟩ := (Alg.holds_ob _ _).1 h
      replace h := Alg.holds_ix _ _ h
      refine ⟨_, h, fun c ρ' o ho hρ => ?_⟩
      have hx' := hρ x (by simp [Op.operands])
      have hi' := hρ ix (by simp [Op.operands])
      rw [hx] at hx'; rw [hi] at hi'
      refine ⟨_, fun w => ?_, .int _ _⟩
      have hlt : i.toNat < s.size := by omega
      have hlt' : i.toNat < s.data.size := hlt
      have e1 : s[i.toNat]? = some (s.data[i.toNat]'hlt') := by
        rw [getElem?_pos s i.toNat hlt]; rfl
      have e2 : (s.data.getD i.toNat 0) = s.data[i.toNat]'hlt' := by unfold Array.getD; rw [dif_pos hlt']; rfl
      simp only [execOp, ho, hx'.str_inv, hi'.int_inv, Instr.index, asIntOf, Sem.run_bind, Sem.run_pure, Result.andThen_ok, ht.run, hd, hb.1, if_true, e1, e2]
  | indexAddr t x ix =>
    simp only [evTmp] at h
    obtain ⟨ti, hti, h⟩ := holds_optK h
    have ht := hE.ty t ti hti
    split at h <;> try exact no_fail h
    · rename_i n el kk i hd hi
      obtain ⟨et, het, h⟩ := holds_optK h
      have het' := hE.ty el et het
      obtain ⟨hb, h⟩ := (Alg.holds_ob _ _).1 h
      replace h := Alg.holds_ix _ _ h
      obtain ⟨u, hu, hm⟩ := move_sound h
      refine ⟨u, hu, fun c ρ' o ho hρ => ?_⟩
      have hi' := hρ ix (by simp [Op.operands])
      rw [hi] at hi'
      obtain ⟨a, ha, hr⟩ := hm c _ (hρ x (by simp [Op.operands]))
      exact ⟨_, fun w => by simp [execOp, ho, ha, hi'.int_inv, Instr.indexAt, asIntOf, ht.run, hd, hb, het'.size, Instr.sureAddr], hr⟩
    · rename_i el kk i hd hi
      obtain ⟨et, het, h⟩ := holds_optK h
      have het' := hE.ty el et het
      have key : ∀ (b off m : Nat), (Addr.mk b off none).add m = ⟨b, off + m, none⟩ := by
        intro b off m; unfold Addr.add; split <;> simp_all
      split at h <;> try exact no_fail h
      · rename_i len sz g hx
        split at h <;> try exact no_fail h
        rename_i hsz
        simp only [Bool.and_eq_true, Nat.beq_eq, Nat.ble_eq] at hsz
        obtain ⟨hb, h⟩ := (Alg.holds_ob _ _).1 h
        replace h := Alg.holds_ix _ _ h
        refine ⟨_, h, fun c ρ' o ho hρ => ?_⟩
        have hi' := hρ ix (by simp [Op.operands])
        have hx' := hρ x (by simp [Op.operands])
        rw [hi] at hi'; rw [hx] at hx'
        obtain ⟨a, cap, e, _, hall⟩ := hx'.isl_inv
        obtain ⟨b, base, arr, elq, fr, e2, h1, h2, h3, h4, h5⟩ := hall (by omega)
        refine ⟨.pointer (some ⟨b, base + i.toNat * sz + 0, none⟩), fun w => ?_, .iptr h1 h2 h3 h4 h5⟩
        simp [execOp, ho, e, e2, hi'.int_inv, Instr.indexAt, asIntOf, ht.run, hd, hb, het'.size, key, hsz.1]
      · rename_i id ext sz lo len capo hx
        split at h <;> try exact no_fail h
        rename_i hsz
        simp only [Bool.and_eq_true, Nat.beq_eq, Nat.ble_eq] at hsz
        obtain ⟨hb, h⟩ := (Alg.holds_ob _ _).1 h
        replace h := Alg.holds_ix _ _ h
        replace h := addK_sound h
        refine ⟨_, h, fun c ρ' o ho hρ => ?_⟩
        have hi' := hρ ix (by simp [Op.operands])
        have hx' := hρ x (by simp [Op.operands])
        rw [hi] at hi'; rw [hx] at hx'
        obtain ⟨a, cap', b, base, ext', cp, sz', h1, h2, h3, h4, h5, h6, h7, e⟩ := hx'.bv_inv
        obtain ⟨a0, rfl, hs0⟩ := h6 (by omega)
        refine ⟨.pointer (some (a0.add (i.toNat * sz))), fun w => ?_, .bptr h1 h2 ?_ fun e3 => ?_⟩
        · simp [execOp, ho, e, hi'.int_inv, Instr.indexAt, asIntOf, ht.run, hd, hb, het'.size, hsz.1]
        · unfold Addr.add; split <;> simp [hs0]
        · obtain ⟨g1, g2, g3, g4⟩ := h7 e3
          refine ⟨g1, ?_⟩
          have : 0 < cap' * sz := Nat.mul_pos (by omega) (by omega)
          have g5 := g4 this
          simp only [Option.some.injEq] at g5
          rw [g5, key, Nat.add_mul]
          simp [Nat.add_assoc]
      · rename_i id off len capx sz hx
        split at h <;> try exact no_fail h
        rename_i hsz
        simp only [Nat.beq_eq] at hsz
        obtain ⟨hb, h⟩ := (Alg.holds_ob _ _).1 h
        replace h := Alg.holds_ix _ _ h
        refine ⟨_, h, fun c ρ' o ho hρ => ?_⟩
        have hi' := hρ ix (by simp [Op.operands])
        have hx' := hρ x (by simp [Op.operands])
        rw [hi] at hi'; rw [hx] at hx'
        obtain ⟨b, n, a, h1, h3, h4, e⟩ := hx'.av_inv
        refine ⟨.pointer (some ⟨b, off + i.toNat * sz, none⟩), fun w => ?_, .ptr h1⟩
        simp [execOp, ho, e, h4 (by omega), hi'.int_inv, Instr.indexAt, asIntOf, ht.run, hd, hb, het'.size, key, hsz]
  | slice t x lo hi mx =>
    simp only [evTmp] at h
    obtain ⟨ti, hti, h⟩ := holds_optK h
    have ht := hE.ty t ti hti
    split at h <;> try exact no_fail h
    · rename_i el len sz g hd hx
      split at h <;> try exact no_fail h
      obtain ⟨l, hh, hk, hle, hb⟩ := bounds_sound (P := P) h
      obtain ⟨et, het, hk⟩ := holds_optK hk
      have het' := hE.ty el et het
      split at hk <;> try exact no_fail hk
      rename_i hsz
      have hsz := Nat.eq_of_beq_eq_true hsz
      replace hk := offK_sound hk
      refine ⟨_, hk, fun c ρ' o ho hρ => ?_⟩
      have hx' := hρ x (by simp [Op.operands])
      rw [hx] at hx'
      obtain ⟨a, cap, e, hlc, hall⟩ := hx'.isl_inv
      have hr := hb true c ρ' cap hlc (fun z hz => hρ z (by subst hz; simp [Op.operands])) (fun z hz => hρ z (by subst hz; simp [Op.operands]))
      refine ⟨.slice (if cap = l then a else a.map (·.add (l * sz))) (hh - l) (cap - l), fun w => ?_, ?_⟩
      · simp [execOp, ho, e, Instr.sliceAt, Instr.slice, ht.run, hd, hr, het'.size, hsz]
      · by_cases h0 : 0 < hh - l
        · obtain ⟨b, base, arr, elq, fr, e2, h1, h2, h3, h4, h5⟩ := hall (by omega)
          have hne : cap ≠ l := by omega
          rw [if_neg hne, e2]
          have key : (Addr.mk b base none).add (l * sz) = ⟨b, base + l * sz, none⟩ := by unfold Addr.add; split <;> simp_all
          simp only [Option.map_some, key]
          refine .isl h1 h2 ?_ (fun i j hi hj => ?_) (fun i j => h5 _ _) (by omega)
          · have : (l + (hh - l)) * sz ≤ len * sz := Nat.mul_le_mul_right _ (by omega)
            rw [Nat.add_mul] at this; omega
          · have := h4 (l + i) j (by omega) hj
            rwa [show base + l * sz + i * sz + j = base + (l + i) * sz + j by rw [Nat.add_mul]; omega]
        · rw [show hh - l = 0 by omega]
          exact .isl0
    · rename_i el id ext sz lo' len capo hd hx
      split at h
      · obtain ⟨l, hh, hk, hle, hb⟩ := bounds_sound (P := P) h
        obtain ⟨et, het, hk⟩ := holds_optK hk
        have het' := hE.ty el et het
        split at hk <;> try exact no_fail hk
        rename_i hsz
        have hsz := Nat.eq_of_beq_eq_true hsz
        replace hk := addK_sound hk
        refine ⟨_, hk, fun c ρ' o ho hρ => ?_⟩
        have hx' := hρ x (by simp [Op.operands])
        rw [hx] at hx'
        obtain ⟨a, cap', b, base, ext', cp, sz', h1, h2, h3, h4, h5, h6, h7, e⟩ := hx'.bv_inv
        have hr := hb true c ρ' cap' h4 (fun z hz => hρ z (by subst hz; simp [Op.operands])) (fun z hz => hρ z (by subst hz; simp [Op.operands]))
        refine ⟨.slice (if cap' = l then a else a.map (·.add (l * sz))) (hh - l) (cap' - l), fun w => ?_, ?_⟩
        · simp [execOp, ho, e, Instr.sliceAt, Instr.slice, ht.run, hd, hr, het'.size, hsz]
        · refine .bv h1 h2 (by omega) (by omega) (fun cc hcc => ?_) (fun h0 => ?_) (fun he => ?_)
          · cases capo with
            | none => cases hcc
            | some c0 => simp only [Option.some.injEq] at hcc; have := h5 c0 rfl; omega
          · obtain ⟨a0, rfl, hs⟩ := h6 (by omega)
            rw [if_neg (by omega)]
            exact ⟨_, rfl, by unfold Addr.add; split <;> simp [hs]⟩
          · obtain ⟨g1, g2, g3, g4⟩ := h7 he
            refine ⟨g1, by omega, fun hn => ?_, fun h0 => ?_⟩
            · cases capo with
              | none => have := g3 rfl; omega
              | some c0 => cases hn
            · have h0' : 0 < cap' - l := Nat.pos_of_mul_pos_right h0
              have hs0 : 0 < sz := Nat.pos_of_mul_pos_left h0
              rw [if_neg (by omega), g4 (Nat.mul_pos (by omega) hs0)]
              have key : (Addr.mk b (base + lo' * sz) none).add (l * sz) = ⟨b, base + lo' * sz + l * sz, none⟩ := by unfold Addr.add; split <;> simp_all
              simp only [Option.map_some, key, Nat.add_mul, Nat.add_assoc]
      · rename_i mo _
        split at h <;> try exact no_fail h
        rename_i z km m hm _
        obtain ⟨l, hh, hk, hle, hb⟩ := bounds3_sound (P := P) h
        obtain ⟨et, het, hk⟩ := holds_optK hk
        have het' := hE.ty el et het
        split at hk <;> try exact no_fail hk
        rename_i hsz
        have hsz := Nat.eq_of_beq_eq_true hsz
        obtain ⟨hmh, hk⟩ := (Alg.holds_ob _ _).1 hk
        replace hk := addK_sound hk
        refine ⟨_, hk, fun c ρ' o ho hρ => ?_⟩
        have hx' := hρ x (by simp [Op.operands])
        have hm' := hρ mo (by simp [Op.operands])
        rw [hx] at hx'; rw [hm] at hm'
        obtain ⟨a, cap', b, base, ext', cp, sz', h1, h2, h3, h4, h5, h6, h7, e⟩ := hx'.bv_inv
        subst hmh
        have hr := hb true c ρ' cap' h4 (fun y hy => hρ y (by subst hy; simp [Op.operands])) (hρ z (by simp [Op.operands])) km (ρ' mo) hm'.int_inv
        refine ⟨.slice (if hh = l then a else a.map (·.add (l * sz))) (hh - l) (hh - l), fun w => ?_, ?_⟩
        · simp [execOp, ho, e, Instr.sliceAt, Instr.slice, ht.run, hd, hr, het'.size, hsz]
        · refine .bv h1 h2 (by omega) (Nat.le_refl _) (fun cc hcc => by simpa using hcc) (fun h0 => ?_) (fun he => ?_)
          · obtain ⟨a0, rfl, hs⟩ := h6 (by omega)
            rw [if_neg (by omega)]
            exact ⟨_, rfl, by unfold Addr.add; split <;> simp [hs]⟩
          · obtain ⟨g1, g2, g3, g4⟩ := h7 he
            refine ⟨g1, by omega, fun hn => (by cases hn), fun h0 => ?_⟩
            have h0' : 0 < hh - l := Nat.pos_of_mul_pos_right h0
            have hs0 : 0 < sz := Nat.pos_of_mul_pos_left h0
            rw [if_neg (by omega), g4 (Nat.mul_pos (by omega) hs0)]
            have key : (Addr.mk b (base + lo' * sz) none).add (l * sz) = ⟨b, base + lo' * sz + l * sz, none⟩ := by unfold Addr.add; split <;> simp_all
            simp only [Option.map_some, key, Nat.add_mul, Nat.add_assoc]
    · rename_i s hd hx
      split at h <;> try exact no_fail h
      obtain ⟨l, hh, hk, hle, hb⟩ := bounds_sound (P := P) h
      refine ⟨_, hk, fun c ρ' o ho hρ => ?_⟩
      have hx' := hρ x (by simp [Op.operands])
      rw [hx] at hx'
      have hr := hb false c ρ' s.size (Nat.le_refl _) (fun z hz => hρ z (by subst hz; simp [Op.operands])) (fun z hz => hρ z (by subst hz; simp [Op.operands]))
      refine ⟨_, fun w => ?_, .str _⟩
      simp [execOp, ho, hx'.str_inv, Instr.sliceAt, Instr.slice, ht.run, hd, hr]
    · rename_i n el id off hd hx
      split at h <;> try exact no_fail h
      obtain ⟨et, het, h⟩ := holds_optK h
      have het' := hE.ty el et het
      rw [tiF_eq] at h
      obtain ⟨l, hh, hk, hle, hb⟩ := bounds_sound (P := P) h
      refine ⟨_, hk, fun c ρ' o ho hρ => ?_⟩
      have hx' := hρ x (by simp [Op.operands])
      rw [hx] at hx'
      obtain ⟨b, m, hp, e⟩ := hx'.ptr_inv
      have hr := hb false c ρ' n (Nat.le_refl _) (fun z hz => hρ z (by subst hz; simp [Op.operands])) (fun z hz => hρ z (by subst hz; simp [Op.operands]))
      refine ⟨.slice (some (if n = l then ⟨b, off, none⟩ else (Addr.mk b off none).add (l * et.size))) (hh - l) (n - l), fun w => ?_, .av hp (by omega) fun h0 => ?_⟩
      · simp [execOp, ho, e, Instr.sliceAt, Instr.sureAddr, ht.run, hd, hr, het'.size]
      · rw [if_neg (by omega)]
        congr 1
        unfold Addr.add; split <;> simp_all
  | call cc =>
    obtain ⟨callee, args, argTypes⟩ := cc
    cases callee with
    | value f => simp only [evTmp] at h; exact no_fail h
    | invoke r m => simp only [evTmp] at h; exact no_fail h
    | builtin b =>
      simp only [evTmp] at h
      have mem : ∀ (l : List Operand) x, args.toList = l → x ∈ l → x ∈ (Op.call ⟨.builtin b, args, argTypes⟩).operands := fun l x e hx => by
        subst e
        simp only [Op.operands, Call.operands]
        simpa using hx
      split at h <;> try exact no_fail h
      · rename_i x t hargs hty
        obtain ⟨ti, hti, h⟩ := holds_optK h
        have ht := hE.ty t ti hti
        have ha : args = #[x] := by rw [← Array.toArray_toList (xs := args), hargs]
        have fin : ∀ (n : Nat), Alg.holds (k (.int .i64 n)) → (∀ c (y : Value), VR c (ρ x) y → ∀ ty w, (Builtin.len_ argTypes ty #[y]).run P w = .ok (.int .i64 n) w) →
            ∃ v, Alg.holds (k v) ∧ TmpTo P (.call ⟨.builtin .len, args, argTypes⟩) ρ v := by
          intro n hk hr
          refine ⟨_, hk, fun c ρ' o ho hρ => ⟨.int .i64 n, fun w => ?_, .int _ _⟩⟩
          have := hr c (ρ' x) (hρ x (mem _ x hargs (by simp))) o.type w
          simp [execOp, ho, resolve, invoke, builtin, ha, this]
        split at h <;> try exact no_fail h
        · rename_i el len sz g hd hx
          refine fin _ h fun c y hy ty w => ?_
          rw [hx] at hy
          obtain ⟨a, cap, e, _⟩ := hy.isl_inv
          simp [Builtin.len_, hty, ht.run, hd, e, goInt]
        · rename_i el id ext sz lo len capo hd hx
          refine fin _ h fun c y hy ty w => ?_
          rw [hx] at hy
          obtain ⟨a, cap', b, base, ext', cp, sz', h1, h2, h3, h4, h5, h6, h7, e⟩ := hy.bv_inv
          simp [Builtin.len_, hty, ht.run, hd, e, goInt]
        · rename_i el id off len capx sz hd hx
          refine fin _ h fun c y hy ty w => ?_
          rw [hx] at hy
          obtain ⟨b, n, a, h1, h3, h4, e⟩ := hy.av_inv
          simp [Builtin.len_, hty, ht.run, hd, e, goInt]
        · rename_i s hd hx
          refine fin _ h fun c y hy ty w => ?_
          rw [hx] at hy
          simp [Builtin.len_, hty, ht.run, hd, hy.str_inv, goInt]
        · rename_i el n cp hd hx
          refine fin _ h fun c y hy ty w => ?_
          rw [hx] at hy
          simp [Builtin.len_, hty, ht.run, hd, hy.lit_inv, goInt]
        · rename_i n el hd
          refine fin _ h fun c y hy ty w => ?_
          simp [Builtin.len_, hty, ht.run, hd, goInt]
      · rename_i x y hargs
        have ha : args = #[x, y] := by rw [← Array.toArray_toList (xs := args), hargs]
        split at h <;> try exact no_fail h
        rename_i kx a ky b hx hy
        refine ⟨_, h, fun c ρ' o ho hρ => ⟨_, fun w => ?_, .int _ _⟩⟩
        have hx' := hρ x (mem _ x hargs (by simp))
        have hy' := hρ y (mem _ y hargs (by simp))
        rw [hx] at hx'; rw [hy] at hy'
        simp [execOp, ho, resolve, invoke, builtin, ha, Builtin.max_, Builtin.max2, hx'.int_inv, hy'.int_inv]
      · rename_i x y hargs
        have ha : args = #[x, y] := by rw [← Array.toArray_toList (xs := args), hargs]
        split at h <;> try exact no_fail h
        rename_i kx a ky b hx hy
        refine ⟨_, h, fun c ρ' o ho hρ => ⟨_, fun w => ?_, .int _ _⟩⟩
        have hx' := hρ x (mem _ x hargs (by simp))
        have hy' := hρ y (mem _ y hargs (by simp))
        rw [hx] at hx'; rw [hy] at hy'
        simp [execOp, ho, resolve, invoke, builtin, ha, Builtin.min_, Builtin.min2, hx'.int_inv, hy'.int_inv]
  | typeAssert x xt t ok =>
    simp only [evTmp] at h
    obtain ⟨ti, hti, h⟩ := holds_optK h
    have ht := hE.ty t ti hti
    split at h <;> try exact no_fail h
    rename_i u v hx hnd
    split at h <;> try exact no_fail h
    rename_i hu
    have hu := Nat.eq_of_beq_eq_true hu
    refine ⟨_, h, fun c ρ' o ho hρ => ?_⟩
    have hx' := hρ x (by simp [Op.operands])
    rw [hx] at hx'
    obtain ⟨y, e, hr⟩ := hx'.iface_inv
    cases ok with
    | true =>
      refine ⟨.tuple #[y, .bool true], fun w => ?_, .tup rfl fun i hi => ?_⟩
      · simp only [execOp, ho, e, Instr.typeAssert, Sem.run_bind, ht.run, Result.andThen_ok]
        cases hdd : ti.d <;> first | (simp [hu]; done) | exact absurd hdd (hnd _)
      · match i, hi with
        | 0, _ => exact hr
        | 1, _ => exact .bool _
    | false =>
      refine ⟨y, fun w => ?_, hr⟩
      simp only [execOp, ho, e, Instr.typeAssert, Sem.run_bind, ht.run, Result.andThen_ok]
      cases hdd : ti.d <;> first | (simp [hu]; done) | exact absurd hdd (hnd _)
  | build t parts =>
    simp only [evTmp] at h
    obtain ⟨ti, hti, h⟩ := holds_optK h
    have ht := hE.ty t ti hti
    obtain ⟨inf, z, hi1, hi2, hi3, hi4, hi5, hi6, hi7⟩ := ht.info
    have mem : ∀ i (hi : i < parts.size), ∀ (c : Cfg) (ρ' : Operand → Value), (∀ x ∈ (Op.build t parts).operands, VR c (ρ x) (ρ' x)) → VR c (ρ parts[i].2) (ρ' parts[i].2) := fun i hi c ρ' hρ =>
      hρ _ (by simp only [Op.operands, List.mem_toArray, List.mem_map, Array.mem_toList_iff]; exact ⟨parts[i], by simp, rfl⟩)
    have pts : ∀ (c : Cfg) (ρ' : Operand → Value), (∀ x ∈ (Op.build t parts).operands, VR c (ρ x) (ρ' x)) →
        ∀ i (h : i < (parts.toList.map fun (p : Nat × Operand) => (p.1, ρ p.2)).length) (h' : i < (parts.map fun (p : Nat × Operand) => (p.1, ρ' p.2)).toList.length),
          (parts.toList.map fun (p : Nat × Operand) => (p.1, ρ p.2))[i].1 = (parts.map fun (p : Nat × Operand) => (p.1, ρ' p.2)).toList[i].1 ∧
            VR c (parts.toList.map fun (p : Nat × Operand) => (p.1, ρ p.2))[i].2 (parts.map fun (p : Nat × Operand) => (p.1, ρ' p.2)).toList[i].2 := fun c ρ' hρ i hi hi' => by
      simp only [List.length_map, Array.length_toList] at hi
      simp only [List.getElem_map, Array.getElem_toList, Array.getElem_map]
      exact ⟨trivial, mem i hi c ρ' hρ⟩
    split at h <;> try exact no_fail h
    · rename_i fs hd
      have h := mapK_holds h
      split at h <;> try exact no_fail h
      rename_i hall
      have hall : ∀ f ∈ fs.toList, ∃ ft, E.ti f.type = some ft := fun f hf => by
        have := List.all_eq_true.1 hall f hf
        cases he : E.ti f.type with
        | none => simp [he] at this
        | some ft => exact ⟨ft, rfl⟩
      obtain ⟨cs', hk, _, hf⟩ := fill_sound h
      refine ⟨_, hk, fun c ρ' o ho hρ => ?_⟩
      obtain ⟨xs', g1, g2⟩ := hf c (parts.map fun (p : Nat × Operand) => (p.1, ρ' p.2)).toList _ (hi5 c) (by simp) (pts c ρ' hρ)
      refine ⟨.agg xs', fun w => ?_, .agg g2.1 g2.2⟩
      have hz : (zeroValue t).run P w = .ok z w := by simp [zeroValue, typeInfo, hi1, hi4]
      have hm := mapM_places hE fs.toList w hall
      have hm' : (fs.mapM (fun f => do pure (f.offset, ← sizeOf f.type) : Field → Sem (Nat × Nat))).run P w = .ok (fs.toList.map fun f => (f.offset, ((E.ti f.type).map (·.size)).getD 0)).toArray w := by
        rw [← Array.toArray_toList (xs := fs), List.mapM_toArray]
        simp only [Sem.run_map, hm, Result.andThen_ok]
      have hfill : Instr.fill (fun i => (fs.toList.map fun f => (f.offset, ((E.ti f.type).map (·.size)).getD 0)).toArray[i]?) z.cells (parts.map fun (p : Nat × Operand) => (p.1, ρ' p.2)).toList = some xs' := by
        rw [← g1]
        congr 1
        funext i
        cases hi : fs[i]? with
        | none => simp [hi]
        | some fd =>
          obtain ⟨ft, hft⟩ := hall fd (by rw [Array.mem_toList_iff]; exact Array.mem_of_getElem? hi)
          simp [hi, hft]
      have e : (parts.map fun (x : Nat × Operand) => match x with | (i, x) => (i, ρ' x)) = parts.map fun (p : Nat × Operand) => (p.1, ρ' p.2) := rfl
      simp only [execOp, ho, Instr.build, Sem.run_bind, hz, Result.andThen_ok, ht.run, hd, hm', e, hfill]
      rfl
    · rename_i n el hd
      have h := mapK_holds h
      obtain ⟨et, het, h⟩ := holds_optK h
      have het' := hE.ty el et het
      obtain ⟨cs', hk, _, hf⟩ := fill_sound h
      refine ⟨_, hk, fun c ρ' o ho hρ => ?_⟩
      obtain ⟨xs', g1, g2⟩ := hf c (parts.map fun (p : Nat × Operand) => (p.1, ρ' p.2)).toList _ (hi5 c) (by simp) (pts c ρ' hρ)
      refine ⟨.agg xs', fun w => ?_, .agg g2.1 g2.2⟩
      have hz : (zeroValue t).run P w = .ok z w := by simp [zeroValue, typeInfo, hi1, hi4]
      have e : (parts.map fun (x : Nat × Operand) => match x with | (i, x) => (i, ρ' x)) = parts.map fun (p : Nat × Operand) => (p.1, ρ' p.2) := rfl
      simp only [execOp, ho, Instr.build, Sem.run_bind, hz, Result.andThen_ok, ht.run, hd, het'.size, e, g1]
      rfl
  | _ => simp only [evTmp] at h; exact no_fail h
end
end Go.Ab
