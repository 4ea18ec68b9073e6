/- Operations that read, make or write objects. Own work. -/
import Derived.Test.YtcimijgokedcgaaAbRegion
import Derived.Test.YtcimijgokedcgaaAbMap
import Derived.Laws.CopyRow
set_option linter.unusedVariables false
set_option linter.unusedSimpArgs false
set_option linter.unusedSectionVars false
namespace Go.Ab
open Go Go.RowKit
section
variable {R : Type} [Alg R] {P : Program} {E : Env}

theorem setOb_eq {h : Heap} {id : Nat} {ob : Ob} {k : Heap → R} (hk : Alg.holds (setObK h id ob k)) : Alg.holds (k (h.setOb id ob)) ∧ id < 65536 := by
  unfold setObK at hk
  split at hk <;> try exact no_fail hk
  rename_i hb
  obtain ⟨hob, nx⟩ := h
  dsimp only at hk
  rw [T.setK_eq] at hk
  exact ⟨hk, Nat.lt_succ_of_le (Nat.le_of_ble_eq_true hb)⟩

theorem newOb_eq {h : Heap} {ob : Ob} {k : Nat → Heap → R} (hk : Alg.holds (newObK h ob k)) : Alg.holds (k h.nx ⟨h.ob.set (bits 16 h.nx) ob, h.nx + 1⟩) ∧ h.nx < 65536 := by
  obtain ⟨hob, nx⟩ := h
  unfold newObK at hk
  dsimp only at hk
  split at hk <;> try exact no_fail hk
  rename_i hb
  rw [T.setK_eq] at hk
  exact ⟨hk, Nat.lt_succ_of_le (Nat.le_of_ble_eq_true hb)⟩


theorem rowK_holds {get : Nat → V} : ∀ {n j : Nat} {k : List V → R}, Alg.holds (rowK get n j k) → Alg.holds (k ((List.range n).map fun t => get (j + t))) := by
  intro n
  induction n with
  | zero => intro j k h; exact h
  | succ n ih =>
    intro j k h
    have := ih (j := j + 1) (k := fun r => k (get j :: r)) (by simpa [rowK] using h)
    rw [List.range_succ_eq_map, List.map_cons, List.map_map]
    simpa [Function.comp_def, Nat.add_assoc, Nat.add_comm 1] using this

theorem add_off (b off n : Nat) : (Addr.mk b off none).add n = ⟨b, off + n, none⟩ := by unfold Addr.add; split <;> simp_all

/-- cells of a row -/
theorem cells_load {c : Cfg} {b off n : Nat} {arr : Array Value} {el : TypeId} {fr : Nat × Nat} {vs : List V} (hb : c.w.heap[b]? = some (.cells arr el fr)) (hn : off + n ≤ arr.size) (hl : vs.length = n)
    (hv : ∀ t, t < n → VR c (vs.getD t .junk) (arr.getD (off + t) undef)) :
    ∃ ys : Array Value, VRs c vs ys ∧ (loadCells ⟨b, off, none⟩ n).run P c.w = .ok ys c.w ∧ (∀ y, n = 1 → ys[0]? = some y → (load ⟨b, off, none⟩).run P c.w = .ok y c.w) := by
  have hcell : ∀ j, j < n → c.w.cell? ((Addr.mk b off none).add j) = some (arr.getD (off + j) undef) := fun j hj => by
    have : off + j < arr.size := by omega
    rw [add_off]
    simp [World.cell?, hb, Array.getD, this]
  have hrun := run_loadCells (P := P) c.w ⟨b, off, none⟩ n (fun j => arr.getD (off + j) undef) hcell
  refine ⟨_, ⟨by simp [hl], fun i hi => ?_⟩, hrun, fun y h1 hy => ?_⟩
  · have := hv i (by omega)
    have hi' : i < n := by omega
    simpa [Array.getD_eq_getD_getElem?, hi'] using this
  · subst h1
    have h0 := hcell 0 (by omega)
    simp only [Addr.add, if_true] at h0
    simp at hy
    rw [run_load, h0]
    simp [hy]

theorem loadK_sound {h : Heap} {v : V} {n : Nat} {k : List V → R} (hk : Alg.holds (loadK h v n k)) : ∃ vs, Alg.holds (k vs) ∧ vs.length = n ∧ ∀ h' : Heap, (∀ id, ment v id → h'.get id = h.get id) →
    ∀ c x, HRel h' c → VR c v x → ∃ (a : Addr) (ys : Array Value), x = .pointer (some a) ∧ VRs c vs ys ∧ (loadCells a n).run P c.w = .ok ys c.w ∧ (∀ y, n = 1 → ys[0]? = some y → (load a).run P c.w = .ok y c.w) := by
  unfold loadK at hk
  split at hk <;> try exact no_fail hk
  · rename_i id off
    obtain ⟨o, ho, hk⟩ := holds_optK hk
    split at hk <;> try exact no_fail hk
    rename_i cs
    obtain ⟨h1, h2⟩ := takeK_holds hk
    have hle : n = 0 ∨ off + n ≤ cs.length := by simp at h1; omega
    refine ⟨_, h2, by simp at h1 ⊢; omega, fun h' hag c x hh hx => ?_⟩
    obtain ⟨b, m, hp, rfl⟩ := hx.ptr_inv
    obtain ⟨o', g1, g2⟩ := hh.there id _ hp
    rw [hag id rfl, ho] at g1
    cases g1
    cases g2 with
    | cells g3 g4 =>
      have hsz := g4.1
      rcases hle with rfl | hle
      · exact ⟨_, #[], rfl, ⟨by simp, fun i hi => by simp at hi⟩, by simp [loadCells, loadCellsFrom], fun y h0 => by omega⟩
      · obtain ⟨ys, q1, q2, q3⟩ := cells_load (P := P) (c := c) (vs := (cs.drop off).take n) (off := off) (n := n) g3 (by omega) (by simp; omega) (fun t ht => by
          have := g4.2 (off + t) (by omega)
          have e : ((cs.drop off).take n).getD t .junk = cs.getD (off + t) .junk := by simp [List.getD_eq_getElem?_getD, ht]
          rw [e]; exact this)
        exact ⟨_, ys, rfl, q1, q2, q3⟩
  · rename_i id ext sz i j
    obtain ⟨o, ho, hk⟩ := holds_optK hk
    split at hk <;> try exact no_fail hk
    rename_i ext' sz' g
    have hq9 := (Alg.holds_ob _ _).1 hk
    clear hk
    obtain ⟨he, hk⟩ := hq9
    simp only [Bool.and_eq_true, Nat.beq_eq] at he
    obtain ⟨rfl, rfl⟩ := he
    obtain ⟨hb, hk⟩ := (Alg.holds_ob _ _).1 hk
    have hk := rowK_holds hk
    refine ⟨_, hk, by simp, fun h' hag c x hh hx => ?_⟩
    obtain ⟨a, b, base, e2, cap, s2, hp, hle, hs, hfr, rfl⟩ := hx.bptr_inv
    obtain ⟨o', g1, g2⟩ := hh.there id _ hp
    rw [hag id rfl, ho] at g1
    cases g1
    cases g2 with
    | buf g3 g4 =>
      obtain ⟨_, ha⟩ := hfr rfl
      rcases Nat.eq_zero_or_pos n with rfl | hn
      · exact ⟨_, #[], rfl, ⟨by simp, fun i hi => by simp at hi⟩, by simp [loadCells, loadCellsFrom], fun y h0 => by omega⟩
      · obtain ⟨arr, el, q1, q2, q3⟩ := g4 (Nat.mul_pos (by omega) (by omega))
        have hmul : (i + 1) * sz ≤ cap * sz := Nat.mul_le_mul_right _ (by omega)
        rw [Nat.add_mul] at hmul
        obtain ⟨ys, r1, r2, r3⟩ := cells_load (P := P) (c := c) (off := base + i * sz + j) (n := n) (vs := (List.range n).map fun t => g i (j + t)) q1 (by omega) (by simp) (fun t ht => by
          have := q3 i (j + t) hb.1 (by omega)
          simpa [List.getD_eq_getElem?_getD, ht, Nat.add_assoc] using this)
        exact ⟨_, ys, rfl, r1, by rw [ha]; exact r2, by rw [ha]; exact r3⟩
  · rename_i m sz g i j
    obtain ⟨hb, hk⟩ := (Alg.holds_ob _ _).1 hk
    have hk := rowK_holds hk
    refine ⟨_, hk, by simp, fun h' hag c x hh hx => ?_⟩
    obtain ⟨b, base, arr, el, fr, q0, q1, q2, q3, _, rfl⟩ := hx.iptr_inv
    have hmul : (i + 1) * sz ≤ m * sz := Nat.mul_le_mul_right _ (by omega)
    rw [Nat.add_mul] at hmul
    obtain ⟨ys, r1, r2, r3⟩ := cells_load (P := P) (c := c) (off := base + i * sz + j) (n := n) (vs := (List.range n).map fun t => g i (j + t)) q1 (by omega) (by simp) (fun t ht => by
      have := q3 i (j + t) hb.1 (by omega)
      simpa [List.getD_eq_getElem?_getD, ht, Nat.add_assoc] using this)
    exact ⟨_, ys, rfl, r1, r2, r3⟩

theorem run_getObj_map' {w : World} {r : Nat} {es : Array MapEntry} {clock : Nat} (hb : w.heap[r]? = some (.map es clock)) : (getObj r).run P w = .ok (.map es clock) w := by
  simp [getObj, Sem.run, hb]

theorem zeroV_rel {t : TypeId} {ti : TI} (h : TyOK P t ti) {v : V} (hv : zeroV ti = some v) : ∃ z, (∀ w, (zeroValue t).run P w = .ok z w) ∧ ∀ c, VR c v z := by
  obtain ⟨inf, z, hi1, hi2, hi3, hi4, hi5, hi6, hi7⟩ := h.info
  refine ⟨z, fun w => by simp [zeroValue, typeInfo, hi1, hi4], fun c => ?_⟩
  have h5 := hi5 c
  unfold zeroV at hv
  cases ha : aggB ti.d with
  | true =>
    rw [ha] at hv
    simp only [Option.some.injEq] at hv
    subst hv
    rw [hi6.1 ha]
    exact .agg h5.1 h5.2
  | false =>
    rw [ha] at hv
    dsimp only at hv
    have h6 := hi6.2 ha
    split at hv <;> simp only [Option.some.injEq, reduceCtorEq] at hv
    rename_i u hz
    subst hv
    rw [hz, h6] at h5
    simpa using h5.2 0 (by simp)

def mayRel (c : Cfg) : Option V → Option Value → Prop
  | some u, some y => VR c u y
  | none, none => True
  | _, _ => False

theorem look_sound {et : TypeId} {ei : TI} (h : TyOK P et ei) {ok : Bool} {r : Option V} {k : V → R} (hk : Alg.holds (lookK ei ok r k)) :
    ∃ v, Alg.holds (k v) ∧ ∀ c (rv : Option Value), mayRel c r rv → ∃ v', VR c v v' ∧ ∀ w, ((match rv with
      | some y => pure (if ok = true then .tuple #[y, .bool true] else y)
      | none => do
        let z ← zeroValue et
        pure (if ok = true then .tuple #[z, .bool false] else z)) : Sem Value).run P w = .ok v' w := by
  have tup : ∀ (c : Cfg) (v : V) (x : Value) (b : Bool), VR c v x → VR c (.tup [v, .bool b]) (.tuple #[x, .bool b]) := fun c v x b h =>
    .tup rfl fun i hi => match i, hi with
      | 0, _ => h
      | 1, _ => .bool _
  cases r with
  | some u =>
    refine ⟨_, hk, fun c rv hr => ?_⟩
    cases rv with
    | none => exact hr.elim
    | some y =>
      cases ok
      · exact ⟨y, hr, fun w => rfl⟩
      · exact ⟨_, tup c u y true hr, fun w => rfl⟩
  | none =>
    obtain ⟨z, hz, hk⟩ := holds_optK hk
    obtain ⟨x, h1, h2⟩ := zeroV_rel h hz
    refine ⟨_, hk, fun c rv hr => ?_⟩
    cases rv with
    | some y => exact hr.elim
    | none =>
      cases ok
      · exact ⟨x, h2 c, fun w => by simp [h1]⟩
      · exact ⟨_, tup c z x false (h2 c), fun w => by simp [h1]⟩

theorem rd_sound (hE : EnvOK P E) {o : Oper} {ρ : Operand → V} {h : Heap} {k : V → R} (hk : Alg.holds (evRd E o.op ρ h k)) : ∃ v, Alg.holds (k v) ∧ RdTo P o ρ h v := by
  cases hop : o.op with
  | load t x =>
    rw [hop] at hk
    simp only [evRd] at hk
    obtain ⟨ti, hti, hk⟩ := holds_optK hk
    have ht := hE.ty t ti hti
    have mem : x ∈ o.op.operands := by rw [hop]; simp [Op.operands]
    cases ha : aggB ti.d with
    | true =>
      simp only [ha] at hk
      rw [tiF_eq] at hk
      obtain ⟨vs, hk, hl, hload⟩ := loadK_sound (P := P) hk
      refine ⟨_, hk, fun h' hag => OpTo.of_value fun c a hh hρ => ?_⟩
      obtain ⟨ad, ys, e, hys, hrun, _⟩ := hload h' (fun id hm => hag x mem id hm) c _ hh (hρ x mem)
      exact ⟨.agg ys, c, by simp [execOp, hop, Instr.loadAt, e, Instr.sureAddr, loadVar, ht.agg, ha, ht.size, hrun], Ext.refl c, hh, .agg hys.1 hys.2⟩
    | false =>
      simp only [ha] at hk
      obtain ⟨vs, hk, hl, hload⟩ := loadK_sound (P := P) hk
      match vs, hl, hk with
      | [v], _, hk =>
        refine ⟨v, hk, fun h' hag => OpTo.of_value fun c a hh hρ => ?_⟩
        obtain ⟨ad, ys, e, hys, hrun, h1⟩ := hload h' (fun id hm => hag x mem id hm) c _ hh (hρ x mem)
        obtain ⟨y, hy, hvy⟩ := hys.get (i := 0) (v := v) rfl
        refine ⟨y, c, ?_, Ext.refl c, hh, hvy⟩
        have h3 := h1 y (by first | rfl | trivial) hy
        simp only [execOp, hop, Instr.loadAt, e, Instr.sureAddr, loadVar, Sem.run_bind, Sem.run_pure, Result.andThen_ok, ht.agg, ha, Bool.false_eq_true, if_false, h3]
  | lookup t m key ok =>
    rw [hop] at hk
    simp only [evRd] at hk
    obtain ⟨ti, hti, hk⟩ := holds_optK hk
    have ht := hE.ty t ti hti
    split at hk <;> try exact no_fail hk
    rename_i kt et hd
    obtain ⟨sg, kk, n, hk, hf, hn, hkey⟩ := keyK_sound hE hk
    obtain ⟨ei, hei, hk⟩ := holds_optK hk
    have het := hE.ty et ei hei
    have mkey : key ∈ o.op.operands := by rw [hop]; simp [Op.operands]
    have mm : m ∈ o.op.operands := by rw [hop]; simp [Op.operands]
    split at hk
    · rename_i id hm
      obtain ⟨ob, ho, hk⟩ := holds_optK hk
      split at hk <;> try exact no_fail hk
      rename_i es clock
      obtain ⟨r, hr, hk⟩ := Alg.holds_opt _ _ hk
      obtain ⟨v, hk, hv⟩ := look_sound (P := P) het hk
      refine ⟨v, hk, fun h' hag => OpTo.of_value fun c a hh hρ => ?_⟩
      have hx := hρ m mm
      rw [hm] at hx
      obtain ⟨b, hp, e⟩ := hx.map_inv
      obtain ⟨o', g1, g2⟩ := hh.there id _ hp
      rw [hag m mm id (by rw [hm]; rfl), ho] at g1
      cases g1
      cases g2 with
      | map q1 q2 q3 =>
        rename_i arr
        have hK := hkey c _ (hρ key mkey)
        obtain ⟨f1, f2⟩ := findKey_sound (P := P) hf hn hK c.w (es := es) (xs := arr.toList) (by simpa using q2) (fun j h h' => (q3 j h (by simpa using h')).1) hr
        obtain ⟨v', hv', hrun⟩ := hv c (r.map fun p => (arr.toList.getD p.1 default).val) (by
          cases r with
          | none => trivial
          | some p =>
            obtain ⟨s1, _, _⟩ := f2 p rfl
            have hlt : p.1 < es.length := by
              rcases Nat.lt_or_ge p.1 es.length with h' | h'
              · exact h'
              · rw [List.getElem?_eq_none h'] at s1; cases s1
            have := (q3 p.1 hlt (by omega)).2.1
            rw [List.getElem?_eq_getElem hlt] at s1
            simp only [Option.some.injEq] at s1
            rw [s1] at this
            have hlt' : p.1 < arr.size := by omega
            simpa [Option.map_some, List.getD_eq_getElem?_getD, hlt', mayRel] using this)
        refine ⟨v', c, ?_, Ext.refl c, hh, hv'⟩
        have hck := fun em => checkKey_flat (P := P) (d := 9998) hf hn hK em c.w
        simp only [execOp, hop, Instr.lookup, Sem.run_bind, ht.run, hd, e, Result.andThen_ok, run_getObj_map' q1, Sem.run_pure, hck, f1]
        have := hrun c.w
        cases r with
        | none => simp at this ⊢; rw [this]; rfl
        | some p => simp at this ⊢; exact this
    · rename_i g hm
      obtain ⟨v, hk, _⟩ := look_sound (P := P) het hk
      refine ⟨v, hk, fun h' hag => OpTo.of_value fun c a hh hρ => ?_⟩
      have hx := hρ m mm
      rw [hm] at hx
      cases hx
    · rename_i hm
      obtain ⟨v, hk, hv⟩ := look_sound (P := P) het hk
      refine ⟨v, hk, fun h' hag => OpTo.of_value fun c a hh hρ => ?_⟩
      have hx := hρ m mm
      rw [hm] at hx
      obtain ⟨v', hv', hrun⟩ := hv c none trivial
      refine ⟨v', c, ?_, Ext.refl c, hh, hv'⟩
      have hK := hkey c _ (hρ key mkey)
      have hck := fun em => checkKey_flat (P := P) (d := 9998) hf hn hK em c.w
      have hnil : (Instr.findKey kt (a.eval key) []).run P c.w = .ok none c.w := by
        have := (findKey_sound (P := P) hf hn hK c.w (es := []) (xs := []) (r := none) rfl (fun j h => by simp at h) rfl).1
        simpa using this
      simp only [execOp, hop, Instr.lookup, Sem.run_bind, ht.run, hd, hx.lit_inv, Result.andThen_ok, Sem.run_pure, hck, hnil]
      have := hrun c.w
      simp at this ⊢; rw [this]; rfl
    · exact no_fail hk
  | call cl =>
    obtain ⟨callee, args, tys⟩ := cl
    rw [hop] at hk
    cases callee with
    | value x => simp only [evRd] at hk; exact no_fail hk
    | invoke r n => simp only [evRd] at hk; exact no_fail hk
    | builtin b =>
      cases b <;> try (simp only [evRd] at hk; exact no_fail hk)
      simp only [evRd] at hk
      split at hk <;> try exact no_fail hk
      rename_i x t hargs hty
      obtain ⟨ti, hti, hk⟩ := holds_optK hk
      have ht := hE.ty t ti hti
      have ha : args = #[x] := by rw [← Array.toArray_toList (xs := args), hargs]
      have mem : x ∈ o.op.operands := by rw [hop]; simp [Op.operands, Call.operands, ha]
      split at hk <;> try exact no_fail hk
      · rename_i kt et id hd hx
        obtain ⟨ob, ho, hk⟩ := holds_optK hk
        split at hk <;> try exact no_fail hk
        rename_i es clock
        refine ⟨_, hk, fun h' hag => OpTo.of_value fun c a hh hρ => ?_⟩
        have hx' := hρ x mem
        rw [hx] at hx'
        obtain ⟨b, hp, e⟩ := hx'.map_inv
        obtain ⟨o', g1, g2⟩ := hh.there id _ hp
        rw [hag x mem id (by rw [hx]; rfl), ho] at g1
        cases g1
        cases g2 with
        | map q1 q2 q3 =>
          refine ⟨_, c, ?_, Ext.refl c, hh, .int _ _⟩
          simp [execOp, hop, resolve, invoke, builtin, ha, Builtin.len_, hty, ht.run, hd, e, run_getObj_map' q1, goInt, q2]
      · rename_i kt et hd hx
        refine ⟨_, hk, fun h' hag => OpTo.of_value fun c a hh hρ => ?_⟩
        have hx' := hρ x mem
        rw [hx] at hx'
        refine ⟨_, c, ?_, Ext.refl c, hh, .int _ _⟩
        simp [execOp, hop, resolve, invoke, builtin, ha, Builtin.len_, hty, ht.run, hd, hx'.lit_inv, goInt]
  | _ => rw [hop] at hk; simp only [evRd] at hk; exact no_fail hk

/-- A new block, and its object. -/
theorem al_new {h h' : Heap} {c : Cfg} (H : HRel h c) {id : Nat} {ob : Ob} (h0 : h.get id = none) (h1 : id < 65536) (hget : h'.get id = some ob) (hoth : ∀ i, i < 65536 → i ≠ id → h'.get i = h.get i)
    (hnx : h.nx ≤ h'.nx) (hid : id < h'.nx) (p : Pl) (obj : Obj) {w : World} (hw : w.heap = c.w.heap.push obj) (ho : w.os = c.w.os) (ht : w.tape = c.w.tape) (hu : w.output = c.w.output)
    (hown : ∀ b, p.owns b → b = c.w.heap.size) (hor : ∀ c', Ext c c' → c'.pl id = some p → c'.w.heap[c.w.heap.size]? = some obj → OR c' ob p) :
    ∃ c', c'.w = w ∧ Ext c c' ∧ HRel h' c' ∧ c'.pl id = some p ∧ c'.w.heap[c.w.heap.size]? = some obj := by
  have hpn : c.pl id = none := by
    cases hp : c.pl id with
    | none => rfl
    | some q => obtain ⟨o, g, _⟩ := H.there id q hp; rw [h0] at g; cases g
  have hnew : w.heap[c.w.heap.size]? = some obj := by rw [hw]; simp
  have hold : ∀ b, b < c.w.heap.size → w.heap[b]? = c.w.heap[b]? := fun b hb => by rw [hw, Array.getElem?_push, if_neg (by omega)]
  have hsz : w.heap.size = c.w.heap.size + 1 := by rw [hw]; simp
  let c' : Cfg := { pl := fun i => if i = id then some p else c.pl i, w := w, imm := c.imm }
  have hext : Ext c c' := by
    refine ⟨by show c.w.heap.size ≤ w.heap.size; omega, fun _ h => h, fun i q hq => ⟨q, ?_, q.le_refl⟩, fun b hb _ => hold b hb, fun b hb => ?_, ho, ht, hu, fun _ h => .inl h⟩
    · have : i ≠ id := fun e => by subst e; rw [hpn] at hq; cases hq
      simp only [c', this, if_false, hq]
    · obtain ⟨i, q, hq, hqb⟩ := hb
      by_cases e : i = id
      · simp only [c', e, if_true, Option.some.injEq] at hq
        subst hq
        exact .inr (by rw [hown b hqb]; exact Nat.le_refl _)
      · simp only [c', e, if_false] at hq
        exact .inl ⟨i, q, hq, hqb⟩
  refine ⟨c', rfl, hext, ?_, by simp [c'], hnew⟩
  refine H.step h1 rfl rfl hext (fun i q b _ hq hqb => hold b (H.lt b ⟨i, q, hq, hqb⟩)) (fun b hb => ?_) hget hoth hnx hid (hor c' hext (by simp [c']) hnew)
  have := hown b hb
  exact ⟨by show b < w.heap.size; omega, .inr (by omega)⟩

theorem flat_get (l : List V) : ∀ (n i : Nat), i < n * l.length → (List.replicate n l).flatten.getD i .junk = l.getD (i % l.length) .junk := by
  intro n
  induction n with
  | zero => intro i h; simp at h
  | succ n ih =>
    intro i h
    rw [List.replicate_succ, List.flatten_cons]
    by_cases hi : i < l.length
    · rw [Nat.mod_eq_of_lt hi]
      simp only [List.getD_eq_getElem?_getD]
      rw [List.getElem?_append_left hi]
    · have h2 : i - l.length < n * l.length := by rw [Nat.succ_mul] at h; omega
      have := ih (i - l.length) h2
      simp only [List.getD_eq_getElem?_getD] at this ⊢
      rw [List.getElem?_append_right (by omega), this]
      congr 2
      rw [Nat.mod_eq_sub_mod (by omega : l.length ≤ i)]

/-- a row of zero values -/
theorem zero_row {c : Cfg} {zs : List V} {z : Array Value} (h : VRs c zs z) (n : Nat) :
    VRs c (List.replicate n zs).flatten ((Array.range (n * zs.length)).map (z[· % z.size]!)) := by
  have h1 := h.1
  refine ⟨by simp, fun i hi => ?_⟩
  have hi' : i < n * zs.length := by simpa using hi
  have hpos : 0 < zs.length := by
    rcases Nat.eq_zero_or_pos zs.length with h0 | h0
    · rw [h0] at hi'; simp at hi'
    · exact h0
  rw [flat_get zs n i hi']
  have hm : i % zs.length < zs.length := Nat.mod_lt _ hpos
  have := h.2 (i % zs.length) hm
  have e : ((Array.range (n * zs.length)).map (z[· % z.size]!)).getD i undef = z.getD (i % zs.length) undef := by
    have hz : i % zs.length < z.size := by omega
    simp only [Array.getD_eq_getD_getElem?]
    rw [Array.getElem?_map]
    have : (Array.range (n * zs.length))[i]? = some i := by simp [hi']
    rw [this, Array.getElem?_eq_getElem hz]
    simp only [Option.map_some, Option.getD_some, ← h1]
    exact getElem!_pos z _ hz
  rw [e]; exact this

theorem wrap_i64 {n : Int} (h0 : 0 ≤ n) (h1 : n < 2 ^ 62) : IntKind.i64.wrap n = n := by
  simp only [IntKind.wrap, IntKind.bits, IntKind.signed]
  simp
  omega

theorem al_sound (hE : EnvOK P E) {o : Oper} {ρ : Operand → V} {id : Nat} {k : V → Ob → R} (hk : Alg.holds (evAl E o.op ρ id k)) : ∃ v ob, Alg.holds (k v ob) ∧ AlTo P o ρ id v ob := by
  cases hop : o.op with
  | alloc t =>
    rw [hop] at hk
    simp only [evAl] at hk
    obtain ⟨ti, hti, hk⟩ := holds_optK hk
    have ht := hE.ty t ti hti
    obtain ⟨inf, z, hi1, hi2, hi3, hi4, hi5, hi6, hi7⟩ := ht.info
    refine ⟨_, _, hk, fun h h' h0 h1 hget hoth hnx hid => OpTo.of_value fun c a hh hρ => ?_⟩
    obtain ⟨c', e1, e2, e3, e4, e5⟩ := al_new hh h0 h1 hget hoth hnx hid (.row c.w.heap.size ti.zero.length) (.cells z.cells t (0, 0)) (w := { c.w with heap := c.w.heap.push (.cells z.cells t (0, 0)) }) rfl rfl rfl rfl
      (fun b hb => hb.symm) (fun c' he _ hn => .cells hn (hi5 c'))
    refine ⟨_, c', ?_, e2, e3, .ptr e4⟩
    rw [e1]
    simp [execOp, hop, Instr.alloc, zeroValue, typeInfo, hi1, hi4, newVar, newRow]
  | box t x =>
    rw [hop] at hk
    simp only [evAl] at hk
    split at hk <;> try exact no_fail hk
    rename_i hc
    refine ⟨_, _, hk, fun h h' h0 h1 hget hoth hnx hid => OpTo.of_value fun c a hh hρ => ?_⟩
    have hx := cells_rel (hρ x (by rw [hop]; simp [Op.operands])) hc
    obtain ⟨c', e1, e2, e3, e4, e5⟩ := al_new hh h0 h1 hget hoth hnx hid (.row c.w.heap.size (ρ x).cells.length) (.cells (a.eval x).cells t (0, 0)) (w := { c.w with heap := c.w.heap.push (.cells (a.eval x).cells t (0, 0)) }) rfl rfl rfl rfl
      (fun b hb => hb.symm) (fun c' he _ hn => .cells hn (hx.mono hh.ok he))
    refine ⟨_, c', ?_, e2, e3, .ptr e4⟩
    rw [e1]
    simp [execOp, hop, Instr.box, newVar, newRow]
  | makeMap t r =>
    rw [hop] at hk
    cases r with
    | some r => simp only [evAl] at hk; exact no_fail hk
    | none =>
      simp only [evAl] at hk
      refine ⟨_, _, hk, fun h h' h0 h1 hget hoth hnx hid => OpTo.of_value fun c a hh hρ => ?_⟩
      obtain ⟨c', e1, e2, e3, e4, e5⟩ := al_new hh h0 h1 hget hoth hnx hid (.map c.w.heap.size) (.map #[] 0) (w := { c.w with heap := c.w.heap.push (.map #[] 0) }) rfl rfl rfl rfl
        (fun b hb => hb.symm) (fun c' he _ hn => .map hn rfl (fun i hi => by simp at hi))
      refine ⟨_, c', ?_, e2, e3, .map e4⟩
      rw [e1]
      simp [execOp, hop, Instr.makeMap]
  | buildSlice t len parts =>
    rw [hop] at hk
    simp only [evAl] at hk
    obtain ⟨ti, hti, hk⟩ := holds_optK hk
    have ht := hE.ty t ti hti
    split at hk <;> try exact no_fail hk
    rename_i el hd
    obtain ⟨et, het, hk⟩ := holds_optK hk
    have het' := hE.ty el et het
    obtain ⟨inf, z, hi1, hi2, hi3, hi4, hi5, hi6, hi7⟩ := het'.info
    rw [tiF_eq] at hk
    split at hk <;> try exact no_fail hk
    rename_i hsz
    have hk := mapK_holds hk
    obtain ⟨cs', hk, hlen, hf⟩ := fill_sound hk
    refine ⟨_, _, hk, fun h h' h0 h1 hget hoth hnx hid => OpTo.of_value fun c a hh hρ => ?_⟩
    have hle := Nat.le_of_ble_eq_true hsz
    have mem : ∀ i (hi : i < parts.size), VR c (ρ parts[i].2) (a.eval parts[i].2) := fun i hi =>
      hρ _ (by rw [hop]; simp only [Op.operands, List.mem_toArray, List.mem_map, Array.mem_toList_iff]; exact ⟨parts[i], by simp, rfl⟩)
    have pts : ∀ i (h : i < (parts.toList.map fun (p : Nat × Operand) => (p.1, ρ p.2)).length) (h' : i < (parts.map fun (p : Nat × Operand) => (p.1, a.eval p.2)).toList.length),
          (parts.toList.map fun (p : Nat × Operand) => (p.1, ρ p.2))[i].1 = (parts.map fun (p : Nat × Operand) => (p.1, a.eval p.2)).toList[i].1 ∧
            VR c (parts.toList.map fun (p : Nat × Operand) => (p.1, ρ p.2))[i].2 (parts.map fun (p : Nat × Operand) => (p.1, a.eval p.2)).toList[i].2 := fun i hi hi' => by
      simp only [List.length_map, Array.length_toList] at hi
      simp only [List.getElem_map, Array.getElem_toList, Array.getElem_map]
      exact ⟨trivial, mem i hi⟩
    obtain ⟨xs', g1, g2⟩ := hf c (parts.map fun (p : Nat × Operand) => (p.1, a.eval p.2)).toList _ (zero_row (hi5 c) len) (by simp) pts
    have hlen' : cs'.length = len * et.size := by rw [hlen]; simp [hi7]
    have hxs : xs'.size = len * et.size := by rw [← g2.1, hlen']
    obtain ⟨c', e1, e2, e3, e4, e5⟩ := al_new hh h0 h1 hget hoth hnx hid (.buf c.w.heap.size 0 len len et.size) (.cells xs' el (0, 0)) (w := { c.w with heap := c.w.heap.push (.cells xs' el (0, 0)) }) rfl rfl rfl rfl
      (fun b hb => hb.2.symm) (fun c' he _ hn => .buf (Nat.le_refl _) fun _ => ⟨xs', el, hn, by omega, fun i j hi hj => by
        have hlt : i * et.size + j < cs'.length := by
          rw [hlen']
          have : (i + 1) * et.size ≤ len * et.size := Nat.mul_le_mul_right _ (by omega)
          rw [Nat.add_mul] at this; omega
        have := (g2.2 _ hlt).mono hh.ok he
        simpa [listG] using this⟩)
    refine ⟨.slice (some ⟨c.w.heap.size, 0, none⟩) len len, c', ?_, e2, e3, .bv e4 (Nat.le_refl _) (by omega) (Nat.le_refl _) (fun cc hcc => by cases hcc) (fun _ => ⟨_, rfl, rfl⟩) (fun _ => ⟨rfl, by omega, fun _ => by omega, fun _ => by simp⟩)⟩
    rw [e1]
    have e : (parts.map fun (x : Nat × Operand) => match x with | (i, x) => (i, a.eval x)) = parts.map fun (p : Nat × Operand) => (p.1, a.eval p.2) := rfl
    have hzv : (zeroValue el).run P c.w = .ok z c.w := by simp [zeroValue, typeInfo, hi1, hi4]
    simp only [execOp, hop, Instr.buildSlice, Sem.run_bind, ht.run, Result.andThen_ok, hd, het'.size]
    rw [if_neg (by omega)]
    by_cases hz0 : len * et.size = 0
    · have hfill : Instr.fill (fun i => some (i * et.size, et.size)) ((Array.range (len * et.size)).map ((#[] : Array Value)[· % (#[] : Array Value).size]!)) (parts.map fun (p : Nat × Operand) => (p.1, a.eval p.2)).toList = some xs' := by
        rw [← g1, hi7, hz0, show Array.range 0 = #[] from rfl]; simp
      rw [if_pos hz0]
      simp only [Sem.run_bind, Sem.run_pure, Result.andThen_ok, hfill, newRow, run_newObj]
    · have hfill : Instr.fill (fun i => some (i * et.size, et.size)) ((Array.range (len * et.size)).map (z.cells[· % z.cells.size]!)) (parts.map fun (p : Nat × Operand) => (p.1, a.eval p.2)).toList = some xs' := by
        rw [← g1, hi7]
      rw [if_neg hz0]
      simp only [Sem.run_bind, Sem.run_pure, hzv, Result.andThen_ok, hfill, newRow, run_newObj]
  | makeSlice t len cap =>
    rw [hop] at hk
    simp only [evAl] at hk
    obtain ⟨ti, hti, hk⟩ := holds_optK hk
    have ht := hE.ty t ti hti
    split at hk <;> try exact no_fail hk
    rename_i el k1 l k2 cc hd hl hc
    obtain ⟨et, het, hk⟩ := holds_optK hk
    have het' := hE.ty el et het
    obtain ⟨inf, z, hi1, hi2, hi3, hi4, hi5, hi6, hi7⟩ := het'.info
    rw [tiF_eq] at hk
    obtain ⟨hb, hk⟩ := (Alg.holds_ob _ _).1 hk
    replace hk := Alg.holds_ix _ _ hk
    refine ⟨_, _, hk, fun h h' h0 h1 hget hoth hnx hid => OpTo.of_value fun c a hh hρ => ?_⟩
    obtain ⟨hb1, hb2, hb3, hb4⟩ := hb
    have hl' := hρ len (by rw [hop]; simp [Op.operands])
    have hc' := hρ cap (by rw [hop]; simp [Op.operands])
    rw [hl] at hl'; rw [hc] at hc'
    have hzr := zero_row (hi5 c) cc.toNat
    rw [hi7] at hzr
    obtain ⟨c', e1, e2, e3, e4, e5⟩ := al_new hh h0 h1 hget hoth hnx hid (.buf c.w.heap.size 0 l.toNat cc.toNat et.size) (.cells ((Array.range (cc.toNat * et.size)).map (z.cells[· % z.cells.size]!)) el (0, 0))
      (w := { c.w with heap := c.w.heap.push (.cells ((Array.range (cc.toNat * et.size)).map (z.cells[· % z.cells.size]!)) el (0, 0)) }) rfl rfl rfl rfl
      (fun b hb => hb.2.symm) (fun c' he _ hn => .buf (by omega) fun _ => ⟨_, el, hn, by simp, fun i j hi hj => by
        have hlt : i * et.size + j < cc.toNat * et.size := by
          have : (i + 1) * et.size ≤ cc.toNat * et.size := Nat.mul_le_mul_right _ (by omega)
          rw [Nat.add_mul] at this; omega
        have := (hzr.2 (i * et.size + j) (by simp [hi7]; exact hlt)).mono hh.ok he
        rw [flat_get _ _ _ (by rw [hi7]; exact hlt), hi7, Nat.mul_add_mod_self_right, Nat.mod_eq_of_lt hj] at this
        simpa [zeroG] using this⟩)
    refine ⟨.slice (some ⟨c.w.heap.size, 0, none⟩) l.toNat cc.toNat, c', ?_, e2, e3, .bv e4 (Nat.le_refl _) (by omega) (by omega) (fun cc hcc => by cases hcc) (fun _ => ⟨_, rfl, rfl⟩) (fun _ => ⟨rfl, by omega, fun _ => by omega, fun _ => by simp⟩)⟩
    rw [e1]
    have hti : (typeInfo el).run P c.w = .ok inf c.w := by simp [typeInfo, hi1]
    have hw1 : IntKind.i64.wrap l = l := wrap_i64 hb1 (by omega)
    have hw2 : IntKind.i64.wrap cc = cc := wrap_i64 (by omega) hb3
    have hcond : (decide (cc < 0) || decide ((inf.bytes : Int) * cc > 2 ^ 48) || decide (l < 0) || decide (l > cc)) = false := by
      rw [hi3]
      simp only [Bool.or_eq_false_iff, decide_eq_false_iff_not]
      omega
    have hzv : (zeroValue el).run P c.w = .ok z c.w := by simp [zeroValue, typeInfo, hi1, hi4]
    simp only [execOp, hop, Instr.makeSlice, Sem.run_bind, ht.run, Result.andThen_ok, hd, hl'.int_inv, hc'.int_inv, asInt, asIntOf, Sem.run_pure, hti, hw1, hw2]
    simp only [hcond, Bool.false_eq_true, if_false, Sem.run_bind, run_askRoom, Result.andThen_ok, het'.size]
    by_cases hz0 : cc.toNat * et.size = 0
    · have hrow : ((Array.range (cc.toNat * et.size)).map ((#[] : Array Value)[· % (#[] : Array Value).size]!)) = ((Array.range (cc.toNat * et.size)).map (z.cells[· % z.cells.size]!)) := by
        rw [hz0, show Array.range 0 = #[] from rfl]; simp
      rw [if_pos hz0]
      simp only [Sem.run_bind, Sem.run_pure, Result.andThen_ok, hrow, newRow, run_newObj]
    · rw [if_neg hz0]
      simp only [Sem.run_bind, Sem.run_pure, hzv, Result.andThen_ok, newRow, run_newObj]
  | _ => rw [hop] at hk; simp only [evAl] at hk; exact no_fail hk

theorem callFunc_run (hE : EnvOK P E) {f : FuncId} (hf : okF E f = true) (xs : Array Value) (w : World) : (callFunc f xs).run P w = .ok (.enter f xs) w := by
  simp only [okF, Bool.and_eq_true] at hf
  obtain ⟨fn, hfn⟩ := Option.isSome_iff_exists.1 hf.2
  obtain ⟨h1, h2, h3⟩ := hE.fns f fn (Nat.lt_succ_of_le (Nat.le_of_ble_eq_true hf.1)) hfn
  have h4 : fn.body.isNone = false := by
    cases hb : fn.body with
    | none => rw [hb] at h2; cases h2
    | some b => rfl
  simp only [callFunc, Sem.run_bind, run_program, Result.andThen_ok, h1, h3, h4, Bool.false_eq_true, if_false, Sem.run_pure]

theorem VRs.append {c : Cfg} {as bs : List V} {xs ys : Array Value} (h : VRs c as xs) (k : VRs c bs ys) : VRs c (as ++ bs) (xs ++ ys) := by
  have h1 := h.1
  have k1 := k.1
  refine ⟨by simp [h1, k1], fun i hi => ?_⟩
  simp only [List.length_append] at hi
  by_cases g : i < as.length
  · have := h.2 i g
    simp only [List.getD_eq_getElem?_getD, Array.getD_eq_getD_getElem?] at this ⊢
    rw [List.getElem?_append_left g, Array.getElem?_append_left (by omega)]
    exact this
  · have := k.2 (i - as.length) (by omega)
    simp only [List.getD_eq_getElem?_getD, Array.getD_eq_getD_getElem?] at this ⊢
    rw [List.getElem?_append_right (by omega), Array.getElem?_append_right (by omega), ← h1]
    exact this

theorem VRs.cons {c : Cfg} {v : V} {x : Value} {bs : List V} {ys : Array Value} (h : VR c v x) (k : VRs c bs ys) : VRs c (v :: bs) (#[x] ++ ys) :=
  VRs.append (as := [v]) (xs := #[x]) ⟨rfl, fun i hi => by match i, hi with | 0, _ => exact h⟩ k

theorem callee_static (hE : EnvOK P E) {f0 : FuncId} {args : Array Operand} {tys : Array TypeId} {ρ : Operand → V} {h : Heap} {k : FuncId → List V → R} (hk : Alg.holds (calleeK E ⟨.value (.func f0), args, tys⟩ ρ h k)) :
    ∃ as, Alg.holds (k f0 as) ∧ ∀ h', CalleeTo P ⟨.value (.func f0), args, tys⟩ ρ h' f0 as := by
  simp only [calleeK] at hk
  have hk := mapK_holds hk
  split at hk <;> try exact no_fail hk
  rename_i hok
  refine ⟨_, hk, fun h' c ρ' ty hh hf hρ => ⟨args.map ρ', VRs.map fun x hx => hρ x (by simp [Call.operands, hx]), ?_⟩⟩
  simp [resolve, Deferred.ofValue, hf, invoke, callFunc_run hE hok]

theorem wrapnil (a : Array TypeId) (b : TypeId) (ad : Addr) (s m : ByteArray) : Builtin.ssaWrapNilChk_ a b #[.pointer (some ad), .string s, .string m] = pure (.pointer (some ad)) := rfl

theorem callee_sound (hE : EnvOK P E) {cl : Call} {ρ : Operand → V} {h : Heap} {k : FuncId → List V → R} (hk : Alg.holds (calleeK E cl ρ h k)) :
    ∃ f as, Alg.holds (k f as) ∧ CalleeTo P cl ρ h f as := by
  obtain ⟨callee, args, tys⟩ := cl
  have margs : ∀ (c : Cfg) (ρ' : Operand → Value), (∀ x ∈ (Call.mk callee args tys).operands, VR c (ρ x) (ρ' x)) → VRs c (args.toList.map ρ) (args.map ρ') := fun c ρ' hρ =>
    VRs.map fun x hx => hρ x (by simp [Call.operands, hx])
  cases callee with
  | builtin b => simp only [calleeK] at hk; exact no_fail hk
  | value x =>
    have dyn : Alg.holds (match ρ x with
        | .fn (.func f) first captured => mapK ρ args.toList fun as => (match okF E f with
          | true => k f (first ++ (as ++ captured))
          | false => fail)
        | _ => fail) → ∃ f as, Alg.holds (k f as) ∧ CalleeTo P ⟨.value x, args, tys⟩ ρ h f as := by
      intro hk
      split at hk <;> try exact no_fail hk
      rename_i f first captured hx
      have hk := mapK_holds hk
      split at hk <;> try exact no_fail hk
      rename_i hok
      refine ⟨_, _, hk, fun c ρ' ty hh hf hρ => ?_⟩
      have hx' := hρ x (by simp [Call.operands])
      rw [hx] at hx'
      obtain ⟨fs', cs', e, h1, h2⟩ := hx'.fn_inv
      refine ⟨fs' ++ args.map ρ' ++ cs', by rw [Array.append_assoc]; exact h1.append ((margs c ρ' hρ).append h2), ?_⟩
      simp [resolve, Deferred.ofValue, e, invoke, callFunc_run hE hok]
    cases x with
    | func f0 =>
      obtain ⟨as, h1, h2⟩ := callee_static (P := P) hE hk
      exact ⟨f0, as, h1, h2 h⟩
    | tmp t => exact dyn hk
    | const v => exact dyn hk
    | global g => exact dyn hk
  | invoke r name =>
    simp only [calleeK] at hk
    split at hk <;> try exact no_fail hk
    rename_i t v hr
    obtain ⟨ti, hti, hk⟩ := holds_optK hk
    have ht := hE.ty t ti hti
    obtain ⟨⟨f, ptr⟩, hm, hk⟩ := holds_optK hk
    have hk := mapK_holds hk
    obtain ⟨inf, z, hi1, _⟩ := ht.info
    obtain ⟨m, m1, m2, m3⟩ := ht.meth inf hi1 name f ptr hm
    obtain ⟨n, hn⟩ : ∃ n, P.types.size + Made.depth = n + 1 := ⟨P.types.size + 99, rfl⟩
    have fin : ∀ (rv : V) (ry : (c : Cfg) → (ρ' : Operand → Value) → Value → Value → Prop), okF E f = true → Alg.holds (k f (rv :: args.toList.map ρ)) →
        (∀ c y, HRel h c → VR c v y → ∃ u, VR c rv u ∧ ∀ wr, (receiverAt t (.val y) ptr (some wr)).run P c.w = .ok u c.w) → ∃ f as, Alg.holds (k f as) ∧ CalleeTo P ⟨.invoke r name, args, tys⟩ ρ h f as := by
      intro rv _ hok hk hrec
      refine ⟨f, _, hk, fun c ρ' ty hh hf hρ => ?_⟩
      have hr' := hρ r (by simp [Call.operands])
      rw [hr] at hr'
      obtain ⟨y, e, hy⟩ := hr'.iface_inv
      obtain ⟨u, hu, hrun⟩ := hrec c y hh hy
      refine ⟨#[u] ++ args.map ρ', .cons hu (margs c ρ' hρ), ?_⟩
      have hmeth : (method (P.types.size + Made.depth) t y name).run P c.w = .ok (f, u) c.w := by
        rw [hn]
        simp only [method, typeInfo, Sem.run_bind, run_program, Result.andThen_ok, hi1, Sem.run_pure, m1, m2, m3, follow, Array.isEmpty]
        simp [hrun]
      have hcm : (callMethod (ρ' r) name (args.map ρ')).run P c.w = .ok (.enter f (#[u] ++ args.map ρ')) c.w := by
        rw [e]
        simp only [callMethod, Sem.run_bind, run_program, Result.andThen_ok, hmeth, callFunc_run hE hok]
      have hex : (#[ρ' r] ++ args.map ρ').extract 1 (#[ρ' r] ++ args.map ρ').size = args.map ρ' := by
        simp
      have h0 : (#[ρ' r] ++ args.map ρ')[0]? = some (ρ' r) := by rw [Array.getElem?_append_left (by simp)]; rfl
      simp only [resolve, Sem.run_bind, Sem.run_pure, Result.andThen_ok, invoke, h0, hex]
      exact hcm
    split at hk
    · rename_i e hd
      cases ptr with
      | true =>
        dsimp only at hk
        split at hk <;> try exact no_fail hk
        rename_i hok
        exact fin v (fun _ _ _ _ => True) hok hk fun c y hh hy => ⟨y, hy, fun wr => by simp [receiverAt, ht.run, hd, Place.get]⟩
      | false =>
        dsimp only at hk
        obtain ⟨ei, hei, hk⟩ := holds_optK hk
        have he := hE.ty e ei hei
        cases ha : aggB ei.d with
        | true =>
          simp only [ha] at hk
          obtain ⟨vs, hk, hl, hload⟩ := loadK_sound (P := P) hk
          split at hk <;> try exact no_fail hk
          rename_i hok
          refine fin _ (fun _ _ _ _ => True) hok hk fun c y hh hy => ?_
          obtain ⟨ad, ys, ey, hys, hrun, _⟩ := hload h (fun _ _ => rfl) c y hh hy
          refine ⟨.agg ys, .agg hys.1 hys.2, ?_⟩
          intro wr
          simp only [receiverAt, Sem.run_bind, ht.run, hd, Result.andThen_ok, Place.get, ey, strVal, wrapnil, Sem.run_pure, asAddr, loadVar, he.agg, ha, if_true, he.size, hrun]
        | false =>
          simp only [ha] at hk
          obtain ⟨vs, hk, hl, hload⟩ := loadK_sound (P := P) hk
          match vs, hl, hk with
          | [x], _, hk =>
            dsimp only at hk
            split at hk <;> try exact no_fail hk
            rename_i hok
            refine fin _ (fun _ _ _ _ => True) hok hk fun c y hh hy => ?_
            obtain ⟨ad, ys, ey, hys, hrun, h1⟩ := hload h (fun _ _ => rfl) c y hh hy
            obtain ⟨u, hu, hvu⟩ := hys.get (i := 0) (v := x) rfl
            refine ⟨u, hvu, ?_⟩
            have h3 := h1 u (by first | rfl | trivial) hu
            intro wr
            simp only [receiverAt, Sem.run_bind, ht.run, hd, Result.andThen_ok, Place.get, ey, strVal, wrapnil, Sem.run_pure, asAddr, loadVar, he.agg, ha, Bool.false_eq_true, if_false, h3]
    · rename_i hnp
      cases ptr with
      | true => exact no_fail hk
      | false =>
        dsimp only at hk
        split at hk <;> try exact no_fail hk
        rename_i hok
        refine fin v (fun _ _ _ _ => True) hok hk fun c y hh hy => ⟨y, hy, fun wr => ?_⟩
        simp only [receiverAt, Sem.run_bind, ht.run, Result.andThen_ok]
        cases hdd : ti.d <;> first | (simp [Place.get]; done) | exact absurd hdd (hnp _)
theorem T.set_same {α : Type} : ∀ (p : List Bool) (t : T α) (v : α), t.get p = some v → t.set p v = t := by
  intro p
  induction p with
  | nil => intro t v h; cases t <;> simp_all [T.get, T.set]
  | cons b bs ih =>
    intro t v h
    cases t with
    | nil => simp [T.get] at h
    | leaf x => simp [T.get] at h
    | node l r => cases b <;> simp only [T.get] at h <;> simp [T.set, T.left, T.right, ih _ _ h]

theorem setOb_same {h : Heap} {id : Nat} {ob : Ob} (hg : h.get id = some ob) : h.setOb id ob = h := by
  obtain ⟨t, n⟩ := h
  exact congrArg (fun t => Heap.mk t n) (T.set_same _ _ _ hg)

/-- what a load is from is no map -/
theorem load_nomap {h : Heap} {v : V} {n : Nat} {k : List V → R} (hk : Alg.holds (loadK h v n k)) {id : Nat} (hm : ment v id) : ∀ es c, h.get id ≠ some (.map es c) := by
  intro es c hg
  unfold loadK at hk
  split at hk <;> try exact no_fail hk
  · simp only [ment] at hm; subst hm
    obtain ⟨o, ho, hk⟩ := holds_optK hk
    rw [hg] at ho; cases ho; exact no_fail hk
  · simp only [ment] at hm; subst hm
    obtain ⟨o, ho, hk⟩ := holds_optK hk
    rw [hg] at ho; cases ho; exact no_fail hk
  · exact hm.elim

theorem rd_sound2 (hE : EnvOK P E) {o : Oper} {ρ : Operand → V} {h : Heap} {k : V → R} (hk : Alg.holds (evRd E o.op ρ h k)) : ∃ v, Alg.holds (k v) ∧ RdTo P o ρ h v ∧ ∀ t x, o.op = .load t x → LdTo P o ρ h v := by
  obtain ⟨v, h1, h2⟩ := rd_sound (P := P) hE hk
  refine ⟨v, h1, h2, fun t x hop H hag => h2 H fun y hy id hm => hag y hy id hm ?_⟩
  have hy' : y = x := by rw [hop] at hy; simpa [Op.operands] using hy
  subst hy'
  rw [hop] at hk
  simp only [evRd] at hk
  obtain ⟨ti, hti, hk⟩ := holds_optK hk
  split at hk
  · rw [tiF_eq] at hk; exact load_nomap hk hm
  · exact load_nomap hk hm
end
end Go.Ab
