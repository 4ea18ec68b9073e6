/- Operations that write. Own work. -/
import Derived.Test.YtcimijgokedcgaaAbHeap
set_option linter.unusedVariables false
set_option linter.unusedSimpArgs false
set_option linter.unusedSectionVars false
namespace Go.Ab
open Go Go.RowKit
section
variable {R : Type} [Alg R] {P : Program} {E : Env}

theorem cellV_one {c : Cfg} {v : V} {x : Value} (h : VR c v x) (hv : cellV v = true) : x.oneCell' = true := by
  cases h with
  | agg | tup | junk => simp [cellV] at hv
  | lit => cases x <;> first | rfl | (simp [cellV] at hv)
  | _ => rfl

theorem putK_holds : ∀ {cs : List V} {off : Nat} {vs : List V} {k : List V → R}, Alg.holds (putK off vs cs k) →
    off + vs.length ≤ cs.length ∧ (∀ v ∈ vs, cellV v = true) ∧ Alg.holds (k (cs.take off ++ vs ++ cs.drop (off + vs.length))) := by
  intro cs
  induction cs with
  | nil =>
    intro off vs k h
    cases off with
    | zero => cases vs with
      | nil => exact ⟨by simp, fun v hv => (by cases hv), by simpa [putK] using h⟩
      | cons v vs => exact no_fail h
    | succ n => exact no_fail h
  | cons c cs ih =>
    intro off vs k h
    cases off with
    | zero => cases vs with
      | nil => exact ⟨by simp, fun v hv => (by cases hv), by simpa [putK] using h⟩
      | cons v vs =>
        simp only [putK, forceK_eq] at h
        split at h <;> try exact no_fail h
        rename_i hc
        obtain ⟨h1, h2, h3⟩ := ih h
        refine ⟨by simp at h1 ⊢; omega, fun u hu => ?_, by simpa using h3⟩
        rcases List.mem_cons.1 hu with rfl | hu
        · exact hc
        · exact h2 u hu
    | succ n =>
      simp only [putK] at h
      obtain ⟨h1, h2, h3⟩ := ih h
      refine ⟨by simp; omega, h2, ?_⟩
      have : n + 1 + vs.length = (n + vs.length) + 1 := by omega
      simpa [this] using h3

theorem okCells_all : ∀ {vs : List V}, okCells vs = true → ∀ v ∈ vs, cellV v = true := by
  intro vs
  induction vs with
  | nil => intro _ v hv; cases hv
  | cons u us ih =>
    intro h v hv
    simp only [okCells] at h
    split at h <;> try cases h
    rename_i hu
    rcases List.mem_cons.1 hv with rfl | hv
    · exact hu
    · exact ih h v hv

/-- An object that is there is other now. -/
theorem ob_write {h h' : Heap} {c : Cfg} (H : HRel h c) {id : Nat} {p p' : Pl} {ob' : Ob} (hp : c.pl id = some p) (hle : p.le p') {b : Nat} (hob : p.owns b) (hob' : ∀ x, p'.owns x → x = b)
    {w : World} (hsz : w.heap.size = c.w.heap.size) (hoth : ∀ x, x ≠ b → w.heap[x]? = c.w.heap[x]?) (ho : w.os = c.w.os) (ht : w.tape = c.w.tape) (hu : w.output = c.w.output)
    (hget : h'.get id = some ob') (hgo : ∀ i, i < 65536 → i ≠ id → h'.get i = h.get i) (hnx : h.nx ≤ h'.nx) (hor : ∀ c', Ext c c' → c'.pl id = some p' → c'.w = w → OR c' ob' p') :
    ∃ c', c'.w = w ∧ Ext c c' ∧ HRel h' c' ∧ c'.pl id = some p' := by
  have hown : c.owned b := ⟨id, p, hp, hob⟩
  let c' : Cfg := { pl := fun i => if i = id then some p' else c.pl i, w := w, imm := c.imm }
  have hext : Ext c c' := by
    refine ⟨by show c.w.heap.size ≤ w.heap.size; omega, fun _ h => h, fun i q hq => ?_, fun x hx hn => hoth x (fun e => hn (e ▸ hown)), fun x hx => ?_, ho, ht, hu, fun _ h => .inl h⟩
    · by_cases e : i = id
      · subst e
        rw [hp] at hq; cases hq
        exact ⟨p', by simp [c'], hle⟩
      · exact ⟨q, by simp [c', e, hq], q.le_refl⟩
    · obtain ⟨i, q, hq, hqx⟩ := hx
      by_cases e : i = id
      · simp only [c', e, if_true, Option.some.injEq] at hq
        subst hq
        exact .inl (hob' x hqx ▸ hown)
      · simp only [c', e, if_false] at hq
        exact .inl ⟨i, q, hq, hqx⟩
  have hid := (H.nx id p hp)
  refine ⟨c', rfl, hext, ?_, by simp [c']⟩
  refine H.step hid.2 rfl rfl hext (fun i q x hne hq hqx => hoth x (fun e => hne (H.inj i id q p b hq hp (e ▸ hqx) hob))) (fun x hx => ?_) hget hgo hnx (Nat.lt_of_lt_of_le hid.1 hnx) (hor c' hext (by simp [c']) rfl)
  have e := hob' x hx
  subst e
  exact ⟨by show x < w.heap.size; rw [hsz]; exact H.lt x hown, .inl ⟨p, hp, hob⟩⟩

theorem setRow_other (w : World) (g : Nat) (cs : Array Value) (x : Nat) (h : x ≠ g) : (w.setRow g cs).heap[x]? = w.heap[x]? := by
  simp only [World.setRow, Array.getElem?_modify]
  rw [if_neg (Ne.symm h)]

theorem splice_rel {c : Cfg} {cs : List V} {arr : Array Value} (h : VRs c cs arr) {us : List V} {ys : Array Value} (hu : VRs c us ys) (off : Nat) (hl : off + us.length ≤ cs.length) :
    VRs c (cs.take off ++ us ++ cs.drop (off + us.length)) (arr.toList.take off ++ ys.toList ++ arr.toList.drop (off + ys.toList.length)).toArray := by
  have h1 := h.1
  have h2 := hu.1
  refine ⟨by simp; omega, fun i hi => ?_⟩
  simp only [List.length_append, List.length_take, List.length_drop] at hi
  have e : ∀ (A B C : List V) (A' B' C' : List Value), A.length = A'.length → B.length = B'.length →
      (∀ j, j < A.length → VR c (A.getD j .junk) (A'.getD j undef)) → (∀ j, j < B.length → VR c (B.getD j .junk) (B'.getD j undef)) → (∀ j, j < C.length → VR c (C.getD j .junk) (C'.getD j undef)) →
      i < A.length + B.length + C.length → VR c ((A ++ B ++ C).getD i .junk) ((A' ++ B' ++ C').getD i undef) := by
    intro A B C A' B' C' hA hB a1 a2 a3 hlt
    simp only [List.getD_eq_getElem?_getD] at a1 a2 a3 ⊢
    by_cases g : i < A.length
    · rw [List.append_assoc, List.append_assoc, List.getElem?_append_left g, List.getElem?_append_left (by omega)]
      exact a1 i g
    · by_cases g2 : i < A.length + B.length
      · rw [List.append_assoc, List.append_assoc, List.getElem?_append_right (by omega), List.getElem?_append_left (by omega), List.getElem?_append_right (by omega), List.getElem?_append_left (by omega), ← hA]
        exact a2 _ (by omega)
      · rw [List.append_assoc, List.append_assoc, List.getElem?_append_right (by omega), List.getElem?_append_right (by omega), List.getElem?_append_right (by omega), List.getElem?_append_right (by omega), ← hA, ← hB]
        exact a3 _ (by omega)
  have := e (cs.take off) us (cs.drop (off + us.length)) (arr.toList.take off) ys.toList (arr.toList.drop (off + ys.toList.length)) (by simp; omega) (by simp [h2])
    (fun j hj => by
      have hj' : j < off ∧ j < cs.length := by simp at hj; omega
      have := h.2 j hj'.2
      simpa [List.getD_eq_getElem?_getD, Array.getD_eq_getD_getElem?, List.getElem?_take, hj'.1] using this)
    (fun j hj => by have := hu.2 j hj; simpa [List.getD_eq_getElem?_getD, Array.getD_eq_getD_getElem?] using this)
    (fun j hj => by
      have hj' : off + us.length + j < cs.length := by simp at hj; omega
      have := h.2 _ hj'
      simpa [List.getD_eq_getElem?_getD, Array.getD_eq_getD_getElem?, h2] using this) (by simp; omega)
  simpa [Array.getD_eq_getD_getElem?, List.getD_eq_getElem?_getD] using this

theorem store_sound {h : Heap} {av : V} {vs : List V} {k : Heap → R} (hk : Alg.holds (storeK h av vs k)) : ∃ h', Alg.holds (k h') ∧ h.nx = h'.nx ∧
    ∀ c x ys, HRel h c → VR c av x → VRs c vs ys → ∃ (a : Addr) (c' : Cfg), x = .pointer (some a) ∧ (storeCells a ys.toList).run P c.w = .ok () c'.w ∧ Ext c c' ∧ HRel h' c' := by
  unfold storeK at hk
  split at hk <;> try exact no_fail hk
  · rename_i id off
    obtain ⟨o, ho, hk⟩ := holds_optK hk
    split at hk <;> try exact no_fail hk
    rename_i cs
    obtain ⟨h1, h2, h3⟩ := putK_holds hk
    obtain ⟨h3, hid⟩ := setOb_eq h3
    refine ⟨_, h3, rfl, fun c x ys hh hx hys => ?_⟩
    obtain ⟨b, m, hp, rfl⟩ := hx.ptr_inv
    obtain ⟨o', g1, g2⟩ := hh.there id _ hp
    rw [ho] at g1; cases g1
    cases g2 with
    | cells g3 g4 =>
      rename_i arr el
      have hl := hys.1
      have hl2 := g4.1
      have hone : ∀ v ∈ ys.toList, v.oneCell' = true := fun v hv => by
        obtain ⟨i, hi, rfl⟩ := List.getElem_of_mem hv
        have hi' : i < ys.size := by simpa using hi
        have := hys.2 i (by omega)
        have e : vs.getD i .junk ∈ vs := by
          have : i < vs.length := by omega
          rw [List.getD_eq_getElem?_getD, List.getElem?_eq_getElem this]; simp
        have e2 : ys.getD i undef = ys.toList[i] := by simp [Array.getD, hi']
        rw [e2] at this
        exact cellV_one this (h2 _ e)
      have hrun := run_storeCells_at P b off el ys.toList 0 arr c.w g3 (by simp; omega) hone
      simp only [Nat.add_zero] at hrun
      obtain ⟨c', e1, e2, e3, _⟩ := ob_write (h' := h.setOb id (.cells (cs.take off ++ vs ++ cs.drop (off + vs.length)))) hh hp (Pl.le_refl _) (b := b) rfl (fun x hx => hx.symm)
        (w := c.w.setRow b (arr.toList.take off ++ ys.toList ++ arr.toList.drop (off + ys.toList.length)).toArray) (by simp) (fun x hx => setRow_other _ _ _ _ hx) rfl rfl rfl (Heap.get_set_self _ _ _ _)
        (fun i hi hne => setOb_get_ne hid hi hne) (Nat.le_refl _) (fun c' he hpl hw => by
          have hlen : (cs.take off ++ vs ++ cs.drop (off + vs.length)).length = cs.length := by simp; omega
          have := OR.cells (c := c') (cs := cs.take off ++ vs ++ cs.drop (off + vs.length)) (b := b) (arr := (arr.toList.take off ++ ys.toList ++ arr.toList.drop (off + ys.toList.length)).toArray) (el := el)
            (by rw [hw]; exact setRow_heap _ _ _ _ _ _ g3) ((splice_rel (g4.mono hh.ok he) (hys.mono hh.ok he) off h1))
          rwa [hlen] at this)
      exact ⟨_, c', rfl, by rw [e1]; exact hrun, e2, e3⟩
  · rename_i id ext sz i j
    obtain ⟨o, ho, hk⟩ := holds_optK hk
    split at hk <;> try exact no_fail hk
    rename_i ext' sz' g
    have hq9 := (Alg.holds_ob _ _).1 hk
    clear hk
    obtain ⟨hc, hk⟩ := hq9
    simp only [Bool.and_eq_true, Nat.beq_eq] at hc
    obtain ⟨⟨rfl, rfl⟩, hcells, hpos⟩ := hc
    have hpos := Nat.le_of_ble_eq_true hpos
    have hcells := okCells_all hcells
    obtain ⟨hb, hk⟩ := (Alg.holds_ob _ _).1 hk
    obtain ⟨hk, hid⟩ := setOb_eq hk
    refine ⟨_, hk, rfl, fun c x ys hh hx hys => ?_⟩
    obtain ⟨a, b, base, e2, cap, s2, hp, hle, hs, hfr, rfl⟩ := hx.bptr_inv
    obtain ⟨o', g1, g2⟩ := hh.there id _ hp
    rw [ho] at g1; cases g1
    cases g2 with
    | buf g3 g4 =>
      obtain ⟨_, ha⟩ := hfr rfl
      subst ha
      have hcs : 0 < cap * sz := Nat.mul_pos (by omega) (by omega)
      obtain ⟨arr, el, q1, q2, q3⟩ := g4 hcs
      have hl := hys.1
      have hmul : (i + 1) * sz ≤ cap * sz := Nat.mul_le_mul_right _ (by omega)
      rw [Nat.add_mul] at hmul
      have hone : ∀ v ∈ ys.toList, v.oneCell' = true := fun v hv => by
        obtain ⟨t, ht, rfl⟩ := List.getElem_of_mem hv
        have ht' : t < ys.size := by simpa using ht
        have := hys.2 t (by omega)
        have e : vs.getD t .junk ∈ vs := by
          have : t < vs.length := by omega
          rw [List.getD_eq_getElem?_getD, List.getElem?_eq_getElem this]; simp
        have e2 : ys.getD t undef = ys.toList[t] := by simp [Array.getD, ht']
        rw [e2] at this
        exact cellV_one this (hcells _ e)
      have hrun := run_storeCells_at P b (base + i * sz + j) el ys.toList 0 arr c.w q1 (by simp; omega) hone
      simp only [Nat.add_zero] at hrun
      obtain ⟨c', e1, e2, e3, _⟩ := ob_write (h' := h.setOb id (.buf ext sz fun a b => match Nat.beq a i && (Nat.ble j b && Nat.blt b (j + vs.length)) with
          | true => vs.getD (b - j) .junk
          | false => g a b)) hh hp (Pl.le_refl _) (b := b) ⟨hcs, rfl⟩ (fun x hx => hx.2.symm)
        (w := c.w.setRow b (arr.toList.take (base + i * sz + j) ++ ys.toList ++ arr.toList.drop (base + i * sz + j + ys.toList.length)).toArray) (by simp) (fun x hx => setRow_other _ _ _ _ hx) rfl rfl rfl (Heap.get_set_self _ _ _ _)
        (fun i hi hne => setOb_get_ne hid hi hne) (Nat.le_refl _) (fun c' he hpl hw => by
          refine .buf g3 fun _ => ⟨_, el, by rw [hw]; exact setRow_heap _ _ _ _ _ _ q1, by simp; omega, fun p q hp hq => ?_⟩
          have hmul2 : (p + 1) * sz ≤ cap * sz := Nat.mul_le_mul_right _ (by omega)
          rw [Nat.add_mul] at hmul2
          cases hm : Nat.beq p i && (Nat.ble j q && Nat.blt q (j + vs.length)) with
          | true =>
            simp only [Bool.and_eq_true, Nat.beq_eq] at hm
            obtain ⟨rfl, m1, m2⟩ := hm
            have m1 := Nat.le_of_ble_eq_true m1
            have m2 : q < j + vs.length := Nat.le_of_ble_eq_true m2
            have := (hys.2 (q - j) (by omega)).mono hh.ok he
            have e : ((arr.toList.take (base + p * sz + j) ++ ys.toList ++ arr.toList.drop (base + p * sz + j + ys.toList.length)).toArray).getD (base + p * sz + q) undef = ys.getD (q - j) undef := by
              simp only [Array.getD_eq_getD_getElem?, List.getElem?_toArray]
              rw [List.append_assoc, List.getElem?_append_right (by simp; omega), List.getElem?_append_left (by simp; omega)]
              simp only [List.length_take, Array.length_toList, Array.getElem?_toList]
              congr 2
              omega
            rw [e]; exact this
          | false =>
            have hout : base + p * sz + q < base + i * sz + j ∨ base + i * sz + j + vs.length ≤ base + p * sz + q := by
              simp only [Bool.and_eq_false_iff] at hm
              rcases Nat.lt_trichotomy p i with hlt | rfl | hlt
              · have : (p + 1) * sz ≤ i * sz := Nat.mul_le_mul_right _ hlt
                rw [Nat.add_mul] at this; omega
              · rcases hm with hm | hm | hm
                · rw [Nat.beq_refl] at hm; cases hm
                · have : ¬ j ≤ q := fun hle => by rw [Nat.ble_eq_true_of_le hle] at hm; cases hm
                  omega
                · have : ¬ q < j + vs.length := fun hle => by
                    have : Nat.blt q (j + vs.length) = true := Nat.ble_eq_true_of_le hle
                    rw [this] at hm; cases hm
                  omega
              · have : (i + 1) * sz ≤ p * sz := Nat.mul_le_mul_right _ hlt
                rw [Nat.add_mul] at this; omega
            have := (q3 p q hp hq).mono hh.ok he
            have e : ((arr.toList.take (base + i * sz + j) ++ ys.toList ++ arr.toList.drop (base + i * sz + j + ys.toList.length)).toArray).getD (base + p * sz + q) undef = arr.getD (base + p * sz + q) undef := by
              simp only [Array.getD_eq_getD_getElem?, List.getElem?_toArray]
              rcases hout with ho | ho
              · rw [List.append_assoc, List.getElem?_append_left (by simp; omega)]
                simp [List.getElem?_take, ho]
              · rw [List.append_assoc, List.getElem?_append_right (by simp; omega), List.getElem?_append_right (by simp; omega), List.getElem?_drop]
                simp only [List.length_take, Array.length_toList, Array.getElem?_toList]
                congr 2
                omega
            rw [e]; exact this)
      exact ⟨_, c', rfl, by rw [e1]; exact hrun, e2, e3⟩

theorem run_setObj_map' {w : World} {r : Nat} {es : Array MapEntry} {clock : Nat} (o : Obj) (hb : w.heap[r]? = some (.map es clock)) : (setObj r o).run P w = .ok () { w with heap := w.heap.setIfInBounds r o } := by
  simp [setObj, Sem.run, hb]

theorem ME.rel.mono {c c' : Cfg} (hc : c.ok) (h : Ext c c') {e : ME} {x : MapEntry} (hv : ME.rel c e x) : ME.rel c' e x := ⟨hv.1, hv.2.1.mono hc h, hv.2.2⟩

/-- A map's entries are others. -/
theorem map_write {h : Heap} {c : Cfg} (H : HRel h c) {id r : Nat} (hp : c.pl id = some (.map r)) {arr : Array MapEntry} {clock : Nat} (hb : c.w.heap[r]? = some (.map arr clock))
    {es' : List ME} {arr' : Array MapEntry} (clock' : Nat) (hl : es'.length = arr'.size) (hrel : ∀ i (h : i < es'.length) (h' : i < arr'.size), ME.rel c es'[i] arr'[i]) (hid : id < 65536) :
    ∃ c', c'.w = { c.w with heap := c.w.heap.setIfInBounds r (.map arr' clock') } ∧ Ext c c' ∧ HRel (h.setOb id (.map es' clock')) c' := by
  have hlt : r < c.w.heap.size := by
    rcases Nat.lt_or_ge r c.w.heap.size with h' | h'
    · exact h'
    · rw [Array.getElem?_eq_none h'] at hb; cases hb
  obtain ⟨c', e1, e2, e3, _⟩ := ob_write (h' := h.setOb id (.map es' clock')) H hp (Pl.le_refl _) (b := r) rfl (fun x hx => hx.symm)
    (w := { c.w with heap := c.w.heap.setIfInBounds r (.map arr' clock') }) (by simp) (fun x hx => by rw [Array.getElem?_setIfInBounds_ne (Ne.symm hx)]) rfl rfl rfl (Heap.get_set_self _ _ _ _)
    (fun i hi hne => setOb_get_ne hid hi hne) (Nat.le_refl _) (fun c' he hpl hw => by
      refine .map (by rw [hw]; simp [hlt]) hl fun i hi hi' => (hrel i hi hi').mono H.ok he)
  exact ⟨c', e1, e2, e3⟩

theorem setME_length : ∀ (i : Nat) (v : V) (es : List ME), (setME i v es).length = es.length := by
  intro i v es
  induction es generalizing i with
  | nil => cases i <;> rfl
  | cons e es ih => cases i <;> simp [setME, ih]

theorem setME_get : ∀ (i : Nat) (v : V) (es : List ME) (j : Nat) (h : j < (setME i v es).length) (h' : j < es.length), (setME i v es)[j] = if j = i then { es[j] with val := v } else es[j] := by
  intro i v es
  induction es generalizing i with
  | nil => intro j h h'; simp at h'
  | cons e es ih =>
    intro j h h'
    cases i with
    | zero => cases j with
      | zero => simp [setME]
      | succ j => simp [setME]
    | succ i => cases j with
      | zero => simp [setME]
      | succ j =>
        simp only [setME, List.getElem_cons_succ, Nat.add_right_cancel_iff]
        exact ih i j (by simpa [setME] using h) (by simpa using h')

theorem set_rel {c : Cfg} {es : List ME} {arr : Array MapEntry} (hl : es.length = arr.size) (hrel : ∀ i (h : i < es.length) (h' : i < arr.size), ME.rel c es[i] arr[i]) {i : Nat} {v : V} {x : Value} (hv : VR c v x)
    (f : MapEntry → MapEntry) (hf : ∀ (h : i < arr.size), (keyV (f arr[i]).key = keyV arr[i].key) ∧ (f arr[i]).val = x ∧ (f arr[i]).born = arr[i].born) :
    (setME i v es).length = (arr.modify i f).size ∧ ∀ j (h : j < (setME i v es).length) (h' : j < (arr.modify i f).size), ME.rel c (setME i v es)[j] (arr.modify i f)[j] := by
  refine ⟨by rw [setME_length, Array.size_modify]; exact hl, fun j h h' => ?_⟩
  have h1 : j < es.length := by rwa [setME_length] at h
  have h2 : j < arr.size := by omega
  rw [setME_get i v es j h h1, Array.getElem_modify]
  by_cases e : j = i
  · subst e
    obtain ⟨f1, f2, f3⟩ := hf h2
    have := hrel j h1 h2
    simp only [if_true]
    exact ⟨by rw [f1]; exact this.1, by rw [f2]; exact hv, by rw [f3]; exact this.2.2⟩
  · rw [if_neg e, if_neg (Ne.symm e)]
    exact hrel j h1 h2

theorem push_rel {c : Cfg} {es : List ME} {arr : Array MapEntry} (hl : es.length = arr.size) (hrel : ∀ i (h : i < es.length) (h' : i < arr.size), ME.rel c es[i] arr[i]) {e : ME} {x : MapEntry} (hv : ME.rel c e x) :
    (es ++ [e]).length = (arr.push x).size ∧ ∀ j (h : j < (es ++ [e]).length) (h' : j < (arr.push x).size), ME.rel c (es ++ [e])[j] (arr.push x)[j] := by
  refine ⟨by simp [hl], fun j h h' => ?_⟩
  by_cases g : j < es.length
  · rw [List.getElem_append_left g, Array.getElem_push_lt (by omega)]
    exact hrel j g (by omega)
  · have : j = es.length := by simp at h; omega
    subst this
    simp only [List.getElem_append_right (Nat.le_refl _), Nat.sub_self, List.getElem_cons_zero]
    have e2 : (arr.push x)[es.length] = x := by
      have : (arr.push x)[es.length]? = some x := by rw [hl]; simp
      rw [Array.getElem?_eq_getElem h'] at this
      simpa using this
    rw [e2]; exact hv

theorem findBorn_spec : ∀ (b : Nat) (es : List ME) (i j : Nat), findBorn b es i = some j → ∃ m, j = i + m ∧ ∃ (h : m < es.length), es[m].born = b ∧ ∀ k (hk : k < m), es[k].born ≠ b := by
  intro b es
  induction es with
  | nil => intro i j h; simp [findBorn] at h
  | cons e es ih =>
    intro i j h
    simp only [findBorn] at h
    split at h
    · rename_i hb
      simp only [Option.some.injEq] at h
      exact ⟨0, by omega, by simp, by simpa using hb, fun k hk => by omega⟩
    · rename_i hb
      obtain ⟨m, e1, h1, h2, h3⟩ := ih _ _ h
      refine ⟨m + 1, by omega, by simp; omega, by simpa using h2, fun k hk => ?_⟩
      cases k with
      | zero =>
        intro he
        simp only [List.getElem_cons_zero] at he
        rw [he, Nat.beq_refl] at hb
        cases hb
      | succ k => simpa using h3 k (by omega)

/-- what a map's object is -/
theorem map_ob {h : Heap} {c : Cfg} (H : HRel h c) {id : Nat} {es : List ME} {clock : Nat} {x : Value} (ho : h.get id = some (.map es clock)) (hx : VR c (.map id) x) :
    ∃ r arr, x = .map (some r) ∧ c.pl id = some (.map r) ∧ id < 65536 ∧ c.w.heap[r]? = some (.map arr clock) ∧ es.length = arr.size ∧ ∀ i (h : i < es.length) (h' : i < arr.size), ME.rel c es[i] arr[i] := by
  obtain ⟨r, hp, e⟩ := hx.map_inv
  obtain ⟨o', g1, g2⟩ := H.there id _ hp
  rw [ho] at g1
  cases g1
  cases g2 with
  | map q1 q2 q3 => exact ⟨r, _, e, hp, (H.nx id _ hp).2, q1, q2, q3⟩

theorem upd_sound (hE : EnvOK P E) {o : Oper} {t : TypeId} {m key v : Operand} (hop : o.op = .mapUpdate t m key v ∨ o.op = .insert t m key v) {ρ : Operand → V} {h : Heap} {k : V → Heap → R}
    (hk : Alg.holds (evEff E (.mapUpdate t m key v) ρ h k)) : ∃ v h', Alg.holds (k v h') ∧ OpTo P o ρ h v h' ∧ h.nx ≤ h'.nx := by
  have mm : m ∈ o.op.operands ∧ key ∈ o.op.operands ∧ v ∈ o.op.operands := by rcases hop with e | e <;> rw [e] <;> simp [Op.operands]
  have hex : ∀ ρ', execOp ρ' o = (do Instr.mapUpdate t (ρ' m) (ρ' key) (ρ' v); pure .skip) := fun ρ' => by rcases hop with e | e <;> simp [execOp, e]
  simp only [evEff] at hk
  obtain ⟨ti, hti, hk⟩ := holds_optK hk
  have ht := hE.ty t ti hti
  split at hk <;> try exact no_fail hk
  rename_i kt et id hd hm
  obtain ⟨sg, kk, n, hk, hf, hn, hkey⟩ := keyK_sound hE hk
  obtain ⟨ob, ho, hk⟩ := holds_optK hk
  split at hk <;> try exact no_fail hk
  rename_i es clock
  obtain ⟨r, hr, hk⟩ := Alg.holds_opt _ _ hk
  cases r with
  | some p =>
    obtain ⟨i, e⟩ := p
    obtain ⟨hk, hid⟩ := setOb_eq hk
    refine ⟨_, _, hk, OpTo.of_skip fun c a hh hρ => ?_, Nat.le_refl _⟩
    have hx := hρ m mm.1
    rw [hm] at hx
    obtain ⟨b, arr, ex, hp, _, q1, q2, q3⟩ := map_ob hh ho hx
    have hK := hkey c _ (hρ key mm.2.1)
    obtain ⟨f1, f2⟩ := findKey_sound (P := P) hf hn hK c.w (es := es) (xs := arr.toList) (by simpa using q2) (fun j h h' => (q3 j h (by simpa using h')).1) hr
    obtain ⟨s1, s2, s3⟩ := f2 (i, e) rfl
    have hlt : i < es.length := by
      rcases Nat.lt_or_ge i es.length with h' | h'
      · exact h'
      · rw [List.getElem?_eq_none h'] at s1; cases s1
    have hlt' : i < arr.size := by omega
    rw [List.getElem?_eq_getElem hlt] at s1
    simp only [Option.some.injEq] at s1
    have hold : keyV arr[i].key = some (sg, kk) := by
      have := (q3 i hlt hlt').1
      rw [s1] at this
      rw [this]; simp only at s2 s3; rw [s2, s3]
    obtain ⟨l1, l2⟩ := set_rel q2 q3 (hρ v mm.2.2) (fun e => { e with key := a.eval key, val := a.eval v }) (i := i) (fun _ => ⟨by simp only; rw [hold, hK], rfl, rfl⟩)
    obtain ⟨c', e1, e2, e3⟩ := map_write hh hp q1 clock l1 l2 hid
    refine ⟨c', ?_, e2, e3⟩
    have hck := fun em => checkKey_flat (P := P) (d := 9998) hf hn hK em c.w
    rw [hex, e1]
    simp only [Instr.mapUpdate, Sem.run_bind, ht.run, hd, ex, Result.andThen_ok, run_getObj_map' q1, hck, f1, Option.map_some, Array.getElem?_eq_getElem hlt', Option.getD_some, stays hold hK, run_setObj_map' _ q1, Sem.run_pure]
  | none =>
    obtain ⟨hk, hid⟩ := setOb_eq hk
    refine ⟨_, _, hk, OpTo.of_skip fun c a hh hρ => ?_, Nat.le_refl _⟩
    have hx := hρ m mm.1
    rw [hm] at hx
    obtain ⟨b, arr, ex, hp, _, q1, q2, q3⟩ := map_ob hh ho hx
    have hK := hkey c _ (hρ key mm.2.1)
    obtain ⟨f1, f2⟩ := findKey_sound (P := P) hf hn hK c.w (es := es) (xs := arr.toList) (by simpa using q2) (fun j h h' => (q3 j h (by simpa using h')).1) hr
    obtain ⟨l1, l2⟩ := push_rel q2 q3 (e := ⟨sg, kk, ρ v, clock⟩) (x := { key := a.eval key, val := a.eval v, born := clock }) ⟨hK, hρ v mm.2.2, rfl⟩
    obtain ⟨c', e1, e2, e3⟩ := map_write hh hp q1 (clock + 1) l1 l2 hid
    refine ⟨c', ?_, e2, e3⟩
    have hck := fun em => checkKey_flat (P := P) (d := 9998) hf hn hK em c.w
    rw [hex, e1]
    simp only [Instr.mapUpdate, Sem.run_bind, ht.run, hd, ex, Result.andThen_ok, run_getObj_map' q1, hck, f1, Option.map_none, run_setObj_map' _ q1, Sem.run_pure]

theorem modify_self (arr : Array MapEntry) (i : Nat) (K : Value) (h : ∀ (h : i < arr.size), arr[i].key = K) : (arr.modify i fun e => { e with key := K }) = arr := by
  apply Array.ext
  · simp
  · intro j h1 h2
    rw [Array.getElem_modify]
    by_cases e : i = j
    · subst e
      have := h h2
      simp only [if_true]
      cases hq : arr[i] with
      | mk a b c => rw [hq] at this; simp only at this; rw [this]
    · rw [if_neg e]

theorem set_self {w : World} {r : Nat} {o : Obj} (h : w.heap[r]? = some o) : { w with heap := w.heap.setIfInBounds r o } = w := by
  have : w.heap.setIfInBounds r o = w.heap := by
    apply Array.ext
    · simp
    · intro j h1 h2
      rw [Array.getElem_setIfInBounds]
      by_cases e : r = j
      · subst e
        rw [Array.getElem?_eq_getElem h2] at h
        simp only [Option.some.injEq] at h
        simp [h]
      · simp [e]
      · exact h2
  rw [this]

end
end Go.Ab
