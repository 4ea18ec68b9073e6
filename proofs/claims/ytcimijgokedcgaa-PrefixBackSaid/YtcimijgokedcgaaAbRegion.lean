/- A region: in the order of the text, and in whatever order. Own work. -/
import Derived.Test.YtcimijgokedcgaaAbOps
set_option linter.unusedVariables false
set_option linter.unusedSimpArgs false
set_option linter.unusedSectionVars false
namespace Go.Ab
open Go Go.RowKit
section
variable {R : Type} [Alg R] {P : Program} {E : Env}

def St.put (st : St) (dst : Option Tmp) (v : V) : St := match dst with
  | none => st
  | some d => ⟨st.tm.set (bits 9 d) v, st.hp⟩

def dstOK (fs : Nat) (dst : Option Tmp) : Prop := ∀ d : Nat, dst = some d → d < fs ∧ d < 512

theorem setTm_put {fs : Nat} {st : St} {dst : Option Tmp} {v : V} {k : St → R} (h : Alg.holds (setTmK fs st dst v k)) : Alg.holds (k (st.put dst v)) ∧ dstOK fs dst := by
  cases dst with
  | none => exact ⟨h, fun d hd => by cases hd⟩
  | some d =>
    simp only [setTmK] at h
    split at h <;> try exact no_fail h
    rename_i hd
    simp only [Bool.and_eq_true] at hd
    rw [forceK_eq, T.setK_eq] at h
    refine ⟨h, fun d' hd' => ?_⟩
    simp only [Option.some.injEq] at hd'
    subst hd'
    exact ⟨Nat.le_of_ble_eq_true hd.1, Nat.lt_succ_of_le (Nat.le_of_ble_eq_true hd.2)⟩

theorem opd_put_ne {st : St} {dst : Option Tmp} {v : V} {fs : Nat} (hd : dstOK fs dst) {x : Operand} (h : ∀ d, dst = some d → x ≠ .tmp d) : opd (st.put dst v).tm x = opd st.tm x := by
  cases dst with
  | none => rfl
  | some d =>
    cases x with
    | tmp t =>
      have hne : t ≠ d := fun e => h d rfl (by rw [e])
      by_cases ht : Nat.ble t 511 = true
      · have : (st.tm.set (bits 9 d) v).get (bits 9 t) = st.tm.get (bits 9 t) :=
          T.get_set_ne _ _ _ (fun hb => hne (bits_inj 9 _ _ (hd d rfl).2 (Nat.lt_succ_of_le (Nat.le_of_ble_eq_true ht)) hb).symm) (by simp [bits_length]) _
        simp only [Ab.opd, ht, St.put, this]
      · have ht' : Nat.ble t 511 = false := Bool.eq_false_iff.2 ht
        simp only [Ab.opd, ht']
    | _ => rfl

theorem Rel.put {fs : Nat} {st : St} {c : Cfg} {a : Act} (hr : Rel fs st c a) {dst : Option Tmp} (hd : dstOK fs dst) {v : V} {v' : Value} (hv : VR c v v') : Rel fs (st.put dst v) c (a.put dst v') := by
  cases dst with
  | none => exact hr
  | some d =>
    obtain ⟨h1, h2⟩ := hd d rfl
    refine ⟨hr.hp, by simp [Act.put, hr.size], hr.defers, fun t ht => ?_⟩
    have hble : Nat.ble t 511 = true := Nat.ble_eq_true_of_le (Nat.le_of_lt_succ ht)
    by_cases e : t = d
    · subst e
      have hlt : t < a.tmps.size := by rw [hr.size]; exact h1
      have e0 : Ab.opd (st.put (some t) v).tm (.tmp t) = v := by simp [Ab.opd, hble, St.put, T.get_set_self]
      rw [e0]
      simpa [Act.put, Array.getD, hlt] using hv
    · have e1 : Ab.opd (st.put (some d) v).tm (.tmp t) = Ab.opd st.tm (.tmp t) := opd_put_ne hd (by intro d' hd' hx; cases hd'; cases hx; exact e rfl)
      rw [e1]
      have := hr.tm t ht
      simp only [Act.put, Array.getD_eq_getD_getElem?] at this ⊢
      rw [Array.getElem?_setIfInBounds_ne (Ne.symm e)]
      exact this

theorem St.put_comm (st : St) {x y : Option Tmp} {fs : Nat} (hx : dstOK fs x) (hy : dstOK fs y) (u v : V) (h : ∀ d, x = some d → y ≠ some d) :
    (st.put x u).put y v = (st.put y v).put x u := by
  cases x with
  | none => rfl
  | some d =>
    cases y with
    | none => rfl
    | some e =>
      have hne : d ≠ e := fun q => h d rfl (by rw [q])
      exact congrArg (fun t => St.mk t st.hp) (T.set_comm _ _ _ _ (fun hb => hne (bits_inj 9 _ _ (hx d rfl).2 (hy e rfl).2 hb)) (by simp [bits_length]) _)

def Heap.setOb (h : Heap) (id : Nat) (ob : Ob) : Heap := ⟨h.ob.set (bits 16 id) ob, h.nx⟩

/-- What a guard says: whether the operation is wanted. -/
def gv (ops : Array Oper) (tm : T V) (o : Oper) : Option Bool := match o.guard with
  | none => some true
  | some (j, want) => match (ops[j]?).bind (·.dst) with
    | some d => match opd tm (.tmp d) with
      | .bool b => some (b == want)
      | _ => none
    | none => none

theorem gv_wanted {fs : Nat} {ops : Array Oper} {st : St} {o : Oper} {b : Bool} (h : gv ops st.tm o = some b) {c : Cfg} {a : Act} (hr : Rel fs st c a) : Region.wanted o (yielded ops a.tmps) = b := by
  unfold gv at h
  cases hg : o.guard with
  | none => simp only [hg, Option.some.injEq] at h; subst h; simp [Region.wanted, hg]
  | some g =>
    obtain ⟨j, want⟩ := g
    simp only [hg] at h
    cases hd : (ops[j]?).bind (·.dst) with
    | none => simp [hd] at h
    | some d =>
      simp only [hd] at h
      cases hv : opd st.tm (.tmp d) with
      | bool b' =>
        simp only [hv, Option.some.injEq] at h
        have := hr.opd (.tmp d)
        rw [hv] at this
        have e2 : a.tmps.getD d undef = .bool b' := this.bool_inv
        have e3 : a.tmps[d]? = some (.bool b') := by
          rw [Array.getD_eq_getD_getElem?] at e2
          cases hq : a.tmps[d]? with
          | none => rw [hq] at e2; simp [undef] at e2
          | some y => rw [hq] at e2; simp only [Option.getD_some] at e2; rw [e2]
        have hy : yielded ops a.tmps j = some b' := by simp [yielded, hd, e3]
        simp [Region.wanted, hg, hy, ← h]
      | _ => simp [hv] at h

theorem guard_gv {ops : Array Oper} {tm : T V} {o : Oper} {yes no : Unit → R} (h : Alg.holds (guardK ops.toList tm o.guard yes no)) :
    (Alg.holds (yes ()) ∧ gv ops tm o = some true) ∨ (Alg.holds (no ()) ∧ gv ops tm o = some false) := by
  unfold guardK at h
  unfold gv
  cases hg : o.guard with
  | none => simp only [hg] at h; exact .inl ⟨h, rfl⟩
  | some g =>
    obtain ⟨j, want⟩ := g
    simp only [hg] at h
    cases hj : ops.toList[j]? with
    | none => simp only [hj] at h; exact no_fail h
    | some oj =>
      have hj' : ops[j]? = some oj := by simpa using hj
      simp only [hj] at h
      cases hd : oj.dst with
      | none => simp only [hd] at h; exact no_fail h
      | some d =>
        simp only [hd] at h
        cases hv : opd tm (.tmp d) with
        | bool b =>
          simp only [hv] at h
          cases b <;> cases want <;> dsimp only at h <;> (first | replace h := brK_t h | replace h := brK_f h) <;> first | exact .inl ⟨h, by simp [hj', hd, hv]⟩ | exact .inr ⟨h, by simp [hj', hd, hv]⟩
        | _ => simp only [hv] at h; exact no_fail h

/-- a load: what is named and is no map counts -/
def LdTo (P : Program) (o : Oper) (ρ : Operand → V) (h : Heap) (v : V) : Prop :=
  ∀ H : Heap, (∀ x ∈ o.op.operands, ∀ id, ment (ρ x) id → (∀ es c, h.get id ≠ some (.map es c)) → H.get id = h.get id) → OpTo P o ρ H v H
/-- a call that reads -/
def DpTo (P : Program) (o : Oper) (ρ : Operand → V) (base : Nat) (h : Heap) (v : V) : Prop :=
  ∀ H : Heap, (∀ j ob, j < base → j < 65536 → h.get j = some ob → H.get j = some ob) → OpTo P o ρ H v H
/-- what writes into a map -/
def MpTo (P : Program) (o : Oper) (ρ : Operand → V) (h : Heap) (v : V) (h' : Heap) : Prop :=
  ∃ id es c es' c', h.get id = some (.map es c) ∧ id < 65536 ∧ h' = h.setOb id (.map es' c') ∧ ∀ H : Heap, H.get id = some (.map es c) → OpTo P o ρ H v (H.setOb id (.map es' c'))

/-- What one operation does, by its class; 'id': what is kept for what it makes. -/
def Core (P : Program) (o : Oper) (base id : Nat) (ρ : Operand → V) (h : Heap) (v : V) (h' : Heap) : Cls → Prop
  | .tmp => h' = h ∧ ∀ hp, OpTo P o ρ hp v hp
  | .rd => h' = h ∧ RdTo P o ρ h v
  | .ld => h' = h ∧ LdTo P o ρ h v
  | .dp => h' = h ∧ DpTo P o ρ base h v
  | .al => ∃ ob, h' = h.setOb id ob ∧ AlTo P o ρ id v ob ∧ h.get id = none ∧ id < 65536 ∧ id < h.nx ∧ base ≤ id
  | .mp => MpTo P o ρ h v h'
  | .eff => OpTo P o ρ h v h'
  | .call => False

def Fact (P : Program) (fs : Nat) (ops : Array Oper) (o : Oper) (base id : Nat) (st : St) (cl : Cls) (st' : St) : Prop :=
  ∃ v h', st' = (St.mk st.tm h').put o.dst v ∧ dstOK fs o.dst ∧
    ((gv ops st.tm o = some false ∧ v = .junk ∧ h' = st.hp) ∨ (gv ops st.tm o = some true ∧ Core P o base id (opd st.tm) st.hp v h' cl))

theorem OpTo.stepTo {fs : Nat} {ops : Array Oper} {i : Nat} {o : Oper} (hi : ops[i]? = some o) {st : St} {v : V} {h' : Heap} (hg : gv ops st.tm o = some true) (hd : dstOK fs o.dst)
    (h : OpTo P o (opd st.tm) st.hp v h') : StepTo P fs ops i st ((St.mk st.tm h').put o.dst v) :=
  OpTo.step hi (fun _ _ hr => gv_wanted hg hr) h fun _ _ _ hr hv => hr.put hd hv

theorem Core.op {o : Oper} {base id : Nat} {ρ : Operand → V} {h h' : Heap} {v : V} {cl : Cls} (H : Core P o base id ρ h v h' cl) : OpTo P o ρ h v h' := by
  cases cl with
  | tmp => obtain ⟨rfl, H⟩ := H; exact H _
  | rd => obtain ⟨rfl, H⟩ := H; exact H _ fun _ _ _ _ => rfl
  | ld => obtain ⟨rfl, H⟩ := H; exact H _ fun _ _ _ _ _ => rfl
  | dp => obtain ⟨rfl, H⟩ := H; exact H _ fun _ _ _ _ hg => hg
  | al =>
    obtain ⟨ob, rfl, H, h0, h1, h2, _⟩ := H
    exact H h _ h0 h1 (Heap.get_set_self _ _ _ _) (fun j hj hne => Heap.get_set_ne _ _ _ _ _ h1 hj hne) (Nat.le_refl _) h2
  | mp => obtain ⟨_, _, _, _, _, hg, _, rfl, H⟩ := H; exact H _ hg
  | eff => exact H
  | call => exact H.elim

theorem Fact.step {fs : Nat} {ops : Array Oper} {i base id : Nat} {o : Oper} (hi : ops[i]? = some o) {st st' : St} {cl : Cls} (h : Fact P fs ops o base id st cl st') : StepTo P fs ops i st st' := by
  obtain ⟨v, h', rfl, hd, ⟨hg, rfl, rfl⟩ | ⟨hg, hc⟩⟩ := h
  · intro c a hr Q K hK
    unfold wpOp
    simp only [hi, gv_wanted hg hr, Bool.false_eq_true, if_false]
    exact hK c _ (Ext.refl c) (hr.put hd (.junk _))
  · exact hc.op.stepTo hi hg hd

def Conc (fs : Nat) (st : St) : Prop := ∃ c a, Rel fs st c a

/-- whatever order is taken from here on -/
def AAny (P : Program) (E : Env) (fs : Nat) (ops : Array Oper) (base : Nat) (Q : St → Prop) : Nat → Array Bool → St → Prop
  | 0, listed, st => Region.ready .any ops listed = [] ∧ Q st
  | n + 1, listed, st => (Region.ready .any ops listed = [] → Q st) ∧
    ∀ i ∈ Region.ready .any ops listed, ∀ o, ops[i]? = some o → ∃ st', Fact P fs ops o base (base + i) st (clsD E o.op) st' ∧ AAny P E fs ops base Q n (listed.setIfInBounds i true) st'

theorem AAny.sound {fs : Nat} {ops : Array Oper} {base : Nat} {Q : St → Prop} : ∀ (n : Nat) (listed : Array Bool) (st : St), AAny P E fs ops base Q n listed st →
    ∀ (c : Cfg) (a : Act), Rel fs st c a → ∀ (Q' : Exit → Act → World → Prop), (∀ st' c' a', Q st' → Ext c c' → Rel fs st' c' a' → Q' .normal a' c'.w) → wpAny P .any ops Q' n listed a c.w := by
  intro n
  induction n with
  | zero => intro listed st h c a hr Q' hQ; exact ⟨h.1, hQ st c a h.2 (Ext.refl c) hr⟩
  | succ n ih =>
    intro listed st h c a hr Q' hQ
    refine ⟨fun h0 => hQ st c a (h.1 h0) (Ext.refl c) hr, fun i hi => ?_⟩
    obtain ⟨_, o, ho, _⟩ := mem_ready.1 hi
    obtain ⟨st', hf, hn⟩ := h.2 i hi o ho
    exact hf.step ho c a hr Q' _ fun c' a' he hr' => ih _ st' hn c' a' hr' Q' fun st2 c2 a2 q e2 r2 => hQ st2 c2 a2 q (he.trans e2) r2

theorem OpTo.congr {o : Oper} {ρ ρ' : Operand → V} {h h' : Heap} {v : V} (H : OpTo P o ρ h v h') (e : ∀ x ∈ o.op.operands, ρ' x = ρ x) : OpTo P o ρ' h v h' :=
  fun c a hh hρ K Q hK => H c a hh (fun x hx => by rw [← e x hx]; exact hρ x hx) K Q hK
theorem RdTo.congr {o : Oper} {ρ ρ' : Operand → V} {h : Heap} {v : V} (H : RdTo P o ρ h v) (e : ∀ x ∈ o.op.operands, ρ' x = ρ x) : RdTo P o ρ' h v :=
  fun h' hag => (H h' fun x hx id hm => hag x hx id (by rw [e x hx]; exact hm)).congr e
theorem AlTo.congr {o : Oper} {ρ ρ' : Operand → V} {id : Nat} {v : V} {ob : Ob} (H : AlTo P o ρ id v ob) (e : ∀ x ∈ o.op.operands, ρ' x = ρ x) : AlTo P o ρ' id v ob :=
  fun h h' h0 h1 h2 h3 h4 h5 => (H h h' h0 h1 h2 h3 h4 h5).congr e

/-- a temporary that an operation does not look at -/
theorem looks_opd {ops : Array Oper} {o : Oper} {st : St} {dst : Option Tmp} {v : V} {fs : Nat} (hd : dstOK fs dst) (h : ∀ d, dst = some d → d ∉ o.looksAt ops) :
    ∀ x ∈ o.op.operands, opd (st.put dst v).tm x = opd st.tm x := fun x hx => opd_put_ne hd fun d e hxd => h d e (by
  subst hxd
  exact List.mem_append_left _ (List.mem_filterMap.2 ⟨.tmp d, by simpa using hx, rfl⟩))

theorem looks_gv {ops : Array Oper} {o : Oper} {st : St} {dst : Option Tmp} {v : V} {fs : Nat} (hd : dstOK fs dst) (h : ∀ d, dst = some d → d ∉ o.looksAt ops) :
    gv ops (st.put dst v).tm o = gv ops st.tm o := by
  unfold gv
  cases hg : o.guard with
  | none => rfl
  | some g =>
    obtain ⟨j, want⟩ := g
    dsimp only
    cases hj : (ops[j]?).bind (·.dst) with
    | none => rfl
    | some d =>
      have : opd (st.put dst v).tm (.tmp d) = opd st.tm (.tmp d) := opd_put_ne hd fun d' e hx => h d' e (by
        simp only [Operand.tmp.injEq] at hx
        subst hx
        exact List.mem_append_right _ (by simp [hg, hj]))
      dsimp only
      rw [this]

theorem gv_hp {ops : Array Oper} {st : St} {hp : Heap} {o : Oper} : gv ops (St.mk st.tm hp).tm o = gv ops st.tm o := rfl

theorem put_tm (st : St) (hp : Heap) (dst : Option Tmp) (v : V) : ((St.mk st.tm hp).put dst v).tm = (st.put dst v).tm := by cases dst <;> rfl
theorem put_hp (st : St) (dst : Option Tmp) (v : V) : (st.put dst v).hp = st.hp := by cases dst <;> rfl
theorem put_mk (st : St) (hp : Heap) (dst : Option Tmp) (v : V) : (St.mk st.tm hp).put dst v = St.mk (st.put dst v).tm hp := by cases dst <;> rfl

theorem Conc.get {fs : Nat} {st : St} (h : Conc fs st) {x : Operand} {id : Nat} (hm : ment (opd st.tm x) id) : id < 65536 ∧ ∃ o, st.hp.get id = some o := by
  obtain ⟨c, a, hr⟩ := h
  obtain ⟨p, hp⟩ := (hr.opd x).ment hm
  obtain ⟨o, ho, _⟩ := hr.hp.there id p hp
  exact ⟨(hr.hp.nx id p hp).2, o, ho⟩

theorem LdTo.congr {o : Oper} {ρ ρ' : Operand → V} {h : Heap} {v : V} (H : LdTo P o ρ h v) (e : ∀ x ∈ o.op.operands, ρ' x = ρ x) : LdTo P o ρ' h v :=
  fun h' hag => (H h' fun x hx id hm hn => hag x hx id (by rw [e x hx]; exact hm) hn).congr e

theorem Core.congr {o : Oper} {base id : Nat} {ρ ρ' : Operand → V} {h h' : Heap} {v : V} {cl : Cls} (H : Core P o base id ρ h v h' cl) (e : ∀ x ∈ o.op.operands, ρ' x = ρ x) : Core P o base id ρ' h v h' cl := by
  cases cl with
  | tmp => exact ⟨H.1, fun hp => (H.2 hp).congr e⟩
  | rd => exact ⟨H.1, H.2.congr e⟩
  | ld => exact ⟨H.1, H.2.congr e⟩
  | dp => exact ⟨H.1, fun h' hag => (H.2 h' hag).congr e⟩
  | al => obtain ⟨ob, h1, h2, h3⟩ := H; exact ⟨ob, h1, h2.congr e, h3⟩
  | mp => obtain ⟨i, es, c, es', c', h1, h2, h3, h4⟩ := H; exact ⟨i, es, c, es', c', h1, h2, h3, fun H' hg => (h4 H' hg).congr e⟩
  | eff => exact OpTo.congr H e
  | call => exact H.elim

theorem setOb_get_ne {h : Heap} {id i : Nat} {ob : Ob} (h1 : id < 65536) (h2 : i < 65536) (hne : i ≠ id) : (h.setOb id ob).get i = h.get i := Heap.get_set_ne _ _ _ _ _ h1 h2 hne

/-- what only reads does not mind a new object -/
theorem Core.rd_al {o : Oper} {base id idj : Nat} {ρ : Operand → V} {h h1 : Heap} {v : V} {c : Cls} {ob : Ob} (hc : c = .rd ∨ c = .ld ∨ c = .dp) (hm : ∀ x id, ment (ρ x) id → id < 65536 ∧ ∃ o, h.get id = some o)
    (g0 : h.get idj = none) (g1 : idj < 65536) (g2 : base ≤ idj) (H : Core P o base id ρ h v h1 c) : Core P o base id ρ (h.setOb idj ob) v (h.setOb idj ob) c := by
  rcases hc with rfl | rfl | rfl
  · obtain ⟨rfl, H⟩ := H
    refine ⟨rfl, fun h' hag => H h' fun x hx id hmid => ?_⟩
    obtain ⟨q1, o, q2⟩ := hm x id hmid
    rw [hag x hx id hmid, setOb_get_ne g1 q1 (fun e => by subst e; rw [g0] at q2; cases q2)]
  · obtain ⟨rfl, H⟩ := H
    refine ⟨rfl, fun h' hag => H h' fun x hx id hmid hn => ?_⟩
    obtain ⟨q1, o, q2⟩ := hm x id hmid
    have e : (h1.setOb idj ob).get id = h1.get id := setOb_get_ne g1 q1 (fun e => by subst e; rw [g0] at q2; cases q2)
    rw [hag x hx id hmid (by rw [e]; exact hn), e]
  · obtain ⟨rfl, H⟩ := H
    refine ⟨rfl, fun h' hag => H h' fun j o' hj hj2 hg => hag j o' hj hj2 ?_⟩
    rw [setOb_get_ne g1 hj2 (by omega)]; exact hg

theorem Core.al_rd {o : Oper} {base id idi : Nat} {ρ : Operand → V} {h h2 : Heap} {v : V} {c : Cls} {ob : Ob} (hc : c = .rd ∨ c = .ld ∨ c = .dp) (hm : ∀ x id, ment (ρ x) id → id < 65536 ∧ ∃ o, h.get id = some o)
    (g0 : h.get idi = none) (g1 : idi < 65536) (g2 : base ≤ idi) (H : Core P o base id ρ (h.setOb idi ob) v h2 c) : h2 = h.setOb idi ob ∧ Core P o base id ρ h v h c := by
  rcases hc with rfl | rfl | rfl
  · obtain ⟨rfl, H⟩ := H
    refine ⟨rfl, rfl, fun h' hag => H h' fun x hx id hmid => ?_⟩
    obtain ⟨q1, o, q2⟩ := hm x id hmid
    rw [hag x hx id hmid, setOb_get_ne g1 q1 (fun e => by subst e; rw [g0] at q2; cases q2)]
  · obtain ⟨rfl, H⟩ := H
    refine ⟨rfl, rfl, fun h' hag => H h' fun x hx id hmid hn => ?_⟩
    obtain ⟨q1, o, q2⟩ := hm x id hmid
    have e : (h.setOb idi ob).get id = h.get id := setOb_get_ne g1 q1 (fun e => by subst e; rw [g0] at q2; cases q2)
    rw [hag x hx id hmid (by rw [← e]; exact hn), e]
  · obtain ⟨rfl, H⟩ := H
    refine ⟨rfl, rfl, fun h' hag => H h' fun j o' hj hj2 hg => hag j o' hj hj2 ?_⟩
    rw [← setOb_get_ne (ob := ob) g1 hj2 (show j ≠ idi by omega)]; exact hg

theorem Core.same {o : Oper} {base id : Nat} {ρ : Operand → V} {h h1 : Heap} {v : V} {c : Cls} (hc : c = .rd ∨ c = .ld ∨ c = .dp) (H : Core P o base id ρ h v h1 c) : h1 = h := by
  rcases hc with rfl | rfl | rfl <;> exact H.1

/-- The heaps' part of it. -/
theorem Core.swap {oi oj : Oper} {base idi idj : Nat} {ρ : Operand → V} {h h1 h2 : Heap} {vi vj : V} {ci cj : Cls} (hfree : freeCls ci cj = true) (hne : idi ≠ idj)
    (hm : ∀ x id, ment (ρ x) id → id < 65536 ∧ ∃ o, h.get id = some o)
    (Hi : Core P oi base idi ρ h vi h1 ci) (Hj : Core P oj base idj ρ h1 vj h2 cj) : ∃ hj, Core P oj base idj ρ h vj hj cj ∧ Core P oi base idi ρ hj vi h2 ci := by
  have rdal : ∀ c, readC c = true → (c = .rd ∨ c = .ld ∨ c = .dp) ∨ c = .al := fun c hc => by cases c <;> simp_all [readC]
  have both : readC ci = true → readC cj = true → ∃ hj, Core P oj base idj ρ h vj hj cj ∧ Core P oi base idi ρ hj vi h2 ci := fun r1 r2 => by
    rcases rdal ci r1 with q1 | rfl
    · have e1 := Hi.same q1
      subst e1
      rcases rdal cj r2 with q2 | rfl
      · have e2 := Hj.same q2
        subst e2
        exact ⟨_, Hj, Hi⟩
      · obtain ⟨ob, rfl, Hj, g0, g1, g2, g3⟩ := Hj
        exact ⟨_, ⟨ob, rfl, Hj, g0, g1, g2, g3⟩, Hi.rd_al q1 hm g0 g1 g3⟩
    · obtain ⟨ob, rfl, Hi, f0, f1, f2, f3⟩ := Hi
      rcases rdal cj r2 with q2 | rfl
      · obtain ⟨e, Hq⟩ := Hj.al_rd q2 hm f0 f1 f3
        subst e
        exact ⟨h, Hq, ob, rfl, Hi, f0, f1, f2, f3⟩
      · obtain ⟨ob', rfl, Hj, g0, g1, g2, g3⟩ := Hj
        rw [setOb_get_ne f1 g1 (Ne.symm hne)] at g0
        refine ⟨_, ⟨ob', rfl, Hj, g0, g1, g2, g3⟩, ob, ?_, Hi, ?_, f1, f2, f3⟩
        · show Heap.mk _ _ = Heap.mk _ _
          congr 1
          exact T.set_comm _ _ _ _ (fun hb => hne (bits_inj 16 _ _ f1 g1 hb)) (by simp [bits_length]) _
        · rw [setOb_get_ne g1 f1 hne]; exact f0
  have ldmp : ci = .ld → cj = .mp → ∃ hj, Core P oj base idj ρ h vj hj cj ∧ Core P oi base idi ρ hj vi h2 ci := fun e1 e2 => by
    subst e1 e2
    obtain ⟨rfl, Hi⟩ := Hi
    obtain ⟨m, es, c, es', c', g1, g2, rfl, g4⟩ := Hj
    refine ⟨_, ⟨m, es, c, es', c', g1, g2, rfl, g4⟩, rfl, fun H hag => Hi H fun x hx id hmid hn => ?_⟩
    have hid := (hm x id hmid).1
    have hne2 : id ≠ m := fun e => by subst e; exact hn _ _ g1
    have e := setOb_get_ne (h := h1) (ob := Ob.map es' c') g2 hid hne2
    rw [hag x hx id hmid (by rw [e]; exact hn), e]
  have mpld : ci = .mp → cj = .ld → ∃ hj, Core P oj base idj ρ h vj hj cj ∧ Core P oi base idi ρ hj vi h2 ci := fun e1 e2 => by
    subst e1 e2
    obtain ⟨rfl, Hj⟩ := Hj
    obtain ⟨m, es, c, es', c', g1, g2, rfl, g4⟩ := Hi
    refine ⟨h, ⟨rfl, fun H hag => Hj H fun x hx id hmid hn => ?_⟩, m, es, c, es', c', g1, g2, rfl, g4⟩
    have hid := (hm x id hmid).1
    have hne2 : id ≠ m := fun e => by subst e; exact hn _ _ (Heap.get_set_self _ _ _ _)
    have e := setOb_get_ne (h := h) (ob := Ob.map es' c') g2 hid hne2
    rw [e] at hn ⊢
    exact hag x hx id hmid hn
  cases ci with
  | tmp => obtain ⟨rfl, Hi⟩ := Hi; exact ⟨h2, Hj, rfl, Hi⟩
  | call => exact Hi.elim
  | rd => cases cj <;> first | exact both rfl rfl | (obtain ⟨e, Hq⟩ := Hj; subst e; exact ⟨h, ⟨rfl, Hq⟩, Hi⟩) | (simp [freeCls, readC] at hfree)
  | ld => cases cj <;> first | exact both rfl rfl | exact ldmp rfl rfl | (obtain ⟨e, Hq⟩ := Hj; subst e; exact ⟨h, ⟨rfl, Hq⟩, Hi⟩) | (simp [freeCls, readC] at hfree)
  | dp => cases cj <;> first | exact both rfl rfl | (obtain ⟨e, Hq⟩ := Hj; subst e; exact ⟨h, ⟨rfl, Hq⟩, Hi⟩) | (simp [freeCls, readC] at hfree)
  | al => cases cj <;> first | exact both rfl rfl | (obtain ⟨e, Hq⟩ := Hj; subst e; exact ⟨h, ⟨rfl, Hq⟩, Hi⟩) | (simp [freeCls, readC] at hfree)
  | mp => cases cj <;> first | exact mpld rfl rfl | (obtain ⟨e, Hq⟩ := Hj; subst e; exact ⟨h, ⟨rfl, Hq⟩, Hi⟩) | (simp [freeCls, readC] at hfree)
  | eff => cases cj <;> first | (obtain ⟨e, Hq⟩ := Hj; subst e; exact ⟨h, ⟨rfl, Hq⟩, Hi⟩) | (simp [freeCls, readC] at hfree)

/-- Two operations that don't mind each other: the second one may go first. -/
theorem Fact.swap {fs : Nat} {ops : Array Oper} {oi oj : Oper} {base idi idj : Nat} {st s1 s2 : St} {ci cj : Cls} (hc : Conc fs st) (hap : oi.apart ops oj = true) (hfree : freeCls ci cj = true) (hne : idi ≠ idj)
    (hi : Fact P fs ops oi base idi st ci s1) (hj : Fact P fs ops oj base idj s1 cj s2) : ∃ s, Fact P fs ops oj base idj st cj s ∧ Fact P fs ops oi base idi s ci s2 := by
  obtain ⟨a1, a2, a3⟩ := Oper.apart_spec hap
  obtain ⟨vi, h1, rfl, di, Hi⟩ := hi
  obtain ⟨vj, h2, rfl, dj, Hj⟩ := hj
  have gj : gv ops ((St.mk st.tm h1).put oi.dst vi).tm oj = gv ops st.tm oj := by rw [put_tm]; exact looks_gv di a1
  have lj : ∀ x ∈ oj.op.operands, opd ((St.mk st.tm h1).put oi.dst vi).tm x = opd st.tm x := fun x hx => by rw [put_tm]; exact looks_opd (ops := ops) di a1 x hx
  have gi : ∀ hp, gv ops ((St.mk st.tm hp).put oj.dst vj).tm oi = gv ops st.tm oi := fun hp => by rw [put_tm]; exact looks_gv dj a3
  have li : ∀ hp, ∀ x ∈ oi.op.operands, opd ((St.mk st.tm hp).put oj.dst vj).tm x = opd st.tm x := fun hp x hx => by rw [put_tm]; exact looks_opd (ops := ops) dj a3 x hx
  have hcom : ∀ hp, (St.mk ((St.mk st.tm h1).put oi.dst vi).tm h2).put oj.dst vj = (St.mk ((St.mk st.tm hp).put oj.dst vj).tm h2).put oi.dst vi := fun hp => by
    have e1 : (St.mk ((St.mk st.tm h1).put oi.dst vi).tm h2) = (St.mk st.tm h2).put oi.dst vi := by rw [put_tm]; exact (put_mk _ _ _ _).symm
    have e2 : (St.mk ((St.mk st.tm hp).put oj.dst vj).tm h2) = (St.mk st.tm h2).put oj.dst vj := by rw [put_tm]; exact (put_mk _ _ _ _).symm
    rw [e1, e2]
    exact St.put_comm _ di dj _ _ a2
  rw [gj, put_hp] at Hj
  dsimp only at Hj
  rcases Hi with ⟨p1, p2, p3⟩ | ⟨p1, p2⟩
  · subst p3
    refine ⟨(St.mk st.tm h2).put oj.dst vj, ⟨vj, h2, rfl, dj, ?_⟩, vi, h2, hcom h2, di, .inl ⟨by rw [gi]; exact p1, p2, by rw [put_hp]⟩⟩
    rcases Hj with ⟨q1, q2, q3⟩ | ⟨q1, q2⟩
    · exact .inl ⟨q1, q2, q3⟩
    · exact .inr ⟨q1, q2.congr fun x hx => (lj x hx).symm⟩
  · rcases Hj with ⟨q1, q2, q3⟩ | ⟨q1, q2⟩
    · subst q3
      refine ⟨(St.mk st.tm st.hp).put oj.dst vj, ⟨vj, st.hp, rfl, dj, .inl ⟨q1, q2, rfl⟩⟩, vi, h2, hcom st.hp, di, .inr ⟨by rw [gi]; exact p1, ?_⟩⟩
      rw [put_hp]
      exact p2.congr (li st.hp)
    · obtain ⟨hj, r1, r2⟩ := Core.swap hfree hne (fun x id hm => hc.get hm) p2 (q2.congr fun x hx => (lj x hx).symm)
      refine ⟨(St.mk st.tm hj).put oj.dst vj, ⟨vj, hj, rfl, dj, .inr ⟨q1, r1⟩⟩, vi, h2, hcom hj, di, .inr ⟨by rw [gi]; exact p1, ?_⟩⟩
      rw [put_hp]
      exact r2.congr (li hj)
end
end Go.Ab
