/- Regions, code, calls: what the generator says holds. Own work. -/
import Derived.Test.YtcimijgokedcgaaAbDraw
import Derived.Test.YtcimijgokedcgaaAbApp2
set_option linter.unusedVariables false
set_option linter.unusedSimpArgs false
set_option linter.unusedSectionVars false
namespace Go.Ab
open Go Go.RowKit
section
variable {R : Type} [Alg R] {P : Program} {E : Env}

theorem Ext.world (c : Cfg) {w : World} (h : w.heap = c.w.heap) (ho : w.os = c.w.os) (ht : w.tape = c.w.tape) (hu : w.output = c.w.output) : Ext c { c with w } :=
  ⟨by rw [h]; exact Nat.le_refl _, fun _ h => h, fun _ p hp => ⟨p, hp, p.le_refl⟩, fun b _ _ => by rw [h], fun b hb => .inl hb, ho, ht, hu, fun _ h => .inl h⟩

theorem HRel.world {h : Heap} {c : Cfg} (H : HRel h c) {w : World} (hw : w.heap = c.w.heap) (ho : w.os = c.w.os) (ht : w.tape = c.w.tape) (hu : w.output = c.w.output) : HRel h { c with w } where
  ok b hb := ⟨by rw [hw]; exact (H.ok b hb).1, (H.ok b hb).2⟩
  there id p hp := let ⟨o, h1, h2⟩ := H.there id p hp; ⟨o, h1, h2.mono H.ok (Ext.world c hw ho ht hu) fun b _ => by rw [hw]⟩
  back := H.back
  inj := H.inj
  lt b hb := by rw [hw]; exact H.lt b hb
  nx := H.nx

theorem Rel.world {fs : Nat} {st : St} {c : Cfg} {a : Act} (hr : Rel fs st c a) {w : World} (hw : w.heap = c.w.heap) (ho : w.os = c.w.os) (ht : w.tape = c.w.tape) (hu : w.output = c.w.output) : Rel fs st { c with w } a :=
  ⟨hr.hp.world hw ho ht hu, hr.size, hr.defers, fun t h => (hr.tm t h).mono hr.hp.ok (Ext.world c hw ho ht hu)⟩

theorem HRel.bump {h : Heap} {c : Cfg} (H : HRel h c) {n : Nat} (hn : h.nx ≤ n) : HRel ⟨h.ob, n⟩ c :=
  ⟨H.ok, H.there, H.back, H.inj, H.lt, fun id p hp => ⟨Nat.lt_of_lt_of_le (H.nx id p hp).1 hn, (H.nx id p hp).2⟩⟩

theorem HRel.fresh {h : Heap} {c : Cfg} (H : HRel h c) {id : Nat} (h1 : h.nx ≤ id) (h2 : id < 65536) : h.get id = none := by
  cases hg : h.get id with
  | none => rfl
  | some o =>
    obtain ⟨p, hp⟩ := H.back id o h2 hg
    have := (H.nx id p hp).1
    omega

/-- A wanted operation, in the order of the text. -/
theorem evOp_seq (hE : EnvOK P E) {Γ : CallF R} {Γp : PureF R} (hΓ : GoodΓ P Γ) (hΓp : GoodΓp P Γp) {fs : Nat} {ops : Array Oper} {i : Nat} {o : Oper} (hi : ops[i]? = some o) {st : St} {k : St → R}
    (h : Alg.holds (evOp E Γ Γp fs o none st k)) (hg : gv ops st.tm o = some true) : ∃ st', Alg.holds (k st') ∧ StepTo P fs ops i st st' ∧ st.hp.nx ≤ st'.hp.nx := by
  unfold evOp at h
  split at h
  · obtain ⟨v, hk, ht⟩ := tmp_sound hE h
    obtain ⟨h1, h2⟩ := setTm_put hk
    exact ⟨_, h1, (ht.op st.hp).stepTo hi hg h2, by rw [put_hp]; exact Nat.le_refl _⟩
  · obtain ⟨v, hk, ht⟩ := rd_sound (P := P) hE h
    obtain ⟨h1, h2⟩ := setTm_put hk
    exact ⟨_, h1, (ht st.hp fun _ _ _ _ => rfl).stepTo hi hg h2, by rw [put_hp]; exact Nat.le_refl _⟩
  · dsimp only at h
    rw [nxK_eq] at h
    obtain ⟨v, ob, hk, ht⟩ := al_sound (P := P) hE h
    obtain ⟨hk, hnx⟩ := newOb_eq hk
    obtain ⟨h1, h2⟩ := setTm_put hk
    refine ⟨_, h1, OpTo.stepTo hi hg h2 (fun c a hh hρ K Q hK => ?_), by rw [put_hp]; exact Nat.le_succ _⟩
    exact ht st.hp _ (hh.fresh (Nat.le_refl _) hnx) hnx (Heap.get_set_self _ _ _ _) (fun j hj hne => Heap.get_set_ne _ _ _ _ _ hnx hj hne) (Nat.le_succ _) (Nat.lt_succ_self _) c a hh hρ K Q hK
  · obtain ⟨v, h', hk, ht, hn⟩ := eff_sound (P := P) hE h
    obtain ⟨h1, h2⟩ := setTm_put hk
    exact ⟨_, h1, ht.stepTo hi hg h2, by rw [put_hp]; exact hn⟩
  · split at h <;> try exact no_fail h
    rename_i cl ho
    obtain ⟨f, as, hk, hc⟩ := callee_sound (P := P) hE h
    split at hk
    · obtain ⟨v, hk, hp⟩ := hΓp f as st.hp _ _ hk
      obtain ⟨h1, h2⟩ := setTm_put hk
      exact ⟨_, h1, (hp.here.op ho hc).stepTo hi hg h2, by rw [put_hp]; exact Nat.le_refl _⟩
    · obtain ⟨v, h', hk, hp, hn⟩ := hΓ f as st.hp _ hk
      obtain ⟨h1, h2⟩ := setTm_put hk
      exact ⟨_, h1, (hp.op ho hc).stepTo hi hg h2, by rw [put_hp]; exact hn⟩
  · exact no_fail h

theorem clsD_mp {op : Op} (hc : cls E op = .eff) (hm : mapOp op = true) : clsD E op = .mp := by
  unfold clsD
  rw [hc]
  cases op <;> first | rfl | (simp [mapOp] at hm)

theorem clsD_eff {op : Op} (hc : cls E op = .eff) (hm : ¬ mapOp op = true) : clsD E op = .eff := by
  unfold clsD
  rw [hc]
  cases op <;> first | rfl | (simp [mapOp] at hm)

theorem evOps_seq (hE : EnvOK P E) {Γ : CallF R} {Γp : PureF R} (hΓ : GoodΓ P Γ) (hΓp : GoodΓp P Γp) {fs : Nat} {ops : Array Oper} : ∀ (l : List Oper) (i : Nat) (st : St) (k : St → R), (∀ j, l[j]? = ops[i + j]?) →
    Alg.holds (evOps E Γ Γp fs ops.toList none i l st k) → ∃ st', Alg.holds (k st') ∧ st.hp.nx ≤ st'.hp.nx ∧ ∀ (c : Cfg) (a : Act), Rel fs st c a → ∀ (Q : Exit → Act → World → Prop),
      (∀ c' a', Ext c c' → Rel fs st' c' a' → Q .normal a' c'.w) → wpOps P ops Q (List.range' i l.length) a c.w := by
  intro l
  induction l with
  | nil => intro i st k _ h; exact ⟨st, h, Nat.le_refl _, fun c a hr Q hQ => hQ c a (Ext.refl c) hr⟩
  | cons o l ih =>
    intro i st k hl h
    have hi : ops[i]? = some o := by simpa using (hl 0).symm
    have hl' : ∀ j, l[j]? = ops[i + 1 + j]? := fun j => by have := hl (j + 1); simpa [Nat.add_assoc, Nat.add_comm 1 j] using this
    simp only [evOps, Option.map_none] at h
    have fin : ∀ s : St, Alg.holds (evOps E Γ Γp fs ops.toList none (i + 1) l s k) → StepTo P fs ops i st s → st.hp.nx ≤ s.hp.nx →
        ∃ st', Alg.holds (k st') ∧ st.hp.nx ≤ st'.hp.nx ∧ ∀ (c : Cfg) (a : Act), Rel fs st c a → ∀ (Q : Exit → Act → World → Prop),
          (∀ c' a', Ext c c' → Rel fs st' c' a' → Q .normal a' c'.w) → wpOps P ops Q (List.range' i (l.length + 1)) a c.w := by
      intro s hs hstep hn
      obtain ⟨st', h1, h2, h3⟩ := ih (i + 1) s k hl' hs
      refine ⟨st', h1, Nat.le_trans hn h2, fun c a hr Q hQ => ?_⟩
      rw [List.range'_succ, wpOps_cons]
      exact hstep c a hr Q _ fun c' a' he hr' => h3 c' a' hr' Q fun c2 a2 he2 hr2 => hQ c2 a2 (he.trans he2) hr2
    rcases guard_gv h with ⟨h1, hg⟩ | ⟨h1, hg⟩
    · obtain ⟨s, hs, hstep, hn⟩ := evOp_seq hE hΓ hΓp hi h1 hg
      exact fin s hs hstep hn
    · obtain ⟨h2, h3⟩ := setTm_put h1
      refine fin _ h2 (fun c a hr Q K hK => ?_) (by rw [put_hp]; exact Nat.le_refl _)
      unfold wpOp
      simp only [hi, gv_wanted hg hr, Bool.false_eq_true, if_false]
      exact hK c _ (Ext.refl c) (hr.put h3 (.junk _))

theorem evOp_fact (hE : EnvOK P E) {Γ : CallF R} {Γp : PureF R} (hΓ : GoodΓ P Γ) (hΓp : GoodΓp P Γp) {fs : Nat} {ops : Array Oper} {base id : Nat} (hbase : base ≤ id) {o : Oper} {st : St} {k : St → R}
    (h : Alg.holds (evOp E Γ Γp fs o (some (base, id)) st k)) (hg : gv ops st.tm o = some true) : ∃ st', Alg.holds (k st') ∧ Fact P fs ops o base id st (clsD E o.op) st' ∧ st.hp.nx ≤ st'.hp.nx := by
  have same : cls E o.op ≠ .call → cls E o.op ≠ .rd → cls E o.op ≠ .eff → clsD E o.op = cls E o.op := fun hne hne2 hne3 => by
    unfold clsD
    split
    · rename_i hc; exact absurd hc hne
    · rename_i hc; exact absurd hc hne2
    · rename_i hc; exact absurd hc hne3
    · rfl
  have eta : ∀ (s : St) (v : V), s.put o.dst v = (St.mk s.tm s.hp).put o.dst v := fun _ _ => rfl
  unfold evOp at h
  split at h
  · rename_i hc
    obtain ⟨v, hk, ht⟩ := tmp_sound hE h
    obtain ⟨h1, h2⟩ := setTm_put hk
    rw [same (by rw [hc]; simp) (by rw [hc]; simp) (by rw [hc]; simp), hc]
    exact ⟨_, h1, ⟨v, st.hp, rfl, h2, .inr ⟨hg, rfl, fun hp => ht.op hp⟩⟩, by rw [put_hp]; exact Nat.le_refl _⟩
  · rename_i hc
    obtain ⟨v, hk, ht⟩ := rd_sound (P := P) hE h
    obtain ⟨h1, h2⟩ := setTm_put hk
    have hld := h
    obtain ⟨v, hk, ht, hl⟩ := rd_sound2 (P := P) hE hld
    clear hld
    obtain ⟨h1, h2⟩ := setTm_put hk
    refine ⟨_, h1, ⟨v, st.hp, rfl, h2, .inr ⟨hg, ?_⟩⟩, by rw [put_hp]; exact Nat.le_refl _⟩
    unfold clsD
    rw [hc]
    dsimp only
    split
    · rename_i t x hop; exact ⟨rfl, hl t x hop⟩
    · exact ⟨rfl, ht⟩
  · rename_i hc
    dsimp only at h
    split at h <;> try exact no_fail h
    rename_i hnone
    rw [nxK_eq] at h
    split at h <;> try exact no_fail h
    rename_i hlt
    obtain ⟨v, ob, hk, ht⟩ := al_sound (P := P) hE h
    obtain ⟨hk, hid⟩ := setOb_eq hk
    obtain ⟨h1, h2⟩ := setTm_put hk
    rw [same (by rw [hc]; simp) (by rw [hc]; simp) (by rw [hc]; simp), hc]
    exact ⟨_, h1, ⟨v, _, rfl, h2, .inr ⟨hg, ob, rfl, ht, hnone, hid, Nat.le_of_ble_eq_true hlt, hbase⟩⟩, by rw [put_hp]; exact Nat.le_refl _⟩
  · rename_i hc
    by_cases hmp : mapOp o.op = true
    · obtain ⟨v, h', hk, ht, hn⟩ := eff_map (P := P) hE hmp h
      obtain ⟨h1, h2⟩ := setTm_put hk
      refine ⟨_, h1, ⟨v, h', rfl, h2, .inr ⟨hg, ?_⟩⟩, by rw [put_hp]; exact hn⟩
      rw [clsD_mp hc hmp]
      exact ht
    · obtain ⟨v, h', hk, ht, hn⟩ := eff_sound (P := P) hE h
      obtain ⟨h1, h2⟩ := setTm_put hk
      refine ⟨_, h1, ⟨v, h', rfl, h2, .inr ⟨hg, ?_⟩⟩, by rw [put_hp]; exact hn⟩
      rw [clsD_eff hc hmp]
      exact ht
  · rename_i hc
    split at h <;> try exact no_fail h
    rename_i cl ho
    have hcd : clsD E o.op = (match o.op with
        | .call { callee := .value (.func f), .. } => match E.pure f with
          | true => .dp
          | false => .eff
        | _ => .eff) := by
      unfold clsD
      rw [hc]
      rfl
    rw [ho] at hcd
    obtain ⟨callee, args, tys⟩ := cl
    have dyn : ∀ (f : FuncId) (as : List V), CalleeTo P ⟨callee, args, tys⟩ (opd st.tm) st.hp f as → Alg.holds (match E.pure f with
        | true => Γp f as st.hp base fun v => setTmK fs st o.dst v k
        | false => Γ f as st.hp fun v h' => setTmK fs ⟨st.tm, h'⟩ o.dst v k) → clsD E o.op = .eff → ∃ st', Alg.holds (k st') ∧ Fact P fs ops o base id st (clsD E o.op) st' ∧ st.hp.nx ≤ st'.hp.nx := by
      intro f as hcal hk he
      rw [he]
      split at hk
      · obtain ⟨v, hk, hp⟩ := hΓp f as st.hp _ _ hk
        obtain ⟨h1, h2⟩ := setTm_put hk
        exact ⟨_, h1, ⟨v, st.hp, rfl, h2, .inr ⟨hg, hp.here.op ho hcal⟩⟩, by rw [put_hp]; exact Nat.le_refl _⟩
      · obtain ⟨v, h', hk, hp, hn⟩ := hΓ f as st.hp _ hk
        obtain ⟨h1, h2⟩ := setTm_put hk
        exact ⟨_, h1, ⟨v, h', rfl, h2, .inr ⟨hg, hp.op ho hcal⟩⟩, by rw [put_hp]; exact hn⟩
    cases callee with
    | value x =>
      cases x with
      | func f0 =>
        cases hpu : E.pure f0 with
        | false =>
          obtain ⟨f, as, hk, hcal⟩ := callee_sound (P := P) hE h
          exact dyn f as hcal hk (by rw [ho, hcd]; simp only [hpu])
        | true =>
          obtain ⟨as, hk, hcal⟩ := callee_static (P := P) hE h
          simp only [hpu] at hk
          obtain ⟨v, hk, hp⟩ := hΓp f0 as st.hp _ _ hk
          obtain ⟨h1, h2⟩ := setTm_put hk
          refine ⟨_, h1, ⟨v, st.hp, rfl, h2, .inr ⟨hg, ?_⟩⟩, by rw [put_hp]; exact Nat.le_refl _⟩
          have e : clsD E o.op = .dp := by rw [ho, hcd]; simp only [hpu]
          rw [e]
          exact ⟨rfl, fun h' hag => (hp h' hag).op ho (hcal h')⟩
      | _ =>
        obtain ⟨f, as, hk, hcal⟩ := callee_sound (P := P) hE h
        exact dyn f as hcal hk (by rw [ho, hcd])
    | _ =>
      obtain ⟨f, as, hk, hcal⟩ := callee_sound (P := P) hE h
      exact dyn f as hcal hk (by rw [ho, hcd])
  · exact no_fail h

theorem evOps_chain (hE : EnvOK P E) {Γ : CallF R} {Γp : PureF R} (hΓ : GoodΓ P Γ) (hΓp : GoodΓp P Γp) {fs : Nat} {ops : Array Oper} {base : Nat} : ∀ (l : List Oper) (i : Nat) (st : St) (k : St → R),
    Alg.holds (evOps E Γ Γp fs ops.toList (some base) i l st k) → ∃ st', Alg.holds (k st') ∧ st.hp.nx ≤ st'.hp.nx ∧ Chain P E fs ops base i l st st' := by
  intro l
  induction l with
  | nil => intro i st k h; exact ⟨st, h, Nat.le_refl _, rfl⟩
  | cons o l ih =>
    intro i st k h
    simp only [evOps, Option.map_some] at h
    rcases guard_gv h with ⟨h1, hg⟩ | ⟨h1, hg⟩
    · obtain ⟨s, hs, hf, hn⟩ := evOp_fact hE hΓ hΓp (Nat.le_add_right _ _) h1 hg
      obtain ⟨st', h2, h3, h4⟩ := ih (i + 1) s k hs
      exact ⟨st', h2, Nat.le_trans hn h3, s, hf, h4⟩
    · obtain ⟨h2, h3⟩ := setTm_put h1
      obtain ⟨st', h4, h5, h6⟩ := ih (i + 1) _ k h2
      exact ⟨st', h4, by rw [put_hp] at h5; exact h5, _, ⟨.junk, st.hp, rfl, h3, .inl ⟨hg, rfl, rfl⟩⟩, h6⟩

def exOf : Ex → Exit
  | .normal => .normal
  | .exit i => .exit i
  | .goto l => .goto l
  | .ret => .ret

def CodeTo (P : Program) (fs : Nat) (c : Code) (st : St) (e : Ex) (st' : St) : Prop :=
  ∀ (cf : Cfg) (a : Act), Rel fs st cf a → ∀ (Q : Exit → Act → World → Prop), (∀ c' a', Ext cf c' → Rel fs st' c' a' → Q (exOf e) a' c'.w) → Code.wp P c Q a cf.w

def LoopTo (P : Program) (fs : Nat) (c : Code) (st : St) (e : Ex) (st' : St) : Prop :=
  ∀ (cf : Cfg) (a : Act), Rel fs st cf a → ∀ (Q : Exit → Act → World → Prop), (∀ c' a', Ext cf c' → Rel fs st' c' a' → Q (exOf e) a' c'.w) →
    ∀ (b : Frame) (k : List Item) (cs : List Frame), ∃ e a' w', Q e a' w' ∧ Arrives P (lone (b.at a (.code c :: .inLoop c :: k)) cs cf.w) b k cs e a' w'

def GoodLH (P : Program) (LH : LoopF R) : Prop := ∀ fs c st k, Alg.holds (LH fs c st k) → ∃ e st', Alg.holds (k e st') ∧ LoopTo P fs c st e st' ∧ st.hp.nx ≤ st'.hp.nx

theorem region_seq (hE : EnvOK P E) {Γ : CallF R} {Γp : PureF R} (hΓ : GoodΓ P Γ) (hΓp : GoodΓp P Γp) {fs id : Nat} {ops : Array Oper} {st : St} {k : St → R}
    (h : Alg.holds (evOps E Γ Γp fs ops.toList none 0 ops.toList st k)) : ∃ st', Alg.holds (k st') ∧ CodeTo P fs (.region id ops false) st .normal st' ∧ st.hp.nx ≤ st'.hp.nx := by
  obtain ⟨st', h1, h2, h3⟩ := evOps_seq hE hΓ hΓp ops.toList 0 st k (by simp) h
  refine ⟨st', h1, fun c a hr Q hQ => wp_region ?_, h2⟩
  have := h3 c a hr Q hQ
  rw [List.range_eq_range']
  simpa using this

theorem region_draw (hE : EnvOK P E) {Γ : CallF R} {Γp : PureF R} (hΓ : GoodΓ P Γ) (hΓp : GoodΓp P Γp) {fs id : Nat} {ops : Array Oper} {st : St} {k : St → R} (hd : drawOK E ops = true)
    (h : Alg.holds (evOps E Γ Γp fs ops.toList (some st.hp.nx) 0 ops.toList ⟨st.tm, ⟨st.hp.ob, st.hp.nx + ops.size⟩⟩ k)) :
    ∃ st', Alg.holds (k st') ∧ CodeTo P fs (.region id ops true) st .normal st' ∧ st.hp.nx ≤ st'.hp.nx := by
  obtain ⟨st', h1, h2, h3⟩ := evOps_chain (P := P) hE hΓ hΓp ops.toList 0 _ k h
  refine ⟨st', h1, fun c a hr Q hQ => wp_region_any hE.wide ?_, Nat.le_trans (Nat.le_add_right _ _) h2⟩
  simp only [drawOK, Bool.and_eq_true] at hd
  have hr0 : Rel fs ⟨st.tm, ⟨st.hp.ob, st.hp.nx + ops.size⟩⟩ c a := ⟨hr.hp.bump (Nat.le_add_right _ _), hr.size, hr.defers, hr.tm⟩
  have hw : Rel fs ⟨st.tm, ⟨st.hp.ob, st.hp.nx + ops.size⟩⟩ { c with w := { c.w with drawn := c.w.drawn + 1 } } a := hr0.world rfl rfl rfl rfl
  have hany := AAny.lex (P := P) (E := E) (fs := fs) (ops := ops) (base := st.hp.nx) (Q := fun s => s = st') ops.toList 0 (Array.replicate ops.size false) _ st' (by simp)
    (fun j oj hj hl => by
      have : (Array.replicate ops.size false).getD j false = false := by
        simp only [Array.getD_eq_getD_getElem?]
        cases h : (Array.replicate ops.size false)[j]? with
        | none => rfl
        | some b =>
          rw [Array.getElem?_replicate] at h
          split at h
          · simp only [Option.some.injEq] at h; rw [← h]; rfl
          · cases h
      rw [this] at hl; cases hl)
    ⟨c, a, hr0⟩ (fun j hj => by omega) (by simpa using hd.2) h3 rfl
  have := AAny.sound _ _ _ hany _ a hw Q fun s c' a' hs he hr' => by
    subst hs
    exact hQ c' a' ((Ext.world c (w := { c.w with drawn := c.w.drawn + 1 }) rfl rfl rfl rfl).trans he) hr'
  simpa using this

theorem ev_sound (hE : EnvOK P E) {Γ : CallF R} {Γp : PureF R} {LH : LoopF R} (hΓ : GoodΓ P Γ) (hΓp : GoodΓp P Γp) (hL : GoodLH P LH) {fs : Nat} : ∀ (c : Code) (st : St) (k : Ex → St → R),
    Alg.holds (ev E Γ Γp LH fs c st k) → ∃ e st', Alg.holds (k e st') ∧ CodeTo P fs c st e st' ∧ st.hp.nx ≤ st'.hp.nx := by
  intro c
  induction c with
  | skip => intro st k h; exact ⟨.normal, st, h, fun cf a hr Q hQ => wp_skip (hQ cf a (Ext.refl _) hr), Nat.le_refl _⟩
  | label l => intro st k h; exact ⟨.normal, st, h, fun cf a hr Q hQ => wp_label (hQ cf a (Ext.refl _) hr), Nat.le_refl _⟩
  | region id ops draw =>
    intro st k h
    cases draw with
    | false =>
      obtain ⟨st', h1, h2, h3⟩ := region_seq (id := id) hE hΓ hΓp (by simpa [ev] using h)
      exact ⟨.normal, st', h1, h2, h3⟩
    | true =>
      simp only [ev] at h
      obtain ⟨hd, h⟩ := (Alg.holds_ob _ _).1 h
      rw [nxK_eq] at h
      obtain ⟨st', h1, h2, h3⟩ := region_draw (id := id) hE hΓ hΓp hd h
      exact ⟨.normal, st', h1, h2, h3⟩
  | seq a b iha ihb =>
    intro st k h
    simp only [ev] at h
    obtain ⟨e, s, h1, h2, h3⟩ := iha st _ h
    cases e with
    | normal =>
      obtain ⟨e', s', g1, g2, g3⟩ := ihb s _ h1
      refine ⟨e', s', g1, fun cf x hr Q hQ => wp_seq ?_, Nat.le_trans h3 g3⟩
      refine h2 cf x hr _ fun c' a' he hr' => ?_
      exact g2 c' a' hr' Q fun c2 a2 he2 hr2 => hQ c2 a2 (he.trans he2) hr2
    | exit i => exact ⟨_, s, h1, fun cf x hr Q hQ => wp_seq (h2 cf x hr _ fun c' a' he hr' => hQ c' a' he hr'), h3⟩
    | goto i => exact ⟨_, s, h1, fun cf x hr Q hQ => wp_seq (h2 cf x hr _ fun c' a' he hr' => hQ c' a' he hr'), h3⟩
    | ret => exact ⟨_, s, h1, fun cf x hr Q hQ => wp_seq (h2 cf x hr _ fun c' a' he hr' => hQ c' a' he hr'), h3⟩
  | cond x a b iha ihb =>
    intro st k h
    simp only [ev] at h
    split at h <;> try exact no_fail h
    rename_i g hx
    cases g with
    | true =>
      replace h := brK_t h
      obtain ⟨e, s, h1, h2, h3⟩ := iha st _ h
      refine ⟨e, s, h1, fun cf y hr Q hQ => wp_cond_true ?_ (h2 cf y hr Q hQ), h3⟩
      have := hr.opd x
      rw [hx] at this
      exact this.bool_inv
    | false =>
      replace h := brK_f h
      obtain ⟨e, s, h1, h2, h3⟩ := ihb st _ h
      refine ⟨e, s, h1, fun cf y hr Q hQ => wp_cond_false ?_ (h2 cf y hr Q hQ), h3⟩
      have := hr.opd x
      rw [hx] at this
      exact this.bool_inv
  | block id c ih =>
    intro st k h
    simp only [ev] at h
    obtain ⟨e, s, h1, h2, h3⟩ := ih st _ h
    cases e with
    | exit i =>
      dsimp only at h1
      split at h1
      · rename_i hb
        have hb := Nat.eq_of_beq_eq_true hb
        refine ⟨.normal, s, h1, fun cf y hr Q hQ => wp_block (h2 cf y hr _ fun c' a' he hr' => ?_), h3⟩
        simp only [exOf, Exit.inBlock, hb, if_true]
        exact hQ c' a' he hr'
      · rename_i hb
        refine ⟨.exit i, s, h1, fun cf y hr Q hQ => wp_block (h2 cf y hr _ fun c' a' he hr' => ?_), h3⟩
        have hne : i ≠ id := fun e => by subst e; rw [Nat.beq_refl] at hb; cases hb
        simp only [exOf, Exit.inBlock, hne, if_false]
        exact hQ c' a' he hr'
    | normal => exact ⟨_, s, h1, fun cf y hr Q hQ => wp_block (h2 cf y hr _ fun c' a' he hr' => hQ c' a' he hr'), h3⟩
    | goto i => exact ⟨_, s, h1, fun cf y hr Q hQ => wp_block (h2 cf y hr _ fun c' a' he hr' => hQ c' a' he hr'), h3⟩
    | ret => exact ⟨_, s, h1, fun cf y hr Q hQ => wp_block (h2 cf y hr _ fun c' a' he hr' => hQ c' a' he hr'), h3⟩
  | loop c _ =>
    intro st k h
    obtain ⟨e, s, h1, h2, h3⟩ := hL fs c st k (by simpa [ev] using h)
    refine ⟨e, s, h1, fun cf y hr Q hQ b kk cs => ?_, h3⟩
    obtain ⟨e', a', w', g1, g2⟩ := h2 cf y hr Q hQ b kk cs
    exact ⟨e', a', w', g1, .of_steps (.one step_loop) g2⟩
  | exit id => intro st k h; exact ⟨.exit id, st, h, fun cf a hr Q hQ => wp_exit (hQ cf a (Ext.refl _) hr), Nat.le_refl _⟩
  | goto l => intro st k h; exact ⟨.goto l, st, h, fun cf a hr Q hQ => wp_goto (hQ cf a (Ext.refl _) hr), Nat.le_refl _⟩
  | ret => intro st k h; exact ⟨.ret, st, h, fun cf a hr Q hQ => wp_ret (hQ cf a (Ext.refl _) hr), Nat.le_refl _⟩
  | rangeFunc => intro st k h; simp only [ev] at h; exact no_fail h
  | scope => intro st k h; simp only [ev] at h; exact no_fail h
  | refuse => intro st k h; simp only [ev] at h; exact no_fail h

theorem LoopTo.next {fs : Nat} {c : Code} {st s : St} {e : Ex} {st' : St} (h : CodeTo P fs c st .normal s) (h' : LoopTo P fs c s e st') : LoopTo P fs c st e st' := by
  intro cf a hr Q hQ b k cs
  have := h cf a hr (fun ex a1 w1 => ex = .normal ∧ ∃ e a' w', Q e a' w' ∧ Arrives P (lone (b.at a1 (.code c :: .inLoop c :: k)) cs w1) b k cs e a' w')
    (fun c' a' he hr' => ⟨rfl, h' c' a' hr' Q (fun c2 a2 he2 hr2 => hQ c2 a2 (he.trans he2) hr2) b k cs⟩) b (.inLoop c :: k) cs
  obtain ⟨ex, a1, w1, ⟨rfl, e, a', w', hq, harr⟩, hst⟩ := this
  exact ⟨e, a', w', hq, .of_steps (Steps.trans hst (.one step_inLoop)) harr⟩

theorem LoopTo.leave {fs : Nat} {c : Code} {st : St} {e : Ex} {st' : St} (hne : e ≠ .normal) (h : CodeTo P fs c st e st') : LoopTo P fs c st e st' := by
  intro cf a hr Q hQ b k cs
  have := h cf a hr (fun ex a1 w1 => ex ≠ .normal ∧ Q ex a1 w1) (fun c' a' he hr' => ⟨by cases e <;> first | exact absurd rfl hne | (simp [exOf]), hQ c' a' he hr'⟩) b (.inLoop c :: k) cs
  obtain ⟨ex, a1, w1, ⟨hn, hq⟩, hst⟩ := this
  exact ⟨ex, a1, w1, hq, .pass (x := .inLoop c) rfl (fun _ _ => .inl hn) hst⟩

theorem loopF_good (hE : EnvOK P E) {Γ : CallF R} {Γp : PureF R} (hΓ : GoodΓ P Γ) (hΓp : GoodΓp P Γp) : ∀ n, GoodLH P (loopF E Γ Γp n) := by
  intro n
  induction n with
  | zero => intro fs c st k h; exact no_fail h
  | succ n ih =>
    intro fs c st k h
    simp only [loopF] at h
    obtain ⟨e, s, h1, h2, h3⟩ := ev_sound hE hΓ hΓp ih c st _ h
    cases e with
    | normal =>
      obtain ⟨e', s', g1, g2, g3⟩ := ih fs c s k h1
      exact ⟨e', s', g1, LoopTo.next h2 g2, Nat.le_trans h3 g3⟩
    | exit i => exact ⟨_, s, h1, LoopTo.leave (by simp) h2, h3⟩
    | goto i => exact ⟨_, s, h1, LoopTo.leave (by simp) h2, h3⟩
    | ret => exact ⟨_, s, h1, LoopTo.leave (by simp) h2, h3⟩

def resOne (tmps : Array Value) : ResultVar → Sem Value
  | .tmp t => pure (tmps.getD t undef)
  | .cell a t => do loadVar t (← asAddr (tmps.getD a undef))

theorem args_sound : ∀ (vs : List V) (i : Nat) (tm : T V) (k : T V → R), i + vs.length ≤ 512 → Alg.holds (argsK i vs tm k) →
    ∃ tm', Alg.holds (k tm') ∧ (∀ t : Nat, t < 512 → opd tm' (.tmp t) = if i ≤ t ∧ t < i + vs.length then vs.getD (t - i) .junk else opd tm (.tmp t)) := by
  intro vs
  induction vs with
  | nil => intro i tm k _ h; exact ⟨tm, h, fun t _ => by rw [if_neg (by simp)]⟩
  | cons v vs ih =>
    intro i tm k hl h
    simp only [argsK, T.setK_eq] at h
    simp only [List.length_cons] at hl
    obtain ⟨tm', h1, h2⟩ := ih (i + 1) _ k (by omega) h
    refine ⟨tm', h1, fun t ht => ?_⟩
    rw [h2 t ht]
    have hd : dstOK (i + 1) (some i) := fun d hd => by cases hd; exact ⟨by omega, by omega⟩
    by_cases e : t = i
    · subst e
      rw [if_neg (by omega), if_pos (by simp)]
      have hble : Nat.ble t 511 = true := Nat.ble_eq_true_of_le (Nat.le_of_lt_succ ht)
      simp [Ab.opd, hble, T.get_set_self]
    · by_cases g : i ≤ t ∧ t < i + (vs.length + 1)
      · rw [if_pos (by omega), if_pos (by simpa using g)]
        rw [show t - i = (t - (i + 1)) + 1 by omega]
        simp
      · rw [if_neg (by omega), if_neg (by simpa using g)]
        exact opd_put_ne (st := ⟨tm, ⟨.nil, 0⟩⟩) (v := v) hd (fun d hd' hx => by cases hd'; cases hx; exact e rfl)

theorem res_sound (hE : EnvOK P E) {st : St} : ∀ (rs : List ResultVar) (k : List V → R), Alg.holds (resK E st rs k) → ∃ vs, Alg.holds (k vs) ∧ vs.length = rs.length ∧ ∀ fs c a, Rel fs st c a →
    ∃ ys : List Value, ys.length = vs.length ∧ (∀ i, i < vs.length → VR c (vs.getD i .junk) (ys.getD i undef)) ∧
      (rs.mapM (resOne a.tmps)).run P c.w = .ok ys c.w := by
  intro rs
  induction rs with
  | nil => intro k h; exact ⟨[], h, rfl, fun fs c a _ => ⟨[], rfl, fun i hi => by simp at hi, rfl⟩⟩
  | cons r rs ih =>
    intro k h
    have fin : ∀ (v : V), Alg.holds (resK E st rs fun r => k (v :: r)) → (∀ fs c a, Rel fs st c a → ∃ y, VR c v y ∧
        (resOne a.tmps r).run P c.w = .ok y c.w) →
        ∃ vs, Alg.holds (k vs) ∧ vs.length = (r :: rs).length ∧ ∀ fs c a, Rel fs st c a → ∃ ys : List Value, ys.length = vs.length ∧ (∀ i, i < vs.length → VR c (vs.getD i .junk) (ys.getD i undef)) ∧
          ((r :: rs).mapM (resOne a.tmps)).run P c.w = .ok ys c.w := by
      intro v hv hr
      obtain ⟨vs, h1, hlen, h2⟩ := ih _ hv
      refine ⟨v :: vs, h1, by simp [hlen], fun fs c a hrel => ?_⟩
      obtain ⟨y, hy, hrun⟩ := hr fs c a hrel
      obtain ⟨ys, hl, hall, hruns⟩ := h2 fs c a hrel
      refine ⟨y :: ys, by simp [hl], fun i hi => ?_, ?_⟩
      · cases i with
        | zero => simpa using hy
        | succ i => simpa using hall i (by simpa using hi)
      · rw [List.mapM_cons]
        simp only [Sem.run_bind, hrun, Result.andThen_ok, hruns, Sem.run_pure]
    cases r with
    | tmp t =>
      simp only [resK] at h
      exact fin _ h fun fs c a hrel => ⟨_, hrel.opd (.tmp t), rfl⟩
    | cell x t =>
      simp only [resK] at h
      obtain ⟨ti, hti, h⟩ := holds_optK h
      have ht := hE.ty t ti hti
      obtain ⟨vs, h, hlen, hload⟩ := loadK_sound (P := P) h
      cases ha : aggB ti.d with
      | true =>
        simp only [ha] at h hlen hload
        refine fin (.agg vs) h fun fs c a hrel => ?_
        obtain ⟨ad, ys, e, hys, hrun, _⟩ := hload st.hp (fun _ _ => rfl) c _ hrel.hp (hrel.opd (.tmp x))
        refine ⟨.agg ys, .agg hys.1 hys.2, ?_⟩
        have e' : a.tmps.getD x undef = .pointer (some ad) := e
        simp [resOne, e', asAddr, loadVar, ht.agg, ha, ht.size, hrun]
      | false =>
        simp only [ha] at h hlen hload
        match vs, hlen, h with
        | [v], _, h =>
          refine fin v h fun fs c a hrel => ?_
          obtain ⟨ad, ys, e, hys, hrun, h1⟩ := hload st.hp (fun _ _ => rfl) c _ hrel.hp (hrel.opd (.tmp x))
          obtain ⟨y, hy, hvy⟩ := hys.get (i := 0) (v := v) rfl
          have e' : a.tmps.getD x undef = .pointer (some ad) := e
          refine ⟨y, hvy, ?_⟩
          have h3 := h1 y (by first | rfl | trivial) hy
          simp only [resOne, e', asAddr, loadVar, Sem.run_bind, Sem.run_pure, Result.andThen_ok, ht.agg, ha, Bool.false_eq_true, if_false]
          exact h3

theorem body_sound (hE : EnvOK P E) {Γ : CallF R} {Γp : PureF R} {LH : LoopF R} (hΓ : GoodΓ P Γ) (hΓp : GoodΓp P Γp) (hL : GoodLH P LH) {f : FuncId} {fn : Func} (hf : P.funcs[f]? = some fn) {args : List V} {h : Heap} {k : V → Heap → R}
    (hk : Alg.holds (bodyK E Γ Γp LH fn args h k)) : ∃ v h', Alg.holds (k v h') ∧ CallTo P f args h v h' ∧ h.nx ≤ h'.nx := by
  unfold bodyK at hk
  split at hk <;> try exact no_fail hk
  rename_i code hb
  split at hk <;> try exact no_fail hk
  rename_i hlen
  simp only [Bool.and_eq_true] at hlen
  have hl1 := Nat.le_of_ble_eq_true hlen.1
  have hl2 := Nat.le_of_ble_eq_true hlen.2
  obtain ⟨tm, hk, htm⟩ := args_sound args 0 .nil _ (by omega) hk
  obtain ⟨e, st, hk, hcode, hnx⟩ := ev_sound hE hΓ hΓp hL code _ _ hk
  have fin : Alg.holds (resK E st fn.results.toList fun
      | [v] => k v st.hp
      | vs => k (.tup vs) st.hp) → (exOf e = .normal ∨ exOf e = .ret) → ∃ v h', Alg.holds (k v h') ∧ CallTo P f args h v h' ∧ h.nx ≤ h'.nx := by
    intro hk he
    obtain ⟨vs, hk, hvl, hres⟩ := res_sound (P := P) hE fn.results.toList _ hk
    obtain ⟨v, hv, hvv⟩ : ∃ v, Alg.holds (k v st.hp) ∧ ((∃ u, vs = [u] ∧ v = u) ∨ (vs.length ≠ 1 ∧ v = .tup vs)) := by
      match vs, hk with
      | [], hk => exact ⟨_, hk, .inr ⟨by simp, rfl⟩⟩
      | [u], hk => exact ⟨_, hk, .inl ⟨u, rfl, rfl⟩⟩
      | u :: u' :: us, hk => exact ⟨_, hk, .inr ⟨by simp, rfl⟩⟩
    refine ⟨v, st.hp, hv, fun c xs hh hxs => calls_of_wp hf hb ?_, hnx⟩
    have hsz := hxs.1
    have hrel : Rel fn.ntmps ⟨tm, h⟩ c { tmps := xs ++ Array.replicate (fn.ntmps - xs.size) undef, defers := [] } := by
      refine ⟨hh, by simp; omega, rfl, fun t ht => ?_⟩
      rw [htm t ht]
      by_cases g : 0 ≤ t ∧ t < 0 + args.length
      · rw [if_pos g]
        have := hxs.2 t (by omega)
        have hlt : t < xs.size := by omega
        simp only [Array.getD_eq_getD_getElem?, Nat.sub_zero] at this ⊢
        rw [Array.getElem?_append_left hlt]
        exact this
      · rw [if_neg g]
        have : opd (.nil : T V) (.tmp t) = .junk := by
          have hble : Nat.ble t 511 = true := Nat.ble_eq_true_of_le (Nat.le_of_lt_succ ht)
          simp [Ab.opd, hble, T.get_nil]
        rw [this]
        exact .junk _
    refine hcode c _ hrel _ fun c' a' hex hr' => ?_
    obtain ⟨ys, hyl, hys, hrun⟩ := hres fn.ntmps c' a' hr'
    have hmap : (fn.results.mapM (resOne a'.tmps)).run P c'.w = .ok ys.toArray c'.w := by
      rw [← Array.toArray_toList (xs := fn.results), List.mapM_toArray]
      simp only [Sem.run_map, hrun, Result.andThen_ok]
    have hpost : a'.defers = [] ∧ ∃ r, (results fn a'.tmps).run P c'.w = .ok r c'.w ∧ ∃ v' c2, Ending.returned r = .returned v' ∧ c2.w = c'.w ∧ Ext c c2 ∧ HRel st.hp c2 ∧ VR c2 v v' := by
      refine ⟨hr'.defers, ?_⟩
      have e1 : results fn a'.tmps = (do let vs ← fn.results.mapM (resOne a'.tmps); pure (if h : vs.size = 1 then vs[0] else .tuple vs)) := rfl
      rcases hvv with ⟨u, rfl, rfl⟩ | ⟨hne, rfl⟩
      · obtain ⟨y, rfl⟩ : ∃ y, ys = [y] := by match ys, hyl with | [y], _ => exact ⟨y, rfl⟩
        refine ⟨y, ?_, y, c', rfl, rfl, hex, hr'.hp, by simpa using hys 0 (by simp)⟩
        rw [e1]
        simp [hmap]
      · refine ⟨.tuple ys.toArray, ?_, _, c', rfl, rfl, hex, hr'.hp, .tup (by simp [hyl]) fun i hi => ?_⟩
        · rw [e1]
          have : ys.length ≠ 1 := by omega
          simp [hmap, this]
        · have := hys i hi
          simpa [List.getD_eq_getElem?_getD, Array.getD_eq_getD_getElem?] using this
    rcases he with he | he <;> rw [he] <;> exact hpost
  cases e with
  | normal => exact fin hk (.inl rfl)
  | ret => exact fin hk (.inr rfl)
  | exit i => exact no_fail hk
  | goto i => exact no_fail hk

theorem pure_rel {c c0 : Cfg} : ∀ (n : Nat) (v : V) (x : Value), pureB n v = true → VR c v x → VR c0 v x := by
  intro n
  induction n with
  | zero =>
    intro v x hp hv
    cases hv <;> first | exact .bool _ | exact .int _ _ | exact .str _ | exact .lit _ | (simp [pureB] at hp)
  | succ n ih =>
    intro v x hp hv
    cases hv with
    | bool => exact .bool _
    | int => exact .int _ _
    | str => exact .str _
    | lit => exact .lit _
    | agg h1 h2 =>
      simp only [pureB, List.all_eq_true] at hp
      exact .agg h1 fun i hi => ih _ _ (by
        rw [List.getD_eq_getElem?_getD, List.getElem?_eq_getElem hi]; exact hp _ (by simp)) (h2 i hi)
    | tup h1 h2 =>
      simp only [pureB, List.all_eq_true] at hp
      exact .tup h1 fun i hi => ih _ _ (by
        rw [List.getD_eq_getElem?_getD, List.getElem?_eq_getElem hi]; exact hp _ (by simp)) (h2 i hi)
    | _ => simp [pureB] at hp

theorem plain_good {Γ : CallF R} (hΓ : GoodΓ P Γ) : GoodΓp P (plainF Γ) := by
  intro f args h fl k hk
  unfold plainF at hk
  split at hk <;> try exact no_fail hk
  rename_i hargs
  obtain ⟨v, h', hk, hc, _⟩ := hΓ f args ⟨.nil, 0⟩ _ hk
  split at hk <;> try exact no_fail hk
  rename_i hv
  refine ⟨v, hk, fun h0 _ c xs hh hxs => ?_⟩
  let c0 : Cfg := { pl := fun _ => none, w := c.w, imm := fun _ => False }
  have no : ∀ b, ¬ c0.owned b := fun b ⟨id, p, hp, _⟩ => by cases hp
  have h00 : HRel ⟨.nil, 0⟩ c0 := ⟨fun b hb => hb.elim, fun id p hp => (by cases hp), fun id o _ hg => (by simp [Heap.get, T.get_nil] at hg), fun i j p q b hp => (by cases hp), fun b hb => (no b hb).elim, fun id p hp => (by cases hp)⟩
  have hxs0 : VRs c0 args xs := ⟨hxs.1, fun i hi => pure_rel 3 _ _ (by
    rw [List.all_eq_true] at hargs
    rw [List.getD_eq_getElem?_getD, List.getElem?_eq_getElem hi]; exact hargs _ (by simp)) (hxs.2 i hi)⟩
  refine (hc c0 xs h00 hxs0).mono ?_
  rintro e w' ⟨v', c1, rfl, rfl, hext, hh1, hvr⟩
  have hold : ∀ b, b < c.w.heap.size → c1.w.heap[b]? = c.w.heap[b]? := fun b hb => hext.frame b hb (no b)
  have hext' : Ext c { c with w := c1.w } := ⟨hext.size, fun _ h => h, fun _ p hp => ⟨p, hp, p.le_refl⟩, fun b hb _ => hold b hb, fun b hb => .inl hb, hext.os, hext.tape, hext.output, fun _ h => .inl h⟩
  refine ⟨v', { c with w := c1.w }, rfl, rfl, hext', ?_, pure_rel 3 _ _ hv hvr⟩
  exact ⟨fun b hb => ⟨Nat.lt_of_lt_of_le (hh.ok b hb).1 hext.size, (hh.ok b hb).2⟩,
    fun id p hp => let ⟨o, g1, g2⟩ := hh.there id p hp; ⟨o, g1, g2.mono hh.ok hext' fun b hb => hold b (hh.lt b ⟨id, p, hp, hb⟩)⟩,
    hh.back, hh.inj, fun b hb => Nat.lt_of_lt_of_le (hh.lt b hb) hext.size, hh.nx⟩

theorem runF_good (hE : EnvOK P E) (L : Nat) : ∀ n, GoodΓ P (runF (R := R) E L n) := by
  intro n
  induction n with
  | zero => intro f args h k hk; exact no_fail hk
  | succ n ih =>
    intro f args h k hk
    simp only [runF] at hk
    obtain ⟨fn, hfn, hk⟩ := holds_optK hk
    split at hk <;> try exact no_fail hk
    rename_i hb
    exact body_sound hE ih (plain_good ih) (loopF_good hE ih (plain_good ih) L) (hE.fns f fn (Nat.lt_succ_of_le (Nat.le_of_ble_eq_true hb)) hfn).1 hk

/-- A closed run. -/
theorem run_closed (hE : EnvOK P E) {L n : Nat} {f : FuncId} {args : List V} {k : V → Heap → Bool} (h : runF (R := Bool) E L n f args ⟨.nil, 0⟩ k = true) :
    ∃ v h', k v h' = true ∧ CallTo P f args ⟨.nil, 0⟩ v h' := by
  obtain ⟨v, h', h1, h2, _⟩ := runF_good (R := Bool) hE L n f args ⟨.nil, 0⟩ k h
  exact ⟨v, h', h1, h2⟩
end
end Go.Ab
