/- An abstract heap is told less sharply: objects are dropped, renamed, frozen. Own work. -/
import Derived.Test.YtcimijgokedcgaaAbRun
set_option linter.unusedVariables false
set_option linter.unusedSimpArgs false
set_option linter.unusedSectionVars false
namespace Go.Ab
open Go Go.RowKit

/-- 'u' says of a value what 'v' says, or less: σ: which object (of 'h') a new id names; F: the objects that are frozen. -/
inductive Rp (h : Heap) (σ ε : Nat → Option Nat) (F : Nat → Prop) : V → V → Prop
  | junk (v) : Rp h σ ε F v .junk
  | pure {v} : Pure v → Rp h σ ε F v v
  | ptr {i j off} : σ i = some j → Rp h σ ε F (.ptr j off) (.ptr i off)
  | bare {i sz} : σ i = none → ε i = some sz → Rp h σ ε F (.lit (.slice none 0 0)) (.bv i 0 sz 0 0 none)
  | bptr {i j ext sz a b} : σ i = some j → Rp h σ ε F (.bptr j ext sz a b) (.bptr i ext sz a b)
  | bv {i j ext sz lo len cap} : σ i = some j → Rp h σ ε F (.bv j ext sz lo len cap) (.bv i ext sz lo len cap)
  | av {i j off len cap sz} : σ i = some j → Rp h σ ε F (.av j off len cap sz) (.av i off len cap sz)
  | map {i j} : σ i = some j → Rp h σ ε F (.map j) (.map i)
  | iter {i j} : σ i = some j → Rp h σ ε F (.iter j) (.iter i)
  | cold {j ext sz lo len cap get get2} : F j → h.get j = some (.buf ext sz get) → 0 < sz → (∀ a b, a < len → b < sz → Rp h σ ε F (get (lo + a) b) (get2 a b)) → (∀ a b, Pure (get2 a b)) →
      Rp h σ ε F (.bv j ext sz lo len cap) (.isl len sz get2)
  | nil {c sz get} : Rp h σ ε F (.lit (.slice none 0 c)) (.isl 0 sz get)
  | isl {len sz get get2} : (∀ a b, a < len → b < sz → Rp h σ ε F (get a b) (get2 a b)) → (∀ a b, Pure (get2 a b)) → Rp h σ ε F (.isl len sz get) (.isl len sz get2)
  | fn {f} {fs cs fs' cs' : List V} : fs.length = fs'.length → (∀ i, i < fs.length → Rp h σ ε F (fs.getD i .junk) (fs'.getD i .junk)) →
      cs.length = cs'.length → (∀ i, i < cs.length → Rp h σ ε F (cs.getD i .junk) (cs'.getD i .junk)) → Rp h σ ε F (.fn f fs cs) (.fn f fs' cs')
  | iface {t v u} : Rp h σ ε F v u → Rp h σ ε F (.iface t v) (.iface t u)
  | agg {cs cs' : List V} : cs.length = cs'.length → (∀ i, i < cs.length → Rp h σ ε F (cs.getD i .junk) (cs'.getD i .junk)) → Rp h σ ε F (.agg cs) (.agg cs')
  | tup {cs cs' : List V} : cs.length = cs'.length → (∀ i, i < cs.length → Rp h σ ε F (cs.getD i .junk) (cs'.getD i .junk)) → Rp h σ ε F (.tup cs) (.tup cs')

inductive RpOb (h : Heap) (σ ε : Nat → Option Nat) (F : Nat → Prop) : Ob → Ob → Prop
  | cells {cs cs'} : cs.length = cs'.length → (∀ i, i < cs.length → Rp h σ ε F (cs.getD i .junk) (cs'.getD i .junk)) → RpOb h σ ε F (.cells cs) (.cells cs')
  | buf {ext sz get get'} : (∀ i j, i < ext → j < sz → Rp h σ ε F (get i j) (get' i j)) → RpOb h σ ε F (.buf ext sz get) (.buf ext sz get')
  | map {es es' : List ME} {clock} : es.length = es'.length → (∀ i (h1 : i < es.length) (h2 : i < es'.length), es'[i].sig = es[i].sig ∧ es'[i].key = es[i].key ∧ es'[i].born = es[i].born ∧ Rp h σ ε F es[i].val es'[i].val) →
      RpOb h σ ε F (.map es clock) (.map es' clock)

/-- the blocks that are frozen -/
def cold (c : Cfg) (F : Nat → Prop) (b : Nat) : Prop := ∃ j p, F j ∧ c.pl j = some p ∧ p.owns b

def Cfg.keep (c : Cfg) (σ ε : Nat → Option Nat) (F : Nat → Prop) : Cfg := { pl := fun i => match σ i with | some j => c.pl j | none => (ε i).map fun sz => .buf 0 0 0 0 sz, w := c.w, imm := fun b => c.imm b ∨ cold c F b }

theorem pure_keep {c c2 : Cfg} (hw : c2.w.heap = c.w.heap) (hi : ∀ b, c.imm b → c2.imm b) {v : V} {x : Value} (hp : Pure v) (hv : VR c v x) : VR c2 v x := by
  induction hv with
  | bool => exact .bool _
  | int => exact .int _ _
  | str => exact .str _
  | lit => exact .lit _
  | junk => exact .junk _
  | iptr h1 h2 h3 _ h5 ih => exact .iptr (hi _ h1) (by rw [hw]; exact h2) h3 (fun a b ha hb => ih a b ha hb (h5 a b)) h5
  | isl0 => exact .isl0
  | isl h1 h2 h3 _ h5 h6 ih => exact .isl (hi _ h1) (by rw [hw]; exact h2) h3 (fun a b ha hb => ih a b ha hb (h5 a b)) h5 h6
  | fn h1 _ h2 _ ih1 ih2 =>
    cases hp with
    | fn p1 p2 =>
      exact .fn h1 (fun i hi => ih1 i hi (p1 _ (by rw [List.getD_eq_getElem?_getD, List.getElem?_eq_getElem hi]; simp))) h2 (fun i hi => ih2 i hi (p2 _ (by rw [List.getD_eq_getElem?_getD, List.getElem?_eq_getElem hi]; simp)))
  | iface _ ih => cases hp with | iface p => exact .iface (ih p)
  | agg h1 _ ih => cases hp with | agg p => exact .agg h1 fun i hi => ih i hi (p _ (by rw [List.getD_eq_getElem?_getD, List.getElem?_eq_getElem hi]; simp))
  | tup h1 _ ih => cases hp with | tup p => exact .tup h1 fun i hi => ih i hi (p _ (by rw [List.getD_eq_getElem?_getD, List.getElem?_eq_getElem hi]; simp))
  | _ => cases hp

theorem Rp.sound {h : Heap} {c : Cfg} (H : HRel h c) {σ ε : Nat → Option Nat} {F : Nat → Prop} {v u : V} (hr : Rp h σ ε F v u) : ∀ {x : Value}, VR c v x → VR (c.keep σ ε F) u x := by
  have hpl : ∀ {i j : Nat} {p : Pl}, σ i = some j → c.pl j = some p → (c.keep σ ε F).pl i = some p := fun hs hp => by simp only [Cfg.keep, hs]; exact hp
  induction hr with
  | junk => intro x _; exact .junk _
  | pure hp => intro x hv; exact pure_keep (c := c) (c2 := c.keep σ ε F) rfl (fun b hb => Or.inl hb) hp hv
  | ptr hs => intro x hv; obtain ⟨b, n, h1, rfl⟩ := hv.ptr_inv; exact .ptr (hpl hs h1)
  | @bare i sz hs he =>
    intro x hv
    rw [hv.lit_inv]
    exact .bv (c := c.keep σ ε F) (b := 0) (base := 0) (ext' := 0) (cp := 0) (sz' := sz) (by simp [Cfg.keep, hs, he]) (Nat.le_refl _) (Nat.le_refl _) (Nat.le_refl _) (fun cc hcc => by cases hcc) (fun h => by omega) (fun _ => ⟨rfl, by omega, fun _ => rfl, fun h => by simp at h⟩)
  | bptr hs => intro x hv; obtain ⟨a, b, base, e2, cap, s2, h1, h2, h3, h4, rfl⟩ := hv.bptr_inv; exact .bptr (hpl hs h1) h2 h3 h4
  | bv hs => intro x hv; obtain ⟨a, cap', b, base, ext', cp, sz', h1, h2, h3, h4, h5, h6, h7, rfl⟩ := hv.bv_inv; exact .bv (hpl hs h1) h2 h3 h4 h5 h6 h7
  | av hs => intro x hv; obtain ⟨b, n, a, h1, h3, h4, rfl⟩ := hv.av_inv; exact .av (hpl hs h1) h3 h4
  | map hs => intro x hv; obtain ⟨r, h1, rfl⟩ := hv.map_inv; exact .map (hpl hs h1)
  | iter hs => intro x hv; cases hv with | iter h1 => exact .iter (hpl hs h1)
  | @cold j ext sz lo len cap get get2 hF hg hsz _ hpu ih =>
    intro x hv
    obtain ⟨a, cap', b, base, ext', cp, sz', h1, h2, h3, h4, h5, h6, h7, rfl⟩ := hv.bv_inv
    obtain ⟨o', g1, g2⟩ := H.there j _ h1
    rw [hg] at g1
    cases g1
    cases g2 with
    | buf g3 g4 =>
      obtain ⟨_, q1, q2, q3⟩ := h7 rfl
      rcases Nat.eq_zero_or_pos len with h0 | h0
      · subst h0; exact .isl0
      · have hcs : 0 < cp * sz := Nat.mul_pos (by omega) hsz
        have ha := q3 (Nat.mul_pos (by omega) hsz)
        subst ha
        obtain ⟨arr, el, r1, r2, r3⟩ := g4 hcs
        refine .isl (.inr ⟨j, _, hF, h1, hcs, rfl⟩) r1 ?_ (fun i k hi hk => ?_) hpu h4
        · have : (lo + len) * sz ≤ cp * sz := Nat.mul_le_mul_right _ (by omega)
          rw [Nat.add_mul] at this; omega
        · have := ih i k hi hk (r3 (lo + i) k (by omega) hk)
          rwa [show base + lo * sz + i * sz + k = base + (lo + i) * sz + k by rw [Nat.add_mul]; omega]
  | nil => intro x hv; rw [hv.lit_inv]; exact .isl0
  | isl _ hpu ih =>
    intro x hv
    cases hv with
    | isl0 => exact .isl0
    | isl h1 h2 h3 h4 h5 h6 => exact .isl (.inl h1) h2 h3 (fun a b ha hb => ih a b ha hb (h4 a b ha hb)) hpu h6
  | fn h1 _ h2 _ ih1 ih2 =>
    intro x hv
    obtain ⟨fs', cs', rfl, g1, g2⟩ := hv.fn_inv
    exact .fn (by rw [← h1]; exact g1.1) (fun i hi => ih1 i (by omega) (g1.2 i (by omega))) (by rw [← h2]; exact g2.1) (fun i hi => ih2 i (by omega) (g2.2 i (by omega)))
  | iface _ ih => intro x hv; obtain ⟨y, rfl, hy⟩ := hv.iface_inv; exact .iface (ih hy)
  | agg h1 _ ih =>
    intro x hv
    obtain ⟨xs, rfl, g⟩ := hv.agg_inv
    exact .agg (by rw [← h1]; exact g.1) fun i hi => ih i (by omega) (g.2 i (by omega))
  | tup h1 _ ih =>
    intro x hv
    obtain ⟨xs, rfl, g⟩ := hv.tup_inv
    exact .tup (by rw [← h1]; exact g.1) fun i hi => ih i (by omega) (g.2 i (by omega))

theorem RpOb.sound {h : Heap} {c : Cfg} (H : HRel h c) {σ ε : Nat → Option Nat} {F : Nat → Prop} {o u : Ob} (hr : RpOb h σ ε F o u) {p : Pl} (ho : OR c o p) : OR (c.keep σ ε F) u p := by
  cases hr with
  | cells h1 h2 =>
    cases ho with
    | cells g1 g2 =>
      rw [h1]
      exact .cells g1 ⟨by rw [← h1]; exact g2.1, fun i hi => (h2 i (by omega)).sound H (g2.2 i (by omega))⟩
  | buf h1 =>
    cases ho with
    | buf g1 g2 =>
      refine .buf g1 fun h0 => ?_
      obtain ⟨arr, el, r1, r2, r3⟩ := g2 h0
      exact ⟨arr, el, r1, r2, fun i j hi hj => (h1 i j hi hj).sound H (r3 i j hi hj)⟩
  | map h1 h2 =>
    cases ho with
    | map g1 g2 g3 =>
      refine .map g1 (by omega) fun i hi hi' => ?_
      obtain ⟨e1, e2, e3, e4⟩ := h2 i (by omega) hi
      obtain ⟨q1, q2, q3⟩ := g3 i (by omega) hi'
      exact ⟨by rw [q1, e1, e2], e4.sound H q2, by rw [e3, q3]⟩

/-- what a heap that is told less sharply has to satisfy -/
structure Keep (h h2 : Heap) (σ ε : Nat → Option Nat) (F : Nat → Prop) : Prop where
  inj : ∀ i i' j, σ i = some j → σ i' = some j → i = i'
  cold : ∀ i j, σ i = some j → ¬ F j
  obs : ∀ i, i < 65536 → ∀ o2, h2.get i = some o2 → (∃ j o, σ i = some j ∧ h.get j = some o ∧ RpOb h σ ε F o o2) ∨ (σ i = none ∧ ∃ sz get, ε i = some sz ∧ o2 = .buf 0 sz get)
  dom : ∀ i j, σ i = some j → ∃ o2, h2.get i = some o2 ∧ i < h2.nx ∧ i < 65536
  lt : ∀ i j, σ i = some j → j < 65536
  bare : ∀ i sz, σ i = none → ε i = some sz → ∃ o2, h2.get i = some o2 ∧ i < h2.nx ∧ i < 65536

theorem Cfg.keep_pl {c : Cfg} {σ ε : Nat → Option Nat} {F : Nat → Prop} {i : Nat} {p : Pl} (h : (c.keep σ ε F).pl i = some p) : (∃ j, σ i = some j ∧ c.pl j = some p) ∨ (σ i = none ∧ ∃ sz, ε i = some sz ∧ p = .buf 0 0 0 0 sz) := by
  simp only [Cfg.keep] at h
  cases hs : σ i with
  | some j => rw [hs] at h; exact .inl ⟨j, rfl, h⟩
  | none =>
    rw [hs] at h
    simp only [Option.map_eq_some_iff] at h
    obtain ⟨sz, h1, h2⟩ := h
    exact .inr ⟨rfl, sz, h1, h2.symm⟩

theorem Cfg.keep_owns {c : Cfg} {σ ε : Nat → Option Nat} {F : Nat → Prop} {i b : Nat} {p : Pl} (h : (c.keep σ ε F).pl i = some p) (hb : p.owns b) : ∃ j, σ i = some j ∧ c.pl j = some p := by
  rcases Cfg.keep_pl h with h1 | ⟨_, sz, _, rfl⟩
  · exact h1
  · simp [Pl.owns] at hb

theorem HRel.keep {h h2 : Heap} {c : Cfg} (H : HRel h c) {σ ε : Nat → Option Nat} {F : Nat → Prop} (K : Keep h h2 σ ε F) : HRel h2 (c.keep σ ε F) where
  ok b hb := by
    rcases hb with hb | ⟨j, p, hF, hp, hb⟩
    · refine ⟨(H.ok b hb).1, fun ⟨i, q, hq, hqb⟩ => (H.ok b hb).2 ?_⟩
      obtain ⟨j, _, hj⟩ := Cfg.keep_owns hq hqb
      exact ⟨j, q, hj, hqb⟩
    · refine ⟨H.lt b ⟨j, p, hp, hb⟩, fun ⟨i, q, hq, hqb⟩ => ?_⟩
      obtain ⟨j', hs, hj⟩ := Cfg.keep_owns hq hqb
      have := H.inj j j' p q b hp hj hb hqb
      subst this
      exact K.cold i j hs hF
  there i p hp := by
    rcases Cfg.keep_pl hp with ⟨j, hs, hj⟩ | ⟨hs, sz, he, rfl⟩
    · obtain ⟨o2, h1, h3, h4⟩ := K.dom i j hs
      rcases K.obs i h4 o2 h1 with ⟨j', o, g1, g2, g3⟩ | ⟨g1, _⟩
      · rw [hs] at g1
        cases g1
        obtain ⟨o', q1, q2⟩ := H.there j p hj
        rw [g2] at q1
        cases q1
        exact ⟨o2, h1, g3.sound H q2⟩
      · rw [hs] at g1; cases g1
    · obtain ⟨o2, h1, h3, h4⟩ := K.bare i sz hs he
      rcases K.obs i h4 o2 h1 with ⟨j', o, g1, g2, g3⟩ | ⟨_, sz', get, g1, g2⟩
      · rw [hs] at g1; cases g1
      · rw [he] at g1
        cases g1
        subst g2
        exact ⟨_, h1, .buf (Nat.le_refl _) fun h0 => by simp at h0⟩
  back i o2 hi hg := by
    rcases K.obs i hi o2 hg with ⟨j, o, g1, g2, g3⟩ | ⟨g1, sz, get, g2, _⟩
    · obtain ⟨p, hp⟩ := H.back j o (K.lt i j g1) g2
      exact ⟨p, by simp only [Cfg.keep, g1]; exact hp⟩
    · exact ⟨.buf 0 0 0 0 sz, by simp [Cfg.keep, g1, g2]⟩
  inj i i' p q b hp hq hpb hqb := by
    obtain ⟨j, hs, hj⟩ := Cfg.keep_owns hp hpb
    obtain ⟨j', hs', hj'⟩ := Cfg.keep_owns hq hqb
    have := H.inj j j' p q b hj hj' hpb hqb
    subst this
    exact K.inj i i' j hs hs'
  lt b hb := by
    obtain ⟨i, q, hq, hqb⟩ := hb
    obtain ⟨j, _, hj⟩ := Cfg.keep_owns hq hqb
    exact H.lt b ⟨j, q, hj, hqb⟩
  nx i p hp := by
    rcases Cfg.keep_pl hp with ⟨j, hs, _⟩ | ⟨hs, sz, he, _⟩
    · obtain ⟨_, _, h3, h4⟩ := K.dom i j hs
      exact ⟨h3, h4⟩
    · obtain ⟨_, _, h3, h4⟩ := K.bare i sz hs he
      exact ⟨h3, h4⟩

/-- What was there at the beginning is there under its own name. -/
theorem Ext.keep {c0 c : Cfg} (h : Ext c0 c) {σ ε : Nat → Option Nat} {F : Nat → Prop} (hid : ∀ i p, c0.pl i = some p → σ i = some i) (hF : ∀ i p, c0.pl i = some p → ¬ F i) {hp : Heap} (H : HRel hp c) : Ext c0 (c.keep σ ε F) where
  size := h.size
  imm b hb := .inl (h.imm b hb)
  pl id p hp := by
    obtain ⟨q, hq, l⟩ := h.pl id p hp
    exact ⟨q, by simp only [Cfg.keep, hid id p hp]; exact hq, l⟩
  frame := h.frame
  own b hb := by
    obtain ⟨i, q, hq, hqb⟩ := hb
    obtain ⟨j, _, hj⟩ := Cfg.keep_owns hq hqb
    exact h.own b ⟨j, q, hj, hqb⟩
  os := h.os
  tape := h.tape
  output := h.output
  immo b hb := by
    rcases hb with hb | ⟨j, p, _, hp, hb⟩
    · exact h.immo b hb
    · rcases h.own b ⟨j, p, hp, hb⟩ with h1 | h1
      · exact .inr (.inl h1)
      · exact .inr (.inr h1)

/-- A call's answer, told less sharply. -/
theorem CallTo.keep {P : Program} {f : FuncId} {args : List V} {h h' h2 : Heap} {v v2 : V} (hc : CallTo P f args h v h') {σ ε : Nat → Option Nat} {F : Nat → Prop} (K : Keep h' h2 σ ε F) (hv : Rp h' σ ε F v v2)
    (hid : ∀ i o, i < 65536 → h.get i = some o → σ i = some i) (hF : ∀ i o, i < 65536 → h.get i = some o → ¬ F i) : CallTo P f args h v2 h2 := by
  intro c xs hh hx
  refine (hc c xs hh hx).mono ?_
  rintro e w' ⟨v', c', rfl, rfl, he, hh', hvr⟩
  have id1 : ∀ i p, c.pl i = some p → σ i = some i := fun i p hp => by
    obtain ⟨o, g, _⟩ := hh.there i p hp
    exact hid i o (hh.nx i p hp).2 g
  have f1 : ∀ i p, c.pl i = some p → ¬ F i := fun i p hp => by
    obtain ⟨o, g, _⟩ := hh.there i p hp
    exact hF i o (hh.nx i p hp).2 g
  exact ⟨v', c'.keep σ ε F, rfl, rfl, he.keep id1 f1 hh', hh'.keep K, hv.sound hh' hvr⟩

theorem Rel.keep {fs : Nat} {s s2 : St} {c : Cfg} {a : Act} (hr : Rel fs s c a) {σ ε : Nat → Option Nat} {F : Nat → Prop} (K : Keep s.hp s2.hp σ ε F) (ht : ∀ t : Nat, t < 512 → Rp s.hp σ ε F (Ab.opd s.tm (.tmp t)) (Ab.opd s2.tm (.tmp t))) :
    Rel fs s2 (c.keep σ ε F) a :=
  ⟨hr.hp.keep K, hr.size, hr.defers, fun t h => (ht t h).sound hr.hp (hr.tm t h)⟩

theorem CodeTo.keep {P : Program} {fs : Nat} {cd : Code} {st s s2 : St} {e : Ex} (hc : CodeTo P fs cd st e s) {σ ε : Nat → Option Nat} {F : Nat → Prop} (K : Keep s.hp s2.hp σ ε F)
    (ht : ∀ t : Nat, t < 512 → Rp s.hp σ ε F (opd s.tm (.tmp t)) (opd s2.tm (.tmp t))) (hid : ∀ i o, i < 65536 → st.hp.get i = some o → σ i = some i) (hF : ∀ i o, i < 65536 → st.hp.get i = some o → ¬ F i) : CodeTo P fs cd st e s2 := by
  intro c a hr Q hQ
  refine hc c a hr Q fun c' a' he hr' => ?_
  have id1 : ∀ i p, c.pl i = some p → σ i = some i := fun i p hp => by
    obtain ⟨o, g, _⟩ := hr.hp.there i p hp
    exact hid i o (hr.hp.nx i p hp).2 g
  have f1 : ∀ i p, c.pl i = some p → ¬ F i := fun i p hp => by
    obtain ⟨o, g, _⟩ := hr.hp.there i p hp
    exact hF i o (hr.hp.nx i p hp).2 g
  exact hQ (c'.keep σ ε F) a' (he.keep id1 f1 hr'.hp) (hr'.keep K ht)
end Go.Ab
