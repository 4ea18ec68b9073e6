/- A call's contract over a small heap, within a great one. Own work. -/
import Derived.Test.YtcimijgokedcgaaAbKeep
set_option linter.unusedVariables false
set_option linter.unusedSimpArgs false
set_option linter.unusedSectionVars false
namespace Go.Ab
open Go Go.RowKit

theorem VR.more {c c' : Cfg} (hw : c'.w = c.w) (hp : ∀ i p, c.pl i = some p → c'.pl i = some p) (hi : ∀ b, c.imm b → c'.imm b) {v : V} {x : Value} (hv : VR c v x) : VR c' v x := by
  induction hv with
  | bool => exact .bool _
  | int => exact .int _ _
  | str => exact .str _
  | lit => exact .lit _
  | junk => exact .junk _
  | ptr h => exact .ptr (hp _ _ h)
  | bptr h a b d => exact .bptr (hp _ _ h) a b d
  | bv h a b d e f g => exact .bv (hp _ _ h) a b d e f g
  | av h a b => exact .av (hp _ _ h) a b
  | map h => exact .map (hp _ _ h)
  | iter h => exact .iter (hp _ _ h)
  | iptr h1 h2 h3 _ h5 ih => exact .iptr (hi _ h1) (by rw [hw]; exact h2) h3 ih h5
  | isl0 => exact .isl0
  | isl h1 h2 h3 _ h5 h6 ih => exact .isl (hi _ h1) (by rw [hw]; exact h2) h3 ih h5 h6
  | fn h1 _ h2 _ ih1 ih2 => exact .fn h1 ih1 h2 ih2
  | iface _ ih => exact .iface ih
  | agg h1 _ ih => exact .agg h1 ih
  | tup h1 _ ih => exact .tup h1 ih

theorem OR.more {c c' : Cfg} (hw : c'.w = c.w) (hp : ∀ i p, c.pl i = some p → c'.pl i = some p) (hi : ∀ b, c.imm b → c'.imm b) {o : Ob} {p : Pl} (ho : OR c o p) : OR c' o p := by
  cases ho with
  | cells h1 h2 => exact .cells (by rw [hw]; exact h1) ⟨h2.1, fun i h => (h2.2 i h).more hw hp hi⟩
  | buf h1 h2 =>
    refine .buf h1 fun h0 => ?_
    obtain ⟨arr, el, h3, h4, h5⟩ := h2 h0
    exact ⟨arr, el, by rw [hw]; exact h3, h4, fun i j hi' hj => (h5 i j hi' hj).more hw hp hi⟩
  | map h1 h2 h3 => exact .map (by rw [hw]; exact h1) h2 fun i h h' => ⟨(h3 i h h').1, (h3 i h h').2.1.more hw hp hi, (h3 i h h').2.2⟩

def noF : Nat → Prop := fun _ => False
def noE : Nat → Option Nat := fun _ => none

/-- the answer's objects, in the great heap -/
structure Merge (H H2 h' : Heap) (σ τ : Nat → Option Nat) : Prop where
  inj : ∀ g g' i, τ g = some i → τ g' = some i → g = g'
  old : ∀ i g, σ i = some g → τ g = some i
  new : ∀ g i, τ g = some i → σ i = some g ∨ H.get g = none
  obs : ∀ g i, τ g = some i → ∃ o o2, h'.get i = some o ∧ H2.get g = some o2 ∧ RpOb h' τ noE noF o o2
  rest : ∀ g, g < 65536 → τ g = none → H2.get g = H.get g
  nx : H.nx ≤ H2.nx
  lt : ∀ g i, τ g = some i → g < H2.nx ∧ g < 65536 ∧ i < 65536

theorem CallTo.frame {P : Program} {f : FuncId} {args args2 : List V} {h h' H H2 : Heap} {v v2 : V} {σ τ : Nat → Option Nat} (hc : CallTo P f args h v h') (K : Keep H h σ noE noF) (M : Merge H H2 h' σ τ)
    (ha : args2.length = args.length ∧ ∀ i, i < args2.length → Rp H σ noE noF (args2.getD i .junk) (args.getD i .junk)) (hv : Rp h' τ noE noF v v2) : CallTo P f args2 H v2 H2 := by
  intro c xs hh hx
  have hh0 := hh.keep K
  have hx0 : VRs (c.keep σ noE noF) args xs := ⟨by rw [← ha.1]; exact hx.1, fun i hi => (ha.2 i (by rw [ha.1]; exact hi)).sound hh (hx.2 i (by rw [ha.1]; exact hi))⟩
  refine (hc _ xs hh0 hx0).mono ?_
  rintro e w' ⟨v', c1, rfl, rfl, hext, hh1, hvr⟩
  have pl0 : ∀ i p, (c.keep σ noE noF).pl i = some p → ∃ g, σ i = some g ∧ c.pl g = some p := fun i p hp => by
    rcases Cfg.keep_pl hp with h | ⟨_, sz, h, _⟩
    · exact h
    · cases h
  have own0 : ∀ b, (c.keep σ noE noF).owned b → ∃ i g p, σ i = some g ∧ c.pl g = some p ∧ p.owns b := fun b ⟨i, p, hp, hb⟩ =>
    let ⟨g, h1, h2⟩ := pl0 i p hp; ⟨i, g, p, h1, h2, hb⟩
  have imm0 : ∀ b, (c.keep σ noE noF).imm b → c.imm b := fun b hb => hb.resolve_right fun ⟨_, _, hF, _⟩ => hF
  let c' : Cfg := { pl := fun g => match τ g with | some i => c1.pl i | none => c.pl g, w := c1.w, imm := c1.imm }
  have plS : ∀ g i, τ g = some i → c'.pl g = c1.pl i := fun g i ht => by simp only [c', ht]
  have plN : ∀ g, τ g = none → c'.pl g = c.pl g := fun g ht => by simp only [c', ht]
  have own' : ∀ b, c'.owned b → c1.owned b ∨ ∃ g p, τ g = none ∧ c.pl g = some p ∧ p.owns b := fun b ⟨g, p, hp, hb⟩ => by
    cases ht : τ g with
    | some i => rw [plS g i ht] at hp; exact .inl ⟨i, p, hp, hb⟩
    | none => rw [plN g ht] at hp; exact .inr ⟨g, p, ht, hp, hb⟩
  -- a block of an object outside is not one of the call's
  have apart : ∀ g p b, τ g = none → c.pl g = some p → p.owns b → ¬ c1.owned b ∧ ¬ (c.keep σ noE noF).owned b := fun g p b ht hp hb => by
    have hlt := hh.lt b ⟨g, p, hp, hb⟩
    have h0 : ¬ (c.keep σ noE noF).owned b := fun ho => by
      obtain ⟨i, g2, q, h1, h2, h3⟩ := own0 b ho
      have := hh.inj g g2 p q b hp h2 hb h3
      subst this
      rw [M.old i g h1] at ht; cases ht
    refine ⟨fun ho => ?_, h0⟩
    rcases hext.own b ho with h1 | h1
    · exact h0 h1
    · have : c.w.heap.size ≤ b := h1
      omega
  have hext' : Ext c c' := by
    refine ⟨hext.size, fun b hb => hext.imm b (.inl hb), fun g p hp => ?_, fun b hb hn => hext.frame b hb fun ho => ?_, fun b hb => ?_, hext.os, hext.tape, hext.output, fun b hb => ?_⟩
    · cases ht : τ g with
      | some i =>
        rw [plS g i ht]
        rcases M.new g i ht with hs | hn
        · exact hext.pl i p (by simp only [Cfg.keep, hs]; exact hp)
        · obtain ⟨o, g1, _⟩ := hh.there g p hp
          rw [hn] at g1; cases g1
      | none => exact ⟨p, by rw [plN g ht]; exact hp, p.le_refl⟩
    · obtain ⟨i, g, p, _, h2, h3⟩ := own0 b ho
      exact hn ⟨g, p, h2, h3⟩
    · rcases own' b hb with ho | ⟨g, p, _, hp, hpb⟩
      · rcases hext.own b ho with h1 | h1
        · obtain ⟨i, g, p, _, h2, h3⟩ := own0 b h1
          exact .inl ⟨g, p, h2, h3⟩
        · exact .inr h1
      · exact .inl ⟨g, p, hp, hpb⟩
    · rcases hext.immo b hb with h1 | h1 | h1
      · exact .inl (imm0 b h1)
      · obtain ⟨i, g, p, _, h2, h3⟩ := own0 b h1
        exact .inr (.inl ⟨g, p, h2, h3⟩)
      · exact .inr (.inr h1)
  have more : ∀ i p, (c1.keep τ noE noF).pl i = some p → c'.pl i = some p := fun g p hp => by
    rcases Cfg.keep_pl hp with ⟨i, ht, hp⟩ | ⟨_, sz, h, _⟩
    · rw [plS g i ht]; exact hp
    · cases h
  have moreI : ∀ b, (c1.keep τ noE noF).imm b → c'.imm b := fun b hb => hb.resolve_right fun ⟨_, _, hF, _⟩ => hF
  refine ⟨v', c', rfl, rfl, hext', ?_, (hv.sound hh1 hvr).more (c := c1.keep τ noE noF) (c' := c') rfl more moreI⟩
  constructor
  · intro b hb
    refine ⟨(hh1.ok b hb).1, fun ho => ?_⟩
    rcases own' b ho with h1 | ⟨g, p, ht, hp, hpb⟩
    · exact (hh1.ok b hb).2 h1
    · have hlt := hh.lt b ⟨g, p, hp, hpb⟩
      rcases hext.immo b hb with h1 | h1 | h1
      · exact (hh.ok b (imm0 b h1)).2 ⟨g, p, hp, hpb⟩
      · exact (apart g p b ht hp hpb).2 h1
      · have : c.w.heap.size ≤ b := h1
        omega
  · intro g p hp
    cases ht : τ g with
    | some i =>
      rw [plS g i ht] at hp
      obtain ⟨o, o2, h1, h2, h3⟩ := M.obs g i ht
      obtain ⟨o', q1, q2⟩ := hh1.there i p hp
      rw [h1] at q1
      cases q1
      exact ⟨o2, h2, (h3.sound hh1 q2).more (c := c1.keep τ noE noF) (c' := c') rfl more moreI⟩
    | none =>
      rw [plN g ht] at hp
      obtain ⟨o, q1, q2⟩ := hh.there g p hp
      have hg := (hh.nx g p hp).2
      exact ⟨o, by rw [M.rest g hg ht]; exact q1, q2.mono hh.ok hext' fun b hb => hext.frame b (hh.lt b ⟨g, p, hp, hb⟩) (apart g p b ht hp hb).2⟩
  · intro g o hg ho
    cases ht : τ g with
    | some i =>
      obtain ⟨o1, o2, h1, h2, h3⟩ := M.obs g i ht
      obtain ⟨p, hp⟩ := hh1.back i o1 (M.lt g i ht).2.2 h1
      exact ⟨p, by rw [plS g i ht]; exact hp⟩
    | none =>
      rw [M.rest g hg ht] at ho
      obtain ⟨p, hp⟩ := hh.back g o hg ho
      exact ⟨p, by rw [plN g ht]; exact hp⟩
  · intro g g' p q b hp hq hpb hqb
    cases ht : τ g with
    | some i =>
      rw [plS g i ht] at hp
      cases ht' : τ g' with
      | some i' =>
        rw [plS g' i' ht'] at hq
        have := hh1.inj i i' p q b hp hq hpb hqb
        subst this
        exact M.inj g g' i ht ht'
      | none =>
        rw [plN g' ht'] at hq
        exact absurd ⟨i, p, hp, hpb⟩ (apart g' q b ht' hq hqb).1
    | none =>
      rw [plN g ht] at hp
      cases ht' : τ g' with
      | some i' =>
        rw [plS g' i' ht'] at hq
        exact absurd ⟨i', q, hq, hqb⟩ (apart g p b ht hp hpb).1
      | none =>
        rw [plN g' ht'] at hq
        exact hh.inj g g' p q b hp hq hpb hqb
  · intro b hb
    rcases own' b hb with h1 | ⟨g, p, ht, hp, hpb⟩
    · exact hh1.lt b h1
    · exact Nat.lt_of_lt_of_le (hh.lt b ⟨g, p, hp, hpb⟩) hext.size
  · intro g p hp
    cases ht : τ g with
    | some i => exact ⟨(M.lt g i ht).1, (M.lt g i ht).2.1⟩
    | none =>
      rw [plN g ht] at hp
      exact ⟨Nat.lt_of_lt_of_le (hh.nx g p hp).1 M.nx, (hh.nx g p hp).2⟩
end Go.Ab
