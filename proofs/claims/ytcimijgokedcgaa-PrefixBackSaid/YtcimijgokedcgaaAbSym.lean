/- The generator in use, over propositions. Own work. -/
import Derived.Test.YtcimijgokedcgaaAbFrame
import Derived.Test.YtcimijgokedcgaaAbLib
set_option linter.unusedVariables false
set_option linter.unusedSimpArgs false
set_option linter.unusedSectionVars false
namespace Go.Ab
open Go Go.RowKit

def CallS (P : Program) : CallF Prop := fun f args h k => ∃ v h', CallTo P f args h v h' ∧ h.nx ≤ h'.nx ∧ k v h'
def PureS (P : Program) : PureF Prop := fun f args h fl k => ∃ v, DCallTo P f args fl h v ∧ k v
def LoopS (P : Program) : LoopF Prop := fun fs c st k => ∃ e s, LoopTo P fs c st e s ∧ st.hp.nx ≤ s.hp.nx ∧ k e s

theorem CallS.good (P : Program) : GoodΓ P (CallS P) := fun _ _ _ _ ⟨v, h', a, b, c⟩ => ⟨v, h', c, a, b⟩
theorem PureS.good (P : Program) : GoodΓp P (PureS P) := fun _ _ _ _ _ ⟨v, a, b⟩ => ⟨v, b, a⟩
theorem LoopS.good (P : Program) : GoodLH P (LoopS P) := fun _ _ _ _ ⟨e, s, a, b, c⟩ => ⟨e, s, c, a, b⟩

/-- temporaries, by a list -/
def tmL : List (Nat × V) → T V
  | [] => .nil
  | (t, v) :: l => (tmL l).set (bits 9 t) v

def tmK {R : Type} : List (Nat × V) → (T V → R) → R
  | [], k => k .nil
  | (t, v) :: l, k => tmK l fun tm => tm.setK (bits 9 t) v k

theorem tmK_eq {R : Type} : ∀ (l : List (Nat × V)) (k : T V → R), tmK l k = k (tmL l) := by
  intro l
  induction l with
  | nil => intro k; rfl
  | cons p l ih => obtain ⟨t, v⟩ := p; intro k; simp only [tmK, ih, T.setK_eq, tmL]

/-- objects, by a list -/
def obL : List (Nat × Ob) → T Ob
  | [] => .nil
  | (i, o) :: l => (obL l).set (bits 16 i) o

def obK {R : Type} : List (Nat × Ob) → (T Ob → R) → R
  | [], k => k .nil
  | (i, o) :: l, k => obK l fun t => t.setK (bits 16 i) o k

theorem obK_eq {R : Type} : ∀ (l : List (Nat × Ob)) (k : T Ob → R), obK l k = k (obL l) := by
  intro l
  induction l with
  | nil => intro k; rfl
  | cons p l ih => obtain ⟨t, v⟩ := p; intro k; simp only [obK, ih, T.setK_eq, obL]

def hpL (os : List (Nat × Ob)) (nx : Nat) : Heap := ⟨obL os, nx⟩
def stL (l : List (Nat × V)) (os : List (Nat × Ob)) (nx : Nat) : St := ⟨tmL l, hpL os nx⟩

def find {α : Type} (i : Nat) : List (Nat × α) → Option α
  | [] => none
  | (j, a) :: l => if i = j then some a else find i l

theorem opd_tmL : ∀ (l : List (Nat × V)), (∀ p ∈ l, p.1 < 512) → ∀ t : Nat, t < 512 → opd (tmL l) (.tmp t) = (find t l).getD .junk := by
  intro l
  induction l with
  | nil =>
    intro _ t ht
    have hble : Nat.ble t 511 = true := Nat.ble_eq_true_of_le (Nat.le_of_lt_succ ht)
    simp [Ab.opd, hble, tmL, T.get_nil, find]
  | cons p l ih =>
    obtain ⟨s, v⟩ := p
    intro hl t ht
    have hble : Nat.ble t 511 = true := Nat.ble_eq_true_of_le (Nat.le_of_lt_succ ht)
    have hs : s < 512 := hl (s, v) (by simp)
    have := ih (fun q hq => hl q (by simp [hq])) t ht
    simp only [Ab.opd, hble, tmL, find] at this ⊢
    by_cases e : t = s
    · subst e
      rw [T.get_set_self, if_pos rfl]; rfl
    · rw [if_neg e, T.get_set_ne _ _ _ (fun hb => e (bits_inj 9 _ _ hs ht hb).symm) (by simp [bits_length])]
      exact this

theorem get_hpL : ∀ (os : List (Nat × Ob)) (nx : Nat), (∀ p ∈ os, p.1 < 65536) → ∀ i, i < 65536 → (hpL os nx).get i = find i os := by
  intro os
  induction os with
  | nil => intro nx _ i _; simp [hpL, Heap.get, obL, T.get_nil, find]
  | cons p l ih =>
    obtain ⟨s, v⟩ := p
    intro nx hl i hi
    have hs : s < 65536 := hl (s, v) (by simp)
    have := ih nx (fun q hq => hl q (by simp [hq])) i hi
    simp only [hpL, Heap.get, obL, find] at this ⊢
    by_cases e : i = s
    · subst e
      rw [T.get_set_self, if_pos rfl]
    · rw [if_neg e, T.get_set_ne _ _ _ (fun hb => e (bits_inj 16 _ _ hs hi hb).symm) (by simp [bits_length])]
      exact this

theorem find_mem {α : Type} : ∀ {l : List (Nat × α)} {i : Nat} {a : α}, find i l = some a → (i, a) ∈ l := by
  intro l
  induction l with
  | nil => intro i a h; simp [find] at h
  | cons p l ih =>
    obtain ⟨j, b⟩ := p
    intro i a h
    simp only [find] at h
    split at h
    · rename_i e
      simp only [Option.some.injEq] at h
      subst e h
      simp
    · simp [ih h]

theorem find_of_mem {α : Type} : ∀ {l : List (Nat × α)} {i : Nat} {a : α}, (l.map (·.1)).Nodup → (i, a) ∈ l → find i l = some a := by
  intro l
  induction l with
  | nil => intro i a _ h; simp at h
  | cons p l ih =>
    obtain ⟨j, b⟩ := p
    intro i a hn h
    simp only [List.map_cons, List.nodup_cons] at hn
    simp only [List.mem_cons, Prod.mk.injEq] at h
    simp only [find]
    rcases h with ⟨rfl, rfl⟩ | h
    · simp
    · have : i ≠ j := fun e => by subst e; exact hn.1 (List.mem_map.2 ⟨_, h, rfl⟩)
      rw [if_neg this]
      exact ih hn.2 h

/-- one object of the new heap: whose it was (none: an empty buffer, of what size) -/
structure KO where
  new : Nat
  old : Option Nat
  sz : Nat
  ob : Ob

def sigma (ks : List KO) (i : Nat) : Option Nat := ((find i (ks.map fun k => (k.new, k))).bind (·.old))
def eps (ks : List KO) (i : Nat) : Option Nat := (find i (ks.map fun k => (k.new, k))).map (·.sz)
def newHp (ks : List KO) (nx : Nat) : Heap := hpL (ks.map fun k => (k.new, k.ob)) nx

theorem find_ks {ks : List KO} {i : Nat} {k : KO} (h : find i (ks.map fun k => (k.new, k)) = some k) : k ∈ ks ∧ k.new = i := by
  have := find_mem h
  simp only [List.mem_map, Prod.mk.injEq] at this
  obtain ⟨a, h1, h2, rfl⟩ := this
  exact ⟨h1, h2⟩

theorem find_obs : ∀ {ks : List KO} {i : Nat}, find i (ks.map fun k => (k.new, k.ob)) = (find i (ks.map fun k => (k.new, k))).map (·.ob) := by
  intro ks
  induction ks with
  | nil => intro i; rfl
  | cons k ks ih =>
    intro i
    simp only [List.map_cons, find]
    split
    · rfl
    · exact ih

theorem keep_of {h : Heap} (ks : List KO) (nx : Nat) (F : List Nat) (hnd : ((ks.filterMap (·.old)) ++ F).Nodup) (hlt : ∀ k ∈ ks, k.new < nx ∧ k.new < 65536 ∧ ∀ j, k.old = some j → j < 65536)
    (hob : ∀ k ∈ ks, match k.old with
      | some j => ∃ o, h.get j = some o ∧ RpOb h (sigma ks) (eps ks) (· ∈ F) o k.ob
      | none => ∃ get, k.ob = .buf 0 k.sz get) : Keep h (newHp ks nx) (sigma ks) (eps ks) (· ∈ F) := by
  have hlt' : ∀ p ∈ (ks.map fun k => (k.new, k.ob)), p.1 < 65536 := fun p hp => by
    simp only [List.mem_map] at hp
    obtain ⟨k, hk, rfl⟩ := hp
    exact (hlt k hk).2.1
  have hget : ∀ i, i < 65536 → (newHp ks nx).get i = (find i (ks.map fun k => (k.new, k))).map (·.ob) := fun i hi => by
    rw [← find_obs]; exact get_hpL _ _ hlt' i hi
  have hsig : ∀ i j, sigma ks i = some j → ∃ k, k ∈ ks ∧ k.new = i ∧ k.old = some j ∧ find i (ks.map fun k => (k.new, k)) = some k := fun i j h => by
    simp only [sigma, Option.bind_eq_some_iff] at h
    obtain ⟨k, h1, h2⟩ := h
    obtain ⟨h3, h4⟩ := find_ks h1
    exact ⟨k, h3, h4, h2, h1⟩
  rw [List.nodup_append] at hnd
  obtain ⟨n1, n2, n3⟩ := hnd
  have uniq : ∀ {ks : List KO}, (ks.filterMap (·.old)).Nodup → ∀ k ∈ ks, ∀ k' ∈ ks, ∀ j, k.old = some j → k'.old = some j → k = k' := by
    intro ks
    induction ks with
    | nil => intro _ k hk; simp at hk
    | cons a ks ih =>
      intro hn k hk k' hk' j hj hj'
      simp only [List.mem_cons] at hk hk'
      cases ha : a.old with
      | none =>
        rw [List.filterMap_cons_none ha] at hn
        rcases hk with rfl | hk
        · rw [ha] at hj; cases hj
        · rcases hk' with rfl | hk'
          · rw [ha] at hj'; cases hj'
          · exact ih hn k hk k' hk' j hj hj'
      | some q =>
        rw [List.filterMap_cons_some ha, List.nodup_cons] at hn
        rcases hk with rfl | hk
        · rcases hk' with rfl | hk'
          · rfl
          · rw [ha] at hj; cases hj
            exact absurd (List.mem_filterMap.2 ⟨k', hk', hj'⟩) hn.1
        · rcases hk' with rfl | hk'
          · rw [ha] at hj'; cases hj'
            exact absurd (List.mem_filterMap.2 ⟨k, hk, hj⟩) hn.1
          · exact ih hn.2 k hk k' hk' j hj hj'
  refine ⟨fun i i' j h1 h2 => ?_, fun i j h1 hF => ?_, fun i hi o2 h1 => ?_, fun i j h1 => ?_, fun i j h1 => ?_, fun i sz h1 h2 => ?_⟩
  · obtain ⟨k, k1, k2, k3, _⟩ := hsig i j h1
    obtain ⟨k', q1, q2, q3, _⟩ := hsig i' j h2
    have := uniq n1 k k1 k' q1 j k3 q3
    subst this
    rw [← k2, ← q2]
  · obtain ⟨k, k1, k2, k3, _⟩ := hsig i j h1
    exact n3 j (List.mem_filterMap.2 ⟨k, k1, k3⟩) j hF rfl
  · rw [hget i hi] at h1
    simp only [Option.map_eq_some_iff] at h1
    obtain ⟨k, h2, rfl⟩ := h1
    obtain ⟨h3, h4⟩ := find_ks h2
    have := hob k h3
    cases ho : k.old with
    | some j =>
      rw [ho] at this
      obtain ⟨o, g1, g2⟩ := this
      exact .inl ⟨j, o, by simp [sigma, h2, ho], g1, g2⟩
    | none =>
      rw [ho] at this
      obtain ⟨get, g⟩ := this
      exact .inr ⟨by simp [sigma, h2, ho], k.sz, get, by simp [eps, h2], g⟩
  · obtain ⟨k, k1, rfl, k3, k4⟩ := hsig i j h1
    obtain ⟨a, b, _⟩ := hlt k k1
    exact ⟨k.ob, by rw [hget _ b, k4]; rfl, a, b⟩
  · obtain ⟨k, k1, rfl, k3, k4⟩ := hsig i j h1
    exact (hlt k k1).2.2 j k3
  · simp only [eps, Option.map_eq_some_iff] at h2
    obtain ⟨k, h3, _⟩ := h2
    obtain ⟨k1, rfl⟩ := find_ks h3
    obtain ⟨a, b, _⟩ := hlt k k1
    exact ⟨k.ob, by rw [hget _ b, h3]; rfl, a, b⟩

/-- 's2' says what 's' says, or less; what was in 'n0' bears its own name. -/
def Fits (n0 : Heap) (s s2 : St) : Prop := ∃ σ ε F, Keep s.hp s2.hp σ ε F ∧ (∀ t : Nat, t < 512 → Rp s.hp σ ε F (opd s.tm (.tmp t)) (opd s2.tm (.tmp t))) ∧
  ∀ i o, i < 65536 → n0.get i = some o → σ i = some i ∧ ¬ F i

theorem Fits.of {n0 : Heap} {s : St} (ks : List KO) (nx : Nat) (F : List Nat) (l : List (Nat × V)) (hnd : ((ks.filterMap (·.old)) ++ F).Nodup) (hlt : ∀ k ∈ ks, k.new < nx ∧ k.new < 65536 ∧ ∀ j, k.old = some j → j < 65536)
    (hob : ∀ k ∈ ks, match k.old with
      | some j => ∃ o, s.hp.get j = some o ∧ RpOb s.hp (sigma ks) (eps ks) (· ∈ F) o k.ob
      | none => ∃ get, k.ob = .buf 0 k.sz get)
    (hl : ∀ p ∈ l, p.1 < 512 ∧ Rp s.hp (sigma ks) (eps ks) (· ∈ F) (opd s.tm (.tmp p.1)) p.2)
    (h0 : ∀ i o, i < 65536 → n0.get i = some o → sigma ks i = some i ∧ ¬ i ∈ F) : Fits n0 s (stL l (ks.map fun k => (k.new, k.ob)) nx) := by
  refine ⟨sigma ks, eps ks, (· ∈ F), keep_of ks nx F hnd hlt hob, fun t ht => ?_, h0⟩
  rw [show (stL l (ks.map fun k => (k.new, k.ob)) nx).tm = tmL l from rfl, opd_tmL l (fun p hp => (hl p hp).1) t ht]
  cases hf : find t l with
  | none => exact .junk _
  | some v => exact (hl _ (find_mem hf)).2

theorem CodeTo.fits {P : Program} {fs : Nat} {cd : Code} {st s s2 : St} {e : Ex} (hc : CodeTo P fs cd st e s) (hf : Fits st.hp s s2) : CodeTo P fs cd st e s2 := by
  obtain ⟨σ, ε, F, K, ht, h0⟩ := hf
  exact hc.keep K ht (fun i o hi hg => (h0 i o hi hg).1) fun i o hi hg => (h0 i o hi hg).2

theorem Rel.before {fs : Nat} {st s1 : St} (hf : Fits st.hp st s1) {c : Cfg} {a : Act} (hr : Rel fs st c a) : ∃ c1, c1.w = c.w ∧ Ext c c1 ∧ Rel fs s1 c1 a := by
  obtain ⟨σ, ε, F, K, ht, h0⟩ := hf
  refine ⟨c.keep σ ε F, rfl, (Ext.refl c).keep (fun i p hp => ?_) (fun i p hp => ?_) hr.hp, hr.keep K ht⟩
  · obtain ⟨o, g, _⟩ := hr.hp.there i p hp
    exact (h0 i o (hr.hp.nx i p hp).2 g).1
  · obtain ⟨o, g, _⟩ := hr.hp.there i p hp
    exact (h0 i o (hr.hp.nx i p hp).2 g).2

theorem CodeTo.before {P : Program} {fs : Nat} {cd : Code} {st s1 s2 : St} {e : Ex} (hf : Fits st.hp st s1) (hc : CodeTo P fs cd s1 e s2) : CodeTo P fs cd st e s2 := by
  intro c a hr Q hQ
  obtain ⟨c1, hw, he, hr1⟩ := hr.before hf
  rw [← hw]
  exact hc c1 a hr1 Q fun c' a' he' hr' => hQ c' a' (he.trans he') hr'

theorem LoopTo.before {P : Program} {fs : Nat} {cd : Code} {st s1 s2 : St} {e : Ex} (hf : Fits st.hp st s1) (hc : LoopTo P fs cd s1 e s2) : LoopTo P fs cd st e s2 := by
  intro c a hr Q hQ b k cs
  obtain ⟨c1, hw, he, hr1⟩ := hr.before hf
  rw [← hw]
  exact hc c1 a hr1 Q (fun c' a' he' hr' => hQ c' a' (he.trans he') hr') b k cs

/-- A piece of code, by the generator. -/
theorem code_of {P : Program} {E : Env} (hE : EnvOK P E) {fs : Nat} {cd : Code} {st s2 : St} {e : Ex} (h : ev E (CallS P) (PureS P) (LoopS P) fs cd st fun e' s => e' = e ∧ Fits st.hp s s2) : CodeTo P fs cd st e s2 := by
  obtain ⟨e', s, ⟨rfl, hf⟩, hc, _⟩ := ev_sound (R := Prop) hE (CallS.good P) (PureS.good P) (LoopS.good P) cd st _ h
  exact hc.fits hf

/-- A loop that is gone through n times. -/
theorem loop_of {P : Program} {fs : Nat} {cd : Code} {S : Nat → St} {n : Nat} {e : Ex} {s' : St} (hne : e ≠ .normal) (step : ∀ i, i < n → CodeTo P fs cd (S i) .normal (S (i + 1))) (last : CodeTo P fs cd (S n) e s') :
    ∀ i, i ≤ n → LoopTo P fs cd (S i) e s' := by
  have key : ∀ d i, i + d = n → LoopTo P fs cd (S i) e s' := by
    intro d
    induction d with
    | zero => intro i hi; simp only [Nat.add_zero] at hi; subst hi; exact LoopTo.leave hne last
    | succ d ih => intro i hi; exact LoopTo.next (step i (by omega)) (ih (i + 1) (by omega))
  intro i hi
  exact key (n - i) i (by omega)

/-- A call, by the generator. -/
theorem call_of {P : Program} {E : Env} (hE : EnvOK P E) {f : FuncId} {fn : Func} (hf : P.funcs[f]? = some fn) {args : List V} {h h2 : Heap} {v : V}
    (hb : bodyK E (CallS P) (PureS P) (LoopS P) fn args h fun v' h' => Fits h ⟨.set .nil (bits 9 0) v', h'⟩ ⟨.set .nil (bits 9 0) v, h2⟩) : CallTo P f args h v h2 := by
  obtain ⟨v', h', ⟨σ, ε, F, K, ht, h0⟩, hc, _⟩ := body_sound (R := Prop) hE (CallS.good P) (PureS.good P) (LoopS.good P) hf hb
  refine hc.keep K ?_ (fun i o hi hg => (h0 i o hi hg).1) fun i o hi hg => (h0 i o hi hg).2
  have := ht 0 (by omega)
  simpa [Ab.opd, T.get_set_self] using this

/-- A call that takes, and yields, plain values alone: proved over no memory. -/
theorem pure_of {P : Program} {f : FuncId} {args : List V} {v : V} (h : CallTo P f args ⟨.nil, 0⟩ v ⟨.nil, 0⟩) (ha : ∀ v ∈ args, Pure v) (hv : Pure v) : PCallTo P f args v := by
  intro H
  have get0 : ∀ i, (Heap.mk .nil 0).get i = none := fun i => T.get_nil _
  have no : ∀ {j : Nat} {p : Prop}, (none : Option Nat) = some j → p := fun h => by cases h
  refine h.frame (σ := fun _ => none) (τ := fun _ => none) ⟨fun _ _ _ h => no h, fun _ _ h => no h, fun i _ o h => ?_, fun _ _ h => no h, fun _ _ h => no h, fun _ _ _ h => (by cases h)⟩
    ⟨fun _ _ _ h => no h, fun _ _ h => no h, fun _ _ h => no h, fun _ _ h => no h, fun _ _ _ => rfl, Nat.le_refl _, fun _ _ h => no h⟩ ⟨rfl, fun i hi => .pure (ha _ ?_)⟩ (.pure hv)
  · rw [get0] at h; cases h
  rw [List.getD_eq_getElem?_getD, List.getElem?_eq_getElem hi]
  simp

/-- the loops of a text, in order -/
def loops : Code → List Code
  | .seq a b => loops a ++ loops b
  | .cond _ a b => loops a ++ loops b
  | .block _ c => loops c
  | .loop c => c :: loops c
  | _ => []

def loopAt (fn : Func) (n : Nat) : Code := match fn.body with
  | some c => (loops c).getD n .skip
  | none => .skip

theorem code_ofL {P : Program} {E : Env} (hE : EnvOK P E) {fs : Nat} {cd : Code} {l : List (Nat × V)} {os : List (Nat × Ob)} {nx : Nat} {s2 : St} {e : Ex}
    (h : tmK l fun tm => obK os fun ob => ev E (CallS P) (PureS P) (LoopS P) fs cd ⟨tm, ⟨ob, nx⟩⟩ fun e' s => e' = e ∧ Fits (hpL os nx) s s2) : CodeTo P fs cd (stL l os nx) e s2 := by
  rw [tmK_eq, obK_eq] at h
  exact code_of hE h
end Go.Ab
