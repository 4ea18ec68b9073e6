/- A contract over a small heap, used in a great one: as a computed row of conditions. Own work. -/
import Derived.Test.YtcimijgokedcgaaAbFit
set_option linter.unusedVariables false
set_option linter.unusedSimpArgs false
set_option linter.unusedSectionVars false
namespace Go.Ab
open Go Go.RowKit

def enumO : Nat → List Ob → List (Nat × Ob)
  | _, [] => []
  | i, o :: os => (i, o) :: enumO (i + 1) os

theorem find_enumO : ∀ (os : List Ob) (i j : Nat), find j (enumO i os) = if i ≤ j then os[j - i]? else none := by
  intro os
  induction os with
  | nil => intro i j; simp [enumO, find]
  | cons o os ih =>
    intro i j
    simp only [enumO, find, ih]
    by_cases h : j = i
    · subst h; simp
    · rw [if_neg h]
      by_cases h2 : i ≤ j
      · rw [if_pos (by omega), if_pos h2, show j - i = (j - (i + 1)) + 1 by omega]; simp
      · rw [if_neg (by omega), if_neg h2]

theorem enumO_lt : ∀ (os : List Ob) (i : Nat), ∀ p ∈ enumO i os, p.1 < i + os.length := by
  intro os
  induction os with
  | nil => intro i p hp; simp [enumO] at hp
  | cons o os ih =>
    intro i p hp
    simp only [enumO, List.mem_cons] at hp
    rcases hp with rfl | hp
    · simp
    · have := ih (i + 1) p hp; simp; omega

theorem get_enum {os : List Ob} {nx i : Nat} (h : os.length ≤ 65536) (hi : i < 65536) : (hpL (enumO 0 os) nx).get i = os[i]? := by
  rw [get_hpL _ _ (fun p hp => by have := enumO_lt os 0 p hp; omega) i hi, find_enumO]; simp

/-- other names -/
def renV (m : Nat → Nat) : Nat → V → V
  | 0, v => v
  | n + 1, v => match v with
    | .ptr i off => .ptr (m i) off
    | .bptr i ext sz a b => .bptr (m i) ext sz a b
    | .bv i ext sz lo len cap => .bv (m i) ext sz lo len cap
    | .av i off len cap sz => .av (m i) off len cap sz
    | .map i => .map (m i)
    | .agg cs => .agg (cs.map (renV m n))
    | .tup cs => .tup (cs.map (renV m n))
    | .iface t v => .iface t (renV m n v)
    | v => v

def renOb (m : Nat → Nat) : Ob → Ob
  | .cells cs => .cells (cs.map (renV m 4))
  | o => o

def okVsF (f : V → (Unit → Prop) → Prop) : List V → (Unit → Prop) → Prop
  | [], c => c ()
  | v :: vs, c => f v fun _ => okVsF f vs c

/-- all names are known, and what holds none is plain -/
def okV (k : Nat) : Nat → V → (Unit → Prop) → Prop
  | 0, v, c => Pure v ∧ c ()
  | n + 1, v, c => match v with
    | .ptr i _ | .bptr i _ _ _ _ | .bv i _ _ _ _ _ | .av i _ _ _ _ | .map i => Nat.blt i k = true ∧ c ()
    | .agg cs | .tup cs => okVsF (okV k n) cs c
    | .iface _ v => okV k n v c
    | .bool _ | .int _ _ | .str _ | .lit _ | .junk => c ()
    | v => Pure v ∧ c ()

def okOb (k : Nat) (o : Ob) (c : Unit → Prop) : Prop := match o with
  | .cells cs => okVsF (okV k 4) cs c
  | .buf _ _ g => (∀ a b, Pure (g a b)) ∧ c ()
  | .map es _ => (∀ e ∈ es, Pure e.val) ∧ c ()
  | .mapIter .. => False

def okObs (k : Nat) : List Ob → (Unit → Prop) → Prop
  | [], c => c ()
  | o :: os, c => okOb k o fun _ => okObs k os c

section
variable {h : Heap} {τ σ : Nat → Option Nat} {m : Nat → Nat} {k : Nat}

theorem okVs_sound {n : Nat} (hV : ∀ v c, okV k n v c → Rp h τ noE noF v (renV m n v) ∧ c ()) : ∀ (vs : List V) (c : Unit → Prop), okVsF (okV k n) vs c →
    (∀ i, i < vs.length → Rp h τ noE noF (vs.getD i .junk) ((vs.map (renV m n)).getD i .junk)) ∧ c () := by
  intro vs
  induction vs with
  | nil => intro c hc; exact ⟨fun i hi => by simp at hi, hc⟩
  | cons v vs ih =>
    intro c hc
    obtain ⟨h1, h2⟩ := hV _ _ hc
    obtain ⟨h3, h4⟩ := ih _ h2
    refine ⟨fun i hi => ?_, h4⟩
    cases i with
    | zero => simpa using h1
    | succ i => simpa using h3 i (by simpa using hi)

theorem okVs_back {n : Nat} (hV : ∀ v c, okV k n v c → Rp h σ noE noF (renV m n v) v ∧ c ()) : ∀ (vs : List V) (c : Unit → Prop), okVsF (okV k n) vs c →
    (∀ i, i < (vs.map (renV m n)).length → Rp h σ noE noF ((vs.map (renV m n)).getD i .junk) (vs.getD i .junk)) ∧ c () := by
  intro vs
  induction vs with
  | nil => intro c hc; exact ⟨fun i hi => by simp at hi, hc⟩
  | cons v vs ih =>
    intro c hc
    obtain ⟨h1, h2⟩ := hV _ _ hc
    obtain ⟨h3, h4⟩ := ih _ h2
    refine ⟨fun i hi => ?_, h4⟩
    cases i with
    | zero => simpa using h1
    | succ i => simpa using h3 i (by simpa using hi)

theorem okV_sound (hm : ∀ i, i < k → τ (m i) = some i) : ∀ (n : Nat) (v : V) (c : Unit → Prop), okV k n v c → Rp h τ noE noF v (renV m n v) ∧ c () := by
  intro n
  induction n with
  | zero => intro v c hc; obtain ⟨p, q⟩ := (show Pure v ∧ c () from hc); exact ⟨.pure p, q⟩
  | succ n ih =>
    intro v c hc
    have lt : ∀ {i}, Nat.blt i k = true → i < k := fun h => Nat.le_of_ble_eq_true h
    cases v with
    | ptr i off => exact ⟨.ptr (hm i (lt hc.1)), hc.2⟩
    | bptr i ext sz a b => exact ⟨.bptr (hm i (lt hc.1)), hc.2⟩
    | bv i ext sz lo len cap => exact ⟨.bv (hm i (lt hc.1)), hc.2⟩
    | av i off len cap sz => exact ⟨.av (hm i (lt hc.1)), hc.2⟩
    | map i => exact ⟨.map (hm i (lt hc.1)), hc.2⟩
    | agg cs => obtain ⟨h1, h2⟩ := okVs_sound ih cs c hc; exact ⟨.agg (by simp) h1, h2⟩
    | tup cs => obtain ⟨h1, h2⟩ := okVs_sound ih cs c hc; exact ⟨.tup (by simp) h1, h2⟩
    | iface t v => obtain ⟨h1, h2⟩ := ih v c hc; exact ⟨.iface h1, h2⟩
    | bool b => exact ⟨.pure (.bool _), hc⟩
    | int kd z => exact ⟨.pure (.int _ _), hc⟩
    | str s => exact ⟨.pure (.str _), hc⟩
    | lit x => exact ⟨.pure (.lit _), hc⟩
    | junk => exact ⟨.junk _, hc⟩
    | iter i => exact ⟨.pure hc.1, hc.2⟩
    | iptr => exact ⟨.pure hc.1, hc.2⟩
    | isl => exact ⟨.pure hc.1, hc.2⟩
    | imap => exact ⟨.pure hc.1, hc.2⟩
    | fn => exact ⟨.pure hc.1, hc.2⟩

theorem okV_back (hm : ∀ i, i < k → σ i = some (m i)) : ∀ (n : Nat) (v : V) (c : Unit → Prop), okV k n v c → Rp h σ noE noF (renV m n v) v ∧ c () := by
  intro n
  induction n with
  | zero => intro v c hc; obtain ⟨p, q⟩ := (show Pure v ∧ c () from hc); exact ⟨.pure p, q⟩
  | succ n ih =>
    intro v c hc
    have lt : ∀ {i}, Nat.blt i k = true → i < k := fun h => Nat.le_of_ble_eq_true h
    cases v with
    | ptr i off => exact ⟨.ptr (hm i (lt hc.1)), hc.2⟩
    | bptr i ext sz a b => exact ⟨.bptr (hm i (lt hc.1)), hc.2⟩
    | bv i ext sz lo len cap => exact ⟨.bv (hm i (lt hc.1)), hc.2⟩
    | av i off len cap sz => exact ⟨.av (hm i (lt hc.1)), hc.2⟩
    | map i => exact ⟨.map (hm i (lt hc.1)), hc.2⟩
    | agg cs => obtain ⟨h1, h2⟩ := okVs_back ih cs c hc; exact ⟨.agg (by simp) h1, h2⟩
    | tup cs => obtain ⟨h1, h2⟩ := okVs_back ih cs c hc; exact ⟨.tup (by simp) h1, h2⟩
    | iface t v => obtain ⟨h1, h2⟩ := ih v c hc; exact ⟨.iface h1, h2⟩
    | bool b => exact ⟨.pure (.bool _), hc⟩
    | int kd z => exact ⟨.pure (.int _ _), hc⟩
    | str s => exact ⟨.pure (.str _), hc⟩
    | lit x => exact ⟨.pure (.lit _), hc⟩
    | junk => exact ⟨.junk _, hc⟩
    | iter i => exact ⟨.pure hc.1, hc.2⟩
    | iptr => exact ⟨.pure hc.1, hc.2⟩
    | isl => exact ⟨.pure hc.1, hc.2⟩
    | imap => exact ⟨.pure hc.1, hc.2⟩
    | fn => exact ⟨.pure hc.1, hc.2⟩

theorem okOb_back (hm : ∀ i, i < k → σ i = some (m i)) {o : Ob} {c : Unit → Prop} (hc : okOb k o c) : RpOb h σ noE noF (renOb m o) o ∧ c () := by
  cases o with
  | cells cs => obtain ⟨h1, h2⟩ := okVs_back (okV_back hm 4) cs c hc; exact ⟨.cells (by simp) h1, h2⟩
  | buf ext sz g => exact ⟨.buf fun i j _ _ => .pure (hc.1 i j), hc.2⟩
  | map es cl => exact ⟨.map rfl fun i h1 _ => ⟨rfl, rfl, rfl, .pure (hc.1 _ (List.getElem_mem h1))⟩, hc.2⟩
  | mapIter => exact hc.elim

theorem okObs_back (hm : ∀ i, i < k → σ i = some (m i)) : ∀ (os : List Ob) (c : Unit → Prop), okObs k os c → (∀ o ∈ os, RpOb h σ noE noF (renOb m o) o) ∧ c () := by
  intro os
  induction os with
  | nil => intro c hc; exact ⟨fun o ho => by simp at ho, hc⟩
  | cons o os ih =>
    intro c hc
    obtain ⟨h1, h2⟩ := okOb_back hm hc
    obtain ⟨h3, h4⟩ := ih _ h2
    exact ⟨fun o' ho => by
      simp only [List.mem_cons] at ho
      rcases ho with rfl | ho
      · exact h1
      · exact h3 _ ho, h4⟩

theorem okOb_sound (hm : ∀ i, i < k → τ (m i) = some i) {o : Ob} {c : Unit → Prop} (hc : okOb k o c) : RpOb h τ noE noF o (renOb m o) ∧ c () := by
  cases o with
  | cells cs => obtain ⟨h1, h2⟩ := okVs_sound (okV_sound hm 4) cs c hc; exact ⟨.cells (by simp) h1, h2⟩
  | buf ext sz g => exact ⟨.buf fun i j _ _ => .pure (hc.1 i j), hc.2⟩
  | map es cl => exact ⟨.map rfl fun i h1 _ => ⟨rfl, rfl, rfl, .pure (hc.1 _ (List.getElem_mem h1))⟩, hc.2⟩
  | mapIter => exact hc.elim

theorem okObs_sound (hm : ∀ i, i < k → τ (m i) = some i) : ∀ (os : List Ob) (c : Unit → Prop), okObs k os c → (∀ o ∈ os, RpOb h τ noE noF o (renOb m o)) ∧ c () := by
  intro os
  induction os with
  | nil => intro c hc; exact ⟨fun o ho => by simp at ho, hc⟩
  | cons o os ih =>
    intro c hc
    obtain ⟨h1, h2⟩ := okOb_sound hm hc
    obtain ⟨h3, h4⟩ := ih _ h2
    exact ⟨fun o' ho => by
      simp only [List.mem_cons] at ho
      rcases ho with rfl | ho
      · exact h1
      · exact h3 _ ho, h4⟩
end

/-- the given objects, against what is asked of them -/
def inK (H : Heap) (σ : Nat → Option Nat) : List Nat → List Ob → (Unit → Prop) → Prop
  | [], [], k => k ()
  | g :: gs, o :: os, k => match H.get g with
    | some O => rpObK H σ noE noF O o fun _ => inK H σ gs os k
    | none => False
  | _, _, _ => False

theorem inK_sound {H : Heap} {σ : Nat → Option Nat} : ∀ (gs : List Nat) (os : List Ob) (k : Unit → Prop), inK H σ gs os k → (gs.length = os.length ∧ ∀ (i : Nat) (g : Nat) (o : Ob), gs[i]? = some g → os[i]? = some o → ∃ O, H.get g = some O ∧ RpOb H σ noE noF O o) ∧ k () := by
  intro gs
  induction gs with
  | nil =>
    intro os k hk
    cases os with
    | nil => exact ⟨⟨rfl, fun i g o h => by simp at h⟩, hk⟩
    | cons => exact hk.elim
  | cons g gs ih =>
    intro os k hk
    cases os with
    | nil => exact hk.elim
    | cons o os =>
      unfold inK at hk
      split at hk
      · rename_i O hO
        obtain ⟨h1, h2⟩ := rpObK_sound hk
        obtain ⟨⟨h3, h4⟩, h5⟩ := ih os k h2
        refine ⟨⟨by simp [h3], fun i g' o' e1 e2 => ?_⟩, h5⟩
        cases i with
        | zero => simp at e1 e2; subst e1 e2; exact ⟨O, hO, h1⟩
        | succ i => exact h4 i g' o' (by simpa using e1) (by simpa using e2)
      · exact hk.elim

def newIds (nx d : Nat) : List Nat := match d with
  | 0 => []
  | d + 1 => nx :: newIds (nx + 1) d

theorem newIds_len : ∀ (d nx : Nat), (newIds nx d).length = d := by
  intro d; induction d with
  | zero => intro nx; rfl
  | succ d ih => intro nx; simp [newIds, ih]
theorem newIds_mem : ∀ (d nx g : Nat), g ∈ newIds nx d → nx ≤ g ∧ g < nx + d := by
  intro d; induction d with
  | zero => intro nx g h; simp [newIds] at h
  | succ d ih =>
    intro nx g h
    simp only [newIds, List.mem_cons] at h
    rcases h with rfl | h
    · omega
    · have := ih _ _ h; omega

def noneAt (H : Heap) (g : Nat) : Bool := match H.get g with
  | none => true
  | some _ => false

def liftB (H : Heap) (nx : Nat) (ids : List Nat) (k k' : Nat) : Bool :=
  (nodupB (ids ++ newIds nx (k' - k)) && ids.all fun g => Nat.blt g 65536 && Nat.blt g nx) && ((Nat.beq ids.length k && Nat.ble k k') && (Nat.ble (nx + (k' - k)) 65536 && ((newIds nx (k' - k)).all (noneAt H) && Nat.ble k' 65536)))

def setAll (h : Heap) : List Nat → List Ob → Heap
  | g :: gs, o :: os => setAll (h.setOb g o) gs os
  | _, _ => h

def setAllK {R : Type} : T Ob → List Nat → List Ob → (T Ob → R) → R
  | t, g :: gs, o :: os, k => t.setK (bits 16 g) o fun t' => setAllK t' gs os k
  | t, _, _, k => k t

theorem setAllK_eq {R : Type} : ∀ (gs : List Nat) (os : List Ob) (t : T Ob) (n : Nat) (k : T Ob → R), setAllK t gs os k = k (setAll ⟨t, n⟩ gs os).ob := by
  intro gs
  induction gs with
  | nil => intro os t n k; cases os <;> rfl
  | cons g gs ih =>
    intro os t n k
    cases os with
    | nil => rfl
    | cons o os => simp only [setAllK, T.setK_eq, setAll]; exact ih os _ n k

theorem setAll_nx : ∀ (gs : List Nat) (os : List Ob) (h : Heap), (setAll h gs os).nx = h.nx := by
  intro gs
  induction gs with
  | nil => intro os h; cases os <;> rfl
  | cons g gs ih => intro os h; cases os with
    | nil => rfl
    | cons o os => exact ih os _

theorem setAll_get : ∀ (gs : List Nat) (os : List Ob) (h : Heap), gs.Nodup → gs.length = os.length → (∀ g ∈ gs, g < 65536) → ∀ g, g < 65536 →
    (∀ (i : Nat) (o : Ob), gs[i]? = some g → os[i]? = some o → (setAll h gs os).get g = some o) ∧ (g ∉ gs → (setAll h gs os).get g = h.get g) := by
  intro gs
  induction gs with
  | nil => intro os h _ _ _ g _; exact ⟨fun i o h1 => by simp at h1, fun _ => by cases os <;> rfl⟩
  | cons a gs ih =>
    intro os h hn hl hlt g hg
    cases os with
    | nil => simp at hl
    | cons o os =>
      rw [List.nodup_cons] at hn
      obtain ⟨h1, h2⟩ := ih os (h.setOb a o) hn.2 (by simpa using hl) (fun g hg => hlt g (by simp [hg])) g hg
      refine ⟨fun i o' e1 e2 => ?_, fun hm => ?_⟩
      · cases i with
        | zero =>
          simp at e1 e2; subst e1 e2
          show (setAll (h.setOb a o) gs os).get a = some o
          rw [h2 hn.1]; exact Heap.get_set_self _ _ _ _
        | succ i => exact h1 i o' (by simpa using e1) (by simpa using e2)
      · simp only [List.mem_cons, not_or] at hm
        show (setAll (h.setOb a o) gs os).get g = h.get g
        rw [h2 hm.2]; exact setOb_get_ne (hlt a (by simp)) hg hm.1

def idx (l : List Nat) (g : Nat) : Option Nat := l.idxOf? g

theorem idx_some {l : List Nat} {g i : Nat} (hn : l.Nodup) : idx l g = some i ↔ l[i]? = some g := by
  unfold idx
  constructor
  · intro h
    have h' := List.findIdx?_eq_some_iff_getElem.1 h
    obtain ⟨h1, h2, _⟩ := h'
    rw [List.getElem?_eq_getElem h1]
    simpa using h2
  · intro h
    obtain ⟨h1, h2⟩ := List.getElem?_eq_some_iff.1 h
    refine List.findIdx?_eq_some_iff_getElem.2 ⟨h1, by simp [h2], fun j hj => ?_⟩
    simp only [beq_iff_eq]
    intro e
    have := (List.getElem_inj hn).1 (e.trans h2.symm)
    omega

theorem CallTo.lift {P : Program} {f : FuncId} {args args2 : List V} {v : V} {os os' : List Ob} {ob : T Ob} {nx : Nat} (ids : List Nat)
    (hc : CallTo P f args (hpL (enumO 0 os) os.length) v (hpL (enumO 0 os') os'.length))
    (hb : liftB ⟨ob, nx⟩ nx ids os.length os'.length = true)
    (hin : inK ⟨ob, nx⟩ (fun i => ids[i]?) ids os fun _ => rpsK (rpK ⟨ob, nx⟩ (fun i => ids[i]?) noE noF 6) args2 args fun _ => okObs os'.length os' fun _ => okV os'.length 4 v fun _ => True) :
    CallTo P f args2 ⟨ob, nx⟩ (renV (fun i => (ids ++ newIds nx (os'.length - os.length)).getD i 0) 4 v)
      ⟨(setAll ⟨ob, nx⟩ (ids ++ newIds nx (os'.length - os.length)) (os'.map (renOb fun i => (ids ++ newIds nx (os'.length - os.length)).getD i 0))).ob, nx + (os'.length - os.length)⟩ := by
  obtain ⟨⟨i1, i2⟩, hin⟩ := inK_sound _ _ _ hin
  obtain ⟨⟨a1, a2⟩, hin⟩ := rpsK_sound (rpK_sound 6) hin
  simp only [liftB, Bool.and_eq_true] at hb
  obtain ⟨⟨b1, b2⟩, ⟨b3, b4⟩, b5, b6, b7⟩ := hb
  have b1 := nodupB_spec b1
  have b4 := Nat.le_of_ble_eq_true b4
  have b5 := Nat.le_of_ble_eq_true b5
  have b7 := Nat.le_of_ble_eq_true b7
  rw [List.all_eq_true] at b2 b6
  have idlt : ∀ g ∈ ids, g < 65536 ∧ g < nx := fun g hg => by
    have := b2 g hg; simp only [Bool.and_eq_true] at this
    exact ⟨Nat.le_of_ble_eq_true this.1, Nat.le_of_ble_eq_true this.2⟩
  generalize hB : ids ++ newIds nx (os'.length - os.length) = B at *
  have hBlen : B.length = os'.length := by rw [← hB]; simp [newIds_len, i1]; omega
  have hBlt : ∀ g ∈ B, g < 65536 ∧ g < nx + (os'.length - os.length) := fun g hg => by
    rw [← hB, List.mem_append] at hg
    rcases hg with hg | hg
    · have := idlt g hg; omega
    · have := newIds_mem _ _ _ hg; omega
  have hm : ∀ i, i < os'.length → idx B (B.getD i 0) = some i := fun i hi => by
    rw [idx_some b1]
    have hi' : i < B.length := by omega
    rw [List.getD_eq_getElem?_getD, List.getElem?_eq_getElem hi']; simp
  have hsub : ∀ (i g : Nat), ids[i]? = some g → B[i]? = some g := fun i g h => by
    rw [← hB, List.getElem?_append_left (by
      rcases Nat.lt_or_ge i ids.length with h' | h'
      · exact h'
      · rw [List.getElem?_eq_none h'] at h; cases h)]
    exact h
  have hk : ∀ (i g : Nat), ids[i]? = some g → i < os.length := fun i g h => by
    rcases Nat.lt_or_ge i ids.length with h' | h'
    · omega
    · rw [List.getElem?_eq_none h'] at h; cases h
  have K : Keep ⟨ob, nx⟩ (hpL (enumO 0 os) os.length) (fun i => ids[i]?) noE noF := by
    refine ⟨fun i i' j h1 h2 => ?_, fun i j _ h => h, fun i hi o2 h1 => ?_, fun i j h1 => ?_, fun i j h1 => ?_, fun i sz _ h2 => (by cases h2)⟩
    · have e1 := (idx_some b1).2 (hsub i j h1)
      have e2 := (idx_some b1).2 (hsub i' j h2)
      rw [e1] at e2; cases e2; rfl
    · rw [get_enum (by omega) hi] at h1
      have hi2 : i < ids.length := by
        rcases Nat.lt_or_ge i os.length with h' | h'
        · omega
        · rw [List.getElem?_eq_none h'] at h1; cases h1
      obtain ⟨O, g1, g2⟩ := i2 i ids[i] o2 (List.getElem?_eq_getElem hi2) h1
      exact .inl ⟨_, O, List.getElem?_eq_getElem hi2, g1, g2⟩
    · have hi := hk i j h1
      exact ⟨os[i], by rw [get_enum (by omega) (by omega)]; exact List.getElem?_eq_getElem hi, hi, by omega⟩
    · exact (idlt j (List.mem_of_getElem? h1)).1
  obtain ⟨o1, hin⟩ := okObs_sound (h := hpL (enumO 0 os') os'.length) (τ := idx B) (m := fun i => B.getD i 0) hm _ _ hin
  obtain ⟨o2, _⟩ := okV_sound (h := hpL (enumO 0 os') os'.length) (τ := idx B) (m := fun i => B.getD i 0) hm _ _ _ hin
  have hget : ∀ g, g < 65536 → _ := setAll_get B (os'.map (renOb fun i => B.getD i 0)) ⟨ob, nx⟩ b1 (by simp [hBlen]) (fun g hg => (hBlt g hg).1)
  have M : Merge ⟨ob, nx⟩ ⟨(setAll ⟨ob, nx⟩ B (os'.map (renOb fun i => B.getD i 0))).ob, nx + (os'.length - os.length)⟩ (hpL (enumO 0 os') os'.length) (fun i => ids[i]?) (idx B) := by
    refine ⟨fun g g' i h1 h2 => ?_, fun i g h => (idx_some b1).2 (hsub i g h), fun g i h => ?_, fun g i h => ?_, fun g hg h => ?_, Nat.le_add_right _ _, fun g i h => ?_⟩
    · have e1 := (idx_some b1).1 h1
      have e2 := (idx_some b1).1 h2
      rw [e1] at e2; cases e2; rfl
    · have e1 := (idx_some b1).1 h
      rcases Nat.lt_or_ge i ids.length with h' | h'
      · rw [← hB, List.getElem?_append_left h'] at e1
        exact .inl e1
      · rw [← hB, List.getElem?_append_right h'] at e1
        have := b6 g (List.mem_of_getElem? e1)
        unfold noneAt at this
        split at this
        · rename_i q; exact .inr q
        · cases this
    · have e1 := (idx_some b1).1 h
      have hi : i < os'.length := by
        rcases Nat.lt_or_ge i B.length with h' | h'
        · omega
        · rw [List.getElem?_eq_none h'] at e1; cases e1
      have hg := (hBlt g (List.mem_of_getElem? e1)).1
      refine ⟨os'[i], renOb (fun i => B.getD i 0) os'[i], by rw [get_enum b7 (by omega)]; exact List.getElem?_eq_getElem hi, ?_, o1 _ (List.getElem_mem hi)⟩
      exact (hget g hg).1 i _ e1 (by simp [hi])
    · exact (hget g hg).2 fun hmem => by
        obtain ⟨i, hi, e⟩ := List.getElem_of_mem hmem
        have := (idx_some b1).2 (show B[i]? = some g by rw [List.getElem?_eq_getElem hi, e])
        rw [h] at this; cases this
    · have e1 := (idx_some b1).1 h
      have hi : i < os'.length := by
        rcases Nat.lt_or_ge i B.length with h' | h'
        · omega
        · rw [List.getElem?_eq_none h'] at e1; cases e1
      have := hBlt g (List.mem_of_getElem? e1)
      exact ⟨this.2, this.1, by omega⟩
  exact hc.frame K M ⟨a1, a2⟩ o2

def hpN (n : Nat) (os : List Ob) : Heap := hpL (enumO 0 os) n

/-- a contract, used -/
theorem lift_use {P : Program} {f : FuncId} {args args2 : List V} {v : V} {os os' : List Ob} {ob : T Ob} {nx : Nat} {k : V → Heap → Prop} (ids : List Nat) (n d : Nat)
    (hc : CallTo P f args (hpN n os) v (hpN (n + d) os')) (h1 : os.length = n) (h2 : os'.length = n + d)
    (hb : liftB ⟨ob, nx⟩ nx ids n (n + d) = true)
    (hin : inK ⟨ob, nx⟩ (fun i => ids[i]?) ids os fun _ => rpsK (rpK ⟨ob, nx⟩ (fun i => ids[i]?) noE noF 6) args2 args fun _ => okObs (n + d) os' fun _ => okV (n + d) 4 v fun _ => True)
    (hk : setAllK ob (ids ++ newIds nx d) (os'.map (renOb fun i => (ids ++ newIds nx d).getD i 0)) fun t =>
      k (renV (fun i => (ids ++ newIds nx d).getD i 0) 4 v) ⟨t, nx + d⟩) :
    ∃ v h', CallTo P f args2 ⟨ob, nx⟩ v h' ∧ nx ≤ h'.nx ∧ k v h' := by
  subst h1
  have e : os'.length - os.length = d := by omega
  unfold hpN at hc
  rw [← h2] at hc hb hin
  rw [← e] at hk
  rw [setAllK_eq _ _ _ nx] at hk
  exact ⟨_, _, hc.lift ids hb hin, Nat.le_add_right _ _, hk⟩

/-- the objects are just those that are asked for -/
def eqObK (H : Heap) (m : Nat → Nat) : List Nat → List Ob → (Unit → Prop) → Prop
  | [], [], k => k ()
  | g :: gs, o :: os, k => (H.get g = some (renOb m o)) ∧ eqObK H m gs os k
  | _, _, _ => False

theorem eqObK_sound {H : Heap} {m : Nat → Nat} : ∀ (gs : List Nat) (os : List Ob) (k : Unit → Prop), eqObK H m gs os k → (gs.length = os.length ∧ ∀ (i : Nat) (g : Nat) (o : Ob), gs[i]? = some g → os[i]? = some o → H.get g = some (renOb m o)) ∧ k () := by
  intro gs
  induction gs with
  | nil =>
    intro os k hk
    cases os with
    | nil => exact ⟨⟨rfl, fun i g o h => by simp at h⟩, hk⟩
    | cons => exact hk.elim
  | cons g gs ih =>
    intro os k hk
    cases os with
    | nil => exact hk.elim
    | cons o os =>
      obtain ⟨h1, hk⟩ := hk
      obtain ⟨⟨h3, h4⟩, h5⟩ := ih os k hk
      refine ⟨⟨by simp [h3], fun i g' o' e1 e2 => ?_⟩, h5⟩
      cases i with
      | zero => simp at e1 e2; subst e1 e2; exact h1
      | succ i => exact h4 i g' o' (by simpa using e1) (by simpa using e2)

def deepB (fl : Nat) (ids : List Nat) (k : Nat) : Bool := (nodupB ids && ids.all fun g => Nat.blt g 65536 && Nat.blt g fl) && (Nat.ble k 65536 && Nat.beq ids.length k)

theorem Rp.nocold {h h2 : Heap} {σ : Nat → Option Nat} {v u : V} (hr : Rp h σ noE noF v u) : Rp h2 σ noE noF v u := by
  induction hr with
  | junk => exact .junk _
  | pure hp => exact .pure hp
  | ptr hs => exact .ptr hs
  | bare _ he => cases he
  | bptr hs => exact .bptr hs
  | bv hs => exact .bv hs
  | av hs => exact .av hs
  | map hs => exact .map hs
  | iter hs => exact .iter hs
  | cold hF => exact hF.elim
  | nil => exact .nil
  | isl _ hp ih => exact .isl ih hp
  | fn h1 _ h2 _ ih1 ih2 => exact .fn h1 ih1 h2 ih2
  | iface _ ih => exact .iface ih
  | agg h1 _ ih => exact .agg h1 ih
  | tup h1 _ ih => exact .tup h1 ih

theorem DCallTo.of {P : Program} {f : FuncId} {args args2 : List V} {v : V} {os : List Ob} {h : Heap} {fl : Nat} (ids : List Nat)
    (hc : CallTo P f args (hpL (enumO 0 os) os.length) v (hpL (enumO 0 os) os.length))
    (hb : deepB fl ids os.length = true)
    (hin : eqObK h (fun i => ids.getD i 0) ids os fun _ => rpsK (rpK h (fun i => ids[i]?) noE noF 6) args2 args fun _ => okObs os.length os fun _ => okV os.length 4 v fun _ => True) :
    DCallTo P f args2 fl h (renV (fun i => ids.getD i 0) 4 v) := by
  intro H hag c xs hh hx
  obtain ⟨⟨i1, i2⟩, hin⟩ := eqObK_sound _ _ _ hin
  obtain ⟨⟨a1, a2⟩, hin⟩ := rpsK_sound (rpK_sound 6) hin
  simp only [deepB, Bool.and_eq_true] at hb
  obtain ⟨⟨b1, b2⟩, b3, b4⟩ := hb
  have b1 := nodupB_spec b1
  have b3 := Nat.le_of_ble_eq_true b3
  rw [List.all_eq_true] at b2
  have idlt : ∀ g ∈ ids, g < 65536 ∧ g < fl := fun g hg => by
    have := b2 g hg; simp only [Bool.and_eq_true] at this
    exact ⟨Nat.le_of_ble_eq_true this.1, Nat.le_of_ble_eq_true this.2⟩
  have hk : ∀ (i g : Nat), ids[i]? = some g → i < os.length := fun i g h => by
    rcases Nat.lt_or_ge i ids.length with h' | h'
    · omega
    · rw [List.getElem?_eq_none h'] at h; cases h
  have hm : ∀ i, i < os.length → idx ids (ids.getD i 0) = some i := fun i hi => by
    rw [idx_some b1]
    have hi' : i < ids.length := by omega
    rw [List.getD_eq_getElem?_getD, List.getElem?_eq_getElem hi']; simp
  have hs : ∀ i, i < os.length → ids[i]? = some (ids.getD i 0) := fun i hi => by
    have hi' : i < ids.length := by omega
    rw [List.getD_eq_getElem?_getD, List.getElem?_eq_getElem hi']; simp
  obtain ⟨o0, _⟩ := okObs_back (h := H) (σ := fun i => ids[i]?) (m := fun i => ids.getD i 0) hs _ _ hin
  obtain ⟨o1, hin⟩ := okObs_sound (h := hpL (enumO 0 os) os.length) (τ := idx ids) (m := fun i => ids.getD i 0) hm _ _ hin
  obtain ⟨o2, _⟩ := okV_sound (h := hpL (enumO 0 os) os.length) (τ := idx ids) (m := fun i => ids.getD i 0) hm _ _ _ hin
  have hH : ∀ (i g : Nat) (o : Ob), ids[i]? = some g → os[i]? = some o → H.get g = some (renOb (fun i => ids.getD i 0) o) := fun i g o e1 e2 => by
    have := idlt g (List.mem_of_getElem? e1)
    exact hag g _ this.2 this.1 (i2 i g o e1 e2)
  have K : Keep H (hpL (enumO 0 os) os.length) (fun i => ids[i]?) noE noF := by
    refine ⟨fun i i' j h1 h2 => ?_, fun i j _ h => h, fun i hi o2 h1 => ?_, fun i j h1 => ?_, fun i j h1 => ?_, fun i sz _ h2 => (by cases h2)⟩
    · have e1 := (idx_some b1).2 h1
      have e2 := (idx_some b1).2 h2
      rw [e1] at e2; cases e2; rfl
    · rw [get_enum b3 hi] at h1
      have hi2 : i < os.length := by
        rcases Nat.lt_or_ge i os.length with h' | h'
        · exact h'
        · rw [List.getElem?_eq_none h'] at h1; cases h1
      exact .inl ⟨_, _, hs i hi2, hH i _ _ (hs i hi2) h1, o0 _ (List.mem_of_getElem? h1)⟩
    · have hi := hk i j h1
      exact ⟨os[i], by rw [get_enum b3 (by omega)]; exact List.getElem?_eq_getElem hi, hi, by omega⟩
    · exact (idlt j (List.mem_of_getElem? h1)).1
  have M : Merge H H (hpL (enumO 0 os) os.length) (fun i => ids[i]?) (idx ids) := by
    refine ⟨fun g g' i h1 h2 => ?_, fun i g h => (idx_some b1).2 h, fun g i h => .inl ((idx_some b1).1 h), fun g i h => ?_, fun g hg h => rfl, Nat.le_refl _, fun g i h => ?_⟩
    · have e1 := (idx_some b1).1 h1
      have e2 := (idx_some b1).1 h2
      rw [e1] at e2; cases e2; rfl
    · have e1 := (idx_some b1).1 h
      have hi := hk i g e1
      exact ⟨os[i], _, by rw [get_enum b3 (by omega)]; exact List.getElem?_eq_getElem hi, hH i g _ e1 (List.getElem?_eq_getElem hi), o1 _ (List.getElem_mem hi)⟩
    · have e1 := (idx_some b1).1 h
      have hi := hk i g e1
      have hg := (idlt g (List.mem_of_getElem? e1)).1
      obtain ⟨p, hp⟩ := hh.back g _ hg (hH i g _ e1 (List.getElem?_eq_getElem hi))
      exact ⟨(hh.nx g p hp).1, hg, by omega⟩
  exact hc.frame K M ⟨a1, fun i hi => (a2 i hi).nocold⟩ o2 c xs hh hx

/-- a contract that reads, used deep -/
theorem deep_use {P : Program} {f : FuncId} {args args2 : List V} {v : V} {os : List Ob} {h : Heap} {fl : Nat} {k : V → Prop} (ids : List Nat) (n : Nat)
    (hc : CallTo P f args (hpN n os) v (hpN n os)) (h1 : os.length = n)
    (hb : deepB fl ids n = true)
    (hin : eqObK h (fun i => ids.getD i 0) ids os fun _ => rpsK (rpK h (fun i => ids[i]?) noE noF 6) args2 args fun _ => okObs n os fun _ => okV n 4 v fun _ => True)
    (hk : k (renV (fun i => ids.getD i 0) 4 v)) : ∃ v, DCallTo P f args2 fl h v ∧ k v := by
  subst h1
  exact ⟨_, DCallTo.of ids hc hb hin, hk⟩
end Go.Ab
