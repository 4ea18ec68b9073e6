/- Telling a state less sharply, as a computed row of conditions. Own work. -/
import Derived.Test.YtcimijgokedcgaaAbSym
import Derived.KernelRfl
set_option linter.unusedVariables false
set_option linter.unusedSimpArgs false
set_option linter.unusedSectionVars false
namespace Go.Ab
open Go Go.RowKit

theorem br_t {a b : Prop} (h : a) : (true = true → a) ∧ (true = false → b) := ⟨fun _ => h, fun e => Bool.noConfusion e⟩
theorem br_f {a b : Prop} (h : b) : (false = true → a) ∧ (false = false → b) := ⟨fun e => Bool.noConfusion e, fun _ => h⟩
theorem br_true {c : Bool} {a b : Prop} (hc : c = true) (h : a) : (c = true → a) ∧ (c = false → b) := ⟨fun _ => h, fun h2 => by rw [hc] at h2; cases h2⟩
theorem br_false {c : Bool} {a b : Prop} (hc : c = false) (h : b) : (c = true → a) ∧ (c = false → b) := ⟨fun h2 => (by rw [hc] at h2; cases h2), fun _ => h⟩
theorem br_split {c : Bool} {a b : Prop} (h1 : c = true → a) (h2 : c = false → b) : (c = true → a) ∧ (c = false → b) := ⟨h1, h2⟩
theorem br_dec {p : Prop} [Decidable p] {a b : Prop} (h1 : p → a) (h2 : ¬ p → b) : (decide p = true → a) ∧ (decide p = false → b) :=
  ⟨fun h => h1 (of_decide_eq_true h), fun h => h2 (of_decide_eq_false h)⟩
theorem br_dt {p : Prop} [Decidable p] {a b : Prop} (hp : p) (h : a) : (decide p = true → a) ∧ (decide p = false → b) := br_true (decide_eq_true hp) h
theorem br_df {p : Prop} [Decidable p] {a b : Prop} (hp : ¬ p) (h : b) : (decide p = true → a) ∧ (decide p = false → b) := br_false (decide_eq_false hp) h
theorem br_nt {p : Prop} [Decidable p] {a b : Prop} (hp : ¬ p) (h : a) : ((!decide p) = true → a) ∧ ((!decide p) = false → b) := br_true (by simp [hp]) h
theorem br_nf {p : Prop} [Decidable p] {a b : Prop} (hp : p) (h : b) : ((!decide p) = true → a) ∧ ((!decide p) = false → b) := br_false (by simp [hp]) h
theorem br_ndec {p : Prop} [Decidable p] {a b : Prop} (h1 : ¬ p → a) (h2 : p → b) : ((!decide p) = true → a) ∧ ((!decide p) = false → b) :=
  ⟨fun h => h1 (by simpa using h), fun h => h2 (by simpa using h)⟩
theorem br_bt {x y : Nat} {a b : Prop} (he : x = y) (h : a) : (Nat.beq x y = true → a) ∧ (Nat.beq x y = false → b) := br_true (by simp [he]) h
theorem br_bf {x y : Nat} {a b : Prop} (he : x ≠ y) (h : b) : (Nat.beq x y = true → a) ∧ (Nat.beq x y = false → b) := br_false (by rw [Bool.eq_false_iff]; exact fun hb => he (Nat.eq_of_beq_eq_true hb)) h
theorem beq2 {a b c d : Nat} (h : a = b) (h' : c = d) : (Nat.beq a b && Nat.beq c d) = true := by simp [h, h']
theorem beq3 {a b c d e f : Nat} (h : a = b) (h' : c = d) (h2 : e = f) : ((Nat.beq a b && Nat.beq c d) && Nat.beq e f) = true := by simp [h, h', h2]
theorem beq3r {a b c d e f : Nat} (h : a = b) (h' : c = d) (h2 : e = f) : (Nat.beq a b && (Nat.beq c d && Nat.beq e f)) = true := by simp [h, h', h2]
theorem beqS {a b c d : Nat} {x : Bool} (h : a = b) (h' : c = d) (h2 : x = true) : ((Nat.beq a b && Nat.beq c d) && x) = true := by simp [h, h', h2]
theorem ix_nat {n : Nat} {k : Nat → Prop} (h : k n) : ∃ m : Nat, (n : Int) = (m : Int) ∧ k m := ⟨n, rfl, h⟩
theorem ix_add {n : Nat} (d : Nat) {k : Nat → Prop} (h : k (n + d)) : ∃ m : Nat, (n : Int) + OfNat.ofNat d = (m : Int) ∧ k m := ⟨n + d, rfl, h⟩
theorem ix_lit (n : Nat) {k : Nat → Prop} (h : k (@OfNat.ofNat Nat n (instOfNatNat n))) : ∃ m : Nat, (@OfNat.ofNat Int n instOfNat) = (m : Int) ∧ k m := ⟨n, rfl, h⟩
theorem opt_in {α : Type} {o : Option α} {a : α} {k : α → Prop} (ho : o = some a) (h : k a) : ∃ a, o = some a ∧ k a := ⟨a, ho, h⟩
theorem ix_of {i : Int} (n : Nat) {k : Nat → Prop} (hi : i = (n : Int)) (h : k n) : ∃ m : Nat, i = (m : Int) ∧ k m := ⟨n, hi, h⟩
theorem ix_to {i : Int} {k : Nat → Prop} (hi : 0 ≤ i) (h : k i.toNat) : ∃ m : Nat, i = (m : Int) ∧ k m := ⟨i.toNat, (Int.toNat_of_nonneg hi).symm, h⟩
theorem num0_out {lo : Nat} {a b : Prop} (h : b) : (lo = 0 ∧ a) ∨ b := .inr h
theorem num_in {p : Prop} {a b : Prop} (hp : p) (h : a) : (p ∧ a) ∨ b := .inl ⟨hp, h⟩
theorem num_out {p : Prop} {a b : Prop} (h : b) : (p ∧ a) ∨ b := .inr h
theorem ob_in {p a : Prop} (hp : p) (h : a) : p ∧ a := ⟨hp, h⟩

def rpsK (f : V → V → (Unit → Prop) → Prop) : List V → List V → (Unit → Prop) → Prop
  | [], [], k => k ()
  | v :: vs, u :: us, k => f v u fun _ => rpsK f vs us k
  | _, _, _ => False

def rpK (h : Heap) (σ ε : Nat → Option Nat) (F : Nat → Prop) : Nat → V → V → (Unit → Prop) → Prop
  | 0, v, u, k => (v = u ∧ Pure u) ∧ k ()
  | n + 1, v, u, k => match u with
    | .junk => k ()
    | .bool b => match v with
      | .bool a => a = b ∧ k ()
      | _ => False
    | .int kd z => match v with
      | .int kd' z' => match ikEq kd' kd with
        | true => z' = z ∧ k ()
        | false => False
      | _ => False
    | .str s => match v with
      | .str s' => s' = s ∧ k ()
      | _ => False
    | .lit x => match v with
      | .lit x' => x' = x ∧ k ()
      | _ => False
    | .ptr i off => match v with
      | .ptr j off' => (σ i = some j ∧ off' = off) ∧ k ()
      | _ => False
    | .bv i ext sz lo len cap => match v with
      | .bv j ext' sz' lo' len' cap' => (σ i = some j) ∧ (ext' = ext ∧ sz' = sz ∧ lo' = lo ∧ len' = len ∧ cap' = cap) ∧ k ()
      | .lit (.slice none 0 0) => (σ i = none ∧ ε i = some sz) ∧ (ext = 0 ∧ lo = 0 ∧ len = 0 ∧ cap = none) ∧ k ()
      | _ => False
    | .map i => match v with
      | .map j => (σ i = some j) ∧ k ()
      | _ => False
    | .isl len sz g => match v with
      | .isl len' sz' g' => (len' = len ∧ sz' = sz) ∧ (∀ a b, a < len → b < sz → Rp h σ ε F (g' a b) (g a b)) ∧ (∀ a b, Pure (g a b)) ∧ k ()
      | .bv j ext sz' lo len' _ => match h.get j with
        | some (.buf ext' sz'' get) => (F j ∧ (len' = len ∧ sz' = sz ∧ ext' = ext ∧ sz'' = sz' ∧ 0 < sz)) ∧ (∀ a b, a < len → b < sz → Rp h σ ε F (get (lo + a) b) (g a b)) ∧ (∀ a b, Pure (g a b)) ∧ k ()
        | _ => False
      | .lit (.slice none 0 _) => len = 0 ∧ k ()
      | _ => False
    | .agg us => match v with
      | .agg vs => rpsK (rpK h σ ε F n) vs us k
      | _ => False
    | .tup us => match v with
      | .tup vs => rpsK (rpK h σ ε F n) vs us k
      | _ => False
    | .iface t u => match v with
      | .iface t' v => t' = t ∧ rpK h σ ε F n v u k
      | _ => False
    | u => (v = u ∧ Pure u) ∧ k ()

variable {h : Heap} {σ ε : Nat → Option Nat} {F : Nat → Prop}

theorem rpsK_sound {f : V → V → (Unit → Prop) → Prop} (hf : ∀ v u k, f v u k → Rp h σ ε F v u ∧ k ()) : ∀ {vs us : List V} {k : Unit → Prop}, rpsK f vs us k →
    (vs.length = us.length ∧ ∀ i, i < vs.length → Rp h σ ε F (vs.getD i .junk) (us.getD i .junk)) ∧ k () := by
  intro vs
  induction vs with
  | nil =>
    intro us k hk
    cases us with
    | nil => exact ⟨⟨rfl, fun i hi => by simp at hi⟩, hk⟩
    | cons => exact hk.elim
  | cons v vs ih =>
    intro us k hk
    cases us with
    | nil => exact hk.elim
    | cons u us =>
      obtain ⟨h1, h2⟩ := hf _ _ _ hk
      obtain ⟨⟨h3, h4⟩, h5⟩ := ih h2
      refine ⟨⟨by simp [h3], fun i hi => ?_⟩, h5⟩
      cases i with
      | zero => simpa using h1
      | succ i => simpa using h4 i (by simpa using hi)

theorem rpK_sound : ∀ (n : Nat) (v u : V) (k : Unit → Prop), rpK h σ ε F n v u k → Rp h σ ε F v u ∧ k () := by
  intro n
  induction n with
  | zero => intro v u k ⟨⟨e, p⟩, hk⟩; subst e; exact ⟨.pure p, hk⟩
  | succ n ih =>
    intro v u k hk
    unfold rpK at hk
    split at hk
    · exact ⟨.junk _, hk⟩
    · split at hk <;> try exact hk.elim
      obtain ⟨rfl, hk⟩ := hk; exact ⟨.pure (.bool _), hk⟩
    · split at hk <;> try exact hk.elim
      split at hk <;> try exact hk.elim
      rename_i he
      obtain ⟨rfl, hk⟩ := hk
      have := ikEq_spec he
      subst this
      exact ⟨.pure (.int _ _), hk⟩
    · split at hk <;> try exact hk.elim
      obtain ⟨rfl, hk⟩ := hk; exact ⟨.pure (.str _), hk⟩
    · split at hk <;> try exact hk.elim
      obtain ⟨rfl, hk⟩ := hk; exact ⟨.pure (.lit _), hk⟩
    · split at hk <;> try exact hk.elim
      obtain ⟨⟨h1, rfl⟩, hk⟩ := hk; exact ⟨.ptr h1, hk⟩
    · split at hk <;> try exact hk.elim
      · obtain ⟨h1, ⟨rfl, rfl, rfl, rfl, rfl⟩, hk⟩ := hk; exact ⟨.bv h1, hk⟩
      · obtain ⟨⟨h1, h2⟩, ⟨rfl, rfl, rfl, rfl⟩, hk⟩ := hk; exact ⟨.bare h1 h2, hk⟩
    · split at hk <;> try exact hk.elim
      obtain ⟨h1, hk⟩ := hk; exact ⟨.map h1, hk⟩
    · split at hk <;> try exact hk.elim
      · obtain ⟨⟨rfl, rfl⟩, h1, h2, hk⟩ := hk; exact ⟨.isl h1 h2, hk⟩
      · split at hk <;> try exact hk.elim
        rename_i hg
        obtain ⟨⟨h1, rfl, rfl, rfl, rfl, h2⟩, h3, h4, hk⟩ := hk
        exact ⟨.cold h1 hg h2 h3 h4, hk⟩
      · obtain ⟨rfl, hk⟩ := hk; exact ⟨.nil, hk⟩
    · split at hk <;> try exact hk.elim
      obtain ⟨h1, hk⟩ := rpsK_sound ih hk; exact ⟨.agg h1.1 h1.2, hk⟩
    · split at hk <;> try exact hk.elim
      obtain ⟨h1, hk⟩ := rpsK_sound ih hk; exact ⟨.tup h1.1 h1.2, hk⟩
    · split at hk <;> try exact hk.elim
      obtain ⟨rfl, hk⟩ := hk
      obtain ⟨h1, hk⟩ := ih _ _ _ hk; exact ⟨.iface h1, hk⟩
    · obtain ⟨⟨rfl, p⟩, hk⟩ := hk; exact ⟨.pure p, hk⟩

def rpObK (h : Heap) (σ ε : Nat → Option Nat) (F : Nat → Prop) (o o2 : Ob) (k : Unit → Prop) : Prop := match o2 with
  | .cells us => match o with
    | .cells vs => rpsK (rpK h σ ε F 6) vs us k
    | _ => False
  | .buf ext sz g => match o with
    | .buf ext' sz' g' => (ext' = ext ∧ sz' = sz) ∧ (∀ i j, i < ext → j < sz → Rp h σ ε F (g' i j) (g i j)) ∧ k ()
    | _ => False
  | .map es2 c2 => match o with
    | .map es c => (es = es2 ∧ c = c2) ∧ (∀ e ∈ es2, Pure e.val) ∧ k ()
    | _ => False
  | _ => False

theorem rpObK_sound {o o2 : Ob} {k : Unit → Prop} (hk : rpObK h σ ε F o o2 k) : RpOb h σ ε F o o2 ∧ k () := by
  unfold rpObK at hk
  split at hk
  · split at hk <;> try exact hk.elim
    obtain ⟨⟨h1, h2⟩, hk⟩ := rpsK_sound (rpK_sound 6) hk; exact ⟨.cells h1 h2, hk⟩
  · split at hk <;> try exact hk.elim
    obtain ⟨⟨rfl, rfl⟩, h1, hk⟩ := hk; exact ⟨.buf h1, hk⟩
  · split at hk <;> try exact hk.elim
    obtain ⟨⟨rfl, rfl⟩, h1, hk⟩ := hk
    exact ⟨.map rfl fun i _ hi => ⟨rfl, rfl, rfl, .pure (h1 _ (List.getElem_mem hi))⟩, hk⟩
  · exact hk.elim

def szOf : Ob → Nat
  | .buf _ sz _ => sz
  | _ => 0

/-- whose each new object is: by default, of the same name -/
def mkKs : List (Nat × Ob) → List (Option Nat) → List KO
  | [], _ => []
  | (i, o) :: os, [] => ⟨i, some i, szOf o, o⟩ :: mkKs os []
  | (i, o) :: os, r :: rs => ⟨i, r, szOf o, o⟩ :: mkKs os rs

theorem mkKs_map : ∀ (os : List (Nat × Ob)) (rs : List (Option Nat)), (mkKs os rs).map (fun k => (k.new, k.ob)) = os := by
  intro os
  induction os with
  | nil => intro rs; rfl
  | cons p os ih => obtain ⟨i, o⟩ := p; intro rs; cases rs <;> simp [mkKs, ih]

theorem mkKs_sz : ∀ (os : List (Nat × Ob)) (rs : List (Option Nat)), ∀ k ∈ mkKs os rs, k.sz = szOf k.ob := by
  intro os
  induction os with
  | nil => intro rs k hk; simp [mkKs] at hk
  | cons p os ih =>
    obtain ⟨i, o⟩ := p; intro rs k hk
    cases rs with
    | nil =>
      simp only [mkKs, List.mem_cons] at hk
      rcases hk with rfl | hk
      · rfl
      · exact ih _ k hk
    | cons r rs =>
      simp only [mkKs, List.mem_cons] at hk
      rcases hk with rfl | hk
      · rfl
      · exact ih _ k hk

def ksK (hp : Heap) (σ ε : Nat → Option Nat) (F : Nat → Prop) : List KO → (Unit → Prop) → Prop
  | [], k => k ()
  | ko :: r, k => match ko.old with
    | some j => match hp.get j with
      | some o => rpObK hp σ ε F o ko.ob fun _ => ksK hp σ ε F r k
      | none => False
    | none => match ko.ob with
      | .buf ext _ _ => ext = 0 ∧ ksK hp σ ε F r k
      | _ => False

theorem ksK_sound {hp : Heap} : ∀ {ks : List KO} {k : Unit → Prop}, (∀ k ∈ ks, k.sz = szOf k.ob) → ksK hp σ ε F ks k → (∀ k ∈ ks, match k.old with
      | some j => ∃ o, hp.get j = some o ∧ RpOb hp σ ε F o k.ob
      | none => ∃ get, k.ob = .buf 0 k.sz get) ∧ k () := by
  intro ks
  induction ks with
  | nil => intro k _ hk; exact ⟨fun k hk => by simp at hk, hk⟩
  | cons ko ks ih =>
    intro k hsz hk
    have hsz' : ∀ k ∈ ks, k.sz = szOf k.ob := fun k hk => hsz k (by simp [hk])
    unfold ksK at hk
    cases ho : ko.old with
    | some j =>
      simp only [ho] at hk
      cases hg : hp.get j with
      | none => simp only [hg] at hk
      | some o =>
        simp only [hg] at hk
        obtain ⟨h1, h2⟩ := rpObK_sound hk
        obtain ⟨h3, h4⟩ := ih hsz' h2
        refine ⟨fun k hk => ?_, h4⟩
        simp only [List.mem_cons] at hk
        rcases hk with rfl | hk
        · rw [ho]; exact ⟨o, hg, h1⟩
        · exact h3 k hk
    | none =>
      simp only [ho] at hk
      have h0 := hsz ko (by simp)
      split at hk
      · rename_i ext sz g hob
        obtain ⟨rfl, h2⟩ := hk
        obtain ⟨h3, h4⟩ := ih hsz' h2
        refine ⟨fun k hk => ?_, h4⟩
        simp only [List.mem_cons] at hk
        rcases hk with rfl | hk
        · rw [ho]; refine ⟨g, ?_⟩; rw [h0, hob]; rfl
        · exact h3 k hk
      · exact hk.elim

def tmsK (s : St) (σ ε : Nat → Option Nat) (F : Nat → Prop) : List (Nat × V) → Prop
  | [] => True
  | (t, u) :: r => rpK s.hp σ ε F 6 (opd s.tm (.tmp t)) u fun _ => tmsK s σ ε F r

theorem tmsK_sound {s : St} : ∀ {l : List (Nat × V)}, tmsK s σ ε F l → ∀ p ∈ l, Rp s.hp σ ε F (opd s.tm (.tmp p.1)) p.2 := by
  intro l
  induction l with
  | nil => intro _ p hp; simp at hp
  | cons q l ih =>
    obtain ⟨t, u⟩ := q
    intro hk p hp
    obtain ⟨h1, h2⟩ := rpK_sound _ _ _ _ hk
    simp only [List.mem_cons] at hp
    rcases hp with rfl | hp
    · exact h1
    · exact ih h2 p hp

def T.allB {α : Type} (Q : Nat → Bool) : T α → Nat → Nat → Nat → Bool
  | .nil, _, _, _ => true
  | .leaf _, _, _, o => Q o
  | .node l r, w, m, o => T.allB Q l (w - 1) (2 * m) o && T.allB Q r (w - 1) (2 * m) (o + m)

theorem T.allB_get {α : Type} {Q : Nat → Bool} : ∀ (w : Nat) (t : T α) (m o n : Nat), t.allB Q w m o = true → n < 2 ^ w → ∀ v, t.get (bits w n) = some v → Q (o + m * n) = true := by
  intro w
  induction w with
  | zero =>
    intro t m o n ha hn v hg
    have : n = 0 := by simpa using hn
    subst this
    cases t with
    | leaf x => simpa [T.allB] using ha
    | nil => simp [bits, T.get] at hg
    | node l r => simp [bits, T.get] at hg
  | succ w ih =>
    intro t m o n ha hn v hg
    cases t with
    | nil => simp [T.get_nil] at hg
    | leaf x => simp [bits, T.get] at hg
    | node l r =>
      simp only [T.allB, Bool.and_eq_true, Nat.add_sub_cancel] at ha
      simp only [bits, T.get] at hg
      have hn2 : n / 2 < 2 ^ w := by rw [Nat.pow_succ] at hn; omega
      split at hg
      · rename_i hb
        have hb : n % 2 = 1 := by simpa using hb
        have := ih r _ _ _ ha.2 hn2 v hg
        have e : o + m * n = o + m + 2 * m * (n / 2) := by
          have : n = 2 * (n / 2) + 1 := by omega
          generalize n / 2 = q at *
          subst this
          rw [Nat.mul_add, Nat.mul_one, ← Nat.mul_assoc, Nat.mul_comm m 2]; omega
        rw [e]; exact this
      · rename_i hb
        have hb : n % 2 ≠ 1 := fun e => by rw [e] at hb; simp at hb
        have := ih l _ _ _ ha.1 hn2 v hg
        have e : o + m * n = o + 2 * m * (n / 2) := by
          have : n = 2 * (n / 2) := by omega
          generalize n / 2 = q at *
          subst this
          rw [← Nat.mul_assoc, Nat.mul_comm m 2]
        rw [e]; exact this

def nodupB : List Nat → Bool
  | [] => true
  | a :: l => !(l.any (Nat.beq a)) && nodupB l

theorem nodupB_spec : ∀ {l : List Nat}, nodupB l = true → l.Nodup := by
  intro l
  induction l with
  | nil => intro _; exact List.nodup_nil
  | cons a l ih =>
    intro h
    simp only [nodupB, Bool.and_eq_true, Bool.not_eq_true', List.any_eq_false] at h
    exact List.nodup_cons.2 ⟨fun hm => h.1 a hm (by simp), ih h.2⟩

def fitsB (n0 : Heap) (l : List (Nat × V)) (ks : List KO) (F : List Nat) (nx : Nat) : Bool :=
  nodupB (ks.filterMap (·.old) ++ F) && (ks.all fun k => (Nat.blt k.new nx && Nat.blt k.new 65536) && match k.old with
    | some j => Nat.blt j 65536
    | none => true) && (l.all fun p => Nat.blt p.1 512) && n0.ob.allB (fun i => match sigma ks i with
    | some j => Nat.beq i j && !(F.any (Nat.beq i))
    | none => false) 16 1 0

def fitsK (n0 : Heap) (s : St) (l : List (Nat × V)) (os : List (Nat × Ob)) (rs : List (Option Nat)) (F : List Nat) (nx : Nat) : Prop :=
  fitsB n0 l (mkKs os rs) F nx = true ∧ ksK s.hp (sigma (mkKs os rs)) (eps (mkKs os rs)) (· ∈ F) (mkKs os rs) fun _ => tmsK s (sigma (mkKs os rs)) (eps (mkKs os rs)) (· ∈ F) l

theorem fits_of {n0 : Heap} {s : St} {l : List (Nat × V)} {os : List (Nat × Ob)} {rs : List (Option Nat)} {F : List Nat} {nx : Nat} (hk : fitsK n0 s l os rs F nx) : Fits n0 s (stL l os nx) := by
  obtain ⟨hb, hk⟩ := hk
  obtain ⟨h1, h2⟩ := ksK_sound (mkKs_sz os rs) hk
  have h3 := tmsK_sound h2
  simp only [fitsB, Bool.and_eq_true] at hb
  obtain ⟨⟨⟨b1, b2⟩, b3⟩, b4⟩ := hb
  have := Fits.of (n0 := n0) (s := s) (mkKs os rs) nx F l (nodupB_spec b1) (fun k hk => by
    have := List.all_eq_true.1 b2 k hk
    simp only [Bool.and_eq_true, Nat.blt_eq] at this
    refine ⟨this.1.1, this.1.2, fun j hj => ?_⟩
    have h5 := this.2
    rw [hj] at h5
    simpa [Nat.blt_eq] using h5) h1 (fun p hp => ⟨by
      have := List.all_eq_true.1 b3 p hp
      simpa [Nat.blt_eq] using this, h3 p hp⟩) (fun i o hi hg => by
    have := T.allB_get 16 n0.ob 1 0 i b4 hi o hg
    simp only [Nat.zero_add, Nat.one_mul] at this
    split at this
    · rename_i j hj
      simp only [Bool.and_eq_true] at this
      have e := Nat.eq_of_beq_eq_true this.1
      subst e
      refine ⟨hj, fun hF => ?_⟩
      have h6 : F.any (Nat.beq i) = false := by simpa using this.2
      rw [List.any_eq_false] at h6
      exact h6 i hF (by simp)
    · cases this)
  rw [mkKs_map] at this
  exact this

/-- from one listed state to another one -/
theorem code_step {P : Program} {E : Env} (hE : EnvOK P E) {fs : Nat} {cd : Code} {l : List (Nat × V)} {os : List (Nat × Ob)} {nx : Nat} {l' : List (Nat × V)} {os' : List (Nat × Ob)} {nx' : Nat} {e : Ex}
    (rs : List (Option Nat)) (F : List Nat)
    (h : tmK l fun tm => obK os fun ob => ev E (CallS P) (PureS P) (LoopS P) fs cd ⟨tm, ⟨ob, nx⟩⟩ fun e' s => e' = e ∧ fitsK (hpL os nx) s l' os' rs F nx') : CodeTo P fs cd (stL l os nx) e (stL l' os' nx') := by
  rw [tmK_eq, obK_eq] at h
  obtain ⟨e', s, ⟨rfl, hf⟩, hc, _⟩ := ev_sound (R := Prop) hE (CallS.good P) (PureS.good P) (LoopS.good P) cd _ _ h
  exact CodeTo.fits (st := stL l os nx) hc (fits_of hf)

/-- a call, from one listed heap to another one -/
theorem call_step {P : Program} {E : Env} (hE : EnvOK P E) {f : FuncId} {fn : Func} (hf : P.funcs[f]? = some fn) {args : List V} {os : List (Nat × Ob)} {nx : Nat} {v : V} {os' : List (Nat × Ob)} {nx' : Nat}
    (rs : List (Option Nat)) (F : List Nat)
    (hb : obK os fun ob => bodyK E (CallS P) (PureS P) (LoopS P) fn args ⟨ob, nx⟩ fun v' h' => fitsK (hpL os nx) ⟨.set .nil (bits 9 0) v', h'⟩ [(0, v)] os' rs F nx') : CallTo P f args (hpL os nx) v (hpL os' nx') := by
  rw [obK_eq] at hb
  obtain ⟨v', h', hfit, hc, _⟩ := body_sound (R := Prop) hE (CallS.good P) (PureS.good P) (LoopS.good P) hf hb
  obtain ⟨σ, ε, F', K, ht, h0⟩ := fits_of hfit
  refine hc.keep K ?_ (fun i o hi hg => (h0 i o hi hg).1) fun i o hi hg => (h0 i o hi hg).2
  have := ht 0 (by omega)
  simpa [Ab.opd, T.get_set_self, stL, tmL] using this

/-- a call of plain values -/
theorem pure_step {P : Program} {E : Env} (hE : EnvOK P E) {f : FuncId} {fn : Func} (hf : P.funcs[f]? = some fn) {args : List V} {v : V} (F : List Nat)
    (hb : bodyK E (CallS P) (PureS P) (LoopS P) fn args ⟨.nil, 0⟩ fun v' h' => fitsK ⟨.nil, 0⟩ ⟨.set .nil (bits 9 0) v', h'⟩ [(0, v)] [] [] F 0) (ha : ∀ v ∈ args, Pure v) (hv : Pure v) : PCallTo P f args v :=
  pure_of (call_step (os := []) (nx := 0) (os' := []) (nx' := 0) hE hf [] F hb) ha hv

theorem LoopTo.bump {P : Program} {fs : Nat} {c : Code} {st : St} {e : Ex} {tm : T V} {ob : T Ob} {nx n : Nat} (h : LoopTo P fs c st e ⟨tm, ⟨ob, nx⟩⟩) (hn : nx ≤ n) : LoopTo P fs c st e ⟨tm, ⟨ob, n⟩⟩ := by
  intro cf a hr Q hQ b k cs
  exact h cf a hr Q (fun c' a' he hr' => hQ c' a' he ⟨hr'.hp.bump hn, hr'.size, hr'.defers, hr'.tm⟩) b k cs

theorem loop_use {P : Program} {fs : Nat} {c : Code} {st : St} {k : Ex → St → Prop} {l : List (Nat × V)} {os : List (Nat × Ob)} {nx : Nat} {e : Ex} {l' : List (Nat × V)} {os' : List (Nat × Ob)} {nx' : Nat}
    (rs : List (Option Nat)) (F : List Nat) (hl : LoopTo P fs c (stL l os nx) e (stL l' os' nx')) (hf : fitsK st.hp st l os rs F nx)
    (hk : nxK st.hp fun n => tmK l' fun tm => obK os' fun ob => k e ⟨tm, ⟨ob, n + nx'⟩⟩) : ∃ e s, LoopTo P fs c st e s ∧ st.hp.nx ≤ s.hp.nx ∧ k e s := by
  rw [nxK_eq, tmK_eq, obK_eq] at hk
  refine ⟨e, _, LoopTo.before (fits_of hf) (hl.bump (Nat.le_add_left _ st.hp.nx)), Nat.le_add_right _ _, hk⟩

theorem pure_use {P : Program} {f : FuncId} {args : List V} {v : V} {h : Heap} {k : V → Heap → Prop} (hc : PCallTo P f args v) (hk : k v h) : ∃ v h', CallTo P f args h v h' ∧ h.nx ≤ h'.nx ∧ k v h' :=
  ⟨v, h, hc h, Nat.le_refl _, hk⟩

theorem CallTo.less {P : Program} {f : FuncId} {args args2 : List V} {h h' : Heap} {v : V} (hc : CallTo P f args h v h')
    (ha : args2.length = args.length ∧ ∀ i, i < args2.length → Rp h (fun i => some i) (fun _ => none) (fun _ => False) (args2.getD i .junk) (args.getD i .junk)) : CallTo P f args2 h v h' := by
  intro c xs hh hx
  refine hc c xs hh ⟨by rw [← ha.1]; exact hx.1, fun i hi => ?_⟩
  have h1 := (ha.2 i (by rw [ha.1]; exact hi)).sound hh (hx.2 i (by rw [ha.1]; exact hi))
  refine h1.more (c := c.keep (fun i => some i) (fun _ => none) (fun _ => False)) (c' := c) rfl (fun i p hp => hp) fun b hb => ?_
  exact hb.resolve_right fun ⟨_, _, hF, _⟩ => hF

/-- a call of plain values, whose arguments are told more sharply -/
theorem pure_use_rp {P : Program} {f : FuncId} {args args2 : List V} {v : V} {h : Heap} {k : V → Heap → Prop} (hc : PCallTo P f args v)
    (hk : rpsK (rpK h (fun i => some i) (fun _ => none) (fun _ => False) 6) args2 args fun _ => k v h) : ∃ v h', CallTo P f args2 h v h' ∧ h.nx ≤ h'.nx ∧ k v h' := by
  obtain ⟨ha, hk⟩ := rpsK_sound (rpK_sound 6) hk
  exact ⟨v, h, (hc h).less ha, Nat.le_refl _, hk⟩

theorem call_use {P : Program} {f : FuncId} {args : List V} {v : V} {h h' : Heap} {k : V → Heap → Prop} (hc : CallTo P f args h v h') (hn : Nat.ble h.nx h'.nx = true) (hk : k v h') : ∃ v h', CallTo P f args h v h' ∧ h.nx ≤ h'.nx ∧ k v h' :=
  ⟨v, h', hc, Nat.le_of_ble_eq_true hn, hk⟩

theorem rp_same {h : Heap} {σ ε : Nat → Option Nat} {F : Nat → Prop} {ext sz : Nat} {g : Nat → Nat → V} (hp : ∀ a b, Pure (g a b)) : ∀ i j, i < ext → j < sz → Rp h σ ε F (g i j) (g i j) := fun i j _ _ => .pure (hp i j)
theorem rp_eq {h : Heap} {σ ε : Nat → Option Nat} {F : Nat → Prop} {ext sz : Nat} {g g' : Nat → Nat → V} (hp : ∀ a b, Pure (g a b)) (he : ∀ i j, i < ext → j < sz → g' i j = g i j) : ∀ i j, i < ext → j < sz → Rp h σ ε F (g' i j) (g i j) :=
  fun i j hi hj => by rw [he i j hi hj]; exact .pure (hp i j)

/-- a row of elements, each of some cells -/
def rowG {α : Type} (e : α → List V) (d : α) (l : List α) : Nat → Nat → V := fun i j => (e (l.getD i d)).getD j .junk
@[reducible] def bufR {α : Type} (e : α → List V) (d : α) (sz : Nat) (l : List α) : Ob := .buf l.length sz (rowG e d l)
@[reducible] def islR {α : Type} (e : α → List V) (d : α) (sz : Nat) (l : List α) : V := .isl l.length sz (rowG e d l)
@[reducible] def eI (k : IntKind) : Int → List V := fun x => [.int k x]
@[reducible] def bufI (k : IntKind) (l : List Int) : Ob := bufR (eI k) 0 1 l
@[reducible] def islI (k : IntKind) (l : List Int) : V := islR (eI k) 0 1 l

def PureE {α : Type} (e : α → List V) : Prop := ∀ x v, v ∈ e x → Pure v

theorem rowG_pure {α : Type} {e : α → List V} (he : PureE e) (d : α) (l : List α) (a b : Nat) : Pure (rowG e d l a b) := by
  unfold rowG
  rcases Nat.lt_or_ge b (e (l.getD a d)).length with h | h
  · rw [List.getD_eq_getElem?_getD, List.getElem?_eq_getElem h]; exact he _ _ (List.getElem_mem h)
  · rw [List.getD_eq_getElem?_getD, List.getElem?_eq_none h]; exact .junk
theorem eI_pure (k : IntKind) : PureE (eI k) := fun x v hv => by simp at hv; subst hv; exact .int _ _
theorem islR_pure {α : Type} {e : α → List V} (he : PureE e) (d : α) (sz : Nat) (l : List α) : Pure (islR e d sz l) := .isl fun _ _ => rowG_pure he _ _ _ _
theorem islI_pure (k : IntKind) (l : List Int) : Pure (islI k l) := islR_pure (eI_pure k) _ _ _

section
variable {α : Type} {e : α → List V} {d : α} {h : Heap} {σ ε : Nat → Option Nat} {F : Nat → Prop}

/-- alike, as far as is seen -/
def EqG (ext sz : Nat) (g g' : Nat → Nat → V) : Prop := ∀ i j, i < ext → j < sz → g i j = g' i j

theorem rp_of (he : PureE e) {l : List α} {ext sz : Nat} {g : Nat → Nat → V} (hg : EqG ext sz g (rowG e d l)) : ∀ i j, i < ext → j < sz → Rp h σ ε F (g i j) (rowG e d l i j) :=
  rp_eq (rowG_pure he d l) hg
theorem rp_of0 (he : PureE e) {l : List α} {ext sz lo : Nat} {g : Nat → Nat → V} (hlo : lo = 0) (hg : EqG ext sz g (rowG e d l)) : ∀ i j, i < ext → j < sz → Rp h σ ε F (g (lo + i) j) (rowG e d l i j) := by
  subst hlo
  intro i j hi hj
  rw [Nat.zero_add, hg i j hi hj]; exact .pure (rowG_pure he d l _ _)
theorem EqG.row {l : List α} {ext sz : Nat} : EqG ext sz (rowG e d l) (rowG e d l) := fun _ _ _ _ => rfl
theorem EqG.none {ext sz : Nat} {g g' : Nat → Nat → V} (h0 : ext = 0) : EqG ext sz g g' := fun i j hi _ => by omega

/-- one element is put behind a row -/
theorem EqG.push {l : List α} {x : α} {n sz ext : Nat} {cs : List V} {g : Nat → Nat → V} (hg : EqG l.length sz g (rowG e d l)) (hcs : cs = e x) (hn : n = l.length) (hext : ext ≤ l.length + 1) :
    EqG ext sz (appG n g (listG cs sz)) (rowG e d (l ++ [x])) := by
  subst hcs hn
  intro i j hi hj
  unfold appG
  rcases Nat.lt_or_ge i l.length with h1 | h1
  · rw [show Nat.blt i l.length = true from Nat.ble_eq_true_of_le h1]
    dsimp only
    rw [hg i j h1 hj]
    simp [rowG, List.getD_eq_getElem?_getD, List.getElem?_append_left h1]
  · have e1 : i = l.length := by omega
    subst e1
    have e2 : Nat.blt l.length l.length = false := by rw [Bool.eq_false_iff]; intro hb; exact Nat.lt_irrefl _ (Nat.le_of_ble_eq_true hb)
    rw [e2]
    simp [rowG, listG, List.getD_eq_getElem?_getD]

/-- the first element -/
theorem EqG.one {x : α} {sz ext : Nat} {cs : List V} (hcs : cs = e x) (hext : ext ≤ 1) : EqG ext sz (listG cs sz) (rowG e d [x]) := by
  subst hcs
  intro i j hi hj
  have : i = 0 := by omega
  subst this
  simp [rowG, listG, List.getD_eq_getElem?_getD]

/-- a row is put behind a row -/
theorem EqG.app {l r : List α} {n ext sz : Nat} {g src : Nat → Nat → V} (hg : EqG l.length sz g (rowG e d l)) (hs : EqG r.length sz src (rowG e d r)) (hn : n = l.length) (hext : ext ≤ l.length + r.length) :
    EqG ext sz (appG n g src) (rowG e d (l ++ r)) := by
  subst hn
  intro i j hi hj
  unfold appG
  rcases Nat.lt_or_ge i l.length with h1 | h1
  · rw [show Nat.blt i l.length = true from Nat.ble_eq_true_of_le h1]
    dsimp only
    rw [hg i j h1 hj]
    simp [rowG, List.getD_eq_getElem?_getD, List.getElem?_append_left h1]
  · have e2 : Nat.blt i l.length = false := by rw [Bool.eq_false_iff]; intro hb; have := Nat.le_of_ble_eq_true hb; omega
    rw [e2]
    simp only
    rw [hs _ _ (by omega) hj]
    simp [rowG, List.getD_eq_getElem?_getD, List.getElem?_append_right h1]

/-- a row from a place on, to a place -/
theorem EqG.off {l : List α} {lo n ext sz : Nat} {g : Nat → Nat → V} (hg : EqG l.length sz g (rowG e d l)) (hlo : lo + ext ≤ l.length) (hn : ext ≤ n) : EqG ext sz (offG lo g) (rowG e d ((l.drop lo).take n)) := by
  intro i j hi hj
  have : i < n := by omega
  unfold offG
  rw [hg _ _ (by omega) hj]
  simp [rowG, List.getD_eq_getElem?_getD, this]
theorem EqG.off0 {l : List α} {lo ext sz : Nat} {g : Nat → Nat → V} (hg : EqG l.length sz g (rowG e d l)) (hlo : lo + ext ≤ l.length) : EqG ext sz (offG lo g) (rowG e d (l.drop lo)) := by
  intro i j hi hj
  unfold offG
  rw [hg _ _ (by omega) hj]
  simp [rowG, List.getD_eq_getElem?_getD]
theorem EqG.take {l : List α} {n ext sz : Nat} {g : Nat → Nat → V} (hg : EqG ext sz g (rowG e d l)) (hn : ext ≤ n) : EqG ext sz g (rowG e d (l.take n)) := by
  intro i j hi hj
  have : i < n := by omega
  rw [hg _ _ hi hj]
  simp [rowG, List.getD_eq_getElem?_getD, this]
/-- one element is another one -/
theorem EqG.store {l : List α} {x : α} {i n sz ext : Nat} {vs : List V} {g : Nat → Nat → V} (hg : EqG ext sz g (rowG e d l)) (hvs : vs = e x) (hi : i < l.length) (hsz : vs.length = sz) : EqG ext sz (storeG i 0 vs g) (rowG e d (l.set i x)) := by
  subst hvs
  intro a b ha hb
  unfold storeG
  by_cases hai : a = i
  · subst hai
    have e1 : (Nat.beq a a && (Nat.ble 0 b && Nat.blt b (0 + (e x).length))) = true := by
      simp only [Nat.beq_refl, Bool.true_and, Bool.and_eq_true]
      exact ⟨Nat.ble_eq_true_of_le (Nat.zero_le _), Nat.ble_eq_true_of_le (by omega)⟩
    rw [e1]
    simp [rowG, List.getD_eq_getElem?_getD, hi]
  · have e1 : (Nat.beq a i && (Nat.ble 0 b && Nat.blt b (0 + (e x).length))) = false := by
      rw [Bool.eq_false_iff]; intro hq; simp only [Bool.and_eq_true, Nat.beq_eq] at hq; exact hai hq.1
    rw [e1]
    dsimp only
    rw [hg a b ha hb]
    simp [rowG, List.getD_eq_getElem?_getD, List.getElem?_set_ne (Ne.symm hai)]

theorem rp_none {g g' : Nat → Nat → V} {sz ext : Nat} (h0 : ext = 0) : ∀ i j, i < ext → j < sz → Rp h σ ε F (g' i j) (g i j) := fun i j hi => by omega
end

section
variable {p a b : Prop}
theorem sNum (h : a) (hp : p := by first | omega | assumption) : (p ∧ a) ∨ b := .inl ⟨hp, h⟩
theorem sDt [Decidable p] (h : a) (hp : p := by omega) : (decide p = true → a) ∧ (decide p = false → b) := br_dt hp h
theorem sDf [Decidable p] (h : b) (hp : ¬ p := by omega) : (decide p = true → a) ∧ (decide p = false → b) := br_df hp h
theorem sNt [Decidable p] (h : a) (hp : ¬ p := by omega) : ((!decide p) = true → a) ∧ ((!decide p) = false → b) := br_nt hp h
theorem sNf [Decidable p] (h : b) (hp : p := by omega) : ((!decide p) = true → a) ∧ ((!decide p) = false → b) := br_nf hp h
theorem sBt {x y : Nat} (h : a) (he : x = y := by first | omega | exact rfl) : (Nat.beq x y = true → a) ∧ (Nat.beq x y = false → b) := br_bt he h
theorem sBf {x y : Nat} (h : b) (he : x ≠ y := by omega) : (Nat.beq x y = true → a) ∧ (Nat.beq x y = false → b) := br_bf he h
theorem sIx {i : Int} {k : Nat → Prop} (h : k i.toNat) (hi : 0 ≤ i := by omega) : ∃ m : Nat, i = (m : Int) ∧ k m := ix_to hi h
theorem sOb (h : a) (hp : p := by (first | omega | exact rfl | exact decide_eq_true (by omega) | exact decide_eq_false (by omega) | exact beq2 (by first | omega | exact rfl) (by first | omega | exact rfl) | exact beq3 (by first | omega | exact rfl) (by first | omega | exact rfl) (by first | omega | exact rfl) | exact beq3r (by first | omega | exact rfl) (by first | omega | exact rfl) (by first | omega | exact rfl) | exact beqS (by first | omega | exact rfl) (by first | omega | exact rfl) rfl | ((repeat' apply And.intro) <;> first | exact rfl | omega | exact List.Mem.head _ | exact List.Mem.tail _ (List.Mem.head _) | (simp only [List.length_append, List.length_cons, List.length_nil, List.length_drop, List.length_take, List.length_map] <;> omega)) | (with_reducible (show drawOK _ _ = true)); kernel_rfl | (with_reducible (show fitsB _ _ _ _ _ = true)); kernel_rfl)) : p ∧ a := ⟨hp, h⟩
theorem sRw (h : a) (hp : p := by (first | assumption | exact rp_none rfl | (refine rp_of (by assumption) ?_; (repeat (first | exact EqG.row | refine EqG.push ?_ rfl (by first | exact rfl | omega | (simp only [List.length_append, List.length_cons, List.length_nil, List.length_drop, List.length_take, List.length_map] <;> omega)) (by first | exact rfl | omega | (simp only [List.length_append, List.length_cons, List.length_nil, List.length_drop, List.length_take, List.length_map] <;> omega)) | exact EqG.one rfl (by first | exact rfl | omega | (simp only [List.length_append, List.length_cons, List.length_nil, List.length_drop, List.length_take, List.length_map] <;> omega)) | refine EqG.app ?_ ?_ (by first | exact rfl | omega | (simp only [List.length_append, List.length_cons, List.length_nil, List.length_drop, List.length_take, List.length_map] <;> omega)) (by first | exact rfl | omega | (simp only [List.length_append, List.length_cons, List.length_nil, List.length_drop, List.length_take, List.length_map] <;> omega)) | refine EqG.off0 ?_ (by first | exact rfl | omega | (simp only [List.length_append, List.length_cons, List.length_nil, List.length_drop, List.length_take, List.length_map] <;> omega)) | refine EqG.off ?_ (by first | exact rfl | omega | (simp only [List.length_append, List.length_cons, List.length_nil, List.length_drop, List.length_take, List.length_map] <;> omega)) (by first | exact rfl | omega | (simp only [List.length_append, List.length_cons, List.length_nil, List.length_drop, List.length_take, List.length_map] <;> omega)))); done) | (refine rp_of0 (by assumption) rfl ?_; (repeat (first | exact EqG.row | refine EqG.push ?_ rfl (by first | exact rfl | omega | (simp only [List.length_append, List.length_cons, List.length_nil, List.length_drop, List.length_take, List.length_map] <;> omega)) (by first | exact rfl | omega | (simp only [List.length_append, List.length_cons, List.length_nil, List.length_drop, List.length_take, List.length_map] <;> omega)) | exact EqG.one rfl (by first | exact rfl | omega | (simp only [List.length_append, List.length_cons, List.length_nil, List.length_drop, List.length_take, List.length_map] <;> omega)) | refine EqG.app ?_ ?_ (by first | exact rfl | omega | (simp only [List.length_append, List.length_cons, List.length_nil, List.length_drop, List.length_take, List.length_map] <;> omega)) (by first | exact rfl | omega | (simp only [List.length_append, List.length_cons, List.length_nil, List.length_drop, List.length_take, List.length_map] <;> omega)) | refine EqG.off0 ?_ (by first | exact rfl | omega | (simp only [List.length_append, List.length_cons, List.length_nil, List.length_drop, List.length_take, List.length_map] <;> omega)) | refine EqG.off ?_ (by first | exact rfl | omega | (simp only [List.length_append, List.length_cons, List.length_nil, List.length_drop, List.length_take, List.length_map] <;> omega)) (by first | exact rfl | omega | (simp only [List.length_append, List.length_cons, List.length_nil, List.length_drop, List.length_take, List.length_map] <;> omega)))); done) | exact fun _ _ => rowG_pure (by assumption) _ _ _ _ | exact islR_pure (by assumption) _ _ _)) : p ∧ a := ⟨hp, h⟩
theorem sOpt {α : Type} {o : Option α} {c : α} {k : α → Prop} (h : k c) (ho : o = some c := by rfl) : ∃ a, o = some a ∧ k a := ⟨c, ho, h⟩
end
end Go.Ab
