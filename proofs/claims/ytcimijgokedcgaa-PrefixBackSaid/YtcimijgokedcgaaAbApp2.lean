/- append, and the theorem of what writes. Own work. -/
import Derived.Test.YtcimijgokedcgaaAbApp
set_option linter.unusedVariables false
set_option linter.unusedSimpArgs false
set_option linter.unusedSectionVars false
namespace Go.Ab
open Go Go.RowKit
section
variable {R : Type} [Alg R] {P : Program} {E : Env}

theorem cut_ge (need old : Nat) (el : TypeId) (t : Nat) : need ≤ (Question.appendCap need old el).cut t := by
  simp only [Question.cut]
  omega

theorem Src.heap {x : Value} {sz n : Nat} {c : Cfg} {new : Array Value} {xd : TypeDesc} {z : Value} (h : ∀ w : World, w.heap = c.w.heap → Src P x sz n w new xd z) : Src P x sz n c.w new xd z ∧ Src P x sz n { c.w with drawn := c.w.drawn + 1 } new xd z :=
  ⟨h _ rfl, h _ rfl⟩

/-- the cells of a grown buffer -/
theorem grown_cells {c : Cfg} {f g : Nat → Nat → V} {old new rest : Array Value} {l n sz : Nat} (ho : old.size = l * sz) (hn : new.size = n * sz)
    (h1 : ∀ i j, i < l → j < sz → VR c (f i j) (old.getD (i * sz + j) undef)) (h2 : ∀ i j, i < n → j < sz → VR c (g i j) (new.getD (i * sz + j) undef)) :
    ∀ i j, i < l + n → j < sz → VR c (if i < l then f i j else g (i - l) j) ((old ++ new ++ rest).getD (0 + i * sz + j) undef) := by
  intro i j hi hj
  rw [Nat.zero_add]
  by_cases hl : i < l
  · have hlt : i * sz + j < l * sz := by
      have : (i + 1) * sz ≤ l * sz := Nat.mul_le_mul_right _ (by omega)
      rw [Nat.add_mul] at this; omega
    have := h1 i j hl hj
    rw [if_pos hl]
    simp only [Array.getD_eq_getD_getElem?] at this ⊢
    rw [Array.append_assoc, Array.getElem?_append_left (by omega)]
    exact this
  · have hlt : (i - l) * sz + j < n * sz := by
      have : ((i - l) + 1) * sz ≤ n * sz := Nat.mul_le_mul_right _ (by omega)
      rw [Nat.add_mul] at this; omega
    have hge : l * sz ≤ i * sz := Nat.mul_le_mul_right _ (by omega)
    have := h2 (i - l) j (by omega) hj
    rw [if_neg hl]
    simp only [Array.getD_eq_getD_getElem?] at this ⊢
    rw [Array.getElem?_append_left (by simp; rw [Nat.sub_mul] at hlt; omega), Array.getElem?_append_right (by omega)]
    rw [Nat.sub_mul] at this
    rw [ho, show i * sz + j - l * sz = i * sz - l * sz + j by omega]
    exact this

theorem blt_if {α : Type} (i l : Nat) (a b : α) : (match Nat.blt i l with | true => a | false => b) = if i < l then a else b := by
  cases h : Nat.blt i l with
  | true => have : i < l := Nat.le_of_ble_eq_true h; rw [if_pos this]
  | false =>
    have : ¬ i < l := fun hl => by
      have h2 : Nat.blt i l = true := Nat.ble_eq_true_of_le hl
      rw [h2] at h; cases h
    rw [if_neg this]

theorem zeroCells_size (z : Array Value) (n : Nat) : (Builtin.zeroCells z n).size = n * z.size := by simp [Builtin.zeroCells]

theorem grown_or {c : Cfg} {f g get : Nat → Nat → V} {old new zc : Array Value} {l n m sz nc B : Nat} {el : TypeId} (ho : old.size = l * sz) (hn : new.size = n * sz) (hz : zc.size = sz) (hm : m = l + n) (hge : m ≤ nc)
    (hb : c.w.heap[B]? = some (.cells (old ++ new ++ Builtin.zeroCells zc (nc - m)) el (0, 0)))
    (h1 : ∀ i j, i < l → j < sz → VR c (f i j) (old.getD (i * sz + j) undef)) (h2 : ∀ i j, i < n → j < sz → VR c (g i j) (new.getD (i * sz + j) undef))
    (hget : ∀ i j, i < m → get i j = if i < l then f i j else g (i - l) j) : OR c (.buf m sz get) (.buf B 0 m nc sz) := by
  refine .buf hge fun _ => ⟨_, el, hb, ?_, fun i j hi hj => ?_⟩
  · have e1 : (nc - m) * sz + m * sz = nc * sz := by rw [← Nat.add_mul]; congr 1; omega
    have e2 : m * sz = l * sz + n * sz := by rw [hm, Nat.add_mul]
    simp only [Array.size_append, zeroCells_size, hz, ho, hn]
    omega
  · rw [hget i j hi]
    exact grown_cells ho hn h1 h2 i j (by omega) hj

/-- what 'appK' yields -/
def AppTo (P : Program) (st xt : TypeId) (xi et : TI) (z : Value) (n : Nat) (src : Nat → Nat → V) (s : V) (h : Heap) (v : V) (h' : Heap) : Prop :=
  ∀ (c : Cfg) (sv xv : Value) (new : Array Value) (ty : TypeId), HRel h c → VR c s sv → new.size = n * et.size → (∀ i j, i < n → j < et.size → VR c (src i j) (new.getD (i * et.size + j) undef)) →
    (∀ w : World, w.heap = c.w.heap → Src P xv et.size n w new xi.d z) → (∀ k, xi.d = .int k → n * et.bytes ≤ 2 ^ 46) →
    ∃ v' c', (Builtin.append_ #[st, xt] ty #[sv, xv]).run P c.w = .ok v' c'.w ∧ Ext c c' ∧ HRel h' c' ∧ VR c' v v'

/-- rows that are written into a buffer -/
theorem put_cells {c : Cfg} {g src get : Nat → Nat → V} {arr new : Array Value} {base s0 n sz cap ext ext' : Nat} (ha : base + cap * sz ≤ arr.size) (hn : new.size = n * sz) (hs : s0 + n ≤ cap) (hec : ext' ≤ cap)
    (h1 : ∀ i j, i < ext → j < sz → VR c (g i j) (arr.getD (base + i * sz + j) undef)) (h2 : ∀ i j, i < n → j < sz → VR c (src i j) (new.getD (i * sz + j) undef))
    (hget : ∀ i j, i < ext' → (s0 ≤ i ∧ i < s0 + n → get i j = src (i - s0) j) ∧ (¬ (s0 ≤ i ∧ i < s0 + n) → i < ext ∧ get i j = g i j)) :
    ∀ i j, i < ext' → j < sz → VR c (get i j) ((arr.toList.take (base + s0 * sz) ++ new.toList ++ arr.toList.drop (base + s0 * sz + new.toList.length)).toArray.getD (base + i * sz + j) undef) := by
  intro i j hi hj
  have hmul : (s0 + n) * sz ≤ cap * sz := Nat.mul_le_mul_right _ hs
  rw [Nat.add_mul] at hmul
  have hmi : (i + 1) * sz ≤ cap * sz := Nat.mul_le_mul_right _ (by omega)
  rw [Nat.add_mul] at hmi
  by_cases hin : s0 ≤ i ∧ i < s0 + n
  · rw [(hget i j hi).1 hin]
    have hlt : (i - s0) * sz + j < n * sz := by
      have : ((i - s0) + 1) * sz ≤ n * sz := Nat.mul_le_mul_right _ (by omega)
      rw [Nat.add_mul] at this; omega
    have hge : s0 * sz ≤ i * sz := Nat.mul_le_mul_right _ hin.1
    have := h2 (i - s0) j (by omega) hj
    rw [Nat.sub_mul] at this hlt
    have e : ((arr.toList.take (base + s0 * sz) ++ new.toList ++ arr.toList.drop (base + s0 * sz + new.toList.length)).toArray).getD (base + i * sz + j) undef = new.getD (i * sz - s0 * sz + j) undef := by
      simp only [Array.getD_eq_getD_getElem?, List.getElem?_toArray]
      rw [List.append_assoc, List.getElem?_append_right (by simp; omega), List.getElem?_append_left (by simp; omega)]
      simp only [List.length_take, Array.length_toList, Array.getElem?_toList]
      congr 2
      omega
    rw [e]; exact this
  · obtain ⟨hie, hg⟩ := (hget i j hi).2 hin
    rw [hg]
    have hout : base + i * sz + j < base + s0 * sz ∨ base + s0 * sz + n * sz ≤ base + i * sz + j := by
      rcases Nat.lt_or_ge i s0 with hlt | hge
      · have : (i + 1) * sz ≤ s0 * sz := Nat.mul_le_mul_right _ hlt
        rw [Nat.add_mul] at this; omega
      · have : (s0 + n) * sz ≤ i * sz := Nat.mul_le_mul_right _ (by omega)
        rw [Nat.add_mul] at this; omega
    have := h1 i j hie hj
    have e : ((arr.toList.take (base + s0 * sz) ++ new.toList ++ arr.toList.drop (base + s0 * sz + new.toList.length)).toArray).getD (base + i * sz + j) undef = arr.getD (base + i * sz + j) undef := by
      simp only [Array.getD_eq_getD_getElem?, List.getElem?_toArray]
      rcases hout with ho | ho
      · rw [List.append_assoc, List.getElem?_append_left (by simp; omega)]
        simp [List.getElem?_take, ho]
      · rw [List.append_assoc, List.getElem?_append_right (by simp; omega), List.getElem?_append_right (by simp; omega), List.getElem?_drop]
        simp only [List.length_take, Array.length_toList, Array.getElem?_toList]
        congr 2
        omega
    rw [e]; exact this

theorem rows_one {c : Cfg} {src : Nat → Nat → V} {n sz : Nat} {new : Array Value} (hn : new.size = n * sz) (hc : ∀ i j, i < n → j < sz → cellV (src i j) = true)
    (h : ∀ i j, i < n → j < sz → VR c (src i j) (new.getD (i * sz + j) undef)) : ∀ v ∈ new.toList, v.oneCell' = true := by
  intro v hv
  obtain ⟨t, ht, rfl⟩ := List.getElem_of_mem hv
  have ht' : t < n * sz := by simpa [hn] using ht
  have hsz : 0 < sz := Nat.pos_of_mul_pos_left (Nat.lt_of_le_of_lt (Nat.zero_le _) ht')
  have hi : t / sz < n := (Nat.div_lt_iff_lt_mul hsz).2 ht'
  have hj : t % sz < sz := Nat.mod_lt _ hsz
  have := h (t / sz) (t % sz) hi hj
  have e : t / sz * sz + t % sz = t := by rw [Nat.mul_comm]; exact Nat.div_add_mod t sz
  rw [e] at this
  have h2 : t < new.size := by omega
  have e2 : new.getD t undef = new.toList[t] := by simp [Array.getD, h2]
  rw [e2] at this
  exact cellV_one this (hc _ _ hi hj)

/-- n elements are written into a buffer, in place -/
theorem in_place {h : Heap} {c : Cfg} (H : HRel h c) {id : Nat} (hid : id < 65536) {b base ext cp sz : Nat} {g src get : Nat → Nat → V} (hp : c.pl id = some (.buf b base ext cp sz))
    (ho : h.get id = some (.buf ext sz g)) {s0 n ext' : Nat} {new : Array Value} (hn : new.size = n * sz) (hs : s0 + n ≤ cp) (hec : ext' ≤ cp) (hee : ext ≤ ext') (h0 : ext' = ext ∨ 0 < n) (hsz : 0 < sz)
    (hc : ∀ i j, i < n → j < sz → cellV (src i j) = true) (h2 : ∀ i j, i < n → j < sz → VR c (src i j) (new.getD (i * sz + j) undef))
    (hget : ∀ i j, i < ext' → (s0 ≤ i ∧ i < s0 + n → get i j = src (i - s0) j) ∧ (¬ (s0 ≤ i ∧ i < s0 + n) → i < ext ∧ get i j = g i j))
    {a : Option Addr} (ha : 0 < n → a = some ⟨b, base + s0 * sz, none⟩) :
    ∃ c', ((match a with | some a => storeCells a new.toList | none => pure ()) : Sem Unit).run P c.w = .ok () c'.w ∧ Ext c c' ∧ HRel (h.setOb id (.buf ext' sz get)) c' ∧ c'.pl id = some (.buf b base ext' cp sz) := by
  obtain ⟨o', g1, g2⟩ := H.there id _ hp
  rw [ho] at g1
  cases g1
  cases g2 with
  | buf g3 g4 =>
    by_cases hn0 : n = 0
    · subst hn0
      have he : ext' = ext := h0.resolve_right (by omega)
      subst he
      have hnew : new = #[] := Array.size_eq_zero_iff.1 (by simpa using hn)
      subst hnew
      obtain ⟨c', e1, e2, e3, e4⟩ := ob_gen (h' := h.setOb id (.buf ext' sz get)) H (id := id) (p' := .buf b base ext' cp sz) (ob' := .buf ext' sz get) (fun p hp' => by rw [hp] at hp'; cases hp'; exact Pl.le_refl _) hid
        (w := c.w) (Nat.le_refl _) (fun _ _ => rfl) (fun b hb => ⟨H.lt b ⟨id, _, hp, hb⟩, .inl ⟨_, hp, hb⟩⟩) rfl rfl rfl (Heap.get_set_self _ _ _ _) (fun i hi hne => setOb_get_ne hid hi hne) (Nat.le_refl _) (H.nx _ _ hp).1
        (fun c' he' _ hw => .buf g3 fun h0 => by
          obtain ⟨arr, el, r1, r2, r3⟩ := g4 h0
          exact ⟨arr, el, by rw [hw]; exact r1, r2, fun i j hi hj => by
            obtain ⟨_, e⟩ := (hget i j hi).2 (by omega)
            rw [e]
            exact (r3 i j hi hj).mono H.ok he'⟩)
      refine ⟨c', ?_, e2, e3, e4⟩
      rw [e1]
      cases a with
      | none => rfl
      | some a => simp [storeCells]
    · have hn1 : 0 < n := by omega
      have hcs : 0 < cp * sz := Nat.mul_pos (by omega) hsz
      obtain ⟨arr, el, r1, r2, r3⟩ := g4 hcs
      have ha' := ha hn1
      subst ha'
      have hmul : (s0 + n) * sz ≤ cp * sz := Nat.mul_le_mul_right _ hs
      rw [Nat.add_mul] at hmul
      have hrun := run_storeCells_at P b (base + s0 * sz) el new.toList 0 arr c.w r1 (by simp; omega) (rows_one hn hc h2)
      simp only [Nat.add_zero] at hrun
      obtain ⟨c', e1, e2, e3, e4⟩ := ob_write (h' := h.setOb id (.buf ext' sz get)) H hp (p' := .buf b base ext' cp sz) ⟨b, base, ext', cp, sz, rfl, hee, fun _ => ⟨rfl, rfl, rfl, rfl⟩⟩ (b := b) ⟨hcs, rfl⟩ (fun x hx => hx.2.symm)
        (w := c.w.setRow b (arr.toList.take (base + s0 * sz) ++ new.toList ++ arr.toList.drop (base + s0 * sz + new.toList.length)).toArray) (by simp) (fun x hx => setRow_other _ _ _ _ hx) rfl rfl rfl (Heap.get_set_self _ _ _ _)
        (fun i hi hne => setOb_get_ne hid hi hne) (Nat.le_refl _) (fun c' he hpl hw => by
          refine .buf hec fun _ => ⟨_, el, by rw [hw]; exact setRow_heap _ _ _ _ _ _ r1, by simp; omega, ?_⟩
          exact put_cells r2 hn hs hec (fun i j hi hj => (r3 i j hi hj).mono H.ok he) (fun i j hi hj => (h2 i j hi hj).mono H.ok he) hget)
      exact ⟨c', by rw [e1]; exact hrun, e2, e3, e4⟩

theorem appK_sound {st xt el : TypeId} {si xi et : TI} (hs : TyOK P st si) (hx : TyOK P xt xi) (he : TyOK P el et) (hd : si.d = .slice el) {z : Value} (hz : (P.info? el).bind (·.zero) = some z) (h1 : 1 ≤ et.size)
    {h : Heap} {s : V} {n : Nat} {src : Nat → Nat → V} {k : V → Heap → R} (hk : Alg.holds (appK et h s n src k)) :
    ∃ v h', Alg.holds (k v h') ∧ h.nx ≤ h'.nx ∧ AppTo P st xt xi et z n src s h v h' := by
  unfold appK at hk
  rw [tiF_eq] at hk
  obtain ⟨hall, hk⟩ := (Alg.holds_ob _ _).1 hk
  have hcv := allOK_spec hall
  have hzs : z.cells.size = et.size := by
    obtain ⟨inf, z', hi1, hi2, hi3, hi4, hi5, hi6, hi7⟩ := he.info
    have hz' : z' = z := by simp [hi1, hi4] at hz; exact hz
    rw [← hz', ← hi7, (hi5 ⟨fun _ => none, default, fun _ => False⟩).1]
  split at hk <;> try exact no_fail hk
  · -- a nil slice
    obtain ⟨hb, hk⟩ := (Alg.holds_ob _ _).1 hk
    obtain ⟨hk, hid⟩ := newOb_eq hk
    refine ⟨_, _, hk, by simp, fun c sv xv new ty hh hsv hsz hrow hsrc hint => ?_⟩
    rw [hsv.lit_inv]
    obtain ⟨hs1, hs2⟩ := Src.heap hsrc
    have hold : ¬ 0 + n ≤ 0 → (Builtin.firstCells et.size 0 (.slice none 0 0)).run P { c.w with drawn := c.w.drawn + 1 } = .ok #[] { c.w with drawn := c.w.drawn + 1 } := fun _ => rfl
    have hrun := append_run (ty := ty) hs hx he hd hz (base := none) (sLen := 0) (sCap := 0) hs1 hint (fun _ => by simpa using hb) hold (fun _ => hs2)
    have hpn := hh.fresh0 hid
    by_cases h0 : n = 0
    · subst h0
      simp only [Nat.add_zero, Nat.le_refl, if_true] at hrun
      obtain ⟨c', e1, e2, e3, e4⟩ := ob_gen (h' := ⟨h.ob.set (bits 16 h.nx) (.buf 0 et.size src), h.nx + 1⟩) hh (id := h.nx) (p' := .buf 0 0 0 0 et.size) (ob' := .buf 0 et.size src) (fun p hp => by rw [hpn] at hp; cases hp) hid
        (w := c.w) (Nat.le_refl _) (fun _ _ => rfl) (fun b hb => by simp [Pl.owns] at hb) rfl rfl rfl (Heap.get_set_self _ _ _ _) (fun i hi hne => Heap.get_set_ne h _ i _ _ hid hi hne) (by simp) (by simp)
        (fun c' _ _ _ => .buf (Nat.le_refl _) fun h0 => by simp at h0)
      exact ⟨_, c', by rw [e1]; exact hrun, e2, e3, .bv e4 (Nat.le_refl _) (Nat.le_refl _) (Nat.le_refl _) (fun cc hcc => by cases hcc) (fun h => by omega) (fun _ => ⟨rfl, by omega, fun _ => rfl, fun h => by simp at h⟩)⟩
    · rw [if_neg (by omega)] at hrun
      simp only [Nat.zero_add] at hrun
      have hge := cut_ge n 0 el (c.w.tape c.w.drawn (.appendCap n 0 el))
      generalize hnc : (Question.appendCap n 0 el).cut (c.w.tape c.w.drawn (.appendCap n 0 el)) = nc at hrun hge
      obtain ⟨c', e1, e2, e3, e4⟩ := ob_gen (h' := ⟨h.ob.set (bits 16 h.nx) (.buf n et.size src), h.nx + 1⟩) hh (id := h.nx) (p' := .buf c.w.heap.size 0 n nc et.size) (ob' := .buf n et.size src) (fun p hp => by rw [hpn] at hp; cases hp) hid
        (w := { c.w with drawn := c.w.drawn + 1, heap := c.w.heap.push (.cells (#[] ++ new ++ Builtin.zeroCells z.cells (nc - n)) el) }) (by simp) (fun b hb => by simp [Array.getElem?_push, Nat.ne_of_lt hb]) (fun b hb => ⟨by have := hb.2; simp; omega, .inr (by have := hb.2; omega)⟩) rfl rfl rfl (Heap.get_set_self _ _ _ _) (fun i hi hne => Heap.get_set_ne h _ i _ _ hid hi hne) (by simp) (by simp)
        (fun c' he' _ hw => grown_or (f := fun _ _ => .junk) (g := src) (old := #[]) (new := new) (zc := z.cells) (l := 0) (n := n) (el := el) (by simp) hsz hzs (by omega) hge (by rw [hw]; simp) (fun i j hi => by omega) (fun i j hi hj => (hrow i j hi hj).mono hh.ok he') (fun i j hi => by simp))
      refine ⟨_, c', by rw [e1]; exact hrun, e2, e3, .bv e4 (Nat.le_refl _) (by omega) (by omega) (fun cc hcc => by cases hcc) (fun h => ⟨_, rfl, rfl⟩) (fun _ => ⟨rfl, by omega, fun _ => by omega, fun h => by simp⟩)⟩
  · -- the end of a buffer, or its middle
    rename_i id ext sz lo len _
    obtain ⟨ob, ho, hk2⟩ := holds_optK hk
    clear hk
    split at hk2 <;> try exact no_fail hk2
    rename_i ext' sz' g
    have hq9 := (Alg.holds_ob _ _).1 hk2
    clear hk2
    obtain ⟨hb, hk2⟩ := hq9
    simp only [Bool.and_eq_true, Nat.beq_eq] at hb
    obtain ⟨⟨rfl, rfl⟩, rfl⟩ := hb
    have hq9 := brK_holds hk2
    clear hk2
    rcases hq9 with ⟨hl, hk2⟩ | ⟨hl, hk2⟩
    · have hl := Nat.eq_of_beq_eq_true hl
      subst hl
      obtain ⟨hb, hk3⟩ := (Alg.holds_ob _ _).1 hk2
      clear hk2
      obtain ⟨rfl, hb⟩ := hb
      obtain ⟨hk4, hid⟩ := setOb_eq hk3
      refine ⟨_, _, hk4, Nat.le_refl _, fun c sv xv new ty hh hsv hsz hrow hsrc hint => ?_⟩
      obtain ⟨_, _, _, old, o1, o2, o3⟩ := bv_cells (P := P) hh ho hsv
      obtain ⟨a, cap', b, base, ext', cp, sz', p1, p2, p3, p4, p5, p6, p7, e⟩ := hsv.bv_inv
      obtain ⟨o', g1, g2⟩ := hh.there id _ p1
      rw [ho] at g1
      cases g1
      obtain ⟨rfl, rfl⟩ : len = ext' ∧ sz' = et.size := by cases g2; exact ⟨rfl, rfl⟩
      obtain ⟨_, q1, q2, q3⟩ := p7 rfl
      have q2 := q2 rfl
      simp only [Nat.zero_add, Nat.zero_mul, Nat.add_zero] at q2 q3 o2
      subst q2
      obtain ⟨hs1, hs2⟩ := Src.heap hsrc
      have hrun := append_run (ty := ty) hs hx he hd hz (base := a) (sLen := len) (sCap := cap') hs1 hint (fun _ => hb) (fun _ => by rw [← e]; exact o3 _ rfl) (fun _ => hs2)
      rw [e]
      by_cases hfit : len + n ≤ cap'
      · rw [if_pos hfit] at hrun
        obtain ⟨c', r1, r2, r3, r4⟩ := in_place (P := P) hh hid (src := src) (get := fun i j => match Nat.blt i len with | true => g i j | false => src (i - len) j) p1 ho (s0 := len) (n := n) (ext' := len + n) hsz hfit hfit (by omega) (by omega) (by omega) hcv hrow
          (fun i j hi => ⟨fun hin => by rw [blt_if, if_neg (by omega)], fun hin => ⟨by omega, by rw [blt_if, if_pos (by omega)]⟩⟩) (a := a.map (·.add (len * et.size))) (fun hn => by
            rw [q3 (Nat.mul_pos (by omega) (by omega))]
            simp [add_off])
        refine ⟨.slice a (len + n) cap', c', ?_, r2, r3, .bv r4 (Nat.le_refl _) (by omega) hfit (fun cc hcc => by cases hcc) p6 (fun _ => ⟨rfl, by omega, fun _ => by omega, fun h => by simpa using q3 h⟩)⟩
        rw [hrun]
        cases a with
        | none => simp only [Option.map_none, Sem.run_pure, Result.ok.injEq, true_and] at r1; exact congrArg (Result.ok (Value.slice none (len + n) cap')) r1
        | some a => simp only [Option.map_some] at r1; exact congrArg (fun r => Result.andThen r fun _ w' => .ok (Value.slice (some a) (len + n) cap') w') r1
      · rw [if_neg hfit] at hrun
        have hge := cut_ge (len + n) cap' el (c.w.tape c.w.drawn (.appendCap (len + n) cap' el))
        generalize hnc : (Question.appendCap (len + n) cap' el).cut (c.w.tape c.w.drawn (.appendCap (len + n) cap' el)) = nc at hrun hge
        obtain ⟨c', e1, e2, e3, e4⟩ := ob_gen (h' := h.setOb id (.buf (len + n) et.size fun i j => match Nat.blt i len with | true => g i j | false => src (i - len) j)) hh (id := id) (p' := .buf c.w.heap.size 0 (len + n) nc et.size) (ob' := .buf (len + n) et.size fun i j => match Nat.blt i len with | true => g i j | false => src (i - len) j)
          (fun p hp => by rw [p1] at hp; cases hp; exact ⟨_, _, _, _, _, rfl, by omega, fun h => by omega⟩) hid
          (w := { c.w with drawn := c.w.drawn + 1, heap := c.w.heap.push (.cells (old ++ new ++ Builtin.zeroCells z.cells (nc - (len + n))) el) }) (by simp) (fun b hb => by simp [Array.getElem?_push, Nat.ne_of_lt hb]) (fun b hb => ⟨by have := hb.2; simp; omega, .inr (by have := hb.2; omega)⟩) rfl rfl rfl (Heap.get_set_self _ _ _ _) (fun i hi hne => setOb_get_ne hid hi hne) (Nat.le_refl _) (hh.nx _ _ p1).1
          (fun c' he' _ hw => grown_or (f := g) (g := src) (old := old) (new := new) (zc := z.cells) (l := len) (n := n) (el := el) o1 hsz hzs rfl hge (by rw [hw]; simp) (fun i j hi hj => (o2 i j hi hj).mono hh.ok he') (fun i j hi hj => (hrow i j hi hj).mono hh.ok he') (fun i j hi => blt_if _ _ _ _))
        exact ⟨_, c', by rw [e1]; exact hrun, e2, e3, .bv e4 (Nat.le_refl _) (by omega) (by omega) (fun cc hcc => by cases hcc) (fun h => ⟨_, rfl, rfl⟩) (fun _ => ⟨rfl, by omega, fun _ => by omega, fun h => by simp⟩)⟩
    · obtain ⟨hb, hk3⟩ := (Alg.holds_ob _ _).1 hk2
      clear hk2
      obtain ⟨hk4, hid⟩ := setOb_eq hk3
      refine ⟨_, _, hk4, Nat.le_refl _, fun c sv xv new ty hh hsv hsz hrow hsrc hint => ?_⟩
      obtain ⟨a, cap', b, base, ext', cp, sz', p1, p2, p3, p4, p5, p6, p7, e⟩ := hsv.bv_inv
      obtain ⟨o', g1, g2⟩ := hh.there id _ p1
      rw [ho] at g1
      cases g1
      obtain ⟨he1, he2⟩ : ext = ext' ∧ sz' = et.size := by cases g2; exact ⟨rfl, rfl⟩
      subst he1 he2
      obtain ⟨_, q1, q2, q3⟩ := p7 rfl
      have q2 := q2 rfl
      have hec : ext ≤ cp := by cases g2 with | buf g3 _ => exact g3
      obtain ⟨hs1, hs2⟩ := Src.heap hsrc
      have hfit : len + n ≤ cap' := by omega
      have hrun := append_run (ty := ty) hs hx he hd hz (base := a) (sLen := len) (sCap := cap') hs1 hint (fun h => absurd hfit h) (old := #[]) (fun h => absurd hfit h) (fun h => absurd hfit h)
      rw [e]
      rw [if_pos hfit] at hrun
      obtain ⟨c', r1, r2, r3, r4⟩ := in_place (P := P) hh hid (src := src) (get := fun i j => match Nat.ble (lo + len) i && Nat.blt i (lo + len + n) with | true => src (i - (lo + len)) j | false => g i j) p1 ho (s0 := lo + len) (n := n) (ext' := ext) hsz (by omega) hec (Nat.le_refl _) (.inl rfl) (by omega) hcv hrow
        (fun i j hi => ⟨fun hin => by
          have h1 : Nat.ble (lo + len) i = true := Nat.ble_eq_true_of_le hin.1
          have h2 : Nat.blt i (lo + len + n) = true := Nat.ble_eq_true_of_le hin.2
          simp [h1, h2], fun hin => ⟨hi, by
          have h3 : (Nat.ble (lo + len) i && Nat.blt i (lo + len + n)) = false := by
            rw [Bool.eq_false_iff]
            intro h4
            rw [Bool.and_eq_true] at h4
            exact hin ⟨Nat.le_of_ble_eq_true h4.1, Nat.le_of_ble_eq_true h4.2⟩
          simp [h3]⟩⟩) (a := a.map (·.add (len * et.size))) (fun hn => by
          rw [q3 (Nat.mul_pos (by omega) (by omega))]
          simp [add_off, Nat.add_mul, Nat.add_assoc])
      refine ⟨.slice a (len + n) cap', c', ?_, r2, r3, .bv r4 (Nat.le_refl _) (by omega) hfit (fun cc hcc => by cases hcc) p6 (fun _ => ⟨rfl, by omega, fun _ => by omega, q3⟩)⟩
      rw [hrun]
      cases a with
      | none => simp only [Option.map_none, Sem.run_pure, Result.ok.injEq, true_and] at r1; exact congrArg (Result.ok (Value.slice none (len + n) cap')) r1
      | some a => simp only [Option.map_some] at r1; exact congrArg (fun r => Result.andThen r fun _ w' => .ok (Value.slice (some a) (len + n) cap') w') r1
  · -- a slice whose room ends
    rename_i id ext sz lo len cc _
    obtain ⟨ob, ho, hk2⟩ := holds_optK hk
    clear hk
    split at hk2 <;> try exact no_fail hk2
    rename_i ext' sz' g
    have hq9 := (Alg.holds_ob _ _).1 hk2
    clear hk2
    obtain ⟨hb, hk2⟩ := hq9
    simp only [Bool.and_eq_true, Nat.beq_eq] at hb
    obtain ⟨⟨rfl, rfl⟩, rfl⟩ := hb
    obtain ⟨hb, hk3⟩ := (Alg.holds_ob _ _).1 hk2
    clear hk2
    replace hk3 := offK_sound hk3
    obtain ⟨hk4, hid⟩ := newOb_eq hk3
    refine ⟨_, _, hk4, by simp, fun c sv xv new ty hh hsv hsz hrow hsrc hint => ?_⟩
    obtain ⟨_, _, _, old, o1, o2, o3⟩ := bv_cells (P := P) hh ho hsv
    obtain ⟨a, cap', b, base, ext', cp, sz', p1, p2, p3, p4, p5, p6, p7, e⟩ := hsv.bv_inv
    have hcap := p5 cc rfl
    subst cc
    obtain ⟨hs1, hs2⟩ := Src.heap hsrc
    have hfit : ¬ len + n ≤ cap' := by omega
    have hrun := append_run (ty := ty) hs hx he hd hz (base := a) (sLen := len) (sCap := cap') hs1 hint (fun _ => hb.2) (fun _ => by rw [← e]; exact o3 _ rfl) (fun _ => hs2)
    rw [e]
    rw [if_neg hfit] at hrun
    have hge := cut_ge (len + n) cap' el (c.w.tape c.w.drawn (.appendCap (len + n) cap' el))
    generalize hnc : (Question.appendCap (len + n) cap' el).cut (c.w.tape c.w.drawn (.appendCap (len + n) cap' el)) = nc at hrun hge
    have hpn := hh.fresh0 hid
    obtain ⟨c', e1, e2, e3, e4⟩ := ob_gen (h' := ⟨h.ob.set (bits 16 h.nx) (.buf (len + n) et.size fun i j => match Nat.blt i len with | true => g (lo + i) j | false => src (i - len) j), h.nx + 1⟩) hh (id := h.nx) (p' := .buf c.w.heap.size 0 (len + n) nc et.size) (ob' := .buf (len + n) et.size fun i j => match Nat.blt i len with | true => g (lo + i) j | false => src (i - len) j)
      (fun p hp => by rw [hpn] at hp; cases hp) hid
      (w := { c.w with drawn := c.w.drawn + 1, heap := c.w.heap.push (.cells (old ++ new ++ Builtin.zeroCells z.cells (nc - (len + n))) el) }) (by simp) (fun b hb => by simp [Array.getElem?_push, Nat.ne_of_lt hb]) (fun b hb => ⟨by have := hb.2; simp; omega, .inr (by have := hb.2; omega)⟩) rfl rfl rfl (Heap.get_set_self _ _ _ _) (fun i hi hne => Heap.get_set_ne h _ i _ _ hid hi hne) (by simp) (by simp)
      (fun c' he' _ hw => grown_or (f := fun i j => g (lo + i) j) (g := src) (old := old) (new := new) (zc := z.cells) (l := len) (n := n) (el := el) o1 hsz hzs rfl hge (by rw [hw]; simp) (fun i j hi hj => (o2 i j hi hj).mono hh.ok he') (fun i j hi hj => (hrow i j hi hj).mono hh.ok he') (fun i j hi => blt_if _ _ _ _))
    exact ⟨_, c', by rw [e1]; exact hrun, e2, e3, .bv e4 (Nat.le_refl _) (by omega) (by omega) (fun cc hcc => by cases hcc) (fun h => ⟨_, rfl, rfl⟩) (fun _ => ⟨rfl, by omega, fun _ => by omega, fun h => by simp⟩)⟩

theorem eff_sound (hE : EnvOK P E) {o : Oper} {ρ : Operand → V} {h : Heap} {k : V → Heap → R} (hk : Alg.holds (evEff E o.op ρ h k)) :
    ∃ v h', Alg.holds (k v h') ∧ OpTo P o ρ h v h' ∧ h.nx ≤ h'.nx := by
  cases hop : o.op with
  | store t a v =>
    rw [hop] at hk
    simp only [evEff] at hk
    obtain ⟨ti, hti, hk⟩ := holds_optK hk
    have ht := hE.ty t ti hti
    split at hk <;> try exact no_fail hk
    rename_i hc
    simp only [Bool.and_eq_true, Nat.beq_eq] at hc
    obtain ⟨h', hk, hn, hs⟩ := store_sound (P := P) hk
    refine ⟨_, h', hk, OpTo.of_skip fun c ac hh hρ => ?_, by omega⟩
    have hv := cells_rel (hρ v (by rw [hop]; simp [Op.operands])) hc.2
    obtain ⟨ad, c', e, hrun, e2, e3⟩ := hs c _ _ hh (hρ a (by rw [hop]; simp [Op.operands])) hv
    refine ⟨c', ?_, e2, e3⟩
    have hsz : (ac.eval v).cells.size = ti.size := by rw [← hv.1, hc.1]
    simp [execOp, hop, Instr.storeAt, e, Instr.sureAddr, storeVar, ht.size, hsz, hrun]
  | mapUpdate t m key v => rw [hop] at hk; exact upd_sound hE (.inl hop) hk
  | insert t m key v => rw [hop] at hk; exact upd_sound hE (.inr hop) hk
  | mapEntry t m key =>
    rw [hop] at hk
    simp only [evEff] at hk
    have mm : m ∈ o.op.operands ∧ key ∈ o.op.operands := by rw [hop]; simp [Op.operands]
    have hex : ∀ ρ', execOp ρ' o = (do let x ← Instr.mapEntry t (ρ' m) (ρ' key); pure (.value x)) := fun ρ' => by simp [execOp, hop]
    obtain ⟨ti, hti, hk⟩ := holds_optK hk
    have ht := hE.ty t ti hti
    split at hk <;> try exact no_fail hk
    rename_i kt et id hd hm
    obtain ⟨sg, kk, n, hk, hf, hn, hkey⟩ := keyK_sound hE hk
    obtain ⟨ob, ho, hk⟩ := holds_optK hk
    split at hk <;> try exact no_fail hk
    rename_i es clock
    obtain ⟨r, hr, hk⟩ := Alg.holds_opt _ _ hk
    have pair : ∀ (c : Cfg) (v : V) (x : Value) (n : Int), VR c v x → VR c (.tup [v, .int .i64 n]) (.tuple #[x, goInt n]) := fun c v x b h =>
      .tup rfl fun i hi => match i, hi with
        | 0, _ => h
        | 1, _ => .int _ _
    cases r with
    | some p =>
      obtain ⟨i, e⟩ := p
      obtain ⟨hk, hid⟩ := setOb_eq hk
      rw [setOb_same ho] at hk
      refine ⟨_, _, hk, OpTo.of_value fun c a hh hρ => ?_, Nat.le_refl _⟩
      have hx := hρ m mm.1
      rw [hm] at hx
      obtain ⟨b, arr, ex, hp, _, q1, q2, q3⟩ := map_ob hh ho hx
      have hK := hkey c _ (hρ key mm.2)
      obtain ⟨f1, f2⟩ := findKey_sound (P := P) hf hn hK c.w (es := es) (xs := arr.toList) (by simpa using q2) (fun j h h' => (q3 j h (by simpa using h')).1) hr
      obtain ⟨s1, s2, s3⟩ := f2 (i, e) rfl
      have hlt : i < es.length := by
        rcases Nat.lt_or_ge i es.length with h' | h'
        · exact h'
        · rw [List.getElem?_eq_none h'] at s1; cases s1
      have hlt' : i < arr.size := by omega
      rw [List.getElem?_eq_getElem hlt] at s1
      simp only [Option.some.injEq] at s1
      simp only at s2 s3
      have hq := q3 i hlt hlt'
      rw [s1] at hq
      have hold : keyV arr[i].key = some (sg, kk) := by rw [hq.1, s2, s3]
      have hsame : (arr.modify i fun e => { e with key := a.eval key }) = arr := modify_self arr i _ fun _ => keyV_inj hold hK
      refine ⟨.tuple #[arr[i].val, goInt arr[i].born], c, ?_, Ext.refl c, hh, by rw [hq.2.2]; exact pair c _ _ _ hq.2.1⟩
      have hck := fun em => checkKey_flat (P := P) (d := 9998) hf hn hK em c.w
      have hset := set_self q1
      have hgetD : arr.toList.getD i default = arr[i] := by simp [List.getD_eq_getElem?_getD, hlt']
      rw [hex]
      simp only [Instr.mapEntry, Sem.run_bind, ht.run, hd, ex, Result.andThen_ok, run_getObj_map' q1, hck, f1, Option.map_some, Array.getElem?_eq_getElem hlt', Option.getD_some, stays hold hK, run_setObj_map' _ q1, Sem.run_pure, hsame, hset, hgetD]
    | none =>
      obtain ⟨ei, hei, hk⟩ := holds_optK hk
      obtain ⟨z, hz, hk⟩ := holds_optK hk
      obtain ⟨zv, hz1, hz2⟩ := zeroV_rel (hE.ty et ei hei) hz
      obtain ⟨hk, hid⟩ := setOb_eq hk
      refine ⟨_, _, hk, OpTo.of_value fun c a hh hρ => ?_, Nat.le_refl _⟩
      have hx := hρ m mm.1
      rw [hm] at hx
      obtain ⟨b, arr, ex, hp, _, q1, q2, q3⟩ := map_ob hh ho hx
      have hK := hkey c _ (hρ key mm.2)
      obtain ⟨f1, f2⟩ := findKey_sound (P := P) hf hn hK c.w (es := es) (xs := arr.toList) (by simpa using q2) (fun j h h' => (q3 j h (by simpa using h')).1) hr
      obtain ⟨l1, l2⟩ := push_rel q2 q3 (e := ⟨sg, kk, z, clock⟩) (x := { key := a.eval key, val := zv, born := clock }) ⟨hK, hz2 c, rfl⟩
      obtain ⟨c', e1, e2, e3⟩ := map_write hh hp q1 (clock + 1) l1 l2 hid
      refine ⟨.tuple #[zv, goInt clock], c', ?_, e2, e3, pair c' _ _ _ (hz2 c')⟩
      have hck := fun em => checkKey_flat (P := P) (d := 9998) hf hn hK em c.w
      rw [hex, e1]
      simp only [Instr.mapEntry, Sem.run_bind, ht.run, hd, ex, Result.andThen_ok, run_getObj_map' q1, hck, f1, Option.map_none, hz1, run_setObj_map' _ q1, Sem.run_pure]
  | entryStore t m st v =>
    rw [hop] at hk
    simp only [evEff] at hk
    have mm : m ∈ o.op.operands ∧ st ∈ o.op.operands ∧ v ∈ o.op.operands := by rw [hop]; simp [Op.operands]
    have hex : ∀ ρ', execOp ρ' o = (do Instr.entryStore t (ρ' m) (ρ' st) (ρ' v); pure .skip) := fun ρ' => by simp [execOp, hop]
    split at hk <;> try exact no_fail hk
    rename_i id kd n hm hst
    obtain ⟨ob, ho, hk⟩ := holds_optK hk
    split at hk <;> try exact no_fail hk
    rename_i es clock
    obtain ⟨hn, hk⟩ := (Alg.holds_ob _ _).1 hk
    obtain ⟨i, hi, hk⟩ := Alg.holds_opt _ _ hk
    obtain ⟨hk, hid⟩ := setOb_eq hk
    refine ⟨_, _, hk, OpTo.of_skip fun c a hh hρ => ?_, Nat.le_refl _⟩
    have hx := hρ m mm.1
    rw [hm] at hx
    obtain ⟨b, arr, ex, hp, _, q1, q2, q3⟩ := map_ob hh ho hx
    have hs := hρ st mm.2.1
    rw [hst] at hs
    obtain ⟨m', e0, h1, h2, h3⟩ := findBorn_spec _ _ _ _ hi
    simp only [Nat.zero_add] at e0
    subst e0
    have hlt' : i < arr.size := by omega
    obtain ⟨l1, l2⟩ := set_rel q2 q3 (hρ v mm.2.2) (fun e => { e with val := a.eval v }) (i := i) (fun _ => ⟨rfl, rfl, rfl⟩)
    obtain ⟨c', e1, e2, e3⟩ := map_write hh hp q1 clock l1 l2 hid
    refine ⟨c', ?_, e2, e3⟩
    have hfind : arr.findIdx? (fun e => (e.born : Int) == n) = some i := by
      rw [Array.findIdx?_eq_some_iff_getElem]
      refine ⟨hlt', ?_, fun j hj => ?_⟩
      · have := (q3 i h1 hlt').2.2
        simp only [beq_iff_eq]
        omega
      · have hj' : j < es.length := by omega
        have := (q3 j hj' (by omega)).2.2
        have h3' := h3 j hj
        simp only [beq_iff_eq]
        omega
    have hw : IntKind.i64.wrap n = n := wrap_i64 hn.1 hn.2
    rw [hex, e1]
    simp only [Instr.entryStore, Sem.run_bind, ex, hs.int_inv, asInt, asIntOf, Result.andThen_ok, run_getObj_map' q1, Sem.run_pure, hw, hfind, run_setObj_map' _ q1]
  | call cl =>
    obtain ⟨callee, args, tys⟩ := cl
    rw [hop] at hk
    cases callee with
    | value x => simp only [evEff] at hk; exact no_fail hk
    | invoke r n => simp only [evEff] at hk; exact no_fail hk
    | builtin b =>
      cases b <;> try (simp only [evEff] at hk; exact no_fail hk)
      simp only [evEff] at hk
      split at hk <;> try exact no_fail hk
      rename_i s x st xt hargs htys
      have ha : args = #[s, x] := by rw [← Array.toArray_toList (xs := args), hargs]
      have hty : tys = #[st, xt] := by rw [← Array.toArray_toList (xs := tys), htys]
      have mem : s ∈ o.op.operands ∧ x ∈ o.op.operands := by rw [hop]; simp [Op.operands, Call.operands, ha]
      obtain ⟨si, hsi, hk⟩ := holds_optK hk
      obtain ⟨xi, hxi, hk⟩ := holds_optK hk
      have hs := hE.ty st si hsi
      have hx := hE.ty xt xi hxi
      split at hk <;> try exact no_fail hk
      rename_i el hd
      obtain ⟨et, het, hk⟩ := holds_optK hk
      have he := hE.ty el et het
      split at hk <;> try exact no_fail hk
      rename_i h1
      have h1 := Nat.le_of_ble_eq_true h1
      obtain ⟨inf, z, hi1, hi2, hi3, hi4, hi5, hi6, hi7⟩ := he.info
      have hz : (P.info? el).bind (·.zero) = some z := by simp [hi1, hi4]
      have fin : ∀ {v : V} {h' : Heap} {n : Nat} {src : Nat → Nat → V}, AppTo P st xt xi et z n src (ρ s) h v h' →
          (∀ c xv, HRel h c → VR c (ρ x) xv → ∃ new : Array Value, new.size = n * et.size ∧ (∀ i j, i < n → j < et.size → VR c (src i j) (new.getD (i * et.size + j) undef)) ∧
            ∀ w : World, w.heap = c.w.heap → Src P xv et.size n w new xi.d z) → (∀ k, xi.d = .int k → n * et.bytes ≤ 2 ^ 46) → OpTo P o ρ h v h' := by
        intro v h' n src hto hsrc hint
        refine OpTo.of_value fun c a hh hρ => ?_
        obtain ⟨new, n1, n2, n3⟩ := hsrc c _ hh (hρ x mem.2)
        obtain ⟨v', c', r1, r2, r3, r4⟩ := hto c _ (a.eval x) new o.type hh (hρ s mem.1) n1 n2 n3 hint
        refine ⟨v', c', ?_, r2, r3, r4⟩
        simp [execOp, hop, resolve, invoke, builtin, ha, hty, r1]
      rcases Classical.em (∃ k, xi.d = .int k) with ⟨kk1, hxd⟩ | hni
      · simp only [hxd] at hk
        split at hk <;> try exact no_fail hk
        · rename_i kk0 kk2 n h0 hxv
          rw [tiF_eq] at hk
          obtain ⟨hb, hk5⟩ := (Alg.holds_ob _ _).1 hk
          clear hk
          replace hk5 := Alg.holds_ix _ _ hk5
          obtain ⟨m, rfl⟩ := Int.eq_ofNat_of_zero_le hb.1
          obtain ⟨v, h', hk6, hn, hto⟩ := appK_sound (P := P) hs hx he hd hz h1 hk5
          have hmb : m * et.bytes ≤ 2 ^ 46 := by
            have := hb.2.2
            have e : ((m * et.bytes : Nat) : Int) = (m : Int) * (et.bytes : Int) := by simp
            omega
          refine ⟨v, h', hk6, fin hto (fun c xv hh hv => ?_) (fun _ _ => by simpa using hmb), hn⟩
          rw [hxv] at hv
          have hzr := zero_row (hi5 c) m
          rw [hi7] at hzr
          have hzs : z.cells.size = et.size := by rw [← hi7, (hi5 c).1]
          refine ⟨Builtin.zeroCells z.cells m, by simp [Builtin.zeroCells, hzs], fun i j hi hj => ?_, fun w hw => .inr ⟨kk1, kk2, hxd, by simpa using hv.int_inv, by simp; omega, ?_⟩⟩
          · simp only [Int.toNat_natCast] at hi
            have hlt : i * et.size + j < m * et.size := by
              have : (i + 1) * et.size ≤ m * et.size := Nat.mul_le_mul_right _ (by omega)
              rw [Nat.add_mul] at this; omega
            have := hzr.2 (i * et.size + j) (by simp [hi7]; exact hlt)
            rw [flat_get _ _ _ (by rw [hi7]; exact hlt), hi7, Nat.mul_add_mod_self_right, Nat.mod_eq_of_lt hj] at this
            have e : Builtin.zeroCells z.cells m = ((Array.range (m * et.size)).map (z.cells[· % z.cells.size]!)) := by simp [Builtin.zeroCells, hzs]
            rw [e]; exact this
          · simp only [Int.toNat_natCast]
            split
            · rename_i h0
              apply Array.size_eq_zero_iff.1
              simp [Builtin.zeroCells, hzs, h0]
            · rfl
        · rename_i hq _
          exact absurd rfl (hq kk1)
      · have hk5 : Alg.holds (srcK h et.size (ρ x) fun n src => appK et h (ρ s) n src k) := by
          cases hxd : xi.d <;> simp only [hxd] at hk <;> first | exact hk | exact absurd ⟨_, hxd⟩ hni
        have hni : ∀ k, xi.d ≠ .int k := fun k hxd => hni ⟨k, hxd⟩
        obtain ⟨n, src, hk6, hsrc⟩ := src_sound (P := P) hk5
        obtain ⟨v, h', hk7, hn, hto⟩ := appK_sound (P := P) hs hx he hd hz h1 hk6
        refine ⟨v, h', hk7, fin hto (fun c xv hh hv => ?_) (fun k hxd => absurd hxd (hni k)), hn⟩
        obtain ⟨new, n1, n2, n3⟩ := hsrc c xv hh hv
        exact ⟨new, n1, n2, fun w hw => .inl ⟨hni, n3 w hw⟩⟩
  | _ => rw [hop] at hk; simp only [evEff] at hk; exact no_fail hk
/-- what writes into a map, and nothing else -/
def mapOp : Op → Bool
  | .mapUpdate .. | .insert .. | .mapEntry .. | .entryStore .. => true
  | _ => false

theorem setObK_mk {R : Type} [Alg R] (h : Heap) (id : Nat) (ob : Ob) (k : Heap → R) (hid : id < 65536) : setObK h id ob k = k (h.setOb id ob) := by
  unfold setObK
  rw [show Nat.ble id 65535 = true from Nat.ble_eq_true_of_le (by omega)]
  cases h
  exact T.setK_eq _ _ _ _

theorem keyK_sound0 {kt : TypeId} {v : V} {k : List Nat → List Int → R} (hk : Alg.holds (keyK E kt v k)) : ∃ sg kk, Alg.holds (k sg kk) ∧ ∀ k' : List Nat → List Int → Prop, k' sg kk → keyK (R := Prop) E kt v k' := by
  unfold keyK at hk
  obtain ⟨ti, hti, hk⟩ := holds_optK hk
  obtain ⟨⟨s, l⟩, hs, hk⟩ := holds_optK hk
  dsimp only at hk
  split at hk <;> try exact no_fail hk
  rename_i hb
  refine ⟨s, l, hk, fun k' h' => ?_⟩
  unfold keyK
  rw [hti]
  simp only [optK, hs, hb]
  exact h'

theorem eff_map (hE : EnvOK P E) {o : Oper} {ρ : Operand → V} {h : Heap} {k : V → Heap → R} (hm : mapOp o.op = true) (hk : Alg.holds (evEff E o.op ρ h k)) : ∃ v h', Alg.holds (k v h') ∧ MpTo P o ρ h v h' ∧ h.nx ≤ h'.nx := by
  have fin : ∀ (v : V) (id : Nat) (es : List ME) (c : Nat) (es' : List ME) (c' : Nat), h.get id = some (.map es c) → id < 65536 → Alg.holds (k v (h.setOb id (.map es' c'))) →
      (∀ H : Heap, H.get id = some (.map es c) → evEff (R := Prop) E o.op ρ H fun v' h' => v' = v ∧ h' = H.setOb id (.map es' c')) → ∃ v h', Alg.holds (k v h') ∧ MpTo P o ρ h v h' ∧ h.nx ≤ h'.nx := by
    intro v id es c es' c' hg hid hk' hH
    refine ⟨v, _, hk', ⟨id, es, c, es', c', hg, hid, rfl, fun H hg' => ?_⟩, Nat.le_refl _⟩
    obtain ⟨v', h', ⟨e1, e2⟩, h2, _⟩ := eff_sound (R := Prop) (P := P) hE (hH H hg')
    subst e1 e2
    exact h2
  cases hop : o.op with
  | mapUpdate t m key v =>
    rw [hop] at hk fin
    simp only [evEff] at hk
    obtain ⟨ti, hti, hk⟩ := holds_optK hk
    split at hk <;> try exact no_fail hk
    rename_i kt et id hd hmm
    obtain ⟨sg, kk, hk, hkey⟩ := keyK_sound0 hk
    obtain ⟨ob, ho, hk⟩ := holds_optK hk
    split at hk <;> try exact no_fail hk
    rename_i es clock
    obtain ⟨r, hr, hk⟩ := Alg.holds_opt _ _ hk
    cases r with
    | some p =>
      obtain ⟨hk, hid⟩ := setOb_eq hk
      refine fin _ _ _ _ _ _ ho hid hk fun H hg => ?_
      simp only [evEff, hti, optK, hd, hmm]
      refine hkey _ ?_
      rw [hg]
      exact ⟨_, hr, by (try dsimp only); rw [setObK_mk _ _ _ _ hid]; simp⟩
    | none =>
      obtain ⟨hk, hid⟩ := setOb_eq hk
      refine fin _ _ _ _ _ _ ho hid hk fun H hg => ?_
      simp only [evEff, hti, optK, hd, hmm]
      refine hkey _ ?_
      rw [hg]
      exact ⟨_, hr, by (try dsimp only); rw [setObK_mk _ _ _ _ hid]; simp⟩
  | insert t m key v =>
    rw [hop] at hk fin
    simp only [evEff] at hk
    obtain ⟨ti, hti, hk⟩ := holds_optK hk
    split at hk <;> try exact no_fail hk
    rename_i kt et id hd hmm
    obtain ⟨sg, kk, hk, hkey⟩ := keyK_sound0 hk
    obtain ⟨ob, ho, hk⟩ := holds_optK hk
    split at hk <;> try exact no_fail hk
    rename_i es clock
    obtain ⟨r, hr, hk⟩ := Alg.holds_opt _ _ hk
    cases r with
    | some p =>
      obtain ⟨hk, hid⟩ := setOb_eq hk
      refine fin _ _ _ _ _ _ ho hid hk fun H hg => ?_
      simp only [evEff, hti, optK, hd, hmm]
      refine hkey _ ?_
      rw [hg]
      exact ⟨_, hr, by (try dsimp only); rw [setObK_mk _ _ _ _ hid]; simp⟩
    | none =>
      obtain ⟨hk, hid⟩ := setOb_eq hk
      refine fin _ _ _ _ _ _ ho hid hk fun H hg => ?_
      simp only [evEff, hti, optK, hd, hmm]
      refine hkey _ ?_
      rw [hg]
      exact ⟨_, hr, by (try dsimp only); rw [setObK_mk _ _ _ _ hid]; simp⟩
  | mapEntry t m key =>
    rw [hop] at hk fin
    simp only [evEff] at hk
    obtain ⟨ti, hti, hk⟩ := holds_optK hk
    split at hk <;> try exact no_fail hk
    rename_i kt et id hd hmm
    obtain ⟨sg, kk, hk, hkey⟩ := keyK_sound0 hk
    obtain ⟨ob, ho, hk⟩ := holds_optK hk
    split at hk <;> try exact no_fail hk
    rename_i es clock
    obtain ⟨r, hr, hk⟩ := Alg.holds_opt _ _ hk
    cases r with
    | some p =>
      obtain ⟨hk, hid⟩ := setOb_eq hk
      refine fin _ _ _ _ es clock ho hid hk fun H hg => ?_
      simp only [evEff, hti, optK, hd, hmm]
      refine hkey _ ?_
      rw [hg]
      exact ⟨_, hr, by (try dsimp only); rw [setObK_mk _ _ _ _ hid]; simp⟩
    | none =>
      obtain ⟨ei, hei, hk⟩ := holds_optK hk
      obtain ⟨z, hz, hk⟩ := holds_optK hk
      obtain ⟨hk, hid⟩ := setOb_eq hk
      refine fin _ _ _ _ _ _ ho hid hk fun H hg => ?_
      simp only [evEff, hti, optK, hd, hmm]
      refine hkey _ ?_
      rw [hg]
      exact ⟨_, hr, by simp only [hei, hz]; rw [setObK_mk _ _ _ _ hid]; simp⟩
  | entryStore t m st v =>
    rw [hop] at hk fin
    simp only [evEff] at hk
    split at hk <;> try exact no_fail hk
    rename_i id kd n hmm hst
    obtain ⟨ob, ho, hk⟩ := holds_optK hk
    split at hk <;> try exact no_fail hk
    rename_i es clock
    obtain ⟨hn, hk⟩ := (Alg.holds_ob _ _).1 hk
    obtain ⟨i, hi, hk⟩ := Alg.holds_opt _ _ hk
    obtain ⟨hk, hid⟩ := setOb_eq hk
    refine fin _ _ _ _ _ _ ho hid hk fun H hg => ?_
    simp only [evEff, optK, hmm, hst]
    rw [hg]
    exact ⟨hn, _, hi, by (try dsimp only); rw [setObK_mk _ _ _ _ hid]; simp⟩
  | _ => rw [hop] at hm; simp [mapOp] at hm
end
end Go.Ab
