/- A walk that knows slots: what is known of the frame is a list, of the world whatever its facts are; one judgement for a region (in its order, or drawn: by a plan), one for code, one behind an exit. -/
import Derived.OrdersHeld
import Derived.Deep.LoopGhost
import Derived.Deep.Draws
import Derived.Below
import Derived.Tactics
import Derived.KernelRfl
namespace Go.Proofs.Ytpnkgmmaanpgiaa
open Go
set_option linter.unusedVariables false
set_option linter.unusedSimpArgs false
/-- One operation, as the check sees it: its slot, the slots that it looks at, the operations that it waits for (each a number's bits). -/
structure Row where
  d : Nat
  l : Nat
  a : Nat
def bitsOf : List Nat → Nat
  | [] => 0
  | t :: r => (1 <<< t) ||| bitsOf r
theorem bitsOf_spec {t : Nat} : ∀ {l : List Nat}, t ∈ l → (bitsOf l).testBit t = true
  | u :: r, h => by
    rcases List.mem_cons.1 h with rfl | h
    · simp [bitsOf]
    · simp [bitsOf, bitsOf_spec h]
def rowOf (md : Region.Mode) (ops : Array Oper) (o : Oper) : Row :=
  { d := match o.dst with | some d => 1 <<< d | none => 0, l := bitsOf (o.looksAt ops), a := bitsOf ((o.after.toList.filter (Region.binds md)).map (·.on)) }
def meets (x y : Nat) : Bool := !(Nat.beq (x &&& y) 0)
def within (x y : Nat) : Bool := Nat.beq (x &&& y) x
theorem meets_of {x y t : Nat} (h1 : x.testBit t = true) (h2 : y.testBit t = true) : meets x y = true := by
  unfold meets
  cases h : Nat.beq (x &&& y) 0 with
  | false => rfl
  | true =>
    have h0 := Nat.eq_of_beq_eq_true h
    have : (x &&& y).testBit t = true := by rw [Nat.testBit_and, h1, h2]; rfl
    rw [h0] at this; simp at this
theorem within_of {x y t : Nat} (h : within x y = true) (h1 : x.testBit t = true) : y.testBit t = true := by
  have h0 := Nat.eq_of_beq_eq_true h
  have : (x &&& y).testBit t = true := by rw [h0]; exact h1
  rw [Nat.testBit_and] at this
  simp at this; exact this.2
/-- All others that have not come up, from number j on, let x be: they wait for it, or have nothing to do with it. -/
def lets (i : Nat) (x : Row) (m : Nat) : Nat → List Row → Bool
  | _, [] => true
  | j, y :: r => (Nat.beq j i || (m.testBit j || (y.a.testBit i || (!meets x.d y.l && (!meets x.d y.d && !meets y.d x.l))))) && lets i x m (j + 1) r
/-- No other can come up. -/
def lone (i : Nat) (m : Nat) : Nat → List Row → Bool
  | _, [] => true
  | j, y :: r => (Nat.beq j i || (m.testBit j || !within y.a m)) && lone i m (j + 1) r
def planGo (rows : List Row) : List (Nat × Bool) → Nat → Bool
  | [], m => lone rows.length m 0 rows
  | (i, fl) :: r, m => !m.testBit i && (match rows[i]? with
    | some x => within x.a m && ((if fl then lets i x m 0 rows else lone i m 0 rows) && planGo rows r (m ||| (1 <<< i)))
    | none => false)
def planOk (md : Region.Mode) (ops : Array Oper) (pl : List (Nat × Bool)) : Bool :=
  Nat.ble pl.length ops.size && planGo (ops.toList.map (rowOf md ops)) pl 0
theorem lets_spec {i : Nat} {x : Row} {m : Nat} : ∀ {l : List Row} {k j : Nat} {y : Row}, lets i x m k l = true → l[j]? = some y → k + j ≠ i → m.testBit (k + j) = false → y.a.testBit i = false →
    meets x.d y.l = false ∧ meets x.d y.d = false ∧ meets y.d x.l = false
  | z :: r, k, 0, y, h, hy, hne, hm, hw => by
    have hz : z = y := by simpa using hy
    subst hz
    simp only [lets, Bool.and_eq_true] at h
    have h1 := h.1
    simp only [Nat.add_zero] at hne hm
    have hb : Nat.beq k i = false := by
      cases hbb : Nat.beq k i with
      | false => rfl
      | true => exact absurd (Nat.eq_of_beq_eq_true hbb) hne
    simp only [hb, hm, hw, Bool.false_or] at h1
    simpa using h1
  | z :: r, k, j + 1, y, h, hy, hne, hm, hw => by
    simp only [lets, Bool.and_eq_true] at h
    exact lets_spec h.2 (by simpa using hy) (by omega) (by rw [show k + 1 + j = k + (j + 1) by omega]; exact hm) hw
theorem lone_spec {i m : Nat} : ∀ {l : List Row} {k j : Nat} {y : Row}, lone i m k l = true → l[j]? = some y → k + j ≠ i → m.testBit (k + j) = false → within y.a m = false
  | z :: r, k, 0, y, h, hy, hne, hm => by
    have hz : z = y := by simpa using hy
    subst hz
    simp only [lone, Bool.and_eq_true] at h
    have h1 := h.1
    simp only [Nat.add_zero] at hne hm
    have hb : Nat.beq k i = false := by
      cases hbb : Nat.beq k i with
      | false => rfl
      | true => exact absurd (Nat.eq_of_beq_eq_true hbb) hne
    simp only [hb, hm, Bool.false_or] at h1
    simpa using h1
  | z :: r, k, j + 1, y, h, hy, hne, hm => by
    simp only [lone, Bool.and_eq_true] at h
    exact lone_spec h.2 (by simpa using hy) (by omega) (by rw [show k + 1 + j = k + (j + 1) by omega]; exact hm)
section
variable {P : Program} {ops : Array Oper} {Q : Exit → Act → World → Prop} {md : Region.Mode}
/-- The blocks that X names stand as they stood. -/
def Ext (X : Nat → Prop) (w u : World) : Prop := w.heap.size ≤ u.heap.size ∧ ∀ k, X k → k < w.heap.size → u.heap[k]? = w.heap[k]?
theorem Ext.refl (X : Nat → Prop) (w : World) : Ext X w w := ⟨Nat.le_refl _, fun _ _ _ => rfl⟩
theorem Ext.trans {X : Nat → Prop} {u v w : World} (h : Ext X u v) (k : Ext X v w) : Ext X u w :=
  ⟨Nat.le_trans h.1 k.1, fun i hx hi => (k.2 i hx (Nat.lt_of_lt_of_le hi h.1)).trans (h.2 i hx hi)⟩
/-- In a region that keeps its order: this world; in one that draws: one in which X stands. -/
def St (dr : Bool) (X : Nat → Prop) (w : World) : World → Prop := fun u => match dr with | true => Ext X w u | false => u = w
theorem St.self (dr : Bool) (X : Nat → Prop) (w : World) : St dr X w w := by cases dr; exact rfl; exact Ext.refl _ _
/-- A plan, walked: what is marked is a value (in every world that S lets), the others act. -/
def wpP (P : Program) (ops : Array Oper) (Q : Exit → Act → World → Prop) (dr : Bool) : (World → Prop) → List (Nat × Bool) → Act → World → Prop
  | _, [], a, w => Q .normal a w
  | S, (i, true) :: r, a, w => ∃ o v, ops[i]? = some o ∧ YieldsIf P ops S o v a ∧ wpP P ops Q dr S r (a.put o.dst v) w
  | S, (i, false) :: r, a, w => wpOp P ops Q i (fun a' w' => ∃ S' : World → Prop, (dr = true → ∀ u, S' u → S u) ∧ S' w' ∧ wpP P ops Q dr S' r a' w') a w
theorem wpAnyH_mono {S S' : World → Prop} (h : ∀ u, S' u → S u) : ∀ (fuel : Nat) (listed : Array Bool) (a : Act) (w : World), wpAnyH P md ops Q S' fuel listed a w → wpAnyH P md ops Q S fuel listed a w
  | 0, _, _, _, h0 => h0
  | fuel + 1, _, _, _, h0 => ⟨h0.1, fun i hi => wpOp_mono (fun _ _ h' => ⟨h _ h'.1, wpAnyH_mono h fuel _ _ _ h'.2⟩) (h0.2 i hi)⟩
structure Told (ops : Array Oper) (listed : Array Bool) (m : Nat) : Prop where
  size : listed.size = ops.size
  bit : ∀ j, j < ops.size → listed.getD j false = m.testBit j
  ends : ∀ j, m.testBit j = true → j < ops.size
theorem getD_true_of {listed : Array Bool} {j : Nat} (h : j < listed.size) : listed.getD j true = listed.getD j false := by simp [h]
theorem Told.set {listed : Array Bool} {m i : Nat} (t : Told ops listed m) (hi : i < ops.size) : Told ops (listed.setIfInBounds i true) (m ||| (1 <<< i)) := by
  refine ⟨by simp [t.size], fun j hj => ?_, fun j hj => ?_⟩
  · by_cases hij : i = j
    · subst hij
      simp [t.size, hi]
    · rw [getD_set_ne false hij, t.bit j hj, Nat.testBit_or]
      simp [Nat.one_shiftLeft, Nat.testBit_two_pow, hij]
  · rw [Nat.testBit_or] at hj
    simp [Nat.one_shiftLeft, Nat.testBit_two_pow] at hj
    rcases hj with h | h
    · exact t.ends j h
    · omega
theorem row_at {j : Nat} {o : Oper} (h : ops[j]? = some o) : (ops.toList.map (rowOf md ops))[j]? = some (rowOf md ops o) := by
  rw [List.getElem?_map, Array.getElem?_toList, h]; rfl
theorem after_bit {o : Oper} {e : Edge} (he : e ∈ o.after) (hb : Region.binds md e = true) : (rowOf md ops o).a.testBit e.on = true :=
  bitsOf_spec (List.mem_map.2 ⟨e, List.mem_filter.2 ⟨by simpa using he, hb⟩, rfl⟩)
theorem mem_bitsOf {t : Nat} : ∀ {l : List Nat}, (bitsOf l).testBit t = true → t ∈ l
  | [], h => by simp [bitsOf] at h
  | u :: r, h => by
    simp only [bitsOf, Nat.testBit_or, Nat.one_shiftLeft, Nat.testBit_two_pow, Bool.or_eq_true, decide_eq_true_eq] at h
    rcases h with h | h
    · exact List.mem_cons.2 (Or.inl h.symm)
    · exact List.mem_cons.2 (Or.inr (mem_bitsOf h))
theorem within_iff {l : List Nat} {m : Nat} (h : ∀ t ∈ l, m.testBit t = true) : within (bitsOf l) m = true := by
  unfold within
  have : bitsOf l &&& m = bitsOf l := by
    apply Nat.eq_of_testBit_eq
    intro t
    rw [Nat.testBit_and]
    cases hb : (bitsOf l).testBit t with
    | false => rfl
    | true => rw [h t (mem_bitsOf hb)]; rfl
  rw [this]; exact Nat.beq_refl _
theorem ready_in {listed : Array Bool} {m i : Nat} (t : Told ops listed m) (hm : m.testBit i = false) {o : Oper} (ho : ops[i]? = some o) (hw : within (rowOf md ops o).a m = true) : i ∈ Region.ready md ops listed := by
  have hi : i < ops.size := (Array.getElem?_eq_some_iff.1 ho).1
  refine mem_ready.2 ⟨?_, o, ho, fun e he hb => ?_⟩
  · rw [getD_true_of (by rw [t.size]; exact hi), t.bit i hi]; exact hm
  · have := within_of hw (after_bit (ops := ops) he hb)
    rw [t.bit _ (t.ends _ this)]; exact this
theorem ready_lone {listed : Array Bool} {m i : Nat} (t : Told ops listed m) (hl : lone i m 0 (ops.toList.map (rowOf md ops)) = true) : ∀ j ∈ Region.ready md ops listed, j = i := by
  intro j hj
  obtain ⟨h0, o, ho, hall⟩ := mem_ready.1 hj
  have hi : j < ops.size := (Array.getElem?_eq_some_iff.1 ho).1
  rw [getD_true_of (by rw [t.size]; exact hi), t.bit j hi] at h0
  by_cases hji : j = i
  · exact hji
  · exfalso
    have h1 := lone_spec (j := j) hl (row_at (md := md) ho) (by omega) (by rw [Nat.zero_add]; exact h0)
    have h2 : within (rowOf md ops o).a m = true := by
      refine within_iff fun t' ht => ?_
      obtain ⟨e, he, rfl⟩ := List.mem_map.1 ht
      obtain ⟨he1, he2⟩ := List.mem_filter.1 he
      have h3 := hall e (by simpa using he1) he2
      have h4 : e.on < ops.size := by
        rcases Nat.lt_or_ge e.on listed.size with h | h
        · rw [t.size] at h; exact h
        · simp [Array.getElem?_eq_none h] at h3
      rw [t.bit _ h4] at h3; exact h3
    rw [h1] at h2; cases h2
theorem wpAnyH_of_plan (hs : Region.noSelect ops = true) (hQ : ∀ c a d v w, Q (.panic c) (a.put d v) w → Q (.panic c) a w) :
    ∀ (pl : List (Nat × Bool)) (m fuel : Nat) (listed : Array Bool) (a : Act) (w : World) (S : World → Prop), Told ops listed m → pl.length ≤ fuel →
      planGo (ops.toList.map (rowOf md ops)) pl m = true → S w → wpP P ops Q true S pl a w → wpAnyH P md ops Q S fuel listed a w
  | [], m, fuel, listed, a, w, S, t, _, hp, _, h => by
    refine wpAnyH_done ?_ h fuel
    have h1 := ready_lone t hp
    cases hr : Region.ready md ops listed with
    | nil => rfl
    | cons j r =>
      exfalso
      have hj : j ∈ Region.ready md ops listed := by rw [hr]; exact List.mem_cons_self
      have h2 := h1 j hj
      obtain ⟨_, o, ho, _⟩ := mem_ready.1 hj
      have hi : j < ops.size := (Array.getElem?_eq_some_iff.1 ho).1
      simp at h2; omega
  | (i, fl) :: r, m, 0, listed, a, w, S, t, hf, hp, _, h => by simp at hf
  | (i, fl) :: r, m, fuel + 1, listed, a, w, S, t, hf, hp, hS, h => by
    simp only [planGo, Bool.and_eq_true] at hp
    obtain ⟨hm, hp⟩ := hp
    have hm : m.testBit i = false := by simpa using hm
    cases ho : ops[i]? with
    | none => rw [List.getElem?_map, Array.getElem?_toList, ho] at hp; simp at hp
    | some o =>
      rw [row_at ho] at hp
      simp only [Bool.and_eq_true] at hp
      obtain ⟨hw, hc, hp⟩ := hp
      have hi : i < ops.size := (Array.getElem?_eq_some_iff.1 ho).1
      have hr := ready_in t hm ho hw
      cases fl with
      | true =>
        simp only [if_true] at hc
        obtain ⟨o', v, ho', hy, h⟩ := h
        have : o' = o := Option.some.inj (ho'.symm.trans ho)
        subst this
        refine wpAnyH_first ho (Region.noSelect_spec hs) (fun c a w => hQ c a _ v w) fuel listed a w ?_ hr hy hS
          (wpAnyH_of_plan hs hQ r _ fuel _ _ w S (t.set hi) (by simpa using hf) hp hS h)
        intro j oj hj hne hun hno
        have hjs : j < ops.size := (Array.getElem?_eq_some_iff.1 hj).1
        rw [getD_true_of (by rw [t.size]; exact hjs), t.bit j hjs] at hun
        have hwi : (rowOf md ops oj).a.testBit i = false := by
          cases hb : (rowOf md ops oj).a.testBit i with
          | false => rfl
          | true =>
            obtain ⟨e, he, he2⟩ := List.mem_map.1 (mem_bitsOf hb)
            obtain ⟨he1, he3⟩ := List.mem_filter.1 he
            exact absurd he2 (hno e (by simpa using he1) he3)
        obtain ⟨h1, h2, h3⟩ := lets_spec (j := j) hc (row_at (md := md) hj) (by omega) (by rw [Nat.zero_add]; exact hun) hwi
        unfold Oper.apart
        have hd : ∀ {x : Oper} {d : Tmp}, x.dst = some d → (rowOf md ops x).d.testBit d = true := fun {x d} hx => by simp [rowOf, hx]
        have hl : ∀ {x : Oper} {d : Tmp}, d ∈ x.looksAt ops → (rowOf md ops x).l.testBit d = true := fun h => bitsOf_spec h
        simp only [Bool.and_eq_true]
        constructor
        · cases hx : o'.dst with
          | none => rfl
          | some d =>
            simp only [Bool.and_eq_true, Bool.not_eq_true', bne_iff_ne, ne_eq]
            constructor
            · cases hcn : (oj.looksAt ops).contains d with
              | false => rfl
              | true => rw [meets_of (hd hx) (hl (by simpa using hcn))] at h1; cases h1
            · intro he
              rw [meets_of (hd hx) (hd he)] at h2; cases h2
        · cases hx : oj.dst with
          | none => rfl
          | some d =>
            simp only [Bool.not_eq_true']
            cases hcn : (o'.looksAt ops).contains d with
            | false => rfl
            | true => rw [meets_of (hd hx) (hl (by simpa using hcn))] at h3; cases h3
      | false =>
        simp only [Bool.false_eq_true, if_false] at hc
        refine ⟨fun h0 => (by rw [h0] at hr; cases hr), fun j hj => ?_⟩
        have := ready_lone t hc j hj
        subst this
        exact wpOp_mono (fun a' w' ⟨S', hle, hS', h'⟩ => ⟨hle rfl _ hS', wpAnyH_mono (hle rfl) fuel _ _ _ (wpAnyH_of_plan hs hQ r _ fuel _ _ w' S' (t.set hi) (by simpa using hf) hp hS' h')⟩) h
/-- The operations in their order. -/
def seqOf : List Oper → Nat → List (Nat × Bool)
  | [], _ => []
  | _ :: r, i => (i, false) :: seqOf r (i + 1)
def numsOf : List Oper → Nat → List Nat
  | [], _ => []
  | _ :: r, i => i :: numsOf r (i + 1)
theorem numsOf_range : ∀ (l : List Oper) (i : Nat), numsOf l i = List.range' i l.length
  | [], i => rfl
  | _ :: r, i => by rw [numsOf, numsOf_range r (i + 1), List.length_cons, List.range'_succ]
theorem wpOps_of_seq : ∀ (l : List Oper) (i : Nat) (S : World → Prop) (a : Act) (w : World), wpP P ops Q false S (seqOf l i) a w → wpOps P ops Q (numsOf l i) a w
  | [], _, _, _, _, h => h
  | _ :: r, i, S, a, w, h => by
    rw [numsOf, wpOps_cons]
    exact wpOp_mono (fun a' w' ⟨S', _, _, h'⟩ => wpOps_of_seq r (i + 1) S' a' w' h') h
end
/-! What is known of a frame. -/
def nth {α : Type} : List α → Nat → Option α
  | [], _ => none
  | x :: _, 0 => some x
  | _ :: r, n + 1 => nth r n
theorem nth_eq {α : Type} : ∀ (l : List α) (i : Nat), nth l i = l[i]?
  | [], i => by simp [nth]
  | x :: r, 0 => by simp [nth]
  | x :: r, i + 1 => by simp [nth, nth_eq r i]
def look (n : Nat) : List (Nat × Value) → Nat → Option Value
  | [], _ => none
  | (d, v) :: r, t => cond (Nat.beq d t && Nat.ble (t + 1) n) (some v) (look n r t)
structure Kn (n : Nat) (l : List (Nat × Value)) (a : Act) : Prop where
  size : a.tmps.size = n
  defs : a.defers = []
  vals : ∀ t v, look n l t = some v → a.tmps[t]? = some v
theorem Kn.put {n : Nat} {l : List (Nat × Value)} {a : Act} (h : Kn n l a) (d : Nat) (v : Value) : Kn n ((d, v) :: l) (a.put (some d) v) := by
  refine ⟨by simpa [Act.put] using h.size, by simpa [Act.put] using h.defs, fun t u hu => ?_⟩
  simp only [Act.put]
  simp only [look] at hu
  cases hb : (Nat.beq d t && Nat.ble (t + 1) n) with
  | true =>
    simp only [hb, cond_true] at hu
    simp only [Bool.and_eq_true] at hb
    have hd := Nat.eq_of_beq_eq_true hb.1
    have ht := Nat.le_of_ble_eq_true hb.2
    have hs := h.size
    subst hd
    rw [Array.getElem?_setIfInBounds_self_of_lt (by omega)]; exact hu
  | false =>
    simp only [hb, cond_false] at hu
    have ih := h.vals t u hu
    by_cases hd : d = t
    · subst hd
      have hlt := (Array.getElem?_eq_some_iff.1 ih).1
      have hb2 : Nat.ble (d + 1) n = true := Nat.ble_eq_true_of_le (by rw [h.size] at hlt; omega)
      rw [hb2, Nat.beq_refl] at hb
      cases hb
    · rw [Array.getElem?_setIfInBounds_ne hd]; exact ih
theorem Kn.none {n : Nat} {l : List (Nat × Value)} {a : Act} (h : Kn n l a) (v : Value) : Kn n l (a.put none v) := by
  refine ⟨by simpa [Act.put] using h.size, by simpa [Act.put] using h.defs, fun t u hu => ?_⟩
  simpa [Act.put] using h.vals t u hu
/-- What a list says, another one says too. -/
def Sub (n : Nat) : List (Nat × Value) → List (Nat × Value) → Prop
  | [], _ => True
  | (t, v) :: r, l => look n l t = some v ∧ Sub n r l
theorem Sub.look {n : Nat} {l : List (Nat × Value)} : ∀ {r : List (Nat × Value)}, Sub n r l → ∀ t v, look n r t = some v → look n l t = some v
  | [], _, t, v, h => by simp [Proofs.Ytpnkgmmaanpgiaa.look] at h
  | (d, u) :: r, ⟨h1, h2⟩, t, v, h => by
    simp only [Proofs.Ytpnkgmmaanpgiaa.look] at h
    cases hb : (Nat.beq d t && Nat.ble (t + 1) n) with
    | true =>
      simp only [hb, cond_true] at h
      simp only [Bool.and_eq_true] at hb
      have hd := Nat.eq_of_beq_eq_true hb.1
      subst hd
      rw [← h]; exact h1
    | false =>
      simp only [hb, cond_false] at h
      exact Sub.look h2 t v h
theorem Kn.sub {n : Nat} {l r : List (Nat × Value)} {a : Act} (h : Kn n l a) (hs : Sub n r l) : Kn n r a := ⟨h.size, h.defs, fun t v hv => h.vals t v (hs.look t v hv)⟩
def opv (n : Nat) (l : List (Nat × Value)) : Operand → Option Value
  | .tmp t => look n l t
  | .const v => some v
  | .global g => some (.pointer (some ⟨g, 0, none⟩))
  | .func f => some (.func (.func f) #[] #[])
theorem opv_spec {a : Act} {n : Nat} {l : List (Nat × Value)} (ha : Kn n l a) {x : Operand} {v : Value} (h : opv n l x = some v) : a.eval x = v := by
  cases x with
  | tmp t => have := ha.vals t v h; simp [Act.eval, this]
  | const c => simpa [opv, Act.eval] using h
  | global g => simpa [opv, Act.eval] using h
  | func f => simpa [opv, Act.eval] using h
/-- The slot of a guard, and what it must hold. -/
def guardOk (L : List Oper) (n : Nat) (l : List (Nat × Value)) : Option (Nat × Bool) → Bool
  | none => true
  | some (g, want) => match nth L g with
    | some o => match o.dst with
      | some t => match look n l t with
        | some (.bool x) => x == want
        | _ => false
      | none => false
    | none => false
theorem guardOk_spec {L : List Oper} {a : Act} {n : Nat} {l : List (Nat × Value)} (ha : Kn n l a) {o : Oper} (h : guardOk L n l o.guard = true) : Region.wanted o (yielded L.toArray a.tmps) = true := by
  unfold Region.wanted
  cases hg : o.guard with
  | none => rfl
  | some gw =>
    obtain ⟨g, want⟩ := gw
    rw [hg] at h
    simp only [guardOk] at h
    split at h
    · rename_i og hog
      split at h
      · rename_i t ht
        split at h
        · rename_i x hx
          have h1 := ha.vals t _ hx
          have h2 : yielded L.toArray a.tmps g = some x := by
            unfold yielded
            rw [nth_eq] at hog
            simp [hog, ht, h1]
          simp only [h2]
          simpa using h
        · cases h
      · cases h
    · cases h
def guardNo (L : List Oper) (n : Nat) (l : List (Nat × Value)) : Option (Nat × Bool) → Bool
  | none => false
  | some (g, want) => match nth L g with
    | some o => match o.dst with
      | some t => match look n l t with
        | some (.bool x) => x != want
        | some (.tuple _) => true
        | _ => false
      | none => false
    | none => false
theorem guardNo_spec {L : List Oper} {a : Act} {n : Nat} {l : List (Nat × Value)} (ha : Kn n l a) {o : Oper} (h : guardNo L n l o.guard = true) : Region.wanted o (yielded L.toArray a.tmps) = false := by
  unfold Region.wanted
  cases hg : o.guard with
  | none => rw [hg] at h; cases h
  | some gw =>
    obtain ⟨g, want⟩ := gw
    rw [hg] at h
    simp only [guardNo] at h
    split at h
    · rename_i og hog
      split at h
      · rename_i t ht
        split at h
        · rename_i x hx
          have h1 := ha.vals t _ hx
          have h2 : yielded L.toArray a.tmps g = some x := by
            unfold yielded
            rw [nth_eq] at hog
            simp [hog, ht, h1]
          simp only [h2]
          cases x <;> cases want <;> simp_all
        · rename_i x hx
          have h1 := ha.vals t _ hx
          have h2 : yielded L.toArray a.tmps g = none := by
            unfold yielded
            rw [nth_eq] at hog
            simp [hog, ht, h1]
          simp only [h2]
          cases want <;> rfl
        · cases h
      · cases h
    · cases h
/-! The judgements. -/
structure WR (P : Program) (L : List Oper) (Q : Exit → Act → World → Prop) (dr : Bool) (X : Nat → Prop) (n : Nat) (pl : List (Nat × Bool)) (l : List (Nat × Value)) (w : World) : Prop where
  out : ∀ a, Kn n l a → wpP P L.toArray Q dr (St dr X w) pl a w
structure WC (P : Program) (c : Code) (Q : Exit → Act → World → Prop) (n : Nat) (l : List (Nat × Value)) (w : World) : Prop where
  out : ∀ a, Kn n l a → c.wp P Q a w
structure WX (Q : Exit → Act → World → Prop) (e : Exit) (n : Nat) (l : List (Nat × Value)) (w : World) : Prop where
  out : ∀ a, Kn n l a → Q e a w
section
variable {P : Program} {L : List Oper} {Q : Exit → Act → World → Prop} {dr : Bool} {X : Nat → Prop} {n : Nat} {r : List (Nat × Bool)} {l l' : List (Nat × Value)} {w w' : World} {i d : Nat} {fl : Bool}
theorem WR.weak (h : WR P L Q dr X n r l' w) (hs : Sub n l' l) : WR P L Q dr X n r l w := ⟨fun a ha => h.out a (ha.sub hs)⟩
theorem WC.weak {c : Code} (h : WC P c Q n l' w) (hs : Sub n l' l) : WC P c Q n l w := ⟨fun a ha => h.out a (ha.sub hs)⟩
theorem WX.weak {e : Exit} (h : WX Q e n l' w) (hs : Sub n l' l) : WX Q e n l w := ⟨fun a ha => h.out a (ha.sub hs)⟩
theorem r_done (h : WX Q .normal n l w) : WR P L Q dr X n [] l w := ⟨fun a ha => h.out a ha⟩
theorem r_val {o : Oper} {v : Value} (ho : nth L i = some o) (hd : o.dst = some d) (hg : guardOk L n l o.guard = true)
    (hv : ∀ a, Kn n l a → ∀ u, St dr X w u → (execOp a.eval o).run P u = .ok (.value v) u) (h : WR P L Q dr X n r ((d, v) :: l) w) : WR P L Q dr X n ((i, fl) :: r) l w := by
  have hi : L.toArray[i]? = some o := by rw [nth_eq] at ho; simpa using ho
  refine ⟨fun a ha => ?_⟩
  cases fl with
  | true => exact ⟨o, v, hi, Or.inl ⟨guardOk_spec ha hg, hv a ha⟩, by rw [hd]; exact h.out _ (ha.put d v)⟩
  | false =>
    refine YieldsIf.wpOp (S := St dr X w) hi (Or.inl ⟨guardOk_spec ha hg, hv a ha⟩) (St.self _ _ _) ⟨_, fun _ _ h => h, St.self _ _ _, ?_⟩
    rw [hd]; exact h.out _ (ha.put d v)
theorem r_skip {o : Oper} (ho : nth L i = some o) (hd : o.dst = some d) (hg : guardNo L n l o.guard = true) (h : WR P L Q dr X n r ((d, undef) :: l) w) : WR P L Q dr X n ((i, fl) :: r) l w := by
  have hi : L.toArray[i]? = some o := by rw [nth_eq] at ho; simpa using ho
  refine ⟨fun a ha => ?_⟩
  cases fl with
  | true => exact ⟨o, undef, hi, Or.inr ⟨guardNo_spec ha hg, rfl⟩, by rw [hd]; exact h.out _ (ha.put d undef)⟩
  | false =>
    refine YieldsIf.wpOp (S := St dr X w) hi (Or.inr ⟨guardNo_spec ha hg, rfl⟩) (St.self _ _ _) ⟨_, fun _ _ h => h, St.self _ _ _, ?_⟩
    rw [hd]; exact h.out _ (ha.put d undef)
theorem r_skip0 {o : Oper} (ho : nth L i = some o) (hd : o.dst = none) (hg : guardNo L n l o.guard = true) (h : WR P L Q dr X n r l w) : WR P L Q dr X n ((i, fl) :: r) l w := by
  have hi : L.toArray[i]? = some o := by rw [nth_eq] at ho; simpa using ho
  refine ⟨fun a ha => ?_⟩
  cases fl with
  | true => exact ⟨o, undef, hi, Or.inr ⟨guardNo_spec ha hg, rfl⟩, by rw [hd]; exact h.out _ (ha.none undef)⟩
  | false =>
    refine YieldsIf.wpOp (S := St dr X w) hi (Or.inr ⟨guardNo_spec ha hg, rfl⟩) (St.self _ _ _) ⟨_, fun _ _ h => h, St.self _ _ _, ?_⟩
    rw [hd]; exact h.out _ (ha.none undef)
/-- From one world to the next. -/
theorem St.next (hX : dr = true → Ext X w w') : (dr = true → ∀ u, St dr X w' u → St dr X w u) ∧ St dr X w' w' := by
  refine ⟨fun h u hu => ?_, St.self _ _ _⟩
  subst h
  exact (hX rfl).trans hu
theorem wpOp_want {o : Oper} {K : Act → World → Prop} {a : Act} (hi : L.toArray[i]? = some o) (hw : Region.wanted o (yielded L.toArray a.tmps) = true) (h : o.wp P a w K Q) : wpOp P L.toArray Q i K a w := by
  unfold wpOp
  simp only [hi, hw, if_true]
  exact Or.inl h
theorem r_act {o : Oper} {v : Value} (ho : nth L i = some o) (hd : o.dst = some d) (hg : guardOk L n l o.guard = true)
    (hv : ∀ a, Kn n l a → (execOp a.eval o).run P w = .ok (.value v) w') (hX : dr = true → Ext X w w') (h : WR P L Q dr X n r ((d, v) :: l) w') : WR P L Q dr X n ((i, false) :: r) l w := by
  have hi : L.toArray[i]? = some o := by rw [nth_eq] at ho; simpa using ho
  refine ⟨fun a ha => wpOp_want hi (guardOk_spec ha hg) ?_⟩
  unfold Oper.wp
  rw [hv a ha, Oper.upon_value, hd]
  exact ⟨_, (St.next hX).1, (St.next hX).2, h.out _ (ha.put d v)⟩
theorem r_act0 {o : Oper} (ho : nth L i = some o) (hd : o.dst = none) (hg : guardOk L n l o.guard = true)
    (hv : ∀ a, Kn n l a → (execOp a.eval o).run P w = .ok .skip w') (hX : dr = true → Ext X w w') (h : WR P L Q dr X n r l w') : WR P L Q dr X n ((i, false) :: r) l w := by
  have hi : L.toArray[i]? = some o := by rw [nth_eq] at ho; simpa using ho
  refine ⟨fun a ha => wpOp_want hi (guardOk_spec ha hg) ?_⟩
  unfold Oper.wp
  rw [hv a ha, Oper.upon_skip, hd]
  exact ⟨_, (St.next hX).1, (St.next hX).2, h.out _ (ha.none undef)⟩
theorem r_act0d {o : Oper} (ho : nth L i = some o) (hd : o.dst = some d) (hg : guardOk L n l o.guard = true)
    (hv : ∀ a, Kn n l a → (execOp a.eval o).run P w = .ok .skip w') (hX : dr = true → Ext X w w') (h : WR P L Q dr X n r ((d, undef) :: l) w') : WR P L Q dr X n ((i, false) :: r) l w := by
  have hi : L.toArray[i]? = some o := by rw [nth_eq] at ho; simpa using ho
  refine ⟨fun a ha => wpOp_want hi (guardOk_spec ha hg) ?_⟩
  unfold Oper.wp
  rw [hv a ha, Oper.upon_skip, hd]
  exact ⟨_, (St.next hX).1, (St.next hX).2, h.out _ (ha.put d undef)⟩
/-- What a call must leave: a value, and a world from which the region goes on. -/
structure Back (P : Program) (L : List Oper) (Q : Exit → Act → World → Prop) (dr : Bool) (X : Nat → Prop) (n : Nat) (r : List (Nat × Bool)) (d : Option Nat) (l : List (Nat × Value)) (w : World) (e : Ending) (w' : World) : Prop where
  out : ∃ v, e = .returned v ∧ (dr = true → Ext X w w') ∧ WR P L Q dr X n r (match d with | some d => (d, v) :: l | none => l) w'
theorem r_call {o : Oper} {f : FuncId} {args : Array Value} (ho : nth L i = some o) (hg : guardOk L n l o.guard = true)
    (hv : ∀ a, Kn n l a → (execOp a.eval o).run P w = .ok (.enter f args) w) (hc : Calls P f args w (Back P L Q dr X n r o.dst l w)) : WR P L Q dr X n ((i, false) :: r) l w := by
  have hi : L.toArray[i]? = some o := by rw [nth_eq] at ho; simpa using ho
  refine ⟨fun a ha => wpOp_want hi (guardOk_spec ha hg) ?_⟩
  unfold Oper.wp
  rw [hv a ha]
  refine hc.mono ?_
  rintro e w' ⟨v, rfl, hX, h⟩
  cases hd : o.dst with
  | none => rw [hd] at h; exact ⟨_, (St.next hX).1, (St.next hX).2, h.out _ (ha.none v)⟩
  | some d => rw [hd] at h; exact ⟨_, (St.next hX).1, (St.next hX).2, h.out _ (ha.put d v)⟩
theorem back {v : Value} (hX : dr = true → Ext X w w') (h : WR P L Q dr X n r ((d, v) :: l) w') : Back P L Q dr X n r (some d) l w (.returned v) w' := ⟨v, rfl, hX, h⟩
theorem back0 {v : Value} (hX : dr = true → Ext X w w') (h : WR P L Q dr X n r l w') : Back P L Q dr X n r none l w (.returned v) w' := ⟨v, rfl, hX, h⟩
theorem seqx : false = true → Ext X w w' := fun h => nomatch h
/-! Code. -/
theorem wc_region {id : Nat} (h : WR P L Q false (fun _ => True) n (seqOf L 0) l w) : WC P (.region id L.toArray false) Q n l w := by
  refine ⟨fun a ha => wp_region ?_⟩
  have h1 := wpOps_of_seq L 0 _ a w (h.out a ha)
  rw [numsOf_range, ← List.range_eq_range'] at h1
  simpa using h1
theorem wc_drawn {id : Nat} (X : Nat → Prop) (pl : List (Nat × Bool)) (hm : P.follows .mixedOrders = true) (hs : Region.noSelect L.toArray = true)
    (hok : planOk .any L.toArray pl = true) (hQ : ∀ c a d v w, Q (.panic c) (a.put d v) w → Q (.panic c) a w)
    (h : WR P L Q true X n pl l w.drew) : WC P (.region id L.toArray true) Q n l w := by
  unfold planOk at hok
  simp only [Bool.and_eq_true] at hok
  refine ⟨fun a ha => wp_region_held (S := St true X w.drew) hm (wpAnyH_of_plan hs hQ pl 0 _ _ a _ _ ⟨by simp, fun j hj => ?_, fun j hj => by simp at hj⟩ (Nat.le_of_ble_eq_true hok.1) hok.2 (St.self _ _ _) (h.out a ha))⟩
  simp only [Array.getD_eq_getD_getElem?, Array.getElem?_replicate, Nat.zero_testBit]
  split <;> rfl
theorem wc_seq {x y : Code} (h : WC P x (Exit.then (y.wp P Q) Q) n l w) : WC P (.seq x y) Q n l w := ⟨fun a ha => wp_seq (h.out a ha)⟩
theorem wc_skip (h : WX Q .normal n l w) : WC P .skip Q n l w := ⟨fun a ha => wp_skip (h.out a ha)⟩
theorem wc_exit {id : Nat} (h : WX Q (.exit id) n l w) : WC P (.exit id) Q n l w := ⟨fun a ha => wp_exit (h.out a ha)⟩
theorem wc_ret (h : WX Q .ret n l w) : WC P .ret Q n l w := ⟨fun a ha => wp_ret (h.out a ha)⟩
theorem wc_block {id : Nat} {c : Code} (h : WC P c (Exit.inBlock id Q) n l w) : WC P (.block id c) Q n l w := ⟨fun a ha => wp_block (h.out a ha)⟩
theorem wc_if {c : Operand} {x y : Code} {t : Bool} (hc : opv n l c = some (.bool t)) (hx : t = true → WC P x Q n l w) (hy : t = false → WC P y Q n l w) : WC P (.cond c x y) Q n l w :=
  ⟨fun a ha => wp_cond_split (opv_spec ha hc) (fun h => (hx h).out a ha) (fun h => (hy h).out a ha)⟩
theorem wc_if_t {c : Operand} {x y : Code} (hc : opv n l c = some (.bool true)) (hx : WC P x Q n l w) : WC P (.cond c x y) Q n l w :=
  ⟨fun a ha => wp_cond_true (opv_spec ha hc) (hx.out a ha)⟩
theorem wc_if_f {c : Operand} {x y : Code} (hc : opv n l c = some (.bool false)) (hy : WC P y Q n l w) : WC P (.cond c x y) Q n l w :=
  ⟨fun a ha => wp_cond_false (opv_spec ha hc) (hy.out a ha)⟩
theorem x_then {y : Code} (h : WC P y Q n l w) : WX (Exit.then (y.wp P Q) Q) .normal n l w := ⟨fun a ha => h.out a ha⟩
theorem x_then_exit {K : Act → World → Prop} {id : Nat} (h : WX Q (.exit id) n l w) : WX (Exit.then K Q) (.exit id) n l w := ⟨fun a ha => h.out a ha⟩
theorem x_then_ret {K : Act → World → Prop} (h : WX Q .ret n l w) : WX (Exit.then K Q) .ret n l w := ⟨fun a ha => h.out a ha⟩
theorem x_block {id : Nat} (h : WX Q .normal n l w) : WX (Exit.inBlock id Q) .normal n l w := ⟨fun a ha => h.out a ha⟩
theorem x_block_exit {id : Nat} (h : WX Q .normal n l w) : WX (Exit.inBlock id Q) (.exit id) n l w := ⟨fun a ha => by show (if id = id then _ else _); rw [if_pos rfl]; exact h.out a ha⟩
theorem x_block_else {id id' : Nat} (hne : Nat.beq id' id = false) (h : WX Q (.exit id') n l w) : WX (Exit.inBlock id Q) (.exit id') n l w :=
  ⟨fun a ha => by show (if id' = id then _ else _); rw [if_neg (fun e => by subst e; rw [Nat.beq_refl] at hne; cases hne)]; exact h.out a ha⟩
theorem x_block_ret {id : Nat} (h : WX Q .ret n l w) : WX (Exit.inBlock id Q) .ret n l w := ⟨fun a ha => h.out a ha⟩
/-- What a loop's round hands on. -/
structure LoopQ {σ : Type} (n : Nat) (Ls : σ → List (Nat × Value)) (I : σ → World → Prop) (μ : σ → Nat) (k : Nat) (a : Act) (w : World) : Prop where
  out : ∃ s, Kn n (Ls s) a ∧ I s w ∧ μ s < k
theorem wc_loop {σ : Type} {c : Code} (Ls : σ → List (Nat × Value)) (I : σ → World → Prop) (μ : σ → Nat) (s0 : σ) (hl : Sub n (Ls s0) l) (h0 : I s0 w)
    (round : ∀ s w, I s w → WC P c (Exit.then (LoopQ n Ls I μ (μ s)) Q) n (Ls s) w) : WC P (.loop c) Q n l w := by
  refine ⟨fun a ha => wp_loop_ghost (fun k a w => ∃ s, μ s = k ∧ Kn n (Ls s) a ∧ I s w) (μ s0) ⟨s0, rfl, ha.sub hl, h0⟩ ?_⟩
  rintro k a w ⟨s, rfl, hk, hI⟩
  refine wp_mono ((round s w hI).out a hk) ?_
  intro e a' w' hq
  cases e with
  | normal => obtain ⟨s', hk', hI', hlt⟩ := hq; exact ⟨μ s', hlt, s', rfl, hk', hI'⟩
  | exit id => exact hq
  | goto id => exact hq
  | ret => exact hq
  | panic c => exact hq
  | outgrown => exact hq
theorem x_round {σ : Type} {Ls : σ → List (Nat × Value)} {I : σ → World → Prop} {μ : σ → Nat} {k : Nat} (s : σ) (hl : Sub n (Ls s) l) (hI : I s w) (hm : μ s < k) : WX (Exit.then (LoopQ n Ls I μ k) Q) .normal n l w :=
  ⟨fun a ha => ⟨s, ha.sub hl, hI, hm⟩⟩
/-- Where ways meet: what is known behind them. -/
structure CutQ {σ : Type} (n : Nat) (Ls : σ → List (Nat × Value)) (I : σ → World → Prop) (a : Act) (w : World) : Prop where
  out : ∃ s, Kn n (Ls s) a ∧ I s w
theorem wc_cut {σ : Type} {x y : Code} (Ls : σ → List (Nat × Value)) (I : σ → World → Prop) (hx : WC P x (Exit.then (CutQ n Ls I) Q) n l w) (hy : ∀ s w, I s w → WC P y Q n (Ls s) w) : WC P (.seq x y) Q n l w := by
  refine ⟨fun a ha => wp_seq (wp_mono (hx.out a ha) ?_)⟩
  intro e a' w' hq
  cases e with
  | normal => obtain ⟨s', hk', hI'⟩ := hq; exact (hy s' w' hI').out a' hk'
  | exit id => exact hq
  | goto id => exact hq
  | ret => exact hq
  | panic c => exact hq
  | outgrown => exact hq
theorem x_cut {σ : Type} {Ls : σ → List (Nat × Value)} {I : σ → World → Prop} (s : σ) (hl : Sub n (Ls s) l) (hI : I s w) : WX (Exit.then (CutQ n Ls I) Q) .normal n l w := ⟨fun a ha => ⟨s, ha.sub hl, hI⟩⟩
/-! A function's beginning and end. -/
def argL : List Value → Nat → List (Nat × Value)
  | [], _ => []
  | v :: r, i => (i, v) :: argL r (i + 1)
theorem argL_spec {n : Nat} : ∀ (r : List Value) (i t : Nat) (v : Value), look n (argL r i) t = some v → i ≤ t ∧ r[t - i]? = some v
  | [], i, t, v, h => by simp [argL, look] at h
  | u :: r, i, t, v, h => by
    simp only [argL, look] at h
    cases hb : (Nat.beq i t && Nat.ble (t + 1) n) with
    | true =>
      simp only [hb, cond_true] at h
      simp only [Bool.and_eq_true] at hb
      have hd := Nat.eq_of_beq_eq_true hb.1
      subst hd
      simpa using h
    | false =>
      simp only [hb, cond_false] at h
      obtain ⟨h1, h2⟩ := argL_spec r (i + 1) t v h
      refine ⟨by omega, ?_⟩
      rw [show t - i = (t - (i + 1)) + 1 by omega]
      simpa using h2
theorem k_enter {f : FuncId} {fn : Func} {c : Code} {args : List Value} {R : Ending → World → Prop} (hf : P.funcs[f]? = some fn) (hb : fn.body = some c) (hn : Nat.ble args.length fn.ntmps = true)
    (h : WC P c (bodyPost P fn R) fn.ntmps (argL args 0) w) : Calls P f args.toArray w R := by
  refine calls_of_wp hf hb (h.out _ ⟨?_, rfl, fun t v hv => ?_⟩)
  · have := Nat.le_of_ble_eq_true hn
    simp; omega
  · obtain ⟨_, h2⟩ := argL_spec args 0 t v hv
    have hlt := (List.getElem?_eq_some_iff.1 h2).1
    simp at h2 hlt ⊢
    rw [Array.getElem?_append_left (by simpa using hlt)]
    simpa using h2
theorem kn_getD {a : Act} (ha : Kn n l a) {t : Nat} {v : Value} (h : look n l t = some v) : a.tmps.getD t undef = v := by have := ha.vals t v h; simp [this]
theorem x_end {fn : Func} {R : Ending → World → Prop} (hr : fn.results = #[]) (h : R (.returned (.tuple #[])) w) : WX (bodyPost P fn R) .normal n l w :=
  ⟨fun _ ha => ⟨ha.defs, _, results_none hr _ _ _, h⟩⟩
theorem x_ret0 {fn : Func} {R : Ending → World → Prop} (hr : fn.results = #[]) (h : R (.returned (.tuple #[])) w) : WX (bodyPost P fn R) .ret n l w :=
  ⟨fun _ ha => ⟨ha.defs, _, results_none hr _ _ _, h⟩⟩
theorem x_ret1 {fn : Func} {R : Ending → World → Prop} {t : Nat} {v : Value} (hr : fn.results = #[.tmp t]) (hv : look n l t = some v) (h : R (.returned v) w) : WX (bodyPost P fn R) .ret n l w :=
  ⟨fun a ha => ⟨ha.defs, _, results_tmp hr _ _ _, by rw [kn_getD ha hv]; exact h⟩⟩
theorem x_ret2 {fn : Func} {R : Ending → World → Prop} {t t' : Nat} {v v' : Value} (hr : fn.results = #[.tmp t, .tmp t']) (hv : look n l t = some v) (hv' : look n l t' = some v') (h : R (.returned (.tuple #[v, v'])) w) : WX (bodyPost P fn R) .ret n l w :=
  ⟨fun a ha => ⟨ha.defs, _, results_tmp2 hr _ _ _, by rw [kn_getD ha hv, kn_getD ha hv']; exact h⟩⟩
theorem x_retN {fn : Func} {R : Ending → World → Prop} {v : Value} (hv : ∀ a, Kn n l a → (results fn a.tmps).run P w = .ok v w) (h : R (.returned v) w) : WX (bodyPost P fn R) .ret n l w :=
  ⟨fun a ha => ⟨ha.defs, _, hv a ha, h⟩⟩
end
end Go.Proofs.Ytpnkgmmaanpgiaa
