/- A region that draws its order, walked in ONE order that is given as a plan: what looks at no world (or only at what S holds) is taken first; what acts comes up where nothing else can. -/
import Derived.OrdersHeld
import Derived.Tactics
import Derived.KernelRfl
namespace Go.Proofs.Ythgigkjnbflnpaa
open Go
/-- One operation, as the check sees it: its slot, the slots that it looks at, the operations that it waits for (each a number's bits). -/
structure Row where
  d : Nat
  l : Nat
  a : Nat
def bitsOf : List Nat → Nat
  | [] => 0
  | t :: r => (1 <<< t) ||| bitsOf r
theorem bitsOf_spec {t : Nat} : ∀ {l : List Nat}, t ∈ l → (bitsOf l).testBit t = true
  | u :: r, h => by
    rcases List.mem_cons.1 h with rfl | h
    · simp [bitsOf]
    · simp [bitsOf, bitsOf_spec h]
def rowOf (md : Region.Mode) (ops : Array Oper) (o : Oper) : Row :=
  { d := match o.dst with | some d => 1 <<< d | none => 0, l := bitsOf (o.looksAt ops), a := bitsOf ((o.after.toList.filter (Region.binds md)).map (·.on)) }
def meets (x y : Nat) : Bool := !(Nat.beq (x &&& y) 0)
def within (x y : Nat) : Bool := Nat.beq (x &&& y) x
theorem meets_of {x y t : Nat} (h1 : x.testBit t = true) (h2 : y.testBit t = true) : meets x y = true := by
  unfold meets
  cases h : Nat.beq (x &&& y) 0 with
  | false => rfl
  | true =>
    have h0 := Nat.eq_of_beq_eq_true h
    have : (x &&& y).testBit t = true := by rw [Nat.testBit_and, h1, h2]; rfl
    rw [h0] at this; simp at this
theorem within_of {x y t : Nat} (h : within x y = true) (h1 : x.testBit t = true) : y.testBit t = true := by
  have h0 := Nat.eq_of_beq_eq_true h
  have : (x &&& y).testBit t = true := by rw [h0]; exact h1
  rw [Nat.testBit_and] at this
  simp at this; exact this.2
/-- All others that have not come up, from number j on, let x be: they wait for it, or have nothing to do with it. -/
def lets (i : Nat) (x : Row) (m : Nat) : Nat → List Row → Bool
  | _, [] => true
  | j, y :: r => (Nat.beq j i || (m.testBit j || (y.a.testBit i || (!meets x.d y.l && (!meets x.d y.d && !meets y.d x.l))))) && lets i x m (j + 1) r
/-- No other can come up. -/
def lone (i : Nat) (m : Nat) : Nat → List Row → Bool
  | _, [] => true
  | j, y :: r => (Nat.beq j i || (m.testBit j || !within y.a m)) && lone i m (j + 1) r
def planGo (rows : List Row) : List (Nat × Bool) → Nat → Bool
  | [], m => lone rows.length m 0 rows
  | (i, fl) :: r, m => !m.testBit i && (match rows[i]? with
    | some x => within x.a m && ((if fl then lets i x m 0 rows else lone i m 0 rows) && planGo rows r (m ||| (1 <<< i)))
    | none => false)
def planOk (md : Region.Mode) (ops : Array Oper) (pl : List (Nat × Bool)) : Bool :=
  Nat.ble pl.length ops.size && planGo (ops.toList.map (rowOf md ops)) pl 0
theorem lets_spec {i : Nat} {x : Row} {m : Nat} : ∀ {l : List Row} {k j : Nat} {y : Row}, lets i x m k l = true → l[j]? = some y → k + j ≠ i → m.testBit (k + j) = false → y.a.testBit i = false →
    meets x.d y.l = false ∧ meets x.d y.d = false ∧ meets y.d x.l = false
  | z :: r, k, 0, y, h, hy, hne, hm, hw => by
    have hz : z = y := by simpa using hy
    subst hz
    simp only [lets, Bool.and_eq_true] at h
    have h1 := h.1
    simp only [Nat.add_zero] at hne hm
    have hb : Nat.beq k i = false := by
      cases hbb : Nat.beq k i with
      | false => rfl
      | true => exact absurd (Nat.eq_of_beq_eq_true hbb) hne
    simp only [hb, hm, hw, Bool.false_or] at h1
    simpa using h1
  | z :: r, k, j + 1, y, h, hy, hne, hm, hw => by
    simp only [lets, Bool.and_eq_true] at h
    exact lets_spec h.2 (by simpa using hy) (by omega) (by rw [show k + 1 + j = k + (j + 1) by omega]; exact hm) hw
theorem lone_spec {i m : Nat} : ∀ {l : List Row} {k j : Nat} {y : Row}, lone i m k l = true → l[j]? = some y → k + j ≠ i → m.testBit (k + j) = false → within y.a m = false
  | z :: r, k, 0, y, h, hy, hne, hm => by
    have hz : z = y := by simpa using hy
    subst hz
    simp only [lone, Bool.and_eq_true] at h
    have h1 := h.1
    simp only [Nat.add_zero] at hne hm
    have hb : Nat.beq k i = false := by
      cases hbb : Nat.beq k i with
      | false => rfl
      | true => exact absurd (Nat.eq_of_beq_eq_true hbb) hne
    simp only [hb, hm, Bool.false_or] at h1
    simpa using h1
  | z :: r, k, j + 1, y, h, hy, hne, hm => by
    simp only [lone, Bool.and_eq_true] at h
    exact lone_spec h.2 (by simpa using hy) (by omega) (by rw [show k + 1 + j = k + (j + 1) by omega]; exact hm)
section
variable {P : Program} {ops : Array Oper} {Q : Exit → Act → World → Prop} {md : Region.Mode} {S : World → Prop}
/-- The walk by the plan. -/
def wpPlan (P : Program) (ops : Array Oper) (Q : Exit → Act → World → Prop) (S : World → Prop) : List (Nat × Bool) → Act → World → Prop
  | [], a, w => Q .normal a w
  | (i, true) :: r, a, w => ∃ o v, ops[i]? = some o ∧ YieldsIf P ops S o v a ∧ wpPlan P ops Q S r (a.put o.dst v) w
  | (i, false) :: r, a, w => wpOp P ops Q i (fun a' w' => S w' ∧ wpPlan P ops Q S r a' w') a w
structure Told (ops : Array Oper) (listed : Array Bool) (m : Nat) : Prop where
  size : listed.size = ops.size
  bit : ∀ j, j < ops.size → listed.getD j false = m.testBit j
  ends : ∀ j, m.testBit j = true → j < ops.size
theorem getD_true_of {listed : Array Bool} {j : Nat} (h : j < listed.size) : listed.getD j true = listed.getD j false := by simp [h]
theorem Told.set {listed : Array Bool} {m i : Nat} (t : Told ops listed m) (hi : i < ops.size) : Told ops (listed.setIfInBounds i true) (m ||| (1 <<< i)) := by
  refine ⟨by simp [t.size], fun j hj => ?_, fun j hj => ?_⟩
  · by_cases hij : i = j
    · subst hij
      simp [t.size, hi]
    · rw [getD_set_ne false hij, t.bit j hj, Nat.testBit_or]
      simp [Nat.one_shiftLeft, Nat.testBit_two_pow, hij]
  · rw [Nat.testBit_or] at hj
    simp [Nat.one_shiftLeft, Nat.testBit_two_pow] at hj
    rcases hj with h | h
    · exact t.ends j h
    · omega
theorem row_at {j : Nat} {o : Oper} (h : ops[j]? = some o) : (ops.toList.map (rowOf md ops))[j]? = some (rowOf md ops o) := by
  rw [List.getElem?_map, Array.getElem?_toList, h]; rfl
theorem after_bit {o : Oper} {e : Edge} (he : e ∈ o.after) (hb : Region.binds md e = true) : (rowOf md ops o).a.testBit e.on = true :=
  bitsOf_spec (List.mem_map.2 ⟨e, List.mem_filter.2 ⟨by simpa using he, hb⟩, rfl⟩)
theorem mem_bitsOf {t : Nat} : ∀ {l : List Nat}, (bitsOf l).testBit t = true → t ∈ l
  | [], h => by simp [bitsOf] at h
  | u :: r, h => by
    simp only [bitsOf, Nat.testBit_or, Nat.one_shiftLeft, Nat.testBit_two_pow, Bool.or_eq_true, decide_eq_true_eq] at h
    rcases h with h | h
    · exact List.mem_cons.2 (Or.inl h.symm)
    · exact List.mem_cons.2 (Or.inr (mem_bitsOf h))
theorem within_iff {l : List Nat} {m : Nat} (h : ∀ t ∈ l, m.testBit t = true) : within (bitsOf l) m = true := by
  unfold within
  have : bitsOf l &&& m = bitsOf l := by
    apply Nat.eq_of_testBit_eq
    intro t
    rw [Nat.testBit_and]
    cases hb : (bitsOf l).testBit t with
    | false => rfl
    | true => rw [h t (mem_bitsOf hb)]; rfl
  rw [this]; exact Nat.beq_refl _
theorem ready_in {listed : Array Bool} {m i : Nat} (t : Told ops listed m) (hm : m.testBit i = false) {o : Oper} (ho : ops[i]? = some o) (hw : within (rowOf md ops o).a m = true) : i ∈ Region.ready md ops listed := by
  have hi : i < ops.size := (Array.getElem?_eq_some_iff.1 ho).1
  refine mem_ready.2 ⟨?_, o, ho, fun e he hb => ?_⟩
  · rw [getD_true_of (by rw [t.size]; exact hi), t.bit i hi]; exact hm
  · have := within_of hw (after_bit (ops := ops) he hb)
    rw [t.bit _ (t.ends _ this)]; exact this
theorem ready_lone {listed : Array Bool} {m i : Nat} (t : Told ops listed m) (hl : lone i m 0 (ops.toList.map (rowOf md ops)) = true) : ∀ j ∈ Region.ready md ops listed, j = i := by
  intro j hj
  obtain ⟨h0, o, ho, hall⟩ := mem_ready.1 hj
  have hi : j < ops.size := (Array.getElem?_eq_some_iff.1 ho).1
  rw [getD_true_of (by rw [t.size]; exact hi), t.bit j hi] at h0
  by_cases hji : j = i
  · exact hji
  · exfalso
    have h1 := lone_spec (j := j) hl (row_at (md := md) ho) (by omega) (by rw [Nat.zero_add]; exact h0)
    have h2 : within (rowOf md ops o).a m = true := by
      refine within_iff fun t' ht => ?_
      obtain ⟨e, he, rfl⟩ := List.mem_map.1 ht
      obtain ⟨he1, he2⟩ := List.mem_filter.1 he
      have h3 := hall e (by simpa using he1) he2
      have h4 : e.on < ops.size := by
        rcases Nat.lt_or_ge e.on listed.size with h | h
        · rw [t.size] at h; exact h
        · simp [Array.getElem?_eq_none h] at h3
      rw [t.bit _ h4] at h3; exact h3
    rw [h1] at h2; cases h2
theorem wpAnyH_of_plan (hs : Region.noSelect ops = true) (hQ : ∀ c a d v w, Q (.panic c) (a.put d v) w → Q (.panic c) a w) :
    ∀ (pl : List (Nat × Bool)) (m fuel : Nat) (listed : Array Bool) (a : Act) (w : World), Told ops listed m → pl.length ≤ fuel →
      planGo (ops.toList.map (rowOf md ops)) pl m = true → S w → wpPlan P ops Q S pl a w → wpAnyH P md ops Q S fuel listed a w
  | [], m, fuel, listed, a, w, t, _, hp, _, h => by
    refine wpAnyH_done ?_ h fuel
    have h1 := ready_lone t hp
    cases hr : Region.ready md ops listed with
    | nil => rfl
    | cons j r =>
      exfalso
      have hj : j ∈ Region.ready md ops listed := by rw [hr]; exact List.mem_cons_self
      have h2 := h1 j hj
      obtain ⟨_, o, ho, _⟩ := mem_ready.1 hj
      have hi : j < ops.size := (Array.getElem?_eq_some_iff.1 ho).1
      simp at h2; omega
  | (i, fl) :: r, m, 0, listed, a, w, t, hf, hp, _, h => by simp at hf
  | (i, fl) :: r, m, fuel + 1, listed, a, w, t, hf, hp, hS, h => by
    simp only [planGo, Bool.and_eq_true] at hp
    obtain ⟨hm, hp⟩ := hp
    have hm : m.testBit i = false := by simpa using hm
    cases ho : ops[i]? with
    | none => rw [List.getElem?_map, Array.getElem?_toList, ho] at hp; simp at hp
    | some o =>
      rw [row_at ho] at hp
      simp only [Bool.and_eq_true] at hp
      obtain ⟨hw, hc, hp⟩ := hp
      have hi : i < ops.size := (Array.getElem?_eq_some_iff.1 ho).1
      have hr := ready_in t hm ho hw
      cases fl with
      | true =>
        simp only [if_true] at hc
        obtain ⟨o', v, ho', hy, h⟩ := h
        have : o' = o := Option.some.inj (ho'.symm.trans ho)
        subst this
        refine wpAnyH_first ho (Region.noSelect_spec hs) (fun c a w => hQ c a _ v w) fuel listed a w ?_ hr hy hS
          (wpAnyH_of_plan hs hQ r _ fuel _ _ w (t.set hi) (by simpa using hf) hp hS h)
        intro j oj hj hne hun hno
        have hjs : j < ops.size := (Array.getElem?_eq_some_iff.1 hj).1
        rw [getD_true_of (by rw [t.size]; exact hjs), t.bit j hjs] at hun
        have hwi : (rowOf md ops oj).a.testBit i = false := by
          cases hb : (rowOf md ops oj).a.testBit i with
          | false => rfl
          | true =>
            obtain ⟨e, he, he2⟩ := List.mem_map.1 (mem_bitsOf hb)
            obtain ⟨he1, he3⟩ := List.mem_filter.1 he
            exact absurd he2 (hno e (by simpa using he1) he3)
        obtain ⟨h1, h2, h3⟩ := lets_spec (j := j) hc (row_at (md := md) hj) (by omega) (by rw [Nat.zero_add]; exact hun) hwi
        unfold Oper.apart
        have hd : ∀ {x : Oper} {d : Tmp}, x.dst = some d → (rowOf md ops x).d.testBit d = true := fun {x d} hx => by simp [rowOf, hx]
        have hl : ∀ {x : Oper} {d : Tmp}, d ∈ x.looksAt ops → (rowOf md ops x).l.testBit d = true := fun h => bitsOf_spec h
        simp only [Bool.and_eq_true]
        constructor
        · cases hx : o'.dst with
          | none => rfl
          | some d =>
            simp only [Bool.and_eq_true, Bool.not_eq_true', bne_iff_ne, ne_eq]
            constructor
            · cases hcn : (oj.looksAt ops).contains d with
              | false => rfl
              | true => rw [meets_of (hd hx) (hl (by simpa using hcn))] at h1; cases h1
            · intro he
              rw [meets_of (hd hx) (hd he)] at h2; cases h2
        · cases hx : oj.dst with
          | none => rfl
          | some d =>
            simp only [Bool.not_eq_true']
            cases hcn : (o'.looksAt ops).contains d with
            | false => rfl
            | true => rw [meets_of (hd hx) (hl (by simpa using hcn))] at h3; cases h3
      | false =>
        simp only [Bool.false_eq_true, if_false] at hc
        refine ⟨fun h0 => (by rw [h0] at hr; cases hr), fun j hj => ?_⟩
        have := ready_lone t hc j hj
        subst this
        exact wpOp_mono (fun a' w' ⟨hS', h'⟩ => ⟨hS', wpAnyH_of_plan hs hQ r _ fuel _ _ w' (t.set hi) (by simpa using hf) hp hS' h'⟩) h
/-- **THE LAW**. -/
theorem wp_region_plan {id : Nat} {a : Act} {w : World} (S : World → Prop) (pl : List (Nat × Bool)) (hm : P.follows .mixedOrders = true) (hs : Region.noSelect ops = true)
    (hok : planOk .any ops pl = true) (hQ : ∀ c a d v w, Q (.panic c) (a.put d v) w → Q (.panic c) a w) (hS : S w.drew)
    (h : wpPlan P ops Q S pl a w.drew) : (Code.region id ops true).wp P Q a w := by
  unfold planOk at hok
  simp only [Bool.and_eq_true] at hok
  refine wp_region_held (S := S) hm (wpAnyH_of_plan hs hQ pl 0 ops.size _ a _ ⟨by simp, fun j hj => ?_, fun j hj => by simp at hj⟩ (Nat.le_of_ble_eq_true hok.1) hok.2 hS h)
  simp [hj]
/-- A plan: what looks at no world first, by its kind; else the one that can come up. -/
def floats (o : Oper) : Bool := match o.op with
  | .move _ | .assign _ | .pick .. | .nilCheck _ | .binOp .. | .unOp .. | .fieldAddr .. | .field .. | .indexAddr .. | .index .. | .extract .. | .slice .. | .build .. => true
  | _ => false
def planFrom (md : Region.Mode) (ops : Array Oper) (fl : Nat → Bool) : Nat → Array Bool → List (Nat × Bool)
  | 0, _ => []
  | n + 1, listed =>
    let rd := Region.ready md ops listed
    match rd.find? (fun i => (((ops[i]?).map floats).getD false || fl i) && Region.free md ops listed i) with
    | some i => (i, true) :: planFrom md ops fl n (listed.setIfInBounds i true)
    | none => match rd with
      | i :: _ => (i, false) :: planFrom md ops fl n (listed.setIfInBounds i true)
      | [] => []
def planOf (ops : Array Oper) (fl : Nat → Bool) : List (Nat × Bool) := planFrom .any ops fl ops.size (Array.replicate ops.size false)
end
end Go.Proofs.Ythgigkjnbflnpaa
