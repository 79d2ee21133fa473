/- The steps that read and write memory: a load, a store, a new block; what becomes of the other blocks. -/
import Derived.Test.YtpnkgmmaanpgiaaKOps
import Derived.Lib.Hide
import Derived.Lib.Small
import Derived.Lib.Slices
import Derived.Deep.Heap
import Derived.Deep.WholeRow
import Derived.WalkLawsBesides
namespace Go.Proofs.Ytpnkgmmaanpgiaa
open Go Go.RowKit
set_option linter.unusedVariables false
set_option linter.unusedSimpArgs false
/-- Block b is a row of cells that may be written. -/
def Blk (w : World) (b : Nat) (c : Array Value) (T : TypeId) : Prop := w.heap[b]? = some (.cells c T (0, 0))
/-- All but block b is as it was. -/
structure But (b : Nat) (w w' : World) : Prop where
  os : w'.os = w.os
  tape : w'.tape = w.tape
  output : w'.output = w.output
  size : w'.heap.size = w.heap.size
  block : ∀ k, k ≠ b → w'.heap[k]? = w.heap[k]?
/-- One block more, the last one; all else is as it was. -/
structure Grew (o : Obj) (w w' : World) : Prop where
  os : w'.os = w.os
  tape : w'.tape = w.tape
  output : w'.output = w.output
  size : w'.heap.size = w.heap.size + 1
  block : ∀ k, k < w.heap.size → w'.heap[k]? = w.heap[k]?
  last : w'.heap[w.heap.size]? = some o
/-- Nothing but the count of draws is another one. -/
structure Same (w w' : World) : Prop where
  os : w'.os = w.os
  tape : w'.tape = w.tape
  output : w'.output = w.output
  heap : w'.heap = w.heap
theorem Blk.lt {w : World} {b : Nat} {c : Array Value} {T : TypeId} (h : Blk w b c T) : b < w.heap.size := (Array.getElem?_eq_some_iff.1 h).1
theorem Blk.cell {w : World} {b : Nat} {c : Array Value} {T : TypeId} (h : Blk w b c T) {o : Nat} {v : Value} (hv : c[o]? = some v) : w.cell? ⟨b, o, none⟩ = some v := by
  simp only [World.cell?]; rw [show w.heap[b]? = _ from h]; simpa using hv
theorem Blk.free {w : World} {b : Nat} {c : Array Value} {T : TypeId} (h : Blk w b c T) (o : Nat) : w.frozen? ⟨b, o, none⟩ = false := by
  simp only [World.frozen?]; rw [show w.heap[b]? = _ from h]; simp
theorem Blk.but {w w' : World} {b k : Nat} {c : Array Value} {T : TypeId} (h : Blk w b c T) (hb : But k w w') (hne : b ≠ k) : Blk w' b c T := (hb.block b hne).trans h
theorem Blk.grew {w w' : World} {b : Nat} {c : Array Value} {T : TypeId} {o : Obj} (h : Blk w b c T) (hg : Grew o w w') : Blk w' b c T := (hg.block b h.lt).trans h
theorem Blk.below {w w' : World} {b B : Nat} {c : Array Value} {T : TypeId} (h : Blk w b c T) (hg : Below B w w') (hb : b < B) : Blk w' b c T := (hg.block b hb).trans h
theorem Blk.same {w w' : World} {b : Nat} {c : Array Value} {T : TypeId} (h : Blk w b c T) (hg : Same w w') : Blk w' b c T := by unfold Blk; rw [hg.heap]; exact h
theorem Blk.drew {w : World} {b : Nat} {c : Array Value} {T : TypeId} (h : Blk w b c T) : Blk w.drew b c T := h
theorem Blk.ne {w : World} {b b' : Nat} {c c' : Array Value} {T T' : TypeId} (h : Blk w b c T) (h' : Blk w b' c' T') (hne : T ≠ T') : b ≠ b' := by
  rintro rfl; have := Option.some.inj (h.symm.trans h'); injection this with h1 h2; exact hne h2
theorem Grew.row {w w' : World} {c : Array Value} {T : TypeId} (h : Grew (.cells c T (0, 0)) w w') : Blk w' w.heap.size c T := h.last
theorem Grew.of (w : World) (o : Obj) : Grew o w (w.alloc o) := ⟨rfl, rfl, rfl, by simp [World.alloc, -World.alloc_eq], fun k hk => Below.heap_alloc _ _ _ hk, heap_alloc_last w o⟩
theorem Grew.below {w w' : World} {o : Obj} (h : Grew o w w') : Below w.heap.size w w' := ⟨h.os, h.tape, h.output, by rw [h.size]; omega, h.block⟩
theorem Grew.ext {w w' : World} {o : Obj} (h : Grew o w w') (X : Nat → Prop) : Ext X w w' := ⟨by rw [h.size]; omega, fun k _ hk => h.block k hk⟩
theorem But.refl (b : Nat) (w : World) : But b w w := ⟨rfl, rfl, rfl, rfl, fun _ _ => rfl⟩
theorem But.trans {b : Nat} {u v w : World} (h : But b u v) (k : But b v w) : But b u w := ⟨k.os.trans h.os, k.tape.trans h.tape, k.output.trans h.output, k.size.trans h.size, fun i hi => (k.block i hi).trans (h.block i hi)⟩
theorem But.set {b o : Nat} {w : World} (v : Value) : But b w (w.setCell ⟨b, o, none⟩ v) := ⟨rfl, rfl, rfl, by simp [World.setCell], fun k hk => by simp [World.setCell, Array.getElem?_modify, Ne.symm hk]⟩
theorem But.below {b B : Nat} {w w' : World} (h : But b w w') (hb : B ≤ b) : Below B w w' := ⟨h.os, h.tape, h.output, by rw [h.size]; exact Nat.le_refl _, fun k hk => h.block k (by omega)⟩
theorem But.ext {b : Nat} {w w' : World} (h : But b w w') {X : Nat → Prop} (hb : ¬ X b) : Ext X w w' := ⟨by rw [h.size]; exact Nat.le_refl _, fun k hx _ => h.block k (fun e => hb (e ▸ hx))⟩
theorem Same.refl (w : World) : Same w w := ⟨rfl, rfl, rfl, rfl⟩
theorem Same.drew (w : World) : Same w w.drew := ⟨rfl, rfl, rfl, rfl⟩
theorem Same.drewN (w : World) (n : Nat) : Same w (w.drewN n) := ⟨rfl, rfl, rfl, rfl⟩
theorem Same.trans {u v w : World} (h : Same u v) (k : Same v w) : Same u w := ⟨k.os.trans h.os, k.tape.trans h.tape, k.output.trans h.output, k.heap.trans h.heap⟩
theorem Same.below {w w' : World} (h : Same w w') (B : Nat) : Below B w w' := ⟨h.os, h.tape, h.output, by rw [h.heap]; exact Nat.le_refl _, fun k _ => by rw [h.heap]⟩
theorem Same.ext {w w' : World} (h : Same w w') (X : Nat → Prop) : Ext X w w' := ⟨by rw [h.heap]; exact Nat.le_refl _, fun k _ _ => by rw [h.heap]⟩
theorem below_ext {w w' : World} (h : Below w.heap.size w w') (X : Nat → Prop) : Ext X w w' := ⟨h.size, fun k _ hk => h.block k hk⟩
theorem row_set {w : World} {b o : Nat} {c : Array Value} {T : TypeId} (h : Blk w b c T) (v : Value) : Blk (w.setCell ⟨b, o, none⟩ v) b (c.setIfInBounds o v) T := by
  unfold Blk at *; simp [World.setCell, Array.getElem?_modify, h]
/-- A type whose values are of one cell. -/
def oneB (P : Program) (t : TypeId) : Bool := match P.info? t, P.underlying t with
  | some i, some (.struct _) => false
  | some i, some (.array _ _) => false
  | some i, some _ => i.size == 1
  | _, _ => false
section
variable {P : Program} {L : List Oper} {Q : Exit → Act → World → Prop} {dr : Bool} {X : Nat → Prop} {n : Nat} {r : List (Nat × Bool)} {l l' : List (Nat × Value)} {w w' : World} {i d : Nat} {fl : Bool} {ty : TypeId} {pos : String} {af : Array Edge} {g : Option (Nat × Bool)}
theorem oneB_agg {t : TypeId} (h : oneB P t = true) (u : World) : (isAgg t).run P u = .ok false u := by
  unfold oneB at h
  split at h
  · cases h
  · cases h
  · rename_i i d h1 h2 h3 h4
    simp only [isAgg, Sem.run_bind, run_underlying h4]
    cases d <;> first | rfl | exact absurd h4 (h2 _ _ h3) | exact absurd h4 (h1 _ _ h3) | skip
    all_goals simp_all
  · cases h
theorem St.cell {p : Addr} {v : Value} (hX : dr = true → X p.block) (hc : w.cell? p = some v) : ∀ u, St dr X w u → u.cell? p = some v := by
  intro u hu
  cases dr with
  | false => rw [show u = w from hu]; exact hc
  | true =>
    have hl : p.block < w.heap.size := by
      by_cases hb : p.block < w.heap.size
      · exact hb
      · have : w.heap[p.block]? = none := by simp; omega
        simp [World.cell?, this] at hc
    rw [← hc]
    simp only [World.cell?]
    rw [hu.2 _ (hX rfl) hl]
theorem run_load1 {t : TypeId} {p : Addr} {v : Value} {u : World} (ht : oneB P t = true) (hc : u.cell? p = some v) : (Instr.loadAt t (.pointer (some p))).run P u = .ok v u := by
  simp [Instr.loadAt, Instr.sureAddr, loadVar, Sem.run_bind, oneB_agg ht, hc]
theorem r_load1 {t : TypeId} {x : Operand} {p : Addr} {v : Value} (ho : nth L i = some ⟨some d, .load t x, ty, pos, af, g⟩) (hg : guardOk L n l g = true) (hx : opv n l x = some (.pointer (some p)))
    (ht : oneB P t = true) (hX : dr = true → X p.block) (hc : w.cell? p = some v) (h : WR P L Q dr X n r ((d, v) :: l) w) : WR P L Q dr X n ((i, fl) :: r) l w :=
  r_load ho hg hx (fun u hu => run_load1 ht (St.cell hX hc u hu)) h
/-! Whole values: read, written, laid new. -/
def putAt (c : Array Value) (o : Nat) : List Value → Array Value
  | [] => c
  | v :: r => putAt (c.setIfInBounds o v) (o + 1) r
theorem putAt_size : ∀ (vs : List Value) (c : Array Value) (o : Nat), (putAt c o vs).size = c.size
  | [], c, o => rfl
  | v :: r, c, o => by rw [putAt, putAt_size r]; simp
theorem add_plain (b o i : Nat) : (⟨b, o, none⟩ : Addr).add i = ⟨b, o + i, none⟩ := by unfold Addr.add; split <;> simp_all
theorem run_loadFrom {u : World} {b o : Nat} {c : Array Value} {T : TypeId} (hb : Blk u b c T) : ∀ (k i : Nat) (acc : Array Value), o + i + k ≤ c.size → (loadCellsFrom ⟨b, o, none⟩ i k acc).run P u = .ok (acc ++ c.extract (o + i) (o + i + k)) u
  | 0, i, acc, h => by simp [loadCellsFrom]; exact Nat.min_le_left _ _
  | k + 1, i, acc, h => by
    have hc : u.cell? ((⟨b, o, none⟩ : Addr).add i) = some c[o + i] := by rw [add_plain]; exact hb.cell (by simp)
    simp only [loadCellsFrom, Sem.run_bind, run_load, hc, Result.andThen]
    rw [run_loadFrom hb k (i + 1) _ (by omega)]
    congr 1
    apply Array.toList_inj.1
    simp only [Array.toList_append, Array.toList_push, Array.toList_extract, List.append_assoc]
    congr 1
    rw [List.extract_eq_take_drop, List.extract_eq_take_drop]
    have : c.toList.drop (o + i) = c[o + i] :: c.toList.drop (o + (i + 1)) := by
      rw [List.drop_eq_getElem_cons (by simp; omega)]; simp [Nat.add_assoc]
    rw [this]
    rw [show o + i + (k + 1) - (o + i) = k + 1 by omega, show o + (i + 1) + k - (o + (i + 1)) = k by omega]
    simp
/-- A type whose values are k cells, a struct's or an array's. -/
def aggB (P : Program) (t : TypeId) (k : Nat) : Bool := match P.info? t, P.underlying t with
  | some i, some (.struct _) => i.size == k
  | some i, some (.array _ _) => i.size == k
  | _, _ => false
theorem aggB_spec {t : TypeId} {k : Nat} (h : aggB P t k = true) (u : World) : (isAgg t).run P u = .ok true u ∧ (sizeOf t).run P u = .ok k u := by
  unfold aggB at h
  split at h
  · rename_i i fs h1 h2
    exact ⟨by simp [isAgg, Sem.run_bind, run_underlying h2], by simp [sizeOf, typeInfo, program, Sem.run_bind, Sem.run, h1] at h ⊢; exact h⟩
  · rename_i i fs e h1 h2
    exact ⟨by simp [isAgg, Sem.run_bind, run_underlying h2], by simp [sizeOf, typeInfo, program, Sem.run_bind, Sem.run, h1] at h ⊢; exact h⟩
  · cases h
theorem run_loadA {t : TypeId} {u : World} {b o k : Nat} {c : Array Value} {T : TypeId} (ht : aggB P t k = true) (hb : Blk u b c T) (hk : o + k ≤ c.size) : (Instr.loadAt t (.pointer (some ⟨b, o, none⟩))).run P u = .ok (.agg (c.extract o (o + k))) u := by
  obtain ⟨h1, h2⟩ := aggB_spec ht u
  have := run_loadFrom (P := P) hb k 0 #[] (by omega)
  simp only [Nat.add_zero] at this
  show (loadVar t ⟨b, o, none⟩).run P u = _
  simp only [loadVar, Sem.run_bind, h1, Result.andThen, if_true, h2, loadCells, this]
  simp
theorem r_loadA {t : TypeId} {x : Operand} {b o k : Nat} {c : Array Value} {T : TypeId} (ho : nth L i = some ⟨some d, .load t x, ty, pos, af, g⟩) (hg : guardOk L n l g = true) (hx : opv n l x = some (.pointer (some ⟨b, o, none⟩)))
    (ht : aggB P t k = true) (hX : dr = true → X b) (hb : Blk w b c T) (hk : o + k ≤ c.size) (h : WR P L Q dr X n r ((d, .agg (c.extract o (o + k))) :: l) w) : WR P L Q dr X n ((i, fl) :: r) l w := by
  refine r_load ho hg hx (fun u hu => run_loadA ht (T := T) ?_ hk) h
  cases dr with
  | false => rw [show u = w from hu]; exact hb
  | true => unfold Blk; rw [hu.2 _ (hX rfl) hb.lt]; exact hb
theorem run_loadFromC {u : World} {b o : Nat} {cs : List Value} (hc : ∀ j v, cs[j]? = some v → u.cell? ⟨b, o + j, none⟩ = some v) : ∀ (k i : Nat) (acc : Array Value), i + k = cs.length → (loadCellsFrom ⟨b, o, none⟩ i k acc).run P u = .ok (acc ++ (cs.drop i).toArray) u
  | 0, i, acc, h => by
    have : cs.drop i = [] := List.drop_eq_nil_of_le (by omega)
    simp [loadCellsFrom, this]
  | k + 1, i, acc, h => by
    have hi : i < cs.length := by omega
    have hcc : u.cell? ((⟨b, o, none⟩ : Addr).add i) = some cs[i] := by rw [add_plain]; exact hc i _ (by simp)
    simp only [loadCellsFrom, Sem.run_bind, run_load, hcc, Result.andThen]
    rw [run_loadFromC hc k (i + 1) _ (by omega)]
    congr 1
    apply Array.toList_inj.1
    rw [List.drop_eq_getElem_cons hi]
    simp
theorem run_loadC {t : TypeId} {u : World} {b o : Nat} {cs : List Value} (ht : aggB P t cs.length = true) (hc : ∀ j v, cs[j]? = some v → u.cell? ⟨b, o + j, none⟩ = some v) : (Instr.loadAt t (.pointer (some ⟨b, o, none⟩))).run P u = .ok (.agg cs.toArray) u := by
  obtain ⟨h1, h2⟩ := aggB_spec ht u
  have := run_loadFromC (P := P) hc cs.length 0 #[] (by omega)
  show (loadVar t ⟨b, o, none⟩).run P u = _
  simp only [loadVar, Sem.run_bind, h1, Result.andThen, if_true, h2, loadCells, this]
  simp
/-- A whole value out of known cells. -/
theorem r_loadC {t : TypeId} {x : Operand} {b o : Nat} {cs : List Value} (ho : nth L i = some ⟨some d, .load t x, ty, pos, af, g⟩) (hg : guardOk L n l g = true) (hx : opv n l x = some (.pointer (some ⟨b, o, none⟩)))
    (ht : aggB P t cs.length = true) (hX : dr = true → X b) (hc : ∀ j v, cs[j]? = some v → w.cell? ⟨b, o + j, none⟩ = some v) (h : WR P L Q dr X n r ((d, .agg cs.toArray) :: l) w) : WR P L Q dr X n ((i, fl) :: r) l w :=
  r_load ho hg hx (fun u hu => run_loadC ht (fun j v hj => St.cell hX (hc j v hj) u hu)) h
/-- A block, read whole. -/
theorem r_loadW {t : TypeId} {x : Operand} {b : Nat} {c : Array Value} {T : TypeId} (ho : nth L i = some ⟨some d, .load t x, ty, pos, af, g⟩) (hg : guardOk L n l g = true) (hx : opv n l x = some (.pointer (some ⟨b, 0, none⟩)))
    (hX : dr = true → X b) (hb : Blk w b c T) (ht : aggB P t c.size = true) (h : WR P L Q dr X n r ((d, .agg c) :: l) w) : WR P L Q dr X n ((i, fl) :: r) l w :=
  r_loadA ho hg hx ht hX hb (by omega) (by rw [Nat.zero_add, Array.extract_size]; exact h)
theorem run_store1 {t : TypeId} {p : Addr} {v v0 : Value} (ht : oneB P t = true) (hv : v.oneCell' = true) (hc : w.cell? p = some v0) (hf : w.frozen? p = false) : (Instr.storeAt t (.pointer (some p)) v).run P w = .ok () (w.setCell p v) := by
  unfold oneB at ht
  have h1 : v.cells = #[v] := by cases v <;> simp_all [Value.cells, Value.oneCell']
  have hs : (sizeOf t).run P w = .ok 1 w := by
    split at ht
    · cases ht
    · cases ht
    · rename_i i d a1 a2 a3 a4
      simp [sizeOf, typeInfo, program, Sem.run_bind, Sem.run, a3] at ht ⊢; exact ht
    · cases ht
  have h2 := run_store P w p v .plain hv
  rw [hc] at h2
  simp only [hf] at h2
  show (storeVar t p v).run P w = _
  simp only [storeVar, Sem.run_bind, hs, h1, Result.andThen]
  simp [storeCells, Addr.add, h2, Result.andThen]
theorem a_storeB {t : TypeId} {x y : Operand} {b o : Nat} {v : Value} {c : Array Value} {T : TypeId} (ho : nth L i = some ⟨none, .store t x y, ty, pos, af, g⟩) (hg : guardOk L n l g = true) (hx : opv n l x = some (.pointer (some ⟨b, o, none⟩))) (hy : opv n l y = some v)
    (ht : oneB P t = true) (hv : v.oneCell' = true) (hb : Blk w b c T) (ho' : o < c.size) (hX : dr = true → ¬ X b) (h : ∀ w', But b w w' → Blk w' b (c.setIfInBounds o v) T → WR P L Q dr X n r l w') : WR P L Q dr X n ((i, false) :: r) l w :=
  a_store ho hg hx hy (run_store1 ht hv (hb.cell (v := c[o]) (by simp)) (hb.free o)) (fun e => (But.set v).ext (hX e)) (h _ (But.set v) (row_set hb v))
theorem run_box {t : TypeId} {v : Value} : (Instr.box t v).run P w = .ok (.pointer (some ⟨w.heap.size, 0, none⟩)) (w.alloc (.cells v.cells t)) := by
  simp [Instr.box, newVar, newRow, Result.andThen]
theorem a_boxB {t : TypeId} {x : Operand} {v : Value} (ho : nth L i = some ⟨some d, .box t x, ty, pos, af, g⟩) (hg : guardOk L n l g = true) (hx : opv n l x = some v)
    (h : ∀ w', Grew (.cells v.cells t (0, 0)) w w' → WR P L Q dr X n r ((d, .pointer (some ⟨w.heap.size, 0, none⟩)) :: l) w') : WR P L Q dr X n ((i, false) :: r) l w :=
  a_box ho hg hx run_box (fun _ => (Grew.of _ _).ext X) (h _ (Grew.of _ _))
theorem run_alloc {t : TypeId} {z : Value} (hz : (zeroValue t).run P w = .ok z w) : (Instr.alloc t true (.tuple #[])).run P w = .ok (.pointer (some ⟨w.heap.size, 0, none⟩)) (w.alloc (.cells z.cells t)) := by
  simp [Instr.alloc, newVar, newRow, Sem.run_bind, hz, Result.andThen]
theorem a_allocB {t : TypeId} {z : Value} (ho : nth L i = some ⟨some d, .alloc t, ty, pos, af, g⟩) (hg : guardOk L n l g = true) (hz : ∀ u, (zeroValue t).run P u = .ok z u)
    (h : ∀ w', Grew (.cells z.cells t (0, 0)) w w' → WR P L Q dr X n r ((d, .pointer (some ⟨w.heap.size, 0, none⟩)) :: l) w') : WR P L Q dr X n ((i, false) :: r) l w :=
  a_alloc ho hg (run_alloc (hz w)) (fun _ => (Grew.of _ _).ext X) (h _ (Grew.of _ _))
/-! Addresses. -/
theorem run_fieldAt {s : TypeId} {fs : Array Field} {f : Nat} {fd : Field} {u : World} {b o : Nat} (hs : P.underlying s = some (.struct fs)) (hf : fs[f]? = some fd) (hz : (P.info? fd.type).map (·.size == 0) = some false) :
    (Instr.fieldAt s (.pointer (some ⟨b, o, none⟩)) f).run P u = .ok (.pointer (some ⟨b, o + fd.offset, none⟩)) u := by
  cases hi : P.info? fd.type with
  | none => rw [hi] at hz; cases hz
  | some i =>
    rw [hi] at hz
    have hz' : ¬ i.size = 0 := by simpa using hz
    simp [Instr.fieldAt, Instr.sureAddr, fieldPlace, Sem.run_bind, run_underlying hs, hf, sizeOf, typeInfo, program, Sem.run, hi, hz', Result.andThen, add_plain]
/-- Where a struct's field begins. -/
def offB (P : Program) (s : TypeId) (f : Nat) : Option Nat := match P.underlying s with
  | some (.struct fs) => match fs[f]? with
    | some fd => match P.info? fd.type with
      | some i => if i.size = 0 then none else some fd.offset
      | none => none
    | none => none
  | _ => none
theorem run_field {s : TypeId} {f k : Nat} {u : World} {b o : Nat} (h : offB P s f = some k) : (Instr.fieldAt s (.pointer (some ⟨b, o, none⟩)) f).run P u = .ok (.pointer (some ⟨b, o + k, none⟩)) u := by
  unfold offB at h
  split at h
  · rename_i fs hs
    split at h
    · rename_i fd hf
      split at h
      · rename_i i hi
        split at h
        · cases h
        · rename_i hz
          injection h with h; subst h
          exact run_fieldAt hs hf (by simp [hi, hz])
      · cases h
    · cases h
  · cases h
theorem r_fieldO {s : TypeId} {f k : Nat} {x : Operand} {b o : Nat} (ho : nth L i = some ⟨some d, .fieldAddr s x f, ty, pos, af, g⟩) (hg : guardOk L n l g = true) (hx : opv n l x = some (.pointer (some ⟨b, o, none⟩))) (hk : offB P s f = some k)
    (h : WR P L Q dr X n r ((d, .pointer (some ⟨b, o + k, none⟩)) :: l) w) : WR P L Q dr X n ((i, fl) :: r) l w :=
  r_fieldAddr ho hg hx (fun u _ => run_field hk) h
/-- The cells of an element; an array's length. -/
def elemB (P : Program) (t : TypeId) : Option (Option Nat × Nat) := match P.underlying t with
  | some (.slice e) => (P.info? e).map fun i => (none, i.size)
  | some (.array m e) => (P.info? e).map fun i => (some m, i.size)
  | _ => none
theorem run_indexS {t : TypeId} {k : Nat} {u : World} {b o len cap : Nat} {q : IntKind} {x : Int} (h : elemB P t = some (none, k)) (h0 : 0 ≤ x) (h1 : x < len) :
    (Instr.indexAt t (.slice (some ⟨b, o, none⟩) len cap) (.int q x)).run P u = .ok (.pointer (some ⟨b, o + x.toNat * k, none⟩)) u := by
  unfold elemB at h
  split at h
  · rename_i e hs
    cases hi : P.info? e with
    | none => rw [hi] at h; cases h
    | some i =>
      rw [hi] at h
      have hz : i.size = k := by simpa using h
      subst hz
      simp [Instr.indexAt, asIntOf, Sem.run_bind, run_underlying hs, sizeOf, typeInfo, program, Sem.run, hi, Result.andThen, h0, h1, add_plain]
  · cases h' : P.info? _ <;> rw [h'] at h <;> simp at h
  · cases h
theorem run_indexA {t : TypeId} {k m : Nat} {u : World} {b o : Nat} {q : IntKind} {x : Int} (h : elemB P t = some (some m, k)) (h0 : 0 ≤ x) (h1 : x < m) :
    (Instr.indexAt t (.pointer (some ⟨b, o, none⟩)) (.int q x)).run P u = .ok (.pointer (some ⟨b, o + x.toNat * k, none⟩)) u := by
  unfold elemB at h
  split at h
  · cases h' : P.info? _ <;> rw [h'] at h <;> simp at h
  · rename_i m' e hs
    cases hi : P.info? e with
    | none => rw [hi] at h; cases h
    | some i =>
      rw [hi] at h
      have hz : m' = m ∧ i.size = k := by simpa using h
      obtain ⟨rfl, rfl⟩ := hz
      simp [Instr.indexAt, Instr.sureAddr, asIntOf, Sem.run_bind, run_underlying hs, sizeOf, typeInfo, program, Sem.run, hi, Result.andThen, h0, h1, add_plain]
  · cases h
theorem r_indexS {t : TypeId} {k : Nat} {x y : Operand} {b o len cap : Nat} {q : IntKind} {j : Int} (ho : nth L i = some ⟨some d, .indexAddr t x y, ty, pos, af, g⟩) (hg : guardOk L n l g = true) (hx : opv n l x = some (.slice (some ⟨b, o, none⟩) len cap)) (hy : opv n l y = some (.int q j)) (hk : elemB P t = some (none, k)) (h0 : 0 ≤ j) (h1 : j < len)
    (h : WR P L Q dr X n r ((d, .pointer (some ⟨b, o + j.toNat * k, none⟩)) :: l) w) : WR P L Q dr X n ((i, fl) :: r) l w :=
  r_indexAddr ho hg hx hy (fun u _ => run_indexS hk h0 h1) h
theorem r_indexA {t : TypeId} {k m : Nat} {x y : Operand} {b o : Nat} {q : IntKind} {j : Int} (ho : nth L i = some ⟨some d, .indexAddr t x y, ty, pos, af, g⟩) (hg : guardOk L n l g = true) (hx : opv n l x = some (.pointer (some ⟨b, o, none⟩))) (hy : opv n l y = some (.int q j)) (hk : elemB P t = some (some m, k)) (h0 : 0 ≤ j) (h1 : j < m)
    (h : WR P L Q dr X n r ((d, .pointer (some ⟨b, o + j.toNat * k, none⟩)) :: l) w) : WR P L Q dr X n ((i, fl) :: r) l w :=
  r_indexAddr ho hg hx hy (fun u _ => run_indexA hk h0 h1) h
theorem r_indexS1 {t : TypeId} {x y : Operand} {b o len cap : Nat} {q : IntKind} {j : Int} (ho : nth L i = some ⟨some d, .indexAddr t x y, ty, pos, af, g⟩) (hg : guardOk L n l g = true) (hx : opv n l x = some (.slice (some ⟨b, o, none⟩) len cap)) (hy : opv n l y = some (.int q j)) (hk : elemB P t = some (none, 1)) (h0 : 0 ≤ j) (h1 : j < len)
    (h : WR P L Q dr X n r ((d, .pointer (some ⟨b, o + j.toNat, none⟩)) :: l) w) : WR P L Q dr X n ((i, fl) :: r) l w :=
  r_indexAddr ho hg hx hy (fun u _ => by rw [run_indexS hk h0 h1, Nat.mul_one]) h
theorem r_indexA1 {t : TypeId} {m : Nat} {x y : Operand} {b o : Nat} {q : IntKind} {j : Int} (ho : nth L i = some ⟨some d, .indexAddr t x y, ty, pos, af, g⟩) (hg : guardOk L n l g = true) (hx : opv n l x = some (.pointer (some ⟨b, o, none⟩))) (hy : opv n l y = some (.int q j)) (hk : elemB P t = some (some m, 1)) (h0 : 0 ≤ j) (h1 : j < m)
    (h : WR P L Q dr X n r ((d, .pointer (some ⟨b, o + j.toNat, none⟩)) :: l) w) : WR P L Q dr X n ((i, fl) :: r) l w :=
  r_indexAddr ho hg hx hy (fun u _ => by rw [run_indexA hk h0 h1, Nat.mul_one]) h
def slB (P : Program) (t : TypeId) : Bool := match P.underlying t with
  | some (.slice _) => true
  | _ => false
def strB (P : Program) (t : TypeId) : Bool := match P.underlying t with
  | some .string => true
  | _ => false
theorem run_lenS {t ty : TypeId} {a : Option Addr} {len cap : Nat} {u : World} (h : slB P t = true) : (Builtin.len_ [t].toArray ty #[.slice a len cap]).run P u = .ok (.int .i64 len) u := by
  unfold slB at h
  split at h
  · rename_i e he; simp [Builtin.len_, Sem.run_bind, run_underlying he, goInt]
  · cases h
theorem run_capS {t ty : TypeId} {a : Option Addr} {len cap : Nat} {u : World} (h : slB P t = true) : (Builtin.cap_ [t].toArray ty #[.slice a len cap]).run P u = .ok (.int .i64 cap) u := by
  unfold slB at h
  split at h
  · rename_i e he; simp [Builtin.cap_, Sem.run_bind, run_underlying he, goInt]
  · cases h
theorem run_lenT {t ty : TypeId} {s : ByteArray} {u : World} (h : strB P t = true) : (Builtin.len_ [t].toArray ty #[.string s]).run P u = .ok (.int .i64 s.size) u := by
  unfold strB at h
  split at h
  · rename_i he; simp [Builtin.len_, Sem.run_bind, run_underlying he, goInt]
  · cases h
theorem r_lenS {t : TypeId} {x : Operand} {a : Option Addr} {len cap : Nat} (ho : nth L i = some ⟨some d, .call { callee := .builtin .len, args := [x].toArray, argTypes := [t].toArray }, ty, pos, af, g⟩) (hg : guardOk L n l g = true) (hx : opv n l x = some (.slice a len cap)) (ht : slB P t = true)
    (h : WR P L Q dr X n r ((d, .int .i64 len) :: l) w) : WR P L Q dr X n ((i, fl) :: r) l w :=
  r_builtin ho hg (us := [.slice a len cap]) (by simp [valsOf, hx]) (fun u _ => run_v (run_lenS ht)) h
theorem r_lenT {t : TypeId} {x : Operand} {s : ByteArray} (ho : nth L i = some ⟨some d, .call { callee := .builtin .len, args := [x].toArray, argTypes := [t].toArray }, ty, pos, af, g⟩) (hg : guardOk L n l g = true) (hx : opv n l x = some (.string s)) (ht : strB P t = true)
    (h : WR P L Q dr X n r ((d, .int .i64 s.size) :: l) w) : WR P L Q dr X n ((i, fl) :: r) l w :=
  r_builtin ho hg (us := [.string s]) (by simp [valsOf, hx]) (fun u _ => run_v (run_lenT ht)) h
theorem r_capS {t : TypeId} {x : Operand} {a : Option Addr} {len cap : Nat} (ho : nth L i = some ⟨some d, .call { callee := .builtin .cap, args := [x].toArray, argTypes := [t].toArray }, ty, pos, af, g⟩) (hg : guardOk L n l g = true) (hx : opv n l x = some (.slice a len cap)) (ht : slB P t = true)
    (h : WR P L Q dr X n r ((d, .int .i64 cap) :: l) w) : WR P L Q dr X n ((i, fl) :: r) l w :=
  r_builtin ho hg (us := [.slice a len cap]) (by simp [valsOf, hx]) (fun u _ => run_v (run_capS ht)) h
theorem min_if (a b : Int) : (if b < a then b else a) = min a b := by split <;> omega
theorem max_if (a b : Int) : (if b > a then b else a) = max a b := by split <;> omega
theorem r_min2 {ats : Array TypeId} {x y : Operand} {k : IntKind} {a b : Int} (ho : nth L i = some ⟨some d, .call { callee := .builtin .min, args := [x, y].toArray, argTypes := ats }, ty, pos, af, g⟩) (hg : guardOk L n l g = true) (hx : opv n l x = some (.int k a)) (hy : opv n l y = some (.int k b))
    (h : WR P L Q dr X n r ((d, .int k (min a b)) :: l) w) : WR P L Q dr X n ((i, fl) :: r) l w :=
  r_builtin ho hg (us := [.int k a, .int k b]) (by simp [valsOf, hx, hy]) (fun u _ => run_v (by rw [← min_if]; rfl)) h
theorem r_max2 {ats : Array TypeId} {x y : Operand} {k : IntKind} {a b : Int} (ho : nth L i = some ⟨some d, .call { callee := .builtin .max, args := [x, y].toArray, argTypes := ats }, ty, pos, af, g⟩) (hg : guardOk L n l g = true) (hx : opv n l x = some (.int k a)) (hy : opv n l y = some (.int k b))
    (h : WR P L Q dr X n r ((d, .int k (max a b)) :: l) w) : WR P L Q dr X n ((i, fl) :: r) l w :=
  r_builtin ho hg (us := [.int k a, .int k b]) (by simp [valsOf, hx, hy]) (fun u _ => run_v (by rw [← max_if]; rfl)) h
theorem r_min3 {ats : Array TypeId} {x y z : Operand} {k : IntKind} {a b c : Int} (ho : nth L i = some ⟨some d, .call { callee := .builtin .min, args := [x, y, z].toArray, argTypes := ats }, ty, pos, af, g⟩) (hg : guardOk L n l g = true) (hx : opv n l x = some (.int k a)) (hy : opv n l y = some (.int k b)) (hz : opv n l z = some (.int k c))
    (h : WR P L Q dr X n r ((d, .int k (min (min a b) c)) :: l) w) : WR P L Q dr X n ((i, fl) :: r) l w :=
  r_builtin ho hg (us := [.int k a, .int k b, .int k c]) (by simp [valsOf, hx, hy, hz]) (fun u _ => run_v (by rw [← min_if, ← min_if]; rfl)) h
theorem l_lenS {t : TypeId} {cs : Array Bool} {a : Option Addr} {len cap : Nat} (ht : slB P t = true) (h : WR P L Q dr X n r ((d, .int .i64 len) :: l) w) : BL P L Q dr X n r d .len [t].toArray ty cs [.slice a len cap] l w := ⟨_, fun u _ => run_v (run_lenS ht), h⟩
theorem l_lenT {t : TypeId} {cs : Array Bool} {s : ByteArray} (ht : strB P t = true) (h : WR P L Q dr X n r ((d, .int .i64 s.size) :: l) w) : BL P L Q dr X n r d .len [t].toArray ty cs [.string s] l w := ⟨_, fun u _ => run_v (run_lenT ht), h⟩
theorem l_capS {t : TypeId} {cs : Array Bool} {a : Option Addr} {len cap : Nat} (ht : slB P t = true) (h : WR P L Q dr X n r ((d, .int .i64 cap) :: l) w) : BL P L Q dr X n r d .cap [t].toArray ty cs [.slice a len cap] l w := ⟨_, fun u _ => run_v (run_capS ht), h⟩
theorem l_min2 {ats : Array TypeId} {cs : Array Bool} {k : IntKind} {a b : Int} (h : WR P L Q dr X n r ((d, .int k (min a b)) :: l) w) : BL P L Q dr X n r d .min ats ty cs [.int k a, .int k b] l w := ⟨_, fun u _ => run_v (by rw [← min_if]; rfl), h⟩
theorem l_max2 {ats : Array TypeId} {cs : Array Bool} {k : IntKind} {a b : Int} (h : WR P L Q dr X n r ((d, .int k (max a b)) :: l) w) : BL P L Q dr X n r d .max ats ty cs [.int k a, .int k b] l w := ⟨_, fun u _ => run_v (by rw [← max_if]; rfl), h⟩
theorem l_min3 {ats : Array TypeId} {cs : Array Bool} {k : IntKind} {a b c : Int} (h : WR P L Q dr X n r ((d, .int k (min (min a b) c)) :: l) w) : BL P L Q dr X n r d .min ats ty cs [.int k a, .int k b, .int k c] l w := ⟨_, fun u _ => run_v (by rw [← min_if, ← min_if]; rfl), h⟩
end
end Go.Proofs.Ytpnkgmmaanpgiaa
