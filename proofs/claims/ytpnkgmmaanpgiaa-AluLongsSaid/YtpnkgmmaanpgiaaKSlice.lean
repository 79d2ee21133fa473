/- Slicing arrays, slices and strings; nil checks; whole values stored. -/
import Derived.Test.YtpnkgmmaanpgiaaKSl
namespace Go.Proofs.Ytpnkgmmaanpgiaa
open Go Go.RowKit
set_option linter.unusedVariables false
set_option linter.unusedSimpArgs false
section
variable {P : Program} {L : List Oper} {Q : Exit → Act → World → Prop} {dr : Bool} {X : Nat → Prop} {n : Nat} {r : List (Nat × Bool)} {l l' : List (Nat × Value)} {w w' : World} {i d : Nat} {fl : Bool} {ty : TypeId} {pos : String} {af : Array Edge} {g : Option (Nat × Bool)}
theorem r_nilCheck {x : Operand} {p : Addr} (ho : nth L i = some ⟨some d, .nilCheck x, ty, pos, af, g⟩) (hg : guardOk L n l g = true) (hx : opv n l x = some (.pointer (some p)))
    (h : WR P L Q dr X n r ((d, .pointer (some p)) :: l) w) : WR P L Q dr X n ((i, fl) :: r) l w :=
  r_val ho rfl hg (fun a ha u _ => by simp only [execOp, opv_spec ha hx]; rfl) h
theorem r_loadB {t : TypeId} {x : Operand} {b o : Nat} {c : Array Value} {T : TypeId} {v : Value} (ho : nth L i = some ⟨some d, .load t x, ty, pos, af, g⟩) (hg : guardOk L n l g = true) (hx : opv n l x = some (.pointer (some ⟨b, o, none⟩)))
    (ht : oneB P t = true) (hX : dr = true → X b) (hb : Blk w b c T) (hv : nth c.toList o = some v) (h : WR P L Q dr X n r ((d, v) :: l) w) : WR P L Q dr X n ((i, fl) :: r) l w :=
  r_load1 ho hg hx ht hX (hb.cell (by rw [nth_eq] at hv; simpa using hv)) h
theorem run_storeA {t : TypeId} {b o : Nat} {cs c : Array Value} {T : TypeId} (ht : aggB P t cs.size = true) (h1 : ∀ v ∈ cs.toList, v.oneCell' = true) (hb : Blk w b c T) (hk : o + cs.size ≤ c.size) :
    (Instr.storeAt t (.pointer (some ⟨b, o, none⟩)) (.agg cs)).run P w = .ok () (w.setCells b o cs.toList) := by
  obtain ⟨_, h2⟩ := aggB_spec ht w
  have hst := run_storeCells_cells (P := P) b o cs.toList 0 w (fun j hj => by
    have hj' : j < cs.size := by simpa using hj
    rw [Nat.add_zero, hb.cell (v := c[o + j]'(by omega)) (by simp)]; rfl) (fun j hj => hb.free _) h1
  simp only [Nat.add_zero] at hst
  show (storeVar t ⟨b, o, none⟩ (.agg cs)).run P w = _
  simp only [storeVar, Sem.run_bind, h2, Result.andThen, Value.cells]
  simp [hst]
theorem a_storeA {t : TypeId} {x y : Operand} {b o : Nat} {cs c : Array Value} {T : TypeId} (ho : nth L i = some ⟨none, .store t x y, ty, pos, af, g⟩) (hg : guardOk L n l g = true) (hx : opv n l x = some (.pointer (some ⟨b, o, none⟩))) (hy : opv n l y = some (.agg cs))
    (ht : aggB P t cs.size = true) (h1 : ∀ v ∈ cs.toList, v.oneCell' = true) (hb : Blk w b c T) (hk : o + cs.size ≤ c.size) (hX : dr = true → ¬ X b) (h : ∀ w', But b w w' → Blk w' b (putAt c o cs.toList) T → WR P L Q dr X n r l w') : WR P L Q dr X n ((i, false) :: r) l w :=
  a_store ho hg hx hy (run_storeA ht h1 hb hk) (fun e => (setCells_but b cs.toList o w).ext (hX e)) (h _ (setCells_but _ _ _ _) (setCells_blk _ _ _ _ _ hb))
theorem run_bound {q : IntKind} {x : Int} {y : Nat} {code : BoundsCode} {u : World} (h0 : 0 ≤ x) (h1 : x ≤ y) : (Instr.sliceBound (.int q x) y code).run P u = .ok x.toNat u := by
  simp [Instr.sliceBound, asIntOf, h0, h1]
theorem elemB_arr {t : TypeId} {m k : Nat} (h : elemB P t = some (some m, k)) : ∃ e, P.underlying t = some (.array m e) ∧ ∀ u, (sizeOf e).run P u = .ok k u := by
  unfold elemB at h
  split at h
  · cases h' : P.info? _ <;> rw [h'] at h <;> simp at h
  · rename_i m' e hs
    cases hi : P.info? e with
    | none => rw [hi] at h; cases h
    | some j =>
      rw [hi] at h
      have hz : m' = m ∧ j.size = k := by simpa using h
      obtain ⟨rfl, rfl⟩ := hz
      exact ⟨e, hs, fun u => by simp [sizeOf, typeInfo, program, Sem.run_bind, Sem.run, hi]⟩
  · cases h
theorem elemB_sl {t : TypeId} {k : Nat} (h : elemB P t = some (none, k)) : ∃ e, P.underlying t = some (.slice e) ∧ ∀ u, (sizeOf e).run P u = .ok k u := by
  unfold elemB at h
  split at h
  · rename_i e hs
    cases hi : P.info? e with
    | none => rw [hi] at h; cases h
    | some j =>
      rw [hi] at h
      have hz : j.size = k := by simpa using h
      subst hz
      exact ⟨e, hs, fun u => by simp [sizeOf, typeInfo, program, Sem.run_bind, Sem.run, hi]⟩
  · cases h' : P.info? _ <;> rw [h'] at h <;> simp at h
  · cases h
theorem run_cutA0 {t : TypeId} {m k b o : Nat} (hk : elemB P t = some (some m, k))  {u : World} :
    (Instr.sliceAt t (.pointer (some ⟨b, o, none⟩)) none none none).run P u = .ok (.slice (some (if m = 0 then ⟨b, o, none⟩ else ⟨b, o + 0 * k, none⟩)) (m - 0) (m - 0)) u := by
  obtain ⟨e, hs, hz⟩ := elemB_arr hk
  simp [Instr.sliceAt, Instr.slice, Instr.sureAddr, Instr.sliceBounds, Sem.run_bind, run_underlying hs, hz, Result.andThen, add_plain]
theorem r_cutA0 {t : TypeId} {X0 : Operand} {m k b o : Nat} (ho : nth L i = some ⟨some d, .slice t X0 none none none, ty, pos, af, g⟩) (hg : guardOk L n l g = true) (hx : opv n l X0 = some (.pointer (some ⟨b, o, none⟩))) (hk : elemB P t = some (some m, k)) 
    (h : WR P L Q dr X n r ((d, .slice (some (if m = 0 then ⟨b, o, none⟩ else ⟨b, o + 0 * k, none⟩)) (m - 0) (m - 0)) :: l) w) : WR P L Q dr X n ((i, fl) :: r) l w :=
  r_slice0 ho hg hx (fun u _ => run_cutA0 hk) h
theorem run_cutAL {t : TypeId} {q : IntKind} {x : Int} {m k b o : Nat} (hk : elemB P t = some (some m, k)) (x0 : 0 ≤ x) (x1 : x ≤ m) {u : World} :
    (Instr.sliceAt t (.pointer (some ⟨b, o, none⟩)) (some (.int q x)) none none).run P u = .ok (.slice (some (if m = x.toNat then ⟨b, o, none⟩ else ⟨b, o + x.toNat * k, none⟩)) (m - x.toNat) (m - x.toNat)) u := by
  obtain ⟨e, hs, hz⟩ := elemB_arr hk
  simp [Instr.sliceAt, Instr.slice, Instr.sureAddr, Instr.sliceBounds, Sem.run_bind, run_underlying hs, hz, Result.andThen, add_plain, run_bound x0 (show x ≤ ((m : Nat) : Int) by omega)]
theorem r_cutAL {t : TypeId} {q : IntKind} {x : Int} {X0 : Operand} {Y0 : Operand} {m k b o : Nat} (ho : nth L i = some ⟨some d, .slice t X0 (some Y0) none none, ty, pos, af, g⟩) (hg : guardOk L n l g = true) (hx : opv n l X0 = some (.pointer (some ⟨b, o, none⟩))) (hlo : opv n l Y0 = some (.int q x)) (hk : elemB P t = some (some m, k)) (x0 : 0 ≤ x) (x1 : x ≤ m)
    (h : WR P L Q dr X n r ((d, .slice (some (if m = x.toNat then ⟨b, o, none⟩ else ⟨b, o + x.toNat * k, none⟩)) (m - x.toNat) (m - x.toNat)) :: l) w) : WR P L Q dr X n ((i, fl) :: r) l w :=
  r_sliceL ho hg hx hlo (fun u _ => run_cutAL hk x0 x1) h
theorem run_cutAH {t : TypeId} {q' : IntKind} {y : Int} {m k b o : Nat} (hk : elemB P t = some (some m, k)) (y0 : 0 ≤ y) (y1 : y ≤ m) {u : World} :
    (Instr.sliceAt t (.pointer (some ⟨b, o, none⟩)) none (some (.int q' y)) none).run P u = .ok (.slice (some (if m = 0 then ⟨b, o, none⟩ else ⟨b, o + 0 * k, none⟩)) (y.toNat - 0) (m - 0)) u := by
  obtain ⟨e, hs, hz⟩ := elemB_arr hk
  simp [Instr.sliceAt, Instr.slice, Instr.sureAddr, Instr.sliceBounds, Sem.run_bind, run_underlying hs, hz, Result.andThen, add_plain, run_bound y0 (show y ≤ ((m : Nat) : Int) by omega)]
theorem r_cutAH {t : TypeId} {q' : IntKind} {y : Int} {X0 : Operand} {Y1 : Operand} {m k b o : Nat} (ho : nth L i = some ⟨some d, .slice t X0 none (some Y1) none, ty, pos, af, g⟩) (hg : guardOk L n l g = true) (hx : opv n l X0 = some (.pointer (some ⟨b, o, none⟩))) (hhi : opv n l Y1 = some (.int q' y)) (hk : elemB P t = some (some m, k)) (y0 : 0 ≤ y) (y1 : y ≤ m)
    (h : WR P L Q dr X n r ((d, .slice (some (if m = 0 then ⟨b, o, none⟩ else ⟨b, o + 0 * k, none⟩)) (y.toNat - 0) (m - 0)) :: l) w) : WR P L Q dr X n ((i, fl) :: r) l w :=
  r_sliceH ho hg hx hhi (fun u _ => run_cutAH hk y0 y1) h
theorem run_cutALH {t : TypeId} {q : IntKind} {q' : IntKind} {x : Int} {y : Int} {m k b o : Nat} (hk : elemB P t = some (some m, k)) (y0 : 0 ≤ y) (y1 : y ≤ m) (x0 : 0 ≤ x) (x1 : x ≤ y) {u : World} :
    (Instr.sliceAt t (.pointer (some ⟨b, o, none⟩)) (some (.int q x)) (some (.int q' y)) none).run P u = .ok (.slice (some (if m = x.toNat then ⟨b, o, none⟩ else ⟨b, o + x.toNat * k, none⟩)) (y.toNat - x.toNat) (m - x.toNat)) u := by
  obtain ⟨e, hs, hz⟩ := elemB_arr hk
  simp [Instr.sliceAt, Instr.slice, Instr.sureAddr, Instr.sliceBounds, Sem.run_bind, run_underlying hs, hz, Result.andThen, add_plain, run_bound y0 (show y ≤ ((m : Nat) : Int) by omega), run_bound x0 (show x ≤ ((y.toNat : Nat) : Int) by omega)]
theorem r_cutALH {t : TypeId} {q : IntKind} {q' : IntKind} {x : Int} {y : Int} {X0 : Operand} {Y0 : Operand} {Y1 : Operand} {m k b o : Nat} (ho : nth L i = some ⟨some d, .slice t X0 (some Y0) (some Y1) none, ty, pos, af, g⟩) (hg : guardOk L n l g = true) (hx : opv n l X0 = some (.pointer (some ⟨b, o, none⟩))) (hlo : opv n l Y0 = some (.int q x)) (hhi : opv n l Y1 = some (.int q' y)) (hk : elemB P t = some (some m, k)) (y0 : 0 ≤ y) (y1 : y ≤ m) (x0 : 0 ≤ x) (x1 : x ≤ y)
    (h : WR P L Q dr X n r ((d, .slice (some (if m = x.toNat then ⟨b, o, none⟩ else ⟨b, o + x.toNat * k, none⟩)) (y.toNat - x.toNat) (m - x.toNat)) :: l) w) : WR P L Q dr X n ((i, fl) :: r) l w :=
  r_sliceLH ho hg hx hlo hhi (fun u _ => run_cutALH hk y0 y1 x0 x1) h
theorem run_cutAHM {t : TypeId} {q' : IntKind} {q'' : IntKind} {y : Int} {z : Int} {m k b o : Nat} (hk : elemB P t = some (some m, k)) (z0 : 0 ≤ z) (z1 : z ≤ m) (y0 : 0 ≤ y) (y1 : y ≤ z) {u : World} :
    (Instr.sliceAt t (.pointer (some ⟨b, o, none⟩)) none (some (.int q' y)) (some (.int q'' z))).run P u = .ok (.slice (some (if z.toNat = 0 then ⟨b, o, none⟩ else ⟨b, o + 0 * k, none⟩)) (y.toNat - 0) (z.toNat - 0)) u := by
  obtain ⟨e, hs, hz⟩ := elemB_arr hk
  simp [Instr.sliceAt, Instr.slice, Instr.sureAddr, Instr.sliceBounds, Sem.run_bind, run_underlying hs, hz, Result.andThen, add_plain, run_bound z0 z1, run_bound y0 (show y ≤ ((z.toNat : Nat) : Int) by omega)]
theorem r_cutAHM {t : TypeId} {q' : IntKind} {q'' : IntKind} {y : Int} {z : Int} {X0 : Operand} {Y1 : Operand} {Y2 : Operand} {m k b o : Nat} (ho : nth L i = some ⟨some d, .slice t X0 none (some Y1) (some Y2), ty, pos, af, g⟩) (hg : guardOk L n l g = true) (hx : opv n l X0 = some (.pointer (some ⟨b, o, none⟩))) (hhi : opv n l Y1 = some (.int q' y)) (hmx : opv n l Y2 = some (.int q'' z)) (hk : elemB P t = some (some m, k)) (z0 : 0 ≤ z) (z1 : z ≤ m) (y0 : 0 ≤ y) (y1 : y ≤ z)
    (h : WR P L Q dr X n r ((d, .slice (some (if z.toNat = 0 then ⟨b, o, none⟩ else ⟨b, o + 0 * k, none⟩)) (y.toNat - 0) (z.toNat - 0)) :: l) w) : WR P L Q dr X n ((i, fl) :: r) l w :=
  r_sliceHM ho hg hx hhi hmx (fun u _ => run_cutAHM hk z0 z1 y0 y1) h
theorem run_cutALHM {t : TypeId} {q : IntKind} {q' : IntKind} {q'' : IntKind} {x : Int} {y : Int} {z : Int} {m k b o : Nat} (hk : elemB P t = some (some m, k)) (z0 : 0 ≤ z) (z1 : z ≤ m) (y0 : 0 ≤ y) (y1 : y ≤ z) (x0 : 0 ≤ x) (x1 : x ≤ y) {u : World} :
    (Instr.sliceAt t (.pointer (some ⟨b, o, none⟩)) (some (.int q x)) (some (.int q' y)) (some (.int q'' z))).run P u = .ok (.slice (some (if z.toNat = x.toNat then ⟨b, o, none⟩ else ⟨b, o + x.toNat * k, none⟩)) (y.toNat - x.toNat) (z.toNat - x.toNat)) u := by
  obtain ⟨e, hs, hz⟩ := elemB_arr hk
  simp [Instr.sliceAt, Instr.slice, Instr.sureAddr, Instr.sliceBounds, Sem.run_bind, run_underlying hs, hz, Result.andThen, add_plain, run_bound z0 z1, run_bound y0 (show y ≤ ((z.toNat : Nat) : Int) by omega), run_bound x0 (show x ≤ ((y.toNat : Nat) : Int) by omega)]
theorem r_cutALHM {t : TypeId} {q : IntKind} {q' : IntKind} {q'' : IntKind} {x : Int} {y : Int} {z : Int} {X0 : Operand} {Y0 : Operand} {Y1 : Operand} {Y2 : Operand} {m k b o : Nat} (ho : nth L i = some ⟨some d, .slice t X0 (some Y0) (some Y1) (some Y2), ty, pos, af, g⟩) (hg : guardOk L n l g = true) (hx : opv n l X0 = some (.pointer (some ⟨b, o, none⟩))) (hlo : opv n l Y0 = some (.int q x)) (hhi : opv n l Y1 = some (.int q' y)) (hmx : opv n l Y2 = some (.int q'' z)) (hk : elemB P t = some (some m, k)) (z0 : 0 ≤ z) (z1 : z ≤ m) (y0 : 0 ≤ y) (y1 : y ≤ z) (x0 : 0 ≤ x) (x1 : x ≤ y)
    (h : WR P L Q dr X n r ((d, .slice (some (if z.toNat = x.toNat then ⟨b, o, none⟩ else ⟨b, o + x.toNat * k, none⟩)) (y.toNat - x.toNat) (z.toNat - x.toNat)) :: l) w) : WR P L Q dr X n ((i, fl) :: r) l w :=
  r_sliceLHM ho hg hx hlo hhi hmx (fun u _ => run_cutALHM hk z0 z1 y0 y1 x0 x1) h
theorem run_cutS0 {t : TypeId} {k len cap : Nat} {a : Option Addr} (hk : elemB P t = some (none, k)) (hlc : len ≤ cap) {u : World} :
    (Instr.sliceAt t (.slice a len cap) none none none).run P u = .ok (.slice (if cap = 0 then a else a.map (·.add (0 * k))) (len - 0) (cap - 0)) u := by
  obtain ⟨e, hs, hz⟩ := elemB_sl hk
  simp [Instr.sliceAt, Instr.slice, Instr.sureAddr, Instr.sliceBounds, Sem.run_bind, run_underlying hs, hz, Result.andThen]
theorem r_cutS0 {t : TypeId} {X0 : Operand} {k len cap : Nat} {a : Option Addr} (ho : nth L i = some ⟨some d, .slice t X0 none none none, ty, pos, af, g⟩) (hg : guardOk L n l g = true) (hx : opv n l X0 = some (.slice a len cap)) (hk : elemB P t = some (none, k)) (hlc : len ≤ cap)
    (h : WR P L Q dr X n r ((d, .slice (if cap = 0 then a else a.map (·.add (0 * k))) (len - 0) (cap - 0)) :: l) w) : WR P L Q dr X n ((i, fl) :: r) l w :=
  r_slice0 ho hg hx (fun u _ => run_cutS0 hk hlc) h
theorem run_cutSL {t : TypeId} {q : IntKind} {x : Int} {k len cap : Nat} {a : Option Addr} (hk : elemB P t = some (none, k)) (x0 : 0 ≤ x) (x1 : x ≤ len) (hlc : len ≤ cap) {u : World} :
    (Instr.sliceAt t (.slice a len cap) (some (.int q x)) none none).run P u = .ok (.slice (if cap = x.toNat then a else a.map (·.add (x.toNat * k))) (len - x.toNat) (cap - x.toNat)) u := by
  obtain ⟨e, hs, hz⟩ := elemB_sl hk
  simp [Instr.sliceAt, Instr.slice, Instr.sureAddr, Instr.sliceBounds, Sem.run_bind, run_underlying hs, hz, Result.andThen, run_bound x0 (show x ≤ ((len : Nat) : Int) by omega)]
theorem r_cutSL {t : TypeId} {q : IntKind} {x : Int} {X0 : Operand} {Y0 : Operand} {k len cap : Nat} {a : Option Addr} (ho : nth L i = some ⟨some d, .slice t X0 (some Y0) none none, ty, pos, af, g⟩) (hg : guardOk L n l g = true) (hx : opv n l X0 = some (.slice a len cap)) (hlo : opv n l Y0 = some (.int q x)) (hk : elemB P t = some (none, k)) (x0 : 0 ≤ x) (x1 : x ≤ len) (hlc : len ≤ cap)
    (h : WR P L Q dr X n r ((d, .slice (if cap = x.toNat then a else a.map (·.add (x.toNat * k))) (len - x.toNat) (cap - x.toNat)) :: l) w) : WR P L Q dr X n ((i, fl) :: r) l w :=
  r_sliceL ho hg hx hlo (fun u _ => run_cutSL hk x0 x1 hlc) h
theorem run_cutSH {t : TypeId} {q' : IntKind} {y : Int} {k len cap : Nat} {a : Option Addr} (hk : elemB P t = some (none, k)) (y0 : 0 ≤ y) (y1 : y ≤ cap) {u : World} :
    (Instr.sliceAt t (.slice a len cap) none (some (.int q' y)) none).run P u = .ok (.slice (if cap = 0 then a else a.map (·.add (0 * k))) (y.toNat - 0) (cap - 0)) u := by
  obtain ⟨e, hs, hz⟩ := elemB_sl hk
  simp [Instr.sliceAt, Instr.slice, Instr.sureAddr, Instr.sliceBounds, Sem.run_bind, run_underlying hs, hz, Result.andThen, run_bound y0 (show y ≤ ((cap : Nat) : Int) by omega)]
theorem r_cutSH {t : TypeId} {q' : IntKind} {y : Int} {X0 : Operand} {Y1 : Operand} {k len cap : Nat} {a : Option Addr} (ho : nth L i = some ⟨some d, .slice t X0 none (some Y1) none, ty, pos, af, g⟩) (hg : guardOk L n l g = true) (hx : opv n l X0 = some (.slice a len cap)) (hhi : opv n l Y1 = some (.int q' y)) (hk : elemB P t = some (none, k)) (y0 : 0 ≤ y) (y1 : y ≤ cap)
    (h : WR P L Q dr X n r ((d, .slice (if cap = 0 then a else a.map (·.add (0 * k))) (y.toNat - 0) (cap - 0)) :: l) w) : WR P L Q dr X n ((i, fl) :: r) l w :=
  r_sliceH ho hg hx hhi (fun u _ => run_cutSH hk y0 y1) h
theorem run_cutSLH {t : TypeId} {q : IntKind} {q' : IntKind} {x : Int} {y : Int} {k len cap : Nat} {a : Option Addr} (hk : elemB P t = some (none, k)) (y0 : 0 ≤ y) (y1 : y ≤ cap) (x0 : 0 ≤ x) (x1 : x ≤ y) {u : World} :
    (Instr.sliceAt t (.slice a len cap) (some (.int q x)) (some (.int q' y)) none).run P u = .ok (.slice (if cap = x.toNat then a else a.map (·.add (x.toNat * k))) (y.toNat - x.toNat) (cap - x.toNat)) u := by
  obtain ⟨e, hs, hz⟩ := elemB_sl hk
  simp [Instr.sliceAt, Instr.slice, Instr.sureAddr, Instr.sliceBounds, Sem.run_bind, run_underlying hs, hz, Result.andThen, run_bound y0 (show y ≤ ((cap : Nat) : Int) by omega), run_bound x0 (show x ≤ ((y.toNat : Nat) : Int) by omega)]
theorem r_cutSLH {t : TypeId} {q : IntKind} {q' : IntKind} {x : Int} {y : Int} {X0 : Operand} {Y0 : Operand} {Y1 : Operand} {k len cap : Nat} {a : Option Addr} (ho : nth L i = some ⟨some d, .slice t X0 (some Y0) (some Y1) none, ty, pos, af, g⟩) (hg : guardOk L n l g = true) (hx : opv n l X0 = some (.slice a len cap)) (hlo : opv n l Y0 = some (.int q x)) (hhi : opv n l Y1 = some (.int q' y)) (hk : elemB P t = some (none, k)) (y0 : 0 ≤ y) (y1 : y ≤ cap) (x0 : 0 ≤ x) (x1 : x ≤ y)
    (h : WR P L Q dr X n r ((d, .slice (if cap = x.toNat then a else a.map (·.add (x.toNat * k))) (y.toNat - x.toNat) (cap - x.toNat)) :: l) w) : WR P L Q dr X n ((i, fl) :: r) l w :=
  r_sliceLH ho hg hx hlo hhi (fun u _ => run_cutSLH hk y0 y1 x0 x1) h
theorem run_cutSHM {t : TypeId} {q' : IntKind} {q'' : IntKind} {y : Int} {z : Int} {k len cap : Nat} {a : Option Addr} (hk : elemB P t = some (none, k)) (z0 : 0 ≤ z) (z1 : z ≤ cap) (y0 : 0 ≤ y) (y1 : y ≤ z) {u : World} :
    (Instr.sliceAt t (.slice a len cap) none (some (.int q' y)) (some (.int q'' z))).run P u = .ok (.slice (if z.toNat = 0 then a else a.map (·.add (0 * k))) (y.toNat - 0) (z.toNat - 0)) u := by
  obtain ⟨e, hs, hz⟩ := elemB_sl hk
  simp [Instr.sliceAt, Instr.slice, Instr.sureAddr, Instr.sliceBounds, Sem.run_bind, run_underlying hs, hz, Result.andThen, run_bound z0 z1, run_bound y0 (show y ≤ ((z.toNat : Nat) : Int) by omega)]
theorem r_cutSHM {t : TypeId} {q' : IntKind} {q'' : IntKind} {y : Int} {z : Int} {X0 : Operand} {Y1 : Operand} {Y2 : Operand} {k len cap : Nat} {a : Option Addr} (ho : nth L i = some ⟨some d, .slice t X0 none (some Y1) (some Y2), ty, pos, af, g⟩) (hg : guardOk L n l g = true) (hx : opv n l X0 = some (.slice a len cap)) (hhi : opv n l Y1 = some (.int q' y)) (hmx : opv n l Y2 = some (.int q'' z)) (hk : elemB P t = some (none, k)) (z0 : 0 ≤ z) (z1 : z ≤ cap) (y0 : 0 ≤ y) (y1 : y ≤ z)
    (h : WR P L Q dr X n r ((d, .slice (if z.toNat = 0 then a else a.map (·.add (0 * k))) (y.toNat - 0) (z.toNat - 0)) :: l) w) : WR P L Q dr X n ((i, fl) :: r) l w :=
  r_sliceHM ho hg hx hhi hmx (fun u _ => run_cutSHM hk z0 z1 y0 y1) h
theorem run_cutSLHM {t : TypeId} {q : IntKind} {q' : IntKind} {q'' : IntKind} {x : Int} {y : Int} {z : Int} {k len cap : Nat} {a : Option Addr} (hk : elemB P t = some (none, k)) (z0 : 0 ≤ z) (z1 : z ≤ cap) (y0 : 0 ≤ y) (y1 : y ≤ z) (x0 : 0 ≤ x) (x1 : x ≤ y) {u : World} :
    (Instr.sliceAt t (.slice a len cap) (some (.int q x)) (some (.int q' y)) (some (.int q'' z))).run P u = .ok (.slice (if z.toNat = x.toNat then a else a.map (·.add (x.toNat * k))) (y.toNat - x.toNat) (z.toNat - x.toNat)) u := by
  obtain ⟨e, hs, hz⟩ := elemB_sl hk
  simp [Instr.sliceAt, Instr.slice, Instr.sureAddr, Instr.sliceBounds, Sem.run_bind, run_underlying hs, hz, Result.andThen, run_bound z0 z1, run_bound y0 (show y ≤ ((z.toNat : Nat) : Int) by omega), run_bound x0 (show x ≤ ((y.toNat : Nat) : Int) by omega)]
theorem r_cutSLHM {t : TypeId} {q : IntKind} {q' : IntKind} {q'' : IntKind} {x : Int} {y : Int} {z : Int} {X0 : Operand} {Y0 : Operand} {Y1 : Operand} {Y2 : Operand} {k len cap : Nat} {a : Option Addr} (ho : nth L i = some ⟨some d, .slice t X0 (some Y0) (some Y1) (some Y2), ty, pos, af, g⟩) (hg : guardOk L n l g = true) (hx : opv n l X0 = some (.slice a len cap)) (hlo : opv n l Y0 = some (.int q x)) (hhi : opv n l Y1 = some (.int q' y)) (hmx : opv n l Y2 = some (.int q'' z)) (hk : elemB P t = some (none, k)) (z0 : 0 ≤ z) (z1 : z ≤ cap) (y0 : 0 ≤ y) (y1 : y ≤ z) (x0 : 0 ≤ x) (x1 : x ≤ y)
    (h : WR P L Q dr X n r ((d, .slice (if z.toNat = x.toNat then a else a.map (·.add (x.toNat * k))) (y.toNat - x.toNat) (z.toNat - x.toNat)) :: l) w) : WR P L Q dr X n ((i, fl) :: r) l w :=
  r_sliceLHM ho hg hx hlo hhi hmx (fun u _ => run_cutSLHM hk z0 z1 y0 y1 x0 x1) h
theorem run_cutTL {t : TypeId} {q : IntKind} {x : Int} {s : ByteArray} (hk : strB P t = true) (x0 : 0 ≤ x) (x1 : x ≤ s.size) {u : World} :
    (Instr.sliceAt t (.string s) (some (.int q x)) none none).run P u = .ok (.string (s.extract x.toNat s.size)) u := by
  unfold strB at hk
  split at hk
  · rename_i hs
    simp [Instr.sliceAt, Instr.slice, Instr.sliceBounds, Sem.run_bind, run_underlying hs, Result.andThen, run_bound x0 (show x ≤ ((s.size : Nat) : Int) by omega)]
  · cases hk
theorem r_cutTL {t : TypeId} {q : IntKind} {x : Int} {X0 : Operand} {Y0 : Operand} {s : ByteArray} (ho : nth L i = some ⟨some d, .slice t X0 (some Y0) none none, ty, pos, af, g⟩) (hg : guardOk L n l g = true) (hx : opv n l X0 = some (.string s)) (hlo : opv n l Y0 = some (.int q x)) (hk : strB P t = true) (x0 : 0 ≤ x) (x1 : x ≤ s.size)
    (h : WR P L Q dr X n r ((d, .string (s.extract x.toNat s.size)) :: l) w) : WR P L Q dr X n ((i, fl) :: r) l w :=
  r_sliceL ho hg hx hlo (fun u _ => run_cutTL hk x0 x1) h
theorem run_cutTH {t : TypeId} {q' : IntKind} {y : Int} {s : ByteArray} (hk : strB P t = true) (y0 : 0 ≤ y) (y1 : y ≤ s.size) {u : World} :
    (Instr.sliceAt t (.string s) none (some (.int q' y)) none).run P u = .ok (.string (s.extract 0 y.toNat)) u := by
  unfold strB at hk
  split at hk
  · rename_i hs
    simp [Instr.sliceAt, Instr.slice, Instr.sliceBounds, Sem.run_bind, run_underlying hs, Result.andThen, run_bound y0 (show y ≤ ((s.size : Nat) : Int) by omega)]
  · cases hk
theorem r_cutTH {t : TypeId} {q' : IntKind} {y : Int} {X0 : Operand} {Y1 : Operand} {s : ByteArray} (ho : nth L i = some ⟨some d, .slice t X0 none (some Y1) none, ty, pos, af, g⟩) (hg : guardOk L n l g = true) (hx : opv n l X0 = some (.string s)) (hhi : opv n l Y1 = some (.int q' y)) (hk : strB P t = true) (y0 : 0 ≤ y) (y1 : y ≤ s.size)
    (h : WR P L Q dr X n r ((d, .string (s.extract 0 y.toNat)) :: l) w) : WR P L Q dr X n ((i, fl) :: r) l w :=
  r_sliceH ho hg hx hhi (fun u _ => run_cutTH hk y0 y1) h
theorem run_cutTLH {t : TypeId} {q : IntKind} {q' : IntKind} {x : Int} {y : Int} {s : ByteArray} (hk : strB P t = true) (y0 : 0 ≤ y) (y1 : y ≤ s.size) (x0 : 0 ≤ x) (x1 : x ≤ y) {u : World} :
    (Instr.sliceAt t (.string s) (some (.int q x)) (some (.int q' y)) none).run P u = .ok (.string (s.extract x.toNat y.toNat)) u := by
  unfold strB at hk
  split at hk
  · rename_i hs
    simp [Instr.sliceAt, Instr.slice, Instr.sliceBounds, Sem.run_bind, run_underlying hs, Result.andThen, run_bound y0 (show y ≤ ((s.size : Nat) : Int) by omega), run_bound x0 (show x ≤ ((y.toNat : Nat) : Int) by omega)]
  · cases hk
theorem r_cutTLH {t : TypeId} {q : IntKind} {q' : IntKind} {x : Int} {y : Int} {X0 : Operand} {Y0 : Operand} {Y1 : Operand} {s : ByteArray} (ho : nth L i = some ⟨some d, .slice t X0 (some Y0) (some Y1) none, ty, pos, af, g⟩) (hg : guardOk L n l g = true) (hx : opv n l X0 = some (.string s)) (hlo : opv n l Y0 = some (.int q x)) (hhi : opv n l Y1 = some (.int q' y)) (hk : strB P t = true) (y0 : 0 ≤ y) (y1 : y ≤ s.size) (x0 : 0 ≤ x) (x1 : x ≤ y)
    (h : WR P L Q dr X n r ((d, .string (s.extract x.toNat y.toNat)) :: l) w) : WR P L Q dr X n ((i, fl) :: r) l w :=
  r_sliceLH ho hg hx hlo hhi (fun u _ => run_cutTLH hk y0 y1 x0 x1) h
end
end Go.Proofs.Ytpnkgmmaanpgiaa
