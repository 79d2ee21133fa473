/- What an argument's cells are, by the shape of its type: whole numbers, bools, strings, structs, arrays, slices of these. -/
import Derived.Test.YtpnkgmmaanpgiaaKMem
import Derived.ProofKit
import Derived.OpenShut
import Derived.SizedLaws
import Derived.ChangeOld
import Derived.Deep.Slices
namespace Go.Proofs.Ytpnkgmmaanpgiaa
open Go Go.RowKit Go.ChangeShapes Go.WideShapes Go.ChangeAt
set_option linter.unusedVariables false
inductive Sh where
  | int (k : IntKind)
  | bool
  | str
  | sl (e : Sh)
  | unit
  | pair (a b : Sh)
def Sh.size : Sh → Nat
  | .unit => 0
  | .pair a b => a.size + b.size
  | _ => 1
def Fits (w : World) : Sh → List Value → Prop
  | .int k, cs => ∃ z, cs = [.int k z] ∧ (Lit.int k z).wf = true
  | .bool, cs => ∃ b, cs = [.bool b]
  | .str, cs => ∃ s : ByteArray, cs = [.string s] ∧ s.size ≤ 9223372036854775807
  | .sl e, cs => ∃ a len cap, cs = [.slice a len cap] ∧ len ≤ cap ∧ cap ≤ 9223372036854775807 ∧ (a = none → cap = 0) ∧
      (0 < len → ∃ b off, a = some ⟨b, off, none⟩ ∧ b < w.heap.size ∧ ∀ i, i < len → ∃ xs, Fits w e xs ∧ ∀ j u, xs[j]? = some u → w.cell? ⟨b, off + (i * e.size + j), none⟩ = some u)
  | .unit, cs => cs = []
  | .pair a b, cs => ∃ xs ys, cs = xs ++ ys ∧ Fits w a xs ∧ Fits w b ys
theorem Fits.len {w : World} : ∀ {s : Sh} {cs : List Value}, Fits w s cs → cs.length = s.size
  | .int k, cs, ⟨z, h, _⟩ => by rw [h]; rfl
  | .bool, cs, ⟨z, h⟩ => by rw [h]; rfl
  | .str, cs, ⟨z, h, _⟩ => by rw [h]; rfl
  | .sl e, cs, ⟨a, l, c, h, _⟩ => by rw [h]; rfl
  | .unit, cs, h => by rw [show cs = [] from h]; rfl
  | .pair a b, cs, ⟨xs, ys, h, h1, h2⟩ => by rw [h, List.length_append, h1.len, h2.len]; rfl
/-- So often one, one behind the other. -/
def Sh.times (e : Sh) : Nat → Sh
  | 0 => .unit
  | n + 1 => .pair e (e.times n)
mutual
def shapeOf (P : Program) : Nat → TypeId → Option Sh
  | 0, _ => none
  | n + 1, t => match P.underlying t with
    | some (.int k) => some (.int k)
    | some .bool => some .bool
    | some .string => some .str
    | some (.slice e) => match shapeOf P n e with
      | some s => bif Nat.beq s.size (P.cellsOf e) && !Nat.beq s.size 0 then some (.sl s) else none
      | none => none
    | some (.array k e) => match shapeOf P n e with
      | some s => bif Nat.beq s.size (P.cellsOf e) && Nat.beq (k * P.cellsOf e) (P.cellsOf t) then some (s.times k) else none
      | none => none
    | some (.struct fs) => shapeFs P n (P.cellsOf t) fs.toList 0
    | _ => none
def shapeFs (P : Program) : Nat → Nat → List Field → Nat → Option Sh
  | _, m, [], o => bif Nat.beq o m then some .unit else none
  | 0, _, _, _ => none
  | n + 1, m, f :: r, o => match shapeOf P n f.type, shapeFs P n m r (o + P.cellsOf f.type) with
    | some a, some b => bif Nat.beq f.offset o && Nat.beq a.size (P.cellsOf f.type) then some (.pair a b) else none
    | _, _ => none
end
section
variable {H : Type} {enc : TypeId × Value → H} {P : Program} {w : World} {base : Nat} {spare : Nat → Bool} {held : Bool}
theorem lt_cell {b o : Nat} {v : Value} (h : w.cell? ⟨b, o, none⟩ = some v) : b < w.heap.size := by
  by_cases hb : b < w.heap.size
  · exact hb
  · have : w.heap[b]? = none := by simp; omega
    simp [World.cell?, this] at h
theorem fits_times {s : Sh} {e m : Nat} (ih : ∀ (fuel : Nat) (cs : List Value) (x : DataW H × List MemPlace), DataW.trod enc P w base spare held fuel m cs = some x → Fits w s cs) (he : s.size = e) :
    ∀ (k : Nat) (cs : List Value) (fuel : Nat), cs.length = k * e → (∀ i, i < k → ∃ x, DataW.trod enc P w base spare held fuel m ((cs.drop (i * e)).take e) = some x) → Fits w (s.times k) cs
  | 0, cs, fuel, hl, h => by
    have : cs = [] := List.eq_nil_of_length_eq_zero (by simpa using hl)
    exact this
  | k + 1, cs, fuel, hl, h => by
    refine ⟨cs.take e, cs.drop e, (List.take_append_drop _ _).symm, ?_, fits_times ih he k (cs.drop e) fuel (by rw [List.length_drop, hl, Nat.add_mul]; omega) fun i hi => ?_⟩
    · obtain ⟨x, hx⟩ := h 0 (by omega)
      exact ih _ _ x (by simpa using hx)
    · obtain ⟨x, hx⟩ := h (i + 1) (by omega)
      refine ⟨x, ?_⟩
      rw [List.drop_drop, ← hx]
      congr 3
      rw [Nat.add_mul]; omega
theorem fits_both : ∀ n : Nat,
    (∀ (t : TypeId) (s : Sh) (fuel : Nat) (cs : List Value) (x : DataW H × List MemPlace), shapeOf P n t = some s → DataW.trod enc P w base spare held fuel t cs = some x → Fits w s cs) ∧
    (∀ (m : Nat) (fs : List Field) (o : Nat) (s : Sh) (fuel : Nat) (cs : List Value), shapeFs P n m fs o = some s → cs.length = m → (∀ f ∈ fs, ∃ x, DataW.trod enc P w base spare held fuel f.type ((cs.drop f.offset).take (P.cellsOf f.type)) = some x) → Fits w s (cs.drop o)) := by
  intro n
  induction n with
  | zero =>
    refine ⟨fun t s fuel cs x h => by simp [shapeOf] at h, fun m fs o s fuel cs h hl _ => ?_⟩
    cases fs with
    | nil =>
      simp only [shapeFs] at h
      cases hb : Nat.beq o m with
      | false => rw [hb] at h; cases h
      | true =>
        rw [hb] at h; injection h with h; subst h
        have := Nat.eq_of_beq_eq_true hb
        exact List.drop_eq_nil_of_le (by omega)
    | cons f r => simp [shapeFs] at h
  | succ n ih =>
    obtain ⟨ih1, ih2⟩ := ih
    refine ⟨fun t s fuel cs x h hx => ?_, fun m fs o s fuel cs h hl hf => ?_⟩
    · simp only [shapeOf] at h
      split at h
      · rename_i k hu
        injection h with h; subst h
        obtain ⟨z, h1, _, h2⟩ := DataW.trod_int hu hx
        exact ⟨z, h1, h2⟩
      · rename_i hu
        injection h with h; subst h
        obtain ⟨z, h1, _⟩ := DataW.trod_bool hu hx
        exact ⟨z, h1⟩
      · rename_i hu
        injection h with h; subst h
        obtain ⟨z, h1, _, h2⟩ := DataW.trod_string hu hx
        unfold maxLen at h2
        exact ⟨z, h1, h2⟩
      · rename_i e hu
        split at h
        · rename_i se hse
          cases hb : (Nat.beq se.size (P.cellsOf e) && !Nat.beq se.size 0) with
          | false => rw [hb] at h; cases h
          | true =>
            rw [hb] at h; injection h with h; subst h
            simp only [Bool.and_eq_true] at hb
            have hsz := Nat.eq_of_beq_eq_true hb.1
            have hnz : 0 < se.size := by
              rcases Nat.eq_zero_or_pos se.size with h0 | h0
              · rw [h0] at hb; simp at hb
              · exact h0
            rcases Go.Deep.open_slice hu hx with ⟨hc, _⟩ | ⟨a, len, cap, mm, q, D, Pl, hc, hbs, hl, hm, hmm, _, hi⟩
            · exact ⟨none, 0, 0, hc, Nat.le_refl _, by omega, fun _ => rfl, fun h0 => by omega⟩
            · unfold maxLen at hm
              refine ⟨some a, len, cap, hc, hl, hm, (fun h0 => by cases h0), fun h0 => ?_⟩
              have hlm : len ≤ mm := by rw [hmm]; split <;> omega
              have key : ∀ i, i < len → ∃ xs, Fits w se xs ∧ ∀ j u, xs[j]? = some u → w.cell? ((a.add (i * se.size)).add j) = some u := by
                intro i hil
                obtain ⟨cs', hcs, ht⟩ := hi i (by omega)
                obtain ⟨_, hlen, hat⟩ := World.cells?_some hcs
                refine ⟨cs', ih1 _ _ _ _ _ hse ht, fun j u hj => ?_⟩
                have hjl := (List.getElem?_eq_some_iff.1 hj).1
                rw [hsz, hat j (by omega)]; exact hj
              obtain ⟨xs, hxs, hc0⟩ := key 0 h0
              have hl0 := hxs.len
              obtain ⟨u, hu0⟩ : ∃ u, xs[0]? = some u := ⟨xs[0]'(by omega), by simp⟩
              have hp := hc0 0 u hu0
              obtain ⟨b, off, sp⟩ := a
              have hsp : sp = none := by simpa [Addr.add] using World.cell?_spot hp
              subst hsp
              refine ⟨b, off, rfl, ?_, fun i hil => ?_⟩
              · rw [Nat.zero_mul, add_plain, add_plain] at hp; exact lt_cell hp
              · obtain ⟨xs, h1, h2⟩ := key i hil
                refine ⟨xs, h1, fun j u hj => ?_⟩
                have := h2 j u hj
                rw [add_plain, add_plain] at this
                rw [← this, Nat.add_assoc]
        · cases h
      · rename_i k e hu
        split at h
        · rename_i se hse
          cases hb : (Nat.beq se.size (P.cellsOf e) && Nat.beq (k * P.cellsOf e) (P.cellsOf t)) with
          | false => rw [hb] at h; cases h
          | true =>
            rw [hb] at h; injection h with h; subst h
            simp only [Bool.and_eq_true] at hb
            obtain ⟨xs, q, _, _, hlen, hxl, hat⟩ := DataW.trod_array hu hx
            refine fits_times (m := e) (fun fuel cs x hx => ih1 _ _ _ _ _ hse hx) (Nat.eq_of_beq_eq_true hb.1) k cs q (by rw [hlen, Nat.eq_of_beq_eq_true hb.2]) fun i hi => ?_
            exact ⟨xs[i]'(by omega), by rw [hat i hi]; simp⟩
        · cases h
      · rename_i fs hu
        obtain ⟨xs, q, _, _, hlen, hxl, hat⟩ := DataW.trod_struct hu hx
        have := ih2 _ fs.toList 0 s q cs h hlen fun f hf => by
          obtain ⟨i, hi, rfl⟩ := List.getElem_of_mem hf
          have hi' : i < fs.size := by simpa using hi
          refine ⟨xs[i]'(by omega), ?_⟩
          have h1 := hat i fs[i] (by simp [hi'])
          simp only [Array.getElem_toList] at h1 ⊢
          rw [h1]; simp
        simpa using this
      · cases h
    · cases fs with
      | nil =>
        simp only [shapeFs] at h
        cases hb : Nat.beq o m with
        | false => rw [hb] at h; cases h
        | true =>
          rw [hb] at h; injection h with h; subst h
          have := Nat.eq_of_beq_eq_true hb
          exact List.drop_eq_nil_of_le (by omega)
      | cons f r =>
        simp only [shapeFs] at h
        split at h
        · rename_i sa sb ha hbb
          cases hb : (Nat.beq f.offset o && Nat.beq sa.size (P.cellsOf f.type)) with
          | false => rw [hb] at h; cases h
          | true =>
            rw [hb] at h; injection h with h; subst h
            simp only [Bool.and_eq_true] at hb
            have ho := Nat.eq_of_beq_eq_true hb.1
            obtain ⟨x, hx⟩ := hf f (by simp)
            have h2 := ih2 m r (o + P.cellsOf f.type) sb fuel cs hbb hl fun f' hf' => hf f' (by simp [hf'])
            refine ⟨(cs.drop o).take (P.cellsOf f.type), (cs.drop o).drop (P.cellsOf f.type), (List.take_append_drop _ _).symm, ?_, by rw [List.drop_drop]; exact h2⟩
            rw [← ho]
            exact ih1 _ _ _ _ _ ha hx
        · cases h
theorem fits_of {n : Nat} {t : TypeId} {s : Sh} {v : Value} {d : DataW H} {ps : List MemPlace} (hs : shapeOf P n t = some s) (h : DataW.Trod enc P w base spare held t v d ps) : Fits w s v.cells.toList := by
  obtain ⟨fuel, hf⟩ := h
  exact (fits_both n).1 t s fuel _ _ hs hf
end
/-! Taking such a thing apart. -/
theorem Fits.int {w : World} {k : IntKind} {r : Sh} {cs : List Value} (h : Fits w (.pair (.int k) r) cs) : ∃ z cs', cs = .int k z :: cs' ∧ (Lit.int k z).wf = true ∧ Fits w r cs' := by
  obtain ⟨xs, ys, rfl, ⟨z, rfl, hz⟩, h2⟩ := h
  exact ⟨z, ys, rfl, hz, h2⟩
theorem Fits.bool {w : World} {r : Sh} {cs : List Value} (h : Fits w (.pair .bool r) cs) : ∃ z cs', cs = .bool z :: cs' ∧ Fits w r cs' := by
  obtain ⟨xs, ys, rfl, ⟨z, rfl⟩, h2⟩ := h
  exact ⟨z, ys, rfl, h2⟩
theorem Fits.str {w : World} {r : Sh} {cs : List Value} (h : Fits w (.pair .str r) cs) : ∃ (z : ByteArray) (cs' : _), cs = .string z :: cs' ∧ z.size ≤ 9223372036854775807 ∧ Fits w r cs' := by
  obtain ⟨xs, ys, rfl, ⟨z, rfl, hz⟩, h2⟩ := h
  exact ⟨z, ys, rfl, hz, h2⟩
theorem Fits.slice {w : World} {e r : Sh} {cs : List Value} (h : Fits w (.pair (.sl e) r) cs) : ∃ a len cap cs', cs = .slice a len cap :: cs' ∧ Fits w (.sl e) [.slice a len cap] ∧ Fits w r cs' := by
  obtain ⟨xs, ys, rfl, ⟨a, len, cap, rfl, hz⟩, h2⟩ := h
  exact ⟨a, len, cap, ys, rfl, ⟨a, len, cap, rfl, hz⟩, h2⟩
theorem Fits.nil {w : World} {cs : List Value} (h : Fits w .unit cs) : cs = [] := h
theorem Fits.le {w : World} {e : Sh} {a : Option Addr} {len cap : Nat} (h : Fits w (.sl e) [.slice a len cap]) : len ≤ cap ∧ cap ≤ 9223372036854775807 ∧ (a = none → cap = 0) := by
  obtain ⟨a', l', c', h0, h1, h2, h3, _⟩ := h
  injection h0 with h0; injection h0 with e1 e2 e3; subst e1; subst e2; subst e3
  exact ⟨h1, h2, h3⟩
theorem Fits.at {w : World} {e : Sh} {a : Option Addr} {len cap : Nat} (h : Fits w (.sl e) [.slice a len cap]) (h0 : 0 < len) : ∃ b off, a = some ⟨b, off, none⟩ ∧ b < w.heap.size ∧ ∀ i, i < len → ∃ xs, Fits w e xs ∧ ∀ j u, xs[j]? = some u → w.cell? ⟨b, off + (i * e.size + j), none⟩ = some u := by
  obtain ⟨a', l', c', hh, _, _, _, h1⟩ := h
  injection hh with hh; injection hh with e1 e2 e3; subst e1; subst e2; subst e3
  exact h1 h0
/-- What fits below a number fits behind whatever leaves those blocks. -/
theorem Fits.below {w w' : World} (hb : Below w.heap.size w w') : ∀ {s : Sh} {cs : List Value}, Fits w s cs → Fits w' s cs
  | .int k, cs, h => h
  | .bool, cs, h => h
  | .str, cs, h => h
  | .sl e, cs, ⟨a, l, c, h, h1, h2, h3, h4⟩ => by
    refine ⟨a, l, c, h, h1, h2, h3, fun h0 => ?_⟩
    obtain ⟨b, off, ha, hbl, hi⟩ := h4 h0
    refine ⟨b, off, ha, Nat.lt_of_lt_of_le hbl hb.size, fun i hil => ?_⟩
    obtain ⟨xs, hx, hc⟩ := hi i hil
    exact ⟨xs, hx.below hb, fun j u hj => by rw [hb.cell (p := ⟨b, _, none⟩) hbl]; exact hc j u hj⟩
  | .unit, cs, h => h
  | .pair a b, cs, ⟨xs, ys, h, h1, h2⟩ => ⟨xs, ys, h, h1.below hb, h2.below hb⟩
end Go.Proofs.Ytpnkgmmaanpgiaa
