/- What is known of a slice of whole numbers that came in. -/
import Derived.Test.YtpnkgmmaanpgiaaKMem
import Derived.Test.YtpnkgmmaanpgiaaRowWords
namespace Go.Proofs.Ytpnkgmmaanpgiaa
open Go Go.RowKit
set_option linter.unusedVariables false
theorem isRow_in {k : IntKind} {w : World} {a : Option Addr} {l c : Nat} {z : List Int} (h : IsRow k w a l c z) (hl : 0 < l) :
    ∃ b off, a = some ⟨b, off, none⟩ ∧ b < w.heap.size ∧ ∀ i, i < l → w.cell? ⟨b, off + i, none⟩ = some (.int k (z.getD i 0)) := by
  rcases h with ⟨_, rfl, _⟩ | ⟨x, rfl, hl', _, hz, hc, _⟩
  · omega
  · have hx : ∃ b off, x = ⟨b, off, none⟩ := by
      obtain ⟨bb, off, sp⟩ := x
      have : sp = none := by simpa [Addr.add] using World.cell?_spot (hc 0 (by omega))
      exact ⟨bb, off, by rw [this]⟩
    obtain ⟨b, off, rfl⟩ := hx
    have hc' : ∀ i, i < l → w.cell? ⟨b, off + i, none⟩ = some (.int k (z.getD i 0)) := fun i hi => by have := hc i (by omega); rwa [add_plain] at this
    refine ⟨b, off, rfl, ?_, hc'⟩
    by_cases hb : b < w.heap.size
    · exact hb
    · have h0 : w.heap[b]? = none := by simp; omega
      have := hc' 0 hl
      simp [World.cell?, h0] at this
theorem isRow_wf {k : IntKind} {w : World} {a : Option Addr} {l c : Nat} {z : List Int} (h : IsRow k w a l c z) : ∀ n ∈ z, (Lit.int k n).wf = true := by
  rcases h with ⟨_, _, _, rfl⟩ | ⟨x, _, _, _, _, _, hw⟩
  · simp
  · exact hw
theorem isRow_le {k : IntKind} {w : World} {a : Option Addr} {l c : Nat} {z : List Int} (h : IsRow k w a l c z) : l ≤ c ∧ z.length = c ∧ c ≤ 9223372036854775807 := by
  rcases h with ⟨_, rfl, rfl, rfl⟩ | ⟨x, _, hl, hm, hz, _⟩
  · simp
  · unfold maxLen at hm; exact ⟨hl, hz, hm⟩
theorem isRow_nth {k : IntKind} {w : World} {a : Option Addr} {l c : Nat} {z : List Int} (h : IsRow k w a l c z) (i : Nat) (hi : i < l) : (Lit.int k (z.getD i 0)).wf = true := by
  obtain ⟨h1, h2, _⟩ := isRow_le h
  have hi' : i < z.length := by omega
  have : z.getD i 0 = z[i] := by simp [hi']
  rw [this]; exact isRow_wf h _ (List.getElem_mem hi')
/-- The numbers of a list as cells. -/
def ints (k : IntKind) (bs : List Int) : Array Value := (bs.map (Value.int k)).toArray
theorem ints_size (k : IntKind) (bs : List Int) : (ints k bs).size = bs.length := by simp [ints]
theorem ints_get {k : IntKind} {bs : List Int} {i : Nat} (hi : i < bs.length) : (ints k bs)[i]? = some (.int k (bs.getD i 0)) := by simp [ints, hi]
theorem ints_set (k : IntKind) (bs : List Int) (i : Nat) (v : Int) : (ints k bs).setIfInBounds i (.int k v) = ints k (bs.set i v) := by simp [ints, List.map_set]
end Go.Proofs.Ytpnkgmmaanpgiaa
