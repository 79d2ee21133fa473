/- The law of all functions of package bits, in the words of its row. -/
import Derived.Test.YthgigkjnbflnpaaBitAllx
import Derived.Test.YthgigkjnbflnpaaRowWords
namespace Go.Proofs.Ythgigkjnbflnpaa
open Go.RowKit
set_option linter.unusedVariables false
theorem plainRow {w : World} {b : Addr} {u : Value} (h : w.cell? (b.add 0) = some u) : ∃ bb off, b = ⟨bb, off, none⟩ := by
  obtain ⟨bb, off, sp⟩ := b
  have : sp = none := by simpa [Addr.add] using World.cell?_spot h
  exact ⟨bb, off, by rw [this]⟩
theorem bytes8_of_row {W : World} {a : Option Addr} {l c : Nat} {z : List Int} (h : IsRow .u8 W a l c z) : Bytes8 W a (z.take l) := by
  intro j hj
  have hj' : j < l := by simp at hj; omega
  rcases h with ⟨_, rfl, _⟩ | ⟨x, rfl, hl, _, hz, hc, _⟩
  · omega
  · obtain ⟨b, off, rfl⟩ := plainRow (hc 0 (by omega))
    refine ⟨b, off, rfl, ?_⟩
    have := hc j (by omega)
    have hadd : (⟨b, off, none⟩ : Addr).add j = ⟨b, off + j, none⟩ := by unfold Addr.add; split <;> simp_all
    rw [hadd] at this
    rw [this]
    simp [hj']
theorem BitsAll_walk (a0 a1 a2 a3 : Int) (a4 : Bool) (a5 : Option Addr) (l5 c5 : Nat) (z5 : List Int) (W : World) (w0 : (Lit.int .u32 a0).wf = true) (w1 : (Lit.int .u32 a1).wf = true) (w2 : (Lit.int .i64 a2).wf = true) (w3 : (Lit.int .i64 a3).wf = true)
    (w5 : IsRow .u8 W a5 l5 c5 z5) (s5 : l5 * 1 ≤ 140737488351232) :
    Calls Try.prog 8 #[.int .u32 a0, .int .u32 a1, .int .i64 a2, .int .i64 a3, .bool a4, .slice a5 l5 c5] W fun e W' => e = .returned (.bool true) ∧ Below W.heap.size W W' := by
  have hlen : l5 ≤ z5.length := by
    rcases w5 with ⟨_, rfl, _⟩ | ⟨x, rfl, hl, _, hz, _⟩
    · omega
    · omega
  have hle : (z5.take l5).length = l5 := by simp; omega
  have hw : ∀ n ∈ z5, (Lit.int .u8 n).wf = true := by
    rcases w5 with ⟨_, _, _, rfl⟩ | ⟨x, _, _, _, _, _, hw⟩
    · simp
    · exact hw
  have h := BitsAll_core a0 a1 a2 a3 a4 a5 (z5.take l5) c5 W w0 w1 w2 w3 (bytes8_of_row w5) (fun x hx => by
    have := hw x (List.mem_of_mem_take hx)
    have := bounds_u8 this
    omega) (by rw [hle]; omega)
  rw [hle] at h
  exact h
end Go.Proofs.Ythgigkjnbflnpaa
