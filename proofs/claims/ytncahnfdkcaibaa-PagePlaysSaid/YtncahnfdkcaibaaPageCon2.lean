/- Package page: the contracts of what makes a page. -/
import Derived.Test.YtncahnfdkcaibaaPageCon
import Derived.Laws.Tables
namespace Go.Proofs.Ytncahnfdkcaibaa
open Go Go.RowKit
set_option linter.unusedVariables false
def noughts : List Int := List.replicate 256 0
theorem zero_page : Try.t51.zero = some (.agg (pcells noughts 0 0)) := by kernel_rfl
theorem zero_run (w : World) : (zeroValue 51).run Try.prog w = .ok (.agg (pcells noughts 0 0)) w := by
  have h := zero_page
  generalize Value.agg (pcells noughts 0 0) = z at h
  simp [zeroValue, h, Result.andThen]
theorem pcells_size {bs : List Int} (h : bs.length = 256) (x y : Int) : (pcells bs x y).size = 258 := by simp [pcells, h]
theorem pcells_perm {bs : List Int} (h : bs.length = 256) (x y z : Int) : (pcells bs x y).setIfInBounds 256 (.int .i64 z) = pcells bs z y := by simp [pcells, h]
theorem noughts_len : noughts.length = 256 := List.length_replicate
theorem box_page (C : Array Value) (w : World) : (Instr.box 51 (.agg C)).run Try.prog w = .ok (.pointer (some ⟨w.heap.size, 0, none⟩)) (w.alloc (.cells C 51)) := by
  simp [Instr.box, newVar, newRow, Value.cells, Result.andThen]
theorem New_c (p : Int) (w : World) :
    Calls Try.prog 6 #[.int .i64 p] w fun e w' => e = .returned (.pointer (some ⟨w.heap.size, 0, none⟩)) ∧ w.alloc (.cells (pcells noughts (p % 8) 0) 51) = w' := by
  have h7 := and7 p
  have h1 := zero_run w
  have hs := pcells_size noughts_len 0 0
  have ht := pcells_perm noughts_len 0 0 (p % 8)
  generalize pcells noughts 0 0 = C0 at h1 hs ht
  generalize pcells noughts (p % 8) 0 = C at ht
  have hs2 : ¬ C0.size < 257 := by omega
  have hs3 : ¬ 257 > C0.size := by omega
  go_enter Try.func6, Try.ntmps6
  go_wp2_with fail
  go_ret
  exact ⟨rfl, rfl⟩
end Go.Proofs.Ytncahnfdkcaibaa
