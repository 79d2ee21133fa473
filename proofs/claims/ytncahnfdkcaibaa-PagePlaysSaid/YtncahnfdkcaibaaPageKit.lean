/- The place of any number among n, and the document's example of page. -/
import Derived.Test.YtncahnfdkcaibaaPageCon4
import Derived.Laws.Bits128
namespace Go.Proofs.Ytncahnfdkcaibaa
open Go Go.RowKit
set_option linter.unusedVariables false
theorem ret_int {k : IntKind} {a b : Int} (h : a = b) : Ending.returned (.int k a) = .returned (.int k b) := by rw [h]
theorem wrap_sum {a b : Int} (h1 : -9223372036854775808 ≤ a) (h2 : a ≤ 9223372036854775807) (h3 : 1 ≤ b) (h4 : b ≤ 9223372036854775807) (h : a.tmod b < 0) : wrap64 (a.tmod b + b) = a % b := by
  have e := Int.emod_eq_of_lt (a := a.tmod b + b) (b := b) (by have := Int.lt_tmod_of_pos a (show 0 < b by omega); omega) (by omega)
  rw [Int.add_emod_right] at e
  have e2 : a.tmod b % b = a % b := by rw [Int.tmod_def, Int.sub_mul_emod_self_left]
  have := Int.lt_tmod_of_pos a (show 0 < b by omega)
  unfold wrap64
  omega
theorem tmod_nn {a b : Int} (h3 : 1 ≤ b) (h : 0 ≤ a.tmod b) : a.tmod b = a % b := by
  have e := Int.emod_eq_of_lt (a := a.tmod b) (b := b) h (Int.tmod_lt_of_pos a (by omega))
  have e2 : a.tmod b % b = a % b := by rw [Int.tmod_def, Int.sub_mul_emod_self_left]
  omega
theorem Place_c (a b : Int) (w : World) (h1 : -9223372036854775808 ≤ a) (h2 : a ≤ 9223372036854775807) (h3 : 1 ≤ b) (h4 : b ≤ 9223372036854775807) :
    Calls Try.prog 7 #[.int .i64 a, .int .i64 b] w fun e w' => e = .returned (.int .i64 (a % b)) ∧ w = w' := by
  have hz : (b == 0) = false := beq_eq_false_iff_ne.mpr (by omega)
  by_cases h : a.tmod b < 0
  · go_enter Try.func7, Try.ntmps7
    go_wp2_with fail
    go_ret
    exact ⟨ret_int (wrap_sum h1 h2 h3 h4 h), rfl⟩
  · have h' : 0 ≤ a.tmod b := by omega
    clear h
    go_enter Try.func7, Try.ntmps7
    go_wp2_with fail
    go_ret
    exact ⟨ret_int (tmod_nn h3 h'), rfl⟩
theorem awake_c (w : World) : Calls Try.prog 12 #[] w fun e w' => e = .returned (.bool true) ∧ Below w.heap.size w w' := by
  have hA := PageAt.new w noughts_len (4 % 8) 0
  have hlt : w.heap.size < (w.alloc (.cells (pcells noughts (4 % 8) 0) 51)).heap.size := hA.lt
  have hB0 : Below w.heap.size w (w.alloc (.cells (pcells noughts (4 % 8) 0) 51)) := (Below.refl _ _).alloc (Nat.le_refl _) _
  generalize hw1 : w.alloc (.cells (pcells noughts (4 % 8) 0) 51) = w1 at hA hlt hB0
  have HW := Lib.hid hw1
  clear hw1
  go_enter Try.func12, Try.ntmps12
  go_wp2_with (first | (go_at_call 6; refine (New_c _ _).mono ?_; rintro e w' ⟨rfl, hq⟩; rw [HW.out] at hq; subst hq))
  refine (SetByte_c _ _ _ _ 3 9 _ hA (by omega) (by omega) (by omega) (by omega)).mono ?_
  rintro e w2 ⟨rfl, hP, hb⟩
  have hP2 : PageAt w2 w.heap.size (noughts.set 3 9) 4 1 := hP
  have hb9 : (if (0 : Int) ≤ 3 ∧ (3 : Int) < 256 then (noughts.set 3 9).getD (3 : Int).toNat 0 else 0) = 9 := by decide
  have hX := Lib.hid hP2
  have hbw := Lib.hid hb
  clear hP hP2 hb hA
  have hHB := Lib.hid hb9
  clear hb9
  go_wp2_with (first | (go_at_call 10; refine (Byte_c _ _ _ _ _ _ hX.out (by omega) (by omega)).mono ?_; rintro e w' ⟨he, rfl⟩; rw [hHB.out] at he; subst he) | (go_at_call 11; refine (Writes_c _ _ _ _ _ hX.out).mono ?_; rintro e w' ⟨rfl, rfl⟩) | (go_at_call 15; refine (Perm_c _ _ _ _ _ hX.out).mono ?_; rintro e w' ⟨rfl, rfl⟩))
  go_ret
  have hq := hbw.out
  exact ⟨rfl, ⟨hq.os.trans hB0.os, hq.tape.trans hB0.tape, hq.output.trans hB0.output, by rw [hq.size]; exact hB0.size, fun k hk => (hq.block k (by omega)).trans (hB0.block k hk)⟩⟩
end Go.Proofs.Ytncahnfdkcaibaa
