/- The laws of package bits that need no reference: the plain facts, and the walk of each. -/
import Derived.Test.YthgigkjnbflnpaaBitCon
import Derived.OpenShut
namespace Go.Proofs.Ythgigkjnbflnpaa
open Go.RowKit
set_option linter.unusedVariables false
theorem aw1 : (sSext 128 8 == 4294967168) = true := by decide +kernel
theorem aw2 : (sZeros 1 == 31) = true := by decide +kernel
theorem aw3 : sAddOv 2147483647 1 = true := by decide +kernel
theorem awake_c (w : World) : Calls Try.prog 12 #[] w fun e w' => e = .returned (.bool true) ∧ Below w.heap.size w w' := by
  have h1 := aw1
  have h2 := aw2
  have h3 := aw3
  go_enter Try.func12, Try.ntmps12
  go_wp2_with (first | (go_at_call 13; refine (AddOver_c _ _ _ (by omega) (by omega) (by omega) (by omega)).mono ?_; rintro e w' ⟨rfl, rfl⟩) | (go_at_call 15; refine (Sext_c _ _ _).mono ?_; rintro e w' ⟨rfl, rfl⟩) | (go_at_call 18; refine (Zeros_c _ _ (by omega) (by omega)).mono ?_; rintro e w' ⟨rfl, rfl⟩))
  go_ret
  exact ⟨rfl, Below.refl _ _⟩
theorem pow_toNat (k : Nat) (n : Int) (h : n.toNat = k) : (2 : Int) ^ n.toNat = 2 ^ k := by rw [h]
theorem sSar_31 (a : Int) (h0 : 0 ≤ a) (h1 : a ≤ 4294967295) : sSar a 31 = a / 2147483648 * 4294967295 := by
  unfold sSar wrap32
  rw [show ((31 : Int) % 32).toNat = 31 from rfl]
  omega
theorem sSext_1 (v : Int) (h0 : 0 ≤ v) (h1 : v ≤ 1) : sSext v 1 = v * 4294967295 := by
  unfold sSext wrap32
  rw [show (32 - max 1 (min 1 32) : Int).toNat = 31 from rfl]
  omega
theorem sums_t1 {a b : Int} (h0 : 0 ≤ a) (h1 : a ≤ 4294967295) (h2 : 0 ≤ b) (h3 : b ≤ 4294967295) (hs : a / 2147483648 = b / 2147483648) :
    (sAddOv a b == ((a + b) % 4294967296 / 2147483648 != a / 2147483648)) = true := by
  rw [beq_iff_eq, Bool.eq_iff_iff, bne_iff_ne]
  unfold sAddOv wrap32
  rw [decide_eq_true_eq]
  omega
theorem sums_t1' {a b : Int} (h0 : 0 ≤ a) (h1 : a ≤ 4294967295) (h2 : 0 ≤ b) (h3 : b ≤ 4294967295) (hs : ¬ a / 2147483648 = b / 2147483648) : sAddOv a b = false := by
  rw [Bool.eq_false_iff]
  unfold sAddOv wrap32
  rw [ne_eq, decide_eq_true_eq]
  omega
theorem sums_t3 {a b : Int} (h0 : 0 ≤ a) (h1 : a ≤ 4294967295) (h2 : 0 ≤ b) (h3 : b ≤ 4294967295) : sSubOv ((a + b) % 4294967296) b = sAddOv a b := by
  rw [Bool.eq_iff_iff]
  unfold sAddOv sSubOv wrap32
  rw [decide_eq_true_eq, decide_eq_true_eq]
  omega
theorem BitsSums_walk (a0 a1 : Int) (W : World) (w0 : (Lit.int .u32 a0).wf = true) (w1 : (Lit.int .u32 a1).wf = true) :
    Calls Try.prog 4 #[.int .u32 a0, .int .u32 a1] W fun e W' => e = .returned (.bool true) ∧ Below W.heap.size W W' := by
  obtain ⟨b0, b1⟩ := bounds_u32 w0
  obtain ⟨b2, b3⟩ := bounds_u32 w1
  clear w0 w1
  have t2 : (a0 % 4294967296 == a0) = true := beq_iff_eq.mpr (by omega)
  have t3 : (sSubOv ((a0 + a1) % 4294967296) a1 == sAddOv a0 a1) = true := beq_iff_eq.mpr (sums_t3 b0 b1 b2 b3)
  have t4 : (sSar a0 31 == sSext (a0 / 2147483648) 1) = true := beq_iff_eq.mpr (by rw [sSar_31 _ b0 b1, sSext_1 _ (by omega) (by omega)])
  by_cases hs : a0 / 2147483648 = a1 / 2147483648
  · have t0 : (a0 / 2147483648 == a1 / 2147483648) = true := beq_iff_eq.mpr hs
    have t1 := sums_t1 b0 b1 b2 b3 hs
    clear hs
    go_enter Try.func4, Try.ntmps4
    go_wp2_with (first | (go_at_call 13; refine (AddOver_c _ _ _ (by omega) (by omega) (by omega) (by omega)).mono ?_; rintro e w' ⟨rfl, rfl⟩) | (go_at_call 14; refine (SubOver_c _ _ _ (by omega) (by omega) (by omega) (by omega)).mono ?_; rintro e w' ⟨rfl, rfl⟩) | (go_at_call 15; refine (Sext_c _ _ _).mono ?_; rintro e w' ⟨rfl, rfl⟩) | (go_at_call 11; refine (Sar_c _ _ _ (by omega) (by omega)).mono ?_; rintro e w' ⟨rfl, rfl⟩) | (go_at_call 12; refine (awake_c _).mono ?_; rintro e w' ⟨rfl, hb⟩))
    go_ret
    exact ⟨rfl, by assumption⟩
  · have t0 : (a0 / 2147483648 == a1 / 2147483648) = false := beq_eq_false_iff_ne.mpr hs
    have t1 : (sAddOv a0 a1 == false) = true := by rw [sums_t1' b0 b1 b2 b3 hs]; rfl
    clear hs
    go_enter Try.func4, Try.ntmps4
    go_wp2_with (first | (go_at_call 13; refine (AddOver_c _ _ _ (by omega) (by omega) (by omega) (by omega)).mono ?_; rintro e w' ⟨rfl, rfl⟩) | (go_at_call 14; refine (SubOver_c _ _ _ (by omega) (by omega) (by omega) (by omega)).mono ?_; rintro e w' ⟨rfl, rfl⟩) | (go_at_call 15; refine (Sext_c _ _ _).mono ?_; rintro e w' ⟨rfl, rfl⟩) | (go_at_call 11; refine (Sar_c _ _ _ (by omega) (by omega)).mono ?_; rintro e w' ⟨rfl, rfl⟩) | (go_at_call 12; refine (awake_c _).mono ?_; rintro e w' ⟨rfl, hb⟩))
    go_ret
    exact ⟨rfl, by assumption⟩
end Go.Proofs.Ythgigkjnbflnpaa
