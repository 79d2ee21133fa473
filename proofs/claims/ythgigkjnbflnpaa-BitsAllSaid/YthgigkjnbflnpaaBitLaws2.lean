/- More laws of package bits that need no reference: the plain facts, and the walk of each. -/
import Derived.Test.YthgigkjnbflnpaaBitLaws
namespace Go.Proofs.Ythgigkjnbflnpaa
open Go.RowKit
set_option linter.unusedVariables false
theorem below_drewN' {B : Nat} {a w : World} (h : Below B a w) (n : Nat) : Below B a (w.drewN n) := ⟨h.os, h.tape, h.output, h.size, h.block⟩
theorem Below.of_drewN {w w' : World} {n : Nat} (h : Below (w.drewN n).heap.size (w.drewN n) w') : Below w.heap.size w w' := ⟨h.os, h.tape, h.output, h.size, h.block⟩
theorem cases32 {k : Nat} (h : k ≤ 31) : k = 0 ∨ k = 1 ∨ k = 2 ∨ k = 3 ∨ k = 4 ∨ k = 5 ∨ k = 6 ∨ k = 7 ∨ k = 8 ∨ k = 9 ∨ k = 10 ∨ k = 11 ∨ k = 12 ∨ k = 13 ∨ k = 14 ∨ k = 15 ∨ k = 16 ∨ k = 17 ∨ k = 18 ∨ k = 19 ∨ k = 20 ∨ k = 21 ∨ k = 22 ∨ k = 23 ∨ k = 24 ∨ k = 25 ∨ k = 26 ∨ k = 27 ∨ k = 28 ∨ k = 29 ∨ k = 30 ∨ k = 31 := by omega
theorem shifts_core (v : Int) (k : Nat) (h0 : 0 ≤ v) (h1 : v ≤ 4294967295) (hk : k ≤ 31) :
    v * 2 ^ k % 4294967296 / 2 ^ k = v % 2 ^ (32 - k) ∧ (wrap32 v / 2 ^ k % 4294967296) % 2 ^ (32 - k) = (v / 2 ^ k) % 2 ^ (32 - k) ∧
    (v < 2147483648 → wrap32 v / 2 ^ k % 4294967296 = v / 2 ^ k) ∧
    (2147483648 ≤ v → (wrap32 v / 2 ^ k % 4294967296) / 2 ^ (32 - k) * 2 ^ (32 - k) + (2 ^ (32 - k) - 1) = 4294967295) ∧
    0 ≤ v / 2 ^ k ∧ v / 2 ^ k ≤ 4294967295 ∧ 0 ≤ v * 2 ^ k % 4294967296 / 2 ^ k := by
  unfold wrap32
  rcases cases32 hk with rfl | rfl | rfl | rfl | rfl | rfl | rfl | rfl | rfl | rfl | rfl | rfl | rfl | rfl | rfl | rfl | rfl | rfl | rfl | rfl | rfl | rfl | rfl | rfl | rfl | rfl | rfl | rfl | rfl | rfl | rfl | rfl <;> (simp only [Int.reducePow, Nat.reduceSub]; omega)
theorem or_mask (m : Nat) (hm : m ≤ 32) {v : Int} (h0 : 0 ≤ v) (h1 : v ≤ 4294967295) : bits .or .u32 v (2 ^ m - 1) = v / 2 ^ m * 2 ^ m + (2 ^ m - 1) := by
  have hp : (2 ^ m : Nat) ≤ 2 ^ 32 := Nat.pow_le_pow_right (by omega) hm
  have hq : 1 ≤ (2 ^ m : Nat) := Nat.one_le_two_pow
  have e : ((2 : Int) ^ m) = ((2 ^ m : Nat) : Int) := by simp
  rw [e, u32_or v _ h0 (by omega) (by omega) (by omega)]
  have e1 : (((2 ^ m : Nat) : Int) - 1).toNat = 2 ^ m - 1 := by omega
  rw [e1]
  have e2 : v.toNat ||| (2 ^ m - 1) = (v.toNat / 2 ^ m * 2 ^ m) + (2 ^ m - 1) := by
    rw [← nat_join m (v.toNat / 2 ^ m * 2 ^ m) (2 ^ m - 1) (Nat.mul_mod_left _ _) (by omega)]
    apply Nat.eq_of_testBit_eq
    intro i
    simp only [Nat.testBit_or, Nat.testBit_two_pow_sub_one, Nat.testBit_mul_two_pow, Nat.testBit_div_two_pow]
    by_cases hi : i < m
    · simp [hi]
    · have h' : i - m + m = i := by omega
      simp [hi, h', show m ≤ i by omega]
  rw [e2, Int.natCast_add, Int.natCast_mul, Int.natCast_ediv, Int.toNat_of_nonneg h0]
  omega
theorem shifts_facts (v n : Int) (h0 : 0 ≤ v) (h1 : v ≤ 4294967295) (g0 : 0 ≤ n) (g1 : n ≤ 4294967295) (low : Int) (hlow : low = 2 ^ (32 - (n % 32).toNat) - 1) :
    (sShr (sShl v n) n == bits .and .u32 v low) = true ∧ (sShl v n == sShl v ((n + 32) % 4294967296)) = true ∧ (sShr v n == sShr v (n % 32)) = true ∧
    (bits .and .u32 (sSar v n) low == bits .and .u32 (sShr v n) low) = true ∧ (v / 2147483648 = 1 ∨ (sSar v n == sShr v n) = true) ∧ (v / 2147483648 = 0 ∨ (bits .or .u32 (sSar v n) low == 4294967295) = true) := by
  subst hlow
  have hk : (n % 32).toNat ≤ 31 := by omega
  have hk2 : ((n + 32) % 4294967296 % 32).toNat = (n % 32).toNat := by omega
  have hk3 : (n % 32 % 32).toNat = (n % 32).toNat := by omega
  obtain ⟨c1, c2, c3, c4, c5, c6, c7⟩ := shifts_core v _ h0 h1 hk
  unfold sShr sShl sSar
  rw [hk2, hk3]
  refine ⟨?_, by simp, by simp, ?_, ?_, ?_⟩
  · rw [beq_iff_eq, and_mask _ (by omega) h0 h1, c1]
  · rw [beq_iff_eq, and_mask _ (by omega) (by omega) (by omega), and_mask _ (by omega) c5 c6, c2]
  · by_cases hv : v < 2147483648
    · right; rw [beq_iff_eq, c3 hv]
    · left; omega
  · by_cases hv : v < 2147483648
    · left; omega
    · right; rw [beq_iff_eq, or_mask _ (by omega) (by omega) (by omega), c4 (by omega)]
theorem and31_eq {n : Int} (h0 : 0 ≤ n) (h1 : n ≤ 4294967295) : bits .and .u32 n 31 = n % 32 := and31 h0 h1
theorem Ones_c (x : Int) (w : World) (h0 : 0 ≤ x) (h1 : x ≤ 4294967295) :
    Calls Try.prog 19 #[.int .u32 x] w fun e w' => e = .returned (.int .u32 (sZeros (bits .xor .u32 IntKind.u32.max x))) ∧ w = w' := by
  have hx : 0 ≤ bits .xor .u32 IntKind.u32.max x ∧ bits .xor .u32 IntKind.u32.max x ≤ 4294967295 := bounds_u32 (wf_bits _ _ _ _)
  obtain ⟨x0, x1⟩ := hx
  go_enter Try.func19, Try.ntmps19
  go_wp2_with (go_at_call 18; refine (Zeros_c _ _ x0 x1).mono ?_; rintro e w' ⟨rfl, rfl⟩)
  go_ret
  exact ⟨rfl, rfl⟩
theorem wrap_sum {a b : Int} (h1 : -9223372036854775808 ≤ a) (h2 : a ≤ 9223372036854775807) (h3 : 1 ≤ b) (h4 : b ≤ 9223372036854775807) (h : a.tmod b < 0) : wrap64 (a.tmod b + b) = a % b := by
  have e := Int.emod_eq_of_lt (a := a.tmod b + b) (b := b) (by have := Int.lt_tmod_of_pos a (show 0 < b by omega); omega) (by omega)
  rw [Int.add_emod_right] at e
  have e2 : a.tmod b % b = a % b := by rw [Int.tmod_def, Int.sub_mul_emod_self_left]
  have := Int.lt_tmod_of_pos a (show 0 < b by omega)
  unfold wrap64
  omega
theorem tmod_nn {a b : Int} (h3 : 1 ≤ b) (h : 0 ≤ a.tmod b) : a.tmod b = a % b := by
  have e := Int.emod_eq_of_lt (a := a.tmod b) (b := b) h (Int.tmod_lt_of_pos a (by omega))
  have e2 : a.tmod b % b = a % b := by rw [Int.tmod_def, Int.sub_mul_emod_self_left]
  omega
theorem Place_c (a b : Int) (w : World) (h1 : -9223372036854775808 ≤ a) (h2 : a ≤ 9223372036854775807) (h3 : 1 ≤ b) (h4 : b ≤ 9223372036854775807) :
    Calls Try.prog 16 #[.int .i64 a, .int .i64 b] w fun e w' => e = .returned (.int .i64 (a % b)) ∧ w = w' := by
  have hz : (b == 0) = false := beq_eq_false_iff_ne.mpr (by omega)
  by_cases h : a.tmod b < 0
  · go_enter Try.func16, Try.ntmps16
    go_wp2_with fail
    go_ret
    exact ⟨ret_int (wrap_sum h1 h2 h3 h4 h), rfl⟩
  · have h' : 0 ≤ a.tmod b := by omega
    clear h
    go_enter Try.func16, Try.ntmps16
    go_wp2_with fail
    go_ret
    exact ⟨ret_int (tmod_nn h3 h'), rfl⟩
theorem shr_bd (v n : Int) (h0 : 0 ≤ v) (h1 : v ≤ 4294967295) : 0 ≤ sShr v n ∧ sShr v n ≤ 4294967295 := by
  obtain ⟨_, _, _, _, c5, c6, _⟩ := shifts_core v (n % 32).toNat h0 h1 (by omega)
  exact ⟨c5, c6⟩
theorem parted {q : Int} {A B : Prop} (h5 : q = 1 ∨ A) (h6 : q = 0 ∨ B) (g0 : 0 ≤ q) (g1 : q ≤ 1) :
    ((q == 1) = true ∧ (q == 0) = false ∧ B) ∨ ((q == 1) = false ∧ (q == 0) = true ∧ A) := by
  by_cases hq : q = 1
  · subst hq
    exact Or.inl ⟨rfl, rfl, h6.resolve_left (by omega)⟩
  · obtain rfl : q = 0 := by omega
    exact Or.inr ⟨rfl, rfl, h5.resolve_left (by omega)⟩
set_option maxHeartbeats 4000000 in
theorem BitsShifts_walk (a0 a1 : Int) (W : World) (w0 : (Lit.int .u32 a0).wf = true) (w1 : (Lit.int .u32 a1).wf = true) :
    Calls Try.prog 3 #[.int .u32 a0, .int .u32 a1] W fun e W' => e = .returned (.bool true) ∧ Below W.heap.size W W' := by
  obtain ⟨b0, b1⟩ := bounds_u32 w0
  obtain ⟨b2, b3⟩ := bounds_u32 w1
  clear w0 w1
  have hz := Lib.hid (and31_eq b2 b3)
  obtain ⟨k, hk, k0, k1⟩ : ∃ k : Int, bits .and .u32 a1 31 = k ∧ 0 ≤ k ∧ k ≤ 31 := ⟨_, rfl, by rw [hz.out]; omega, by rw [hz.out]; omega⟩
  have hk' : k = a1 % 32 := by rw [← hk, hz.out]
  have HK := Lib.hid hk'
  clear hk'
  by_cases kz : k = 0
  · obtain ⟨f1, f2, f3, f4, f5, f6⟩ := shifts_facts a0 a1 b0 b1 b2 b3 4294967295 (by have := HK.out; rw [show (a1 % 32).toNat = 0 by omega]; rfl)
    rw [← HK.out] at f3
    have kz' : (k == 0) = true := beq_iff_eq.mpr kz
    clear kz
    have m1 := parted f5 f6 (show 0 ≤ a0 / 2147483648 by omega) (by omega)
    clear f5 f6
    rcases m1 with ⟨m1, m2, m3⟩ | ⟨m1, m2, m3⟩
    · go_enter Try.func3, Try.ntmps3
      go_wp2_with (first | (go_at_call 9; refine (Shr_c _ _ _ (by omega) (by omega)).mono ?_; rintro e w' ⟨rfl, rfl⟩) | (go_at_call 10; refine (Shl_c _ _ _ (by omega) (by omega)).mono ?_; rintro e w' ⟨rfl, rfl⟩) | (go_at_call 11; refine (Sar_c _ _ _ (by omega) (by omega)).mono ?_; rintro e w' ⟨rfl, rfl⟩) | (go_at_call 15; refine (Sext_c _ _ _).mono ?_; rintro e w' ⟨rfl, rfl⟩) | (go_at_call 18; refine (Zeros_c _ _ (by omega) (by omega)).mono ?_; rintro e w' ⟨rfl, rfl⟩) | (go_at_call 19; refine (Ones_c _ _ (by omega) (by omega)).mono ?_; rintro e w' ⟨rfl, rfl⟩) | (go_at_call 17; refine (Field_c _ _ _ _ (by omega) (by omega)).mono ?_; rintro e w' ⟨rfl, nd, rfl⟩) | (go_at_call 20; refine (Mul_c _ _ _ _ (by omega) (by omega) (by omega) (by omega)).mono ?_; rintro e w' ⟨rfl, rfl⟩) | (go_at_call 21; refine (Div_c _ _ _ _ (by omega) (by omega) (by omega) (by omega)).mono ?_; rintro e w' ⟨rfl, nd, rfl⟩) | (go_at_call 16; refine (Place_c _ _ _ (by omega) (by omega) (by omega) (by omega)).mono ?_; rintro e w' ⟨rfl, rfl⟩) | (go_at_call 12; refine (awake_c _).mono ?_; rintro e w' ⟨rfl, hb⟩))
      go_ret
      exact ⟨rfl, by assumption⟩
    · go_enter Try.func3, Try.ntmps3
      go_wp2_with (first | (go_at_call 9; refine (Shr_c _ _ _ (by omega) (by omega)).mono ?_; rintro e w' ⟨rfl, rfl⟩) | (go_at_call 10; refine (Shl_c _ _ _ (by omega) (by omega)).mono ?_; rintro e w' ⟨rfl, rfl⟩) | (go_at_call 11; refine (Sar_c _ _ _ (by omega) (by omega)).mono ?_; rintro e w' ⟨rfl, rfl⟩) | (go_at_call 15; refine (Sext_c _ _ _).mono ?_; rintro e w' ⟨rfl, rfl⟩) | (go_at_call 18; refine (Zeros_c _ _ (by omega) (by omega)).mono ?_; rintro e w' ⟨rfl, rfl⟩) | (go_at_call 19; refine (Ones_c _ _ (by omega) (by omega)).mono ?_; rintro e w' ⟨rfl, rfl⟩) | (go_at_call 17; refine (Field_c _ _ _ _ (by omega) (by omega)).mono ?_; rintro e w' ⟨rfl, nd, rfl⟩) | (go_at_call 20; refine (Mul_c _ _ _ _ (by omega) (by omega) (by omega) (by omega)).mono ?_; rintro e w' ⟨rfl, rfl⟩) | (go_at_call 21; refine (Div_c _ _ _ _ (by omega) (by omega) (by omega) (by omega)).mono ?_; rintro e w' ⟨rfl, nd, rfl⟩) | (go_at_call 16; refine (Place_c _ _ _ (by omega) (by omega) (by omega) (by omega)).mono ?_; rintro e w' ⟨rfl, rfl⟩) | (go_at_call 12; refine (awake_c _).mono ?_; rintro e w' ⟨rfl, hb⟩))
      go_ret
      exact ⟨rfl, by assumption⟩
  · have kz' : (k == 0) = false := beq_eq_false_iff_ne.mpr kz
    have k2 : 1 ≤ k := by omega
    clear kz
    obtain ⟨low, hl⟩ : ∃ low : Int, (2 ^ (32 - k).toNat - 1) % 4294967296 = low := ⟨_, rfl⟩
    have hlow : low = 2 ^ (32 - (a1 % 32).toNat) - 1 := by
      rw [← hl, show (32 - k).toNat = 32 - (a1 % 32).toNat by have := HK.out; omega]
      have h1 := Nat.pow_le_pow_right (n := 2) (by omega) (show 32 - (a1 % 32).toNat ≤ 32 by omega)
      have h2 := Nat.one_le_two_pow (n := 32 - (a1 % 32).toNat)
      have e : (2 : Int) ^ (32 - (a1 % 32).toNat) = ((2 ^ (32 - (a1 % 32).toNat) : Nat) : Int) := by simp
      rw [e]; omega
    obtain ⟨f1, f2, f3, f4, f5, f6⟩ := shifts_facts a0 a1 b0 b1 b2 b3 low hlow
    rw [← HK.out] at f3
    clear hlow
    have m1 := parted f5 f6 (show 0 ≤ a0 / 2147483648 by omega) (by omega)
    clear f5 f6
    rcases m1 with ⟨m1, m2, m3⟩ | ⟨m1, m2, m3⟩
    · go_enter Try.func3, Try.ntmps3
      go_wp2_with (first | (go_at_call 9; refine (Shr_c _ _ _ (by omega) (by omega)).mono ?_; rintro e w' ⟨rfl, rfl⟩) | (go_at_call 10; refine (Shl_c _ _ _ (by omega) (by omega)).mono ?_; rintro e w' ⟨rfl, rfl⟩) | (go_at_call 11; refine (Sar_c _ _ _ (by omega) (by omega)).mono ?_; rintro e w' ⟨rfl, rfl⟩) | (go_at_call 15; refine (Sext_c _ _ _).mono ?_; rintro e w' ⟨rfl, rfl⟩) | (go_at_call 18; refine (Zeros_c _ _ (by omega) (by omega)).mono ?_; rintro e w' ⟨rfl, rfl⟩) | (go_at_call 19; refine (Ones_c _ _ (by omega) (by omega)).mono ?_; rintro e w' ⟨rfl, rfl⟩) | (go_at_call 17; refine (Field_c _ _ _ _ (by omega) (by omega)).mono ?_; rintro e w' ⟨rfl, nd, rfl⟩) | (go_at_call 20; refine (Mul_c _ _ _ _ (by omega) (by omega) (by omega) (by omega)).mono ?_; rintro e w' ⟨rfl, rfl⟩) | (go_at_call 21; refine (Div_c _ _ _ _ (by omega) (by omega) (by omega) (by omega)).mono ?_; rintro e w' ⟨rfl, nd, rfl⟩) | (go_at_call 16; refine (Place_c _ _ _ (by omega) (by omega) (by omega) (by omega)).mono ?_; rintro e w' ⟨rfl, rfl⟩) | (go_at_call 12; refine (awake_c _).mono ?_; rintro e w' ⟨rfl, hb⟩))
      go_ret
      exact ⟨rfl, by assumption⟩
    · go_enter Try.func3, Try.ntmps3
      go_wp2_with (first | (go_at_call 9; refine (Shr_c _ _ _ (by omega) (by omega)).mono ?_; rintro e w' ⟨rfl, rfl⟩) | (go_at_call 10; refine (Shl_c _ _ _ (by omega) (by omega)).mono ?_; rintro e w' ⟨rfl, rfl⟩) | (go_at_call 11; refine (Sar_c _ _ _ (by omega) (by omega)).mono ?_; rintro e w' ⟨rfl, rfl⟩) | (go_at_call 15; refine (Sext_c _ _ _).mono ?_; rintro e w' ⟨rfl, rfl⟩) | (go_at_call 18; refine (Zeros_c _ _ (by omega) (by omega)).mono ?_; rintro e w' ⟨rfl, rfl⟩) | (go_at_call 19; refine (Ones_c _ _ (by omega) (by omega)).mono ?_; rintro e w' ⟨rfl, rfl⟩) | (go_at_call 17; refine (Field_c _ _ _ _ (by omega) (by omega)).mono ?_; rintro e w' ⟨rfl, nd, rfl⟩) | (go_at_call 20; refine (Mul_c _ _ _ _ (by omega) (by omega) (by omega) (by omega)).mono ?_; rintro e w' ⟨rfl, rfl⟩) | (go_at_call 21; refine (Div_c _ _ _ _ (by omega) (by omega) (by omega) (by omega)).mono ?_; rintro e w' ⟨rfl, nd, rfl⟩) | (go_at_call 16; refine (Place_c _ _ _ (by omega) (by omega) (by omega) (by omega)).mono ?_; rintro e w' ⟨rfl, rfl⟩) | (go_at_call 12; refine (awake_c _).mono ?_; rintro e w' ⟨rfl, hb⟩))
      go_ret
      exact ⟨rfl, by assumption⟩
end Go.Proofs.Ythgigkjnbflnpaa
