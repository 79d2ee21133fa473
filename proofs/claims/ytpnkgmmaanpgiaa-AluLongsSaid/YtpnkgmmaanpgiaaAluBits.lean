/- Contracts of the bits that the alu reckons with: the program, the reference. -/
import Derived.Test.YtpnkgmmaanpgiaaBitFacts
import Derived.Test.YtpnkgmmaanpgiaaKAll
import Derived.Lib.Walk
import Derived.Lib.Strings
import Derived.Deep.QuietTactic
import Derived.BigQuiet
import Derived.OpenShut
namespace Go.Proofs.Ytpnkgmmaanpgiaa
open Go Go.RowKit
set_option linter.unusedVariables false
theorem ret_int {k : IntKind} {a b : Int} (h : a = b) : Ending.returned (.int k a) = .returned (.int k b) := by rw [h]
theorem ret_ib {k : IntKind} {a b : Int} {c d : Bool} (h : a = b) (h' : c = d) : Ending.returned (.tuple #[.int k a, .bool c]) = .returned (.tuple #[.int k b, .bool d]) := by rw [h, h']
theorem ret_ii {k : IntKind} {a b c d : Int} (h : a = b) (h' : c = d) : Ending.returned (.tuple #[.int k a, .int k c]) = .returned (.tuple #[.int k b, .int k d]) := by rw [h, h']
theorem Shr_c (v n : Int) (w : World) (h0 : 0 ≤ n) (h1 : n ≤ 4294967295) :
    Calls Try.prog 26 #[.int .u32 v, .int .u32 n] w fun e w' => e = .returned (.int .u32 (sShr v n)) ∧ w = w' := by
  have H := Lib.hid (and31 h0 h1)
  have H0 : 0 ≤ bits .and .u32 n 31 := by rw [H.out]; omega
  have H1 : bits .and .u32 n 31 ≤ 31 := by rw [H.out]; omega
  go_enter Try.func26, Try.ntmps26
  go_wp2
  go_ret
  refine ⟨ret_int ?_, rfl⟩
  unfold sShr
  rw [H.out]
theorem Shl_c (v n : Int) (w : World) (h0 : 0 ≤ n) (h1 : n ≤ 4294967295) :
    Calls Try.prog 25 #[.int .u32 v, .int .u32 n] w fun e w' => e = .returned (.int .u32 (sShl v n)) ∧ w = w' := by
  have H := Lib.hid (and31 h0 h1)
  have H0 : 0 ≤ bits .and .u32 n 31 := by rw [H.out]; omega
  have H1 : bits .and .u32 n 31 ≤ 31 := by rw [H.out]; omega
  go_enter Try.func25, Try.ntmps25
  go_wp2
  go_ret
  refine ⟨ret_int ?_, rfl⟩
  unfold sShl
  rw [H.out]
theorem Sar_c (v n : Int) (w : World) (h0 : 0 ≤ n) (h1 : n ≤ 4294967295) :
    Calls Try.prog 27 #[.int .u32 v, .int .u32 n] w fun e w' => e = .returned (.int .u32 (sSar v n)) ∧ w = w' := by
  have H := Lib.hid (and31 h0 h1)
  have H0 : 0 ≤ bits .and .u32 n 31 := by rw [H.out]; omega
  have H1 : bits .and .u32 n 31 ≤ 31 := by rw [H.out]; omega
  go_enter Try.func27, Try.ntmps27
  go_wp2
  go_ret
  refine ⟨ret_int ?_, rfl⟩
  unfold sSar
  rw [H.out]
theorem AddOver_c (a b : Int) (w : World) (ha : 0 ≤ a) (ha' : a ≤ 4294967295) (hb : 0 ≤ b) (hb' : b ≤ 4294967295) :
    Calls Try.prog 39 #[.int .u32 a, .int .u32 b] w fun e w' => e = .returned (.tuple #[.int .u32 ((a + b) % 4294967296), .bool (sAddOv a b)]) ∧ w = w' := by
  have H := Lib.hid (add_over ha ha' hb hb')
  go_enter Try.func39, Try.ntmps39
  go_wp2
  go_ret2
  exact ⟨ret_ib rfl H.out, rfl⟩
theorem SubOver_c (a b : Int) (w : World) (ha : 0 ≤ a) (ha' : a ≤ 4294967295) (hb : 0 ≤ b) (hb' : b ≤ 4294967295) :
    Calls Try.prog 40 #[.int .u32 a, .int .u32 b] w fun e w' => e = .returned (.tuple #[.int .u32 ((a - b) % 4294967296), .bool (sSubOv a b)]) ∧ w = w' := by
  have H := Lib.hid (sub_over ha ha' hb hb')
  go_enter Try.func40, Try.ntmps40
  go_wp2
  go_ret2
  exact ⟨ret_ib rfl H.out, rfl⟩
theorem mul_lo {a b : Int} : wrap32 a * wrap32 b % 4294967296 = a * b % 4294967296 := by
  have h1 : wrap32 a % 4294967296 = a % 4294967296 := by unfold wrap32; omega
  have h2 : wrap32 b % 4294967296 = b % 4294967296 := by unfold wrap32; omega
  rw [Int.mul_emod, h1, h2, ← Int.mul_emod]
theorem mul_bd {a b : Int} (ha : 0 ≤ a) (ha' : a ≤ 4294967295) (hb : 0 ≤ b) (hb' : b ≤ 4294967295) : 0 ≤ a * b ∧ a * b ≤ 18446744065119617025 := by
  refine ⟨Int.mul_nonneg ha hb, ?_⟩
  have := Int.mul_le_mul ha' hb' hb (by omega : (0 : Int) ≤ 4294967295)
  simpa using this
theorem mul_hi {p : Int} : p % 18446744073709551616 / 4294967296 % 4294967296 = p / 4294967296 % 4294967296 := by omega
theorem mul_abs {x y : Int} (h1 : -2147483648 ≤ x) (h2 : x ≤ 2147483647) (h3 : -2147483648 ≤ y) (h4 : y ≤ 2147483647) : -4611686018427387904 ≤ x * y ∧ x * y ≤ 4611686018427387904 := by
  have hx : x.natAbs ≤ 2147483648 := by omega
  have hy : y.natAbs ≤ 2147483648 := by omega
  have h := Nat.mul_le_mul hx hy
  rw [← Int.natAbs_mul] at h
  omega
theorem wrap32_bd (a : Int) : -2147483648 ≤ wrap32 a ∧ wrap32 a ≤ 2147483647 := by unfold wrap32; omega
theorem Mul_c (a b : Int) (s : Bool) (w : World) (ha : 0 ≤ a) (ha' : a ≤ 4294967295) (hb : 0 ≤ b) (hb' : b ≤ 4294967295) :
    Calls Try.prog 21 #[.int .u32 a, .int .u32 b, .bool s] w fun e w' => e = .returned (.tuple #[.int .u32 (sMulHi a b s), .int .u32 (sMulLo a b)]) ∧ w = w' := by
  obtain ⟨p0, p1⟩ := mul_bd ha ha' hb hb'
  cases s
  · go_enter Try.func21, Try.ntmps21
    go_wp2
    go_ret2
    exact ⟨ret_ii (b := sMulHi a b false) (d := sMulLo a b) rfl rfl, rfl⟩
  · have b1 := wrap32_bd a
    have b2 := wrap32_bd b
    obtain ⟨q0, q1⟩ := mul_abs b1.1 b1.2 b2.1 b2.2
    go_enter Try.func21, Try.ntmps21
    go_wp2
    go_ret2
    refine ⟨ret_ii (b := sMulHi a b true) (d := sMulLo a b) ?_ ?_, rfl⟩
    · rw [IntKind.wrap_u64, mul_hi]; rfl
    · rw [IntKind.wrap_u64]; unfold sMulLo; rw [← mul_lo]; omega
theorem tdiv_bd {x y : Int} (hx : -2147483648 ≤ x) (hx' : x ≤ 2147483647) : -2147483648 ≤ Int.tdiv x y ∧ Int.tdiv x y ≤ 2147483648 := by
  have h : (Int.tdiv x y).natAbs = x.natAbs / y.natAbs := Int.natAbs_tdiv x y
  have h2 : x.natAbs / y.natAbs ≤ x.natAbs := Nat.div_le_self _ _
  rw [← h] at h2
  omega
theorem Div_c (a b : Int) (s : Bool) (w : World) (ha : 0 ≤ a) (ha' : a ≤ 4294967295) (hb : 0 ≤ b) (hb' : b ≤ 4294967295) :
    Calls Try.prog 22 #[.int .u32 a, .int .u32 b, .bool s] w fun e w' => e = .returned (.tuple #[.int .u32 (sQuo a b s), .int .u32 (sRem a b s)]) ∧ ∃ n, w.drewN n = w' := by
  by_cases hz : b = 0
  · subst hz
    go_enter Try.func22, Try.ntmps22
    go_wp2
    go_ret2
    exact ⟨ret_ii (b := sQuo a 0 s) (d := sRem a 0 s) rfl rfl, 0, rfl⟩
  · have hz' : (b == 0) = false := beq_eq_false_iff_ne.mpr hz
    cases s
    · go_enter Try.func22, Try.ntmps22
      go_wp2
      go_quiet (fail)
      go_wp2
      go_ret2
      refine ⟨ret_ii (b := sQuo a b false) (d := sRem a b false) ?_ ?_, _, rfl⟩
      · unfold sQuo; rw [if_neg hz]; rfl
      · unfold sRem; rw [if_neg hz]; rfl
    · have b1 := wrap32_bd a
      have b2 := wrap32_bd b
      have hy : ¬ wrap32 b = 0 := by unfold wrap32; omega
      have hy' : (wrap32 b == 0) = false := beq_eq_false_iff_ne.mpr hy
      have bd := tdiv_bd (y := wrap32 b) b1.1 b1.2
      go_enter Try.func22, Try.ntmps22
      go_wp2
      go_quiet (fail)
      go_wp2
      go_ret2
      refine ⟨ret_ii (b := sQuo a b true) (d := sRem a b true) ?_ ?_, _, rfl⟩
      · unfold sQuo; rw [if_neg hz]; rfl
      · unfold sRem; rw [if_neg hz]; rfl
set_option maxRecDepth 100000 in
theorem Len32_c (x : Int) (w : World) (h0 : 0 ≤ x) (h1 : x ≤ 4294967295) :
    Calls Try.prog 49 #[.int .u32 x] w fun e w' => e = .returned (.int .i64 (Lib.bitLen x.toNat)) ∧ w = w' := by
  by_cases hs : x ≤ 255
  · go_enter Try.func49, Try.ntmps49
    go_wp2
    go_ret
    refine ⟨congrArg Ending.returned (congrArg (Value.int IntKind.i64) ?_), rfl⟩
    have l := Lib.bitLen_le8' x h0 hs
    have e := Lib.len8_of x h0 hs
    rw [e]; unfold wrap64
    omega
  by_cases hs2 : x ≤ 65535
  · have hs' : 256 ≤ x := by omega
    have q0 : 0 ≤ x / 256 := by omega
    have q1 : x / 256 ≤ 255 := by omega
    go_enter Try.func49, Try.ntmps49
    go_wp2
    go_ret
    refine ⟨congrArg Ending.returned (congrArg (Value.int IntKind.i64) ?_), rfl⟩
    have l := Lib.bitLen_le8' (x / 256) q0 q1
    have e := Lib.len8_of (x / 256) q0 q1
    have s := Lib.bitLen_shift8 x.toNat (by omega) (by omega)
    have t : (x / 256).toNat = x.toNat / 256 := by omega
    rw [t] at e l
    rw [e, s]; unfold wrap64
    omega
  by_cases hs3 : x ≤ 16777215
  · have hs' : 65536 ≤ x := by omega
    have q0 : 0 ≤ x / 65536 := by omega
    have q1 : x / 65536 ≤ 255 := by omega
    go_enter Try.func49, Try.ntmps49
    go_wp2
    go_ret
    refine ⟨congrArg Ending.returned (congrArg (Value.int IntKind.i64) ?_), rfl⟩
    have l := Lib.bitLen_le8' (x / 65536) q0 q1
    have e := Lib.len8_of (x / 65536) q0 q1
    have s := Lib.bitLen_shift16 x.toNat (by omega) (by omega)
    have t : (x / 65536).toNat = x.toNat / 65536 := by omega
    rw [t] at e l
    rw [e, s]; unfold wrap64
    omega
  · have hs' : 16777216 ≤ x := by omega
    have q0 : 0 ≤ x / 65536 / 256 := by omega
    have q1 : x / 65536 / 256 ≤ 255 := by omega
    have q2 : 256 ≤ x / 65536 := by omega
    go_enter Try.func49, Try.ntmps49
    go_wp2
    go_ret
    refine ⟨congrArg Ending.returned (congrArg (Value.int IntKind.i64) ?_), rfl⟩
    have l := Lib.bitLen_le8' (x / 65536 / 256) q0 q1
    have e := Lib.len8_of (x / 65536 / 256) q0 q1
    have s := Lib.bitLen_shift24 x.toNat (by omega) (by omega)
    have t : (x / 65536 / 256).toNat = x.toNat / 16777216 := by omega
    rw [t] at e l
    rw [e, s]
    generalize Lib.bitLen (x.toNat / 16777216) = b at l
    clear s e t q0 q1 q2 hs' hs3 hs2 hs h0 h1
    unfold wrap64
    omega
theorem bitLen_32 {x : Int} (h1 : x ≤ 4294967295) : (Lib.bitLen x.toNat : Int) ≤ 32 := by
  have := Lib.bitLen_le x.toNat 32 (by omega) (by omega)
  omega
theorem Zeros_c (x : Int) (w : World) (h0 : 0 ≤ x) (h1 : x ≤ 4294967295) :
    Calls Try.prog 28 #[.int .u32 x] w fun e w' => e = .returned (.int .u32 (sZeros x)) ∧ w = w' := by
  have hl := bitLen_32 h1
  go_enter Try.func28, Try.ntmps28
  go_wp2_with (first | (go_at_call 44; go_in) | (go_at_call 49; refine (Len32_c _ _ h0 h1).mono ?_; rintro e w' ⟨rfl, rfl⟩))
  go_ret
  exact ⟨ret_int rfl, rfl⟩
theorem below_drewN' {B : Nat} {a w : World} (h : Below B a w) (n : Nat) : Below B a (w.drewN n) := ⟨h.os, h.tape, h.output, h.size, h.block⟩
theorem Below.of_drewN {w w' : World} {n : Nat} (h : Below (w.drewN n).heap.size (w.drewN n) w') : Below w.heap.size w w' := ⟨h.os, h.tape, h.output, h.size, h.block⟩
theorem cases32 {k : Nat} (h : k ≤ 31) : k = 0 ∨ k = 1 ∨ k = 2 ∨ k = 3 ∨ k = 4 ∨ k = 5 ∨ k = 6 ∨ k = 7 ∨ k = 8 ∨ k = 9 ∨ k = 10 ∨ k = 11 ∨ k = 12 ∨ k = 13 ∨ k = 14 ∨ k = 15 ∨ k = 16 ∨ k = 17 ∨ k = 18 ∨ k = 19 ∨ k = 20 ∨ k = 21 ∨ k = 22 ∨ k = 23 ∨ k = 24 ∨ k = 25 ∨ k = 26 ∨ k = 27 ∨ k = 28 ∨ k = 29 ∨ k = 30 ∨ k = 31 := by omega
theorem shifts_core (v : Int) (k : Nat) (h0 : 0 ≤ v) (h1 : v ≤ 4294967295) (hk : k ≤ 31) :
    v * 2 ^ k % 4294967296 / 2 ^ k = v % 2 ^ (32 - k) ∧ (wrap32 v / 2 ^ k % 4294967296) % 2 ^ (32 - k) = (v / 2 ^ k) % 2 ^ (32 - k) ∧
    (v < 2147483648 → wrap32 v / 2 ^ k % 4294967296 = v / 2 ^ k) ∧
    (2147483648 ≤ v → (wrap32 v / 2 ^ k % 4294967296) / 2 ^ (32 - k) * 2 ^ (32 - k) + (2 ^ (32 - k) - 1) = 4294967295) ∧
    0 ≤ v / 2 ^ k ∧ v / 2 ^ k ≤ 4294967295 ∧ 0 ≤ v * 2 ^ k % 4294967296 / 2 ^ k := by
  unfold wrap32
  rcases cases32 hk with rfl | rfl | rfl | rfl | rfl | rfl | rfl | rfl | rfl | rfl | rfl | rfl | rfl | rfl | rfl | rfl | rfl | rfl | rfl | rfl | rfl | rfl | rfl | rfl | rfl | rfl | rfl | rfl | rfl | rfl | rfl | rfl <;> (simp only [Int.reducePow, Nat.reduceSub]; omega)
theorem or_mask (m : Nat) (hm : m ≤ 32) {v : Int} (h0 : 0 ≤ v) (h1 : v ≤ 4294967295) : bits .or .u32 v (2 ^ m - 1) = v / 2 ^ m * 2 ^ m + (2 ^ m - 1) := by
  have hp : (2 ^ m : Nat) ≤ 2 ^ 32 := Nat.pow_le_pow_right (by omega) hm
  have hq : 1 ≤ (2 ^ m : Nat) := Nat.one_le_two_pow
  have e : ((2 : Int) ^ m) = ((2 ^ m : Nat) : Int) := by simp
  rw [e, u32_or v _ h0 (by omega) (by omega) (by omega)]
  have e1 : (((2 ^ m : Nat) : Int) - 1).toNat = 2 ^ m - 1 := by omega
  rw [e1]
  have e2 : v.toNat ||| (2 ^ m - 1) = (v.toNat / 2 ^ m * 2 ^ m) + (2 ^ m - 1) := by
    rw [← nat_join m (v.toNat / 2 ^ m * 2 ^ m) (2 ^ m - 1) (Nat.mul_mod_left _ _) (by omega)]
    apply Nat.eq_of_testBit_eq
    intro i
    simp only [Nat.testBit_or, Nat.testBit_two_pow_sub_one, Nat.testBit_mul_two_pow, Nat.testBit_div_two_pow]
    by_cases hi : i < m
    · simp [hi]
    · have h' : i - m + m = i := by omega
      simp [hi, h', show m ≤ i by omega]
  rw [e2, Int.natCast_add, Int.natCast_mul, Int.natCast_ediv, Int.toNat_of_nonneg h0]
  omega
theorem shifts_facts (v n : Int) (h0 : 0 ≤ v) (h1 : v ≤ 4294967295) (g0 : 0 ≤ n) (g1 : n ≤ 4294967295) (low : Int) (hlow : low = 2 ^ (32 - (n % 32).toNat) - 1) :
    (sShr (sShl v n) n == bits .and .u32 v low) = true ∧ (sShl v n == sShl v ((n + 32) % 4294967296)) = true ∧ (sShr v n == sShr v (n % 32)) = true ∧
    (bits .and .u32 (sSar v n) low == bits .and .u32 (sShr v n) low) = true ∧ (v / 2147483648 = 1 ∨ (sSar v n == sShr v n) = true) ∧ (v / 2147483648 = 0 ∨ (bits .or .u32 (sSar v n) low == 4294967295) = true) := by
  subst hlow
  have hk : (n % 32).toNat ≤ 31 := by omega
  have hk2 : ((n + 32) % 4294967296 % 32).toNat = (n % 32).toNat := by omega
  have hk3 : (n % 32 % 32).toNat = (n % 32).toNat := by omega
  obtain ⟨c1, c2, c3, c4, c5, c6, c7⟩ := shifts_core v _ h0 h1 hk
  unfold sShr sShl sSar
  rw [hk2, hk3]
  refine ⟨?_, by simp, by simp, ?_, ?_, ?_⟩
  · rw [beq_iff_eq, and_mask _ (by omega) h0 h1, c1]
  · rw [beq_iff_eq, and_mask _ (by omega) (by omega) (by omega), and_mask _ (by omega) c5 c6, c2]
  · by_cases hv : v < 2147483648
    · right; rw [beq_iff_eq, c3 hv]
    · left; omega
  · by_cases hv : v < 2147483648
    · left; omega
    · right; rw [beq_iff_eq, or_mask _ (by omega) (by omega) (by omega), c4 (by omega)]
theorem and31_eq {n : Int} (h0 : 0 ≤ n) (h1 : n ≤ 4294967295) : bits .and .u32 n 31 = n % 32 := and31 h0 h1
theorem Ones_c (x : Int) (w : World) (h0 : 0 ≤ x) (h1 : x ≤ 4294967295) :
    Calls Try.prog 29 #[.int .u32 x] w fun e w' => e = .returned (.int .u32 (sZeros (bits .xor .u32 IntKind.u32.max x))) ∧ w = w' := by
  have hx : 0 ≤ bits .xor .u32 IntKind.u32.max x ∧ bits .xor .u32 IntKind.u32.max x ≤ 4294967295 := bounds_u32 (wf_bits _ _ _ _)
  obtain ⟨x0, x1⟩ := hx
  go_enter Try.func29, Try.ntmps29
  go_wp2_with (go_at_call 28; refine (Zeros_c _ _ x0 x1).mono ?_; rintro e w' ⟨rfl, rfl⟩)
  go_ret
  exact ⟨rfl, rfl⟩
theorem wrap_sum {a b : Int} (h1 : -9223372036854775808 ≤ a) (h2 : a ≤ 9223372036854775807) (h3 : 1 ≤ b) (h4 : b ≤ 9223372036854775807) (h : a.tmod b < 0) : wrap64 (a.tmod b + b) = a % b := by
  have e := Int.emod_eq_of_lt (a := a.tmod b + b) (b := b) (by have := Int.lt_tmod_of_pos a (show 0 < b by omega); omega) (by omega)
  rw [Int.add_emod_right] at e
  have e2 : a.tmod b % b = a % b := by rw [Int.tmod_def, Int.sub_mul_emod_self_left]
  have := Int.lt_tmod_of_pos a (show 0 < b by omega)
  unfold wrap64
  omega
theorem tmod_nn {a b : Int} (h3 : 1 ≤ b) (h : 0 ≤ a.tmod b) : a.tmod b = a % b := by
  have e := Int.emod_eq_of_lt (a := a.tmod b) (b := b) h (Int.tmod_lt_of_pos a (by omega))
  have e2 : a.tmod b % b = a % b := by rw [Int.tmod_def, Int.sub_mul_emod_self_left]
  omega
theorem shr_bd (v n : Int) (h0 : 0 ≤ v) (h1 : v ≤ 4294967295) : 0 ≤ sShr v n ∧ sShr v n ≤ 4294967295 := by
  obtain ⟨_, _, _, _, c5, c6, _⟩ := shifts_core v (n % 32).toNat h0 h1 (by omega)
  exact ⟨c5, c6⟩
theorem parted {q : Int} {A B : Prop} (h5 : q = 1 ∨ A) (h6 : q = 0 ∨ B) (g0 : 0 ≤ q) (g1 : q ≤ 1) :
    ((q == 1) = true ∧ (q == 0) = false ∧ B) ∨ ((q == 1) = false ∧ (q == 0) = true ∧ A) := by
  by_cases hq : q = 1
  · subst hq
    exact Or.inl ⟨rfl, rfl, h6.resolve_left (by omega)⟩
  · obtain rfl : q = 0 := by omega
    exact Or.inr ⟨rfl, rfl, h5.resolve_left (by omega)⟩
theorem field_low (w : Int) (k : Int) (h0 : 0 ≤ k) (h1 : k ≤ 32) : sField w 0 k = w % 2 ^ k.toNat := by
  unfold sField
  rw [show (max 0 (min 0 31) : Int).toNat = 0 from rfl, show (max 0 (min k (32 - max 0 (min 0 31)))) = k by omega]
  simp
theorem field_high (w : Int) (k : Int) (h0 : 1 ≤ k) (h1 : k ≤ 31) : sField w k (32 - k) = w / 2 ^ k.toNat % 2 ^ (32 - k).toNat := by
  unfold sField
  rw [show (max 0 (min k 31) : Int) = k by omega, show (max 0 (min (32 - k) (32 - k)) : Int) = 32 - k by omega]
theorem pow_range (m : Nat) (hm : m ≤ 32) : 1 ≤ (2 : Int) ^ m ∧ (2 : Int) ^ m ≤ 4294967296 := by
  have h1 := Nat.pow_le_pow_right (n := 2) (by omega) hm
  have h2 := Nat.one_le_two_pow (n := m)
  have e : (2 : Int) ^ m = ((2 ^ m : Nat) : Int) := by simp
  rw [e]; omega
theorem fields_join (w : Int) (k : Int) (w0 : 0 ≤ w) (w1 : w ≤ 4294967295) (h0 : 1 ≤ k) (h1 : k ≤ 31) :
    ((sField w 0 k + sField w k (32 - k) * 2 ^ k.toNat) % 4294967296 == w) = true := by
  rw [beq_iff_eq, field_low _ _ (by omega) (by omega), field_high _ _ h0 h1]
  obtain ⟨p0, p1⟩ := pow_range k.toNat (by omega)
  obtain ⟨q0, q1⟩ := pow_range (32 - k).toNat (by omega)
  have hj : (2 : Int) ^ k.toNat * 2 ^ (32 - k).toNat = 4294967296 := by
    rw [← Int.pow_add, show k.toNat + (32 - k).toNat = 32 by omega]; rfl
  have hd := Int.mul_ediv_add_emod w (2 ^ k.toNat)
  have hlt : w / 2 ^ k.toNat < 2 ^ (32 - k).toNat := by
    apply Int.ediv_lt_of_lt_mul (by omega)
    rw [Int.mul_comm, hj]; omega
  have hge : 0 ≤ w / 2 ^ k.toNat := Int.ediv_nonneg w0 (by omega)
  have hm := Int.emod_nonneg w (show (2 : Int) ^ k.toNat ≠ 0 by omega)
  rw [Int.emod_eq_of_lt hge hlt, Int.mul_comm]
  omega
theorem sext_core (w : Int) (j : Nat) (h0 : 0 ≤ w) (h1 : w ≤ 4294967295) (hj : j ≤ 31) :
    (wrap32 (w * 2 ^ j % 4294967296) / 2 ^ j % 4294967296) % 2 ^ (32 - j) = w % 2 ^ (32 - j) ∧
    wrap32 ((wrap32 (w * 2 ^ j % 4294967296) / 2 ^ j % 4294967296) * 2 ^ j % 4294967296) / 2 ^ j % 4294967296 = wrap32 (w * 2 ^ j % 4294967296) / 2 ^ j % 4294967296 := by
  unfold wrap32
  rcases cases32 hj with rfl | rfl | rfl | rfl | rfl | rfl | rfl | rfl | rfl | rfl | rfl | rfl | rfl | rfl | rfl | rfl | rfl | rfl | rfl | rfl | rfl | rfl | rfl | rfl | rfl | rfl | rfl | rfl | rfl | rfl | rfl | rfl <;> (simp only [Int.reducePow, Nat.reduceSub]; omega)
theorem sext_facts (w m : Int) (h0 : 0 ≤ w) (h1 : w ≤ 4294967295) (m0 : 1 ≤ m) (m1 : m ≤ 32) :
    (sField (sSext w m) 0 m == sField w 0 m) = true ∧ (sSext (sSext w m) m == sSext w m) = true := by
  have hj : (32 - m).toNat ≤ 31 := by omega
  obtain ⟨c1, c2⟩ := sext_core w _ h0 h1 hj
  have hm : max 1 (min m 32) = m := by omega
  have he : 32 - (32 - m).toNat = m.toNat := by omega
  rw [he] at c1
  refine ⟨?_, ?_⟩
  · rw [beq_iff_eq, field_low _ _ (by omega) (by omega), field_low _ _ (by omega) (by omega)]
    unfold sSext
    rw [hm, c1]
  · rw [beq_iff_eq]
    unfold sSext
    rw [hm, c2]
theorem sext_bd (w m : Int) : 0 ≤ sSext w m ∧ sSext w m ≤ 4294967295 := by unfold sSext; omega
theorem zeros_bd (w : Int) (h1 : w ≤ 4294967295) : 0 ≤ sZeros w ∧ sZeros w ≤ 32 := by
  have := bitLen_32 h1
  unfold sZeros; omega
theorem bitLen_zero_iff (x : Nat) (h : x < 18446744073709551616) : Lib.bitLen x = 0 ↔ x = 0 := by
  constructor
  · intro hh
    by_cases hx : x = 0
    · exact hx
    · have := Lib.bitLen_half x hx h
      omega
  · rintro rfl; rfl
theorem zeros_eq (w : Int) (h0 : 0 ≤ w) (h1 : w ≤ 4294967295) : ((w == 0) == (sZeros w == 32)) = true := by
  rw [beq_iff_eq, Bool.eq_iff_iff, beq_iff_eq, beq_iff_eq]
  have := bitLen_zero_iff w.toNat (by omega)
  unfold sZeros
  omega
theorem rAddOver_c (a b : Int) (w : World) :
    Calls Try.prog 41 #[.int .u32 a, .int .u32 b] w fun e w' => e = .returned (.tuple #[.int .u32 ((a + b) % 4294967296), .bool (sAddOv a b)]) ∧ w = w' := by
  obtain ⟨p0, p1⟩ := wrap32_bd a
  obtain ⟨q0, q1⟩ := wrap32_bd b
  by_cases h1 : wrap32 a + wrap32 b < -2147483648
  · go_enter Try.func41, Try.ntmps41
    go_wp2
    go_ret2
    exact ⟨ret_ib rfl (by unfold sAddOv; symm; rw [decide_eq_true_eq]; exact Or.inl h1), rfl⟩
  · by_cases h2 : wrap32 a + wrap32 b < 2147483648
    · go_enter Try.func41, Try.ntmps41
      go_wp2
      go_ret2
      exact ⟨ret_ib rfl (by unfold sAddOv; symm; rw [decide_eq_false_iff_not]; omega), rfl⟩
    · go_enter Try.func41, Try.ntmps41
      go_wp2
      go_ret2
      exact ⟨ret_ib rfl (by unfold sAddOv; symm; rw [decide_eq_true_eq]; omega), rfl⟩
theorem rSubOver_c (a b : Int) (w : World) :
    Calls Try.prog 42 #[.int .u32 a, .int .u32 b] w fun e w' => e = .returned (.tuple #[.int .u32 ((a - b) % 4294967296), .bool (sSubOv a b)]) ∧ w = w' := by
  obtain ⟨p0, p1⟩ := wrap32_bd a
  obtain ⟨q0, q1⟩ := wrap32_bd b
  by_cases h1 : wrap32 a - wrap32 b < -2147483648
  · go_enter Try.func42, Try.ntmps42
    go_wp2
    go_ret2
    exact ⟨ret_ib rfl (by unfold sSubOv; symm; rw [decide_eq_true_eq]; exact Or.inl h1), rfl⟩
  · by_cases h2 : wrap32 a - wrap32 b < 2147483648
    · go_enter Try.func42, Try.ntmps42
      go_wp2
      go_ret2
      exact ⟨ret_ib rfl (by unfold sSubOv; symm; rw [decide_eq_false_iff_not]; omega), rfl⟩
    · go_enter Try.func42, Try.ntmps42
      go_wp2
      go_ret2
      exact ⟨ret_ib rfl (by unfold sSubOv; symm; rw [decide_eq_true_eq]; omega), rfl⟩
theorem rMul_c (a b : Int) (s : Bool) (w : World) (ha : 0 ≤ a) (ha' : a ≤ 4294967295) (hb : 0 ≤ b) (hb' : b ≤ 4294967295) :
    Calls Try.prog 33 #[.int .u32 a, .int .u32 b, .bool s] w fun e w' => e = .returned (.tuple #[.int .u32 (sMulHi a b s), .int .u32 (sMulLo a b)]) ∧ w = w' := by
  obtain ⟨p0, p1⟩ := mul_bd ha ha' hb hb'
  cases s
  · go_enter Try.func33, Try.ntmps33
    go_wp2
    go_ret2
    exact ⟨ret_ii (b := sMulHi a b false) (d := sMulLo a b) rfl rfl, rfl⟩
  · have b1 := wrap32_bd a
    have b2 := wrap32_bd b
    obtain ⟨q0, q1⟩ := mul_abs b1.1 b1.2 b2.1 b2.2
    go_enter Try.func33, Try.ntmps33
    go_wp2
    go_ret2
    refine ⟨ret_ii (b := sMulHi a b true) (d := sMulLo a b) ?_ ?_, rfl⟩
    · rw [IntKind.wrap_u64, mul_hi]; rfl
    · rw [IntKind.wrap_u64]; unfold sMulLo; rw [← mul_lo]; omega
theorem rDiv_c (a b : Int) (s : Bool) (w : World) (ha : 0 ≤ a) (ha' : a ≤ 4294967295) (hb : 0 ≤ b) (hb' : b ≤ 4294967295) :
    Calls Try.prog 43 #[.int .u32 a, .int .u32 b, .bool s] w fun e w' => e = .returned (.tuple #[.int .u32 (sQuo a b s), .int .u32 (sRem a b s)]) ∧ ∃ n, w.drewN n = w' := by
  by_cases hz : b = 0
  · subst hz
    go_enter Try.func43, Try.ntmps43
    go_wp2
    go_ret2
    exact ⟨ret_ii (b := sQuo a 0 s) (d := sRem a 0 s) rfl rfl, 0, rfl⟩
  · have hz' : (b == 0) = false := beq_eq_false_iff_ne.mpr hz
    cases s
    · go_enter Try.func43, Try.ntmps43
      go_wp2
      go_quiet (fail)
      go_wp2
      go_ret2
      refine ⟨ret_ii (b := sQuo a b false) (d := sRem a b false) ?_ ?_, _, rfl⟩
      · unfold sQuo; rw [if_neg hz]; rfl
      · unfold sRem; rw [if_neg hz]; rfl
    · have b1 := wrap32_bd a
      have b2 := wrap32_bd b
      have hy : ¬ wrap32 b = 0 := by unfold wrap32; omega
      have hy' : (wrap32 b == 0) = false := beq_eq_false_iff_ne.mpr hy
      have bd := tdiv_bd (y := wrap32 b) b1.1 b1.2
      go_enter Try.func43, Try.ntmps43
      go_wp2
      go_quiet (fail)
      go_wp2
      go_ret2
      refine ⟨ret_ii (b := sQuo a b true) (d := sRem a b true) ?_ ?_, _, rfl⟩
      · unfold sQuo; rw [if_neg hz]; rfl
      · unfold sRem; rw [if_neg hz]; rfl
theorem rField_c (v a n : Int) (w : World) (h0 : 0 ≤ v) (h1 : v ≤ 4294967295) :
    Calls Try.prog 45 #[.int .u32 v, .int .i64 a, .int .i64 n] w fun e w' => e = .returned (.int .u32 (sField v a n)) ∧ w = w' := by
  have b1 : 0 ≤ min (max a 0) 31 := by omega
  have b2 : min (max a 0) 31 ≤ 31 := by omega
  have b3 : 0 ≤ min (max n 0) (32 - min (max a 0) 31) := by omega
  have b4 : min (max n 0) (32 - min (max a 0) 31) ≤ 32 := by omega
  have HF : Hid (sField v a n = v / 2 ^ (min (max a 0) 31).toNat % 2 ^ (min (max n 0) (32 - min (max a 0) 31)).toNat) := by
    unfold Hid sField
    rw [show max 0 (min a 31) = min (max a 0) 31 by omega, show max 0 (min n (32 - min (max a 0) 31)) = min (max n 0) (32 - min (max a 0) 31) by omega]
  go_enter Try.func45, Try.ntmps45
  go_wp2
  go_ret
  refine ⟨ret_int ?_, rfl⟩
  rw [HF.out]
  generalize (min (max n 0) (32 - min (max a 0) 31)) = m at b3 b4
  generalize (min (max a 0) 31) = k at b1 b2
  obtain ⟨t0, t⟩ := pow_range m.toNat (by omega)
  have d0 : 0 ≤ v / 2 ^ k.toNat := Int.ediv_nonneg h0 (by exact Int.le_of_lt (Int.pow_pos (by omega)))
  have d1 : v / 2 ^ k.toNat ≤ v := Int.ediv_le_self _ h0
  rw [IntKind.wrap_u64, IntKind.wrap_u64]
  rw [show ((2 : Int) ^ m.toNat % 18446744073709551616 - 1) % 18446744073709551616 = 2 ^ m.toNat - 1 by omega]
  rw [and_mask64 _ (by omega) d0 (by omega)]
  have m0 : 0 ≤ v / 2 ^ k.toNat % 2 ^ m.toNat := Int.emod_nonneg _ (by omega)
  have m1 : v / 2 ^ k.toNat % 2 ^ m.toNat < 2 ^ m.toNat := Int.emod_lt_of_pos _ (by omega)
  omega
theorem rSext_c (v n : Int) (w : World) :
    Calls Try.prog 46 #[.int .u32 v, .int .i64 n] w fun e w' => e = .returned (.int .u32 (sSext v n)) ∧ w = w' := by
  have HF : Hid (max 1 (min n 32) = min (max n 1) 32) := by unfold Hid; omega
  have b1 : 1 ≤ min (max n 1) 32 := by omega
  have b2 : min (max n 1) 32 ≤ 32 := by omega
  go_enter Try.func46, Try.ntmps46
  go_wp2
  go_ret
  refine ⟨ret_int ?_, rfl⟩
  unfold sSext
  rw [HF.out]
theorem rSar_c (v n : Int) (w : World) (h0 : 0 ≤ n) (h1 : n ≤ 4294967295) :
    Calls Try.prog 10 #[.int .u32 v, .int .u32 n] w fun e w' => e = .returned (.int .u32 (sSar v n)) ∧ w = w' := by
  have H := Lib.hid (and31 h0 h1)
  have H0 : 0 ≤ bits .and .u32 n 31 := by rw [H.out]; omega
  have H1 : bits .and .u32 n 31 ≤ 31 := by rw [H.out]; omega
  go_enter Try.func10, Try.ntmps10
  go_wp2
  go_ret
  refine ⟨ret_int ?_, rfl⟩
  unfold sSar
  rw [H.out]
theorem bitLen_lt (k : Nat) : ∀ x : Nat, k ≤ 64 → Lib.bitLen x ≤ k → x < 18446744073709551616 → x < 2 ^ k := by
  induction k with
  | zero => intro x _ h hx; have := (bitLen_zero_iff x hx).1 (by omega); subst this; decide
  | succ k ih =>
    intro x hk h hx
    by_cases h0 : x = 0
    · subst h0; exact Nat.two_pow_pos _
    · have := Lib.bitLen_half x h0 hx
      have := ih (x / 2) (by omega) (by omega) (by omega)
      rw [Nat.pow_succ]; omega
theorem zeros_test (v : Int) (h0 : 0 ≤ v) (h1 : v ≤ 4294967295) (n : Nat) (hn : n ≤ 31) : (v / 2 ^ (31 - n) = 0) ↔ ((n : Int) + 1 ≤ sZeros v) := by
  have hp := pow_range (31 - n) (by omega)
  have e : (2 : Int) ^ (31 - n) = ((2 ^ (31 - n) : Nat) : Int) := by simp
  unfold sZeros
  have key : v.toNat < 2 ^ (31 - n) ↔ Lib.bitLen v.toNat ≤ 31 - n := ⟨Lib.bitLen_le _ _ (by omega), fun h => bitLen_lt _ _ (by omega) h (by omega)⟩
  have hlt : (v / 2 ^ (31 - n) = 0) ↔ v < 2 ^ (31 - n) := by
    constructor
    · intro h
      have := Int.lt_mul_ediv_self_add (x := v) (k := (2 : Int) ^ (31 - n)) (by omega)
      rw [h] at this; omega
    · intro h; exact Int.ediv_eq_zero_of_lt h0 h
  rw [hlt, e]
  omega
theorem rZeros_c (v : Int) (w : World) (h0 : 0 ≤ v) (h1 : v ≤ 4294967295) :
    Calls Try.prog 34 #[.int .u32 v] w fun e w' => e = .returned (.int .u32 (sZeros v)) ∧ w = w' := by
  obtain ⟨z0, z1⟩ := zeros_bd v h1
  go_enter Try.func34, Try.ntmps34
  go_wp2
  go_loop [3] (fun n => ∃ k : Nat, k ≤ 32 ∧ (k : Int) ≤ sZeros v ∧ n = .int .u32 k) (fun n => 32 - (intOf n).toNat)
  case atStart => exact ⟨0, by omega, by omega, rfl⟩
  case round =>
    obtain ⟨k, hk, hz, rfl⟩ := hrel
    by_cases hlt : k < 32
    · have ht := zeros_test v h0 h1 k (by omega)
      have e : ((31 - (k : Int)) % 4294967296).toNat = 31 - k := by omega
      by_cases h : v / 2 ^ (31 - k) = 0
      · have hh := Lib.hid (ht.1 h)
        have g : (v / 2 ^ (31 - k) == 0) = true := beq_iff_eq.mpr h
        clear ht h
        go_wp2
        go_round
        case rel => exact ⟨k + 1, by omega, by have := hh.out; omega, by go_num⟩
        case measure => simp [intOf]; omega
      · have g : (v / 2 ^ (31 - k) == 0) = false := beq_eq_false_iff_ne.mpr h
        have he : Hid ((k : Int) = sZeros v) := by
          have hn := mt ht.2 h
          unfold Hid; omega
        clear ht h
        go_wp2
        go_ret
        exact ⟨ret_int he.out, rfl⟩
    · have he : Hid ((k : Int) = sZeros v) := by unfold Hid; omega
      go_wp2
      go_ret
      exact ⟨ret_int he.out, rfl⟩
theorem rOnes_c (x : Int) (w : World) (h0 : 0 ≤ x) (h1 : x ≤ 4294967295) :
    Calls Try.prog 35 #[.int .u32 x] w fun e w' => e = .returned (.int .u32 (sZeros (bits .xor .u32 IntKind.u32.max x))) ∧ w = w' := by
  have hx : 0 ≤ bits .xor .u32 IntKind.u32.max x ∧ bits .xor .u32 IntKind.u32.max x ≤ 4294967295 := bounds_u32 (wf_bits _ _ _ _)
  obtain ⟨x0, x1⟩ := hx
  go_enter Try.func35, Try.ntmps35
  go_wp2_with (go_at_call 34; refine (rZeros_c _ _ x0 x1).mono ?_; rintro e w' ⟨rfl, rfl⟩)
  go_ret
  exact ⟨rfl, rfl⟩
end Go.Proofs.Ytpnkgmmaanpgiaa
