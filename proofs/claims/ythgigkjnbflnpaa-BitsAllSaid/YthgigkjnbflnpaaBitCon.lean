/- What the functions of package bits answer, each as a contract over this program. -/
import Derived.Test.YthgigkjnbflnpaaProg
import Derived.Test.YthgigkjnbflnpaaBitFacts
import Derived.WalkKit
import Derived.Lib.Hide
import Derived.Lib.Walk
import Derived.Lib.Small
import Derived.Lib.Strings
import Derived.Lib.Slices
import Derived.Deep.QuietTactic
import Derived.BigQuiet
import Derived.KernelRfl
namespace Go.Proofs.Ythgigkjnbflnpaa
open Go.RowKit
set_option linter.unusedVariables false
theorem ret_int {k : IntKind} {a b : Int} (h : a = b) : Ending.returned (.int k a) = .returned (.int k b) := by rw [h]
theorem ret_ib {k : IntKind} {a b : Int} {c d : Bool} (h : a = b) (h' : c = d) : Ending.returned (.tuple #[.int k a, .bool c]) = .returned (.tuple #[.int k b, .bool d]) := by rw [h, h']
theorem ret_ii {k : IntKind} {a b c d : Int} (h : a = b) (h' : c = d) : Ending.returned (.tuple #[.int k a, .int k c]) = .returned (.tuple #[.int k b, .int k d]) := by rw [h, h']
theorem Shr_c (v n : Int) (w : World) (h0 : 0 ≤ n) (h1 : n ≤ 4294967295) :
    Calls Try.prog 9 #[.int .u32 v, .int .u32 n] w fun e w' => e = .returned (.int .u32 (sShr v n)) ∧ w = w' := by
  have H := Lib.hid (and31 h0 h1)
  have H0 : 0 ≤ bits .and .u32 n 31 := by rw [H.out]; omega
  have H1 : bits .and .u32 n 31 ≤ 31 := by rw [H.out]; omega
  go_enter Try.func9, Try.ntmps9
  go_wp2
  go_ret
  refine ⟨ret_int ?_, rfl⟩
  unfold sShr
  rw [H.out]
theorem Shl_c (v n : Int) (w : World) (h0 : 0 ≤ n) (h1 : n ≤ 4294967295) :
    Calls Try.prog 10 #[.int .u32 v, .int .u32 n] w fun e w' => e = .returned (.int .u32 (sShl v n)) ∧ w = w' := by
  have H := Lib.hid (and31 h0 h1)
  have H0 : 0 ≤ bits .and .u32 n 31 := by rw [H.out]; omega
  have H1 : bits .and .u32 n 31 ≤ 31 := by rw [H.out]; omega
  go_enter Try.func10, Try.ntmps10
  go_wp2
  go_ret
  refine ⟨ret_int ?_, rfl⟩
  unfold sShl
  rw [H.out]
theorem Sar_c (v n : Int) (w : World) (h0 : 0 ≤ n) (h1 : n ≤ 4294967295) :
    Calls Try.prog 11 #[.int .u32 v, .int .u32 n] w fun e w' => e = .returned (.int .u32 (sSar v n)) ∧ w = w' := by
  have H := Lib.hid (and31 h0 h1)
  have H0 : 0 ≤ bits .and .u32 n 31 := by rw [H.out]; omega
  have H1 : bits .and .u32 n 31 ≤ 31 := by rw [H.out]; omega
  go_enter Try.func11, Try.ntmps11
  go_wp2
  go_ret
  refine ⟨ret_int ?_, rfl⟩
  unfold sSar
  rw [H.out]
theorem AddOver_c (a b : Int) (w : World) (ha : 0 ≤ a) (ha' : a ≤ 4294967295) (hb : 0 ≤ b) (hb' : b ≤ 4294967295) :
    Calls Try.prog 13 #[.int .u32 a, .int .u32 b] w fun e w' => e = .returned (.tuple #[.int .u32 ((a + b) % 4294967296), .bool (sAddOv a b)]) ∧ w = w' := by
  have H := Lib.hid (add_over ha ha' hb hb')
  go_enter Try.func13, Try.ntmps13
  go_wp2
  go_ret2
  exact ⟨ret_ib rfl H.out, rfl⟩
theorem SubOver_c (a b : Int) (w : World) (ha : 0 ≤ a) (ha' : a ≤ 4294967295) (hb : 0 ≤ b) (hb' : b ≤ 4294967295) :
    Calls Try.prog 14 #[.int .u32 a, .int .u32 b] w fun e w' => e = .returned (.tuple #[.int .u32 ((a - b) % 4294967296), .bool (sSubOv a b)]) ∧ w = w' := by
  have H := Lib.hid (sub_over ha ha' hb hb')
  go_enter Try.func14, Try.ntmps14
  go_wp2
  go_ret2
  exact ⟨ret_ib rfl H.out, rfl⟩
theorem Sext_c (v n : Int) (w : World) :
    Calls Try.prog 15 #[.int .u32 v, .int .i64 n] w fun e w' => e = .returned (.int .u32 (sSext v n)) ∧ w = w' := by
  go_enter Try.func15, Try.ntmps15
  go_wp2
  go_ret
  exact ⟨ret_int rfl, rfl⟩
theorem mul_lo {a b : Int} : wrap32 a * wrap32 b % 4294967296 = a * b % 4294967296 := by
  have h1 : wrap32 a % 4294967296 = a % 4294967296 := by unfold wrap32; omega
  have h2 : wrap32 b % 4294967296 = b % 4294967296 := by unfold wrap32; omega
  rw [Int.mul_emod, h1, h2, ← Int.mul_emod]
theorem mul_bd {a b : Int} (ha : 0 ≤ a) (ha' : a ≤ 4294967295) (hb : 0 ≤ b) (hb' : b ≤ 4294967295) : 0 ≤ a * b ∧ a * b ≤ 18446744065119617025 := by
  refine ⟨Int.mul_nonneg ha hb, ?_⟩
  have := Int.mul_le_mul ha' hb' hb (by omega : (0 : Int) ≤ 4294967295)
  simpa using this
theorem mul_hi {p : Int} : p % 18446744073709551616 / 4294967296 % 4294967296 = p / 4294967296 % 4294967296 := by omega
theorem mul_abs {x y : Int} (h1 : -2147483648 ≤ x) (h2 : x ≤ 2147483647) (h3 : -2147483648 ≤ y) (h4 : y ≤ 2147483647) : -4611686018427387904 ≤ x * y ∧ x * y ≤ 4611686018427387904 := by
  have hx : x.natAbs ≤ 2147483648 := by omega
  have hy : y.natAbs ≤ 2147483648 := by omega
  have h := Nat.mul_le_mul hx hy
  rw [← Int.natAbs_mul] at h
  omega
theorem wrap32_bd (a : Int) : -2147483648 ≤ wrap32 a ∧ wrap32 a ≤ 2147483647 := by unfold wrap32; omega
theorem Mul_c (a b : Int) (s : Bool) (w : World) (ha : 0 ≤ a) (ha' : a ≤ 4294967295) (hb : 0 ≤ b) (hb' : b ≤ 4294967295) :
    Calls Try.prog 20 #[.int .u32 a, .int .u32 b, .bool s] w fun e w' => e = .returned (.tuple #[.int .u32 (sMulHi a b s), .int .u32 (sMulLo a b)]) ∧ w = w' := by
  obtain ⟨p0, p1⟩ := mul_bd ha ha' hb hb'
  cases s
  · go_enter Try.func20, Try.ntmps20
    go_wp2
    go_ret2
    exact ⟨ret_ii (b := sMulHi a b false) (d := sMulLo a b) rfl rfl, rfl⟩
  · have b1 := wrap32_bd a
    have b2 := wrap32_bd b
    obtain ⟨q0, q1⟩ := mul_abs b1.1 b1.2 b2.1 b2.2
    go_enter Try.func20, Try.ntmps20
    go_wp2
    go_ret2
    refine ⟨ret_ii (b := sMulHi a b true) (d := sMulLo a b) ?_ ?_, rfl⟩
    · rw [IntKind.wrap_u64, mul_hi]; rfl
    · rw [IntKind.wrap_u64]; unfold sMulLo; rw [← mul_lo]; omega
theorem Field_c (v a n : Int) (w : World) (h0 : 0 ≤ v) (h1 : v ≤ 4294967295) :
    Calls Try.prog 17 #[.int .u32 v, .int .i64 a, .int .i64 n] w fun e w' => e = .returned (.int .u32 (sField v a n)) ∧ ∃ n, w.drewN n = w' := by
  obtain ⟨i, hi, hi'⟩ : ∃ i : Nat, (i : Int) = max 0 (min a 31) ∧ i ≤ 31 := ⟨(max 0 (min a 31)).toNat, by omega, by omega⟩
  have hi0 := Lib.hid hi
  have b1 : 0 ≤ max 0 (min a 31) := by omega
  have b2 : max 0 (min a 31) ≤ 31 := by omega
  have b3 : 0 ≤ max 0 (min n (32 - max 0 (min a 31))) := by omega
  have b4 : max 0 (min n (32 - max 0 (min a 31))) ≤ 32 := by omega
  clear hi
  go_enter Try.func17, Try.ntmps17
  go_wp2
  go_quiet (fail)
  go_wp2
  go_ret
  refine ⟨ret_int (b := sField v a n) ?_, _, rfl⟩
  have t : (2 : Int) ^ (max 0 (min n (32 - max 0 (min a 31)))).toNat ≤ 4294967296 := by
    have := Nat.pow_le_pow_right (n := 2) (by omega) (show (max 0 (min n (32 - max 0 (min a 31)))).toNat ≤ 32 by omega)
    have e : (2 : Int) ^ (max 0 (min n (32 - max 0 (min a 31)))).toNat = ((2 ^ (max 0 (min n (32 - max 0 (min a 31)))).toNat : Nat) : Int) := by simp
    rw [e]; omega
  have t0 : 1 ≤ (2 : Int) ^ (max 0 (min n (32 - max 0 (min a 31)))).toNat := by
    have := Nat.one_le_two_pow (n := (max 0 (min n (32 - max 0 (min a 31)))).toNat)
    have e : (2 : Int) ^ (max 0 (min n (32 - max 0 (min a 31)))).toNat = ((2 ^ (max 0 (min n (32 - max 0 (min a 31)))).toNat : Nat) : Int) := by simp
    rw [e]; omega
  have d0 : 0 ≤ v / 2 ^ (max 0 (min a 31)).toNat := Int.ediv_nonneg h0 (by exact Int.le_of_lt (Int.pow_pos (by omega)))
  have d1 : v / 2 ^ (max 0 (min a 31)).toNat ≤ v := Int.ediv_le_self _ h0
  rw [IntKind.wrap_u64, IntKind.wrap_u64]
  rw [show ((2 : Int) ^ (max 0 (min n (32 - max 0 (min a 31)))).toNat % 18446744073709551616 - 1) % 18446744073709551616 = 2 ^ (max 0 (min n (32 - max 0 (min a 31)))).toNat - 1 by omega]
  rw [and_mask64 _ (by omega) d0 (by omega)]
  unfold sField
  have m0 : 0 ≤ v / 2 ^ (max 0 (min a 31)).toNat % 2 ^ (max 0 (min n (32 - max 0 (min a 31)))).toNat := Int.emod_nonneg _ (by omega)
  have m1 : v / 2 ^ (max 0 (min a 31)).toNat % 2 ^ (max 0 (min n (32 - max 0 (min a 31)))).toNat < 2 ^ (max 0 (min n (32 - max 0 (min a 31)))).toNat := Int.emod_lt_of_pos _ (by omega)
  omega
theorem tdiv_bd {x y : Int} (hx : -2147483648 ≤ x) (hx' : x ≤ 2147483647) : -2147483648 ≤ Int.tdiv x y ∧ Int.tdiv x y ≤ 2147483648 := by
  have h : (Int.tdiv x y).natAbs = x.natAbs / y.natAbs := Int.natAbs_tdiv x y
  have h2 : x.natAbs / y.natAbs ≤ x.natAbs := Nat.div_le_self _ _
  rw [← h] at h2
  omega
theorem Div_c (a b : Int) (s : Bool) (w : World) (ha : 0 ≤ a) (ha' : a ≤ 4294967295) (hb : 0 ≤ b) (hb' : b ≤ 4294967295) :
    Calls Try.prog 21 #[.int .u32 a, .int .u32 b, .bool s] w fun e w' => e = .returned (.tuple #[.int .u32 (sQuo a b s), .int .u32 (sRem a b s)]) ∧ ∃ n, w.drewN n = w' := by
  by_cases hz : b = 0
  · subst hz
    go_enter Try.func21, Try.ntmps21
    go_wp2
    go_ret2
    exact ⟨ret_ii (b := sQuo a 0 s) (d := sRem a 0 s) rfl rfl, 0, rfl⟩
  · have hz' : (b == 0) = false := beq_eq_false_iff_ne.mpr hz
    cases s
    · go_enter Try.func21, Try.ntmps21
      go_wp2
      go_quiet (fail)
      go_wp2
      go_ret2
      refine ⟨ret_ii (b := sQuo a b false) (d := sRem a b false) ?_ ?_, _, rfl⟩
      · unfold sQuo; rw [if_neg hz]; rfl
      · unfold sRem; rw [if_neg hz]; rfl
    · have b1 := wrap32_bd a
      have b2 := wrap32_bd b
      have hy : ¬ wrap32 b = 0 := by unfold wrap32; omega
      have hy' : (wrap32 b == 0) = false := beq_eq_false_iff_ne.mpr hy
      have bd := tdiv_bd (y := wrap32 b) b1.1 b1.2
      go_enter Try.func21, Try.ntmps21
      go_wp2
      go_quiet (fail)
      go_wp2
      go_ret2
      refine ⟨ret_ii (b := sQuo a b true) (d := sRem a b true) ?_ ?_, _, rfl⟩
      · unfold sQuo; rw [if_neg hz]; rfl
      · unfold sRem; rw [if_neg hz]; rfl
set_option maxRecDepth 100000 in
theorem Len32_c (x : Int) (w : World) (h0 : 0 ≤ x) (h1 : x ≤ 4294967295) :
    Calls Try.prog 38 #[.int .u32 x] w fun e w' => e = .returned (.int .i64 (Lib.bitLen x.toNat)) ∧ w = w' := by
  by_cases hs : x ≤ 255
  · go_enter Try.func38, Try.ntmps38
    go_wp2
    go_ret
    refine ⟨congrArg Ending.returned (congrArg (Value.int IntKind.i64) ?_), rfl⟩
    have l := Lib.bitLen_le8' x h0 hs
    have e := Lib.len8_of x h0 hs
    rw [e]; unfold wrap64
    omega
  by_cases hs2 : x ≤ 65535
  · have hs' : 256 ≤ x := by omega
    have q0 : 0 ≤ x / 256 := by omega
    have q1 : x / 256 ≤ 255 := by omega
    go_enter Try.func38, Try.ntmps38
    go_wp2
    go_ret
    refine ⟨congrArg Ending.returned (congrArg (Value.int IntKind.i64) ?_), rfl⟩
    have l := Lib.bitLen_le8' (x / 256) q0 q1
    have e := Lib.len8_of (x / 256) q0 q1
    have s := Lib.bitLen_shift8 x.toNat (by omega) (by omega)
    have t : (x / 256).toNat = x.toNat / 256 := by omega
    rw [t] at e l
    rw [e, s]; unfold wrap64
    omega
  by_cases hs3 : x ≤ 16777215
  · have hs' : 65536 ≤ x := by omega
    have q0 : 0 ≤ x / 65536 := by omega
    have q1 : x / 65536 ≤ 255 := by omega
    go_enter Try.func38, Try.ntmps38
    go_wp2
    go_ret
    refine ⟨congrArg Ending.returned (congrArg (Value.int IntKind.i64) ?_), rfl⟩
    have l := Lib.bitLen_le8' (x / 65536) q0 q1
    have e := Lib.len8_of (x / 65536) q0 q1
    have s := Lib.bitLen_shift16 x.toNat (by omega) (by omega)
    have t : (x / 65536).toNat = x.toNat / 65536 := by omega
    rw [t] at e l
    rw [e, s]; unfold wrap64
    omega
  · have hs' : 16777216 ≤ x := by omega
    have q0 : 0 ≤ x / 65536 / 256 := by omega
    have q1 : x / 65536 / 256 ≤ 255 := by omega
    have q2 : 256 ≤ x / 65536 := by omega
    go_enter Try.func38, Try.ntmps38
    go_wp2
    go_ret
    refine ⟨congrArg Ending.returned (congrArg (Value.int IntKind.i64) ?_), rfl⟩
    have l := Lib.bitLen_le8' (x / 65536 / 256) q0 q1
    have e := Lib.len8_of (x / 65536 / 256) q0 q1
    have s := Lib.bitLen_shift24 x.toNat (by omega) (by omega)
    have t : (x / 65536 / 256).toNat = x.toNat / 16777216 := by omega
    rw [t] at e l
    rw [e, s]
    generalize Lib.bitLen (x.toNat / 16777216) = b at l
    clear s e t q0 q1 q2 hs' hs3 hs2 hs h0 h1
    unfold wrap64
    omega
theorem bitLen_32 {x : Int} (h1 : x ≤ 4294967295) : (Lib.bitLen x.toNat : Int) ≤ 32 := by
  have := Lib.bitLen_le x.toNat 32 (by omega) (by omega)
  omega
theorem Zeros_c (x : Int) (w : World) (h0 : 0 ≤ x) (h1 : x ≤ 4294967295) :
    Calls Try.prog 18 #[.int .u32 x] w fun e w' => e = .returned (.int .u32 (sZeros x)) ∧ w = w' := by
  have hl := bitLen_32 h1
  go_enter Try.func18, Try.ntmps18
  go_wp2_with (first | (go_at_call 35; go_in) | (go_at_call 38; refine (Len32_c _ _ h0 h1).mono ?_; rintro e w' ⟨rfl, rfl⟩))
  go_ret
  exact ⟨ret_int rfl, rfl⟩
end Go.Proofs.Ythgigkjnbflnpaa
