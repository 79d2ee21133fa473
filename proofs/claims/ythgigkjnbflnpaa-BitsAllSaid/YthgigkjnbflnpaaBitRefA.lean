/- What the reference's functions of layer 1 answer: contracts over this program. -/
import Derived.Test.YthgigkjnbflnpaaBitLaws4
namespace Go.Proofs.Ythgigkjnbflnpaa
open Go.RowKit
set_option linter.unusedVariables false
theorem rAddOver_c (a b : Int) (w : World) :
    Calls Try.prog 22 #[.int .u32 a, .int .u32 b] w fun e w' => e = .returned (.tuple #[.int .u32 ((a + b) % 4294967296), .bool (sAddOv a b)]) ∧ w = w' := by
  obtain ⟨p0, p1⟩ := wrap32_bd a
  obtain ⟨q0, q1⟩ := wrap32_bd b
  by_cases h1 : wrap32 a + wrap32 b < -2147483648
  · go_enter Try.func22, Try.ntmps22
    go_wp2
    go_ret2
    exact ⟨ret_ib rfl (by unfold sAddOv; symm; rw [decide_eq_true_eq]; exact Or.inl h1), rfl⟩
  · by_cases h2 : wrap32 a + wrap32 b < 2147483648
    · go_enter Try.func22, Try.ntmps22
      go_wp2
      go_ret2
      exact ⟨ret_ib rfl (by unfold sAddOv; symm; rw [decide_eq_false_iff_not]; omega), rfl⟩
    · go_enter Try.func22, Try.ntmps22
      go_wp2
      go_ret2
      exact ⟨ret_ib rfl (by unfold sAddOv; symm; rw [decide_eq_true_eq]; omega), rfl⟩
theorem rSubOver_c (a b : Int) (w : World) :
    Calls Try.prog 23 #[.int .u32 a, .int .u32 b] w fun e w' => e = .returned (.tuple #[.int .u32 ((a - b) % 4294967296), .bool (sSubOv a b)]) ∧ w = w' := by
  obtain ⟨p0, p1⟩ := wrap32_bd a
  obtain ⟨q0, q1⟩ := wrap32_bd b
  by_cases h1 : wrap32 a - wrap32 b < -2147483648
  · go_enter Try.func23, Try.ntmps23
    go_wp2
    go_ret2
    exact ⟨ret_ib rfl (by unfold sSubOv; symm; rw [decide_eq_true_eq]; exact Or.inl h1), rfl⟩
  · by_cases h2 : wrap32 a - wrap32 b < 2147483648
    · go_enter Try.func23, Try.ntmps23
      go_wp2
      go_ret2
      exact ⟨ret_ib rfl (by unfold sSubOv; symm; rw [decide_eq_false_iff_not]; omega), rfl⟩
    · go_enter Try.func23, Try.ntmps23
      go_wp2
      go_ret2
      exact ⟨ret_ib rfl (by unfold sSubOv; symm; rw [decide_eq_true_eq]; omega), rfl⟩
theorem rMul_c (a b : Int) (s : Bool) (w : World) (ha : 0 ≤ a) (ha' : a ≤ 4294967295) (hb : 0 ≤ b) (hb' : b ≤ 4294967295) :
    Calls Try.prog 24 #[.int .u32 a, .int .u32 b, .bool s] w fun e w' => e = .returned (.tuple #[.int .u32 (sMulHi a b s), .int .u32 (sMulLo a b)]) ∧ w = w' := by
  obtain ⟨p0, p1⟩ := mul_bd ha ha' hb hb'
  cases s
  · go_enter Try.func24, Try.ntmps24
    go_wp2
    go_ret2
    exact ⟨ret_ii (b := sMulHi a b false) (d := sMulLo a b) rfl rfl, rfl⟩
  · have b1 := wrap32_bd a
    have b2 := wrap32_bd b
    obtain ⟨q0, q1⟩ := mul_abs b1.1 b1.2 b2.1 b2.2
    go_enter Try.func24, Try.ntmps24
    go_wp2
    go_ret2
    refine ⟨ret_ii (b := sMulHi a b true) (d := sMulLo a b) ?_ ?_, rfl⟩
    · rw [IntKind.wrap_u64, mul_hi]; rfl
    · rw [IntKind.wrap_u64]; unfold sMulLo; rw [← mul_lo]; omega
theorem rDiv_c (a b : Int) (s : Bool) (w : World) (ha : 0 ≤ a) (ha' : a ≤ 4294967295) (hb : 0 ≤ b) (hb' : b ≤ 4294967295) :
    Calls Try.prog 25 #[.int .u32 a, .int .u32 b, .bool s] w fun e w' => e = .returned (.tuple #[.int .u32 (sQuo a b s), .int .u32 (sRem a b s)]) ∧ ∃ n, w.drewN n = w' := by
  by_cases hz : b = 0
  · subst hz
    go_enter Try.func25, Try.ntmps25
    go_wp2
    go_ret2
    exact ⟨ret_ii (b := sQuo a 0 s) (d := sRem a 0 s) rfl rfl, 0, rfl⟩
  · have hz' : (b == 0) = false := beq_eq_false_iff_ne.mpr hz
    cases s
    · go_enter Try.func25, Try.ntmps25
      go_wp2
      go_quiet (fail)
      go_wp2
      go_ret2
      refine ⟨ret_ii (b := sQuo a b false) (d := sRem a b false) ?_ ?_, _, rfl⟩
      · unfold sQuo; rw [if_neg hz]; rfl
      · unfold sRem; rw [if_neg hz]; rfl
    · have b1 := wrap32_bd a
      have b2 := wrap32_bd b
      have hy : ¬ wrap32 b = 0 := by unfold wrap32; omega
      have hy' : (wrap32 b == 0) = false := beq_eq_false_iff_ne.mpr hy
      have bd := tdiv_bd (y := wrap32 b) b1.1 b1.2
      go_enter Try.func25, Try.ntmps25
      go_wp2
      go_quiet (fail)
      go_wp2
      go_ret2
      refine ⟨ret_ii (b := sQuo a b true) (d := sRem a b true) ?_ ?_, _, rfl⟩
      · unfold sQuo; rw [if_neg hz]; rfl
      · unfold sRem; rw [if_neg hz]; rfl
theorem rField_c (v a n : Int) (w : World) (h0 : 0 ≤ v) (h1 : v ≤ 4294967295) :
    Calls Try.prog 27 #[.int .u32 v, .int .i64 a, .int .i64 n] w fun e w' => e = .returned (.int .u32 (sField v a n)) ∧ w = w' := by
  have b1 : 0 ≤ min (max a 0) 31 := by omega
  have b2 : min (max a 0) 31 ≤ 31 := by omega
  have b3 : 0 ≤ min (max n 0) (32 - min (max a 0) 31) := by omega
  have b4 : min (max n 0) (32 - min (max a 0) 31) ≤ 32 := by omega
  have HF : Hid (sField v a n = v / 2 ^ (min (max a 0) 31).toNat % 2 ^ (min (max n 0) (32 - min (max a 0) 31)).toNat) := by
    unfold Hid sField
    rw [show max 0 (min a 31) = min (max a 0) 31 by omega, show max 0 (min n (32 - min (max a 0) 31)) = min (max n 0) (32 - min (max a 0) 31) by omega]
  go_enter Try.func27, Try.ntmps27
  go_wp2
  go_ret
  refine ⟨ret_int ?_, rfl⟩
  rw [HF.out]
  generalize (min (max n 0) (32 - min (max a 0) 31)) = m at b3 b4
  generalize (min (max a 0) 31) = k at b1 b2
  obtain ⟨t0, t⟩ := pow_range m.toNat (by omega)
  have d0 : 0 ≤ v / 2 ^ k.toNat := Int.ediv_nonneg h0 (by exact Int.le_of_lt (Int.pow_pos (by omega)))
  have d1 : v / 2 ^ k.toNat ≤ v := Int.ediv_le_self _ h0
  rw [IntKind.wrap_u64, IntKind.wrap_u64]
  rw [show ((2 : Int) ^ m.toNat % 18446744073709551616 - 1) % 18446744073709551616 = 2 ^ m.toNat - 1 by omega]
  rw [and_mask64 _ (by omega) d0 (by omega)]
  have m0 : 0 ≤ v / 2 ^ k.toNat % 2 ^ m.toNat := Int.emod_nonneg _ (by omega)
  have m1 : v / 2 ^ k.toNat % 2 ^ m.toNat < 2 ^ m.toNat := Int.emod_lt_of_pos _ (by omega)
  omega
theorem rSext_c (v n : Int) (w : World) :
    Calls Try.prog 28 #[.int .u32 v, .int .i64 n] w fun e w' => e = .returned (.int .u32 (sSext v n)) ∧ w = w' := by
  have HF : Hid (max 1 (min n 32) = min (max n 1) 32) := by unfold Hid; omega
  have b1 : 1 ≤ min (max n 1) 32 := by omega
  have b2 : min (max n 1) 32 ≤ 32 := by omega
  go_enter Try.func28, Try.ntmps28
  go_wp2
  go_ret
  refine ⟨ret_int ?_, rfl⟩
  unfold sSext
  rw [HF.out]
theorem rSar_c (v n : Int) (w : World) (h0 : 0 ≤ n) (h1 : n ≤ 4294967295) :
    Calls Try.prog 29 #[.int .u32 v, .int .u32 n] w fun e w' => e = .returned (.int .u32 (sSar v n)) ∧ w = w' := by
  have H := Lib.hid (and31 h0 h1)
  have H0 : 0 ≤ bits .and .u32 n 31 := by rw [H.out]; omega
  have H1 : bits .and .u32 n 31 ≤ 31 := by rw [H.out]; omega
  go_enter Try.func29, Try.ntmps29
  go_wp2
  go_ret
  refine ⟨ret_int ?_, rfl⟩
  unfold sSar
  rw [H.out]
theorem bitLen_lt (k : Nat) : ∀ x : Nat, k ≤ 64 → Lib.bitLen x ≤ k → x < 18446744073709551616 → x < 2 ^ k := by
  induction k with
  | zero => intro x _ h hx; have := (bitLen_zero_iff x hx).1 (by omega); subst this; decide
  | succ k ih =>
    intro x hk h hx
    by_cases h0 : x = 0
    · subst h0; exact Nat.two_pow_pos _
    · have := Lib.bitLen_half x h0 hx
      have := ih (x / 2) (by omega) (by omega) (by omega)
      rw [Nat.pow_succ]; omega
theorem zeros_test (v : Int) (h0 : 0 ≤ v) (h1 : v ≤ 4294967295) (n : Nat) (hn : n ≤ 31) : (v / 2 ^ (31 - n) = 0) ↔ ((n : Int) + 1 ≤ sZeros v) := by
  have hp := pow_range (31 - n) (by omega)
  have e : (2 : Int) ^ (31 - n) = ((2 ^ (31 - n) : Nat) : Int) := by simp
  unfold sZeros
  have key : v.toNat < 2 ^ (31 - n) ↔ Lib.bitLen v.toNat ≤ 31 - n := ⟨Lib.bitLen_le _ _ (by omega), fun h => bitLen_lt _ _ (by omega) h (by omega)⟩
  have hlt : (v / 2 ^ (31 - n) = 0) ↔ v < 2 ^ (31 - n) := by
    constructor
    · intro h
      have := Int.lt_mul_ediv_self_add (x := v) (k := (2 : Int) ^ (31 - n)) (by omega)
      rw [h] at this; omega
    · intro h; exact Int.ediv_eq_zero_of_lt h0 h
  rw [hlt, e]
  omega
theorem rZeros_c (v : Int) (w : World) (h0 : 0 ≤ v) (h1 : v ≤ 4294967295) :
    Calls Try.prog 30 #[.int .u32 v] w fun e w' => e = .returned (.int .u32 (sZeros v)) ∧ w = w' := by
  obtain ⟨z0, z1⟩ := zeros_bd v h1
  go_enter Try.func30, Try.ntmps30
  go_wp2
  go_loop [3] (fun n => ∃ k : Nat, k ≤ 32 ∧ (k : Int) ≤ sZeros v ∧ n = .int .u32 k) (fun n => 32 - (intOf n).toNat)
  case atStart => exact ⟨0, by omega, by omega, rfl⟩
  case round =>
    obtain ⟨k, hk, hz, rfl⟩ := hrel
    by_cases hlt : k < 32
    · have ht := zeros_test v h0 h1 k (by omega)
      have e : ((31 - (k : Int)) % 4294967296).toNat = 31 - k := by omega
      by_cases h : v / 2 ^ (31 - k) = 0
      · have hh := Lib.hid (ht.1 h)
        have g : (v / 2 ^ (31 - k) == 0) = true := beq_iff_eq.mpr h
        clear ht h
        go_wp2
        go_round
        case rel => exact ⟨k + 1, by omega, by have := hh.out; omega, by go_num⟩
        case measure => simp [intOf]; omega
      · have g : (v / 2 ^ (31 - k) == 0) = false := beq_eq_false_iff_ne.mpr h
        have he : Hid ((k : Int) = sZeros v) := by
          have hn := mt ht.2 h
          unfold Hid; omega
        clear ht h
        go_wp2
        go_ret
        exact ⟨ret_int he.out, rfl⟩
    · have he : Hid ((k : Int) = sZeros v) := by unfold Hid; omega
      go_wp2
      go_ret
      exact ⟨ret_int he.out, rfl⟩
theorem rOnes_c (x : Int) (w : World) (h0 : 0 ≤ x) (h1 : x ≤ 4294967295) :
    Calls Try.prog 31 #[.int .u32 x] w fun e w' => e = .returned (.int .u32 (sZeros (bits .xor .u32 IntKind.u32.max x))) ∧ w = w' := by
  have hx : 0 ≤ bits .xor .u32 IntKind.u32.max x ∧ bits .xor .u32 IntKind.u32.max x ≤ 4294967295 := bounds_u32 (wf_bits _ _ _ _)
  obtain ⟨x0, x1⟩ := hx
  go_enter Try.func31, Try.ntmps31
  go_wp2_with (go_at_call 30; refine (rZeros_c _ _ x0 x1).mono ?_; rintro e w' ⟨rfl, rfl⟩)
  go_ret
  exact ⟨rfl, rfl⟩
end Go.Proofs.Ythgigkjnbflnpaa
